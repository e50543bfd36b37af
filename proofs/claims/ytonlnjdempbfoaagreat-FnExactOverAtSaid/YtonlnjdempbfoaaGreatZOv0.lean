/-
  Words for memory: how a list of plain data lies in a slice; a slice of the call's own; what is kept when new memory is made. Plain facts on finite graphs: the c
-/
import Derived.Test.YtonlnjdempbfoaaGreatRows
import Derived.WalkKit
import Derived.Lib.Hide
import Derived.Deep.QuietTactic
import Derived.BigQuiet
import Derived.StillTailTactics
import Derived.Deep.RegionHeld3
import Derived.Maps.AppendAt
import Derived.Deep.AppendLies
import Derived.KernelRfl
import Derived.Shelf.Sort.Plain
import Derived.Shelf.Slices.In.SortNone
import Derived.Test.YtonlnjdempbfoaaGreatProg
import Derived.ProofKit
import Derived.Deep.Slices
namespace Go.Proofs.YtonlnjdempbfoaaGreat
open Go.RowKit
set_option maxRecDepth 100000
set_option maxHeartbeats 4000000
set_option linter.unusedVariables false
set_option linter.unusedSimpArgs false
structure Enc (α:Type) where
 cells:α->List Value
 sz:Nat
 len:∀ x,(cells x).length=sz
 one:∀ x,∀ u∈cells x,u.oneCell'=true
section
variable {α:Type} {e:Enc α} {w w':World} {B B':Nat} {v:Value} {l:List α}
theorem Enc.flat_length (e:Enc α):∀ l:List α,(l.flatMap e.cells).length=l.length * e.sz
 | []=>by simp
 | x :: l=>by rw [List.flatMap_cons,List.length_append,e.len,Enc.flat_length e l,List.length_cons,Nat.succ_mul,Nat.add_comm]
theorem Enc.flat_get (e:Enc α) {j:Nat} (hj:j<e.sz):∀ (l:List α) (k:Nat) (h:k<l.length),(l.flatMap e.cells)[k * e.sz+j]? = (e.cells l[k])[j]?
 | [],k,h=>absurd h (by simp)
 | x :: l,0,_=>by
  rw [List.flatMap_cons,Nat.zero_mul,Nat.zero_add,List.getElem?_append_left (by rw [e.len];exact hj)]
  rfl
 | x :: l,k+1,h=>by
  rw [List.flatMap_cons,List.getElem?_append_right (by rw [e.len,Nat.succ_mul];omega),e.len,
   show (k+1) * e.sz+j - e.sz=k * e.sz+j from by rw [Nat.succ_mul];omega]
  exact Enc.flat_get e hj l k (by simpa using h)
def N5 (xs:List Value) (i:Nat):List Value->List Value
 | []=>xs
 | u :: us=>N5 (xs.set i u) (i+1) us
def E9 (w:World) (g i:Nat):List Value->World
 | []=>w
 | u :: us=>E9 (w.setCell ⟨g,i,none⟩ u) g (i+1) us
theorem N6:∀ (us xs:List Value) (i:Nat),i+us.length<=xs.length->N5 xs i us=xs.take i ++ us ++ xs.drop (i+us.length)
 | [],xs,i,_=>by simp [N5]
 | u :: us,xs,i,h=>by
  simp only [List.length_cons] at h
  rw [N5,N6 us _ _ (by simp;omega)]
  have h1:(xs.set i u).take (i+1)=xs.take i ++ [u]:=by
   rw [List.take_set,List.take_succ_eq_append_getElem (by omega),List.set_append_right _ _ (by simp;omega)]
   simp [show i - min i xs.length=0 from by omega]
  have h2:(xs.set i u).drop (i+1+us.length)=xs.drop (i+(u :: us).length):=by
   rw [List.drop_set_of_lt (by omega)]
   congr 1
   simp;omega
  rw [h1,h2]
  simp
theorem Enc.flat_put (e:Enc α) (x:α):∀ (l:List α) (k:Nat),k<l.length->N5 (l.flatMap e.cells) (k * e.sz) (e.cells x)=(l.set k x).flatMap e.cells:=by
 intro l k hk
 rw [N6 _ _ _ (by
  rw [e.flat_length,e.len]
  have:(k+1) * e.sz<=l.length * e.sz:=Nat.mul_le_mul_right _ hk
  rw [Nat.succ_mul] at this;exact this),e.len]
 have hl:l=l.take k ++ l[k] :: l.drop (k+1):=by
  rw [List.getElem_cons_drop hk,List.take_append_drop]
 have hs:l.set k x=l.take k ++ x :: l.drop (k+1):=by
  rw [List.set_eq_take_append_cons_drop,if_pos hk]
 rw [hs]
 have e1:(l.take k).flatMap e.cells=(l.flatMap e.cells).take (k * e.sz):=by
  conv=>rhs;rw [hl,List.flatMap_append]
  rw [List.take_left' (by rw [e.flat_length,List.length_take,Nat.min_eq_left (Nat.le_of_lt hk)])]
 have e2:(l.drop (k+1)).flatMap e.cells=(l.flatMap e.cells).drop (k * e.sz+e.sz):=by
  conv=>rhs;rw [hl,List.flatMap_append,List.flatMap_cons,<-List.append_assoc]
  rw [List.drop_left' (by rw [List.length_append,e.flat_length,e.len,List.length_take,Nat.min_eq_left (Nat.le_of_lt hk)])]
 rw [List.flatMap_append,List.flatMap_cons,e1,e2,List.append_assoc]
def Rd (e:Enc α) (w:World) (B:Nat) (v:Value) (l:List α):Prop :=
 ∃ A c,v = .slice A l.length c/\l.length<=c/\(0<l.length -> ∃ b o,A=some ⟨b,o,none⟩/\b<B /\
  ∀ (k:Nat) (h:k<l.length) (j:Nat) (u:Value),(e.cells l[k])[j]? = some u->w.cell? ⟨b,o+k * e.sz+j,none⟩=some u)
theorem Rd.keep (h:Rd e w B v l) (hk:∀ p:Addr,p.block<B->w'.cell? p=w.cell? p):Rd e w' B v l:=by
 obtain ⟨A,c,hv,bY,hA⟩:=h
 refine ⟨A,c,hv,bY,fun hl=>?_⟩
 obtain ⟨b,o,hb,aA,hc⟩:=hA hl
 exact ⟨b,o,hb,aA,fun k bH j u hu=>(hk _ aA).trans (hc k bH j u hu)⟩
theorem Rd.more (h:Rd e w B v l) (hB:B<=B'):Rd e w B' v l:=by
 obtain ⟨A,c,hv,bY,hA⟩:=h
 refine ⟨A,c,hv,bY,fun hl=>?_⟩
 obtain ⟨b,o,hb,aA,hc⟩:=hA hl
 exact ⟨b,o,hb,by omega,hc⟩
theorem Rd.below (h:Rd e w B v l) (hb:Below B w w'):Rd e w' B v l:=h.keep fun _ hp=>hb.cell hp
def Ow (e:Enc α) (E:TypeId) (w:World) (base:Nat) (v:Value) (l:List α):Prop:=w.ownsRow base E e.sz v l.length (l.flatMap e.cells)
theorem Ow.nil (e:Enc α) (E:TypeId) (w:World) (base:Nat):Ow e E w base (.slice none 0 0) []:=World.ownsRow_nil w base E e.sz
theorem Ow.form {E:TypeId} {base:Nat} (h:Ow e E w base v l):(v = .slice none 0 0/\l=[]) \/
  ∃ g cap,v = .slice (some ⟨g,0,none⟩) l.length cap/\base<=g/\g<w.heap.size/\l.length<=cap/\cap<=maxLen/\(∀ j,w.frozen? ⟨g,j,none⟩=false) /\
   ∀ (k:Nat) (h:k<l.length) (j:Nat) (u:Value),(e.cells l[k])[j]? = some u->w.cell? ⟨g,k * e.sz+j,none⟩=some u:=by
 have h0:=h
 rcases h.2 with ⟨hv,hn⟩ | ⟨g,cap,cur,hv,hg,hh,hc,hm,_,_⟩
 ·exact .inl ⟨hv,List.eq_nil_of_length_eq_zero hn⟩
 ·subst hv
  refine .inr ⟨g,cap,rfl,hg,(h.lt g rfl).2,hc,hm,fun j=>World.ownsRow.frozenAt h j,fun k hk j u hu=>?_⟩
  have hj:j<e.sz:=by
   have:=(List.getElem?_eq_some_iff.1 hu).1
   rw [e.len] at this;exact this
  have aA:k * e.sz+j<l.length * e.sz:=by
   have:(k+1) * e.sz<=l.length * e.sz:=Nat.mul_le_mul_right _ hk
   rw [Nat.succ_mul] at this;omega
  rw [World.ownsRow.cellAt h _ aA,e.flat_get hj l k hk]
  exact hu
theorem Ow.free {E:TypeId} {base g n cap:Nat} (h:Ow e E w base (.slice (some ⟨g,0,none⟩) n cap) l) (j:Nat):w.frozen? ⟨g,j,none⟩=false:=by
 rcases h.form with ⟨h1,_⟩ | ⟨g',cap',hv,_,_,_,_,hf,_⟩
 ·simp at h1
 ·simp only [Value.slice.injEq,Option.some.injEq,Addr.mk.injEq,and_true] at hv
  obtain ⟨rfl,_,_⟩:=hv
  exact hf j
theorem Ow.blk {E:TypeId} {base g n cap:Nat} (h:Ow e E w base (.slice (some ⟨g,0,none⟩) n cap) l):base<=g/\g<w.heap.size:=by
 rcases h.form with ⟨h1,_⟩ | ⟨g',cap',hv,hb,hg,_⟩
 ·simp at h1
 ·simp only [Value.slice.injEq,Option.some.injEq,Addr.mk.injEq,and_true] at hv
  obtain ⟨rfl,_,_⟩:=hv
  exact ⟨hb,hg⟩
theorem Rd.of_own {E:TypeId} {base:Nat} (h:Ow e E w base v l):Rd e w w.heap.size v l:=by
 rcases h.form with ⟨rfl,rfl⟩ | ⟨g,cap,rfl,_,aA,bY,_,_,hc⟩
 ·exact ⟨none,0,rfl,Nat.le_refl _,fun h=>absurd h (by simp)⟩
 ·exact ⟨_,cap,rfl,bY,fun _=>⟨g,0,rfl,aA,fun k hk j u hu=>by rw [Nat.zero_add];exact hc k hk j u hu⟩⟩
theorem Rd.take {A:Option Addr} {n c k:Nat} (h:Rd e w B (.slice A n c) l) (hk:k<=l.length) (c':Nat) (hc':k<=c'):Rd e w B (.slice A k c') (l.take k):=by
 obtain ⟨A',c0,hv,_,hA⟩:=h
 simp only [Value.slice.injEq] at hv
 obtain ⟨rfl,rfl,rfl⟩:=hv
 refine ⟨A,c',by rw [List.length_take,Nat.min_eq_left hk],by rw [List.length_take,Nat.min_eq_left hk];exact hc',fun hl=>?_⟩
 rw [List.length_take,Nat.min_eq_left hk] at hl
 obtain ⟨b,o,hb,aA,hc⟩:=hA (by omega)
 refine ⟨b,o,hb,aA,fun i hi j u hu=>?_⟩
 rw [List.length_take,Nat.min_eq_left hk] at hi
 rw [List.getElem_take] at hu
 exact hc i (by omega) j u hu
theorem Rd.cap {A:Option Addr} {n c:Nat} (h:Rd e w B (.slice A n c) l):l.length<=c:=by
 obtain ⟨A',c0,hv,hc,_⟩:=h
 simp only [Value.slice.injEq] at hv
 rw [hv.2.2]
 exact hc
theorem Rd.nil (e:Enc α) (w:World) (B c:Nat):Rd e w B (.slice none 0 c) []:=⟨none,c,rfl,Nat.zero_le _,fun h=>absurd h (by simp)⟩
theorem Ow.snoc {E:TypeId} {base:Nat} {x:α} (h:w.ownsRow base E e.sz v (l.length+1) (l.flatMap e.cells ++ e.cells x)):Ow e E w base v (l ++ [x]):=by
 unfold Ow
 rw [List.length_append,List.length_singleton,List.flatMap_append,List.flatMap_singleton]
 exact h
theorem Ow.below {E:TypeId} {base:Nat} (h:Ow e E w base v l) (hb:Below w.heap.size w w'):Ow e E w' base v l:=by
 refine World.ownsRow.kept (row:=none) h ⟨hb.os,hb.tape,hb.output,hb.size,fun k hk _=>hb.block k hk⟩ ?_
 cases hv:v.ownBlock with
 | none=>exact .inl rfl
 | some g=>exact .inr (by simp)
theorem Ow.more {E:TypeId} {base base':Nat} (h:Ow e E w base v l) (hb:base'<=base):Ow e E w base' v l:=by
 obtain ⟨h1,h2⟩:=h
 refine ⟨h1,?_⟩
 rcases h2 with h2 | ⟨g,cap,cur,hv,hg,r⟩
 ·exact .inl h2
 ·exact .inr ⟨g,cap,cur,hv,by omega,r⟩
end
theorem Qj {E:TypeId} {sz base g cap:Nat} (n:Nat):∀ (us xs:List Value) (w:World) (i:Nat),w.ownsRow base E sz (.slice (some ⟨g,0,none⟩) n cap) n xs ->
  (E9 w g i us).ownsRow base E sz (.slice (some ⟨g,0,none⟩) n cap) n (N5 xs i us)/\w.grownBy (E9 w g i us) (some g)
 | [],xs,w,i,h=>⟨h,World.grownBy.refl w _⟩
 | u :: us,xs,w,i,h=>by
  have h1:=World.ownsRow.stored h i u
  have h2:=Qj n us _ _ (i+1) h1.1
  exact ⟨h2.1,h1.2.trans h2.2⟩
theorem Ow.put {α:Type} {e:Enc α} {E:TypeId} {w:World} {base g cap n:Nat} {l:List α} (h:Ow e E w base (.slice (some ⟨g,0,none⟩) n cap) l) (hn:l.length=n) (k:Nat) (hk:k<n) (x:α) :
  Ow e E (E9 w g (k * e.sz) (e.cells x)) base (.slice (some ⟨g,0,none⟩) n cap) (l.set k x)/\w.grownBy (E9 w g (k * e.sz) (e.cells x)) (some g):=by
 subst hn
 have:=Qj (cap:=cap) l.length (e.cells x) _ w (k * e.sz) h
 rw [e.flat_put x l k hk] at this
 unfold Ow
 rw [List.length_set]
 exact this
theorem Qk {α:Type} (e:Enc α) (x:α) (n:Nat) (bE:0<e.sz):(madeCells (e.cells x).toArray (n * e.sz)).toList=(List.replicate n x).flatMap e.cells:=by
 apply List.ext_getElem?
 intro i
 by_cases hi:i<n * e.sz
 ·have hk:i / e.sz<n:=Nat.div_lt_of_lt_mul (by rw [Nat.mul_comm];exact hi)
  have hj:i % e.sz<e.sz:=Nat.mod_lt _ bE
  have qK:i / e.sz * e.sz+i % e.sz=i:=by rw [Nat.mul_comm];exact Nat.div_add_mod _ _
  have h1:=e.flat_get hj (List.replicate n x) (i / e.sz) (by simpa using hk)
  rw [qK] at h1
  rw [h1]
  have hl:i % e.sz<(e.cells x).length:=by rw [e.len];exact hj
  have hz:0<(e.cells x).length:=by rw [e.len];exact bE
  simp [madeCells,hi,e.len,hj]
 ·rw [List.getElem?_eq_none (by simp [madeCells];omega),List.getElem?_eq_none (by rw [e.flat_length];simp;omega)]
theorem Ow.made {α:Type} (e:Enc α) (E:TypeId) (w:World) (x:α) (n:Nat) (bE:0<e.sz) (hn:n<=maxLen) {z:Array Value} (hz:z=(e.cells x).toArray) {m:Nat} (hm:m=n * e.sz) :
  Ow e E (w.alloc (.cells (madeCells z m) E)) w.heap.size (.slice (some ⟨w.heap.size,0,none⟩) n n) (List.replicate n x):=by
 subst hz;subst hm
 have:=World.ownsRow_lit (base:=w.heap.size) (e:=E) (size:=e.sz) w (madeCells (e.cells x).toArray (n * e.sz)) n (Nat.le_refl _) hn (size_madeCells _ _)
 rw [Qk e x n bE] at this
 unfold Ow
 rw [List.length_replicate]
 exact this
theorem Ow.ne_ {α β:Type} {e:Enc α} {e':Enc β} {E E':TypeId} {w:World} {base base':Nat} {v v':Value} {l:List α} {l':List β} (h:Ow e E w base v l) (h':Ow e' E' w base' v' l') (aC:E≠E') :
  v.ownBlock=none\/v.ownBlock≠v'.ownBlock:=by
 rcases h.2 with ⟨rfl,_⟩ | ⟨g,cap,cur,rfl,_,hh,_⟩
 ·exact .inl rfl
 ·rcases h'.2 with ⟨rfl,_⟩ | ⟨g',cap',cur',rfl,_,hh',_⟩
  ·exact .inr (by simp [Value.ownBlock])
  ·refine .inr (fun he=>?_)
   have:g=g':=by simpa [Value.ownBlock] using he
   subst this
   rw [hh] at hh'
   injection hh' with hh'
   injection hh' with _ ht
   exact aC ht
theorem Ow.grown {α:Type} {e:Enc α} {E:TypeId} {w w':World} {base:Nat} {v:Value} {l:List α} {row:Option Nat} (h:Ow e E w base v l) (hg:w.grownBy w' row) (aC:v.ownBlock=none\/v.ownBlock≠row):Ow e E w' base v l :=
 World.ownsRow.kept h hg aC
theorem Nd (w:World) (cs:Array Value) (T:TypeId) {g:Nat} (hg:g=w.heap.size):∀ j u,cs.toList[j]? = some u->(w.alloc (.cells cs T)).cell? ((⟨g,0,none⟩:Addr).add j)=some u:=by
 subst hg
 intro j u hu
 have h:(w.alloc (.cells cs T)).cell? ⟨w.heap.size,j,none⟩=cs[j]?:=cell_of_row _ _ j cs T (0,0) (heap_alloc_new w _)
 have e:((⟨w.heap.size,0,none⟩:Addr).add j)=⟨w.heap.size,j,none⟩:=by
  unfold Addr.add
  split<;>simp_all
 rw [e,h]
 simpa using hu
theorem Iu {α:Type} {P:Program} {ops:Array Oper} {rest:List Oper} {o:Oper} {a:Act} {Q:Exit->Act->World->Prop} {w:World} (e:Enc α) (bE:0<e.sz) {base:Nat} {E t:TypeId} {i:TypeInfo} {z:Value} {bytes:Nat}
  (cV:o.guard=none) (s x:Operand) (ho:o.op = .call { callee:=.builtin .append,args:=#[s,x],argTypes:=#[t,t] })
  (ht:P.underlying t=some (.slice E)) (hi:P.info? E=some i) (hz:i.zero=some z) (bW:i.size=e.sz) (cK:i.bytes=bytes) (hzs:z.cells.size=e.sz)
  {v:Value} {l:List α} (y:α) (hs:a.eval s=v) (hown:Ow e E w base v l) (ad:Addr) (c:Nat) (hx:a.eval x = .slice (some ad) 1 c) (hnews:∀ j u,(e.cells y)[j]? = some u->w.cell? (ad.add j)=some u)
  (aJ:l.length<=3000000) (hbytes:bytes<=10000) (aS:base<=w.heap.size)
  (h:∀ v' w',Ow e E w' base v' (l ++ [y])->w.grownBy w' v.ownBlock->wpList P ops Q rest (a.put o.dst v') w'):wpList P ops Q (o :: rest) a w:=by
 refine wpList_append_own w cV s x t ho base E i z e.sz bytes ht hi hz bW cK hzs bE v l.length (l.flatMap e.cells) hs hown ad 1 c (e.cells y) hx (by rw [e.len,Nat.one_mul]) hnews (e.one y) (by simp [maxLen];omega) ?_ aS ?_
 ·have h1:(l.length+1) * bytes<=3000001 * 10000:=Nat.mul_le_mul (by omega) hbytes
  omega
 ·intro v' w' h1 h2 _
  exact h v' w' (Ow.snoc h1) h2
def Fz:Enc Int:={ cells:=fun x=>[.int .i64 x],sz:=1,len:=fun _=>rfl,one:=fun _ u hu=>by simp at hu;subst hu;rfl }
theorem K0 {W w1:World} (hb:Below W.heap.size W w1):(∀ b o,b<W.heap.size->w1.cell? ⟨b,o,none⟩=W.cell? ⟨b,o,none⟩)/\(∀ b o,b<W.heap.size->w1.frozen? ⟨b,o,none⟩=W.frozen? ⟨b,o,none⟩) :=
 ⟨fun b o h=>hb.cell (p:=⟨b,o,none⟩) h,fun b o h=>hb.frozen (p:=⟨b,o,none⟩) h⟩
theorem Aa {w w1 w2:World} (h:Below w.heap.size w w1) (k:Below w1.heap.size w1 w2):Below w.heap.size w w2:=h.trans (k.mono h.size)
theorem Ao {B:Nat} {a w:World} (h:Below B a w) (n:Nat):Below B a (w.drewN n):=⟨h.os,h.tape,h.output,h.size,h.block⟩
def Um (left:Int) (n:Nat) (w:World) (e:Ending) (w':World):Prop:=∃ r:Int,e = .returned (.int .i64 r)/\(r = -1\/(0<=r/\r+n<=left))/\Below w.heap.size w w'
theorem Bw {k:IntKind} {a b:Int} (h:a=b):Ending.returned (.int k a) = .returned (.int k b):=by rw [h]
theorem Ac {a b:Bool} (h:a=b):Ending.returned (.bool a) = .returned (.bool b):=by rw [h]
theorem Ay {α:Type} (l:List α) (k:Nat) (h:k<l.length):l.take (k+1)=l.take k ++ [l[k]]:=by
 rw [List.take_succ_eq_append_getElem h]
/-! A region that draws its order,whose operations only read old memory and whose callees only make new memory and hand back values that do not depend on it: one walk serves. -/
def Hn (w:World):Type:={ u:World // Below w.heap.size w u }
instance (w:World):Nonempty (Hn w):=⟨⟨w,Below.refl _ _⟩⟩
theorem Ad {P:Program} {id:Nat} {Q:Exit->Act->World->Prop} {a:Act} {w:World} {l:List Oper} (hm:P.follows .mixedOrders=true) (hB:Region.lexB .any l.toArray=true)
  (h:wpQuiet P l.toArray (fun w'=>∃ u:Hn w,w'=u.1) (fun a'=>∀ w',(∃ u:Hn w,w'=u.1)->Q .normal a' w') l a):(Code.region id l.toArray true).wp P Q a w :=
 wp_region_quiet (C:=fun w'=>∃ u:Hn w,w'=u.1) hm hB ⟨⟨w.drew,(Below.refl _ _).drew⟩,rfl⟩ (by simpa using h)
theorem Bk (w:World):∀ (u:Hn w) (b o:Nat),b<w.heap.size->(u.1).cell? ⟨b,o,none⟩=w.cell? ⟨b,o,none⟩:=fun u b o h=>u.2.cell (p:=⟨b,o,none⟩) h
theorem Dg {P:Program} {f:FuncId} {args:Array Value} {w:World} {u:Hn w} {v:Value}
  (h:Calls P f args u.1 fun e w'=>e = .returned v/\Below u.1.heap.size u.1 w'):Calls P f args u.1 fun e w''=>e = .returned v /\ ∃ u':Hn w,w''=u'.1 :=
 h.mono fun _ _ ⟨he,hb⟩=>⟨he,⟨_,Aa u.2 hb⟩,rfl⟩
theorem Gu {P:Program} {f:FuncId} {args:Array Value} {w:World} {u:Hn w} {v:Value}
  (h:∀ u:Hn w,Calls P f args u.1 fun e w'=>e = .returned v/\Below u.1.heap.size u.1 w'):Calls P f args u.1 fun e w''=>e = .returned v /\ ∃ u':Hn w,w''=u'.1 :=
 (h u).mono fun _ _ ⟨he,hb⟩=>⟨he,⟨_,Aa u.2 hb⟩,rfl⟩
theorem Bv {P:Program} {f:FuncId} {args:Array Value} {w:World} {u:Hn w} {v:Value}
  (h:∀ u:Hn w,Calls P f args u.1 fun e w'=>e = .returned v/\u.1=w'):Calls P f args u.1 fun e w''=>e = .returned v /\ ∃ u':Hn w,w''=u'.1 :=
 (h u).mono fun _ _ ⟨he,hb⟩=>⟨he,u,hb.symm⟩
end Go.Proofs.YtonlnjdempbfoaaGreat
namespace Go.Proofs.YtonlnjdempbfoaaGreat.Pg
inductive Way (es:List (Nat×Nat)):Nat->List Nat->Nat->Prop
 | nil (a:Nat):Way es a [] a
 | cons {a c b:Nat} {l:List Nat} : (a,c)∈es->Way es c l b->Way es a (c :: l) b
def Reach (es:List (Nat×Nat)) (a b:Nat):Prop:=∃ l,l≠[]/\Way es a l b
theorem Way.split {es:List (Nat×Nat)} {x b:Nat} {l2:List Nat} : ∀ {a:Nat} (l1:List Nat),Way es a (l1 ++ x :: l2) b->Way es x l2 b
 | _,[],h=>by cases h with | cons _ h=>exact h
 | _,_ :: l1,h=>by cases h with | cons _ h=>exact Way.split l1 h
theorem Way.snoc {es:List (Nat×Nat)} {b c:Nat} : ∀ {a:Nat} {l:List Nat},Way es a l b->(b,c)∈es->Way es a (l ++ [c]) c
 | _,_,.nil _,he=>.cons he (.nil _)
 | _,_,.cons h1 h2,he=>.cons h1 (h2.snoc he)
theorem Way.simple {es:List (Nat×Nat)} {b:Nat} : ∀ (l:List Nat) {a c:Nat},Way es a (c :: l) b -> ∃ l',Way es a (c :: l') b/\(c :: l').Nodup
 | [],_,_,h=>⟨[],h,by simp⟩
 | d :: l,a,c,h=>by
  cases h with
  | cons h1 h2 =>
   obtain ⟨l',hw,hn⟩:=Way.simple l h2
   by_cases hc:c∈d :: l'
   ·obtain ⟨l1,l2,he⟩:=List.append_of_mem hc
    rw [he] at hw hn
    refine ⟨l2,.cons h1 (hw.split l1),?_⟩
    exact (List.nodup_append.1 hn).2.1
   ·exact ⟨d :: l',.cons h1 hw,List.nodup_cons.2 ⟨hc,hn⟩⟩
theorem Ql:∀ (T:Nat) (l:List Nat),l.Nodup->(∀ x∈l,x<T)->l.length<=T
 | 0,l,_,h=>by
  cases l with
  | nil=>simp
  | cons a l=>exact absurd (h a (by simp)) (by omega)
 | T+1,l,hn,h=>by
  have h1:=Ql T (l.erase T) (hn.erase T) (fun x hx=>by
   have eE:=(hn.mem_erase_iff).1 hx
   have:=h x eE.2
   have:=eE.1
   omega)
  have h2:l.length<=(l.erase T).length+1:=by
   rw [List.length_erase]
   split<;>omega
  omega
theorem Way.mem {es:List (Nat×Nat)} {b:Nat} {T:Nat} (rX:∀ e∈es,e.2<T):∀ {a:Nat} {l:List Nat},Way es a l b -> ∀ x∈l,x<T
 | _,_,.nil _=>by simp
 | _,_,.cons h1 h2=>by
  intro x hx
  rcases List.mem_cons.1 hx with rfl | hx
  ·exact rX _ h1
  ·exact h2.mem rX x hx
theorem Reach.short {es:List (Nat×Nat)} {a b T:Nat} (rX:∀ e∈es,e.2<T) (h:Reach es a b):∃ l,l≠[]/\l.length<=T/\Way es a l b:=by
 obtain ⟨l,hl,hw⟩:=h
 match l,hl,hw with
 | c :: l,_,hw =>
  obtain ⟨l',mV,hn⟩:=hw.simple l
  exact ⟨c :: l',by simp,Ql T _ hn (mV.mem rX),mV⟩
theorem Reach.one {es:List (Nat×Nat)} {a b:Nat} (h:(a,b)∈es):Reach es a b:=⟨[b],by simp,.cons h (.nil _)⟩
theorem Reach.cons {es:List (Nat×Nat)} {a c b:Nat} (h:(a,c)∈es) (h':Reach es c b):Reach es a b:=by
 obtain ⟨l,_,hw⟩:=h'
 exact ⟨c :: l,by simp,.cons h hw⟩
theorem Reach.snoc {es:List (Nat×Nat)} {a c b:Nat} (h':Reach es a c) (h:(c,b)∈es):Reach es a b:=by
 obtain ⟨l,_,hw⟩:=h'
 exact ⟨l ++ [b],by simp,hw.snoc h⟩
/-! The closure by rounds: o a is a set of nodes,as a number. -/
def Mf (o:List Nat) (e:Nat×Nat):List Nat:=o.set e.1 (o.getD e.1 0 ||| (1 <<< e.2 ||| o.getD e.2 0))
def Ji (es:List (Nat×Nat)) (o:List Nat):List Nat:=es.foldl Mf o
def I2 (es:List (Nat×Nat)):Nat->List Nat->List Nat
 | 0,o=>o
 | k+1,o=>Ji es (I2 es k o)
theorem I4 (o:List Nat) (e:Nat×Nat):(Mf o e).length=o.length:=by simp [Mf]
theorem Sx (es:List (Nat×Nat)):∀ o:List Nat,(Ji es o).length=o.length:=by
 unfold Ji
 induction es with
 | nil=>intro o;rfl
 | cons e es ih=>intro o;rw [List.foldl_cons,ih,I4]
theorem Jj (es:List (Nat×Nat)) (o:List Nat):∀ k,(I2 es k o).length=o.length
 | 0=>rfl
 | k+1=>by rw [I2,Sx,Jj es o k]
theorem Ze (i b:Nat):(1 <<< i).testBit b=decide (i=b):=by
 rw [Nat.shiftLeft_eq,Nat.one_mul,Nat.testBit_two_pow]
theorem N7 (o:List Nat) (e:Nat×Nat) (a:Nat) (h:e.1<o.length) :
  (Mf o e).getD a 0=if a=e.1 then o.getD e.1 0 ||| (1 <<< e.2 ||| o.getD e.2 0) else o.getD a 0:=by
 unfold Mf
 simp only [List.getD_eq_getElem?_getD,List.getElem?_set]
 by_cases ha:a=e.1
 ·subst ha
  simp [h]
 ·rw [if_neg (fun h=>ha h.symm),if_neg ha]
theorem Qm (o:List Nat) (e:Nat×Nat) (a b:Nat) (h:e.1<o.length) (hb:(o.getD a 0).testBit b=true):((Mf o e).getD a 0).testBit b=true:=by
 rw [N7 o e a h]
 split
 ·rename_i ha
  subst ha
  rw [Nat.testBit_or,hb];rfl
 ·exact hb
theorem Vv (es:List (Nat×Nat)):∀ (o:List Nat) (a b:Nat),(∀ e∈es,e.1<o.length)->(o.getD a 0).testBit b=true->((Ji es o).getD a 0).testBit b=true:=by
 unfold Ji
 induction es with
 | nil=>intro o a b _ h;exact h
 | cons e es ih =>
  intro o a b h hb
  rw [List.foldl_cons]
  exact ih _ a b (fun e' he'=>by rw [I4];exact h e' (by simp [he'])) (Qm o e a b (h e (by simp)) hb)
theorem Vw (es:List (Nat×Nat)):∀ (o:List Nat) (a c b:Nat),(∀ e∈es,e.1<o.length)->(a,c)∈es->(c=b\/(o.getD c 0).testBit b=true) ->
  ((Ji es o).getD a 0).testBit b=true:=by
 unfold Ji
 induction es with
 | nil=>intro o a c b _ h;simp at h
 | cons e es ih =>
  intro o a c b h hm hb
  rw [List.foldl_cons]
  have hl:∀ e'∈es,e'.1<(Mf o e).length:=fun e' he'=>by rw [I4];exact h e' (by simp [he'])
  rcases List.mem_cons.1 hm with he | hm
  ·have h0:((Mf o e).getD a 0).testBit b=true:=by
    rw [N7 o e a (h e (by simp)),if_pos (by rw [<-he])]
    rw [Nat.testBit_or,Nat.testBit_or,Ze]
    rcases hb with hb | hb
    ·have:e.2=b:=by rw [<-he];exact hb
     simp [this]
    ·have:e.2=c:=by rw [<-he]
     rw [this,hb];simp
   exact Vv es _ a b hl h0
  ·refine ih _ a c b hl hm ?_
   rcases hb with hb | hb
   ·exact .inl hb
   ·exact .inr (Qm o e c b (h e (by simp)) hb)
theorem Ot (es:List (Nat×Nat)) (o:List Nat) (h:∀ e∈es,e.1<o.length):∀ (k:Nat) (a b:Nat) (l:List Nat),l≠[]->l.length<=k->Way es a l b->((I2 es k o).getD a 0).testBit b=true
 | 0,_,_,l,hl,hk,_=>by
  cases l with
  | nil=>exact absurd rfl hl
  | cons x l=>simp at hk
 | k+1,a,b,l,hl,hk,hw=>by
  cases hw with
  | nil=>exact absurd rfl hl
  | cons h1 h2 =>
   rename_i c l
   rw [I2]
   refine Vw es _ a c b (by rw [Jj];exact h) h1 ?_
   cases l with
   | nil=>cases h2;exact .inl rfl
   | cons d l=>exact .inr (Ot es o h k c b (d :: l) (by simp) (by simp at hk ⊢;omega) h2)
theorem Un (es0 es:List (Nat×Nat)) (dV:∀ e∈es,e∈es0):∀ (o:List Nat),(∀ e∈es,e.1<o.length)->(∀ a b,(o.getD a 0).testBit b=true->Reach es0 a b) ->
  ∀ a b,((Ji es o).getD a 0).testBit b=true->Reach es0 a b:=by
 unfold Ji
 induction es with
 | nil=>intro o _ h;exact h
 | cons e es ih =>
  intro o hl h
  rw [List.foldl_cons]
  refine ih (fun e' he'=>dV e' (by simp [he'])) _ (fun e' he'=>by rw [I4];exact hl e' (by simp [he'])) ?_
  intro a b hb
  rw [N7 o e a (hl e (by simp))] at hb
  split at hb
  ·rename_i ha
   subst ha
   rw [Nat.testBit_or,Nat.testBit_or,Ze] at hb
   simp only [Bool.or_eq_true,decide_eq_true_eq] at hb
   rcases hb with hb | hb | hb
   ·exact h _ _ hb
   ·subst hb;exact .one (dV e (by simp))
   ·exact .cons (dV e (by simp)) (h _ _ hb)
  ·exact h _ _ hb
theorem Mg (es:List (Nat×Nat)) (T:Nat) (hl:∀ e∈es,e.1<T):∀ k a b,((I2 es k (List.replicate T 0)).getD a 0).testBit b=true->Reach es a b
 | 0,a,b,h=>by
  simp [I2,List.getD_eq_getElem?_getD,List.getElem?_replicate] at h
  split at h<;>simp at h
 | k+1,a,b,h=>Un es es (fun _ h=>h) _ (by rw [Jj];simpa using hl) (Mg es T hl k) a b h
theorem Ab8 (es:List (Nat×Nat)) (T:Nat) (h1:∀ e∈es,e.1<T) (h2:∀ e∈es,e.2<T) (a b:Nat) :
  ((I2 es T (List.replicate T 0)).getD a 0).testBit b=true ↔ Reach es a b:=by
 refine ⟨Mg es T h1 T a b,fun h=>?_⟩
 obtain ⟨l,hl,hT,hw⟩:=h.short h2
 exact Ot es _ (by simpa using h1) T a b l hl hT hw
theorem Aa3 (T:Nat) (o:List Nat) (e:Nat×Nat) (h2:e.2<T) (ho:∀ x∈o,x<2 ^ T):∀ x∈Mf o e,x<2 ^ T:=by
 have hg:∀ a,o.getD a 0<2 ^ T:=fun a=>by
  rw [List.getD_eq_getElem?_getD]
  cases h:o[a]? with
  | none=>exact Nat.two_pow_pos T
  | some y=>exact ho y (List.mem_of_getElem? h)
 intro x hx
 unfold Mf at hx
 rcases List.mem_or_eq_of_mem_set hx with hx | hx
 ·exact ho x hx
 ·subst hx
  refine Nat.or_lt_two_pow (hg _) (Nat.or_lt_two_pow ?_ (hg _))
  rw [Nat.shiftLeft_eq,Nat.one_mul]
  exact Nat.pow_lt_pow_of_lt (by omega) h2
theorem Zv (T:Nat) (es:List (Nat×Nat)):∀ (o:List Nat),(∀ e∈es,e.2<T)->(∀ x∈o,x<2 ^ T) -> ∀ x∈Ji es o,x<2 ^ T:=by
 unfold Ji
 induction es with
 | nil=>intro o _ h;exact h
 | cons e es ih =>
  intro o h2 ho
  rw [List.foldl_cons]
  exact ih _ (fun e' he'=>h2 e' (by simp [he'])) (Aa3 T o e (h2 e (by simp)) ho)
theorem Xv (T:Nat) (es:List (Nat×Nat)) (o:List Nat) (h2:∀ e∈es,e.2<T) (ho:∀ x∈o,x<2 ^ T):∀ k,∀ x∈I2 es k o,x<2 ^ T
 | 0=>ho
 | k+1=>Zv T es _ h2 (Xv T es o h2 ho k)
/-! The search by a list. -/
def J8 (x:Nat) (s:List Bool×List Nat) (e:Nat×Nat):List Bool×List Nat :=
 if e.1=x/\s.1.getD e.2 true=false then (s.1.set e.2 true,s.2 ++ [e.2]) else s
def La (es:List (Nat×Nat)) (x:Nat) (s:List Bool×List Nat):List Bool×List Nat:=es.foldl (J8 x) s
structure Binv (es:List (Nat×Nat)) (T t:Nat) (s:List Bool×List Nat):Prop where
 size:s.1.length=T
 head:∃ l,s.2=t :: l/\l.Nodup/\(∀ y,y∈l ↔ s.1.getD y false=true)
 reach:∀ y,s.1.getD y false=true->Reach es t y
theorem Binv.lt {es:List (Nat×Nat)} {T t:Nat} {s:List Bool×List Nat} (h:Binv es T t s):s.2.length<=T+1:=by
 obtain ⟨l,hl,hn,hm⟩:=h.head
 rw [hl,List.length_cons]
 have:=Ql T l hn (fun x hx=>by
  have:=(hm x).1 hx
  rw [List.getD_eq_getElem?_getD] at this
  by_cases eE:x<s.1.length
  ·rw [h.size] at eE;exact eE
  ·rw [List.getElem?_eq_none (by omega)] at this;simp at this)
 omega
theorem Binv.start (es:List (Nat×Nat)) (T t:Nat):Binv es T t (List.replicate T false,[t]):=by
 refine ⟨by simp,⟨[],rfl,by simp,fun y=>?_⟩,fun y=>?_⟩
 ·simp [List.getD_eq_getElem?_getD,List.getElem?_replicate];split<;>simp
 ·simp [List.getD_eq_getElem?_getD,List.getElem?_replicate];split<;>simp
theorem Binv.step {es:List (Nat×Nat)} {T t x:Nat} {s:List Bool×List Nat} (h:Binv es T t s) (hx:x∈s.2) (e:Nat×Nat) (he:e∈es) (h2:e.2<T):Binv es T t (J8 x s e):=by
 unfold J8
 split
 ·rename_i hc
  obtain ⟨h1,hf⟩:=hc
  obtain ⟨l,hl,hn,hm⟩:=h.head
  have aA:e.2<s.1.length:=by rw [h.size];exact h2
  have hf':s.1.getD e.2 false=false:=by
   rw [List.getD_eq_getElem?_getD,List.getElem?_eq_getElem aA] at hf ⊢
   simpa using hf
  have hg:∀ y,(s.1.set e.2 true).getD y false=true ↔ y=e.2\/s.1.getD y false=true:=by
   intro y
   simp only [List.getD_eq_getElem?_getD,List.getElem?_set]
   by_cases hy:e.2=y
   ·subst hy;simp [aA]
   ·rw [if_neg hy]
    exact ⟨fun h=>.inr h,fun h=>h.resolve_left (fun h=>hy h.symm)⟩
  have hr:Reach es t e.2:=by
   rw [hl] at hx
   rcases List.mem_cons.1 hx with rfl | hx
   ·exact .one (by rw [<-h1];exact he)
   ·exact (h.reach x ((hm x).1 hx)).snoc (by rw [<-h1];exact he)
  refine ⟨by simpa using h.size,⟨l ++ [e.2],by simp [hl],?_,fun y=>?_⟩,fun y hy=>?_⟩
  ·rw [List.nodup_append]
   refine ⟨hn,by simp,?_⟩
   intro a ha b hb kR
   simp only [List.mem_singleton] at hb
   rw [kR,hb] at ha
   rw [(hm _).1 ha] at hf'
   cases hf'
  ·rw [hg]
   simp only [List.mem_append,List.mem_singleton,hm]
   exact Or.comm
  ·rcases (hg y).1 hy with rfl | hy
   ·exact hr
   ·exact h.reach y hy
 ·exact h
theorem Zw {x y:Nat} {s:List Bool×List Nat} {e:Nat×Nat} (h:y∈s.2):y∈(J8 x s e).2:=by
 unfold J8
 split
 ·simp [h]
 ·exact h
theorem Zx {x:Nat} {s:List Bool×List Nat} {e:Nat×Nat} : ∃ r,(J8 x s e).2=s.2 ++ r:=by
 unfold J8
 split
 ·exact ⟨[e.2],rfl⟩
 ·exact ⟨[],by simp⟩
theorem Zy (es:List (Nat×Nat)) (x:Nat):∀ s:List Bool×List Nat,∃ r,(La es x s).2=s.2 ++ r:=by
 unfold La
 induction es with
 | nil=>intro s;exact ⟨[],by simp⟩
 | cons e es ih =>
  intro s
  rw [List.foldl_cons]
  obtain ⟨r,hr⟩:=ih (J8 x s e)
  obtain ⟨r',nN⟩:=Zx (x:=x) (s:=s) (e:=e)
  exact ⟨r' ++ r,by rw [hr,nN,List.append_assoc]⟩
theorem Zz {es0:List (Nat×Nat)} {T t x:Nat} (es:List (Nat×Nat)):∀ {s:List Bool×List Nat},Binv es0 T t s->x∈s.2->(∀ e∈es,e∈es0)->(∀ e∈es,e.2<T)->Binv es0 T t (La es x s):=by
 unfold La
 induction es with
 | nil=>intro s h _ _ _;exact h
 | cons e es ih =>
  intro s h hx hs h2
  rw [List.foldl_cons]
  exact ih (h.step hx e (hs e (by simp)) (h2 e (by simp))) (Zw hx) (fun e' he'=>hs e' (by simp [he'])) (fun e' he'=>h2 e' (by simp [he']))
theorem Xw {x y:Nat} {s:List Bool×List Nat} {e:Nat×Nat} (h:s.1.getD y false=true):(J8 x s e).1.getD y false=true:=by
 unfold J8
 split
 ·simp only [List.getD_eq_getElem?_getD,List.getElem?_set] at h ⊢
  by_cases hy:e.2=y
  ·subst hy
   by_cases hl:e.2<s.1.length
   ·simp [hl]
   ·rw [List.getElem?_eq_none (by omega)] at h;simp at h
  ·rw [if_neg hy];exact h
 ·exact h
theorem Qn (es:List (Nat×Nat)) (x y:Nat):∀ s:List Bool×List Nat,s.1.getD y false=true->(La es x s).1.getD y false=true:=by
 unfold La
 induction es with
 | nil=>intro s h;exact h
 | cons e es ih=>intro s h;rw [List.foldl_cons];exact ih _ (Xw h)
theorem Nf (x:Nat) (s:List Bool×List Nat) (e:Nat×Nat):(J8 x s e).1.length=s.1.length:=by
 unfold J8
 split<;>simp
theorem Abt (es:List (Nat×Nat)) (x:Nat):∀ s:List Bool×List Nat,(La es x s).1.length=s.1.length:=by
 unfold La
 induction es with
 | nil=>intro s;rfl
 | cons e es ih=>intro s;rw [List.foldl_cons,ih,Nf]
theorem Xx (es:List (Nat×Nat)) (x y:Nat):∀ s:List Bool×List Nat,(∀ e∈es,e.2<s.1.length)->(x,y)∈es->(La es x s).1.getD y false=true:=by
 unfold La
 induction es with
 | nil=>intro s _ h;simp at h
 | cons e es ih =>
  intro s hl hm
  rw [List.foldl_cons]
  rcases List.mem_cons.1 hm with he | hm
  ·refine Qn es x y _ ?_
   have aA:=hl e (by simp)
   have h1:e.1=x:=by rw [<-he]
   have h2:e.2=y:=by rw [<-he]
   unfold J8
   split
   ·rw [h2] at aA ⊢
    simp [List.getD_eq_getElem?_getD,aA]
   ·rename_i hc
    rw [h2] at hc aA
    simp only [h1,true_and] at hc
    rw [List.getD_eq_getElem?_getD,List.getElem?_eq_getElem aA] at hc ⊢
    simpa using hc
  ·exact ih _ (fun e' he'=>by rw [Nf];exact hl e' (by simp [he'])) hm
structure Bat (es:List (Nat×Nat)) (T t h:Nat) (s:List Bool×List Nat):Prop where
 inv:Binv es T t s
 le:h<=s.2.length
 done:∀ i x,i<h->s.2[i]? = some x -> ∀ y,(x,y)∈es->s.1.getD y false=true
theorem Bat.start (es:List (Nat×Nat)) (T t:Nat):Bat es T t 0 (List.replicate T false,[t]) :=
 ⟨.start es T t,Nat.zero_le _,fun i _ hi=>absurd hi (by omega)⟩
theorem Bat.next {es:List (Nat×Nat)} {T t h:Nat} {s:List Bool×List Nat} (hb:Bat es T t h s) (h2:∀ e∈es,e.2<T) {x:Nat} (hx:s.2[h]? = some x):Bat es T t (h+1) (La es x s):=by
 obtain ⟨r,hr⟩:=Zy es x s
 have aA:h<s.2.length:=by
  rcases Nat.lt_or_ge h s.2.length with h' | h'
  ·exact h'
  ·rw [List.getElem?_eq_none h'] at hx;cases hx
 refine ⟨Zz es hb.inv (List.mem_of_getElem? hx) (fun _ h=>h) h2,by rw [hr];simp;omega,fun i z hi' hiz y hy=>?_⟩
 rw [hr,List.getElem?_append_left (by omega)] at hiz
 rcases Nat.lt_or_eq_of_le (Nat.le_of_lt_succ hi') with hl | rfl
 ·exact Qn es _ y _ (hb.done i z hl hiz y hy)
 ·have:x=z:=Option.some.inj (hx.symm.trans hiz)
  subst this
  exact Xx es x y _ (by rw [hb.inv.size];exact h2) hy
theorem Bat.iff {es:List (Nat×Nat)} {T t:Nat} {s:List Bool×List Nat} (hb:Bat es T t s.2.length s) (y:Nat):s.1.getD y false=true ↔ Reach es t y:=by
 refine ⟨hb.inv.reach y,fun hr=>?_⟩
 obtain ⟨l,hl,hn,hm⟩:=hb.inv.head
 have hclosed:∀ x,x∈s.2 -> ∀ y,(x,y)∈es->s.1.getD y false=true:=by
  intro x hx y hy
  obtain ⟨i,hi⟩:=List.getElem?_of_mem hx
  exact hb.done i x (by
   rcases Nat.lt_or_ge i s.2.length with h' | h'
   ·exact h'
   ·rw [List.getElem?_eq_none h'] at hi;cases hi) hi y hy
 have key:∀ (w:List Nat) (a:Nat),a∈s.2->w≠[]->Way es a w y->s.1.getD y false=true:=by
  intro w
  induction w with
  | nil=>intro a _ h;exact absurd rfl h
  | cons c w ih =>
   intro a ha _ hw
   cases hw with
   | cons h1 h2 =>
    have hc:=hclosed a ha c h1
    cases w with
    | nil=>cases h2;exact hc
    | cons d w=>exact ih c (by rw [hl];exact List.mem_cons_of_mem _ ((hm c).2 hc)) (by simp) h2
 obtain ⟨w,hw,hway⟩:=hr
 exact key w t (by rw [hl];simp) hw hway
end Go.Proofs.YtonlnjdempbfoaaGreat.Pg
namespace Go.Proofs.YtonlnjdempbfoaaGreat
open Go.RowKit
set_option maxRecDepth 100000
set_option maxHeartbeats 4000000
set_option linter.unusedVariables false
set_option linter.unusedSimpArgs false
end Go.Proofs.YtonlnjdempbfoaaGreat
namespace Go.Proofs
open Go.Shelf
def Tryz.lays189_ren:Go.Shelf.Ren:=⟨fun | 189=>251 | 125=>257 | 257=>256 | 128=>268 | 129=>269 | 294=>259 | 295=>260 | 296=>261 | 297=>262 | 298=>263 | 299=>264 | 216=>265 | 300=>266 | 301=>267 | 328=>270 | 329=>271 | 330=>272 | 331=>273 | 332=>274 | 215=>275 | 343=>276 | n=>n,fun | 28=>26 | 3=>3 | 46=>161 | 0=>0 | 51=>268 | 53=>270 | 4=>4 | 183=>261 | 182=>260 | 131=>55 | 5=>5 | 9=>9 | 218=>271 | 222=>275 | 228=>277 | 229=>278 | n=>n,fun | n=>n⟩
theorem Tryz.lays189:Go.Proofs.Lays.n189 Tryz.prog Tryz.lays189_ren:={
 mixed:=by kernel_rfl
 f125:=Tryz.func257.trans (congrArg some (by kernel_rfl))
 f128:=Tryz.func268.trans (congrArg some (by kernel_rfl))
 f129:=Tryz.func269.trans (congrArg some (by kernel_rfl))
 f189:=Tryz.func251.trans (congrArg some (by kernel_rfl))
 f215:=Tryz.func275.trans (congrArg some (by kernel_rfl))
 f216:=Tryz.func265.trans (congrArg some (by kernel_rfl))
 f257:=Tryz.func256.trans (congrArg some (by kernel_rfl))
 f294:=Tryz.func259.trans (congrArg some (by kernel_rfl))
 f295:=Tryz.func260.trans (congrArg some (by kernel_rfl))
 f296:=Tryz.func261.trans (congrArg some (by kernel_rfl))
 f297:=Tryz.func262.trans (congrArg some (by kernel_rfl))
 f298:=Tryz.func263.trans (congrArg some (by kernel_rfl))
 f299:=Tryz.func264.trans (congrArg some (by kernel_rfl))
 f300:=Tryz.func266.trans (congrArg some (by kernel_rfl))
 f301:=Tryz.func267.trans (congrArg some (by kernel_rfl))
 f328:=Tryz.func270.trans (congrArg some (by kernel_rfl))
 f329:=Tryz.func271.trans (congrArg some (by kernel_rfl))
 f330:=Tryz.func272.trans (congrArg some (by kernel_rfl))
 f331:=Tryz.func273.trans (congrArg some (by kernel_rfl))
 f332:=Tryz.func274.trans (congrArg some (by kernel_rfl))
 f343:=Tryz.func276.trans (congrArg some (by kernel_rfl))
 t0:=Tryz.underlying0
 a0:=Tryz.isAgg0
 z0:=Tryz.sizeOf0
 v0:=Tryz.zeroValue0
 t3:=Tryz.underlying3
 a3:=Tryz.isAgg3
 z3:=Tryz.sizeOf3
 v3:=Tryz.zeroValue3
 t4:=Tryz.underlying4
 a4:=Tryz.isAgg4
 z4:=Tryz.sizeOf4
 v4:=Tryz.zeroValue4
 t5:=Tryz.underlying5
 a5:=Tryz.isAgg5
 z5:=Tryz.sizeOf5
 v5:=Tryz.zeroValue5
 t9:=Tryz.underlying9
 a9:=Tryz.isAgg9
 z9:=Tryz.sizeOf9
 v9:=Tryz.zeroValue9
 t28:=Tryz.underlying26
 a28:=Tryz.isAgg26
 z28:=Tryz.sizeOf26
 v28:=Tryz.zeroValue26
 t46:=Tryz.underlying161
 a46:=Tryz.isAgg161
 z46:=Tryz.sizeOf161
 v46:=Tryz.zeroValue161
 t51:=Tryz.underlying268
 a51:=Tryz.isAgg268
 z51:=Tryz.sizeOf268
 v51:=Tryz.zeroValue268
 t53:=Tryz.underlying270
 a53:=Tryz.isAgg270
 z53:=Tryz.sizeOf270
 v53:=Tryz.zeroValue270
 t131:=Tryz.underlying55
 a131:=Tryz.isAgg55
 z131:=Tryz.sizeOf55
 v131:=Tryz.zeroValue55
 t182:=Tryz.underlying260
 a182:=Tryz.isAgg260
 z182:=Tryz.sizeOf260
 v182:=Tryz.zeroValue260
 t183:=Tryz.underlying261
 a183:=Tryz.isAgg261
 z183:=Tryz.sizeOf261
 v183:=Tryz.zeroValue261
 t218:=Tryz.underlying271
 a218:=Tryz.isAgg271
 z218:=Tryz.sizeOf271
 v218:=Tryz.zeroValue271
 t222:=Tryz.underlying275
 a222:=Tryz.isAgg275
 z222:=Tryz.sizeOf275
 v222:=Tryz.zeroValue275
 t228:=Tryz.underlying277
 a228:=Tryz.isAgg277
 z228:=Tryz.sizeOf277
 v228:=Tryz.zeroValue277
 t229:=Tryz.underlying278
 a229:=Tryz.isAgg278
 z229:=Tryz.sizeOf278
 v229:=Tryz.zeroValue278 }
open Go.Sort Go.RowKit in
theorem Tryz.slices_Sort_int (blk off cap:Nat) (zs:List Int) (w:World) (hH:Holds (Value.int .i64) w blk off zs.toArray) (hblk:blk<w.heap.size) (bE:zs.length<4611686018427387904) :
  Calls Tryz.prog 251 #[.slice (some ⟨blk,off,none⟩) zs.length cap] w fun e w' =>
   e = .returned (.tuple #[]) /\ ∃ n os,w'=grow (putRow (Value.int .i64) (Sort.ahead w n) blk off (zs.mergeSort fun x y=>decide (x<=y)).toArray) os:=Any.slices_Sort_int Tryz.lays189 blk off cap zs w hH hblk bE
open Go.RowKit Go.Sort in
theorem Tryz.slices_Sort_int_none (p:Option Addr) (cap:Nat) (w:World) :
  Calls Tryz.prog 251 #[.slice p 0 cap] w fun e w'=>e = .returned (.tuple #[])/\w'=w:=Any.slices_Sort_int_none Tryz.lays189 p cap w
end Go.Proofs
namespace Go.Proofs.YtonlnjdempbfoaaGreat
open Go.RowKit
set_option maxRecDepth 100000
set_option maxHeartbeats 4000000
set_option linter.unusedVariables false
set_option linter.unusedSimpArgs false
section
open Go.ChangeShapes Go.WideShapes Go.ChangeAt Go.RowKit
def J9:List Char:=[Char.ofNat 104,Char.ofNat 97,Char.ofNat 114,Char.ofNat 110,Char.ofNat 101,Char.ofNat 115,Char.ofNat 115,Char.ofNat 32,Char.ofNat 57,Char.ofNat 57,Char.ofNat 101,Char.ofNat 102,Char.ofNat 57,Char.ofNat 52,Char.ofNat 48,Char.ofNat 99,Char.ofNat 55,Char.ofNat 52,Char.ofNat 97,Char.ofNat 48,Char.ofNat 52,Char.ofNat 48,Char.ofNat 57,Char.ofNat 48,Char.ofNat 102,Char.ofNat 48,Char.ofNat 97,Char.ofNat 100,Char.ofNat 98,Char.ofNat 50,Char.ofNat 56,Char.ofNat 100,Char.ofNat 57,Char.ofNat 53,Char.ofNat 101,Char.ofNat 55,Char.ofNat 57,Char.ofNat 99,Char.ofNat 54,Char.ofNat 55,Char.ofNat 55,Char.ofNat 53,Char.ofNat 101,Char.ofNat 51,Char.ofNat 50,Char.ofNat 99,Char.ofNat 49,Char.ofNat 56,Char.ofNat 48,Char.ofNat 101,Char.ofNat 101,Char.ofNat 52,Char.ofNat 102,Char.ofNat 52,Char.ofNat 49,Char.ofNat 55,Char.ofNat 101,Char.ofNat 49,Char.ofNat 57,Char.ofNat 100,Char.ofNat 99,Char.ofNat 98,Char.ofNat 56,Char.ofNat 57,Char.ofNat 99,Char.ofNat 97,Char.ofNat 56,Char.ofNat 52,Char.ofNat 48,Char.ofNat 55,Char.ofNat 48,Char.ofNat 50,Char.ofNat 32,Char.ofNat 99,Char.ofNat 117,Char.ofNat 116,Char.ofNat 32,Char.ofNat 97,Char.ofNat 116,Char.ofNat 32,Char.ofNat 108,Char.ofNat 111,Char.ofNat 111,Char.ofNat 112,Char.ofNat 46,Char.ofNat 101,Char.ofNat 120,Char.ofNat 97,Char.ofNat 109,Char.ofNat 112,Char.ofNat 108,Char.ofNat 101,Char.ofNat 47,Char.ofNat 103,Char.ofNat 48,Char.ofNat 48,Char.ofNat 57,Char.ofNat 54,Char.ofNat 53,Char.ofNat 47,Char.ofNat 108,Char.ofNat 97,Char.ofNat 119,Char.ofNat 115,Char.ofNat 46,Char.ofNat 70,Char.ofNat 110,Char.ofNat 70,Char.ofNat 111,Char.ofNat 108,Char.ofNat 108,Char.ofNat 111,Char.ofNat 119,Char.ofNat 115,Char.ofNat 32,Char.ofNat 108,Char.ofNat 111,Char.ofNat 111,Char.ofNat 112,Char.ofNat 46,Char.ofNat 101,Char.ofNat 120,Char.ofNat 97,Char.ofNat 109,Char.ofNat 112,Char.ofNat 108,Char.ofNat 101,Char.ofNat 47,Char.ofNat 103,Char.ofNat 48,Char.ofNat 48,Char.ofNat 57,Char.ofNat 54,Char.ofNat 53,Char.ofNat 47,Char.ofNat 108,Char.ofNat 97,Char.ofNat 119,Char.ofNat 115,Char.ofNat 46,Char.ofNat 70,Char.ofNat 110,Char.ofNat 70,Char.ofNat 101,Char.ofNat 110,Char.ofNat 99,Char.ofNat 101,Char.ofNat 115,Char.ofNat 32,Char.ofNat 108,Char.ofNat 111,Char.ofNat 111,Char.ofNat 112,Char.ofNat 46,Char.ofNat 101,Char.ofNat 120,Char.ofNat 97,Char.ofNat 109,Char.ofNat 112,Char.ofNat 108,Char.ofNat 101,Char.ofNat 47,Char.ofNat 103,Char.ofNat 48,Char.ofNat 48,Char.ofNat 57,Char.ofNat 54,Char.ofNat 53,Char.ofNat 47,Char.ofNat 108,Char.ofNat 97,Char.ofNat 119,Char.ofNat 115,Char.ofNat 46,Char.ofNat 70,Char.ofNat 110,Char.ofNat 69,Char.ofNat 120,Char.ofNat 97,Char.ofNat 99,Char.ofNat 116,Char.ofNat 79,Char.ofNat 118,Char.ofNat 101,Char.ofNat 114,Char.ofNat 65,Char.ofNat 116,Char.ofNat 32,Char.ofNat 108,Char.ofNat 111,Char.ofNat 111,Char.ofNat 112,Char.ofNat 46,Char.ofNat 101,Char.ofNat 120,Char.ofNat 97,Char.ofNat 109,Char.ofNat 112,Char.ofNat 108,Char.ofNat 101,Char.ofNat 47,Char.ofNat 103,Char.ofNat 48,Char.ofNat 48,Char.ofNat 57,Char.ofNat 54,Char.ofNat 53,Char.ofNat 47,Char.ofNat 108,Char.ofNat 97,Char.ofNat 119,Char.ofNat 115,Char.ofNat 46,Char.ofNat 70,Char.ofNat 110,Char.ofNat 86,Char.ofNat 105,Char.ofNat 101,Char.ofNat 119,Char.ofNat 115,Char.ofNat 32,Char.ofNat 108,Char.ofNat 111,Char.ofNat 111,Char.ofNat 112,Char.ofNat 46,Char.ofNat 101,Char.ofNat 120,Char.ofNat 97,Char.ofNat 109,Char.ofNat 112,Char.ofNat 108,Char.ofNat 101,Char.ofNat 47,Char.ofNat 103,Char.ofNat 48,Char.ofNat 48,Char.ofNat 57,Char.ofNat 54,Char.ofNat 53,Char.ofNat 47,Char.ofNat 108,Char.ofNat 97,Char.ofNat 119,Char.ofNat 115,Char.ofNat 46,Char.ofNat 70,Char.ofNat 110,Char.ofNat 69,Char.ofNat 120,Char.ofNat 97,Char.ofNat 99,Char.ofNat 116,Char.ofNat 83,Char.ofNat 108,Char.ofNat 105,Char.ofNat 109]
theorem Abu:Tryz.prog.initOrder=String.ofList J9:=by
 unfold J9
 dsimp only [Tryz.prog,Tryz.progTables]
theorem Vx:Tryz.prog.initOrder.toList=J9:=by rw [Abu,String.toList_ofList]
def Ka:List Char:=[Char.ofNat 99,Char.ofNat 117,Char.ofNat 116]
def Ng:List (List Char):=(behindMainWord (wordsSigns J9)).tail
theorem Xy:behindMainWord (wordsSigns J9)=Ka :: Ng:=by kernel_rfl
theorem Ab9:(Ka == "gc".toList)=false:=by kernel_rfl
theorem Zf:(Ka == "spec".toList)=false:=by kernel_rfl
theorem Qo:(Ka == "carried".toList)=false:=by kernel_rfl
theorem Zg:(Ka == "cut".toList)=true:=by kernel_rfl
theorem Ou:stripLifts liftWords (Ka :: Ng)=([],Ka :: Ng):=by kernel_rfl
theorem Abv (P:Program) (r:List (List Char)) (h:behindMainWord (wordsSigns P.initOrder.toList)=Ka :: r):P.make=some .cut:=by
 unfold Program.make
 rw [h]
 simp only [Ab9,Zf,Zg,Bool.or_false,Bool.true_or,if_true,Bool.false_eq_true,if_false]
theorem Uo (P:Program) (r:List (List Char)) (h:behindMainWord (wordsSigns P.initOrder.toList)=Ka :: r) (hs:stripLifts liftWords (Ka :: r)=([],Ka :: r)):P.headLifts=[]:=by
 unfold Program.headLifts
 simp only [h,hs]
 split<;>rfl
theorem Sy (P:Program) (r:List (List Char)) (h:behindMainWord (wordsSigns P.initOrder.toList)=Ka :: r) (hs:stripLifts liftWords (Ka :: r)=([],Ka :: r)):P.liftsFinal=false:=by
 unfold Program.liftsFinal
 have hc:(some Ka == some "carried".toList)=false:=Qo
 simp only [Uo P r h hs,h,List.head?_cons,hc,Bool.false_and,Bool.false_or]
 rfl
theorem Vy (P:Program) (r:List (List Char)) (h:behindMainWord (wordsSigns P.initOrder.toList)=Ka :: r) (hs:stripLifts liftWords (Ka :: r)=([],Ka :: r))
  (hl:P.laysLater=false) (hr:P.bearsReflect=false) (hd:P.doorFits []=true):P.mayEnter=true:=by
 unfold Program.mayEnter
 have hc:(some Ka == some "cut".toList)=true:=Zg
 simp only [h,hs,Ab9,Zf,Qo,hl,hr,hd,hc,List.head?_cons,Bool.or_false,Bool.false_or,Bool.false_and,Bool.not_false,Bool.or_true,Bool.and_true]
 rfl
theorem Mz:behindMainWord (wordsSigns Tryz.prog.initOrder.toList)=Ka :: Ng:=by rw [Vx,Xy]
theorem Qp:Tryz.prog.laysLater=false:=by kernel_rfl
theorem Nh:Tryz.prog.bearsReflect=false:=by kernel_rfl
theorem Sz:Tryz.prog.doorFits []=true:=by kernel_rfl
theorem S7:Tryz.prog.mayEnter=true:=Vy _ _ Mz Ou Qp Nh Sz
theorem Pn:Tryz.prog.liftsFinal=false:=Sy _ _ Mz Ou
theorem Z2:Tryz.prog.make=some .cut:=Abv _ _ Mz
theorem Ni:laidOutB Tryz.prog=true:=by kernel_rfl
theorem Qq:mapsRowed Tryz.prog=true:=by kernel_rfl
theorem Po:Tryz.prog.stopsHeard=true:=by kernel_rfl
theorem Qr:Tryz.prog.plainKeys=true:=by kernel_rfl
theorem Aa4:ownKnob Tryz.prog.godebug=none:=by kernel_rfl
theorem Aa5 {f:FuncId} {fn:Func} {s:ChangeSpec} {c:OpenClaim}
  (k1:c.wf (OpenSpec.ofChange s)=true) (k4:fn.params.all (Tryz.prog.readableRec ·)=true) (k5:namedTie Tryz.prog c.named s.vars=true)
  (kp:((c.stops == []) && (Tryz.prog.stops == []) && (c.knobs == []) && (Tryz.prog.stopKnobs == []))=true)
  (k10:(c.inPlace == Tryz.prog.inPlace f)=true) (k11:(c.unfollowed == Tryz.prog.unfollowed f)=true) (k12:(c.recurses == Tryz.prog.recurses f)=true) (k13:(c.named == Tryz.prog.varsNamed f)=true)
  (k14:((c.maps == (fn.params.toList ++ s.plain.varTypes Tryz.prog).any (Tryz.prog.mapsRec ·)) && (c.ifaces == (fn.params.toList ++ s.plain.varTypes Tryz.prog).any (Tryz.prog.ifacesRec ·)) && (c.mapsOut == Tryz.prog.mapsAmong fn.resultTypes.toList) &&
   (c.loops == (fn.params.toList ++ s.plain.varTypes Tryz.prog).any (Tryz.prog.loopsFrom ·)) && (c.wideKeys == (fn.params.toList ++ s.plain.varTypes Tryz.prog ++ fn.resultTypes.toList).any (Tryz.prog.wideKeysFrom ·)) &&
   s.vars.all (Tryz.prog.varReadable ·) && fn.resultTypes.all (fun t=>Tryz.prog.readableRec t && decide (t<Tryz.prog.types.size)) && (c.ifacesOut == fn.resultTypes.toList.any (Tryz.prog.ifacesRec ·)) && (c.loopsOut == fn.resultTypes.toList.any (Tryz.prog.loopsFrom ·)) && (c.plainKeys == true) && c.shortTexts.isNone)=true)
  (k26:c.lifted=false) (k27:c.make = .cut) (k28:(c.kinds == (if c.domain.isEmpty then [] else fn.params.toList.map fun t=>match Tryz.prog.underlying t with | some (.int k)=>some k | _=>none))=true) (k29:(c.pinned == c.pinnedBy)=true)
  (k30:((c.veiled == (fn.params.toList ++ s.plain.varTypes Tryz.prog ++ fn.resultTypes.toList).any (Tryz.prog.veiledRec ·)) && c.veiledFits Tryz.prog fn.params.toList (fn.params.toList ++ s.plain.varTypes Tryz.prog ++ fn.resultTypes.toList))=true) :
  joinedFacts Tryz.prog f fn s c=true:=by
 simp only [Bool.and_eq_true] at kp k14 k30
 obtain ⟨⟨⟨p1,p2⟩,p3⟩,p4⟩:=kp
 obtain ⟨⟨⟨⟨⟨⟨⟨⟨⟨⟨q1,q2⟩,q3⟩,q4⟩,q5⟩,q6⟩,q7⟩,q8⟩,q9⟩,q10⟩,q11⟩:=k14
 unfold joinedFacts
 simp only [Bool.and_eq_true]
 rw [Z2,Pn,Qr,k26,k27]
 exact ⟨⟨⟨⟨⟨⟨⟨⟨⟨⟨⟨⟨⟨⟨⟨⟨⟨⟨⟨⟨⟨⟨⟨⟨⟨⟨⟨⟨⟨⟨⟨k1,Ni⟩,Qq⟩,k4⟩,k5⟩,p1⟩,p2⟩,p3⟩,p4⟩,k10⟩,k11⟩,k12⟩,k13⟩,q1⟩,q2⟩,q3⟩,q4⟩,q5⟩,q6⟩,q7⟩,q8⟩,q9⟩,q10⟩,q11⟩,Po⟩,S7⟩,rfl⟩,rfl⟩,k28⟩,k29⟩,k30.1⟩,k30.2⟩
end
structure Edge where
 fr:Int
 to:Int
deriving DecidableEq,Inhabited
def Ei:Enc Edge:={ cells:=fun s=>[.int .i64 s.fr,.int .i64 s.to],sz:=2,len:=fun _=>rfl,one:=fun _ u hu=>by simp at hu;rcases hu with rfl | rfl<;>rfl }
@[go_sem] def Vz (s:Edge):Value:=.agg #[.int .i64 s.fr,.int .i64 s.to]
theorem Rd.edge {w:World} {B:Nat} {A:Option Addr} {n c:Nat} {l:List Edge} (h:Rd Ei w B (.slice A n c) l) {k:Nat} (hk:k<l.length) :
  ∃ b o,A=some ⟨b,o,none⟩/\b<B/\w.cell? ⟨b,o+k * 2,none⟩=some (.int .i64 l[k].fr)/\w.cell? ⟨b,o+k * 2+1,none⟩=some (.int .i64 l[k].to):=by
 obtain ⟨A',c',hv,_,hA⟩:=h
 obtain ⟨b,o,bS,hb,hc⟩:=hA (by omega)
 simp only [Value.slice.injEq] at hv
 obtain ⟨rfl,_,_⟩:=hv
 exact ⟨b,o,bS,hb,hc k hk 0 _ rfl,hc k hk 1 _ rfl⟩
theorem To:(Tryz.prog.info? 199).map (fun i=>(i.zero,i.size,i.bytes))=some (some (Vz ⟨0,0⟩),2,16):=by kernel_rfl
open Go.ChangeShapes Go.WideShapes Go.ChangeAt Go.RowKit Go.Deep
section
variable {H:Type} {enc:TypeId×Value->H} {P:Program} {w:World} {spare:Nat->Bool} {held:Bool}
theorem Qs {α:Type} [Inhabited α] (E:Enc α) (ok:α->Prop) {t e:TypeId} {fuel:Nat} {cs:List Value} {x:DataW H×List MemPlace} (ht:P.underlying t=some (.slice e)) (bE:P.cellsOf e=E.sz) (hpos:0<E.sz)
  (pN:∀ n cs' y,DataW.trod enc P w 0 spare held n e cs'=some y -> ∃ z:α,cs'=E.cells z/\ok z)
  (h:DataW.trod enc P w 0 spare held fuel t cs=some x):∃ (v:Value) (l:List α),cs=[v]/\Rd E w w.heap.size v l/\(∀ z∈l,ok z)/\l.length<=maxLen:=by
 rcases open_slice ht h with ⟨rfl,_⟩ | ⟨a,len,cap,m,n,D,Pl,rfl,_,hl,hm,kD,_,hi⟩
 ·exact ⟨_,[],rfl,⟨none,0,rfl,by simp,fun h=>absurd h (by simp)⟩,by simp,by simp⟩
 ·have hlm:len<=m:=by rw [kD];split<;>omega
  have hsp0:0<len->a.spot=none/\a.block<w.heap.size:=by
   intro h0l
   obtain ⟨cs',hc,jV⟩:=hi 0 (by omega)
   obtain ⟨z,rfl,hz⟩:=pN _ _ _ jV
   rw [bE] at hc
   obtain ⟨_,aJ,hat⟩:=World.cells?_some hc
   have h0:=hat 0 hpos
   have e0:(a.add (0 * E.sz)).add 0=a:=by simp [Addr.add]
   rw [e0,List.getElem?_eq_getElem (by rw [E.len];exact hpos)] at h0
   refine ⟨World.cell?_spot h0,?_⟩
   rcases Nat.lt_or_ge a.block w.heap.size with aA | tQ
   ·exact aA
   ·unfold World.cell? at h0
    rw [Array.getElem?_eq_none tQ] at h0
    simp at h0
  have each:∀ i,i<len -> ∃ z:α,ok z /\ ∀ j u,(E.cells z)[j]? = some u->w.cell? ⟨a.block,a.off+i * E.sz+j,none⟩=some u:=by
   intro i gJ
   have hsp:=(hsp0 (by omega)).1
   obtain ⟨cs',hc,jV⟩:=hi i (by omega)
   obtain ⟨z,rfl,hz⟩:=pN _ _ _ jV
   rw [bE] at hc
   obtain ⟨_,aJ,hat⟩:=World.cells?_some hc
   have hadd:∀ j,((a.add (i * E.sz)).add j)=⟨a.block,a.off+i * E.sz+j,none⟩:=by
    intro j
    obtain ⟨ab,ao,sp⟩:=a
    simp only at hsp
    subst hsp
    unfold Addr.add
    by_cases h1:i * E.sz=0<;>by_cases h2:j=0<;>simp [h1,h2]
   refine ⟨z,hz,fun j u hu=>?_⟩
   have hj:j<E.sz:=by
    have:=(List.getElem?_eq_some_iff.1 hu).1
    rw [E.len] at this
    exact this
   rw [<-hadd,hat j hj]
   exact hu
  obtain ⟨f,hf⟩:=choose_lt each
  refine ⟨_,(List.range len).map f,rfl,⟨some a,cap,by simp,by simpa using hl,fun hp=>?_⟩,?_,by simp;omega⟩
  ·simp only [List.length_map,List.length_range] at hp
   obtain ⟨hsp,hb⟩:=hsp0 hp
   refine ⟨a.block,a.off,by rw [<-hsp],hb,fun k hk j u hu=>?_⟩
   simp only [List.length_map,List.length_range] at hk
   simp only [List.getElem_map,List.getElem_range] at hu
   exact (hf k hk).2 j u hu
  ·intro z hz
   simp only [List.mem_map,List.mem_range] at hz
   obtain ⟨i,hi',rfl⟩:=hz
   exact (hf i hi').1
def Wf (x:Int):Prop:=-9223372036854775808<=x/\x<=9223372036854775807
theorem Kb {x:Int} (h:(Lit.int .i64 x).wf=true):Wf x:=by
 simp [Lit.wf,IntKind.min,IntKind.max,IntKind.signed,IntKind.bits] at h
 exact ⟨by omega,by omega⟩
end
structure Fence where
 run:Int
 task:Int
 try_:Int
 text:ByteArray
deriving DecidableEq,Inhabited
@[go_sem] def Acm (s:Fence):Value:=.agg #[.int .i64 s.run,.int .i64 s.task,.int .i64 s.try_,.string s.text]
theorem pS:(∀ (a:Act) (d:Tmp) (v:Value),a.put (some d) v = { a with tmps:=a.tmps.setIfInBounds d v })/\(∀ (a:Act) (v:Value),a.put none v=a)/\(∀ (l:List Value) (i:Nat) (v:Value),l.toArray.setIfInBounds i v=(l.set i v).toArray) /\
  (∀ (x:Value) (l:List Value) (v:Value),(x :: l).set 0 v=v :: l)/\(∀ (x:Value) (l:List Value) (i:Nat) (v:Value),(x :: l).set (i+1) v=x :: l.set i v) :=
 ⟨fun _ _ _=>rfl,fun _ _=>rfl,fun _ _ _=>List.setIfInBounds_toArray ..,fun _ _ _=>rfl,fun _ _ _ _=>rfl⟩
section
structure Plan where
 prio:Int
 most:Int
 wait:Int
 tasks:Int
 edges:List Edge
deriving DecidableEq,Inhabited
@[go_sem] abbrev Ee (p:Plan) (ve:Value):Value:=.agg #[.int .i64 p.prio,.int .i64 p.most,.int .i64 p.wait,.int .i64 p.tasks,ve]
def Cs:Enc Nat:={ cells:=fun x=>[.int .i64 (x:Int)],sz:=1,len:=fun _=>rfl,one:=fun _ u hu=>by simp at hu;subst hu;rfl }
def Qt:Enc Bool:={ cells:=fun x=>[.bool x],sz:=1,len:=fun _=>rfl,one:=fun _ u hu=>by simp at hu;subst hu;rfl }
def inB (n lo hi:Int):Bool:=decide (lo<=n) && decide (n<=hi)
theorem Bf {n lo hi:Int} : inB n lo hi=true ↔ lo<=n/\n<=hi:=by simp [inB]
def Cu (p:Plan):Bool:=inB p.tasks 1 12 && decide (p.edges.length<=30) && inB p.prio 0 9 && inB p.most 1 5 && inB p.wait 1 20
def Gy (T:Int) (e:Edge):Bool:=inB e.fr 0 (T - 1) && inB e.to 0 (T - 1)
def esL (l:List Edge):List (Nat×Nat):=l.map fun e=>(e.fr.toNat,e.to.toNat)
def Ca (p:Plan):List (Nat×Nat):=esL p.edges
def Eu (p:Plan):Prop:=∀ e∈p.edges,Gy p.tasks e=true
def N8 (p:Plan):Prop:=∃ t,t<p.tasks.toNat/\Pg.Reach (Ca p) t t
open Classical in
noncomputable def Aq (p:Plan):Int :=
 if Cu p=false then 1 else if ¬ Eu p then 2 else if ¬ p.edges.Nodup then 3 else if N8 p then 4 else 0
theorem Bn {p:Plan} : Aq p=0 ↔ Cu p=true/\Eu p/\p.edges.Nodup /\ ¬ N8 p:=by
 unfold Aq
 cases h1:Cu p
 ·simp
 ·by_cases h2:Eu p<;>by_cases h3:p.edges.Nodup<;>by_cases h4:N8 p<;>simp [h2,h3,h4]
theorem Ch {p:Plan} (h:Cu p=true):1<=p.tasks/\p.tasks<=12:=by
 simp only [Cu,Bool.and_eq_true] at h
 exact Bf.1 h.1.1.1.1
theorem Dh {p:Plan} (h:Cu p=true):p.edges.length<=30:=by
 simp only [Cu,Bool.and_eq_true,decide_eq_true_eq] at h
 exact h.1.1.1.2
theorem Fa {p:Plan} (h:Eu p) {k:Nat} (hk:k<p.edges.length):0<=p.edges[k].fr/\p.edges[k].fr<p.tasks/\0<=p.edges[k].to/\p.edges[k].to<p.tasks:=by
 have:=h _ (List.getElem_mem hk)
 simp only [Gy,Bool.and_eq_true,Bf] at this
 omega
theorem Km (l:List Edge):(esL l).length=l.length:=by simp [esL]
theorem Ju {p:Plan} (h:Eu p):(∀ e∈Ca p,e.1<p.tasks.toNat)/\(∀ e∈Ca p,e.2<p.tasks.toNat):=by
 have:∀ e∈Ca p,e.1<p.tasks.toNat/\e.2<p.tasks.toNat:=by
  intro e he
  simp only [Ca,esL,List.mem_map] at he
  obtain ⟨x,hx,rfl⟩:=he
  have:=h x hx
  simp only [Gy,Bool.and_eq_true,Bf] at this
  simp only
  omega
 exact ⟨fun e he=>(this e he).1,fun e he=>(this e he).2⟩
theorem Rd.nat {w:World} {B:Nat} {A:Option Addr} {n c:Nat} {l:List Nat} (h:Rd Cs w B (.slice A n c) l) {k:Nat} (hk:k<l.length) :
  ∃ b o,A=some ⟨b,o,none⟩/\b<B/\w.cell? ⟨b,o+k,none⟩=some (.int .i64 (l[k]:Int)):=by
 obtain ⟨A',c',hv,_,hA⟩:=h
 obtain ⟨b,o,bS,hb,hc⟩:=hA (by omega)
 simp only [Value.slice.injEq] at hv
 obtain ⟨rfl,_,_⟩:=hv
 exact ⟨b,o,bS,hb,by simpa [Cs] using hc k hk 0 _ rfl⟩
theorem Rd.int {w:World} {B:Nat} {A:Option Addr} {n c:Nat} {l:List Int} (h:Rd Fz w B (.slice A n c) l) {k:Nat} (hk:k<l.length) :
  ∃ b o,A=some ⟨b,o,none⟩/\b<B/\w.cell? ⟨b,o+k,none⟩=some (.int .i64 l[k]):=by
 obtain ⟨A',c',hv,_,hA⟩:=h
 obtain ⟨b,o,bS,hb,hc⟩:=hA (by omega)
 simp only [Value.slice.injEq] at hv
 obtain ⟨rfl,_,_⟩:=hv
 exact ⟨b,o,bS,hb,by simpa [Fz] using hc k hk 0 _ rfl⟩
theorem Ow.one_ {α:Type} {e:Enc α} (bE:e.sz=1) {E:TypeId} {w:World} {base g n cap:Nat} {l:List α} (h:Ow e E w base (.slice (some ⟨g,0,none⟩) n cap) l) {k:Nat} (hk:k<l.length) {u:Value} (hu:(e.cells l[k])[0]? = some u) :
  w.cell? ⟨g,k,none⟩=some u:=by
 rcases h.form with ⟨h1,_⟩ | ⟨g',cap',hv,_,_,_,_,_,hc⟩
 ·simp at h1
 ·simp only [Value.slice.injEq,Option.some.injEq,Addr.mk.injEq,and_true] at hv
  obtain ⟨rfl,_,_⟩:=hv
  have:=hc k hk 0 u hu
  rw [bE] at this
  simpa using this
theorem Ow.nat {E:TypeId} {w:World} {base g n cap:Nat} {l:List Nat} (h:Ow Cs E w base (.slice (some ⟨g,0,none⟩) n cap) l) {k:Nat} (hk:k<l.length):w.cell? ⟨g,k,none⟩=some (.int .i64 (l[k]:Int)):=h.one_ rfl hk rfl
theorem Ow.bool {E:TypeId} {w:World} {base g n cap:Nat} {l:List Bool} (h:Ow Qt E w base (.slice (some ⟨g,0,none⟩) n cap) l) {k:Nat} (hk:k<l.length):w.cell? ⟨g,k,none⟩=some (.bool l[k]):=h.one_ rfl hk rfl
theorem Aa6 (a b:Nat) (ha:a<9223372036854775808) (hb:b<9223372036854775808):bits .or .i64 (a:Int) (b:Int)=((a ||| b:Nat):Int):=by
 have hx:a ||| b<2 ^ 63:=Nat.or_lt_two_pow (by omega) (by omega)
 have h1:(BitVec.ofInt 64 (a:Int)).toNat=a:=by
  rw [BitVec.ofInt_natCast,BitVec.toNat_ofNat];exact Nat.mod_eq_of_lt (by omega)
 have h2:(BitVec.ofInt 64 (b:Int)).toNat=b:=by
  rw [BitVec.ofInt_natCast,BitVec.toNat_ofNat];exact Nat.mod_eq_of_lt (by omega)
 show IntKind.i64.wrap ((BitVec.ofInt 64 (a:Int) ||| BitVec.ofInt 64 (b:Int)).toNat:Int)=_
 rw [BitVec.toNat_or,h1,h2,IntKind.wrap_i64]
 generalize a ||| b=y at *
 have hy:y<9223372036854775808:=hx
 clear h1 h2 hx
 rw [Int.emod_eq_of_lt (by omega) (by omega),Int.add_sub_cancel]
theorem Abw (a b:Nat) (ha:a<9223372036854775808) (hb:b<9223372036854775808):bits .and .i64 (a:Int) (b:Int)=((a &&& b:Nat):Int):=by
 have hx:a &&& b<2 ^ 63:=Nat.and_lt_two_pow _ (by omega)
 have h1:(BitVec.ofInt 64 (a:Int)).toNat=a:=by
  rw [BitVec.ofInt_natCast,BitVec.toNat_ofNat];exact Nat.mod_eq_of_lt (by omega)
 have h2:(BitVec.ofInt 64 (b:Int)).toNat=b:=by
  rw [BitVec.ofInt_natCast,BitVec.toNat_ofNat];exact Nat.mod_eq_of_lt (by omega)
 show IntKind.i64.wrap ((BitVec.ofInt 64 (a:Int) &&& BitVec.ofInt 64 (b:Int)).toNat:Int)=_
 rw [BitVec.toNat_and,h1,h2,IntKind.wrap_i64]
 generalize a &&& b=y at *
 have hy:y<9223372036854775808:=hx
 clear h1 h2 hx
 omega
theorem Aa7 (x k:Nat) (hx:x<9223372036854775808):(bits .and .i64 ((x:Int) / 2 ^ k) 1 == 1)=x.testBit k:=by
 have e:((x:Int) / 2 ^ k)=((x >>> k:Nat):Int):=by
  rw [Nat.shiftRight_eq_div_pow,Int.natCast_ediv,Int.natCast_pow];rfl
 have hl:x >>> k<9223372036854775808:=by
  rw [Nat.shiftRight_eq_div_pow];exact Nat.lt_of_le_of_lt (Nat.div_le_self _ _) hx
 have ha:=Abw (x >>> k) 1 hl (by omega)
 rw [e]
 rw [show (1:Int)=((1:Nat):Int) from rfl,ha]
 unfold Nat.testBit
 rw [Nat.and_comm 1,Nat.and_one_is_mod]
 rcases Nat.mod_two_eq_zero_or_one (x >>> k) with h | h<;>simp [h]
theorem Abx (d:Nat) (hd:d<63):wrap64 ((2:Int) ^ d)=((1 <<< d:Nat):Int):=by
 have h:2 ^ d<2 ^ 63:=Nat.pow_lt_pow_of_lt (by omega) hd
 have e:(2:Int) ^ d=((2 ^ d:Nat):Int):=by rw [Int.natCast_pow];rfl
 rw [e,Nat.shiftLeft_eq,Nat.one_mul]
 clear e
 generalize 2 ^ d=y at *
 unfold wrap64
 omega
def Ci (T:TypeId) (p:Plan) (ve:Value) (w:World):World:=w.alloc (.cells #[.int .i64 p.prio,.int .i64 p.most,.int .i64 p.wait,.int .i64 p.tasks,ve] T)
theorem Ir (T:TypeId) (p:Plan) (ve:Value) (w:World):Below w.heap.size w (Ci T p ve w):=(Below.refl _ _).alloc (Nat.le_refl _) _
theorem Di (T:TypeId) (p:Plan) (ve:Value) (w:World):(Ci T p ve w).heap.size=w.heap.size+1:=by simp [Ci]
theorem Dn {T:TypeId} {p:Plan} {ve:Value} {w wr:World} (hb:Below (Ci T p ve w).heap.size (Ci T p ve w) wr) :
  wr.cell? ⟨w.heap.size,0,none⟩=some (.int .i64 p.prio)/\wr.cell? ⟨w.heap.size,1,none⟩=some (.int .i64 p.most)/\wr.cell? ⟨w.heap.size,2,none⟩=some (.int .i64 p.wait) /\
   wr.cell? ⟨w.heap.size,3,none⟩=some (.int .i64 p.tasks)/\wr.cell? ⟨w.heap.size,4,none⟩=some ve/\w.heap.size+1<=wr.heap.size/\Below w.heap.size w wr:=by
 have hs:=Di T p ve w
 have h:∀ j u,(Ci T p ve w).cell? ⟨w.heap.size,j,none⟩=some u->wr.cell? ⟨w.heap.size,j,none⟩=some u:=fun j u hu=>(hb.cell (p:=⟨w.heap.size,j,none⟩) (by rw [hs];simp)).trans hu
 refine ⟨h 0 _ ?_,h 1 _ ?_,h 2 _ ?_,h 3 _ ?_,h 4 _ ?_,by rw [<-hs];exact hb.size,(Ir T p ve w).trans (hb.mono (by rw [hs];omega))⟩
 all_goals simp [Ci,go_sem]
end
section
variable {P:Program} {ops:Array Oper} {Q:Exit->Act->World->Prop} {md:Region.Mode} {S:World->Prop} {last:Nat}
def Ho (P:Program) (md:Region.Mode) (ops:Array Oper) (Q:Exit->Act->World->Prop) (S:World->Prop) (last:Nat):Nat->Array Bool->Act->World->Prop
 | 0,listed,a,w=>Region.ready md ops listed=[]/\Q .normal a w
 | fuel+1,listed,a,w =>
  (Region.ready md ops listed=[]->Q .normal a w) /\
  ∀ i∈Region.ready md ops listed,wpOp P ops Q i (fun a' w'=>(i≠last->S w')/\Ho P md ops Q S last fuel (listed.setIfInBounds i true) a' w') a w
theorem Qu:∀ (fuel:Nat) (listed:Array Bool) (a:Act) (w:World),Ho P md ops Q S last fuel listed a w->wpAny P md ops Q fuel listed a w
 | 0,_,_,_,h=>h
 | fuel+1,_,_,_,h=>⟨h.1,fun i hi=>wpOp_mono (fun a' w' h'=>Qu fuel _ a' w' h'.2) (h.2 i hi)⟩
def Hf (md:Region.Mode) (ops:Array Oper) (last i:Nat):Bool :=
 match ops[last]? with
 | some o=>o.after.any fun e=>Region.binds md e && e.on == i
 | none=>true
theorem Up {i:Nat} {oi:Oper} {v:Value} (hi:ops[i]? = some oi) (hsel:∀ (j:Nat) (o:Oper) cs b,ops[j]? = some o->o.op ≠ .select cs b)
  (hQ:∀ c a w,Q (.panic c) (a.put oi.dst v) w->Q (.panic c) a w) (hl:Hf md ops last i=true) :
  ∀ (fuel:Nat) (listed:Array Bool) (a:Act) (w:World),
   (∀ j oj,ops[j]? = some oj->j≠i->listed.getD j true=false->(∀ e∈oj.after,Region.binds md e=true->e.on≠i)->oi.apart ops oj=true) ->
   i∈Region.ready md ops listed->YieldsIf P ops S oi v a->S w ->
   Ho P md ops Q S last fuel (listed.setIfInBounds i true) (a.put oi.dst v) w->Ho P md ops Q S last (fuel+1) listed a w:=by
 intro fuel
 induction fuel with
 | zero =>
  intro listed a w _ hr hy hS H
  refine ⟨fun h=>(by rw [h] at hr;cases hr),fun j hj=>?_⟩
  by_cases hji:j=i
  ·subst hji;exact hy.wpOp hi hS ⟨fun _=>hS,H⟩
  ·have:=ready_mono hj hji
   rw [H.1] at this
   cases this
 | succ fuel ih =>
  intro listed a w gG hr hy hS H
  refine ⟨fun h=>(by rw [h] at hr;cases hr),fun j hj=>?_⟩
  by_cases hji:j=i
  ·subst hji;exact hy.wpOp hi hS ⟨fun _=>hS,H⟩
  ·have h1:=H.2 j (ready_mono hj hji)
   obtain ⟨nH,oj,pV,cS⟩:=mem_ready.1 hj
   have nI:∀ e∈oj.after,Region.binds md e=true->e.on≠i:=fun e he hb jE=>by
    have h1:=cS e he hb
    have h0:=(mem_ready.1 hr).1
    rw [jE] at h1
    rcases Nat.lt_or_ge i listed.size with h' | h'
    ·simp [h'] at h0 h1;rw [h0] at h1;cases h1
    ·simp [Array.getElem?_eq_none h'] at h1
   have kI:j≠last:=by
    intro e
    subst e
    unfold Hf at hl
    rw [pV] at hl
    simp only [Array.any_eq_true] at hl
    obtain ⟨k,hk,hb⟩:=hl
    simp only [Bool.and_eq_true,beq_iff_eq] at hb
    exact nI _ (Array.getElem_mem hk) hb.1 hb.2
   have h2:=wpOp_putIf pV (gG j oj pV hji nH nI) (fun cs b=>hsel i oi cs b hi) (fun cs b=>hsel j oj cs b pV) hQ hy h1
   have hfree':∀ k ok,ops[k]? = some ok->k≠i->(listed.setIfInBounds j true).getD k true=false ->
     (∀ e∈ok.after,Region.binds md e=true->e.on≠i)->oi.apart ops ok=true:=fun k ok hk qZ kG cI=>by
    refine gG k ok hk qZ ?_ cI
    by_cases fD:j=k
    ·subst fD;exact nH
    ·rw [getD_set_ne true fD] at kG;exact kG
   refine wpOp_mono (fun a' w' h3=>⟨h3.2.1,ih (listed.setIfInBounds j true) a' w' hfree' (ready_mono hr (Ne.symm hji)) h3.1 (h3.2.1 kI) ?_⟩) h2
   rw [Array.setIfInBounds_comm _ _ hji]
   exact h3.2.2
theorem V0 {i:Nat} {oi:Oper} {v:Value} {fuel:Nat} {listed:Array Bool} {a:Act} {w:World} (hi:ops[i]? = some oi)
  (hs:Region.noSelect ops=true) (hl:Hf md ops last i=true) (hf:Region.free md ops listed i=true) (hr:(Region.ready md ops listed).contains i=true)
  (hQ:∀ c a w,Q (.panic c) (a.put oi.dst v) w->Q (.panic c) a w) (hS:S w) (hy:YieldsIf P ops S oi v a)
  (h:Ho P md ops Q S last fuel (listed.setIfInBounds i true) (a.put oi.dst v) w):Ho P md ops Q S last (fuel+1) listed a w :=
 Up hi (Region.noSelect_spec hs) hQ hl fuel listed a w (Region.free_spec hi hf) (by simpa using hr) hy hS h
theorem aT (i:Nat) {oi:Oper} {v:Value} {fuel:Nat} {listed:Array Bool} {a:Act} {w:World} (hS:S w)
  (h:Ho P md ops Q S last fuel (listed.setIfInBounds i true) (a.put oi.dst v) w) (hi:ops[i]? = some oi:=by rfl)
  (hs:Region.noSelect ops=true:=by kernel_rfl) (hl:Hf md ops last i=true:=by kernel_rfl) (hf:Region.free md ops listed i=true:=by kernel_rfl) (hr:(Region.ready md ops listed).contains i=true:=by kernel_rfl)
  (hQ:∀ c a w,Q (.panic c) (a.put oi.dst v) w->Q (.panic c) a w:=by exact fun _ _ _ h=>h) (hw:Region.wanted oi (yielded ops a.tmps)=true:=by rfl)
  (hy:∀ w,S w->(execOp a.eval oi).run P w = .ok (.value v) w:=by (intro w hSw;(try dsimp only at hSw);go_simp;all_goals with_reducible rfl)):Ho P md ops Q S last (fuel+1) listed a w :=
 V0 hi hs hl hf hr hQ hS (Or.inl ⟨hw,hy⟩) h
theorem Xz {i:Nat} {o:Oper} {fuel:Nat} {listed:Array Bool} {a:Act} {w:World} (ho:ops[i]? = some o) (hr:Region.ready md ops listed=[i])
  (h:∀ K':Act->World->Prop,Hid (∀ a w,(i≠last->S w)->Ho P md ops Q S last fuel (listed.setIfInBounds i true) a w->K' a w) ->
   if Region.wanted o (yielded ops a.tmps)=true then Oper.wp P o a w K' Q else K' (a.put o.dst undef) w):Ho P md ops Q S last (fuel+1) listed a w:=by
 refine ⟨fun h0=>(by rw [hr] at h0;cases h0),fun j hj=>?_⟩
 rw [hr,List.mem_singleton] at hj
 subst hj
 exact wpOp_step ho (fun K' hK=>h K' (fun a w hS hW=>hK a w ⟨hS,hW⟩))
theorem oT (i:Nat) {o:Oper} {fuel:Nat} {listed:Array Bool} {a:Act} {w:World}
  (h:∀ K':Act->World->Prop,Hid (∀ a w,(i≠last->S w)->Ho P md ops Q S last fuel (listed.setIfInBounds i true) a w->K' a w) ->
   if Region.wanted o (yielded ops a.tmps)=true then Oper.wp P o a w K' Q else K' (a.put o.dst undef) w) (ho:ops[i]? = some o:=by rfl) (hr:Region.ready md ops listed=[i]:=by kernel_rfl):Ho P md ops Q S last (fuel+1) listed a w:=Xz ho hr h
theorem Cg {listed:Array Bool} {a:Act} {w:World} (hr:Region.ready md ops listed=[]) (h:Q .normal a w):∀ fuel,Ho P md ops Q S last fuel listed a w
 | 0=>⟨hr,h⟩
 | _+1=>⟨fun _=>h,by rw [hr];intro i hi;cases hi⟩
theorem Bj {id:Nat} {a:Act} {w:World} (S:World->Prop) (last:Nat) (hm:P.follows .mixedOrders=true) (hS:S w.drew)
  (h:S w.drew->Ho P .any ops Q S last ops.size (Array.replicate ops.size false) a w.drew):(Code.region id ops true).wp P Q a w :=
 wp_region_any hm (Qu _ _ _ _ (h hS))
end
theorem Aca {P:Program} {md:Region.Mode} {Q:Exit->Act->World->Prop} {S:World->Prop} {l:List Oper} (i:Nat) {oi:Oper} {v:Value} {fuel:Nat} {listed:Array Bool} {a:Act} {w:World} (hi:l[i]? = some oi)
  (hs:Region.noSelect l.toArray=true) (hf:Region.free md l.toArray listed i=true) (hr:(Region.ready md l.toArray listed).contains i=true) (hQ:∀ c a w,Q (.panic c) (a.put oi.dst v) w->Q (.panic c) a w)
  (hw:Region.wanted oi (yielded l.toArray a.tmps)=true) (hy:∀ w,S w->(execOp a.eval oi).run P w = .ok (.value v) w) (hS:S w)
  (h:wpAnyH P md l.toArray Q S fuel (listed.setIfInBounds i true) (a.put oi.dst v) w):wpAnyH P md l.toArray Q S (fuel+1) listed a w :=
 wpAnyH_take (by rw [List.getElem?_toArray];exact hi) hs hf hr hQ (.inl ⟨hw,hy⟩) hS h
theorem Acg {P:Program} {md:Region.Mode} {Q:Exit->Act->World->Prop} {S:World->Prop} {l:List Oper} (i:Nat) {o:Oper} {fuel:Nat} {listed:Array Bool} {a:Act} {w:World} (ho:l[i]? = some o)
  (hr:Region.ready md l.toArray listed=[i]) (hw:Region.wanted o (yielded l.toArray a.tmps)=true)
  (h:∀ K':Act->World->Prop,Shut (∀ a w,S w->(S w->wpAnyH P md l.toArray Q S fuel (listed.setIfInBounds i true) a w)->K' a w)->Oper.wp P o a w K' Q):wpAnyH P md l.toArray Q S (fuel+1) listed a w :=
 wpAnyH_ready hr (by simp) (AllReadyH.cons (o:=o) (by rw [List.getElem?_toArray];exact ho) (fun K hK=>by rw [if_pos hw];exact h K hK) AllReadyH.nil)
theorem Uq {P:Program} {md:Region.Mode} {Q:Exit->Act->World->Prop} {S:World->Prop} {l:List Oper} (i j:Nat) {oi oj:Oper} {fuel:Nat} {listed:Array Bool} {a:Act} {w:World} (hi:l[i]? = some oi) (hj:l[j]? = some oj)
  (hr:Region.ready md l.toArray listed=[i,j]) (wi:Region.wanted oi (yielded l.toArray a.tmps)=true) (wj:Region.wanted oj (yielded l.toArray a.tmps)=true)
  (h1:∀ K':Act->World->Prop,Shut (∀ a w,S w->(S w->wpAnyH P md l.toArray Q S fuel (listed.setIfInBounds i true) a w)->K' a w)->Oper.wp P oi a w K' Q)
  (h2:∀ K':Act->World->Prop,Shut (∀ a w,S w->(S w->wpAnyH P md l.toArray Q S fuel (listed.setIfInBounds j true) a w)->K' a w)->Oper.wp P oj a w K' Q):wpAnyH P md l.toArray Q S (fuel+1) listed a w :=
 wpAnyH_ready hr (by simp) (AllReadyH.cons (o:=oi) (by rw [List.getElem?_toArray];exact hi) (fun K hK=>by rw [if_pos wi];exact h1 K hK) (AllReadyH.cons (o:=oj) (by rw [List.getElem?_toArray];exact hj) (fun K hK=>by rw [if_pos wj];exact h2 K hK) AllReadyH.nil))
theorem tY {P:Program} {md:Region.Mode} {Q:Exit->Act->World->Prop} {S:World->Prop} {l:List Oper} (i:Nat) {oi:Oper} {v:Value} {fuel:Nat} {listed:Array Bool} {a:Act} {w:World}
  (h:wpAnyH P md l.toArray Q S fuel (listed.setIfInBounds i true) (a.put oi.dst v) w) (hi:l[i]? = some oi:=by rfl)
  (hs:Region.noSelect l.toArray=true:=by kernel_rfl) (hf:Region.free md l.toArray listed i=true:=by kernel_rfl) (hr:(Region.ready md l.toArray listed).contains i=true:=by kernel_rfl) (hQ:∀ c a w,Q (.panic c) (a.put oi.dst v) w->Q (.panic c) a w:=by exact fun _ _ _ h=>h)
  (hw:Region.wanted oi (yielded l.toArray a.tmps)=true:=by rfl) (hS:S w:=by assumption)
  (hy:∀ w,S w->(execOp a.eval oi).run P w = .ok (.value v) w:=by (intro w' hSw;(try dsimp only at hSw);(try have h0:=hSw.cell 0 _ rfl);(try have h1:=hSw.cell 1 _ rfl);(try have h2:=hSw.cell 2 _ rfl);(try have h3:=hSw.cell 3 _ rfl);(try have h4:=hSw.cell 4 _ rfl);(try have h5:=hSw.cell 5 _ rfl);(try have h6:=hSw.cell 6 _ rfl);(try have h7:=hSw.cell 7 _ rfl);(try have h8:=hSw.cell 8 _ rfl);(try have h9:=hSw.cell 9 _ rfl);(try have h10:=hSw.cell 10 _ rfl);(try have h11:=hSw.cell 11 _ rfl);go_simp;(try with_reducible rfl))) :
  wpAnyH P md l.toArray Q S (fuel+1) listed a w:=Aca i hi hs hf hr hQ hw hy hS h
theorem tV {P:Program} {md:Region.Mode} {Q:Exit->Act->World->Prop} {S:World->Prop} {l:List Oper} (i:Nat) {oi:Oper} {v:Value} {fuel:Nat} {listed:Array Bool} {a:Act} {w:World}
  (h:wpAnyH P md l.toArray Q S fuel (listed.setIfInBounds i true) (a.put oi.dst v) w) (hi:l[i]? = some oi:=by rfl)
  (hs:Region.noSelect l.toArray=true:=by kernel_rfl) (hf:Region.free md l.toArray listed i=true:=by kernel_rfl) (hr:(Region.ready md l.toArray listed).contains i=true:=by kernel_rfl) (hQ:∀ c a w,Q (.panic c) (a.put oi.dst v) w->Q (.panic c) a w:=by exact fun _ _ _ h=>h)
  (hw:Region.wanted oi (yielded l.toArray a.tmps)=true:=by rfl) (hS:S w:=by assumption)
  (hy:∀ w,S w->(execOp a.eval oi).run P w = .ok (.value v) w:=by (intro w' hSw;(try dsimp only at hSw);(try have q0:=hSw.1.cell 0 _ rfl);(try have q1:=hSw.1.cell 1 _ rfl);(try have q2:=hSw.1.cell 2 _ rfl);(try have q3:=hSw.1.cell 3 _ rfl);(try have q4:=hSw.1.cell 4 _ rfl);(try have q5:=hSw.1.cell 5 _ rfl);(try have q6:=hSw.1.cell 6 _ rfl);(try have q7:=hSw.1.cell 7 _ rfl);(try have r0:=hSw.2.cell 0 _ rfl);(try have r1:=hSw.2.cell 1 _ rfl);(try have r2:=hSw.2.cell 2 _ rfl);(try have r3:=hSw.2.cell 3 _ rfl);(try have r4:=hSw.2.cell 4 _ rfl);(try have r5:=hSw.2.cell 5 _ rfl);(try have s0:=hSw.2.1.cell 0 _ rfl);(try have s1:=hSw.2.1.cell 1 _ rfl);(try have s2:=hSw.2.1.cell 2 _ rfl);(try have s3:=hSw.2.1.cell 3 _ rfl);(try have s4:=hSw.2.1.cell 4 _ rfl);(try have t0:=hSw.2.2.cell 0 _ rfl);(try have t1:=hSw.2.2.cell 1 _ rfl);(try have t2:=hSw.2.2.cell 2 _ rfl);(try have t3:=hSw.2.2.cell 3 _ rfl);(try have t4:=hSw.2.2.cell 4 _ rfl);go_simp;(try with_reducible rfl))) :
  wpAnyH P md l.toArray Q S (fuel+1) listed a w:=Aca i hi hs hf hr hQ hw hy hS h
theorem rC {P:Program} {md:Region.Mode} {Q:Exit->Act->World->Prop} {S:World->Prop} {l:List Oper} (i:Nat) {o:Oper} {fuel:Nat} {listed:Array Bool} {a:Act} {w:World}
  (h:∀ K':Act->World->Prop,Shut (∀ a w,S w->(S w->wpAnyH P md l.toArray Q S fuel (listed.setIfInBounds i true) a w)->K' a w)->Oper.wp P o a w K' Q) (ho:l[i]? = some o:=by rfl)
  (hr:Region.ready md l.toArray listed=[i]:=by kernel_rfl) (hw:Region.wanted o (yielded l.toArray a.tmps)=true:=by rfl):wpAnyH P md l.toArray Q S (fuel+1) listed a w:=Acg i ho hr hw h
def M0 (p:Plan) (w:World) (e:Ending) (w':World):Prop:=∃ v,e = .returned (Ee p v)/\Ow Ei 199 w' w.heap.size v p.edges/\Below w.heap.size w w'
theorem Ap (n lo hi:Int) (w:World):Calls Tryz.prog 58 #[.int .i64 n,.int .i64 lo,.int .i64 hi] w fun e w'=>e = .returned (.bool (inB n lo hi))/\w=w':=by
 by_cases h1:lo<=n
 ·have t1:decide (lo<=n)=true:=by simpa using h1
  go_enter Tryz.func58,Tryz.ntmps58
  go_wp2
  go_ret
  exact ⟨Ac (by simp [inB,t1]),rfl⟩
 ·have t1:decide (lo<=n)=false:=by simpa using h1
  go_enter Tryz.func58,Tryz.ntmps58
  go_wp2
  go_ret
  exact ⟨Ac (by simp [inB,t1]),rfl⟩
theorem Aj (n lo hi:Int) (w:World):Calls Tryz.prog 155 #[.int .i64 n,.int .i64 lo,.int .i64 hi] w fun e w'=>e = .returned (.bool (inB n lo hi))/\w=w':=by
 by_cases h1:lo<=n
 ·have t1:decide (lo<=n)=true:=by simpa using h1
  go_enter Tryz.func155,Tryz.ntmps155
  go_wp2
  go_ret
  exact ⟨Ac (by simp [inB,t1]),rfl⟩
 ·have t1:decide (lo<=n)=false:=by simpa using h1
  go_enter Tryz.func155,Tryz.ntmps155
  go_wp2
  go_ret
  exact ⟨Ac (by simp [inB,t1]),rfl⟩
theorem Au (n:Int) (w:World):Calls Tryz.prog 191 #[.int .i64 n] w fun e w'=>e = .returned (.bool (inB n 0 1000000000))/\w=w':=by
 go_enter Tryz.func191,Tryz.ntmps191
 go_wp2_with (go_at_call 155;refine (Aj _ _ _ _).mono ?_;rintro e w' ⟨rfl,rfl⟩)
 go_ret
 exact ⟨rfl,rfl⟩
def Eo {α:Type} (p:α->Bool) (l:List α):Int:=match l.findIdx? p with | some i=>i | none=>-1
theorem Gi {α:Type} {p:α->Bool} {l:List α} {k:Nat} (hk:k<l.length) (h:∀ j (hj:j<k),p (l[j]'(by omega))=false) (hp:p l[k]=true):Eo p l=k:=by
 have:l.findIdx? p=some k:=by
  rw [List.findIdx?_eq_some_iff_getElem]
  exact ⟨hk,hp,fun j hj=>by simp [h j hj]⟩
 simp [Eo,this]
theorem Hc {α:Type} {p:α->Bool} {l:List α} (h:∀ j (hj:j<l.length),p l[j]=false):Eo p l = -1:=by
 have:l.findIdx? p=none:=by
  rw [List.findIdx?_eq_none_iff]
  intro x hx
  obtain ⟨j,hj,rfl⟩:=List.getElem_of_mem hx
  exact h j hj
 simp [Eo,this]
theorem Iv:(Tryz.prog.info? 3).map (fun i=>(i.zero,i.size,i.bytes))=some (some (.int .i64 0),1,8):=by kernel_rfl
theorem Z3 (p:Plan) (ve:Value) (w:World) (hm:Cu p=true) (he:Eu p) (h:Rd Ei w w.heap.size ve p.edges) :
  Calls Tryz.prog 225 #[Ee p ve] w fun e w'=>∃ v,e = .returned v/\Ow Cs 3 w' w.heap.size v (Pg.I2 (Ca p) p.tasks.toNat (List.replicate p.tasks.toNat 0))/\Below w.heap.size w w':=by
 obtain ⟨A,c,rfl,-⟩:=id h
 obtain ⟨t1,t2⟩:=Ch hm
 have aJ:=Dh hm
 obtain ⟨T,hT⟩:=Int.eq_ofNat_of_zero_le (show 0<=p.tasks by omega)
 have HT:=Lib.hid hT
 have eU:T<=12:=by omega
 obtain ⟨i0,aP,aX,aV,aQ⟩:=info_parts Iv
 have mH:∀ w:World,(Instr.makeSlice 26 (.int .i64 p.tasks) (.int .i64 p.tasks)).run Tryz.prog w = .ok (.slice (some ⟨w.heap.size,0,none⟩) T T) (w.alloc (.cells (madeCells #[.int .i64 0] (T * 1)) 3)):=by
  intro w
  have:=run_make (P:=Tryz.prog) w 26 3 i0 _ Tryz.underlying26 aP aX .i64 .i64 T T (by omega) (by omega) (by rw [aQ];omega) (by omega)
  rw [aV] at this
  rw [hT]
  simpa [Value.cells] using this
 clear hT
 unfold Ee
 go_enter Tryz.func225,Tryz.ntmps225
 go_wp2
 go_loopw [11] (fun i wr=>∃ k:Nat,k<=T/\i = .int .i64 k/\Ow Cs 3 wr (w.heap.size+1) (.slice (some ⟨w.heap.size+1,0,none⟩) T T) (Pg.I2 (Ca p) k (List.replicate T 0))/\Below (Ci 43 p (.slice A p.edges.length c) w).heap.size (Ci 43 p (.slice A p.edges.length c) w) wr) (fun i _=>T - (intOf i).toNat)
 case atStart =>
  refine ⟨0,Nat.zero_le _,rfl,?_,(Below.refl _ _).alloc (Nat.le_refl _) _⟩
  have:=Ow.made Cs 3 (Ci 43 p (.slice A p.edges.length c) w) 0 T (by decide) (by simp [maxLen];omega) (z:=#[.int .i64 0]) rfl (m:=T) (by simp [Cs])
  rw [Di] at this
  exact this
 case round =>
  obtain ⟨k,hk,rfl,hown,hb⟩:=hrel
  obtain ⟨x0,x1,x2,x3,x4,hs,bN⟩:=Dn hb
  by_cases aA:k<T
  ·have aB:(k:Int)<p.tasks:=by rw [HT.out];omega
   obtain ⟨wo,rfl⟩:∃ wo:World,wo=wr:=⟨_,rfl⟩
   go_wp2
   go_loopw [16] (fun i wr=>∃ j:Nat,j<=p.edges.length/\i = .int .i64 j/\Ow Cs 3 wr (w.heap.size+1) (.slice (some ⟨w.heap.size+1,0,none⟩) T T) (Pg.Ji (esL (p.edges.take j)) (Pg.I2 (Ca p) k (List.replicate T 0)))/\Below (Ci 43 p (.slice A p.edges.length c) w).heap.size (Ci 43 p (.slice A p.edges.length c) w) wr) (fun i _=>p.edges.length - (intOf i).toNat)
   case atStart=>exact ⟨0,Nat.zero_le _,rfl,hown,hb⟩
   case round =>
    clear hown hb x0 x1 x2 x3 x4 hs bN
    obtain ⟨j,hj,rfl,hown,hb⟩:=hrel
    obtain ⟨x0,x1,x2,x3,x4,hs,bN⟩:=Dn hb
    by_cases cZ:j<p.edges.length
    ·obtain ⟨b,o,rfl,aH,c0,c1⟩:=(h.below bN).edge cZ
     obtain ⟨f1,f2,f3,f4⟩:=Fa he cZ
     rw [HT.out] at f2 f4
     have ht:=Lib.hid (show esL (p.edges.take (j+1))=esL (p.edges.take j) ++ [(p.edges[j].fr.toNat,p.edges[j].to.toNat)] by unfold esL;rw [Ay _ j cZ,List.map_append];rfl)
     generalize p.edges[j].fr=fx at *
     generalize p.edges[j].to=tx at *
     obtain ⟨a,rfl⟩:=Int.eq_ofNat_of_zero_le f1
     obtain ⟨d,rfl⟩:=Int.eq_ofNat_of_zero_le f3
     have nQ:(Pg.Ji (esL (p.edges.take j)) (Pg.I2 (Ca p) k (List.replicate T 0))).length=T:=by rw [Pg.Sx,Pg.Jj,List.length_replicate]
     have hnext:Hid (Pg.Ji (esL (p.edges.take (j+1))) (Pg.I2 (Ca p) k (List.replicate T 0))=Pg.Mf (Pg.Ji (esL (p.edges.take j)) (Pg.I2 (Ca p) k (List.replicate T 0))) (a,d)):=by
      show Pg.Ji _ _=_
      rw [ht.out]
      simp only [Int.toNat_natCast]
      unfold Pg.Ji
      rw [List.foldl_append]
      rfl
     have aR:∀ x∈Pg.Ji (esL (p.edges.take j)) (Pg.I2 (Ca p) k (List.replicate T 0)),x<2 ^ T:=by
      refine Pg.Zv T _ _ ?_ (Pg.Xv T _ _ ?_ ?_ k)
      ·intro e he'
       simp only [esL,List.mem_map] at he'
       obtain ⟨y,hy,rfl⟩:=he'
       have:=(Ju he).2 (y.fr.toNat,y.to.toNat) (by simp only [Ca,esL,List.mem_map];exact ⟨y,List.mem_of_mem_take hy,rfl⟩)
       rw [HT.out] at this
       simpa using this
      ·have:=(Ju he).2
       rw [HT.out] at this
       simpa using this
      ·intro x hx
       have:=List.eq_of_mem_replicate hx
       subst this
       exact Nat.two_pow_pos T
     generalize hO:Pg.Ji (esL (p.edges.take j)) (Pg.I2 (Ca p) k (List.replicate T 0))=O at *
     have HO:=Lib.hid hO
     clear hO ht
     have hol':=Lib.hid nQ
     have ha:a<O.length:=by omega
     have hd:d<O.length:=by omega
     clear nQ
     have rH:=hown.blk.2
     have n0:(wr.alloc (.cells #[.int .i64 (a:Int),.int .i64 (d:Int)] 199)).cell? ⟨wr.heap.size,0,none⟩=some (.int .i64 (a:Int)):=by go_simp
     have n1:(wr.alloc (.cells #[.int .i64 (a:Int),.int .i64 (d:Int)] 199)).cell? ⟨wr.heap.size,1,none⟩=some (.int .i64 (d:Int)):=by go_simp
     have hown2:=Ow.below hown ((Below.refl _ _).alloc (Nat.le_refl _) (.cells #[.int .i64 (a:Int),.int .i64 (d:Int)] 199))
     have aF:=hb.alloc hb.size (.cells #[.int .i64 (a:Int),.int .i64 (d:Int)] 199)
     go_wp2
     generalize wr.alloc (.cells #[.int .i64 (a:Int),.int .i64 (d:Int)] 199)=W2 at *
     have hcf:=hown2.free
     have ca:=hown2.nat ha
     have cd:=hown2.nat hd
     go_still_tail 16,(by kernel_rfl)
     go_wp2
     have hda:O[d]<2 ^ T:=aR _ (List.getElem_mem hd)
     have haa:O[a]<2 ^ T:=aR _ (List.getElem_mem ha)
     have hpT:2 ^ T<=2 ^ 12:=Nat.pow_le_pow_right (by omega) eU
     have hpd:1 <<< d<2 ^ 12:=by rw [Nat.shiftLeft_eq,Nat.one_mul];exact Nat.pow_lt_pow_of_lt (by omega) (by omega)
     have hor:1 <<< d ||| O[d]<2 ^ 12:=Nat.or_lt_two_pow hpd (Nat.lt_of_lt_of_le hda hpT)
     have rL:∀ {x:Nat},x<2 ^ 12->x<9223372036854775808:=fun h=>Nat.lt_of_lt_of_le h (by decide)
     rw [Abx d (by omega),Aa6 (1 <<< d) O[d] (rL hpd) (rL (Nat.lt_of_lt_of_le hda hpT)),Aa6 O[a] (1 <<< d ||| O[d]) (rL (Nat.lt_of_lt_of_le haa hpT)) (rL hor)]
     clear hpd hor rL hda haa hpT
     have cG:=Ow.put hown2 (n:=T) hol'.out a (by omega) (O[a] ||| (1 <<< d ||| O[d]))
     have cF:O.set a (O[a] ||| (1 <<< d ||| O[d]))=Pg.Mf O (a,d):=by
      simp [Pg.Mf,List.getD_eq_getElem?_getD,ha,hd]
     rw [cF,<-hnext.out] at cG
     simp only [Cs,Nat.mul_one] at cG
     refine ⟨⟨j+1,by omega,by go_num,cG.1,((aF.grown cG.2 aF.size (fun g hg=>?_))).drew⟩,by simp [intOf];omega⟩
     rw [Di]
     simp at hg
     omega
    ·have hj':j=p.edges.length:=by omega
     subst hj'
     rw [List.take_length] at hown
     go_wp2
     exact ⟨⟨k+1,by omega,by go_num,hown,hb⟩,by simp [intOf];omega⟩
  ·have aB:¬ (k:Int)<p.tasks:=by rw [HT.out];omega
   go_wp2
   go_ret
   refine ⟨_,rfl,?_,bN⟩
   have:k=T:=by omega
   subst this
   rw [HT.out]
   exact hown.more (by omega)
section
variable {P:Program} {ops:Array Oper} {Q:Exit->Act->World->Prop} {md:Region.Mode} {S:World->Prop} {last:Nat}
def Gj (P:Program) (md:Region.Mode) (ops:Array Oper) (Q:Exit->Act->World->Prop) (S:World->Prop) (last:Nat):Nat->Array Bool->Act->World->Prop
 | 0,listed,a,w=>Region.ready md ops listed=[]/\Q .normal a w
 | fuel+1,listed,a,w =>
  (Region.ready md ops listed=[]->Q .normal a w) /\
  ∀ i∈Region.ready md ops listed,wpOp P ops Q i (fun a' w'=>(i≠last->listed.getD last false=false->S w')/\Gj P md ops Q S last fuel (listed.setIfInBounds i true) a' w') a w
theorem Qv:∀ (fuel:Nat) (listed:Array Bool) (a:Act) (w:World),Gj P md ops Q S last fuel listed a w->wpAny P md ops Q fuel listed a w
 | 0,_,_,_,h=>h
 | fuel+1,_,_,_,h=>⟨h.1,fun i hi=>wpOp_mono (fun a' w' h'=>Qv fuel _ a' w' h'.2) (h.2 i hi)⟩
theorem Ur {i:Nat} {oi:Oper} {v:Value} (hi:ops[i]? = some oi) (hsel:∀ (j:Nat) (o:Oper) cs b,ops[j]? = some o->o.op ≠ .select cs b)
  (hQ:∀ c a w,Q (.panic c) (a.put oi.dst v) w->Q (.panic c) a w) (hl:Hf md ops last i=true) (gJ:i≠last) :
  ∀ (fuel:Nat) (listed:Array Bool) (a:Act) (w:World),
   (∀ j oj,ops[j]? = some oj->j≠i->listed.getD j true=false->(∀ e∈oj.after,Region.binds md e=true->e.on≠i)->oi.apart ops oj=true) ->
   listed.getD last false=false->i∈Region.ready md ops listed->YieldsIf P ops S oi v a->S w ->
   Gj P md ops Q S last fuel (listed.setIfInBounds i true) (a.put oi.dst v) w->Gj P md ops Q S last (fuel+1) listed a w:=by
 intro fuel
 induction fuel with
 | zero =>
  intro listed a w _ kG hr hy hS H
  refine ⟨fun h=>(by rw [h] at hr;cases hr),fun j hj=>?_⟩
  by_cases hji:j=i
  ·subst hji;exact hy.wpOp hi hS ⟨fun _ _=>hS,H⟩
  ·have:=ready_mono hj hji
   rw [H.1] at this
   cases this
 | succ fuel ih =>
  intro listed a w gG kG hr hy hS H
  refine ⟨fun h=>(by rw [h] at hr;cases hr),fun j hj=>?_⟩
  by_cases hji:j=i
  ·subst hji;exact hy.wpOp hi hS ⟨fun _ _=>hS,H⟩
  ·have h1:=H.2 j (ready_mono hj hji)
   obtain ⟨nH,oj,pV,cS⟩:=mem_ready.1 hj
   have nI:∀ e∈oj.after,Region.binds md e=true->e.on≠i:=fun e he hb jE=>by
    have h1:=cS e he hb
    have h0:=(mem_ready.1 hr).1
    rw [jE] at h1
    rcases Nat.lt_or_ge i listed.size with h' | h'
    ·simp [h'] at h0 h1;rw [h0] at h1;cases h1
    ·simp [Array.getElem?_eq_none h'] at h1
   have kI:j≠last:=by
    intro e
    subst e
    unfold Hf at hl
    rw [pV] at hl
    simp only [Array.any_eq_true] at hl
    obtain ⟨k,hk,hb⟩:=hl
    simp only [Bool.and_eq_true,beq_iff_eq] at hb
    exact nI _ (Array.getElem_mem hk) hb.1 hb.2
   have h2:=wpOp_putIf pV (gG j oj pV hji nH nI) (fun cs b=>hsel i oi cs b hi) (fun cs b=>hsel j oj cs b pV) hQ hy h1
   have hfree':∀ k ok,ops[k]? = some ok->k≠i->(listed.setIfInBounds j true).getD k true=false ->
     (∀ e∈ok.after,Region.binds md e=true->e.on≠i)->oi.apart ops ok=true:=fun k ok hk qZ kG cI=>by
    refine gG k ok hk qZ ?_ cI
    by_cases fD:j=k
    ·subst fD;exact nH
    ·rw [getD_set_ne true fD] at kG;exact kG
   have hun':(listed.setIfInBounds j true).getD last false=false:=(getD_set_ne false kI).trans kG
   have hunI:(listed.setIfInBounds i true).getD last false=false:=(getD_set_ne false gJ).trans kG
   refine wpOp_mono (fun a' w' h3=>⟨fun e1 e2=>h3.2.1 e1 ((getD_set_ne false gJ).trans e2),ih (listed.setIfInBounds j true) a' w' hfree' hun' (ready_mono hr (Ne.symm hji)) h3.1 (h3.2.1 kI hunI) ?_⟩) h2
   rw [Array.setIfInBounds_comm _ _ hji]
   exact h3.2.2
theorem V1 {i:Nat} {oi:Oper} {v:Value} {fuel:Nat} {listed:Array Bool} {a:Act} {w:World} (hi:ops[i]? = some oi)
  (hs:Region.noSelect ops=true) (hl:Hf md ops last i=true) (gJ:i≠last) (kG:listed.getD last false=false) (hf:Region.free md ops listed i=true) (hr:(Region.ready md ops listed).contains i=true)
  (hQ:∀ c a w,Q (.panic c) (a.put oi.dst v) w->Q (.panic c) a w) (hS:S w) (hy:YieldsIf P ops S oi v a)
  (h:Gj P md ops Q S last fuel (listed.setIfInBounds i true) (a.put oi.dst v) w):Gj P md ops Q S last (fuel+1) listed a w :=
 Ur hi (Region.noSelect_spec hs) hQ hl gJ fuel listed a w (Region.free_spec hi hf) kG (by simpa using hr) hy hS h
theorem aM (i:Nat) {oi:Oper} {v:Value} {fuel:Nat} {listed:Array Bool} {a:Act} {w:World} (hS:S w)
  (h:Gj P md ops Q S last fuel (listed.setIfInBounds i true) (a.put oi.dst v) w) (hi:ops[i]? = some oi:=by rfl)
  (hs:Region.noSelect ops=true:=by kernel_rfl) (hl:Hf md ops last i=true:=by kernel_rfl) (gJ:i≠last:=by decide) (kG:listed.getD last false=false:=by kernel_rfl) (hf:Region.free md ops listed i=true:=by kernel_rfl) (hr:(Region.ready md ops listed).contains i=true:=by kernel_rfl)
  (hQ:∀ c a w,Q (.panic c) (a.put oi.dst v) w->Q (.panic c) a w:=by exact fun _ _ _ h=>h) (hw:Region.wanted oi (yielded ops a.tmps)=true:=by rfl)
  (hy:∀ w,S w->(execOp a.eval oi).run P w = .ok (.value v) w:=by (intro w hSw;(try dsimp only at hSw);go_simp;all_goals with_reducible rfl)):Gj P md ops Q S last (fuel+1) listed a w :=
 V1 hi hs hl gJ kG hf hr hQ hS (Or.inl ⟨hw,hy⟩) h
theorem X0 {i:Nat} {o:Oper} {fuel:Nat} {listed:Array Bool} {a:Act} {w:World} (ho:ops[i]? = some o) (hr:Region.ready md ops listed=[i])
  (h:∀ K':Act->World->Prop,Hid (∀ a w,(i≠last->listed.getD last false=false->S w)->Gj P md ops Q S last fuel (listed.setIfInBounds i true) a w->K' a w) ->
   if Region.wanted o (yielded ops a.tmps)=true then Oper.wp P o a w K' Q else K' (a.put o.dst undef) w):Gj P md ops Q S last (fuel+1) listed a w:=by
 refine ⟨fun h0=>(by rw [hr] at h0;cases h0),fun j hj=>?_⟩
 rw [hr,List.mem_singleton] at hj
 subst hj
 exact wpOp_step ho (fun K' hK=>h K' (fun a w hS hW=>hK a w ⟨hS,hW⟩))
theorem oM (i:Nat) {o:Oper} {fuel:Nat} {listed:Array Bool} {a:Act} {w:World}
  (h:∀ K':Act->World->Prop,Hid (∀ a w,(i≠last->listed.getD last false=false->S w)->Gj P md ops Q S last fuel (listed.setIfInBounds i true) a w->K' a w) ->
   if Region.wanted o (yielded ops a.tmps)=true then Oper.wp P o a w K' Q else K' (a.put o.dst undef) w) (ho:ops[i]? = some o:=by rfl) (hr:Region.ready md ops listed=[i]:=by kernel_rfl):Gj P md ops Q S last (fuel+1) listed a w:=X0 ho hr h
theorem oM2 (i j:Nat) {oi oj:Oper} {fuel:Nat} {listed:Array Bool} {a:Act} {w:World}
  (h1:∀ K':Act->World->Prop,Hid (∀ a w,(i≠last->listed.getD last false=false->S w)->Gj P md ops Q S last fuel (listed.setIfInBounds i true) a w->K' a w) ->
   if Region.wanted oi (yielded ops a.tmps)=true then Oper.wp P oi a w K' Q else K' (a.put oi.dst undef) w)
  (h2:∀ K':Act->World->Prop,Hid (∀ a w,(j≠last->listed.getD last false=false->S w)->Gj P md ops Q S last fuel (listed.setIfInBounds j true) a w->K' a w) ->
   if Region.wanted oj (yielded ops a.tmps)=true then Oper.wp P oj a w K' Q else K' (a.put oj.dst undef) w) (hi:ops[i]? = some oi:=by rfl) (hj:ops[j]? = some oj:=by rfl) (hr:Region.ready md ops listed=[i,j]:=by kernel_rfl):Gj P md ops Q S last (fuel+1) listed a w:=by
 refine ⟨fun h0=>(by rw [hr] at h0;cases h0),fun k hk=>?_⟩
 rw [hr] at hk
 rcases List.mem_cons.1 hk with rfl | hk
 ·exact wpOp_step hi (fun K' hK=>h1 K' (fun a w hS hW=>hK a w ⟨hS,hW⟩))
 ·have:=List.mem_singleton.1 hk
  subst this
  exact wpOp_step hj (fun K' hK=>h2 K' (fun a w hS hW=>hK a w ⟨hS,hW⟩))
theorem Ov {listed:Array Bool} {a:Act} {w:World} (hr:Region.ready md ops listed=[]) (h:Q .normal a w):∀ fuel,Gj P md ops Q S last fuel listed a w
 | 0=>⟨hr,h⟩
 | _+1=>⟨fun _=>h,by rw [hr];intro i hi;cases hi⟩
theorem Pp {id:Nat} {a:Act} {w:World} (S:World->Prop) (last:Nat) (hm:P.follows .mixedOrders=true) (hS:S w.drew)
  (h:S w.drew->Gj P .any ops Q S last ops.size (Array.replicate ops.size false) a w.drew):(Code.region id ops true).wp P Q a w :=
 wp_region_any hm (Qv _ _ _ _ (h hS))
end
def Ach (v:Value) (lo hi:Nat):Prop:=∀ g,v.ownBlock=some g->lo<=g/\g<hi
theorem Ow.within {α:Type} {e:Enc α} {E:TypeId} {w:World} {base:Nat} {v:Value} {l:List α} (h:Ow e E w base v l):Ach v base w.heap.size:=by
 intro g hg
 rcases h.form with ⟨rfl,_⟩ | ⟨g',cap,rfl,h1,h2,_⟩
 ·simp [Value.ownBlock] at hg
 ·have:g'=g:=by simpa [Value.ownBlock] using hg
  omega
structure BoxAt (b:Nat) (p:Plan) (v:Value) (w:World):Prop where
 cells:w.cell? ⟨b,0,none⟩=some (.int .i64 p.prio)/\w.cell? ⟨b,1,none⟩=some (.int .i64 p.most)/\w.cell? ⟨b,2,none⟩=some (.int .i64 p.wait) /\
  w.cell? ⟨b,3,none⟩=some (.int .i64 p.tasks)/\w.cell? ⟨b,4,none⟩=some v/\b<w.heap.size
 free:∀ j,w.frozen? ⟨b,j,none⟩=false
theorem BoxAt.lt {b:Nat} {p:Plan} {v:Value} {w:World} (h:BoxAt b p v w):b<w.heap.size:=h.cells.2.2.2.2.2
theorem BoxAt.new' (T:TypeId) (p:Plan) (v:Value) (w:World) {b:Nat} (hb:b=w.heap.size):BoxAt b p v (w.alloc (.cells #[.int .i64 p.prio,.int .i64 p.most,.int .i64 p.wait,.int .i64 p.tasks,v] T)):=by
 subst hb
 refine ⟨⟨?_,?_,?_,?_,?_,by simp⟩,fun j=>?_⟩
 all_goals simp [go_sem]
theorem BoxAt.new (T:TypeId) (p:Plan) (v:Value) (w:World):BoxAt w.heap.size p v (Ci T p v w):=BoxAt.new' T p v w rfl
theorem BoxAt.keep {b:Nat} {p:Plan} {v:Value} {w w':World} (h:BoxAt b p v w) (hs:w.heap.size<=w'.heap.size) (hk:∀ j,w'.cell? ⟨b,j,none⟩=w.cell? ⟨b,j,none⟩) (hf:∀ j,w'.frozen? ⟨b,j,none⟩=w.frozen? ⟨b,j,none⟩):BoxAt b p v w':=by
 obtain ⟨h0,h1,h2,h3,h4,h5⟩:=h.cells
 exact ⟨⟨(hk 0).trans h0,(hk 1).trans h1,(hk 2).trans h2,(hk 3).trans h3,(hk 4).trans h4,Nat.lt_of_lt_of_le h5 hs⟩,fun j=>(hf j).trans (h.free j)⟩
theorem BoxAt.upto {B b:Nat} {p:Plan} {v:Value} {w w':World} (h:BoxAt b p v w) (hb:Below B w w') (aA:b<B):BoxAt b p v w' :=
 h.keep hb.size (fun j=>hb.cell (p:=⟨b,j,none⟩) aA) (fun j=>hb.frozen (p:=⟨b,j,none⟩) aA)
theorem BoxAt.below {b:Nat} {p:Plan} {v:Value} {w w':World} (h:BoxAt b p v w) (hb:Below w.heap.size w w'):BoxAt b p v w':=h.upto hb h.lt
theorem BoxAt.far {b:Nat} {p:Plan} {v:Value} {w w':World} {row:Option Nat} (h:BoxAt b p v w) (hg:w.grownBy w' row) (aC:some b≠row):BoxAt b p v w' :=
 h.keep hg.size (fun j=>hg.cell_far ⟨b,j,none⟩ h.lt aC) (fun j=>hg.frozen_far ⟨b,j,none⟩ h.lt aC)
theorem Mh (w:World) (a:Addr) (u:Value):w.grownBy (w.setCell a u) (some a.block) :=
 ⟨rfl,rfl,rfl,by simp [World.setCell],fun k _ aC=>Below.heap_setCell w a u k (fun e=>aC (by rw [e]))⟩
theorem Ow.setOther {α:Type} {e:Enc α} {E:TypeId} {w:World} {base:Nat} {v:Value} {l:List α} (h:Ow e E w base v l) {a:Addr} (aC:v.ownBlock≠some a.block) (u:Value):Ow e E (w.setCell a u) base v l :=
 h.grown (Mh w a u) (.inr aC)
structure EdgeAt (b:Nat) (e:Edge) (w:World):Prop where
 cells:w.cell? ⟨b,0,none⟩=some (.int .i64 e.fr)/\w.cell? ⟨b,1,none⟩=some (.int .i64 e.to)/\b<w.heap.size
end Go.Proofs.YtonlnjdempbfoaaGreat
