/-
  Words for memory: how a list of plain data lies in a slice; a slice of the call's own; what is kept when new memory is made. Plain facts on finite graphs: the c
-/
import Derived.Test.YtecnbnbopcblgaaGreatRows
import Derived.WalkKit
import Derived.Lib.Hide
import Derived.Deep.QuietTactic
import Derived.BigQuiet
import Derived.StillTailTactics
import Derived.Deep.RegionHeld3
import Derived.Maps.AppendAt
import Derived.Deep.AppendLies
import Derived.KernelRfl
import Derived.Shelf.Small.Bits
import Derived.Shelf.Strconv.Itoa0
import Derived.Shelf.Sort.Plain
import Derived.Ground.Names2Prog
import Derived.Shelf.Slices.SearchI
import Derived.Shelf.Slices.In.SortNone
import Derived.Test.YtecnbnbopcblgaaGreatProg
import Derived.ProofKit
import Derived.Deep.Slices
namespace Go.Proofs.YtecnbnbopcblgaaGreat
open Go.RowKit
set_option maxRecDepth 100000
set_option maxHeartbeats 4000000
set_option linter.unusedVariables false
set_option linter.unusedSimpArgs false
instance : Coe World Nat := ⟨fun w => w.heap.size⟩
theorem Ajl {p:Prop} (h:p:=by rw [BitVec.ofInt_natCast,BitVec.toNat_ofNat];exact Nat.mod_eq_of_lt Bl):p:=h
theorem Aj1 {p:Prop} (h:p:=by go_wp2;go_quiet (fail);go_wp2;exact ⟨⟨j+1,Bl,by go_num,by rw [bJ.out];exact (ho.below (Dq ((Bs wr wr).alloc (Bt _) _) _)),by rw [bJ.out];exact (hl.below (Dq ((Bs wr wr).alloc (Bt _) _) _)),Dq (hb.alloc hb.size _) _⟩,clM⟩):p:=h
theorem Ak6 {p:Prop} (h:p:=by go_wp2;go_ret;exact ⟨Bx (by simp [inB,t1]),rfl⟩):p:=h
theorem Al1 {p:Prop} (h:p:=by have hy:y<9223372036854775808:=hx;clear h1 h2 hx;rw [Int.emod_eq_of_lt Bl Bl,Int.add_sub_cancel]):p:=h
theorem Amu {p:Prop} (h:p:=by unfold Addr.add;split<;>simp_all):p:=h
theorem Am8 {p:Prop} (h:p:=by
 have:=(List.getElem?_eq_some_iff.1 hu).1
 rw [e.len] at this;exact this):p:=h
theorem Am9 {p:Prop} (h:p:=by simp [List.getD_eq_getElem?_getD,List.getElem?_replicate];split<;>simp):p:=h
theorem Br {p:Prop} (h:p):Hid p:=h
theorem Bs (b:Nat) (w:World):Below b w w:=Below.refl b w
theorem Bt (n:Nat):n<=n:=Nat.le_refl n
theorem Bu {w:World} {o:Obj} : Below w.heap.size w (w.alloc o):=(Below.refl _ _).alloc (Nat.le_refl _) o
theorem Bl {p:Prop} (h:p:=by omega):p:=h
theorem Bm {p:Prop} (h:p:=by kernel_rfl):p:=h
theorem Bo {p:Prop} (h:p:=by simp):p:=h
theorem Bp {p:Prop} (h:p:=by simp<;>omega):p:=h
theorem Bq {p:Prop} (h:p:=by decide):p:=h
open Value renaming int->J,slice->Aa
open IntKind renaming i64->U
open Option renaming none->Ab,some->Ac
open Nat renaming zero_le->Ag,lt_of_lt_of_le->Ai
open Go.Proofs.Tryz renaming prog->Am
open Char renaming ofNat->An
open Int renaming toNat_natCast->Ao,eq_ofNat_of_zero_le->Ap
open List renaming length_map->Ar,getElem_mem->Aw,length_take->Az,length_append->Bd
open Go.Proofs.Tryz
theorem clM {p:Prop} (h:p:=by simp [intOf];omega):p:=h
theorem clR {p:Prop} (h:p:=by repeat' first | rfl | apply And.intro):p:=h
structure Enc (α:Type) where
 cells:α->List Value
 sz:Nat
 len:∀ x,(cells x).length=sz
 one:∀ x,∀ u∈cells x,u.oneCell'=true
section
variable {α:Type} {e:Enc α} {w w':World} {B B':Nat} {v:Value} {l:List α}
theorem Enc.flat_length (e:Enc α):∀ l:List α,(l.flatMap e.cells).length=l.length * e.sz
 | []=>by simp
 | x :: l=>by rw [List.flatMap_cons,Bd,e.len,Enc.flat_length e l,List.length_cons,Nat.succ_mul,Nat.add_comm]
theorem Enc.flat_get (e:Enc α) {j:Nat} (hj:j<e.sz):∀ (l:List α) (k:Nat) (h:k<l.length),(l.flatMap e.cells)[k * e.sz+j]? = (e.cells l[k])[j]?
 | [],k,h=>absurd h Bo
 | x :: l,0,_=>by
  rw [List.flatMap_cons,Nat.zero_mul,Nat.zero_add,List.getElem?_append_left (by rw [e.len];exact hj)];rfl
 | x :: l,k+1,h=>by
  rw [List.flatMap_cons,List.getElem?_append_right (by rw [e.len,Nat.succ_mul];omega),e.len,
   show (k+1) * e.sz+j - e.sz=k * e.sz+j from by rw [Nat.succ_mul];omega]
  exact Enc.flat_get e hj l k (by simpa using h)
def Rr (xs:List Value) (i:Nat):List Value->List Value
 | []=>xs
 | u :: us=>Rr (xs.set i u) (i+1) us
def Ie (w:World) (g i:Nat):List Value->World
 | []=>w
 | u :: us=>Ie (w.setCell ⟨g,i,Ab⟩ u) g (i+1) us
theorem Rs:∀ (us xs:List Value) (i:Nat),i+us.length<=xs.length->Rr xs i us=xs.take i ++ us ++ xs.drop (i+us.length)
 | [],xs,i,_=>by simp [Rr]
 | u :: us,xs,i,h=>by
  simp only [List.length_cons] at h;rw [Rr,Rs us _ _ (by simp;omega)];have h1:(xs.set i u).take (i+1)=xs.take i ++ [u]:=by
   rw [List.take_set,List.take_succ_eq_append_getElem Bl,List.set_append_right _ _ (by simp;omega)];simp [show i - min i xs.length=0 from by omega]
  have h2:(xs.set i u).drop (i+1+us.length)=xs.drop (i+(u :: us).length):=by
   rw [List.drop_set_of_lt Bl];congr 1;simp;omega
  rw [h1,h2];simp
theorem Enc.flat_put (e:Enc α) (x:α):∀ (l:List α) (k:Nat),k<l.length->Rr (l.flatMap e.cells) (k * e.sz) (e.cells x)=(l.set k x).flatMap e.cells:=by
 intro l k hk;rw [Rs _ _ _ (by
  rw [e.flat_length,e.len];have:(k+1) * e.sz<=l.length * e.sz:=Nat.mul_le_mul_right _ hk;rw [Nat.succ_mul] at this;exact this),e.len]
 have hl:l=l.take k ++ l[k] :: l.drop (k+1):=by
  rw [List.getElem_cons_drop hk,List.take_append_drop]
 have hs:l.set k x=l.take k ++ x :: l.drop (k+1):=by
  rw [List.set_eq_take_append_cons_drop,if_pos hk]
 rw [hs];have e1:(l.take k).flatMap e.cells=(l.flatMap e.cells).take (k * e.sz):=by
  conv=>rhs;rw [hl,List.flatMap_append]
  rw [List.take_left' (by rw [e.flat_length,Az,Nat.min_eq_left (Nat.le_of_lt hk)])]
 have e2:(l.drop (k+1)).flatMap e.cells=(l.flatMap e.cells).drop (k * e.sz+e.sz):=by
  conv=>rhs;rw [hl,List.flatMap_append,List.flatMap_cons,<-List.append_assoc]
  rw [List.drop_left' (by rw [Bd,e.flat_length,e.len,Az,Nat.min_eq_left (Nat.le_of_lt hk)])]
 rw [List.flatMap_append,List.flatMap_cons,e1,e2,List.append_assoc]
def Rd (e:Enc α) (w:World) (B:Nat) (v:Value) (l:List α):Prop :=
 ∃ A c,v = Aa A l.length c/\l.length<=c/\(0<l.length -> ∃ b o,A=Ac ⟨b,o,Ab⟩/\b<B /\
  ∀ (k:Nat) (h:k<l.length) (j:Nat) (u:Value),(e.cells l[k])[j]? = Ac u->w.cell? ⟨b,o+k * e.sz+j,Ab⟩=Ac u)
theorem Rd.keep (h:Rd e w B v l) (hk:∀ p:Addr,p.block<B->w'.cell? p=w.cell? p):Rd e w' B v l:=by
 obtain ⟨A,c,hv,cI,hA⟩:=h;refine ⟨A,c,hv,cI,fun hl=>?_⟩;obtain ⟨b,o,hb,aA,hc⟩:=hA hl;exact ⟨b,o,hb,aA,fun k aZ j u hu=>(hk _ aA).trans (hc k aZ j u hu)⟩
theorem Rd.more (h:Rd e w B v l) (hB:B<=B'):Rd e w B' v l:=by
 obtain ⟨A,c,hv,cI,hA⟩:=h;refine ⟨A,c,hv,cI,fun hl=>?_⟩;obtain ⟨b,o,hb,aA,hc⟩:=hA hl;exact ⟨b,o,hb,Bl,hc⟩
theorem Rd.below (h:Rd e w B v l) (hb:Below B w w'):Rd e w' B v l:=h.keep fun _ hp=>hb.cell hp
def Ow (e:Enc α) (E:TypeId) (w:World) (base:Nat) (v:Value) (l:List α):Prop:=w.ownsRow base E e.sz v l.length (l.flatMap e.cells)
theorem Ow.nil (e:Enc α) (E:TypeId) (w:World) (base:Nat):Ow e E w base (Aa Ab 0 0) []:=World.ownsRow_nil w base E e.sz
theorem Ow.form {E:TypeId} {base:Nat} (h:Ow e E w base v l):(v = Aa Ab 0 0/\l=[]) \/
  ∃ g cap,v = Aa (Ac ⟨g,0,Ab⟩) l.length cap/\base<=g/\g<w.heap.size/\l.length<=cap/\cap<=maxLen/\(∀ j,w.frozen? ⟨g,j,Ab⟩=false) /\
   ∀ (k:Nat) (h:k<l.length) (j:Nat) (u:Value),(e.cells l[k])[j]? = Ac u->w.cell? ⟨g,k * e.sz+j,Ab⟩=Ac u:=by
 have h0:=h;rcases h.2 with ⟨hv,hn⟩ | ⟨g,cap,cur,hv,hg,hh,hc,hm,_,_⟩
 ·exact .inl ⟨hv,List.eq_nil_of_length_eq_zero hn⟩
 ·subst hv;refine .inr ⟨g,cap,rfl,hg,(h.lt g rfl).2,hc,hm,fun j=>World.ownsRow.frozenAt h j,fun k hk j u hu=>?_⟩;have hj:j<e.sz:=Am8
  have aA:k * e.sz+j<l.length * e.sz:=by
   have:(k+1) * e.sz<=l.length * e.sz:=Nat.mul_le_mul_right _ hk;rw [Nat.succ_mul] at this;omega
  rw [World.ownsRow.cellAt h _ aA,e.flat_get hj l k hk];exact hu
theorem Ow.free {E:TypeId} {base g n cap:Nat} (h:Ow e E w base (Aa (Ac ⟨g,0,Ab⟩) n cap) l) (j:Nat):w.frozen? ⟨g,j,Ab⟩=false:=by
 rcases h.form with ⟨h1,_⟩ | ⟨g',cap',hv,_,_,_,_,hf,_⟩
 ·simp at h1
 ·simp only [Value.slice.injEq,Option.some.injEq,Addr.mk.injEq,and_true] at hv;obtain ⟨rfl,_,_⟩:=hv;exact hf j
theorem Ow.blk {E:TypeId} {base g n cap:Nat} (h:Ow e E w base (Aa (Ac ⟨g,0,Ab⟩) n cap) l):base<=g/\g<w:=by
 rcases h.form with ⟨h1,_⟩ | ⟨g',cap',hv,hb,hg,_⟩
 ·simp at h1
 ·simp only [Value.slice.injEq,Option.some.injEq,Addr.mk.injEq,and_true] at hv;obtain ⟨rfl,_,_⟩:=hv;exact ⟨hb,hg⟩
theorem Rd.of_own {E:TypeId} {base:Nat} (h:Ow e E w base v l):Rd e w w v l:=by
 rcases h.form with ⟨rfl,rfl⟩ | ⟨g,cap,rfl,_,aA,cI,_,_,hc⟩
 ·exact ⟨Ab,0,rfl,Bt _,fun h=>absurd h Bo⟩
 ·exact ⟨_,cap,rfl,cI,fun _=>⟨g,0,rfl,aA,fun k hk j u hu=>by rw [Nat.zero_add];exact hc k hk j u hu⟩⟩
theorem Rd.take {A:Option Addr} {n c k:Nat} (h:Rd e w B (Aa A n c) l) (hk:k<=l.length) (c':Nat) (hc':k<=c'):Rd e w B (Aa A k c') (l.take k):=by
 obtain ⟨A',c0,hv,_,hA⟩:=h;simp only [Value.slice.injEq] at hv;obtain ⟨rfl,rfl,rfl⟩:=hv;refine ⟨A,c',by rw [Az,Nat.min_eq_left hk],by rw [Az,Nat.min_eq_left hk];exact hc',fun hl=>?_⟩;rw [Az,Nat.min_eq_left hk] at hl;obtain ⟨b,o,hb,aA,hc⟩:=hA Bl;refine ⟨b,o,hb,aA,fun i hi j u hu=>?_⟩;rw [Az,Nat.min_eq_left hk] at hi;rw [List.getElem_take] at hu;exact hc i Bl j u hu
theorem Rd.cap {A:Option Addr} {n c:Nat} (h:Rd e w B (Aa A n c) l):l.length<=c:=by
 obtain ⟨A',c0,hv,hc,_⟩:=h;simp only [Value.slice.injEq] at hv;rw [hv.2.2];exact hc
theorem Rd.nil (e:Enc α) (w:World) (B c:Nat):Rd e w B (Aa Ab 0 c) []:=⟨Ab,c,rfl,Ag _,fun h=>absurd h Bo⟩
theorem Ow.snoc {E:TypeId} {base:Nat} {x:α} (h:w.ownsRow base E e.sz v (l.length+1) (l.flatMap e.cells ++ e.cells x)):Ow e E w base v (l ++ [x]):=by
 unfold Ow;rw [Bd,List.length_singleton,List.flatMap_append,List.flatMap_singleton];exact h
theorem Ow.below {E:TypeId} {base:Nat} (h:Ow e E w base v l) (hb:Below w w w'):Ow e E w' base v l:=by
 refine World.ownsRow.kept (row:=Ab) h ⟨hb.os,hb.tape,hb.output,hb.size,fun k hk _=>hb.block k hk⟩ ?_;cases hv:v.ownBlock with
 | none=>exact .inl rfl
 | some g=>exact .inr Bo
theorem Ow.more {E:TypeId} {base base':Nat} (h:Ow e E w base v l) (hb:base'<=base):Ow e E w base' v l:=by
 obtain ⟨h1,h2⟩:=h;refine ⟨h1,?_⟩;rcases h2 with h2 | ⟨g,cap,cur,hv,hg,r⟩
 ·exact .inl h2
 ·exact .inr ⟨g,cap,cur,hv,Bl,r⟩
end
theorem Uf {E:TypeId} {sz base g cap:Nat} (n:Nat):∀ (us xs:List Value) (w:World) (i:Nat),w.ownsRow base E sz (Aa (Ac ⟨g,0,Ab⟩) n cap) n xs ->
  (Ie w g i us).ownsRow base E sz (Aa (Ac ⟨g,0,Ab⟩) n cap) n (Rr xs i us)/\w.grownBy (Ie w g i us) (Ac g)
 | [],xs,w,i,h=>⟨h,World.grownBy.refl w _⟩
 | u :: us,xs,w,i,h=>by
  have h1:=World.ownsRow.stored h i u;have h2:=Uf n us _ _ (i+1) h1.1;exact ⟨h2.1,h1.2.trans h2.2⟩
theorem Ow.put {α:Type} {e:Enc α} {E:TypeId} {w:World} {base g cap n:Nat} {l:List α} (h:Ow e E w base (Aa (Ac ⟨g,0,Ab⟩) n cap) l) (hn:l.length=n) (k:Nat) (hk:k<n) (x:α) :
  Ow e E (Ie w g (k * e.sz) (e.cells x)) base (Aa (Ac ⟨g,0,Ab⟩) n cap) (l.set k x)/\w.grownBy (Ie w g (k * e.sz) (e.cells x)) (Ac g):=by
 subst hn
 have:=Uf (cap:=cap) l.length (e.cells x) _ w (k * e.sz) h
 rw [e.flat_put x l k hk] at this;unfold Ow;rw [List.length_set];exact this
theorem Ug {α:Type} (e:Enc α) (x:α) (n:Nat) (bL:0<e.sz):(madeCells (e.cells x).toArray (n * e.sz)).toList=(List.replicate n x).flatMap e.cells:=by
 apply List.ext_getElem?;intro i;by_cases hi:i<n * e.sz
 ·have hk:i / e.sz<n:=Nat.div_lt_of_lt_mul (by rw [Nat.mul_comm];exact hi);have hj:i % e.sz<e.sz:=Nat.mod_lt _ bL;have sA:i / e.sz * e.sz+i % e.sz=i:=by rw [Nat.mul_comm];exact Nat.div_add_mod _ _
  have h1:=e.flat_get hj (List.replicate n x) (i / e.sz) (by simpa using hk);rw [sA] at h1;rw [h1];have hl:i % e.sz<(e.cells x).length:=by rw [e.len];exact hj
  have hz:0<(e.cells x).length:=by rw [e.len];exact bL
  simp [madeCells,hi,e.len,hj]
 ·rw [List.getElem?_eq_none (by simp [madeCells];omega),List.getElem?_eq_none (by rw [e.flat_length];simp;omega)]
theorem Ow.made {α:Type} (e:Enc α) (E:TypeId) (w:World) (x:α) (n:Nat) (bL:0<e.sz) (hn:n<=maxLen) {z:Array Value} (hz:z=(e.cells x).toArray) {m:Nat} (hm:m=n * e.sz) :
  Ow e E (w.alloc (.cells (madeCells z m) E)) w (Aa (Ac ⟨w,0,Ab⟩) n n) (List.replicate n x):=by
 subst hz;subst hm
 have:=World.ownsRow_lit (base:=w) (e:=E) (size:=e.sz) w (madeCells (e.cells x).toArray (n * e.sz)) n (Bt _) hn (size_madeCells _ _)
 rw [Ug e x n bL] at this;unfold Ow;rw [List.length_replicate];exact this
theorem Ow.ne_ {α β:Type} {e:Enc α} {e':Enc β} {E E':TypeId} {w:World} {base base':Nat} {v v':Value} {l:List α} {l':List β} (h:Ow e E w base v l) (h':Ow e' E' w base' v' l') (aC:E≠E') :
  v.ownBlock=Ab\/v.ownBlock≠v'.ownBlock:=by
 rcases h.2 with ⟨rfl,_⟩ | ⟨g,cap,cur,rfl,_,hh,_⟩
 ·exact .inl rfl
 ·rcases h'.2 with ⟨rfl,_⟩ | ⟨g',cap',cur',rfl,_,hh',_⟩
  ·exact .inr (by simp [Value.ownBlock])
  ·refine .inr (fun he=>?_);have:g=g':=by simpa [Value.ownBlock] using he
   subst this;rw [hh] at hh';injection hh' with hh'
   injection hh' with _ ht
   exact aC ht
theorem Ow.grown {α:Type} {e:Enc α} {E:TypeId} {w w':World} {base:Nat} {v:Value} {l:List α} {row:Option Nat} (h:Ow e E w base v l) (hg:w.grownBy w' row) (aC:v.ownBlock=Ab\/v.ownBlock≠row):Ow e E w' base v l :=
 World.ownsRow.kept h hg aC
theorem Qt (w:World) (cs:Array Value) (T:TypeId) {g:Nat} (hg:g=w):∀ j u,cs.toList[j]? = Ac u->(w.alloc (.cells cs T)).cell? ((⟨g,0,Ab⟩:Addr).add j)=Ac u:=by
 subst hg;intro j u hu;have h:(w.alloc (.cells cs T)).cell? ⟨w,j,Ab⟩=cs[j]?:=cell_of_row _ _ j cs T (0,0) (heap_alloc_new w _);have e:((⟨w,0,Ab⟩:Addr).add j)=⟨w,j,Ab⟩:=Amu
 rw [e,h];simpa using hu
theorem K3 {α:Type} {P:Program} {ops:Array Oper} {rest:List Oper} {o:Oper} {a:Act} {Q:Exit->Act->World->Prop} {w:World} (e:Enc α) (bL:0<e.sz) {base:Nat} {E t:TypeId} {i:TypeInfo} {z:Value} {bytes:Nat}
  (dF:o.guard=Ab) (s x:Operand) (ho:o.op = .call { callee:=.builtin .append,args:=#[s,x],argTypes:=#[t,t] })
  (ht:P.underlying t=Ac (.slice E)) (hi:P.info? E=Ac i) (hz:i.zero=Ac z) (cJ:i.size=e.sz) (cC:i.bytes=bytes) (hzs:z.cells.size=e.sz)
  {v:Value} {l:List α} (y:α) (hs:a.eval s=v) (hown:Ow e E w base v l) (ad:Addr) (c:Nat) (hx:a.eval x = .slice (Ac ad) 1 c) (hnews:∀ j u,(e.cells y)[j]? = Ac u->w.cell? (ad.add j)=Ac u)
  (aE:l.length<=3000000) (hbytes:bytes<=10000) (aV:base<=w.heap.size)
  (h:∀ v' w',Ow e E w' base v' (l ++ [y])->w.grownBy w' v.ownBlock->wpList P ops Q rest (a.put o.dst v') w'):wpList P ops Q (o :: rest) a w:=by
 refine wpList_append_own w dF s x t ho base E i z e.sz bytes ht hi hz cJ cC hzs bL v l.length (l.flatMap e.cells) hs hown ad 1 c (e.cells y) hx (by rw [e.len,Nat.one_mul]) hnews (e.one y) (by simp [maxLen];omega) ?_ aV ?_
 ·have h1:(l.length+1) * bytes<=3000001 * 10000:=Nat.mul_le_mul Bl hbytes;omega
 ·intro v' w' h1 h2 _;exact h v' w' (Ow.snoc h1) h2
def Iz:Enc Int:={ cells:=fun x=>[J U x],sz:=1,len:=fun _=>rfl,one:=fun _ u hu=>by simp at hu;subst hu;rfl }
theorem Gf {W w1:World} (hb:Below W W w1):(∀ b o,b<W.heap.size->w1.cell? ⟨b,o,Ab⟩=W.cell? ⟨b,o,Ab⟩)/\(∀ b o,b<W.heap.size->w1.frozen? ⟨b,o,Ab⟩=W.frozen? ⟨b,o,Ab⟩) :=
 ⟨fun b o h=>hb.cell (p:=⟨b,o,Ab⟩) h,fun b o h=>hb.frozen (p:=⟨b,o,Ab⟩) h⟩
theorem Bv {w w1 w2:World} (h:Below w w w1) (k:Below w1 w1 w2):Below w w w2:=h.trans (k.mono h.size)
theorem Dq {B:Nat} {a w:World} (h:Below B a w) (n:Nat):Below B a (w.drewN n):=⟨h.os,h.tape,h.output,h.size,h.block⟩
def Lv (left:Int) (n:Nat) (w:World) (e:Ending) (w':World):Prop:=∃ r:Int,e = .returned (J U r)/\(r = -1\/(0<=r/\r+n<=left))/\Below w w w'
theorem Cy {k:IntKind} {a b:Int} (h:a=b):Ending.returned (.int k a) = .returned (.int k b):=by rw [h]
theorem Bx {a b:Bool} (h:a=b):Ending.returned (.bool a) = .returned (.bool b):=by rw [h]
theorem Cp {α:Type} (l:List α) (k:Nat) (h:k<l.length):l.take (k+1)=l.take k ++ [l[k]]:=by
 rw [List.take_succ_eq_append_getElem h]
/-! A region that draws its order,whose operations only read old memory and whose callees only make new memory and hand back values that do not depend on it: one walk serves. -/
def J2 (w:World):Type:={ u:World // Below w w u }
instance (w:World):Nonempty (J2 w):=⟨⟨w,Bs _ _⟩⟩
theorem Bz {P:Program} {id:Nat} {Q:Exit->Act->World->Prop} {a:Act} {w:World} {l:List Oper} (hm:P.follows .mixedOrders=true) (hB:Region.lexB .any l.toArray=true)
  (h:wpQuiet P l.toArray (fun w'=>∃ u:J2 w,w'=u.1) (fun a'=>∀ w',(∃ u:J2 w,w'=u.1)->Q .normal a' w') l a):(Code.region id l.toArray true).wp P Q a w :=
 wp_region_quiet (C:=fun w'=>∃ u:J2 w,w'=u.1) hm hB ⟨⟨w.drew,(Bs _ _).drew⟩,rfl⟩ (by simpa using h)
theorem Cw (w:World):∀ (u:J2 w) (b o:Nat),b<w->(u.1).cell? ⟨b,o,Ab⟩=w.cell? ⟨b,o,Ab⟩:=fun u b o h=>u.2.cell (p:=⟨b,o,Ab⟩) h
theorem Fu {P:Program} {f:FuncId} {args:Array Value} {w:World} {u:J2 w} {v:Value}
  (h:Calls P f args u.1 fun e w'=>e = .returned v/\Below u.1 u.1 w'):Calls P f args u.1 fun e w''=>e = .returned v /\ ∃ u':J2 w,w''=u'.1 :=
 h.mono fun _ _ ⟨he,hb⟩=>⟨he,⟨_,Bv u.2 hb⟩,rfl⟩
theorem Jf {P:Program} {f:FuncId} {args:Array Value} {w:World} {u:J2 w} {v:Value}
  (h:∀ u:J2 w,Calls P f args u.1 fun e w'=>e = .returned v/\Below u.1 u.1 w'):Calls P f args u.1 fun e w''=>e = .returned v /\ ∃ u':J2 w,w''=u'.1 :=
 (h u).mono fun _ _ ⟨he,hb⟩=>⟨he,⟨_,Bv u.2 hb⟩,rfl⟩
theorem Da {P:Program} {f:FuncId} {args:Array Value} {w:World} {u:J2 w} {v:Value}
  (h:∀ u:J2 w,Calls P f args u.1 fun e w'=>e = .returned v/\u.1=w'):Calls P f args u.1 fun e w''=>e = .returned v /\ ∃ u':J2 w,w''=u'.1 :=
 (h u).mono fun _ _ ⟨he,hb⟩=>⟨he,u,hb.symm⟩
end Go.Proofs.YtecnbnbopcblgaaGreat
namespace Go.Proofs.YtecnbnbopcblgaaGreat.Pg
inductive Way (es:List (Nat×Nat)):Nat->List Nat->Nat->Prop
 | nil (a:Nat):Way es a [] a
 | cons {a c b:Nat} {l:List Nat} : (a,c)∈es->Way es c l b->Way es a (c :: l) b
def Reach (es:List (Nat×Nat)) (a b:Nat):Prop:=∃ l,l≠[]/\Way es a l b
theorem Way.split {es:List (Nat×Nat)} {x b:Nat} {l2:List Nat} : ∀ {a:Nat} (l1:List Nat),Way es a (l1 ++ x :: l2) b->Way es x l2 b
 | _,[],h=>by cases h with | cons _ h=>exact h
 | _,_ :: l1,h=>by cases h with | cons _ h=>exact Way.split l1 h
theorem Way.snoc {es:List (Nat×Nat)} {b c:Nat} : ∀ {a:Nat} {l:List Nat},Way es a l b->(b,c)∈es->Way es a (l ++ [c]) c
 | _,_,.nil _,he=>.cons he (.nil _)
 | _,_,.cons h1 h2,he=>.cons h1 (h2.snoc he)
theorem Way.simple {es:List (Nat×Nat)} {b:Nat} : ∀ (l:List Nat) {a c:Nat},Way es a (c :: l) b -> ∃ l',Way es a (c :: l') b/\(c :: l').Nodup
 | [],_,_,h=>⟨[],h,by simp⟩
 | d :: l,a,c,h=>by
  cases h with
  | cons h1 h2 =>
   obtain ⟨l',hw,hn⟩:=Way.simple l h2;by_cases hc:c∈d :: l'
   ·obtain ⟨l1,l2,he⟩:=List.append_of_mem hc;rw [he] at hw hn;refine ⟨l2,.cons h1 (hw.split l1),?_⟩;exact (List.nodup_append.1 hn).2.1
   ·exact ⟨d :: l',.cons h1 hw,List.nodup_cons.2 ⟨hc,hn⟩⟩
theorem Uh:∀ (T:Nat) (l:List Nat),l.Nodup->(∀ x∈l,x<T)->l.length<=T
 | 0,l,_,h=>by
  cases l with
  | nil=>simp
  | cons a l=>exact absurd (h a (by simp)) (by omega)
 | T+1,l,hn,h=>by
  have h1:=Uh T (l.erase T) (hn.erase T) (fun x hx=>by
   have dR:=(hn.mem_erase_iff).1 hx
   have:=h x dR.2
   have:=dR.1
   omega)
  have h2:l.length<=(l.erase T).length+1:=by
   rw [List.length_erase];split<;>omega
  omega
theorem Way.mem {es:List (Nat×Nat)} {b:Nat} {T:Nat} (sX:∀ e∈es,e.2<T):∀ {a:Nat} {l:List Nat},Way es a l b -> ∀ x∈l,x<T
 | _,_,.nil _=>by simp
 | _,_,.cons h1 h2=>by
  intro x hx;rcases List.mem_cons.1 hx with rfl | hx
  ·exact sX _ h1
  ·exact h2.mem sX x hx
theorem Reach.short {es:List (Nat×Nat)} {a b T:Nat} (sX:∀ e∈es,e.2<T) (h:Reach es a b):∃ l,l≠[]/\l.length<=T/\Way es a l b:=by
 obtain ⟨l,hl,hw⟩:=h;match l,hl,hw with
 | c :: l,_,hw =>
  obtain ⟨l',nQ,hn⟩:=hw.simple l;exact ⟨c :: l',by simp,Uh T _ hn (nQ.mem sX),nQ⟩
theorem Reach.one {es:List (Nat×Nat)} {a b:Nat} (h:(a,b)∈es):Reach es a b:=⟨[b],by simp,.cons h (.nil _)⟩
theorem Reach.cons {es:List (Nat×Nat)} {a c b:Nat} (h:(a,c)∈es) (h':Reach es c b):Reach es a b:=by
 obtain ⟨l,_,hw⟩:=h';exact ⟨c :: l,by simp,.cons h hw⟩
theorem Reach.snoc {es:List (Nat×Nat)} {a c b:Nat} (h':Reach es a c) (h:(c,b)∈es):Reach es a b:=by
 obtain ⟨l,_,hw⟩:=h';exact ⟨l ++ [b],by simp,hw.snoc h⟩
/-! The closure by rounds: o a is a set of nodes,as a number. -/
def Pp (o:List Nat) (e:Nat×Nat):List Nat:=o.set e.1 (o.getD e.1 0 ||| (1 <<< e.2 ||| o.getD e.2 0))
def Lw (es:List (Nat×Nat)) (o:List Nat):List Nat:=es.foldl Pp o
def Lf (es:List (Nat×Nat)):Nat->List Nat->List Nat
 | 0,o=>o
 | k+1,o=>Lw es (Lf es k o)
theorem Lg (o:List Nat) (e:Nat×Nat):(Pp o e).length=o.length:=by simp [Pp]
theorem Wr (es:List (Nat×Nat)):∀ o:List Nat,(Lw es o).length=o.length:=by
 unfold Lw;induction es with
 | nil=>intro o;rfl
 | cons e es ih=>intro o;rw [List.foldl_cons,ih,Lg]
theorem Lx (es:List (Nat×Nat)) (o:List Nat):∀ k,(Lf es k o).length=o.length
 | 0=>rfl
 | k+1=>by rw [Lf,Wr,Lx es o k]
theorem Aei (i b:Nat):(1 <<< i).testBit b=decide (i=b):=by
 rw [Nat.shiftLeft_eq,Nat.one_mul,Nat.testBit_two_pow]
theorem Rt (o:List Nat) (e:Nat×Nat) (a:Nat) (h:e.1<o.length) :
  (Pp o e).getD a 0=if a=e.1 then o.getD e.1 0 ||| (1 <<< e.2 ||| o.getD e.2 0) else o.getD a 0:=by
 unfold Pp;simp only [List.getD_eq_getElem?_getD,List.getElem?_set];by_cases ha:a=e.1
 ·subst ha;simp [h]
 ·rw [if_neg (fun h=>ha h.symm),if_neg ha]
theorem Ui (o:List Nat) (e:Nat×Nat) (a b:Nat) (h:e.1<o.length) (hb:(o.getD a 0).testBit b=true):((Pp o e).getD a 0).testBit b=true:=by
 rw [Rt o e a h];split
 ·rename_i ha;subst ha;rw [Nat.testBit_or,hb];rfl
 ·exact hb
theorem Aao (es:List (Nat×Nat)):∀ (o:List Nat) (a b:Nat),(∀ e∈es,e.1<o.length)->(o.getD a 0).testBit b=true->((Lw es o).getD a 0).testBit b=true:=by
 unfold Lw;induction es with
 | nil=>intro o a b _ h;exact h
 | cons e es ih =>
  intro o a b h hb;rw [List.foldl_cons];exact ih _ a b (fun e' he'=>by rw [Lg];exact h e' (by simp [he'])) (Ui o e a b (h e (by simp)) hb)
theorem Aap (es:List (Nat×Nat)):∀ (o:List Nat) (a c b:Nat),(∀ e∈es,e.1<o.length)->(a,c)∈es->(c=b\/(o.getD c 0).testBit b=true) ->
  ((Lw es o).getD a 0).testBit b=true:=by
 unfold Lw;induction es with
 | nil=>intro o a c b _ h;simp at h
 | cons e es ih =>
  intro o a c b h hm hb;rw [List.foldl_cons];have hl:∀ e'∈es,e'.1<(Pp o e).length:=fun e' he'=>by rw [Lg];exact h e' (by simp [he'])
  rcases List.mem_cons.1 hm with he | hm
  ·have h0:((Pp o e).getD a 0).testBit b=true:=by
    rw [Rt o e a (h e (by simp)),if_pos (by rw [<-he])];rw [Nat.testBit_or,Nat.testBit_or,Aei];rcases hb with hb | hb
    ·have:e.2=b:=by rw [<-he];exact hb
     simp [this]
    ·have:e.2=c:=by rw [<-he]
     rw [this,hb];simp
   exact Aao es _ a b hl h0
  ·refine ih _ a c b hl hm ?_;rcases hb with hb | hb
   ·exact .inl hb
   ·exact .inr (Ui o e c b (h e (by simp)) hb)
theorem Sm (es:List (Nat×Nat)) (o:List Nat) (h:∀ e∈es,e.1<o.length):∀ (k:Nat) (a b:Nat) (l:List Nat),l≠[]->l.length<=k->Way es a l b->((Lf es k o).getD a 0).testBit b=true
 | 0,_,_,l,hl,hk,_=>by
  cases l with
  | nil=>exact absurd rfl hl
  | cons x l=>simp at hk
 | k+1,a,b,l,hl,hk,hw=>by
  cases hw with
  | nil=>exact absurd rfl hl
  | cons h1 h2 =>
   rename_i c l;rw [Lf];refine Aap es _ a c b (by rw [Lx];exact h) h1 ?_;cases l with
   | nil=>cases h2;exact .inl rfl
   | cons d l=>exact .inr (Sm es o h k c b (d :: l) (by simp) (by simp at hk ⊢;omega) h2)
theorem Yr (es0 es:List (Nat×Nat)) (eN:∀ e∈es,e∈es0):∀ (o:List Nat),(∀ e∈es,e.1<o.length)->(∀ a b,(o.getD a 0).testBit b=true->Reach es0 a b) ->
  ∀ a b,((Lw es o).getD a 0).testBit b=true->Reach es0 a b:=by
 unfold Lw;induction es with
 | nil=>intro o _ h;exact h
 | cons e es ih =>
  intro o hl h;rw [List.foldl_cons];refine ih (fun e' he'=>eN e' (by simp [he'])) _ (fun e' he'=>by rw [Lg];exact hl e' (by simp [he'])) ?_;intro a b hb;rw [Rt o e a (hl e (by simp))] at hb;split at hb
  ·rename_i ha;subst ha;rw [Nat.testBit_or,Nat.testBit_or,Aei] at hb;simp only [Bool.or_eq_true,decide_eq_true_eq] at hb;rcases hb with hb | hb | hb
   ·exact h _ _ hb
   ·subst hb;exact .one (eN e (by simp))
   ·exact .cons (eN e (by simp)) (h _ _ hb)
  ·exact h _ _ hb
theorem Pq (es:List (Nat×Nat)) (T:Nat) (hl:∀ e∈es,e.1<T):∀ k a b,((Lf es k (List.replicate T 0)).getD a 0).testBit b=true->Reach es a b
 | 0,a,b,h=>by
  simp [Lf,List.getD_eq_getElem?_getD,List.getElem?_replicate] at h;split at h<;>simp at h
 | k+1,a,b,h=>Yr es es (fun _ h=>h) _ (by rw [Lx];simpa using hl) (Pq es T hl k) a b h
theorem Ahp (es:List (Nat×Nat)) (T:Nat) (h1:∀ e∈es,e.1<T) (h2:∀ e∈es,e.2<T) (a b:Nat) :
  ((Lf es T (List.replicate T 0)).getD a 0).testBit b=true ↔ Reach es a b:=by
 refine ⟨Pq es T h1 T a b,fun h=>?_⟩;obtain ⟨l,hl,hT,hw⟩:=h.short h2;exact Sm es _ (by simpa using h1) T a b l hl hT hw
theorem Age (T:Nat) (o:List Nat) (e:Nat×Nat) (h2:e.2<T) (ho:∀ x∈o,x<2 ^ T):∀ x∈Pp o e,x<2 ^ T:=by
 have hg:∀ a,o.getD a 0<2 ^ T:=fun a=>by
  rw [List.getD_eq_getElem?_getD];cases h:o[a]? with
  | none=>exact Nat.two_pow_pos T
  | some y=>exact ho y (List.mem_of_getElem? h)
 intro x hx;unfold Pp at hx;rcases List.mem_or_eq_of_mem_set hx with hx | hx
 ·exact ho x hx
 ·subst hx;refine Nat.or_lt_two_pow (hg _) (Nat.or_lt_two_pow ?_ (hg _));rw [Nat.shiftLeft_eq,Nat.one_mul];exact Nat.pow_lt_pow_of_lt (by omega) h2
theorem Ae0 (T:Nat) (es:List (Nat×Nat)):∀ (o:List Nat),(∀ e∈es,e.2<T)->(∀ x∈o,x<2 ^ T) -> ∀ x∈Lw es o,x<2 ^ T:=by
 unfold Lw;induction es with
 | nil=>intro o _ h;exact h
 | cons e es ih =>
  intro o h2 ho;rw [List.foldl_cons];exact ih _ (fun e' he'=>h2 e' (by simp [he'])) (Age T o e (h2 e (by simp)) ho)
theorem Acw (T:Nat) (es:List (Nat×Nat)) (o:List Nat) (h2:∀ e∈es,e.2<T) (ho:∀ x∈o,x<2 ^ T):∀ k,∀ x∈Lf es k o,x<2 ^ T
 | 0=>ho
 | k+1=>Ae0 T es _ h2 (Acw T es o h2 ho k)
/-! The search by a list. -/
def M5 (x:Nat) (s:List Bool×List Nat) (e:Nat×Nat):List Bool×List Nat :=
 if e.1=x/\s.1.getD e.2 true=false then (s.1.set e.2 true,s.2 ++ [e.2]) else s
def Og (es:List (Nat×Nat)) (x:Nat) (s:List Bool×List Nat):List Bool×List Nat:=es.foldl (M5 x) s
structure Binv (es:List (Nat×Nat)) (T t:Nat) (s:List Bool×List Nat):Prop where
 size:s.1.length=T
 head:∃ l,s.2=t :: l/\l.Nodup/\(∀ y,y∈l ↔ s.1.getD y false=true)
 reach:∀ y,s.1.getD y false=true->Reach es t y
theorem Binv.lt {es:List (Nat×Nat)} {T t:Nat} {s:List Bool×List Nat} (h:Binv es T t s):s.2.length<=T+1:=by
 obtain ⟨l,hl,hn,hm⟩:=h.head;rw [hl,List.length_cons]
 have:=Uh T l hn (fun x hx=>by
  have:=(hm x).1 hx
  rw [List.getD_eq_getElem?_getD] at this;by_cases dR:x<s.1.length
  ·rw [h.size] at dR;exact dR
  ·rw [List.getElem?_eq_none (by omega)] at this;simp at this)
 omega
theorem Binv.start (es:List (Nat×Nat)) (T t:Nat):Binv es T t (List.replicate T false,[t]):=by
 refine ⟨by simp,⟨[],rfl,by simp,fun y=>?_⟩,fun y=>?_⟩
 ·exact Am9
 ·exact Am9
theorem Binv.step {es:List (Nat×Nat)} {T t x:Nat} {s:List Bool×List Nat} (h:Binv es T t s) (hx:x∈s.2) (e:Nat×Nat) (he:e∈es) (h2:e.2<T):Binv es T t (M5 x s e):=by
 unfold M5;split
 ·rename_i hc;obtain ⟨h1,hf⟩:=hc;obtain ⟨l,hl,hn,hm⟩:=h.head;have aA:e.2<s.1.length:=by rw [h.size];exact h2
  have hf':s.1.getD e.2 false=false:=by
   rw [List.getD_eq_getElem?_getD,List.getElem?_eq_getElem aA] at hf ⊢;simpa using hf
  have hg:∀ y,(s.1.set e.2 true).getD y false=true ↔ y=e.2\/s.1.getD y false=true:=by
   intro y;simp only [List.getD_eq_getElem?_getD,List.getElem?_set];by_cases hy:e.2=y
   ·subst hy;simp [aA]
   ·rw [if_neg hy];exact ⟨fun h=>.inr h,fun h=>h.resolve_left (fun h=>hy h.symm)⟩
  have hr:Reach es t e.2:=by
   rw [hl] at hx;rcases List.mem_cons.1 hx with rfl | hx
   ·exact .one (by rw [<-h1];exact he)
   ·exact (h.reach x ((hm x).1 hx)).snoc (by rw [<-h1];exact he)
  refine ⟨by simpa using h.size,⟨l ++ [e.2],by simp [hl],?_,fun y=>?_⟩,fun y hy=>?_⟩
  ·rw [List.nodup_append];refine ⟨hn,by simp,?_⟩;intro a ha b hb mL;simp only [List.mem_singleton] at hb;rw [mL,hb] at ha;rw [(hm _).1 ha] at hf';cases hf'
  ·rw [hg];simp only [List.mem_append,List.mem_singleton,hm];exact Or.comm
  ·rcases (hg y).1 hy with rfl | hy
   ·exact hr
   ·exact h.reach y hy
 ·exact h
theorem Ae1 {x y:Nat} {s:List Bool×List Nat} {e:Nat×Nat} (h:y∈s.2):y∈(M5 x s e).2:=by
 unfold M5;split
 ·simp [h]
 ·exact h
theorem Ae2 {x:Nat} {s:List Bool×List Nat} {e:Nat×Nat} : ∃ r,(M5 x s e).2=s.2 ++ r:=by
 unfold M5;split
 ·exact ⟨[e.2],rfl⟩
 ·exact ⟨[],by simp⟩
theorem Ae3 (es:List (Nat×Nat)) (x:Nat):∀ s:List Bool×List Nat,∃ r,(Og es x s).2=s.2 ++ r:=by
 unfold Og;induction es with
 | nil=>intro s;exact ⟨[],by simp⟩
 | cons e es ih =>
  intro s;rw [List.foldl_cons];obtain ⟨r,hr⟩:=ih (M5 x s e);obtain ⟨r',gK⟩:=Ae2 (x:=x) (s:=s) (e:=e);exact ⟨r' ++ r,by rw [hr,gK,List.append_assoc]⟩
theorem Ae4 {es0:List (Nat×Nat)} {T t x:Nat} (es:List (Nat×Nat)):∀ {s:List Bool×List Nat},Binv es0 T t s->x∈s.2->(∀ e∈es,e∈es0)->(∀ e∈es,e.2<T)->Binv es0 T t (Og es x s):=by
 unfold Og;induction es with
 | nil=>intro s h _ _ _;exact h
 | cons e es ih =>
  intro s h hx hs h2;rw [List.foldl_cons];exact ih (h.step hx e (hs e (by simp)) (h2 e (by simp))) (Ae1 hx) (fun e' he'=>hs e' (by simp [he'])) (fun e' he'=>h2 e' (by simp [he']))
theorem Acx {x y:Nat} {s:List Bool×List Nat} {e:Nat×Nat} (h:s.1.getD y false=true):(M5 x s e).1.getD y false=true:=by
 unfold M5;split
 ·simp only [List.getD_eq_getElem?_getD,List.getElem?_set] at h ⊢;by_cases hy:e.2=y
  ·subst hy;by_cases hl:e.2<s.1.length
   ·simp [hl]
   ·rw [List.getElem?_eq_none (by omega)] at h;simp at h
  ·rw [if_neg hy];exact h
 ·exact h
theorem Uj (es:List (Nat×Nat)) (x y:Nat):∀ s:List Bool×List Nat,s.1.getD y false=true->(Og es x s).1.getD y false=true:=by
 unfold Og;induction es with
 | nil=>intro s h;exact h
 | cons e es ih=>intro s h;rw [List.foldl_cons];exact ih _ (Acx h)
theorem Qu (x:Nat) (s:List Bool×List Nat) (e:Nat×Nat):(M5 x s e).1.length=s.1.length:=by
 unfold M5;split<;>simp
theorem Ag8 (es:List (Nat×Nat)) (x:Nat):∀ s:List Bool×List Nat,(Og es x s).1.length=s.1.length:=by
 unfold Og;induction es with
 | nil=>intro s;rfl
 | cons e es ih=>intro s;rw [List.foldl_cons,ih,Qu]
theorem Acy (es:List (Nat×Nat)) (x y:Nat):∀ s:List Bool×List Nat,(∀ e∈es,e.2<s.1.length)->(x,y)∈es->(Og es x s).1.getD y false=true:=by
 unfold Og;induction es with
 | nil=>intro s _ h;simp at h
 | cons e es ih =>
  intro s hl hm;rw [List.foldl_cons];rcases List.mem_cons.1 hm with he | hm
  ·refine Uj es x y _ ?_;have aA:=hl e (by simp);have h1:e.1=x:=by rw [<-he]
   have h2:e.2=y:=by rw [<-he]
   unfold M5;split
   ·rw [h2] at aA ⊢;simp [List.getD_eq_getElem?_getD,aA]
   ·rename_i hc;rw [h2] at hc aA;simp only [h1,true_and] at hc;rw [List.getD_eq_getElem?_getD,List.getElem?_eq_getElem aA] at hc ⊢;simpa using hc
  ·exact ih _ (fun e' he'=>by rw [Qu];exact hl e' (by simp [he'])) hm
structure Bat (es:List (Nat×Nat)) (T t h:Nat) (s:List Bool×List Nat):Prop where
 inv:Binv es T t s
 le:h<=s.2.length
 done:∀ i x,i<h->s.2[i]? = some x -> ∀ y,(x,y)∈es->s.1.getD y false=true
theorem Bat.start (es:List (Nat×Nat)) (T t:Nat):Bat es T t 0 (List.replicate T false,[t]) :=
 ⟨.start es T t,Nat.zero_le _,fun i _ hi=>absurd hi (by omega)⟩
theorem Bat.next {es:List (Nat×Nat)} {T t h:Nat} {s:List Bool×List Nat} (hb:Bat es T t h s) (h2:∀ e∈es,e.2<T) {x:Nat} (hx:s.2[h]? = some x):Bat es T t (h+1) (Og es x s):=by
 obtain ⟨r,hr⟩:=Ae3 es x s;have aA:h<s.2.length:=by
  rcases Nat.lt_or_ge h s.2.length with h' | h'
  ·exact h'
  ·rw [List.getElem?_eq_none h'] at hx;cases hx
 refine ⟨Ae4 es hb.inv (List.mem_of_getElem? hx) (fun _ h=>h) h2,by rw [hr];simp;omega,fun i z hi' hiz y hy=>?_⟩;rw [hr,List.getElem?_append_left (by omega)] at hiz;rcases Nat.lt_or_eq_of_le (Nat.le_of_lt_succ hi') with hl | rfl
 ·exact Uj es _ y _ (hb.done i z hl hiz y hy)
 ·have:x=z:=Option.some.inj (hx.symm.trans hiz);subst this;exact Acy es x y _ (by rw [hb.inv.size];exact h2) hy
theorem Bat.iff {es:List (Nat×Nat)} {T t:Nat} {s:List Bool×List Nat} (hb:Bat es T t s.2.length s) (y:Nat):s.1.getD y false=true ↔ Reach es t y:=by
 refine ⟨hb.inv.reach y,fun hr=>?_⟩;obtain ⟨l,hl,hn,hm⟩:=hb.inv.head;have hclosed:∀ x,x∈s.2 -> ∀ y,(x,y)∈es->s.1.getD y false=true:=by
  intro x hx y hy;obtain ⟨i,hi⟩:=List.getElem?_of_mem hx;exact hb.done i x (by
   rcases Nat.lt_or_ge i s.2.length with h' | h'
   ·exact h'
   ·rw [List.getElem?_eq_none h'] at hi;cases hi) hi y hy
 have key:∀ (w:List Nat) (a:Nat),a∈s.2->w≠[]->Way es a w y->s.1.getD y false=true:=by
  intro w;induction w with
  | nil=>intro a _ h;exact absurd rfl h
  | cons c w ih =>
   intro a ha _ hw;cases hw with
   | cons h1 h2 =>
    have hc:=hclosed a ha c h1;cases w with
    | nil=>cases h2;exact hc
    | cons d w=>exact ih c (by rw [hl];exact List.mem_cons_of_mem _ ((hm c).2 hc)) (by simp) h2
 obtain ⟨w,hw,hway⟩:=hr;exact key w t (by rw [hl];simp) hw hway
end Go.Proofs.YtecnbnbopcblgaaGreat.Pg
namespace Go.Proofs.YtecnbnbopcblgaaGreat
open Go.RowKit
set_option maxRecDepth 100000
set_option maxHeartbeats 4000000
set_option linter.unusedVariables false
set_option linter.unusedSimpArgs false
open Value renaming int->J,slice->Aa
open IntKind renaming i64->U
open Option renaming none->Ab,some->Ac
open Nat renaming zero_le->Ag,lt_of_lt_of_le->Ai
open Go.Proofs.Tryz renaming prog->Am
open Char renaming ofNat->An
open Int renaming toNat_natCast->Ao,eq_ofNat_of_zero_le->Ap
open List renaming length_map->Ar,getElem_mem->Aw,length_take->Az,length_append->Bd
open Go.Proofs.Tryz
end Go.Proofs.YtecnbnbopcblgaaGreat
namespace Go.Proofs
open Go.Shelf
def Tryz.lays189_ren:Go.Shelf.Ren:=⟨fun | 189=>302 | 125=>311 | 257=>310 | 128=>323 | 129=>324 | 294=>314 | 295=>315 | 296=>316 | 297=>317 | 298=>318 | 299=>319 | 216=>320 | 300=>321 | 301=>322 | 328=>326 | 329=>327 | 330=>328 | 331=>329 | 332=>330 | 215=>331 | 343=>333 | n=>n,fun | 28=>26 | 3=>3 | 46=>176 | 0=>0 | 51=>319 | 53=>321 | 4=>4 | 183=>312 | 182=>311 | 131=>55 | 5=>5 | 9=>9 | 218=>322 | 222=>326 | 228=>329 | 229=>330 | n=>n,fun | n=>n⟩
theorem Tryz.lays189:Go.Proofs.Lays.n189 Tryz.prog Tryz.lays189_ren:={
 mixed:=by kernel_rfl
 f125:=Tryz.func311.trans (congrArg some (by kernel_rfl))
 f128:=Tryz.func323.trans (congrArg some (by kernel_rfl))
 f129:=Tryz.func324.trans (congrArg some (by kernel_rfl))
 f189:=Tryz.func302.trans (congrArg some (by kernel_rfl))
 f215:=Tryz.func331.trans (congrArg some (by kernel_rfl))
 f216:=Tryz.func320.trans (congrArg some (by kernel_rfl))
 f257:=Tryz.func310.trans (congrArg some (by kernel_rfl))
 f294:=Tryz.func314.trans (congrArg some (by kernel_rfl))
 f295:=Tryz.func315.trans (congrArg some (by kernel_rfl))
 f296:=Tryz.func316.trans (congrArg some (by kernel_rfl))
 f297:=Tryz.func317.trans (congrArg some (by kernel_rfl))
 f298:=Tryz.func318.trans (congrArg some (by kernel_rfl))
 f299:=Tryz.func319.trans (congrArg some (by kernel_rfl))
 f300:=Tryz.func321.trans (congrArg some (by kernel_rfl))
 f301:=Tryz.func322.trans (congrArg some (by kernel_rfl))
 f328:=Tryz.func326.trans (congrArg some (by kernel_rfl))
 f329:=Tryz.func327.trans (congrArg some (by kernel_rfl))
 f330:=Tryz.func328.trans (congrArg some (by kernel_rfl))
 f331:=Tryz.func329.trans (congrArg some (by kernel_rfl))
 f332:=Tryz.func330.trans (congrArg some (by kernel_rfl))
 f343:=Tryz.func333.trans (congrArg some (by kernel_rfl))
 t0:=Tryz.underlying0
 a0:=Tryz.isAgg0
 z0:=Tryz.sizeOf0
 v0:=Tryz.zeroValue0
 t3:=Tryz.underlying3
 a3:=Tryz.isAgg3
 z3:=Tryz.sizeOf3
 v3:=Tryz.zeroValue3
 t4:=Tryz.underlying4
 a4:=Tryz.isAgg4
 z4:=Tryz.sizeOf4
 v4:=Tryz.zeroValue4
 t5:=Tryz.underlying5
 a5:=Tryz.isAgg5
 z5:=Tryz.sizeOf5
 v5:=Tryz.zeroValue5
 t9:=Tryz.underlying9
 a9:=Tryz.isAgg9
 z9:=Tryz.sizeOf9
 v9:=Tryz.zeroValue9
 t28:=Tryz.underlying26
 a28:=Tryz.isAgg26
 z28:=Tryz.sizeOf26
 v28:=Tryz.zeroValue26
 t46:=Tryz.underlying176
 a46:=Tryz.isAgg176
 z46:=Tryz.sizeOf176
 v46:=Tryz.zeroValue176
 t51:=Tryz.underlying319
 a51:=Tryz.isAgg319
 z51:=Tryz.sizeOf319
 v51:=Tryz.zeroValue319
 t53:=Tryz.underlying321
 a53:=Tryz.isAgg321
 z53:=Tryz.sizeOf321
 v53:=Tryz.zeroValue321
 t131:=Tryz.underlying55
 a131:=Tryz.isAgg55
 z131:=Tryz.sizeOf55
 v131:=Tryz.zeroValue55
 t182:=Tryz.underlying311
 a182:=Tryz.isAgg311
 z182:=Tryz.sizeOf311
 v182:=Tryz.zeroValue311
 t183:=Tryz.underlying312
 a183:=Tryz.isAgg312
 z183:=Tryz.sizeOf312
 v183:=Tryz.zeroValue312
 t218:=Tryz.underlying322
 a218:=Tryz.isAgg322
 z218:=Tryz.sizeOf322
 v218:=Tryz.zeroValue322
 t222:=Tryz.underlying326
 a222:=Tryz.isAgg326
 z222:=Tryz.sizeOf326
 v222:=Tryz.zeroValue326
 t228:=Tryz.underlying329
 a228:=Tryz.isAgg329
 z228:=Tryz.sizeOf329
 v228:=Tryz.zeroValue329
 t229:=Tryz.underlying330
 a229:=Tryz.isAgg330
 z229:=Tryz.sizeOf330
 v229:=Tryz.zeroValue330 }
open Go.Sort Go.RowKit in
theorem Tryz.slices_Sort_int (blk off cap:Nat) (zs:List Int) (w:World) (hH:Holds (Value.int .i64) w blk off zs.toArray) (hblk:blk<w) (bL:zs.length<4611686018427387904) :
  Calls Tryz.prog 302 #[.slice (some ⟨blk,off,none⟩) zs.length cap] w fun e w' =>
   e = .returned (.tuple #[]) /\ ∃ n os,w'=grow (putRow (Value.int .i64) (Sort.ahead w n) blk off (zs.mergeSort fun x y=>decide (x<=y)).toArray) os:=Any.slices_Sort_int Tryz.lays189 blk off cap zs w hH hblk bL
open Go.RowKit Go.Sort in
theorem Tryz.slices_Sort_int_none (p:Option Addr) (cap:Nat) (w:World) :
  Calls Tryz.prog 302 #[.slice p 0 cap] w fun e w'=>e = .returned (.tuple #[])/\w'=w:=Any.slices_Sort_int_none Tryz.lays189 p cap w
end Go.Proofs
namespace Go.Proofs.YtecnbnbopcblgaaGreat
open Go.RowKit
set_option maxRecDepth 100000
set_option maxHeartbeats 4000000
set_option linter.unusedVariables false
set_option linter.unusedSimpArgs false
open Value renaming int->J,slice->Aa
open IntKind renaming i64->U
open Option renaming none->Ab,some->Ac
open Nat renaming zero_le->Ag,lt_of_lt_of_le->Ai
open Go.Proofs.Tryz renaming prog->Am
open Char renaming ofNat->An
open Int renaming toNat_natCast->Ao,eq_ofNat_of_zero_le->Ap
open List renaming length_map->Ar,getElem_mem->Aw,length_take->Az,length_append->Bd
open Go.Proofs.Tryz
section
open Go.ChangeShapes Go.WideShapes Go.ChangeAt Go.RowKit
def M6:List Char:=[An 104,An 97,An 114,An 110,An 101,An 115,An 115,An 32,An 52,An 56,An 100,An 102,An 98,An 50,An 102,An 97,An 51,An 102,An 56,An 53,An 102,An 57,An 102,An 49,An 54,An 53,An 56,An 54,An 99,An 102,An 51,An 98,An 100,An 57,An 98,An 52,An 48,An 97,An 51,An 57,An 53,An 97,An 52,An 100,An 56,An 97,An 49,An 97,An 49,An 55,An 52,An 55,An 48,An 98,An 100,An 102,An 56,An 52,An 56,An 99,An 100,An 101,An 53,An 100,An 98,An 97,An 48,An 54,An 53,An 48,An 97,An 100,An 32,An 99,An 117,An 116,An 32,An 97,An 116,An 32,An 108,An 111,An 111,An 112,An 46,An 101,An 120,An 97,An 109,An 112,An 108,An 101,An 47,An 103,An 48,An 48,An 57,An 54,An 53,An 47,An 108,An 97,An 119,An 115,An 46,An 70,An 110,An 70,An 111,An 108,An 108,An 111,An 119,An 115,An 32,An 108,An 111,An 111,An 112,An 46,An 101,An 120,An 97,An 109,An 112,An 108,An 101,An 47,An 103,An 48,An 48,An 57,An 54,An 53,An 47,An 108,An 97,An 119,An 115,An 46,An 70,An 110,An 86,An 105,An 101,An 119,An 115,An 32,An 108,An 111,An 111,An 112,An 46,An 101,An 120,An 97,An 109,An 112,An 108,An 101,An 47,An 103,An 48,An 48,An 57,An 54,An 53,An 47,An 108,An 97,An 119,An 115,An 46,An 70,An 110,An 79,An 110,An 99,An 101,An 32,An 108,An 111,An 111,An 112,An 46,An 101,An 120,An 97,An 109,An 112,An 108,An 101,An 47,An 103,An 48,An 48,An 57,An 54,An 53,An 47,An 108,An 97,An 119,An 115,An 46,An 70,An 110,An 83,An 108,An 105,An 109,An 32,An 108,An 111,An 111,An 112,An 46,An 101,An 120,An 97,An 109,An 112,An 108,An 101,An 47,An 103,An 48,An 48,An 57,An 54,An 53,An 47,An 108,An 97,An 119,An 115,An 46,An 70,An 110,An 69,An 120,An 97,An 99,An 116,An 65,An 115,An 107]
theorem Ag9:Am.initOrder=String.ofList M6:=by
 unfold M6;dsimp only [Am,Tryz.progTables]
theorem Aaq:Am.initOrder.toList=M6:=by rw [Ag9,String.toList_ofList]
def M7:List Char:=[An 99,An 117,An 116]
def Qv:List (List Char):=(behindMainWord (wordsSigns M6)).tail
theorem Acz:behindMainWord (wordsSigns M6)=M7 :: Qv:=Bm
theorem Ahq:(M7 == "gc".toList)=false:=Bm
theorem Aej:(M7 == "spec".toList)=false:=Bm
theorem Uk:(M7 == "carried".toList)=false:=Bm
theorem Aek:(M7 == "cut".toList)=true:=Bm
theorem Sn:stripLifts liftWords (M7 :: Qv)=([],M7 :: Qv):=Bm
theorem Aha (P:Program) (r:List (List Char)) (h:behindMainWord (wordsSigns P.initOrder.toList)=M7 :: r):P.make=Ac .cut:=by
 unfold Program.make;rw [h];simp only [Ahq,Aej,Aek,Bool.or_false,Bool.true_or,if_true,Bool.false_eq_true,if_false]
theorem Ys (P:Program) (r:List (List Char)) (h:behindMainWord (wordsSigns P.initOrder.toList)=M7 :: r) (hs:stripLifts liftWords (M7 :: r)=([],M7 :: r)):P.headLifts=[]:=by
 unfold Program.headLifts;simp only [h,hs];split<;>rfl
theorem Ws (P:Program) (r:List (List Char)) (h:behindMainWord (wordsSigns P.initOrder.toList)=M7 :: r) (hs:stripLifts liftWords (M7 :: r)=([],M7 :: r)):P.liftsFinal=false:=by
 unfold Program.liftsFinal;have hc:(Ac M7 == Ac "carried".toList)=false:=Uk;simp only [Ys P r h hs,h,List.head?_cons,hc,Bool.false_and,Bool.false_or];rfl
theorem Aar (P:Program) (r:List (List Char)) (h:behindMainWord (wordsSigns P.initOrder.toList)=M7 :: r) (hs:stripLifts liftWords (M7 :: r)=([],M7 :: r))
  (hl:P.laysLater=false) (hr:P.bearsReflect=false) (hd:P.doorFits []=true):P.mayEnter=true:=by
 unfold Program.mayEnter;have hc:(Ac M7 == Ac "cut".toList)=true:=Aek;simp only [h,hs,Ahq,Aej,Uk,hl,hr,hd,hc,List.head?_cons,Bool.or_false,Bool.false_or,Bool.false_and,Bool.not_false,Bool.or_true,Bool.and_true];rfl
theorem Qg:behindMainWord (wordsSigns Am.initOrder.toList)=M7 :: Qv:=by rw [Aaq,Acz]
theorem Ul:Am.laysLater=false:=Bm
theorem Qw:Am.bearsReflect=false:=Bm
theorem Wt:Am.doorFits []=true:=Bm
theorem Wu:Am.mayEnter=true:=Aar _ _ Qg Sn Ul Qw Wt
theorem Tg:Am.liftsFinal=false:=Ws _ _ Qg Sn
theorem Ae5:Am.make=Ac .cut:=Aha _ _ Qg
theorem Nl:laidOutB Am=true:=Bm
theorem Um:mapsRowed Am=true:=Bm
theorem Th:Am.stopsHeard=true:=Bm
theorem Un:Am.plainKeys=true:=Bm
theorem Agf:ownKnob Am.godebug=Ab:=Bm
theorem Agg {f:FuncId} {fn:Func} {s:ChangeSpec} {c:OpenClaim}
  (k1:c.wf (OpenSpec.ofChange s)=true) (k4:fn.params.all (Am.readableRec ·)=true) (k5:namedTie Am c.named s.vars=true)
  (kp:((c.stops == []) && (Am.stops == []) && (c.knobs == []) && (Am.stopKnobs == []))=true)
  (k10:(c.inPlace == Am.inPlace f)=true) (k11:(c.unfollowed == Am.unfollowed f)=true) (k12:(c.recurses == Am.recurses f)=true) (k13:(c.named == Am.varsNamed f)=true)
  (k14:((c.maps == (fn.params.toList ++ s.plain.varTypes Am).any (Am.mapsRec ·)) && (c.ifaces == (fn.params.toList ++ s.plain.varTypes Am).any (Am.ifacesRec ·)) && (c.mapsOut == Am.mapsAmong fn.resultTypes.toList) &&
   (c.loops == (fn.params.toList ++ s.plain.varTypes Am).any (Am.loopsFrom ·)) && (c.wideKeys == (fn.params.toList ++ s.plain.varTypes Am ++ fn.resultTypes.toList).any (Am.wideKeysFrom ·)) &&
   s.vars.all (Am.varReadable ·) && fn.resultTypes.all (fun t=>Am.readableRec t && decide (t<Am.types.size)) && (c.ifacesOut == fn.resultTypes.toList.any (Am.ifacesRec ·)) && (c.loopsOut == fn.resultTypes.toList.any (Am.loopsFrom ·)) && (c.plainKeys == true) && c.shortTexts.isNone)=true)
  (k26:c.lifted=false) (k27:c.make = .cut) (k28:(c.kinds == (if c.domain.isEmpty then [] else fn.params.toList.map fun t=>match Am.underlying t with | some (.int k)=>some k | _=>none))=true) (k29:(c.pinned == c.pinnedBy)=true)
  (k30:((c.veiled == (fn.params.toList ++ s.plain.varTypes Am ++ fn.resultTypes.toList).any (Am.veiledRec ·)) && c.veiledFits Am fn.params.toList (fn.params.toList ++ s.plain.varTypes Am ++ fn.resultTypes.toList))=true) :
  joinedFacts Am f fn s c=true:=by
 simp only [Bool.and_eq_true] at kp k14 k30;obtain ⟨⟨⟨p1,p2⟩,p3⟩,p4⟩:=kp;obtain ⟨⟨⟨⟨⟨⟨⟨⟨⟨⟨q1,q2⟩,q3⟩,q4⟩,q5⟩,q6⟩,q7⟩,q8⟩,q9⟩,q10⟩,q11⟩:=k14;unfold joinedFacts;simp only [Bool.and_eq_true];rw [Ae5,Tg,Un,k26,k27];exact ⟨⟨⟨⟨⟨⟨⟨⟨⟨⟨⟨⟨⟨⟨⟨⟨⟨⟨⟨⟨⟨⟨⟨⟨⟨⟨⟨⟨⟨⟨⟨k1,Nl⟩,Um⟩,k4⟩,k5⟩,p1⟩,p2⟩,p3⟩,p4⟩,k10⟩,k11⟩,k12⟩,k13⟩,q1⟩,q2⟩,q3⟩,q4⟩,q5⟩,q6⟩,q7⟩,q8⟩,q9⟩,q10⟩,q11⟩,Th⟩,Wu⟩,rfl⟩,rfl⟩,k28⟩,k29⟩,k30.1⟩,k30.2⟩
end
structure Edge where
 fr:Int
 to:Int
deriving DecidableEq,Inhabited
def He:Enc Edge:={ cells:=fun s=>[J U s.fr,J U s.to],sz:=2,len:=fun _=>rfl,one:=fun _ u hu=>by simp at hu;rcases hu with rfl | rfl<;>rfl }
@[go_sem] def Aas (s:Edge):Value:=.agg #[J U s.fr,J U s.to]
theorem Rd.edge {w:World} {B:Nat} {A:Option Addr} {n c:Nat} {l:List Edge} (h:Rd He w B (Aa A n c) l) {k:Nat} (hk:k<l.length) :
  ∃ b o,A=Ac ⟨b,o,Ab⟩/\b<B/\w.cell? ⟨b,o+k * 2,Ab⟩=Ac (J U l[k].fr)/\w.cell? ⟨b,o+k * 2+1,Ab⟩=Ac (J U l[k].to):=by
 obtain ⟨A',c',hv,_,hA⟩:=h;obtain ⟨b,o,bU,hb,hc⟩:=hA Bl;simp only [Value.slice.injEq] at hv;obtain ⟨rfl,_,_⟩:=hv;exact ⟨b,o,bU,hb,hc k hk 0 _ rfl,hc k hk 1 _ rfl⟩
theorem Xn:(Am.info? 206).map (fun i=>(i.zero,i.size,i.bytes))=Ac (Ac (Aas ⟨0,0⟩),2,16):=Bm
open Go.ChangeShapes Go.WideShapes Go.ChangeAt Go.RowKit Go.Deep
section
variable {H:Type} {enc:TypeId×Value->H} {P:Program} {w:World} {spare:Nat->Bool} {held:Bool}
theorem Kl {α:Type} [Inhabited α] (E:Enc α) (ok:α->Prop) {t e:TypeId} {fuel:Nat} {cs:List Value} {x:DataW H×List MemPlace} (ht:P.underlying t=Ac (.slice e)) (bL:P.cellsOf e=E.sz) (hpos:0<E.sz)
  (qX:∀ n cs' y,DataW.trod enc P w 0 spare held n e cs'=Ac y -> ∃ z:α,cs'=E.cells z/\ok z)
  (h:DataW.trod enc P w 0 spare held fuel t cs=Ac x):∃ (v:Value) (l:List α),cs=[v]/\Rd E w w v l/\(∀ z∈l,ok z)/\l.length<=maxLen:=by
 rcases open_slice ht h with ⟨rfl,_⟩ | ⟨a,len,cap,m,n,D,Pl,rfl,_,hl,hm,fZ,_,hi⟩
 ·exact ⟨_,[],rfl,⟨Ab,0,rfl,Bo,fun h=>absurd h Bo⟩,Bo,Bo⟩
 ·have hlm:len<=m:=by rw [fZ];split<;>omega
  have hsp0:0<len->a.spot=Ab/\a.block<w.heap.size:=by
   intro h0l;obtain ⟨cs',hc,mB⟩:=hi 0 Bl;obtain ⟨z,rfl,hz⟩:=qX _ _ _ mB;rw [bL] at hc;obtain ⟨_,aE,hat⟩:=World.cells?_some hc;have h0:=hat 0 hpos;have e0:(a.add (0 * E.sz)).add 0=a:=by simp [Addr.add]
   rw [e0,List.getElem?_eq_getElem (by rw [E.len];exact hpos)] at h0;refine ⟨World.cell?_spot h0,?_⟩;rcases Nat.lt_or_ge a.block w.heap.size with aA | uQ
   ·exact aA
   ·unfold World.cell? at h0;rw [Array.getElem?_eq_none uQ] at h0;simp at h0
  have each:∀ i,i<len -> ∃ z:α,ok z /\ ∀ j u,(E.cells z)[j]? = Ac u->w.cell? ⟨a.block,a.off+i * E.sz+j,Ab⟩=Ac u:=by
   intro i qA;have hsp:=(hsp0 Bl).1;obtain ⟨cs',hc,mB⟩:=hi i Bl;obtain ⟨z,rfl,hz⟩:=qX _ _ _ mB;rw [bL] at hc;obtain ⟨_,aE,hat⟩:=World.cells?_some hc;have hadd:∀ j,((a.add (i * E.sz)).add j)=⟨a.block,a.off+i * E.sz+j,Ab⟩:=by
    intro j;obtain ⟨ab,ao,sp⟩:=a;simp only at hsp;subst hsp;unfold Addr.add;by_cases h1:i * E.sz=0<;>by_cases h2:j=0<;>simp [h1,h2]
   refine ⟨z,hz,fun j u hu=>?_⟩;have hj:j<E.sz:=by
    have:=(List.getElem?_eq_some_iff.1 hu).1
    rw [E.len] at this;exact this
   rw [<-hadd,hat j hj];exact hu
  obtain ⟨f,hf⟩:=choose_lt each;refine ⟨_,(List.range len).map f,rfl,⟨Ac a,cap,Bo,by simpa using hl,fun hp=>?_⟩,?_,by simp;omega⟩
  ·simp only [Ar,List.length_range] at hp;obtain ⟨hsp,hb⟩:=hsp0 hp;refine ⟨a.block,a.off,by rw [<-hsp],hb,fun k hk j u hu=>?_⟩;simp only [Ar,List.length_range] at hk;simp only [List.getElem_map,List.getElem_range] at hu;exact (hf k hk).2 j u hu
  ·intro z hz;simp only [List.mem_map,List.mem_range] at hz;obtain ⟨i,hi',rfl⟩:=hz;exact (hf i hi').1
def Wf (x:Int):Prop:=-9223372036854775808<=x/\x<=9223372036854775807
theorem Hj {x:Int} (h:(Lit.int .i64 x).wf=true):Wf x:=by
 simp [Lit.wf,IntKind.min,IntKind.max,IntKind.signed,IntKind.bits] at h;exact ⟨Bl,Bl⟩
end
structure Fence where
 run:Int
 task:Int
 try_:Int
 text:ByteArray
deriving DecidableEq,Inhabited
@[go_sem] def Ah8 (s:Fence):Value:=.agg #[J U s.run,J U s.task,J U s.try_,.string s.text]
theorem pS:(∀ (a:Act) (d:Tmp) (v:Value),a.put (Ac d) v = { a with tmps:=a.tmps.setIfInBounds d v })/\(∀ (a:Act) (v:Value),a.put Ab v=a)/\(∀ (l:List Value) (i:Nat) (v:Value),l.toArray.setIfInBounds i v=(l.set i v).toArray) /\
  (∀ (x:Value) (l:List Value) (v:Value),(x :: l).set 0 v=v :: l)/\(∀ (x:Value) (l:List Value) (i:Nat) (v:Value),(x :: l).set (i+1) v=x :: l.set i v) :=
 ⟨fun _ _ _=>rfl,fun _ _=>rfl,fun _ _ _=>List.setIfInBounds_toArray ..,fun _ _ _=>rfl,fun _ _ _ _=>rfl⟩
section
structure Plan where
 prio:Int
 most:Int
 wait:Int
 tasks:Int
 edges:List Edge
deriving DecidableEq,Inhabited
@[go_sem] abbrev G9 (p:Plan) (ve:Value):Value:=.agg #[.int .i64 p.prio,.int .i64 p.most,.int .i64 p.wait,.int .i64 p.tasks,ve]
def E0:Enc Nat:={ cells:=fun x=>[J U (x:Int)],sz:=1,len:=fun _=>rfl,one:=fun _ u hu=>by simp at hu;subst hu;rfl }
def Uo:Enc Bool:={ cells:=fun x=>[.bool x],sz:=1,len:=fun _=>rfl,one:=fun _ u hu=>by simp at hu;subst hu;rfl }
def inB (n lo hi:Int):Bool:=decide (lo<=n) && decide (n<=hi)
theorem Ct {n lo hi:Int} : inB n lo hi=true ↔ lo<=n/\n<=hi:=by simp [inB]
def E5 (p:Plan):Bool:=inB p.tasks 1 12 && decide (p.edges.length<=30) && inB p.prio 0 9 && inB p.most 1 5 && inB p.wait 1 20
def Ji (T:Int) (e:Edge):Bool:=inB e.fr 0 (T - 1) && inB e.to 0 (T - 1)
def esL (l:List Edge):List (Nat×Nat):=l.map fun e=>(e.fr.toNat,e.to.toNat)
def Ea (p:Plan):List (Nat×Nat):=esL p.edges
def Hu (p:Plan):Prop:=∀ e∈p.edges,Ji p.tasks e=true
def Ru (p:Plan):Prop:=∃ t,t<p.tasks.toNat/\Pg.Reach (Ea p) t t
open Classical in
noncomputable def Cr (p:Plan):Int :=
 if E5 p=false then 1 else if ¬ Hu p then 2 else if ¬ p.edges.Nodup then 3 else if Ru p then 4 else 0
theorem Dl {p:Plan} : Cr p=0 ↔ E5 p=true/\Hu p/\p.edges.Nodup /\ ¬ Ru p:=by
 unfold Cr;cases h1:E5 p
 ·simp
 ·by_cases h2:Hu p<;>by_cases h3:p.edges.Nodup<;>by_cases h4:Ru p<;>simp [h2,h3,h4]
theorem Er {p:Plan} (h:E5 p=true):1<=p.tasks/\p.tasks<=12:=by
 simp only [E5,Bool.and_eq_true] at h;exact Ct.1 h.1.1.1.1
theorem Fw {p:Plan} (h:E5 p=true):p.edges.length<=30:=by
 simp only [E5,Bool.and_eq_true,decide_eq_true_eq] at h;exact h.1.1.1.2
theorem Ig {p:Plan} (h:Hu p) {k:Nat} (hk:k<p.edges.length):0<=p.edges[k].fr/\p.edges[k].fr<p.tasks/\0<=p.edges[k].to/\p.edges[k].to<p.tasks:=by
 have:=h _ (Aw hk)
 simp only [Ji,Bool.and_eq_true,Ct] at this;omega
theorem Nm (l:List Edge):(esL l).length=l.length:=by simp [esL]
theorem Ml {p:Plan} (h:Hu p):(∀ e∈Ea p,e.1<p.tasks.toNat)/\(∀ e∈Ea p,e.2<p.tasks.toNat):=by
 have:∀ e∈Ea p,e.1<p.tasks.toNat/\e.2<p.tasks.toNat:=by
  intro e he;simp only [Ea,esL,List.mem_map] at he;obtain ⟨x,hx,rfl⟩:=he
  have:=h x hx
  simp only [Ji,Bool.and_eq_true,Ct] at this;simp only;omega
 exact ⟨fun e he=>(this e he).1,fun e he=>(this e he).2⟩
theorem Rd.nat {w:World} {B:Nat} {A:Option Addr} {n c:Nat} {l:List Nat} (h:Rd E0 w B (Aa A n c) l) {k:Nat} (hk:k<l.length) :
  ∃ b o,A=Ac ⟨b,o,Ab⟩/\b<B/\w.cell? ⟨b,o+k,Ab⟩=Ac (J U (l[k]:Int)):=by
 obtain ⟨A',c',hv,_,hA⟩:=h;obtain ⟨b,o,bU,hb,hc⟩:=hA Bl;simp only [Value.slice.injEq] at hv;obtain ⟨rfl,_,_⟩:=hv;exact ⟨b,o,bU,hb,by simpa [E0] using hc k hk 0 _ rfl⟩
theorem Rd.int {w:World} {B:Nat} {A:Option Addr} {n c:Nat} {l:List Int} (h:Rd Iz w B (Aa A n c) l) {k:Nat} (hk:k<l.length) :
  ∃ b o,A=Ac ⟨b,o,Ab⟩/\b<B/\w.cell? ⟨b,o+k,Ab⟩=Ac (J U l[k]):=by
 obtain ⟨A',c',hv,_,hA⟩:=h;obtain ⟨b,o,bU,hb,hc⟩:=hA Bl;simp only [Value.slice.injEq] at hv;obtain ⟨rfl,_,_⟩:=hv;exact ⟨b,o,bU,hb,by simpa [Iz] using hc k hk 0 _ rfl⟩
theorem Ow.one_ {α:Type} {e:Enc α} (bL:e.sz=1) {E:TypeId} {w:World} {base g n cap:Nat} {l:List α} (h:Ow e E w base (Aa (Ac ⟨g,0,Ab⟩) n cap) l) {k:Nat} (hk:k<l.length) {u:Value} (hu:(e.cells l[k])[0]? = Ac u) :
  w.cell? ⟨g,k,Ab⟩=Ac u:=by
 rcases h.form with ⟨h1,_⟩ | ⟨g',cap',hv,_,_,_,_,_,hc⟩
 ·simp at h1
 ·simp only [Value.slice.injEq,Option.some.injEq,Addr.mk.injEq,and_true] at hv;obtain ⟨rfl,_,_⟩:=hv
  have:=hc k hk 0 u hu
  rw [bL] at this;simpa using this
theorem Ow.nat {E:TypeId} {w:World} {base g n cap:Nat} {l:List Nat} (h:Ow E0 E w base (Aa (Ac ⟨g,0,Ab⟩) n cap) l) {k:Nat} (hk:k<l.length):w.cell? ⟨g,k,Ab⟩=Ac (J U (l[k]:Int)):=h.one_ rfl hk rfl
theorem Ow.bool {E:TypeId} {w:World} {base g n cap:Nat} {l:List Bool} (h:Ow Uo E w base (Aa (Ac ⟨g,0,Ab⟩) n cap) l) {k:Nat} (hk:k<l.length):w.cell? ⟨g,k,Ab⟩=Ac (.bool l[k]):=h.one_ rfl hk rfl
theorem Agh (a b:Nat) (ha:a<9223372036854775808) (hb:b<9223372036854775808):bits .or .i64 (a:Int) (b:Int)=((a ||| b:Nat):Int):=by
 have hx:a ||| b<2 ^ 63:=Nat.or_lt_two_pow Bl Bl
 have h1:(BitVec.ofInt 64 (a:Int)).toNat=a:=Ajl
 have h2:(BitVec.ofInt 64 (b:Int)).toNat=b:=Ajl
 show U.wrap ((BitVec.ofInt 64 (a:Int) ||| BitVec.ofInt 64 (b:Int)).toNat:Int)=_;rw [BitVec.toNat_or,h1,h2,IntKind.wrap_i64];generalize a ||| b=y at *
 exact Al1
theorem Ahb (a b:Nat) (ha:a<9223372036854775808) (hb:b<9223372036854775808):bits .and .i64 (a:Int) (b:Int)=((a &&& b:Nat):Int):=by
 have hx:a &&& b<2 ^ 63:=Nat.and_lt_two_pow _ Bl;have h1:(BitVec.ofInt 64 (a:Int)).toNat=a:=Ajl
 have h2:(BitVec.ofInt 64 (b:Int)).toNat=b:=Ajl
 show U.wrap ((BitVec.ofInt 64 (a:Int) &&& BitVec.ofInt 64 (b:Int)).toNat:Int)=_;rw [BitVec.toNat_and,h1,h2,IntKind.wrap_i64];generalize a &&& b=y at *
 have hy:y<9223372036854775808:=hx;clear h1 h2 hx;omega
theorem Agi (x k:Nat) (hx:x<9223372036854775808):(bits .and .i64 ((x:Int) / 2 ^ k) 1 == 1)=x.testBit k:=by
 have e:((x:Int) / 2 ^ k)=((x >>> k:Nat):Int):=by
  rw [Nat.shiftRight_eq_div_pow,Int.natCast_ediv,Int.natCast_pow];rfl
 have hl:x >>> k<9223372036854775808:=by
  rw [Nat.shiftRight_eq_div_pow];exact Nat.lt_of_le_of_lt (Nat.div_le_self _ _) hx
 have ha:=Ahb (x >>> k) 1 hl Bl;rw [e];rw [show (1:Int)=((1:Nat):Int) from rfl,ha];unfold Nat.testBit;rw [Nat.and_comm 1,Nat.and_one_is_mod];rcases Nat.mod_two_eq_zero_or_one (x >>> k) with h | h<;>simp [h]
theorem Ahc (d:Nat) (hd:d<63):wrap64 ((2:Int) ^ d)=((1 <<< d:Nat):Int):=by
 have h:2 ^ d<2 ^ 63:=Nat.pow_lt_pow_of_lt Bl hd;have e:(2:Int) ^ d=((2 ^ d:Nat):Int):=by rw [Int.natCast_pow];rfl
 rw [e,Nat.shiftLeft_eq,Nat.one_mul];clear e;generalize 2 ^ d=y at *
 unfold wrap64;omega
def Es (T:TypeId) (p:Plan) (ve:Value) (w:World):World:=w.alloc (.cells #[J U p.prio,J U p.most,J U p.wait,J U p.tasks,ve] T)
theorem K0 (T:TypeId) (p:Plan) (ve:Value) (w:World):Below w w (Es T p ve w):=Bu
theorem Fz (T:TypeId) (p:Plan) (ve:Value) (w:World):(Es T p ve w).heap.size=w.heap.size+1:=by simp [Es]
theorem Gh {T:TypeId} {p:Plan} {ve:Value} {w wr:World} (hb:Below (Es T p ve w) (Es T p ve w) wr) :
  wr.cell? ⟨w,0,Ab⟩=Ac (J U p.prio)/\wr.cell? ⟨w,1,Ab⟩=Ac (J U p.most)/\wr.cell? ⟨w,2,Ab⟩=Ac (J U p.wait) /\
   wr.cell? ⟨w,3,Ab⟩=Ac (J U p.tasks)/\wr.cell? ⟨w,4,Ab⟩=Ac ve/\w.heap.size+1<=wr.heap.size/\Below w w wr:=by
 have hs:=Fz T p ve w;have h:∀ j u,(Es T p ve w).cell? ⟨w,j,Ab⟩=Ac u->wr.cell? ⟨w,j,Ab⟩=Ac u:=fun j u hu=>(hb.cell (p:=⟨w,j,Ab⟩) (by rw [hs];simp)).trans hu;refine ⟨h 0 _ ?_,h 1 _ ?_,h 2 _ ?_,h 3 _ ?_,h 4 _ ?_,by rw [<-hs];exact hb.size,(K0 T p ve w).trans (hb.mono (by rw [hs];omega))⟩;all_goals simp [Es,go_sem]
end
section
variable {P:Program} {ops:Array Oper} {Q:Exit->Act->World->Prop} {md:Region.Mode} {S:World->Prop} {last:Nat}
def J3 (P:Program) (md:Region.Mode) (ops:Array Oper) (Q:Exit->Act->World->Prop) (S:World->Prop) (last:Nat):Nat->Array Bool->Act->World->Prop
 | 0,listed,a,w=>Region.ready md ops listed=[]/\Q .normal a w
 | fuel+1,listed,a,w =>
  (Region.ready md ops listed=[]->Q .normal a w) /\
  ∀ i∈Region.ready md ops listed,wpOp P ops Q i (fun a' w'=>(i≠last->S w')/\J3 P md ops Q S last fuel (listed.setIfInBounds i true) a' w') a w
theorem Up:∀ (fuel:Nat) (listed:Array Bool) (a:Act) (w:World),J3 P md ops Q S last fuel listed a w->wpAny P md ops Q fuel listed a w
 | 0,_,_,_,h=>h
 | fuel+1,_,_,_,h=>⟨h.1,fun i hi=>wpOp_mono (fun a' w' h'=>Up fuel _ a' w' h'.2) (h.2 i hi)⟩
def O6 (md:Region.Mode) (ops:Array Oper) (last i:Nat):Bool :=
 match ops[last]? with
 | some o=>o.after.any fun e=>Region.binds md e && e.on == i
 | none=>true
theorem Yt {i:Nat} {oi:Oper} {v:Value} (hi:ops[i]? = Ac oi) (hsel:∀ (j:Nat) (o:Oper) cs b,ops[j]? = Ac o->o.op ≠ .select cs b)
  (hQ:∀ c a w,Q (.panic c) (a.put oi.dst v) w->Q (.panic c) a w) (hl:O6 md ops last i=true) :
  ∀ (fuel:Nat) (listed:Array Bool) (a:Act) (w:World),
   (∀ j oj,ops[j]? = Ac oj->j≠i->listed.getD j true=false->(∀ e∈oj.after,Region.binds md e=true->e.on≠i)->oi.apart ops oj=true) ->
   i∈Region.ready md ops listed->YieldsIf P ops S oi v a->S w ->
   J3 P md ops Q S last fuel (listed.setIfInBounds i true) (a.put oi.dst v) w->J3 P md ops Q S last (fuel+1) listed a w:=by
 intro fuel;induction fuel with
 | zero =>
  intro listed a w _ hr hy hS H;refine ⟨fun h=>(by rw [h] at hr;cases hr),fun j hj=>?_⟩;by_cases hji:j=i
  ·subst hji;exact hy.wpOp hi hS ⟨fun _=>hS,H⟩
  ·have:=ready_mono hj hji
   rw [H.1] at this;cases this
 | succ fuel ih =>
  intro listed a w hfree hr hy hS H;refine ⟨fun h=>(by rw [h] at hr;cases hr),fun j hj=>?_⟩;by_cases hji:j=i
  ·subst hji;exact hy.wpOp hi hS ⟨fun _=>hS,H⟩
  ·have h1:=H.2 j (ready_mono hj hji);obtain ⟨hjun,oj,hoj,dQ⟩:=mem_ready.1 hj;have hnot:∀ e∈oj.after,Region.binds md e=true->e.on≠i:=fun e he hb fJ=>by
    have h1:=dQ e he hb;have h0:=(mem_ready.1 hr).1;rw [fJ] at h1;rcases Nat.lt_or_ge i listed.size with h' | h'
    ·simp [h'] at h0 h1;rw [h0] at h1;cases h1
    ·simp [Array.getElem?_eq_none h'] at h1
   have pZ:j≠last:=by
    intro e;subst e;unfold O6 at hl;rw [hoj] at hl;simp only [Array.any_eq_true] at hl;obtain ⟨k,hk,hb⟩:=hl;simp only [Bool.and_eq_true,beq_iff_eq] at hb;exact hnot _ (Array.getElem_mem hk) hb.1 hb.2
   have h2:=wpOp_putIf hoj (hfree j oj hoj hji hjun hnot) (fun cs b=>hsel i oi cs b hi) (fun cs b=>hsel j oj cs b hoj) hQ hy h1;have hfree':∀ k ok,ops[k]? = Ac ok->k≠i->(listed.setIfInBounds j true).getD k true=false ->
     (∀ e∈ok.after,Region.binds md e=true->e.on≠i)->oi.apart ops ok=true:=fun k ok hk vS eW cQ=>by
    refine hfree k ok hk vS ?_ cQ;by_cases gB:j=k
    ·subst gB;exact hjun
    ·rw [getD_set_ne true gB] at eW;exact eW
   refine wpOp_mono (fun a' w' h3=>⟨h3.2.1,ih (listed.setIfInBounds j true) a' w' hfree' (ready_mono hr (Ne.symm hji)) h3.1 (h3.2.1 pZ) ?_⟩) h2;rw [Array.setIfInBounds_comm _ _ hji];exact h3.2.2
theorem Aat {i:Nat} {oi:Oper} {v:Value} {fuel:Nat} {listed:Array Bool} {a:Act} {w:World} (hi:ops[i]? = Ac oi)
  (hs:Region.noSelect ops=true) (hl:O6 md ops last i=true) (hf:Region.free md ops listed i=true) (hr:(Region.ready md ops listed).contains i=true)
  (hQ:∀ c a w,Q (.panic c) (a.put oi.dst v) w->Q (.panic c) a w) (hS:S w) (hy:YieldsIf P ops S oi v a)
  (h:J3 P md ops Q S last fuel (listed.setIfInBounds i true) (a.put oi.dst v) w):J3 P md ops Q S last (fuel+1) listed a w :=
 Yt hi (Region.noSelect_spec hs) hQ hl fuel listed a w (Region.free_spec hi hf) (by simpa using hr) hy hS h
theorem aT (i:Nat) {oi:Oper} {v:Value} {fuel:Nat} {listed:Array Bool} {a:Act} {w:World} (hS:S w)
  (h:J3 P md ops Q S last fuel (listed.setIfInBounds i true) (a.put oi.dst v) w) (hi:ops[i]? = Ac oi:=by rfl)
  (hs:Region.noSelect ops=true:=by kernel_rfl) (hl:O6 md ops last i=true:=by kernel_rfl) (hf:Region.free md ops listed i=true:=by kernel_rfl) (hr:(Region.ready md ops listed).contains i=true:=by kernel_rfl)
  (hQ:∀ c a w,Q (.panic c) (a.put oi.dst v) w->Q (.panic c) a w:=by exact fun _ _ _ h=>h) (hw:Region.wanted oi (yielded ops a.tmps)=true:=by rfl)
  (hy:∀ w,S w->(execOp a.eval oi).run P w = .ok (.value v) w:=by (intro w hSw;(try dsimp only at hSw);go_simp;all_goals with_reducible rfl)):J3 P md ops Q S last (fuel+1) listed a w :=
 Aat hi hs hl hf hr hQ hS (Or.inl ⟨hw,hy⟩) h
theorem Ac0 {i:Nat} {o:Oper} {fuel:Nat} {listed:Array Bool} {a:Act} {w:World} (ho:ops[i]? = Ac o) (hr:Region.ready md ops listed=[i])
  (h:∀ K':Act->World->Prop,Hid (∀ a w,(i≠last->S w)->J3 P md ops Q S last fuel (listed.setIfInBounds i true) a w->K' a w) ->
   if Region.wanted o (yielded ops a.tmps)=true then Oper.wp P o a w K' Q else K' (a.put o.dst undef) w):J3 P md ops Q S last (fuel+1) listed a w:=by
 refine ⟨fun h0=>(by rw [hr] at h0;cases h0),fun j hj=>?_⟩;rw [hr,List.mem_singleton] at hj;subst hj;exact wpOp_step ho (fun K' hK=>h K' (fun a w hS hW=>hK a w ⟨hS,hW⟩))
theorem oT (i:Nat) {o:Oper} {fuel:Nat} {listed:Array Bool} {a:Act} {w:World}
  (h:∀ K':Act->World->Prop,Hid (∀ a w,(i≠last->S w)->J3 P md ops Q S last fuel (listed.setIfInBounds i true) a w->K' a w) ->
   if Region.wanted o (yielded ops a.tmps)=true then Oper.wp P o a w K' Q else K' (a.put o.dst undef) w) (ho:ops[i]? = Ac o:=by rfl) (hr:Region.ready md ops listed=[i]:=by kernel_rfl):J3 P md ops Q S last (fuel+1) listed a w:=Ac0 ho hr h
theorem Eh {listed:Array Bool} {a:Act} {w:World} (hr:Region.ready md ops listed=[]) (h:Q .normal a w):∀ fuel,J3 P md ops Q S last fuel listed a w
 | 0=>⟨hr,h⟩
 | _+1=>⟨fun _=>h,by rw [hr];intro i hi;cases hi⟩
theorem Dh {id:Nat} {a:Act} {w:World} (S:World->Prop) (last:Nat) (hm:P.follows .mixedOrders=true) (hS:S w.drew)
  (h:S w.drew->J3 P .any ops Q S last ops.size (Array.replicate ops.size false) a w.drew):(Code.region id ops true).wp P Q a w :=
 wp_region_any hm (Up _ _ _ _ (h hS))
end
theorem Ael {P:Program} {md:Region.Mode} {Q:Exit->Act->World->Prop} {S:World->Prop} {l:List Oper} (i:Nat) {oi:Oper} {v:Value} {fuel:Nat} {listed:Array Bool} {a:Act} {w:World} (hi:l[i]? = Ac oi)
  (hs:Region.noSelect l.toArray=true) (hf:Region.free md l.toArray listed i=true) (hr:(Region.ready md l.toArray listed).contains i=true) (hQ:∀ c a w,Q (.panic c) (a.put oi.dst v) w->Q (.panic c) a w)
  (hw:Region.wanted oi (yielded l.toArray a.tmps)=true) (hy:∀ w,S w->(execOp a.eval oi).run P w = .ok (.value v) w) (hS:S w)
  (h:wpAnyH P md l.toArray Q S fuel (listed.setIfInBounds i true) (a.put oi.dst v) w):wpAnyH P md l.toArray Q S (fuel+1) listed a w :=
 wpAnyH_take (by rw [List.getElem?_toArray];exact hi) hs hf hr hQ (.inl ⟨hw,hy⟩) hS h
theorem Oh {P:Program} {md:Region.Mode} {Q:Exit->Act->World->Prop} {S:World->Prop} {l:List Oper} (i:Nat) {o:Oper} {fuel:Nat} {listed:Array Bool} {a:Act} {w:World} (ho:l[i]? = Ac o)
  (hr:Region.ready md l.toArray listed=[i]) (hw:Region.wanted o (yielded l.toArray a.tmps)=true)
  (h:∀ K':Act->World->Prop,Shut (∀ a w,S w->(S w->wpAnyH P md l.toArray Q S fuel (listed.setIfInBounds i true) a w)->K' a w)->Oper.wp P o a w K' Q):wpAnyH P md l.toArray Q S (fuel+1) listed a w :=
 wpAnyH_ready hr Bo (AllReadyH.cons (o:=o) (by rw [List.getElem?_toArray];exact ho) (fun K hK=>by rw [if_pos hw];exact h K hK) AllReadyH.nil)
theorem Js {P:Program} {md:Region.Mode} {Q:Exit->Act->World->Prop} {S:World->Prop} {l:List Oper} (i j:Nat) {oi oj:Oper} {fuel:Nat} {listed:Array Bool} {a:Act} {w:World} (hi:l[i]? = Ac oi) (hj:l[j]? = Ac oj)
  (hr:Region.ready md l.toArray listed=[i,j]) (wi:Region.wanted oi (yielded l.toArray a.tmps)=true) (wj:Region.wanted oj (yielded l.toArray a.tmps)=true)
  (h1:∀ K':Act->World->Prop,Shut (∀ a w,S w->(S w->wpAnyH P md l.toArray Q S fuel (listed.setIfInBounds i true) a w)->K' a w)->Oper.wp P oi a w K' Q)
  (h2:∀ K':Act->World->Prop,Shut (∀ a w,S w->(S w->wpAnyH P md l.toArray Q S fuel (listed.setIfInBounds j true) a w)->K' a w)->Oper.wp P oj a w K' Q):wpAnyH P md l.toArray Q S (fuel+1) listed a w :=
 wpAnyH_ready hr Bo (AllReadyH.cons (o:=oi) (by rw [List.getElem?_toArray];exact hi) (fun K hK=>by rw [if_pos wi];exact h1 K hK) (AllReadyH.cons (o:=oj) (by rw [List.getElem?_toArray];exact hj) (fun K hK=>by rw [if_pos wj];exact h2 K hK) AllReadyH.nil))
theorem tY {P:Program} {md:Region.Mode} {Q:Exit->Act->World->Prop} {S:World->Prop} {l:List Oper} (i:Nat) {oi:Oper} {v:Value} {fuel:Nat} {listed:Array Bool} {a:Act} {w:World}
  (h:wpAnyH P md l.toArray Q S fuel (listed.setIfInBounds i true) (a.put oi.dst v) w) (hi:l[i]? = Ac oi:=by rfl)
  (hs:Region.noSelect l.toArray=true:=by kernel_rfl) (hf:Region.free md l.toArray listed i=true:=by kernel_rfl) (hr:(Region.ready md l.toArray listed).contains i=true:=by kernel_rfl) (hQ:∀ c a w,Q (.panic c) (a.put oi.dst v) w->Q (.panic c) a w:=by exact fun _ _ _ h=>h)
  (hw:Region.wanted oi (yielded l.toArray a.tmps)=true:=by rfl) (hS:S w:=by assumption)
  (hy:∀ w,S w->(execOp a.eval oi).run P w = .ok (.value v) w:=by (intro w' hSw;(try dsimp only at hSw);(try have h0:=hSw.cell 0 _ rfl);(try have h1:=hSw.cell 1 _ rfl);(try have h2:=hSw.cell 2 _ rfl);(try have h3:=hSw.cell 3 _ rfl);(try have h4:=hSw.cell 4 _ rfl);(try have h5:=hSw.cell 5 _ rfl);(try have h6:=hSw.cell 6 _ rfl);(try have h7:=hSw.cell 7 _ rfl);(try have h8:=hSw.cell 8 _ rfl);(try have h9:=hSw.cell 9 _ rfl);(try have h10:=hSw.cell 10 _ rfl);(try have h11:=hSw.cell 11 _ rfl);go_simp;(try with_reducible rfl))) :
  wpAnyH P md l.toArray Q S (fuel+1) listed a w:=Ael i hi hs hf hr hQ hw hy hS h
theorem tV {P:Program} {md:Region.Mode} {Q:Exit->Act->World->Prop} {S:World->Prop} {l:List Oper} (i:Nat) {oi:Oper} {v:Value} {fuel:Nat} {listed:Array Bool} {a:Act} {w:World}
  (h:wpAnyH P md l.toArray Q S fuel (listed.setIfInBounds i true) (a.put oi.dst v) w) (hi:l[i]? = Ac oi:=by rfl)
  (hs:Region.noSelect l.toArray=true:=by kernel_rfl) (hf:Region.free md l.toArray listed i=true:=by kernel_rfl) (hr:(Region.ready md l.toArray listed).contains i=true:=by kernel_rfl) (hQ:∀ c a w,Q (.panic c) (a.put oi.dst v) w->Q (.panic c) a w:=by exact fun _ _ _ h=>h)
  (hw:Region.wanted oi (yielded l.toArray a.tmps)=true:=by rfl) (hS:S w:=by assumption)
  (hy:∀ w,S w->(execOp a.eval oi).run P w = .ok (.value v) w:=by (intro w' hSw;(try dsimp only at hSw);(try have q0:=hSw.1.cell 0 _ rfl);(try have q1:=hSw.1.cell 1 _ rfl);(try have q2:=hSw.1.cell 2 _ rfl);(try have q3:=hSw.1.cell 3 _ rfl);(try have q4:=hSw.1.cell 4 _ rfl);(try have q5:=hSw.1.cell 5 _ rfl);(try have q6:=hSw.1.cell 6 _ rfl);(try have q7:=hSw.1.cell 7 _ rfl);(try have r0:=hSw.2.cell 0 _ rfl);(try have r1:=hSw.2.cell 1 _ rfl);(try have r2:=hSw.2.cell 2 _ rfl);(try have r3:=hSw.2.cell 3 _ rfl);(try have r4:=hSw.2.cell 4 _ rfl);(try have r5:=hSw.2.cell 5 _ rfl);(try have s0:=hSw.2.1.cell 0 _ rfl);(try have s1:=hSw.2.1.cell 1 _ rfl);(try have s2:=hSw.2.1.cell 2 _ rfl);(try have s3:=hSw.2.1.cell 3 _ rfl);(try have s4:=hSw.2.1.cell 4 _ rfl);(try have t0:=hSw.2.2.cell 0 _ rfl);(try have t1:=hSw.2.2.cell 1 _ rfl);(try have t2:=hSw.2.2.cell 2 _ rfl);(try have t3:=hSw.2.2.cell 3 _ rfl);(try have t4:=hSw.2.2.cell 4 _ rfl);go_simp;(try with_reducible rfl))) :
  wpAnyH P md l.toArray Q S (fuel+1) listed a w:=Ael i hi hs hf hr hQ hw hy hS h
theorem rC {P:Program} {md:Region.Mode} {Q:Exit->Act->World->Prop} {S:World->Prop} {l:List Oper} (i:Nat) {o:Oper} {fuel:Nat} {listed:Array Bool} {a:Act} {w:World}
  (h:∀ K':Act->World->Prop,Shut (∀ a w,S w->(S w->wpAnyH P md l.toArray Q S fuel (listed.setIfInBounds i true) a w)->K' a w)->Oper.wp P o a w K' Q) (ho:l[i]? = Ac o:=by rfl)
  (hr:Region.ready md l.toArray listed=[i]:=by kernel_rfl) (hw:Region.wanted o (yielded l.toArray a.tmps)=true:=by rfl):wpAnyH P md l.toArray Q S (fuel+1) listed a w:=Oh i ho hr hw h
def Qh (p:Plan) (w:World) (e:Ending) (w':World):Prop:=∃ v,e = .returned (G9 p v)/\Ow He 206 w' w v p.edges/\Below w w w'
theorem Cm (n lo hi:Int) (w:World):Calls Am 72 #[J U n,J U lo,J U hi] w fun e w'=>e = .returned (.bool (inB n lo hi))/\w=w':=by
 by_cases h1:lo<=n
 ·have t1:decide (lo<=n)=true:=by simpa using h1
  go_enter func72,ntmps72;exact Ak6
 ·have t1:decide (lo<=n)=false:=by simpa using h1
  go_enter func72,ntmps72;exact Ak6
theorem Cd (n lo hi:Int) (w:World):Calls Am 90 #[J U n,J U lo,J U hi] w fun e w'=>e = .returned (.bool (inB n lo hi))/\w=w':=by
 by_cases h1:lo<=n
 ·have t1:decide (lo<=n)=true:=by simpa using h1
  go_enter func90,ntmps90;exact Ak6
 ·have t1:decide (lo<=n)=false:=by simpa using h1
  go_enter func90,ntmps90;exact Ak6
theorem Cs (n:Int) (w:World):Calls Am 161 #[J U n] w fun e w'=>e = .returned (.bool (inB n 0 1000000000))/\w=w':=by
 go_enter func161,ntmps161;go_wp2_with (go_at_call 90;refine (Cd _ _ _ _).mono ?_;rintro e w' ⟨rfl,rfl⟩)
 go_ret;exact ⟨rfl,rfl⟩
def Hv {α:Type} (p:α->Bool) (l:List α):Int:=match l.findIdx? p with | some i=>i | none=>-1
theorem Jy {α:Type} {p:α->Bool} {l:List α} {k:Nat} (hk:k<l.length) (h:∀ j (hj:j<k),p (l[j]' Bl)=false) (hp:p l[k]=true):Hv p l=k:=by
 have:l.findIdx? p=Ac k:=by
  rw [List.findIdx?_eq_some_iff_getElem];exact ⟨hk,hp,fun j hj=>by simp [h j hj]⟩
 simp [Hv,this]
theorem Km {α:Type} {p:α->Bool} {l:List α} (h:∀ j (hj:j<l.length),p l[j]=false):Hv p l = -1:=by
 have:l.findIdx? p=Ab:=by
  rw [List.findIdx?_eq_none_iff];intro x hx;obtain ⟨j,hj,rfl⟩:=List.getElem_of_mem hx;exact h j hj
 simp [Hv,this]
theorem K4:(Am.info? 3).map (fun i=>(i.zero,i.size,i.bytes))=Ac (Ac (J U 0),1,8):=Bm
theorem Ae6 (p:Plan) (ve:Value) (w:World) (hm:E5 p=true) (he:Hu p) (h:Rd He w w ve p.edges) :
  Calls Am 271 #[G9 p ve] w fun e w'=>∃ v,e = .returned v/\Ow E0 3 w' w v (Pg.Lf (Ea p) p.tasks.toNat (List.replicate p.tasks.toNat 0))/\Below w w w':=by
 obtain ⟨A,c,rfl,-⟩:=id h;obtain ⟨t1,t2⟩:=Er hm;have aE:=Fw hm;obtain ⟨T,hT⟩:=Ap (show 0<=p.tasks by omega);have HT:=Br hT;have fR:T<=12:=Bl;obtain ⟨i0,aQ,aU,aS,aR⟩:=info_parts K4;have kN:∀ w:World,(Instr.makeSlice 26 (.int .i64 p.tasks) (.int .i64 p.tasks)).run Am w = .ok (.slice (Ac ⟨w,0,Ab⟩) T T) (w.alloc (.cells (madeCells #[.int .i64 0] (T * 1)) 3)):=by
  intro w
  have:=run_make (P:=Am) w 26 3 i0 _ underlying26 aQ aU .i64 .i64 T T Bl Bl (by rw [aR];omega) Bl
  rw [aS] at this;rw [hT];simpa [Value.cells] using this
 clear hT;unfold G9;go_enter func271,ntmps271;go_wp2;go_loopw [11] (fun i wr=>∃ k:Nat,k<=T/\i = .int .i64 k/\Ow E0 3 wr (w+1) (.slice (Ac ⟨w+1,0,Ab⟩) T T) (Pg.Lf (Ea p) k (List.replicate T 0))/\Below (Es 43 p (.slice A p.edges.length c) w) (Es 43 p (.slice A p.edges.length c) w) wr) (fun i _=>T - (intOf i).toNat);case atStart =>
  refine ⟨0,Ag _,rfl,?_,Bu⟩
  have:=Ow.made E0 3 (Es 43 p (.slice A p.edges.length c) w) 0 T Bq (by simp [maxLen];omega) (z:=#[.int .i64 0]) rfl (m:=T) (by simp [E0])
  rw [Fz] at this;exact this
 case round =>
  obtain ⟨k,hk,rfl,hown,hb⟩:=hrel;obtain ⟨x0,x1,x2,x3,x4,hs,bV⟩:=Gh hb;by_cases aA:k<T
  ·have aB:(k:Int)<p.tasks:=by rw [HT.out];omega
   obtain ⟨wo,rfl⟩:∃ wo:World,wo=wr:=⟨_,rfl⟩
   go_wp2;go_loopw [16] (fun i wr=>∃ j:Nat,j<=p.edges.length/\i = .int .i64 j/\Ow E0 3 wr (w+1) (.slice (Ac ⟨w+1,0,Ab⟩) T T) (Pg.Lw (esL (p.edges.take j)) (Pg.Lf (Ea p) k (List.replicate T 0)))/\Below (Es 43 p (.slice A p.edges.length c) w) (Es 43 p (.slice A p.edges.length c) w) wr) (fun i _=>p.edges.length - (intOf i).toNat);case atStart=>exact ⟨0,Ag _,rfl,hown,hb⟩
   case round =>
    clear hown hb x0 x1 x2 x3 x4 hs bV;obtain ⟨j,hj,rfl,hown,hb⟩:=hrel;obtain ⟨x0,x1,x2,x3,x4,hs,bV⟩:=Gh hb;by_cases dK:j<p.edges.length
    ·obtain ⟨b,o,rfl,aJ,c0,c1⟩:=(h.below bV).edge dK;obtain ⟨f1,f2,f3,f4⟩:=Ig he dK;rw [HT.out] at f2 f4;have ht:=Br (show esL (p.edges.take (j+1))=esL (p.edges.take j) ++ [(p.edges[j].fr.toNat,p.edges[j].to.toNat)] by unfold esL;rw [Cp _ j dK,List.map_append];rfl);generalize p.edges[j].fr=fx at *
     generalize p.edges[j].to=tx at *
     obtain ⟨a,rfl⟩:=Ap f1;obtain ⟨d,rfl⟩:=Ap f3;have pB:(Pg.Lw (esL (p.edges.take j)) (Pg.Lf (Ea p) k (List.replicate T 0))).length=T:=by rw [Pg.Wr,Pg.Lx,List.length_replicate]
     have hnext:Hid (Pg.Lw (esL (p.edges.take (j+1))) (Pg.Lf (Ea p) k (List.replicate T 0))=Pg.Pp (Pg.Lw (esL (p.edges.take j)) (Pg.Lf (Ea p) k (List.replicate T 0))) (a,d)):=by
      show Pg.Lw _ _=_;rw [ht.out];simp only [Ao];unfold Pg.Lw;rw [List.foldl_append];rfl
     have aW:∀ x∈Pg.Lw (esL (p.edges.take j)) (Pg.Lf (Ea p) k (List.replicate T 0)),x<2 ^ T:=by
      refine Pg.Ae0 T _ _ ?_ (Pg.Acw T _ _ ?_ ?_ k)
      ·intro e he';simp only [esL,List.mem_map] at he';obtain ⟨y,hy,rfl⟩:=he'
       have:=(Ml he).2 (y.fr.toNat,y.to.toNat) (by simp only [Ea,esL,List.mem_map];exact ⟨y,List.mem_of_mem_take hy,rfl⟩)
       rw [HT.out] at this;simpa using this
      ·have:=(Ml he).2
       rw [HT.out] at this;simpa using this
      ·intro x hx
       have:=List.eq_of_mem_replicate hx
       subst this;exact Nat.two_pow_pos T
     generalize hO:Pg.Lw (esL (p.edges.take j)) (Pg.Lf (Ea p) k (List.replicate T 0))=O at *
     have HO:=Br hO;clear hO ht;have hol':=Br pB;have ha:a<O.length:=Bl;have hd:d<O.length:=Bl;clear pB;have sV:=hown.blk.2;have n0:(wr.alloc (.cells #[.int .i64 (a:Int),.int .i64 (d:Int)] 206)).cell? ⟨wr,0,Ab⟩=Ac (.int .i64 (a:Int)):=by go_simp
     have n1:(wr.alloc (.cells #[.int .i64 (a:Int),.int .i64 (d:Int)] 206)).cell? ⟨wr,1,Ab⟩=Ac (.int .i64 (d:Int)):=by go_simp
     have hown2:=Ow.below hown ((Bs _ _).alloc (Bt _) (.cells #[.int .i64 (a:Int),.int .i64 (d:Int)] 206));have aK:=hb.alloc hb.size (.cells #[.int .i64 (a:Int),.int .i64 (d:Int)] 206);go_wp2;generalize wr.alloc (.cells #[.int .i64 (a:Int),.int .i64 (d:Int)] 206)=W2 at *
     have hcf:=hown2.free;have ca:=hown2.nat ha;have cd:=hown2.nat hd;go_still_tail 16,Bm;go_wp2;have hda:O[d]<2 ^ T:=aW _ (Aw hd);have haa:O[a]<2 ^ T:=aW _ (Aw ha);have hpT:2 ^ T<=2 ^ 12:=Nat.pow_le_pow_right Bl fR;have hpd:1 <<< d<2 ^ 12:=by rw [Nat.shiftLeft_eq,Nat.one_mul];exact Nat.pow_lt_pow_of_lt Bl Bl
     have hor:1 <<< d ||| O[d]<2 ^ 12:=Nat.or_lt_two_pow hpd (Ai hda hpT)
     have tA:∀ {x:Nat},x<2 ^ 12->x<9223372036854775808:=fun h=>Ai h Bq;rw [Ahc d Bl,Agh (1 <<< d) O[d] (tA hpd) (tA (Ai hda hpT)),Agh O[a] (1 <<< d ||| O[d]) (tA (Ai haa hpT)) (tA hor)];clear hpd hor tA hda haa hpT;have cU:=Ow.put hown2 (n:=T) hol'.out a Bl (O[a] ||| (1 <<< d ||| O[d]));have dX:O.set a (O[a] ||| (1 <<< d ||| O[d]))=Pg.Pp O (a,d):=by
      simp [Pg.Pp,List.getD_eq_getElem?_getD,ha,hd]
     rw [dX,<-hnext.out] at cU;simp only [E0,Nat.mul_one] at cU;refine ⟨⟨j+1,Bl,by go_num,cU.1,((aK.grown cU.2 aK.size (fun g hg=>?_))).drew⟩,clM⟩;rw [Fz];simp at hg;omega
    ·have hj':j=p.edges.length:=Bl;subst hj';rw [List.take_length] at hown;go_wp2;exact ⟨⟨k+1,Bl,by go_num,hown,hb⟩,clM⟩
  ·have aB:¬ (k:Int)<p.tasks:=by rw [HT.out];omega
   go_wp2;go_ret;refine ⟨_,rfl,?_,bV⟩;have:k=T:=Bl;subst this;rw [HT.out];exact hown.more Bl
theorem uY {P:Program} {md:Region.Mode} {Q:Exit->Act->World->Prop} {S:World->Prop} {l:List Oper} (i:Nat) {oi:Oper} {v:Value} {fuel:Nat} {listed:Array Bool} {a:Act} {w:World}
  (h:wpAnyH P md l.toArray Q S fuel (listed.setIfInBounds i true) (a.put oi.dst v) w) (hi:l[i]? = Ac oi:=by rfl)
  (hs:Region.noSelect l.toArray=true:=by as_aux_lemma=>kernel_rfl) (hf:Region.free md l.toArray listed i=true:=by as_aux_lemma=>kernel_rfl) (hr:(Region.ready md l.toArray listed).contains i=true:=by as_aux_lemma=>kernel_rfl) (hQ:∀ c a w,Q (.panic c) (a.put oi.dst v) w->Q (.panic c) a w:=by exact fun _ _ _ h=>h)
  (hw:Region.wanted oi (yielded l.toArray a.tmps)=true:=by rfl) (hS:S w:=by assumption)
  (hy:∀ w,S w->(execOp a.eval oi).run P w = .ok (.value v) w:=by (intro w' hSw;(try dsimp only at hSw);(try have h0:=hSw.cell 0 _ rfl);(try have h1:=hSw.cell 1 _ rfl);(try have h2:=hSw.cell 2 _ rfl);(try have h3:=hSw.cell 3 _ rfl);(try have h4:=hSw.cell 4 _ rfl);(try have h5:=hSw.cell 5 _ rfl);(try have h6:=hSw.cell 6 _ rfl);(try have h7:=hSw.cell 7 _ rfl);(try have h8:=hSw.cell 8 _ rfl);(try have h9:=hSw.cell 9 _ rfl);(try have h10:=hSw.cell 10 _ rfl);(try have h11:=hSw.cell 11 _ rfl);go_simp;(try with_reducible rfl))) :
  wpAnyH P md l.toArray Q S (fuel+1) listed a w:=Ael i hi hs hf hr hQ hw hy hS h
theorem uZ {P:Program} {md:Region.Mode} {Q:Exit->Act->World->Prop} {S:World->Prop} {l:List Oper} (i:Nat) {oi:Oper} {v:Value} {fuel:Nat} {listed:Array Bool} {a:Act} {w:World}
  (h:wpAnyH P md l.toArray Q S fuel (listed.setIfInBounds i true) (a.put oi.dst v) w) (hi:l[i]? = Ac oi:=by rfl)
  (hs:Region.noSelect l.toArray=true:=by as_aux_lemma=>kernel_rfl) (hf:Region.free md l.toArray listed i=true:=by as_aux_lemma=>kernel_rfl) (hr:(Region.ready md l.toArray listed).contains i=true:=by as_aux_lemma=>kernel_rfl) (hQ:∀ c a w,Q (.panic c) (a.put oi.dst v) w->Q (.panic c) a w:=by exact fun _ _ _ h=>h)
  (hw:Region.wanted oi (yielded l.toArray a.tmps)=true:=by rfl) (hS:S w:=by assumption) (hy:∀ w,S w->(execOp a.eval oi).run P w = .ok (.value v) w):wpAnyH P md l.toArray Q S (fuel+1) listed a w:=Ael i hi hs hf hr hQ hw hy hS h
theorem Ah2 {G P:Prop} (h:G->P) (g:G):P:=h g
theorem Ah3 {P:Program} {md:Region.Mode} {ops:Array Oper} {Q:Exit->Act->World->Prop} {S:World->Prop} {fuel:Nat} {listed:Array Bool} (L:Array Bool) {a:Act} {w:World} (h:wpAnyH P md ops Q S fuel L a w) (e:listed=L:=by as_aux_lemma=>kernel_rfl):wpAnyH P md ops Q S fuel listed a w:=e ▸ h
theorem Ua {P:Program} {md:Region.Mode} {Q:Exit->Act->World->Prop} {S:World->Prop} {l:List Oper} (i j k:Nat) {oi oj ok:Oper} {fuel:Nat} {listed:Array Bool} {a:Act} {w:World} (hi:l[i]? = Ac oi) (hj:l[j]? = Ac oj) (hk:l[k]? = Ac ok)
  (hr:Region.ready md l.toArray listed=[i,j,k]) (wi:Region.wanted oi (yielded l.toArray a.tmps)=true) (wj:Region.wanted oj (yielded l.toArray a.tmps)=true) (wk:Region.wanted ok (yielded l.toArray a.tmps)=true)
  (h1:∀ K':Act->World->Prop,Shut (∀ a w,S w->(S w->wpAnyH P md l.toArray Q S fuel (listed.setIfInBounds i true) a w)->K' a w)->Oper.wp P oi a w K' Q)
  (h2:∀ K':Act->World->Prop,Shut (∀ a w,S w->(S w->wpAnyH P md l.toArray Q S fuel (listed.setIfInBounds j true) a w)->K' a w)->Oper.wp P oj a w K' Q)
  (h3:∀ K':Act->World->Prop,Shut (∀ a w,S w->(S w->wpAnyH P md l.toArray Q S fuel (listed.setIfInBounds k true) a w)->K' a w)->Oper.wp P ok a w K' Q):wpAnyH P md l.toArray Q S (fuel+1) listed a w :=
 wpAnyH_ready hr Bo (AllReadyH.cons (o:=oi) (by rw [List.getElem?_toArray];exact hi) (fun K hK=>by rw [if_pos wi];exact h1 K hK) (AllReadyH.cons (o:=oj) (by rw [List.getElem?_toArray];exact hj) (fun K hK=>by rw [if_pos wj];exact h2 K hK) (AllReadyH.cons (o:=ok) (by rw [List.getElem?_toArray];exact hk) (fun K hK=>by rw [if_pos wk];exact h3 K hK) AllReadyH.nil)))
def Ah4 (v:Value) (lo hi:Nat):Prop:=∀ g,v.ownBlock=Ac g->lo<=g/\g<hi
theorem Ow.within {α:Type} {e:Enc α} {E:TypeId} {w:World} {base:Nat} {v:Value} {l:List α} (h:Ow e E w base v l):Ah4 v base w:=by
 intro g hg;rcases h.form with ⟨rfl,_⟩ | ⟨g',cap,rfl,h1,h2,_⟩
 ·simp [Value.ownBlock] at hg
 ·have:g'=g:=by simpa [Value.ownBlock] using hg
  omega
structure BoxAt (b:Nat) (p:Plan) (v:Value) (w:World):Prop where
 cells:w.cell? ⟨b,0,none⟩=some (.int .i64 p.prio)/\w.cell? ⟨b,1,none⟩=some (.int .i64 p.most)/\w.cell? ⟨b,2,none⟩=some (.int .i64 p.wait) /\
  w.cell? ⟨b,3,none⟩=some (.int .i64 p.tasks)/\w.cell? ⟨b,4,none⟩=some v/\b<w
 free:∀ j,w.frozen? ⟨b,j,none⟩=false
theorem BoxAt.lt {b:Nat} {p:Plan} {v:Value} {w:World} (h:BoxAt b p v w):b<w:=h.cells.2.2.2.2.2
theorem BoxAt.new' (T:TypeId) (p:Plan) (v:Value) (w:World) {b:Nat} (hb:b=w):BoxAt b p v (w.alloc (.cells #[J U p.prio,J U p.most,J U p.wait,J U p.tasks,v] T)):=by
 subst hb;refine ⟨⟨?_,?_,?_,?_,?_,Bo⟩,fun j=>?_⟩;all_goals simp [go_sem]
theorem BoxAt.new (T:TypeId) (p:Plan) (v:Value) (w:World):BoxAt w p v (Es T p v w):=BoxAt.new' T p v w rfl
theorem BoxAt.keep {b:Nat} {p:Plan} {v:Value} {w w':World} (h:BoxAt b p v w) (hs:w.heap.size<=w'.heap.size) (hk:∀ j,w'.cell? ⟨b,j,Ab⟩=w.cell? ⟨b,j,Ab⟩) (hf:∀ j,w'.frozen? ⟨b,j,Ab⟩=w.frozen? ⟨b,j,Ab⟩):BoxAt b p v w':=by
 obtain ⟨h0,h1,h2,h3,h4,h5⟩:=h.cells;exact ⟨⟨(hk 0).trans h0,(hk 1).trans h1,(hk 2).trans h2,(hk 3).trans h3,(hk 4).trans h4,Ai h5 hs⟩,fun j=>(hf j).trans (h.free j)⟩
theorem BoxAt.upto {B b:Nat} {p:Plan} {v:Value} {w w':World} (h:BoxAt b p v w) (hb:Below B w w') (aA:b<B):BoxAt b p v w' :=
 h.keep hb.size (fun j=>hb.cell (p:=⟨b,j,Ab⟩) aA) (fun j=>hb.frozen (p:=⟨b,j,Ab⟩) aA)
theorem BoxAt.below {b:Nat} {p:Plan} {v:Value} {w w':World} (h:BoxAt b p v w) (hb:Below w w w'):BoxAt b p v w':=h.upto hb h.lt
theorem BoxAt.far {b:Nat} {p:Plan} {v:Value} {w w':World} {row:Option Nat} (h:BoxAt b p v w) (hg:w.grownBy w' row) (aC:Ac b≠row):BoxAt b p v w' :=
 h.keep hg.size (fun j=>hg.cell_far ⟨b,j,Ab⟩ h.lt aC) (fun j=>hg.frozen_far ⟨b,j,Ab⟩ h.lt aC)
theorem Pr (w:World) (a:Addr) (u:Value):w.grownBy (w.setCell a u) (Ac a.block) :=
 ⟨rfl,rfl,rfl,by simp [World.setCell],fun k _ aC=>Below.heap_setCell w a u k (fun e=>aC (by rw [e]))⟩
theorem Ow.setOther {α:Type} {e:Enc α} {E:TypeId} {w:World} {base:Nat} {v:Value} {l:List α} (h:Ow e E w base v l) {a:Addr} (aC:v.ownBlock≠Ac a.block) (u:Value):Ow e E (w.setCell a u) base v l :=
 h.grown (Pr w a u) (.inr aC)
theorem Ae7:(Am.info? 4).map (fun i=>(i.zero,i.size,i.bytes))=Ac (Ac (.bool false),1,1):=Bm
def Agj (p:Plan) (t:Nat) (w:World) (e:Ending) (w':World):Prop :=
 ∃ v O,e = .returned v/\Ow Uo 4 w' w v O/\Below w w w'/\O.length=p.tasks.toNat /\ ∀ y,O.getD y false=true ↔ Pg.Reach (Ea p) t y
theorem Agk (p:Plan) (ve:Value) (t:Nat) (w:World) (hm:E5 p=true) (he:Hu p) (ht:(t:Int)<p.tasks) (h:Rd He w w ve p.edges) :
  Calls Am 288 #[G9 p ve,.int .i64 (t:Int)] w (Agj p t w):=by
 obtain ⟨A,c,rfl,-⟩:=id h;obtain ⟨t1,t2⟩:=Er hm;have aE:=Fw hm;obtain ⟨T,hT⟩:=Ap (show 0<=p.tasks by omega);have HT:=Br hT;have fR:T<=12:=Bl;have htT:t<T:=Bl;obtain ⟨i0,aQ,aU,aS,aR⟩:=info_parts Ae7;obtain ⟨j0,bX,jz0,jz1,jz2⟩:=info_parts K4;have kN:∀ w:World,(Instr.makeSlice 295 (.int .i64 p.tasks) (.int .i64 p.tasks)).run Am w = .ok (.slice (Ac ⟨w,0,Ab⟩) T T) (w.alloc (.cells (madeCells #[.bool false] (T * 1)) 4)):=by
  intro w
  have:=run_make (P:=Am) w 295 4 i0 _ underlying295 aQ aU .i64 .i64 T T Bl Bl (by rw [aR];omega) Bl
  rw [aS] at this;rw [hT];simpa [Value.cells] using this
 have sX:(∀ e∈Ea p,e.1<T)/\(∀ e∈Ea p,e.2<T):=by
  have:=Ml he
  rw [hT] at this;simpa using this
 clear hT;unfold G9;go_enter func288,ntmps288;go_wp2;go_loopw [6,7] (fun vl i wr=>∃ (k:Nat) (s:List Bool×List Nat),Hid (Pg.Bat (Ea p) T t k s)/\i = .int .i64 k/\Ow Uo 4 wr (w+1) (.slice (Ac ⟨w+1,0,Ab⟩) T T) s.1/\Ow E0 3 wr (w+1) vl s.2 /\
   Below (Es 43 p (.slice A p.edges.length c) w) (Es 43 p (.slice A p.edges.length c) w) wr) (fun _ i _=>T+2 - (intOf i).toNat)
 case atStart =>
  refine ⟨0,_,Pg.Bat.start (Ea p) T t,rfl,?_,?_,?_⟩
  ·have:=Ow.made Uo 4 (Es 43 p (.slice A p.edges.length c) w) false T Bq (by simp [maxLen];omega) (z:=#[.bool false]) rfl (m:=T) (by simp [Uo])
   rw [Fz] at this;exact this.below (Bu)
  ·have:=World.ownsRow_lit (base:=w+1) (e:=3) (size:=1) ((Es 43 p (.slice A p.edges.length c) w).alloc (.cells (madeCells #[.bool false] T) 4)) #[.int .i64 (t:Int)] 1 (by simp [Fz]) (by simp [maxLen]) rfl
   simp only [World.size_alloc,Fz] at this;exact this
  ·exact (Bu).alloc Bo _
 case round =>
  obtain ⟨k,s,kE,rfl,ho,hl,hb⟩:=hrel;obtain ⟨x0,x1,x2,x3,x4,hs,bV⟩:=Gh hb;have bE:w.heap.size<wr.heap.size:=Bl;have hkT:=kE.out.inv.lt;have mA:=kE.out.le;have pB:=Br kE.out.inv.size;rcases hl.form with ⟨_,e0⟩ | ⟨gl,cap,rfl,hgl0,sV,aM,kU,hlf,hlcell⟩
  ·exfalso;obtain ⟨l,hh,_⟩:=kE.out.inv.head;rw [hh] at e0;cases e0
  clear hlcell hlf;by_cases aA:k<s.2.length
  ·have aB:(k:Int)<(s.2.length:Int):=Bl;obtain ⟨wo,rfl⟩:∃ wo:World,wo=wr:=⟨_,rfl⟩
   have kX:s.2[k]? = Ac s.2[k]:=List.getElem?_eq_getElem aA;have gL:=Br (kE.out.next sX.2 kX);clear kX;go_wp2;go_loopw [6,8] (fun vl i wr=>∃ (j:Nat),j<=p.edges.length/\i = .int .i64 j/\Ow Uo 4 wr (w+1) (.slice (Ac ⟨w+1,0,Ab⟩) T T) (Pg.Og (esL (p.edges.take j)) s.2[k] s).1/\Ow E0 3 wr (w+1) vl (Pg.Og (esL (p.edges.take j)) s.2[k] s).2 /\
    Below (Es 43 p (.slice A p.edges.length c) w) (Es 43 p (.slice A p.edges.length c) w) wr) (fun _ i _=>p.edges.length - (intOf i).toNat)
   case atStart=>exact ⟨0,Ag _,rfl,ho,hl,hb⟩
   case round =>
    clear ho hl hb x0 x1 x2 x3 x4 hs bV bE hgl0 sV aM kU;obtain ⟨j,hj,rfl,ho,hl,hb⟩:=hrel;obtain ⟨x0,x1,x2,x3,x4,hs,bV⟩:=Gh hb;have bE:w.heap.size<wr.heap.size:=Bl;by_cases dK:j<p.edges.length
    ·have jF:(j:Int)<(p.edges.length:Int):=Bl;obtain ⟨b,o,rfl,aJ,c0,c1⟩:=(h.below bV).edge dK;obtain ⟨f1,f2,f3,f4⟩:=Ig he dK;rw [HT.out] at f2 f4;have dE:=Br (show esL (p.edges.take (j+1))=esL (p.edges.take j) ++ [(p.edges[j].fr.toNat,p.edges[j].to.toNat)] by unfold esL;rw [Cp _ j dK,List.map_append];rfl);generalize p.edges[j].fr=fx at *
     generalize p.edges[j].to=tx at *
     obtain ⟨a,rfl⟩:=Ap f1;obtain ⟨d,rfl⟩:=Ap f3;have aF:Hid (Pg.Og (esL (p.edges.take (j+1))) s.2[k] s=Pg.M5 s.2[k] (Pg.Og (esL (p.edges.take j)) s.2[k] s) (a,d)):=by
      show Pg.Og _ _ _=_;rw [dE.out];simp only [Ao];unfold Pg.Og;rw [List.foldl_append];rfl
     have mX:=Pg.Ag8 (esL (p.edges.take j)) s.2[k] s;rw [pB.out] at mX;obtain ⟨r,hr⟩:=Pg.Ae3 (esL (p.edges.take j)) s.2[k] s;have hgk:(Pg.Og (esL (p.edges.take j)) s.2[k] s).2[k]? = Ac s.2[k]:=by rw [hr,List.getElem?_append_left aA,List.getElem?_eq_getElem aA]
     have hlen2:s.2.length<=(Pg.Og (esL (p.edges.take j)) s.2[k] s).2.length:=by rw [hr];simp
     clear hr dE;generalize hS:Pg.Og (esL (p.edges.take j)) s.2[k] s=S at *
     have HS:=Br hS;clear hS;generalize hx:s.2[k]=x at *
     have HX:=Br hx;clear hx;rcases hl.form with ⟨_,e0⟩ | ⟨gl',cap',rfl,hgl0,sV,aM,kU,hlf,hlcell⟩
     ·exfalso
      have:=congrArg List.length e0
      simp only [List.length_nil] at this;omega
     have hkS:k<S.2.length:=Bl;have hSk:Hid (S.2[k]=x):=by
      rw [List.getElem?_eq_getElem hkS] at hgk;exact Option.some.inj hgk
     have cx:=hl.nat hkS;rw [hSk.out] at cx;have hHbl:=Br mX;have hdO:d<S.1.length:=by rw [mX];omega
     have cO:=ho.bool hdO;have hgO:=ho.blk.2;have hkSI:(k:Int)<(S.2.length:Int):=Bl;clear mX hgk hlcell;by_cases hax:a=x
     ·subst hax;have dF:S.1.getD d true=S.1[d]:=by rw [List.getD_eq_getElem?_getD,List.getElem?_eq_getElem hdO];rfl
      have mL:((a:Int) == (a:Int))=true:=Bo;cases hO:S.1[d]
      ·rw [hO] at cO;have jE:Hid (Pg.Og (esL (p.edges.take (j+1))) a s=(S.1.set d true,S.2 ++ [d])):=by
        show Pg.Og _ _ _=_;rw [aF.out];unfold Pg.M5;rw [if_pos ⟨rfl,by rw [dF,hO]⟩]
       clear dF hO aF;have e1:(wr.alloc (.cells #[.int .i64 (a:Int),.int .i64 (d:Int)] 206)).cell? ⟨wr,1,Ab⟩=Ac (.int .i64 (d:Int)):=by go_simp
       go_wp2;go_quiet (fail);have hW:=Dq ((Bs wr wr).alloc (Bt _) (.cells #[.int .i64 (a:Int),.int .i64 (d:Int)] 206)) nq;have aK:=Dq (hb.alloc hb.size (.cells #[.int .i64 (a:Int),.int .i64 (d:Int)] 206)) nq;have e2:((wr.alloc (.cells #[.int .i64 (a:Int),.int .i64 (d:Int)] 206)).drewN nq).cell? ⟨wr,1,Ab⟩=Ac (.int .i64 (d:Int)):=e1;have hwn:wr.heap.size<((wr.alloc (.cells #[.int .i64 (a:Int),.int .i64 (d:Int)] 206)).drewN nq).heap.size:=Bo;clear e1 c0 c1 cx cO;generalize (wr.alloc (.cells #[.int .i64 (a:Int),.int .i64 (d:Int)] 206)).drewN nq=W2 at *
       have fX:=ho.below hW;have fL:=hl.below hW;have cO2:=fX.bool hdO;have hof:=fX.free;have cU:=Ow.put fX (n:=T) (by rw [hHbl.out]) d Bl true;simp only [Uo,Nat.mul_one] at cU;have qR:Ow E0 3 (W2.setCell ⟨w+1,d,Ab⟩ (.bool true)) (w+1) (.slice (Ac ⟨gl',0,Ab⟩) S.2.length cap') S.2:=fL.grown cU.2 (by
        have:=fL.ne_ fX Bq
        simpa [Value.ownBlock] using this)
       have hkp:=Fz 43 p (.slice (Ac ⟨b,o,Ab⟩) p.edges.length c) w;have cB:=aK.grown cU.2 aK.size (fun g hg=>by rw [Fz];simp at hg;omega);have vL:=cU.1;have hl4:=qR.below ((Bs _ _).alloc (Bt _) (.cells #[.int .i64 (d:Int)] 3));have hwz:w.heap.size+1<=W2.heap.size:=Bl;have cX:=cB.alloc cB.size (.cells #[.int .i64 (d:Int)] 3);clear cU;have hSl:S.2.length<=3000000:=by
        have:=(Pg.Ae4 (x:=a) (esL (p.edges.take j)) kE.out.inv (by rw [<-HX.out];exact Aw aA) (fun e he'=>by
         simp only [esL,List.mem_map] at he';obtain ⟨y,hy,rfl⟩:=he';simp only [Ea,esL,List.mem_map];exact ⟨y,List.mem_of_mem_take hy,rfl⟩) (fun e he'=>by
         simp only [esL,List.mem_map] at he';obtain ⟨y,hy,rfl⟩:=he';exact sX.2 _ (by simp only [Ea,esL,List.mem_map];exact ⟨y,List.mem_of_mem_take hy,rfl⟩))).lt
        rw [HS.out] at this;omega
       go_wp2_with (at_builtin;refine K3 (v:=.slice (Ac ⟨gl',0,Ab⟩) S.2.length cap') E0 Bq rfl (.tmp 52) (.tmp 55) rfl underlying26 bX jz0 jz1 jz2 rfl d rfl hl4 ⟨W2,0,Ab⟩ 1 rfl (Qt _ #[.int .i64 (d:Int)] _ Bo) hSl Bq (by simp;omega) ?_;intro v' w3 hown3 hgrow3)
       have dL:=vL.below ((Bs _ _).alloc (Bt _) (.cells #[.int .i64 (d:Int)] 3));have ho5:=dL.grown hgrow3 (dL.ne_ hl4 Bq);have eZ:=cX.grown hgrow3 cX.size (fun g hg=>by
        have hgg:gl'=g:=by simpa [Value.ownBlock] using hg
        have hgl1:=fL.blk.1;omega)
       exact ⟨⟨j+1,Bl,by go_num,by rw [jE.out];exact ho5,by rw [jE.out];exact hown3,eZ⟩,clM⟩
      ·rw [hO] at cO;have bJ:Hid (Pg.Og (esL (p.edges.take (j+1))) a s=S):=by
        show Pg.Og _ _ _=_;rw [aF.out];unfold Pg.M5;rw [if_neg (fun h=>by rw [dF,hO] at h;exact absurd h.2 Bo)]
       clear dF hO;exact Aj1
     ·have mL:((a:Int) == (x:Int))=false:=beq_eq_false_iff_ne.2 Bl;have bJ:Hid (Pg.Og (esL (p.edges.take (j+1))) x s=S):=by
       show Pg.Og _ _ _=_;rw [aF.out];unfold Pg.M5;rw [if_neg (fun h=>hax h.1)]
      clear hax;exact Aj1
    ·have jF:¬ (j:Int)<(p.edges.length:Int):=Bl;have hj':j=p.edges.length:=Bl;subst hj';rw [List.take_length] at ho hl;go_wp2;refine ⟨⟨k+1,_,gL.out,by go_num,ho,hl,hb⟩,clM⟩
  ·have aB:¬ (k:Int)<(s.2.length:Int):=Bl;have aZ:k=s.2.length:=Bl;go_wp2;go_ret;refine ⟨_,s.1,rfl,ho.more Bl,bV,?_,fun y=>?_⟩
   ·rw [pB.out,HT.out];rfl
   ·exact Pg.Bat.iff (by rw [<-aZ];exact kE.out) y
end Go.Proofs.YtecnbnbopcblgaaGreat
