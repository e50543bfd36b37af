/-
  copy between slices whose elements take several cells; a row that is known whole; slices.Insert's steps. A variable of a struct type, that lies in memory as a r
-/
import Derived.Test.YtonlnjdempbfoaaGreatZFe1
import Derived.Laws.CopyRow
import Derived.Laws.CopyOwn
import Derived.Lib.AppendZerosOnto
import Derived.Lib.Overlaps
import Derived.Lib.SliceRun
import Derived.Lib.Hide
import Derived.Laws.Externs
import Derived.Laws.NewBlocks
import Derived.Deep.RegionLaw
namespace Go.Proofs.YtonlnjdempbfoaaGreat
open Go.RowKit
set_option maxRecDepth 100000
set_option maxHeartbeats 4000000
set_option linter.unusedVariables false
set_option linter.unusedSimpArgs false
open Value renaming int->J,slice->Aa
open IntKind renaming i64->U
open Option renaming none->Ab,some->Ac
open Below renaming alloc->Ae
open Nat renaming zero_le->Ag,le_trans->Ah,lt_of_lt_of_le->Ai
open Go renaming wpQuiet_nil->Ak
open Go.Proofs.Tryz renaming prog->An
open Int renaming toNat_natCast->Ap,eq_ofNat_of_zero_le->Aq
open IntWalk renaming i64_in->Ar
open List renaming length_take->Az,length_append->A0
section
variable {P:Program}
theorem Y6 (w:World) (dT sT ty elem:TypeId) (g o dLen dCap:Nat) (a:Addr) (sLen sCap k:Nat) (cur:Array Value) (t:TypeId) (cs:List Value)
  (hu:P.underlying dT=Ac (.slice elem)) (hs:(P.info? elem).map (·.size)=Ac k)
  (hg:w.heap[g]? = Ac (.cells cur t (0,0))) (hn:cs.length=Nat.min sLen dLen * k)
  (hsrc:∀ j v,cs[j]? = Ac v->w.cell? (a.add j)=Ac v) (fB:o+cs.length<=cur.size) (h1:∀ v∈cs,v.oneCell'=true) :
  (Builtin.copy_ #[dT,sT] ty #[.slice (Ac ⟨g,o,Ab⟩) dLen dCap,.slice (Ac a) sLen sCap]).run P w =
   .ok (goInt (Nat.min sLen dLen)) (w.setRow g (cur.toList.take o ++ cs ++ cur.toList.drop (o+cs.length)).toArray):=by
 have hl:=run_loadCells_list (P:=P) w a cs hsrc;have bV:=run_storeCells_at P g o t cs 0 cur w hg (by simpa using fB) h1;cases hq:P.info? elem with
 | none=>simp [hq] at hs
 | some i =>
  have hi:i.size=k:=by simpa [hq] using hs
  rw [hn] at hl;simp [Builtin.copy_,run_underlying hu,Builtin.lenOf,Builtin.firstCells,sizeOf,typeInfo,hq,hi,hl,bV]
theorem Xt (w:World) (g:Nat) (cs:Array Value):w.grownBy (w.setRow g cs) (Ac g) :=
 ⟨rfl,rfl,rfl,by simp [World.setRow],fun k _ aC=>setRow_other w g k cs (fun e=>aC (by rw [e]))⟩
theorem Uj (w:World) {o:Oper} {a:Act} {K:Act->World->Prop} {Q:Exit->Act->World->Prop} (d s:Operand) (dT sT:TypeId)
  (ho:o.op = .call { callee:=.builtin .copy,args:=#[d,s],argTypes:=#[dT,sT] }) (elem:TypeId) (k:Nat) (hu:P.underlying dT=Ac (.slice elem)) (bG:(P.info? elem).map (·.size)=Ac k)
  (g off dLen dCap:Nat) (ad:Addr) (sLen sCap:Nat) (hd:a.eval d = .slice (Ac ⟨g,off,Ab⟩) dLen dCap) (hs:a.eval s = .slice (Ac ad) sLen sCap)
  (cur:List Value) (t:TypeId) (hg:w.heap[g]? = Ac (.cells cur.toArray t (0,0))) (cs:List Value) (hn:cs.length=Nat.min sLen dLen * k)
  (hsrc:∀ j v,cs[j]? = Ac v->w.cell? (ad.add j)=Ac v) (fB:off+cs.length<=cur.length) (h1:∀ v∈cs,v.oneCell'=true)
  (h:∀ w',Hid (w'.heap[g]? = Ac (.cells (splice cur off cs).toArray t (0,0)))->w.grownBy w' (Ac g)->K (a.put o.dst (goInt (Nat.min sLen dLen))) w'):o.wp P a w K Q:=by
 have cV:=Y6 (P:=P) w dT sT o.type elem g off dLen dCap ad sLen sCap k cur.toArray t cs hu bG hg hn hsrc (by simpa using fB) h1;have h2:Hid ((w.setRow g (cur.toArray.toList.take off ++ cs ++ cur.toArray.toList.drop (off+cs.length)).toArray).heap[g]? = Ac (.cells (splice cur off cs).toArray t (0,0))):=show _=_ by simpa [splice] using setRow_heap w g _ _ t _ hg
 have h3:=h _ h2 (Xt w g _);unfold Oper.wp execOp;simp only [ho,resolve,invoke,builtin,Sem.run_bind,Sem.run_pure,Result.andThen_ok,List.map_toArray,List.map_cons,List.map_nil,hd,hs,cV];exact h3
theorem I5 (w:World) {ops:Array Oper} {rest:List Oper} {o:Oper} {a:Act} {Q:Exit->Act->World->Prop} (bW:o.guard=Ab) (d s:Operand) (dT sT:TypeId)
  (ho:o.op = .call { callee:=.builtin .copy,args:=#[d,s],argTypes:=#[dT,sT] }) (elem:TypeId) (k:Nat) (hu:P.underlying dT=Ac (.slice elem)) (bG:(P.info? elem).map (·.size)=Ac k)
  (g off dLen dCap:Nat) (ad:Addr) (sLen sCap:Nat) (hd:a.eval d = .slice (Ac ⟨g,off,Ab⟩) dLen dCap) (hs:a.eval s = .slice (Ac ad) sLen sCap)
  (cur:List Value) (t:TypeId) (hg:w.heap[g]? = Ac (.cells cur.toArray t (0,0))) (cs:List Value) (hn:cs.length=Nat.min sLen dLen * k)
  (hsrc:∀ j v,cs[j]? = Ac v->w.cell? (ad.add j)=Ac v) (fB:off+cs.length<=cur.length) (h1:∀ v∈cs,v.oneCell'=true)
  (h:∀ w',Hid (w'.heap[g]? = Ac (.cells (splice cur off cs).toArray t (0,0)))->w.grownBy w' (Ac g)->wpList P ops Q rest (a.put o.dst (goInt (Nat.min sLen dLen))) w'):wpList P ops Q (o :: rest) a w :=
 wpList_plain bW fun _ hK=>Uj w d s dT sT ho elem k hu bG g off dLen dCap ad sLen sCap hd hs cur t hg cs hn hsrc fB h1 fun w' h2 h3=>hK _ _ (h w' h2 h3)
theorem Kf (w:World) {ops:Array Oper} {o:Oper} {a:Act} {K:Act->World->Prop} {Q:Exit->Act->World->Prop} {EE:Prop} (bW:o.guard=Ab) (d s:Operand) (dT sT:TypeId)
  (ho:o.op = .call { callee:=.builtin .copy,args:=#[d,s],argTypes:=#[dT,sT] }) (elem:TypeId) (k:Nat) (hu:P.underlying dT=Ac (.slice elem)) (bG:(P.info? elem).map (·.size)=Ac k)
  (g off dLen dCap:Nat) (ad:Addr) (sLen sCap:Nat) (hd:a.eval d = .slice (Ac ⟨g,off,Ab⟩) dLen dCap) (hs:a.eval s = .slice (Ac ad) sLen sCap)
  (cur:List Value) (t:TypeId) (hg:w.heap[g]? = Ac (.cells cur.toArray t (0,0))) (cs:List Value) (hn:cs.length=Nat.min sLen dLen * k)
  (hsrc:∀ j v,cs[j]? = Ac v->w.cell? (ad.add j)=Ac v) (fB:off+cs.length<=cur.length) (h1:∀ v∈cs,v.oneCell'=true)
  (h:∀ w',Hid (w'.heap[g]? = Ac (.cells (splice cur off cs).toArray t (0,0)))->w.grownBy w' (Ac g)->K (a.put o.dst (goInt (Nat.min sLen dLen))) w') :
  if Region.wanted o (yielded ops a.tmps)=true then Oper.wp P o a w K Q else EE:=by
 have hw:Region.wanted o (yielded ops a.tmps)=true:=by simp [Region.wanted,bW]
 rw [if_pos hw];exact Uj w d s dT sT ho elem k hu bG g off dLen dCap ad sLen sCap hd hs cur t hg cs hn hsrc fB h1 h
end
section
variable {α:Type} {e:Enc α} {E:TypeId} {w:World} {base g n cap:Nat} {l:List α}
theorem Ow.row (h:Ow e E w base (Aa (Ac ⟨g,0,Ab⟩) n cap) l) :
  l.length=n/\base<=g/\n<=cap/\cap<=maxLen /\ ∃ cur:List Value,w.heap[g]? = Ac (.cells cur.toArray E (0,0))/\cur.length=cap * e.sz/\cur.take (n * e.sz)=l.flatMap e.cells:=by
 rcases h.2 with ⟨h1,_⟩ | ⟨g',cap',cur,hv,hg,hh,hc,hm,hs,ht⟩
 ·simp at h1
 ·simp only [Value.slice.injEq,Option.some.injEq,Addr.mk.injEq,and_true] at hv;obtain ⟨rfl,rfl,rfl⟩:=hv;exact ⟨rfl,hg,hc,hm,cur.toList,by simpa using hh,by simpa using hs,ht⟩
theorem Ow.of_row {cur:List Value} (hg:w.heap[g]? = Ac (.cells cur.toArray E (0,0))) (hc:cur.length=cap * e.sz) (ht:cur.take (l.length * e.sz)=l.flatMap e.cells) (hb:base<=g) (hn:l.length<=cap) (hm:cap<=maxLen) :
  Ow e E w base (Aa (Ac ⟨g,0,Ab⟩) l.length cap) l :=
 ⟨e.flat_length l,.inr ⟨g,cap,cur.toArray,rfl,hb,hg,hn,hm,by simpa using hc,by simpa using ht⟩⟩
end
theorem Aba {α:Type} (R X Y:List α) (a:Nat) (h:a+X.length+Y.length<=R.length):(splice (splice R a X) (a+X.length) Y).take (a+X.length+Y.length)=R.take a ++ X ++ Y:=by
 have h0:(R.take a).length=a:=by rw [Az];omega
 have h1:(splice R a X).take (a+X.length)=R.take a ++ X:=by
  unfold splice;rw [<-List.append_assoc,List.take_left' (by rw [A0,h0])]
 unfold splice at h1 ⊢;rw [h1,<-List.append_assoc,List.take_left' (by rw [A0,A0,h0])]
theorem Y7 {α:Type} (C X Y:List α) (a:Nat) (h:a+X.length+Y.length<=C.length):(splice (splice C (a+X.length) Y) a X).take (a+X.length+Y.length)=C.take a ++ X ++ Y:=by
 have h0:(C.take a).length=a:=by rw [Az];omega
 have h1:(splice C (a+X.length) Y).take a=C.take a:=by
  unfold splice;rw [List.take_append_of_le_length (by rw [Az];omega),List.take_take];congr 1;omega
 have h2:(splice C (a+X.length) Y).drop (a+X.length)=Y ++ C.drop (a+X.length+Y.length):=by
  unfold splice;rw [List.drop_left' (by rw [Az];omega)]
 show ((splice C (a+X.length) Y).take a ++ (X ++ (splice C (a+X.length) Y).drop (a+X.length))).take _=_;rw [h1,h2,<-List.append_assoc,<-List.append_assoc,List.take_left' (by rw [A0,A0,h0])]
theorem Lf {α:Type} (e:Enc α) (l:List α) (i:Nat) (hi:i<=l.length) (x:α) :
  (l.take i ++ x :: l.drop i).flatMap e.cells=(l.flatMap e.cells).take (i * e.sz) ++ e.cells x ++ (l.flatMap e.cells).drop (i * e.sz):=by
 have hl:l.flatMap e.cells=(l.take i).flatMap e.cells ++ (l.drop i).flatMap e.cells:=by rw [<-List.flatMap_append,List.take_append_drop]
 have h0:((l.take i).flatMap e.cells).length=i * e.sz:=by rw [e.flat_length,Az,Nat.min_eq_left hi]
 rw [List.flatMap_append,List.flatMap_cons,hl,List.take_left' h0,List.drop_left' h0,List.append_assoc]
section
variable {P:Program}
theorem J7 (w:World) {ops:Array Oper} {rest:List Oper} {o:Oper} {a:Act} {Q:Exit->Act->World->Prop} (bW:o.guard=Ab) (s x:Operand) (t tn:TypeId)
  (ho:o.op = .call { callee:=.builtin .append,args:=#[s,x],argTypes:=#[t,tn] }) (E:TypeId) (i:TypeInfo) (z:Value) (sz bytes:Nat) (kn kq:IntKind)
  (ht:P.underlying t=Ac (.slice E)) (qW:P.underlying tn=Ac (.int kn)) (hi:P.info? E=Ac i) (hz:i.zero=Ac z) (hsize:i.size=sz) (fG:i.bytes=bytes) (hzs:z.cells.size=sz) (bG:0<sz)
  (ad:Addr) (n cap:Nat) (olds:List Value) (hs:a.eval s = .slice (Ac ad) n cap) (k:Nat) (m:Int) (hm:m=k) (hx:a.eval x = .int kq m)
  (jK:olds.length=n * sz) (hold:∀ j u,olds[j]? = Ac u->w.cell? (ad.add j)=Ac u) (h0:0<k) (hg:cap<n+k) (h1:n+k<=3000000) (hb:bytes<=10000) (N:Nat) (hN:N=n+k)
  (h:∀ (w':World) (c:Nat) (R:List Value),Hid (w'.heap[w.heap.size]? = Ac (.cells R.toArray E (0,0)))->Hid (R.length=c * sz)->Hid (R.take (n * sz)=olds)->N<=c->c<=9223372036854775807->w.grownBy w' Ab->w.heap.size<w'.heap.size ->
   wpList P ops Q rest (a.put o.dst (.slice (Ac ⟨w,0,Ab⟩) N c)) w'):wpList P ops Q (o :: rest) a w:=by
 subst hm;subst hN;have aG:(n+k) * bytes<=3000000 * 10000:=Nat.mul_le_mul h1 hb;have hkb:k * bytes<=(n+k) * bytes:=Nat.mul_le_mul_right _ Bk;have cV:=Lib.run_append_grow_zeros (P:=P) w t tn o.type E i z kq kn ht qW hi hz (Ac ad) n cap olds
  (run_firstCells_some w.drew i.size n ad n cap olds (by rw [hsize];exact jK) (fun j u hu=>hold j u hu)) k h0 Bk hg Bk (by rw [fG];omega) (by rw [fG];exact growslice_fits hg Bk)
 have rL:=grownCap_ge w (n+k) cap E;have mK:grownCap w (n+k) cap E<=maxLen:=grownCap_le_maxLen w (n+k) cap E (by simp [maxLen];omega);simp only [maxLen] at mK;have h2:=h (w.drew.alloc (.cells (olds.toArray ++ Builtin.zeroCells z.cells k ++ Builtin.zeroCells z.cells (grownCap w (n+k) cap E - (n+k))) E)) (grownCap w (n+k) cap E) (olds ++ (Builtin.zeroCells z.cells k).toList ++ (Builtin.zeroCells z.cells (grownCap w (n+k) cap E - (n+k))).toList)
  (by
   unfold Hid
   have:=heap_alloc_new w.drew (.cells (olds.toArray ++ Builtin.zeroCells z.cells k ++ Builtin.zeroCells z.cells (grownCap w (n+k) cap E - (n+k))) E)
   have e:(olds ++ (Builtin.zeroCells z.cells k).toList ++ (Builtin.zeroCells z.cells (grownCap w (n+k) cap E - (n+k))).toList).toArray=olds.toArray ++ Builtin.zeroCells z.cells k ++ Builtin.zeroCells z.cells (grownCap w (n+k) cap E - (n+k)):=Bm;rw [e];exact this)
  (by
   unfold Hid;simp only [A0,Array.length_toList,size_zeroCells,jK,hzs];rw [<-Nat.add_mul,<-Nat.add_mul];congr 1;omega)
  (by unfold Hid;rw [List.append_assoc,<-jK,List.take_left]) rL mK
  ⟨rfl,rfl,rfl,Bm,fun _ aZ _=>Below.heap_alloc w.drew _ _ aZ⟩ Bm
 refine wpList_plain bW fun _ hK=>?_;unfold Oper.wp execOp;simp only [ho,resolve,invoke,builtin,Sem.run_bind,Sem.run_pure,Result.andThen_ok,List.map_toArray,List.map_cons,List.map_nil,hs,hx,cV];exact hK _ _ h2
end
theorem Uk {w w':World} (h:w.grownBy w' Ab) (row:Option Nat):w.grownBy w' row:=⟨h.os,h.tape,h.output,h.size,fun k hk _=>h.block k hk Bm⟩
theorem N1 {w w1 w2:World} {row:Option Nat} {G:Nat} (h:w.grownBy w1 row) (h2:w1.grownBy w2 (Ac G)) (hG:w<=G):w.grownBy w2 row :=
 ⟨h2.os.trans h.os,h2.tape.trans h.tape,h2.output.trans h.output,Ah h.size h2.size,fun k hk aC=>(h2.block k (Ai hk h.size) (fun e=>by injection e with e;omega)).trans (h.block k hk aC)⟩
theorem Mm {w w':World} {row:Option Nat} (h:w.drew.grownBy w' row):w.grownBy w' row:=⟨h.os,h.tape,h.output,h.size,h.block⟩
theorem Jy {w w':World} {row:Option Nat} (hg:w.grownBy w' row) {g:Nat} {o:Obj} (h:w.heap[g]? = Ac o) (aC:Ac g≠row):w'.heap[g]? = Ac o :=
 (hg.block g (Array.getElem?_eq_some_iff.1 h).1 aC).trans h
theorem Hs {w:World} {g:Nat} {R:List Value} {E:TypeId} {o:Nat} (h:w.heap[g]? = Ac (.cells R.toArray E (0,0))) (xs:List Value) (hx:∀ j u,xs[j]? = Ac u->R[o+j]? = Ac u) :
  ∀ j u,xs[j]? = Ac u->w.cell? ((⟨g,o,Ab⟩:Addr).add j)=Ac u:=by
 intro j u hu;have e:((⟨g,o,Ab⟩:Addr).add j)=⟨g,o+j,Ab⟩:=by unfold Addr.add;split<;>simp_all
 rw [e,cell_of_row _ _ (o+j) _ _ (0,0) h];simpa using hx j u hu
theorem E8 {α:Type} (C X:List α) (a:Nat) (h:a+X.length<=C.length):(splice C a X).length=C.length:=by
 unfold splice;simp only [A0,Az,List.length_drop];omega
section
variable {α:Type} (e:Enc α) (l:List α) (i:Nat) (hi:i<=l.length) (x:α)
include hi
theorem Gn:(l.take i ++ x :: l.drop i).length=l.length+1:=by simp;omega
omit hi in
theorem S8:((l.flatMap e.cells).drop (i * e.sz)).length=(l.length - i) * e.sz:=by rw [List.length_drop,e.flat_length,Nat.sub_mul]
theorem Ul:i * e.sz+(e.cells x).length+((l.flatMap e.cells).drop (i * e.sz)).length=(l.length+1) * e.sz:=by
 rw [S8 e l i,e.len,<-Nat.succ_mul,<-Nat.add_mul];congr 1;omega
theorem Rz (C:List Value) (hC:C.take (l.length * e.sz)=l.flatMap e.cells) (hl:(l.length+1) * e.sz<=C.length) :
  (splice (splice C ((i+1) * e.sz) ((l.flatMap e.cells).drop (i * e.sz))) (i * e.sz) (e.cells x)).take ((l.length+1) * e.sz)=(l.take i ++ x :: l.drop i).flatMap e.cells /\
  (splice (splice C ((i+1) * e.sz) ((l.flatMap e.cells).drop (i * e.sz))) (i * e.sz) (e.cells x)).length=C.length:=by
 have hs:=Ul e l i hi x;have h1:(i+1) * e.sz=i * e.sz+(e.cells x).length:=by rw [e.len,Nat.succ_mul]
 have h2:C.take (i * e.sz)=(l.flatMap e.cells).take (i * e.sz):=by
  rw [<-hC,List.take_take];congr 1;exact (Nat.min_eq_left (Nat.mul_le_mul_right _ hi)).symm
 constructor
 ·rw [h1,<-hs,Y7 _ _ _ _ Bk,Lf e l i hi x,h2]
 ·rw [E8,E8]
  ·rw [h1];omega
  ·rw [E8 _ _ _ (by rw [h1];omega)];omega
theorem Um (R:List Value) (hR:R.take (i * e.sz)=(l.flatMap e.cells).take (i * e.sz)) (hl:(l.length+1) * e.sz<=R.length) :
  (splice (splice R (i * e.sz) (e.cells x)) ((i+1) * e.sz) ((l.flatMap e.cells).drop (i * e.sz))).take ((l.length+1) * e.sz)=(l.take i ++ x :: l.drop i).flatMap e.cells /\
  (splice (splice R (i * e.sz) (e.cells x)) ((i+1) * e.sz) ((l.flatMap e.cells).drop (i * e.sz))).length=R.length:=by
 have hs:=Ul e l i hi x;have h1:(i+1) * e.sz=i * e.sz+(e.cells x).length:=by rw [e.len,Nat.succ_mul]
 constructor
 ·rw [h1,<-hs,Aba _ _ _ _ Bk,Lf e l i hi x,hR]
 ·rw [E8,E8]
  ·omega
  ·rw [E8 _ _ _ Bk,h1];omega
end
structure DBox (b:Nat) (cs:List Value) (w:World):Prop where
 cell:∀ (j:Nat) (u:Value),cs[j]? = some u->w.cell? ⟨b,j,none⟩=some u
 free:∀ j,w.frozen? ⟨b,j,none⟩=false
 lt:b<w
theorem DBox.new (T:TypeId) (cs:List Value) (w:World) {b:Nat} (hb:b=w):DBox b cs (w.alloc (.cells cs.toArray T)):=by
 subst hb;refine ⟨fun j u hu=>?_,fun j=>by simp [go_sem],Bm⟩
 have:=Py w cs.toArray T rfl j u (by simpa using hu)
 have e:((⟨w,0,Ab⟩:Addr).add j)=⟨w,j,Ab⟩:=by
  unfold Addr.add;split<;>simp_all
 rw [e] at this;exact this
theorem DBox.keep {b:Nat} {cs:List Value} {w w':World} (h:DBox b cs w) (hs:w.heap.size<=w'.heap.size) (hk:∀ j,w'.cell? ⟨b,j,Ab⟩=w.cell? ⟨b,j,Ab⟩) (hf:∀ j,w'.frozen? ⟨b,j,Ab⟩=w.frozen? ⟨b,j,Ab⟩):DBox b cs w' :=
 ⟨fun j u hu=>(hk j).trans (h.cell j u hu),fun j=>(hf j).trans (h.free j),Ai h.lt hs⟩
theorem DBox.below {b:Nat} {cs:List Value} {w w':World} (h:DBox b cs w) (hb:Below w w w'):DBox b cs w' :=
 h.keep hb.size (fun j=>hb.cell (p:=⟨b,j,Ab⟩) h.lt) (fun j=>hb.frozen (p:=⟨b,j,Ab⟩) h.lt)
theorem DBox.chg {F:List Nat} {b:Nat} {cs:List Value} {w w':World} (h:DBox b cs w) (hc:Chg F w w') (hn:b∉F):DBox b cs w' :=
 h.keep hc.size (fun j=>hc.cell (p:=⟨b,j,Ab⟩) h.lt hn) (fun j=>hc.frozen (p:=⟨b,j,Ab⟩) h.lt hn)
theorem bx1 (w:World) (T1:TypeId) (c1:List Value):∃ W,Hid (W=(w.alloc (.cells c1.toArray T1)))/\DBox (w.heap.size) c1 W/\Below w w W :=
 ⟨_,Bp rfl,DBox.new T1 c1 w Bm,by repeat (first | exact Bq _ _ | refine Ae ?_ Bn _)⟩
theorem bx2 (w:World) (T1:TypeId) (c1:List Value) (T2:TypeId) (c2:List Value):∃ W,Hid (W=((w.alloc (.cells c1.toArray T1)).alloc (.cells c2.toArray T2)))/\DBox (w.heap.size) c1 W/\DBox (w.heap.size+1) c2 W/\Below w w W :=
 ⟨_,Bp rfl,(DBox.new T1 c1 w Bm).below ((Bq _ _).alloc (Br _) _),DBox.new T2 c2 (w.alloc (.cells c1.toArray T1)) Bm,by repeat (first | exact Bq _ _ | refine Ae ?_ Bn _)⟩
theorem bx3 (w:World) (T1:TypeId) (c1:List Value) (T2:TypeId) (c2:List Value) (T3:TypeId) (c3:List Value):∃ W,Hid (W=(((w.alloc (.cells c1.toArray T1)).alloc (.cells c2.toArray T2)).alloc (.cells c3.toArray T3)))/\DBox (w.heap.size) c1 W/\DBox (w.heap.size+1) c2 W/\DBox (w.heap.size+1+1) c3 W/\Below w w W :=
 ⟨_,Bp rfl,((DBox.new T1 c1 w Bm).below ((Bq _ _).alloc (Br _) _)).below ((Bq _ _).alloc (Br _) _),(DBox.new T2 c2 (w.alloc (.cells c1.toArray T1)) Bm).below ((Bq _ _).alloc (Br _) _),DBox.new T3 c3 ((w.alloc (.cells c1.toArray T1)).alloc (.cells c2.toArray T2)) Bm,by repeat (first | exact Bq _ _ | refine Ae ?_ Bn _)⟩
theorem bx5 (w:World) (T1:TypeId) (c1:List Value) (T2:TypeId) (c2:List Value) (T3:TypeId) (c3:List Value) (T4:TypeId) (c4:List Value) (T5:TypeId) (c5:List Value):∃ W,Hid (W=(((((w.alloc (.cells c1.toArray T1)).alloc (.cells c2.toArray T2)).alloc (.cells c3.toArray T3)).alloc (.cells c4.toArray T4)).alloc (.cells c5.toArray T5)))/\DBox (w.heap.size) c1 W/\DBox (w.heap.size+1) c2 W/\DBox (w.heap.size+1+1) c3 W/\DBox (w.heap.size+1+1+1) c4 W/\DBox (w.heap.size+1+1+1+1) c5 W/\Below w w W :=
 ⟨_,Bp rfl,((((DBox.new T1 c1 w Bm).below ((Bq _ _).alloc (Br _) _)).below ((Bq _ _).alloc (Br _) _)).below ((Bq _ _).alloc (Br _) _)).below ((Bq _ _).alloc (Br _) _),(((DBox.new T2 c2 (w.alloc (.cells c1.toArray T1)) Bm).below ((Bq _ _).alloc (Br _) _)).below ((Bq _ _).alloc (Br _) _)).below ((Bq _ _).alloc (Br _) _),((DBox.new T3 c3 ((w.alloc (.cells c1.toArray T1)).alloc (.cells c2.toArray T2)) Bm).below ((Bq _ _).alloc (Br _) _)).below ((Bq _ _).alloc (Br _) _),(DBox.new T4 c4 (((w.alloc (.cells c1.toArray T1)).alloc (.cells c2.toArray T2)).alloc (.cells c3.toArray T3)) Bm).below ((Bq _ _).alloc (Br _) _),DBox.new T5 c5 ((((w.alloc (.cells c1.toArray T1)).alloc (.cells c2.toArray T2)).alloc (.cells c3.toArray T3)).alloc (.cells c4.toArray T4)) Bm,by repeat (first | exact Bq _ _ | refine Ae ?_ Bn _)⟩
theorem DBox.g4 {b:Nat} {w:World} {u0 u1 u2 u3:Value} (h:DBox b [u0,u1,u2,u3] w):w.cell? ⟨b,0,Ab⟩=Ac u0/\w.cell? ⟨b,1,Ab⟩=Ac u1/\w.cell? ⟨b,2,Ab⟩=Ac u2/\w.cell? ⟨b,3,Ab⟩=Ac u3/\b<w :=
 ⟨h.cell 0 _ rfl,h.cell 1 _ rfl,h.cell 2 _ rfl,h.cell 3 _ rfl,h.lt⟩
theorem DBox.g5 {b:Nat} {w:World} {u0 u1 u2 u3 u4:Value} (h:DBox b [u0,u1,u2,u3,u4] w):w.cell? ⟨b,0,Ab⟩=Ac u0/\w.cell? ⟨b,1,Ab⟩=Ac u1/\w.cell? ⟨b,2,Ab⟩=Ac u2/\w.cell? ⟨b,3,Ab⟩=Ac u3/\w.cell? ⟨b,4,Ab⟩=Ac u4/\b<w :=
 ⟨h.cell 0 _ rfl,h.cell 1 _ rfl,h.cell 2 _ rfl,h.cell 3 _ rfl,h.cell 4 _ rfl,h.lt⟩
theorem DBox.g7 {b:Nat} {w:World} {u0 u1 u2 u3 u4 u5 u6:Value} (h:DBox b [u0,u1,u2,u3,u4,u5,u6] w):w.cell? ⟨b,0,Ab⟩=Ac u0/\w.cell? ⟨b,1,Ab⟩=Ac u1/\w.cell? ⟨b,2,Ab⟩=Ac u2/\w.cell? ⟨b,3,Ab⟩=Ac u3/\w.cell? ⟨b,4,Ab⟩=Ac u4/\w.cell? ⟨b,5,Ab⟩=Ac u5/\w.cell? ⟨b,6,Ab⟩=Ac u6/\b<w :=
 ⟨h.cell 0 _ rfl,h.cell 1 _ rfl,h.cell 2 _ rfl,h.cell 3 _ rfl,h.cell 4 _ rfl,h.cell 5 _ rfl,h.cell 6 _ rfl,h.lt⟩
theorem DBox.g8 {b:Nat} {w:World} {u0 u1 u2 u3 u4 u5 u6 u7:Value} (h:DBox b [u0,u1,u2,u3,u4,u5,u6,u7] w):w.cell? ⟨b,0,Ab⟩=Ac u0/\w.cell? ⟨b,1,Ab⟩=Ac u1/\w.cell? ⟨b,2,Ab⟩=Ac u2/\w.cell? ⟨b,3,Ab⟩=Ac u3/\w.cell? ⟨b,4,Ab⟩=Ac u4/\w.cell? ⟨b,5,Ab⟩=Ac u5/\w.cell? ⟨b,6,Ab⟩=Ac u6/\w.cell? ⟨b,7,Ab⟩=Ac u7/\b<w :=
 ⟨h.cell 0 _ rfl,h.cell 1 _ rfl,h.cell 2 _ rfl,h.cell 3 _ rfl,h.cell 4 _ rfl,h.cell 5 _ rfl,h.cell 6 _ rfl,h.cell 7 _ rfl,h.lt⟩
theorem DBox.g11 {b:Nat} {w:World} {u0 u1 u2 u3 u4 u5 u6 u7 u8 u9 u10:Value} (h:DBox b [u0,u1,u2,u3,u4,u5,u6,u7,u8,u9,u10] w):w.cell? ⟨b,0,Ab⟩=Ac u0/\w.cell? ⟨b,1,Ab⟩=Ac u1/\w.cell? ⟨b,2,Ab⟩=Ac u2/\w.cell? ⟨b,3,Ab⟩=Ac u3/\w.cell? ⟨b,4,Ab⟩=Ac u4/\w.cell? ⟨b,5,Ab⟩=Ac u5/\w.cell? ⟨b,6,Ab⟩=Ac u6/\w.cell? ⟨b,7,Ab⟩=Ac u7/\w.cell? ⟨b,8,Ab⟩=Ac u8/\w.cell? ⟨b,9,Ab⟩=Ac u9/\w.cell? ⟨b,10,Ab⟩=Ac u10/\b<w :=
 ⟨h.cell 0 _ rfl,h.cell 1 _ rfl,h.cell 2 _ rfl,h.cell 3 _ rfl,h.cell 4 _ rfl,h.cell 5 _ rfl,h.cell 6 _ rfl,h.cell 7 _ rfl,h.cell 8 _ rfl,h.cell 9 _ rfl,h.cell 10 _ rfl,h.lt⟩
theorem Dt.set4 {α:Type} (d:Dt α) {w:World} {F:List Nat} {x:α} {s:d.S} {b o0 o1 o2 o3:Nat} {u0 u1 u2 u3:Value} (h:d.ow w F x s) (hb:b∉F) :
  d.ow ((((w.setCell ⟨b,o0,Ab⟩ u0).setCell ⟨b,o1,Ab⟩ u1).setCell ⟨b,o2,Ab⟩ u2).setCell ⟨b,o3,Ab⟩ u3) F x s :=
 d.ow_set (d.ow_set (d.ow_set (d.ow_set h (a:=⟨b,o0,Ab⟩) hb u0) (a:=⟨b,o1,Ab⟩) hb u1) (a:=⟨b,o2,Ab⟩) hb u2) (a:=⟨b,o3,Ab⟩) hb u3
abbrev Lz:Dt Edge:=Dt.flat (fun q=>[.int .i64 q.1.fr,.int .i64 q.1.to]) 2 (fun _=>rfl) (fun q u hu=>by simp at hu;rcases hu with rfl | rfl<;>rfl)
def Tu (_:Edge):Nat:=0
theorem RdL.at1 {α:Type} {d:Dt α} {w:World} {B:Nat} {s:Sl} {l:List α} (h:RdL d w B s.v l):s.n=l.length:=by
 obtain ⟨A,c,hv,-⟩:=h.form;simp only [Sl.v,Value.slice.injEq] at hv;exact hv.2.1
structure Entry where
 prio:Int
 seq:Int
 run:Int
 task:Int
deriving DecidableEq,Inhabited
@[go_sem] abbrev H7 (x:Entry) (_s:Unit):Value:=.agg #[.int .i64 x.prio,.int .i64 x.seq,.int .i64 x.run,.int .i64 x.task]
abbrev Cg:Dt Entry:=Dt.flat (fun q=>[.int .i64 q.1.prio,.int .i64 q.1.seq,.int .i64 q.1.run,.int .i64 q.1.task]) 4 (fun _=>rfl) (fun q u hu=>by simp at hu;rcases hu with rfl | rfl | rfl | rfl<;>rfl)
def I6 (_:Entry):Nat:=0
theorem RdL.entry {w:World} {B:Nat} {A:Option Addr} {n c:Nat} {l:List (Entry)} (h:RdL Cg w B (Aa A n c) l) {k:Nat} (hk:k<l.length) :
  ∃ b o,∃ _s:Unit,A=Ac ⟨b,o,Ab⟩/\b<B/\Cg.rd w B l[k] _s/\w.cell? ⟨b,o+k * 4,Ab⟩=Ac (J U l[k].prio)/\w.cell? ⟨b,o+k * 4+1,Ab⟩=Ac (J U l[k].seq)/\w.cell? ⟨b,o+k * 4+2,Ab⟩=Ac (J U l[k].run)/\w.cell? ⟨b,o+k * 4+3,Ab⟩=Ac (J U l[k].task):=by
 obtain ⟨b,o,s,rfl,hb,hc,hr⟩:=h.at_ k hk;exact ⟨b,o,s,rfl,hb,hr,hc 0 _ rfl,hc 1 _ rfl,hc 2 _ rfl,hc 3 _ rfl⟩
def De (x:List Entry):Nat:=Jx I6 x
theorem RdL.entryS {w:World} {B:Nat} {A:Option Addr} {n c:Nat} {l:List (List Entry)} (h:RdL (Dt.list Cg) w B (Aa A n c) l) {k:Nat} (hk:k<l.length) :
  ∃ b o,∃ s:Sl,A=Ac ⟨b,o,Ab⟩/\b<B/\(Dt.list Cg).rd w B l[k] s/\w.cell? ⟨b,o+k,Ab⟩=Ac (Aa s.a s.n s.c):=by
 obtain ⟨b,o,s,rfl,hb,hc,hr⟩:=h.at_ k hk;exact ⟨b,o,s,rfl,hb,hr,(by have hh:=hc 0 _ rfl;rw [show k * (Dt.list Cg).enc.sz=k from Nat.mul_one k] at hh;exact hh)⟩
theorem Mn:(An.info? 96).map (fun i=>(i.zero,i.size,i.bytes))=Ac (Ac (Aa Ab 0 0),1,24):=Bl
structure Task where
 state:Int
 need:Int
 try_:Int
 until_:Int
deriving DecidableEq,Inhabited
abbrev Eo:Dt Task:=Dt.flat (fun q=>[.int .i64 q.1.state,.int .i64 q.1.need,.int .i64 q.1.try_,.int .i64 q.1.until_]) 4 (fun _=>rfl) (fun q u hu=>by simp at hu;rcases hu with rfl | rfl | rfl | rfl<;>rfl)
def G8 (_:Task):Nat:=0
theorem RdL.task {w:World} {B:Nat} {A:Option Addr} {n c:Nat} {l:List (Task)} (h:RdL Eo w B (Aa A n c) l) {k:Nat} (hk:k<l.length) :
  ∃ b o,∃ _s:Unit,A=Ac ⟨b,o,Ab⟩/\b<B/\Eo.rd w B l[k] _s/\w.cell? ⟨b,o+k * 4,Ab⟩=Ac (J U l[k].state)/\w.cell? ⟨b,o+k * 4+1,Ab⟩=Ac (J U l[k].need)/\w.cell? ⟨b,o+k * 4+2,Ab⟩=Ac (J U l[k].try_)/\w.cell? ⟨b,o+k * 4+3,Ab⟩=Ac (J U l[k].until_):=by
 obtain ⟨b,o,s,rfl,hb,hc,hr⟩:=h.at_ k hk;exact ⟨b,o,s,rfl,hb,hr,hc 0 _ rfl,hc 1 _ rfl,hc 2 _ rfl,hc 3 _ rfl⟩
def Dl (es:List (Nat×Nat)) (T t:Nat):List Nat:=(List.range T).filter fun s=>decide ((s,t)∈es)
def Eg (es:List (Nat×Nat)) (T t:Nat):List Nat:=(List.range T).filter fun s=>decide ((t,s)∈es)
def H8 (l:List (Nat×Nat)) (q:Nat×Nat) (x:Nat):List Nat:=if q∈l then [x] else []
theorem Xu (es:List (Nat×Nat)) (k t:Nat):Dl es (k+1) t=Dl es k t ++ H8 es (k,t) k:=by
 unfold Dl H8;rw [List.range_succ,List.filter_append];by_cases h:(k,t)∈es<;>simp [h]
theorem Qb (es:List (Nat×Nat)) (k t:Nat):Eg es (k+1) t=Eg es k t ++ H8 es (t,k) k:=by
 unfold Eg H8;rw [List.range_succ,List.filter_append];by_cases h:(t,k)∈es<;>simp [h]
theorem Jz (es:List (Nat×Nat)) (T t:Nat):(Dl es T t).length<=T:=by
 have:=List.length_filter_le (fun s=>decide ((s,t)∈es)) (List.range T)
 simpa [Dl] using this
theorem Nh (es:List (Nat×Nat)) (T t:Nat):(Eg es T t).length<=T:=by
 have:=List.length_filter_le (fun s=>decide ((t,s)∈es)) (List.range T)
 simpa [Eg] using this
theorem Wq (l:List (Nat×Nat)) (q:Nat×Nat) (x:Nat):(H8 l q x).length<=1:=by
 unfold H8;split<;>simp
theorem Wr {l l':List (Nat×Nat)} {q:Nat×Nat} {x:Nat} (h:l'=l ++ [q]) (hq:q∉l):H8 l' q x=H8 l q x ++ [x]:=by
 subst h;simp [H8,hq]
theorem Y8 {l l':List (Nat×Nat)} {q e:Nat×Nat} {x:Nat} (h:l'=l ++ [e]) (hq:e≠q):H8 l' q x=H8 l q x:=by
 subst h;simp [H8,Ne.symm hq]
theorem Acd {p:Plan} (he:G6 p) (hn:p.edges.Nodup) {j:Nat} (hj:j<p.edges.length):(p.edges[j].fr.toNat,p.edges[j].to.toNat)∉esL (p.edges.take j):=by
 intro hm;simp only [esL,List.mem_map] at hm;obtain ⟨e,pD,hee⟩:=hm;obtain ⟨i,hi,rfl⟩:=List.getElem_of_mem pD;have sN:i<j:=by
  rw [Az] at hi;omega
 rw [List.getElem_take] at hee;have h1:=Hy he (k:=i) Bk;have h2:=Hy he hj;simp only [Prod.mk.injEq] at hee;have e1:p.edges[i].fr=p.edges[j].fr:=Bk;have e2:p.edges[i].to=p.edges[j].to:=Bk;have:p.edges[i]=p.edges[j]:=by
  cases hx:p.edges[i];cases hy:p.edges[j];rw [hx,hy] at e1 e2;simp only at e1 e2;rw [e1,e2]
 exact List.pairwise_iff_getElem.1 hn i j Bk hj sN this
theorem Ni (p:Plan) (ve:Value) (t:Nat) (w:World) (hm:D7 p=true) (he:G6 p) (hn:p.edges.Nodup) (h:Rd Gc w w ve p.edges) :
  Calls An 237 #[Gd p ve,.int .i64 (t:Int)] w fun e w'=>∃ v,e = .returned v/\Ow Em 3 w' w v (Dl (Dq p) p.tasks.toNat t)/\Below w w w':=by
 obtain ⟨A,c,rfl,-⟩:=id h;obtain ⟨t1,t2⟩:=Ee hm;have aK:=E9 hm;obtain ⟨T,hT⟩:=Aq (show 0<=p.tasks by omega);have HT:=Bp hT;have HTn:=Bp (show p.tasks.toNat=T by omega);have gR:T<=12:=Bk;clear hT;obtain ⟨j0,bS,jz0,jz1,jz2⟩:=info_parts Kt;unfold Gd;go_enter Tryz.func237,Tryz.ntmps237;go_wp2;go_loopw [5,6] (fun vl i wr=>∃ k:Nat,k<=T/\i = .int .i64 k/\Ow Em 3 wr (w.heap.size+1) vl (Dl (Dq p) k t)/\BoxAt w p (.slice A p.edges.length c) wr/\Below w w wr) (fun _ i _=>T - (intOf i).toNat);case atStart =>
  have D:=BoxAt.new 43 p (.slice A p.edges.length c) w;refine ⟨0,Ag _,rfl,?_,D.below ((Bq _ _).alloc (Br _) _),?_⟩
  ·exact (Ow.empty Em 3 (D8 43 p (.slice A p.edges.length c) w) (g:=w.heap.size+1) (by rw [Fa]))
  ·repeat (first | exact Bq _ _ | refine Ae ?_ Bn _)
 case round =>
  obtain ⟨k,hk,rfl,ho,D,hb⟩:=hrel;obtain ⟨x0,x1,x2,x3,x4,xs⟩:=D.cells;by_cases aA:k<T
  ·have aB:(k:Int)<p.tasks:=by rw [HT.out];omega
   obtain ⟨wo,rfl⟩:∃ wo:World,wo=wr:=⟨_,rfl⟩
   go_wp2;clear x0 x1 x2 x3 x4 xs;go_loopw [5,7] (fun vl i wr=>∃ j:Nat,j<=p.edges.length/\i = .int .i64 j/\Ow Em 3 wr (w.heap.size+1) vl (Dl (Dq p) k t ++ H8 (esL (p.edges.take j)) (k,t) k)/\BoxAt w p (.slice A p.edges.length c) wr/\Below w w wr) (fun _ i _=>p.edges.length - (intOf i).toNat);case atStart=>exact ⟨0,Ag _,rfl,by simpa [H8,esL] using ho,D,hb⟩
   case round =>
    clear ho D hb;obtain ⟨j,hj,rfl,ho,D,hb⟩:=hrel;obtain ⟨x0,x1,x2,x3,x4,xs⟩:=D.cells;by_cases cQ:j<p.edges.length
    ·have gF:(j:Int)<(p.edges.length:Int):=Bk;obtain ⟨b,o,rfl,aG,c0,c1⟩:=(h.below hb).edge cQ;obtain ⟨f1,f2,f3,f4⟩:=Hy he cQ;have dI:=Bp (show esL (p.edges.take (j+1))=esL (p.edges.take j) ++ [(p.edges[j].fr.toNat,p.edges[j].to.toNat)] by unfold esL;rw [Dc _ j cQ,List.map_append];rfl);have dD:=Bp (Acd he hn cQ);generalize p.edges[j].fr=fx at *
     generalize p.edges[j].to=tx at *
     obtain ⟨a,rfl⟩:=Aq f1;obtain ⟨d,rfl⟩:=Aq f3;simp only [Ap] at dI dD;by_cases hxy:a=k/\d=t
     ·obtain ⟨e1,e2⟩:=hxy;subst e1;subst e2;have S:=Bp (Wr (l:=esL (p.edges.take j)) (l':=esL (p.edges.take (j+1))) (q:=(a,d)) (x:=a) dI.out dD.out);have Hl:=Bp (show (Dl (Dq p) a d ++ H8 (esL (p.edges.take j)) (a,d) a).length<=3000000 by
       have h1:=Jz (Dq p) a d;have h2:=Wq (esL (p.edges.take j)) (a,d) a;rw [A0];omega)
      have mE:((a:Int) == (a:Int))=true:=Bm;have hab2:((d:Int) == (d:Int))=true:=Bm;have ha:Hid (∀ w:World,Below w w (w.alloc (.cells #[.int .i64 (a:Int)] 3))):=fun w=>(Bq _ _).alloc (Br _) _;go_wp2_with (at_builtin;refine Bz _ Em Bo rfl (.tmp 40) (.tmp 42) rfl Tryz.underlying26 bS jz0 jz1 jz2 rfl (l:=Dl (Dq p) a d ++ H8 (esL (p.edges.take j)) (a,d) a) rfl (ho.below (ha.out wr)) rfl (Rd.one Em _ _ a rfl rfl 1 (Br _) (Nat.lt_succ_self _)) Hl.out Bm Bo (by simp;omega) ?_;intro v5 w5 o5 g5 _)
      have D5:=(D.below (ha.out wr)).far g5 (fun e=>by have:=ho.within _ e.symm;omega);have bE:=Bs hb (ha.out wr);have W5:=bE.grown g5 bE.size (fun g hg=>by have:=ho.within _ hg;omega);refine ⟨⟨j+1,Bk,by go_num,?_,D5,W5⟩,by simp [intOf];omega⟩;rw [S.out,<-List.append_assoc];exact o5
     ·have S:=Bp (Y8 (l:=esL (p.edges.take j)) (l':=esL (p.edges.take (j+1))) (q:=(k,t)) (e:=(a,d)) (x:=k) dI.out (fun e=>hxy (by simp only [Prod.mk.injEq] at e;omega)));have eZ:∀ w',Below wr wr w'->(∃ j_1:Nat,j_1<=p.edges.length/\Value.int .i64 ((j:Int)+1)=Value.int .i64 (j_1:Int)/\Ow Em 3 w' (w.heap.size+1) u5 (Dl (Dq p) k t ++ H8 (esL (p.edges.take j_1)) (k,t) k)/\BoxAt w p (.slice (Ac ⟨b,o,Ab⟩) p.edges.length c) w'/\Below w w w'):=fun w' gJ=>⟨j+1,Bk,by go_num,by rw [S.out];exact ho.below gJ,D.below gJ,Bs hb gJ⟩
      have Hout:=Bp eZ;clear eZ;by_cases hfa:a=k
      ·have mE:((a:Int) == ((k:Nat):Int))=true:=by simp [hfa]
       have hdb:((d:Int) == ((t:Nat):Int))=false:=beq_eq_false_iff_ne.2 Bk;clear hfa hxy;go_wp2;exact ⟨Hout.out _ (Bq _ _),by simp [intOf];omega⟩
      ·have mE:((a:Int) == ((k:Nat):Int))=false:=beq_eq_false_iff_ne.2 Bk;clear hfa hxy;go_wp2;exact ⟨Hout.out _ (Bq _ _),by simp [intOf];omega⟩
    ·have gF:¬ (j:Int)<(p.edges.length:Int):=Bk;have hj':j=p.edges.length:=Bk;subst hj';rw [List.take_length] at ho;have S:=Bp (Xu (Dq p) k t);go_wp2;exact ⟨⟨k+1,Bk,by go_num,by rw [S.out];exact ho,D,hb⟩,by simp [intOf];omega⟩
  ·have aB:¬ (k:Int)<p.tasks:=by rw [HT.out];omega
   have aZ:k=T:=Bk;subst aZ;go_wp2;go_ret;refine ⟨_,rfl,?_,hb⟩;rw [HTn.out];exact ho.more Bk
theorem Un (p:Plan) (ve:Value) (t:Nat) (w:World) (hm:D7 p=true) (he:G6 p) (hn:p.edges.Nodup) (h:Rd Gc w w ve p.edges) :
  Calls An 242 #[Gd p ve,.int .i64 (t:Int)] w fun e w'=>∃ v,e = .returned v/\Ow Em 3 w' w v (Eg (Dq p) p.tasks.toNat t)/\Below w w w':=by
 obtain ⟨A,c,rfl,-⟩:=id h;obtain ⟨t1,t2⟩:=Ee hm;have aK:=E9 hm;obtain ⟨T,hT⟩:=Aq (show 0<=p.tasks by omega);have HT:=Bp hT;have HTn:=Bp (show p.tasks.toNat=T by omega);have gR:T<=12:=Bk;clear hT;obtain ⟨j0,bS,jz0,jz1,jz2⟩:=info_parts Kt;unfold Gd;go_enter Tryz.func242,Tryz.ntmps242;go_wp2;go_loopw [5,6] (fun vl i wr=>∃ k:Nat,k<=T/\i = .int .i64 k/\Ow Em 3 wr (w.heap.size+1) vl (Eg (Dq p) k t)/\BoxAt w p (.slice A p.edges.length c) wr/\Below w w wr) (fun _ i _=>T - (intOf i).toNat);case atStart =>
  have D:=BoxAt.new 43 p (.slice A p.edges.length c) w;refine ⟨0,Ag _,rfl,?_,D.below ((Bq _ _).alloc (Br _) _),?_⟩
  ·exact (Ow.empty Em 3 (D8 43 p (.slice A p.edges.length c) w) (g:=w.heap.size+1) (by rw [Fa]))
  ·repeat (first | exact Bq _ _ | refine Ae ?_ Bn _)
 case round =>
  obtain ⟨k,hk,rfl,ho,D,hb⟩:=hrel;obtain ⟨x0,x1,x2,x3,x4,xs⟩:=D.cells;by_cases aA:k<T
  ·have aB:(k:Int)<p.tasks:=by rw [HT.out];omega
   obtain ⟨wo,rfl⟩:∃ wo:World,wo=wr:=⟨_,rfl⟩
   go_wp2;clear x0 x1 x2 x3 x4 xs;go_loopw [5,7] (fun vl i wr=>∃ j:Nat,j<=p.edges.length/\i = .int .i64 j/\Ow Em 3 wr (w.heap.size+1) vl (Eg (Dq p) k t ++ H8 (esL (p.edges.take j)) (t,k) k)/\BoxAt w p (.slice A p.edges.length c) wr/\Below w w wr) (fun _ i _=>p.edges.length - (intOf i).toNat);case atStart=>exact ⟨0,Ag _,rfl,by simpa [H8,esL] using ho,D,hb⟩
   case round =>
    clear ho D hb;obtain ⟨j,hj,rfl,ho,D,hb⟩:=hrel;obtain ⟨x0,x1,x2,x3,x4,xs⟩:=D.cells;by_cases cQ:j<p.edges.length
    ·have gF:(j:Int)<(p.edges.length:Int):=Bk;obtain ⟨b,o,rfl,aG,c0,c1⟩:=(h.below hb).edge cQ;obtain ⟨f1,f2,f3,f4⟩:=Hy he cQ;have dI:=Bp (show esL (p.edges.take (j+1))=esL (p.edges.take j) ++ [(p.edges[j].fr.toNat,p.edges[j].to.toNat)] by unfold esL;rw [Dc _ j cQ,List.map_append];rfl);have dD:=Bp (Acd he hn cQ);generalize p.edges[j].fr=fx at *
     generalize p.edges[j].to=tx at *
     obtain ⟨a,rfl⟩:=Aq f1;obtain ⟨d,rfl⟩:=Aq f3;simp only [Ap] at dI dD;by_cases hxy:d=k/\a=t
     ·obtain ⟨e1,e2⟩:=hxy;subst e1;subst e2;have S:=Bp (Wr (l:=esL (p.edges.take j)) (l':=esL (p.edges.take (j+1))) (q:=(a,d)) (x:=d) dI.out dD.out);have Hl:=Bp (show (Eg (Dq p) d a ++ H8 (esL (p.edges.take j)) (a,d) d).length<=3000000 by
       have h1:=Nh (Dq p) d a;have h2:=Wq (esL (p.edges.take j)) (a,d) d;rw [A0];omega)
      have mE:((d:Int) == (d:Int))=true:=Bm;have hab2:((a:Int) == (a:Int))=true:=Bm;have ha:Hid (∀ w:World,Below w w (w.alloc (.cells #[.int .i64 (d:Int)] 3))):=fun w=>(Bq _ _).alloc (Br _) _;go_wp2_with (at_builtin;refine Bz _ Em Bo rfl (.tmp 40) (.tmp 42) rfl Tryz.underlying26 bS jz0 jz1 jz2 rfl (l:=Eg (Dq p) d a ++ H8 (esL (p.edges.take j)) (a,d) d) rfl (ho.below (ha.out wr)) rfl (Rd.one Em _ _ d rfl rfl 1 (Br _) (Nat.lt_succ_self _)) Hl.out Bm Bo (by simp;omega) ?_;intro v5 w5 o5 g5 _)
      have D5:=(D.below (ha.out wr)).far g5 (fun e=>by have:=ho.within _ e.symm;omega);have bE:=Bs hb (ha.out wr);have W5:=bE.grown g5 bE.size (fun g hg=>by have:=ho.within _ hg;omega);refine ⟨⟨j+1,Bk,by go_num,?_,D5,W5⟩,by simp [intOf];omega⟩;rw [S.out,<-List.append_assoc];exact o5
     ·have S:=Bp (Y8 (l:=esL (p.edges.take j)) (l':=esL (p.edges.take (j+1))) (q:=(t,k)) (e:=(a,d)) (x:=k) dI.out (fun e=>hxy (by simp only [Prod.mk.injEq] at e;omega)));have eZ:∀ w',Below wr wr w'->(∃ j_1:Nat,j_1<=p.edges.length/\Value.int .i64 ((j:Int)+1)=Value.int .i64 (j_1:Int)/\Ow Em 3 w' (w.heap.size+1) u5 (Eg (Dq p) k t ++ H8 (esL (p.edges.take j_1)) (t,k) k)/\BoxAt w p (.slice (Ac ⟨b,o,Ab⟩) p.edges.length c) w'/\Below w w w'):=fun w' gJ=>⟨j+1,Bk,by go_num,by rw [S.out];exact ho.below gJ,D.below gJ,Bs hb gJ⟩
      have Hout:=Bp eZ;clear eZ;by_cases hfa:a=t
      ·have mE:((a:Int) == ((t:Nat):Int))=true:=by simp [hfa]
       have hdb:((d:Int) == ((k:Nat):Int))=false:=beq_eq_false_iff_ne.2 Bk;clear hfa hxy;go_wp2;exact ⟨Hout.out _ (Bq _ _),by simp [intOf];omega⟩
      ·have mE:((a:Int) == ((t:Nat):Int))=false:=beq_eq_false_iff_ne.2 Bk;clear hfa hxy;go_wp2;exact ⟨Hout.out _ (Bq _ _),by simp [intOf];omega⟩
    ·have gF:¬ (j:Int)<(p.edges.length:Int):=Bk;have hj':j=p.edges.length:=Bk;subst hj';rw [List.take_length] at ho;have S:=Bp (Qb (Dq p) k t);go_wp2;exact ⟨⟨k+1,Bk,by go_num,by rw [S.out];exact ho,D,hb⟩,by simp [intOf];omega⟩
  ·have aB:¬ (k:Int)<p.tasks:=by rw [HT.out];omega
   have aZ:k=T:=Bk;subst aZ;go_wp2;go_ret;refine ⟨_,rfl,?_,hb⟩;rw [HTn.out];exact ho.more Bk
structure Reply where
 code:Int
 run:Int
 task:Int
 try_:Int
deriving DecidableEq,Inhabited
@[go_sem] abbrev Afy (x:Reply) (_s:Unit):Value:=.agg #[.int .i64 x.code,.int .i64 x.run,.int .i64 x.task,.int .i64 x.try_]
theorem M2 (v:Value) (l:List Fence) (i xb:Nat) (x:Fence) (base:Nat) (w:World) (hi:i<=l.length) (hl:l.length<=1000000) (ho:Ow Ch 65 w base v l) (aV:base<=w.heap.size)
  (hx:w.heap[xb]? = Ac (.cells (Ch.cells x).toArray 65 (0,0))) (aC:v.ownBlock≠Ac xb) :
  Calls An 68 #[v,.int .i64 (i:Int),.slice (Ac ⟨xb,0,Ab⟩) 1 1] w fun e w'=>∃ v',e = .returned v'/\Ow Ch 65 w' base v' (l.take i ++ x :: l.drop i)/\w.grownBy w' v.ownBlock/\(v'.ownBlock=v.ownBlock\/v'.ownBlock=Ac w.heap.size):=by
 obtain ⟨j0,bS,jz0,jz1,jz2⟩:=info_parts Ji;have dZ:xb<w:=(Array.getElem?_eq_some_iff.1 hx).1;have kT:∀ j u,(Ch.cells x)[j]? = Ac u->w.cell? ((⟨xb,0,Ab⟩:Addr).add j)=Ac u:=fun j u hu=>by
  have h0:w.cell? ⟨xb,j,Ab⟩=(Ch.cells x).toArray[j]?:=cell_of_row _ _ j _ _ (0,0) hx;have e:((⟨xb,0,Ab⟩:Addr).add j)=⟨xb,j,Ab⟩:=by unfold Addr.add;split<;>simp_all
  rw [e,h0];simpa using hu
 have fE:Rd Ch w w (.slice (Ac ⟨xb,0,Ab⟩) 1 1) [x]:=by
  refine ⟨_,1,rfl,Bm,fun _=>⟨xb,0,rfl,dZ,fun k hk j u hu=>?_⟩⟩;have cS:k=0:=by simpa using hk
  subst cS;have e:(⟨xb,0+0 * Ch.sz+j,Ab⟩:Addr)=(⟨xb,0,Ab⟩:Addr).add j:=by unfold Addr.add;split<;>simp_all
  rw [e];exact kT j u hu
 by_cases bU:i=l.length
 ·have Hl:=Bp (show l.take i ++ x :: l.drop i=l ++ [x] by rw [bU,List.take_length,List.drop_length]);have HO:=Bp ho;have HX:=Bp hx;have HXC:=Bp kT;have HNE:=Bp aC;obtain ⟨A,c,rfl,hc,-⟩:=id (Rd.of_own ho);have aJ:l.length<=c:=hc;subst bU;clear ho hx kT aC hi;have h0:¬ (l.length:Int)<0:=Bk;by_cases rQ:c=l.length;all_goals
   (try subst rQ)
   go_enter Tryz.func68,Tryz.ntmps68;go_wp2_with (at_builtin;refine Bz _ Ch Bo rfl (.tmp 23) (.tmp 24) rfl Tryz.underlying59 bS jz0 jz1 jz2 rfl (v:=.slice A l.length _) (l:=l) rfl HO.out (A:=Ac ⟨xb,0,Ab⟩) (m:=1) (c:=1) rfl fE Bk Bm Bo Bk ?_;intro v5 w5 o5 g5 f5)
   go_ret;exact ⟨v5,rfl,by first | exact o5 | (rw [Hl.out];exact o5),g5,f5⟩
 have aA:i<l.length:=Bk;obtain ⟨g,cap,rfl,pJ,gS,-⟩:∃ g cap,v = .slice (Ac ⟨g,0,Ab⟩) l.length cap/\base<=g/\g<w.heap.size/\True:=by
  rcases ho.form with ⟨_,e0⟩ | ⟨g,cap,e1,h1,h2,_⟩
  ·rw [e0] at aA;simp at aA
  ·exact ⟨g,cap,e1,h1,h2,trivial⟩
 obtain ⟨-,-,hncap,mK,cur,bQ,eI,fA⟩:=ho.row;have hne':xb≠g:=fun e=>aC (by rw [e];rfl);have bG:(An.info? 65).map (·.size)=Ac 4:=by rw [bS];simp [jz1]
 have kV:Ch.sz=4:=rfl;have kM:(l.flatMap Ch.cells).length=l.length * 4:=Ch.flat_length l;have eW:(Ch.cells x).length=4:=Ch.len x;have sM:((l.flatMap Ch.cells).drop (i * 4)).length=(l.length - i) * 4:=by rw [List.length_drop,kM,Nat.sub_mul]
 have mJ:∀ u∈l.flatMap Ch.cells,u.oneCell'=true:=fun u hu=>by
  obtain ⟨y,_,hy⟩:=List.mem_flatMap.1 hu;exact Ch.one y u hy
 have pY:=Bp (Lf Ch l i Bk x);rw [kV] at fA eI pY;have aY:∀ j u,(l.flatMap Ch.cells)[j]? = Ac u->w.cell? ⟨g,j,Ab⟩=Ac u:=fun j u hu=>by
  have h0:w.cell? ⟨g,j,Ab⟩=cur.toArray[j]?:=cell_of_row _ _ j _ _ (0,0) bQ;rw [h0,<-fA,List.getElem?_take] at *
  split at hu
  ·simpa using hu
  ·cases hu
 have Hone:=Bp mJ;have Hcell:=Bp aY;have HX:=Bp hx;have HXC:=Bp kT;have Hrow:=Bp bQ;have Hclen:=Bp eI;have Hcur:=Bp fA;have HO:=Bp ho;have Hxl:=Bp eW;have Hdl:=Bp sM;have HLl:=Bp kM;have HSZ:=Bp bG;have hcm2:cap<=9223372036854775807:=by simpa [maxLen] using mK
 have kD:¬ ((i:Int)=(l.length:Int)):=Bk;have hib:((i:Int) == (l.length:Int))=false:=beq_eq_false_iff_ne.2 kD;have hw1:U.wrap ((i:Int)+1)=(i:Int)+1:=Ar _ Bk;have qT:U.wrap ((l.length:Int)+1)=(l.length:Int)+1:=Ar _ Bk;have aQ:(0:Int)<=(i:Int)+1:=Bk;have qW:((i:Int)+1).toNat=i+1:=Bk;have htn2:((l.length:Int)+1).toNat=l.length+1:=Bk;have eS:¬ cap=i:=Bk;have hiI:(i:Int)<=(l.length:Int):=Bk;have hicap:(i:Int)<=(cap:Int):=Bk;clear ho hx kT aC bQ eI fA mJ aY mK aA bU hi fE kM eW sM bG kV;by_cases hroom:l.length+1<=cap
 ·-- there is room: in place
  have rT:¬ cap=i+1:=Bk;have hro:¬ (cap:Int)<(l.length:Int)+1:=Bk;have hi1:(i:Int)+1<=(l.length:Int)+1:=Bk;have sN:(i:Int)<=(l.length:Int)+1:=Bk;have gM:w.shape? xb=Ac (65,4):=by unfold World.shape?;rw [HX.out];simp [Hxl.out]
  have gK:w.shape? g=Ac (65,cap * 4):=by unfold World.shape?;rw [Hrow.out];simp [Hclen.out]
  have pG:∀ o,w.frozen? ⟨xb,o,Ab⟩=false:=fun o=>by unfold World.frozen?;rw [HX.out];simp
  have sR:∀ lb cb,(callFunc 127 #[.slice (Ac ⟨xb,0,Ab⟩) 1 1,.slice (Ac ⟨g,(i+1) * 4,Ab⟩) lb cb]).run An w = .ok (.value (.bool false)) w:=fun lb cb=>by
   rw [run_callFunc_extern Tryz.func127 Bl Bl Bl (e:=Extern.SlicesOverlaps.overlaps #[59,59] #[4]) Bl,
    Lib.run_overlaps_apart w 59 4 65 Tryz.underlying59 4 (fun w=>by simp [sizeOf,typeInfo,bS,jz1]) ⟨xb,0,Ab⟩ ⟨g,(i+1) * 4,Ab⟩ 1 1 lb cb hne' 65 65 4 (cap * 4) gM gK (by have:1 * 4<=cap * 4:=Nat.mul_le_mul_right _ Bk;omega) (pG _) (pG _)]
   rfl
  have Hsh:=Bp gM;have Hsg:=Bp gK;have Hfx:=Bp pG;clear gM gK pG;go_enter Tryz.func68,Tryz.ntmps68;go_wp2_with (simp only [sR])
  have e1:=Bp (show ((l.flatMap Ch.cells).drop (i * 4)).length=Nat.min (l.length+1 - i) (l.length - i) * 4 by rw [Hdl.out];congr 1;simp only [Nat.min_def];split<;>omega);have e2:=Bp (show ∀ j u,((l.flatMap Ch.cells).drop (i * 4))[j]? = Ac u->w.drew.cell? ((⟨g,i * 4,Ab⟩:Addr).add j)=Ac u from Hs Hrow.out _ (fun j u hu=>by
   rw [List.getElem?_drop,<-Hcur.out,List.getElem?_take] at hu;split at hu
   ·exact hu
   ·cases hu))
  have e3:=Bp (show (i+1) * 4+((l.flatMap Ch.cells).drop (i * 4)).length<=cur.length by
   rw [Hdl.out,Hclen.out,<-Nat.add_mul];exact Nat.mul_le_mul_right _ Bk)
  have e4:=Bp (show ∀ u∈(l.flatMap Ch.cells).drop (i * 4),u.oneCell'=true from fun u hu=>Hone.out u (List.mem_of_mem_drop hu));go_region_law (refine Kf w.drew rfl (.tmp 73) (.tmp 76) 59 59 rfl 65 4 Tryz.underlying59 HSZ.out g ((i+1) * 4) (l.length - i) (cap - (i+1)) ⟨g,i * 4,Ab⟩ (l.length+1 - i) (cap - i) (by simp [Act.eval,Act.put]) (by simp [Act.eval,Act.put]) cur 65 Hrow.out ((l.flatMap Ch.cells).drop (i * 4)) e1.out e2.out e3.out e4.out ?_;intro w1 r1 g1);have f1:=Bp (show (Ch.cells x).length=Nat.min 1 (l.length+1 - i) * 4 by rw [Hxl.out];simp only [Nat.min_def];split<;>omega);have f2:=Bp (show ∀ j u,(Ch.cells x)[j]? = Ac u->w1.cell? ((⟨xb,0,Ab⟩:Addr).add j)=Ac u from Hs (Jy g1 (w:=w.drew) HX.out (fun e=>hne' (Option.some.inj e))) _ (fun j u hu=>by rw [Nat.zero_add];exact hu));have cR:=Bp (Rz Ch l i Bk x cur Hcur.out (by rw [Hclen.out];exact Nat.mul_le_mul_right _ hroom));have f3:=Bp (show i * 4+(Ch.cells x).length<=(splice cur ((i+1) * 4) ((l.flatMap Ch.cells).drop (i * 4))).length by
   rw [E8 _ _ _ e3.out,Hxl.out,Hclen.out,<-Nat.succ_mul];exact Nat.mul_le_mul_right _ Bk)
  have f4:=Bp (Ch.one x);clear e1 e2 e3 e4 sR;go_wp2_with (refine I5 w1 rfl (.tmp 80) (.tmp 81) 59 59 rfl 65 4 Tryz.underlying59 HSZ.out g (i * 4) (l.length+1 - i) (cap - i) ⟨xb,0,Ab⟩ 1 1 (by simp [Act.eval]) (by simp [Act.eval]) _ 65 r1.out (Ch.cells x) f1.out f2.out f3.out f4.out ?_;intro w2 r2 g2)
  go_ret;have gA:=Ow.of_row (e:=Ch) (E:=65) (l:=l.take i ++ x :: l.drop i) (cap:=cap) (base:=base) r2.out (cR.out.2.trans Hclen.out) (by rw [Gn l i Bk x];exact cR.out.1) pJ (by rw [Gn l i Bk x];exact hroom) (by simpa [maxLen] using hcm2);rw [Gn l i Bk x] at gA;exact ⟨_,rfl,gA,(Mm g1).trans g2,.inl rfl⟩
 ·-- no room: a new row
  obtain rfl:cap=l.length:=Bk;have hro:(l.length:Int)<(l.length:Int)+1:=Bk;have fZ:U.wrap ((l.length:Int)+1 - (i:Int))=(l.length:Int)+1 - (i:Int):=Ar _ Bk;have a1:=Bp (show ((l.flatMap Ch.cells).take (i * 4)).length=i * 4 by
   rw [Az,HLl.out];exact Nat.min_eq_left (Nat.mul_le_mul_right _ Bk))
  have a2:=Bp (show ∀ j u,((l.flatMap Ch.cells).take (i * 4))[j]? = Ac u->w.cell? ((⟨g,0,Ab⟩:Addr).add j)=Ac u from Hs Hrow.out _ (fun j u hu=>by
   rw [List.getElem?_take] at hu;split at hu
   ·rw [<-Hcur.out,List.getElem?_take] at hu;split at hu
    ·rw [Nat.zero_add];exact hu
    ·cases hu
   ·cases hu))
  have dA:=Bp (show (l.length:Int)+1 - (i:Int)=((l.length+1 - i:Nat):Int) by omega);have sU:0<l.length+1 - i:=Bk;have hGg:w≠g:=Bk;have hxG:xb≠w:=Bk;have f1:=Bp (show (Ch.cells x).length=Nat.min 1 (l.length+1 - i) * 4 by rw [Hxl.out];simp only [Nat.min_def];split<;>omega);have f4:=Bp (Ch.one x);have e1:=Bp (show ((l.flatMap Ch.cells).drop (i * 4)).length=Nat.min (l.length - i) (l.length - i) * 4 by rw [Hdl.out];congr 1;simp only [Nat.min_def];split<;>omega);have e4:=Bp (show ∀ u∈(l.flatMap Ch.cells).drop (i * 4),u.oneCell'=true from fun u hu=>Hone.out u (List.mem_of_mem_drop hu));have e2:=Bp (show ∀ W:World,W.heap[g]? = w.heap[g]? -> ∀ j u,((l.flatMap Ch.cells).drop (i * 4))[j]? = Ac u->W.cell? ((⟨g,i * 4,Ab⟩:Addr).add j)=Ac u from fun W hW=>Hs (hW.trans Hrow.out) _ (fun j u hu=>by
   rw [List.getElem?_drop,<-Hcur.out,List.getElem?_take] at hu;split at hu
   ·exact hu
   ·cases hu))
  go_enter Tryz.func68,Tryz.ntmps68;go_wp2_with (first
   | (refine J7 w rfl (.tmp 34) (.tmp 39) 59 3 rfl 65 j0 _ 4 _ .i64 .i64 Tryz.underlying59 Tryz.underlying3 bS jz0 jz1 jz2 rfl Bo ⟨g,0,Ab⟩ i l.length _ (by simp [Act.eval]) (l.length+1 - i) ((l.length:Int)+1 - (i:Int)) dA.out (by simp [Act.eval]) a1.out a2.out sU Bk Bk Bo (l.length+1) Bk ?_;intro w1 c R r1 rl rt nB pL g1 s1;have hci:¬ c=i:=(by omega);have hci1:¬ c=i+1:=(by omega);have sN:(i:Int)<=(l.length:Int)+1:=(by omega);have hi1:(i:Int)+1<=(l.length:Int)+1:=(by omega);have nW:(l.length:Int)+1<=(c:Int):=(by omega);have f2:=Bp (show ∀ j u,(Ch.cells x)[j]? = Ac u->w1.cell? ((⟨xb,0,Ab⟩:Addr).add j)=Ac u from Hs (Jy g1 HX.out Bm) _ (fun j u hu=>by rw [Nat.zero_add];exact hu));have f3:=Bp (show i * 4+(Ch.cells x).length<=R.length by rw [Hxl.out,rl.out,<-Nat.succ_mul];exact Nat.mul_le_mul_right _ Bk);have cR:=Bp (Um Ch l i Bk x R rt.out (by rw [rl.out];exact Nat.mul_le_mul_right _ nB));have mC:=Bp (g1.block g gS Bm);clear dA)
   | (refine I5 w1 rfl (.tmp 43) (.tmp 44) 59 59 rfl 65 4 Tryz.underlying59 HSZ.out w.heap.size (i * 4) (l.length+1 - i) (c - i) ⟨xb,0,Ab⟩ 1 1 (by simp [Act.eval]) (by simp [Act.eval]) _ 65 r1.out (Ch.cells x) f1.out f2.out f3.out f4.out ?_;intro w2 r2 g2))
  have e3:=Bp (show (i+1) * 4+((l.flatMap Ch.cells).drop (i * 4)).length<=(splice R (i * 4) (Ch.cells x)).length by
   rw [E8 _ _ _ f3.out,Hdl.out,rl.out,<-Nat.add_mul];exact Nat.mul_le_mul_right _ Bk)
  have e2':=Bp (e2.out w2.drew ((g2.block g Bk (fun e=>hGg (Option.some.inj e).symm)).trans mC.out));clear e2 mC;go_region_law (refine Kf w2.drew rfl (.tmp 50) (.tmp 53) 59 59 rfl 65 4 Tryz.underlying59 HSZ.out w.heap.size ((i+1) * 4) (l.length - i) (c - (i+1)) ⟨g,i * 4,Ab⟩ (l.length - i) (l.length - i) (by simp [Act.eval,Act.put]) (by simp [Act.eval,Act.put]) _ 65 r2.out ((l.flatMap Ch.cells).drop (i * 4)) e1.out e2'.out e3.out e4.out ?_;intro w3 r3 g3);go_wp2_with fail
  go_ret;have gA:=Ow.of_row (e:=Ch) (E:=65) (l:=l.take i ++ x :: l.drop i) (cap:=c) (base:=base) r3.out (cR.out.2.trans rl.out) (by rw [Gn l i Bk x];exact cR.out.1) aV (by rw [Gn l i Bk x];exact nB) (by simpa [maxLen] using pL);rw [Gn l i Bk x] at gA;exact ⟨_,rfl,gA,N1 (N1 (Uk g1 (Ac g)) g2 (Br _)) (Mm g3) (Br _),.inr rfl⟩
theorem DBox.put {b:Nat} {cs:List Value} {w:World} (h:DBox b cs w) (j:Nat) (hj:j<cs.length) (u:Value):DBox b (cs.set j u) (w.setCell ⟨b,j,Ab⟩ u):=by
 refine ⟨fun i x hx=>?_,fun i=>by rw [Hz];exact h.free i,by simpa [World.setCell] using h.lt⟩;have hi:i<cs.length:=by
  have:=(List.getElem?_eq_some_iff.1 hx).1
  simpa using this
 rw [Ke w b i j u cs[i] (h.cell i _ (List.getElem?_eq_getElem hi)) ⟨_,h.cell j _ (List.getElem?_eq_getElem hj)⟩];by_cases e:i=j
 ·subst e;rw [List.getElem?_set_self hi] at hx;rw [if_pos rfl];exact hx
 ·rw [List.getElem?_set_ne (Ne.symm e),List.getElem?_eq_getElem hi] at hx;rw [if_neg e];exact hx
@[go_sem] abbrev Qc (x:Plan) (s:Sl):Value:=.agg #[.int .i64 x.prio,.int .i64 x.most,.int .i64 x.wait,.int .i64 x.tasks,.slice s.a s.n s.c]
abbrev Cm:Dt Plan:=Dt.via (Dt.list Lz) (·.edges) (fun q=>[.int .i64 q.1.prio,.int .i64 q.1.most,.int .i64 q.1.wait,.int .i64 q.1.tasks,.slice q.2.a q.2.n q.2.c]) 5 (fun _=>rfl) (fun q u hu=>by simp at hu;rcases hu with rfl | rfl | rfl | rfl | rfl<;>rfl)
def Js (x:Plan):Nat:=Jx Tu x.edges
theorem Rd.of_row {α:Type} (e:Enc α) {w:World} {T:TypeId} {x:α} {g:Nat} (h:w.heap[g]? = Ac (.cells (e.cells x).toArray T (0,0))) {B:Nat} (hB:g<B):Rd e w B (Aa (Ac ⟨g,0,Ab⟩) 1 1) [x]:=by
 refine ⟨_,1,rfl,Bm,fun _=>⟨g,0,rfl,hB,fun k hk j u hu=>?_⟩⟩;have cS:k=0:=by simpa using hk
 subst cS;have h0:w.cell? ⟨g,j,Ab⟩=(e.cells x).toArray[j]?:=cell_of_row _ _ j _ _ (0,0) h;simp only [Nat.zero_mul,Nat.zero_add];rw [h0];simpa using hu
theorem Rd.drop {α:Type} {e:Enc α} {w:World} {B:Nat} {A:Option Addr} {n c:Nat} {l:List α} (h:Rd e w B (Aa A n c) l) (k:Nat) (hk:k<=l.length):Rd e w B (Aa (A.map fun x=>x.add (k * e.sz)) (l.length - k) (c - k)) (l.drop k):=by
 obtain ⟨A',c0,hv,hc,hA⟩:=h;simp only [Value.slice.injEq] at hv;obtain ⟨rfl,rfl,rfl⟩:=hv;refine ⟨_,c - k,by rw [List.length_drop],by rw [List.length_drop];omega,fun hl=>?_⟩;rw [List.length_drop] at hl;obtain ⟨b,o,hb,aA,aY⟩:=hA Bk;refine ⟨b,o+k * e.sz,by rw [hb];simp only [Option.map_some,Option.some.injEq];unfold Addr.add;split<;>simp_all,aA,fun i hi j u hu=>?_⟩;rw [List.length_drop] at hi;rw [List.getElem_drop] at hu
 have:=aY (k+i) Bk j u hu
 rw [show o+k * e.sz+i * e.sz+j=o+(k+i) * e.sz+j from by rw [Nat.add_mul,<-Nat.add_assoc]];exact this
def Jf (l:List Fence) (f:Fence):Nat:=(l.takeWhile (fun x=>fBe x f)).length
theorem J8 {α:Type} (p:α->Bool):∀ (l:List α) (k:Nat),k<=l.length->(∀ j (h:j<l.length),j<k->p l[j]=true)->(∀ h:k<l.length,p l[k]=false)->(l.takeWhile p).length=k
 | [],k,hk,_,_=>by simp at hk;simp [hk]
 | x :: l,0,_,_,h=>by
  have:=h Bm
  simp only [List.getElem_cons_zero] at this;simp [this]
 | x :: l,k+1,hk,h1,h2=>by
  have h0:=h1 0 Bm Bk;simp only [List.getElem_cons_zero] at h0;rw [List.takeWhile_cons_of_pos (by simpa using h0),List.length_cons,J8 p l k (by simpa using hk)]
  ·intro j hj dN
   have:=h1 (j+1) (by simpa using hj) Bk
   simpa using this
  ·intro aZ
   have:=h2 (by simpa using aZ)
   simpa using this
theorem Tv (l:List Fence) (f:Fence) (k:Nat) (hk:k<=l.length) (h1:∀ j (h:j<l.length),j<k->fBe l[j] f=true) (h2:∀ h:k<l.length,fBe l[k] f=false):Jf l f=k:=J8 _ l k hk h1 h2
theorem Ae5 (l:List Fence) (f:Fence):Jf l f<=l.length:=by
 unfold Jf;exact (List.takeWhile_sublist _).length_le
noncomputable def Da (l:List Fence) (f:Fence):List Fence×Int :=
 if Ej l=false then (l,8)
 else if fOk f=false then (l,5)
 else match l.findIdx? (fAt f.run f.task) with
  | some k=>if f.try_<(l.getD k f).try_ then (l,11) else (l.set k f,0)
  | none=>if l.length=60 then (l,7) else (l.take (Jf l f) ++ f :: l.drop (Jf l f),0)
theorem Ws {α:Type} (p:α->Bool) (l:List α):(l.findIdx? p=Ab/\E6 p l = -1) \/ ∃ k,k<l.length/\l.findIdx? p=Ac k/\E6 p l=k:=by
 unfold E6;cases h:l.findIdx? p with
 | none=>exact .inl ⟨rfl,rfl⟩
 | some k=>exact .inr ⟨k,(List.findIdx?_eq_some_iff_getElem.1 h).1,rfl,rfl⟩
theorem Qd (l:List Fence) (f:Fence):(Da l f).1.length<=l.length+1:=by
 unfold Da
 have:=Ae5 l f
 repeat' split
 all_goals (try simp)
 all_goals omega
structure FBox (b:Nat) (f:Fence) (w:World):Prop where
 cells:w.cell? ⟨b,0,none⟩=some (.int .i64 f.run)/\w.cell? ⟨b,1,none⟩=some (.int .i64 f.task)/\w.cell? ⟨b,2,none⟩=some (.int .i64 f.try_)/\w.cell? ⟨b,3,none⟩=some (.string f.text)/\b<w
theorem FBox.new (T:TypeId) (f:Fence) (w:World):FBox w f (w.alloc (.cells #[J U f.run,J U f.task,J U f.try_,.string f.text] T)):=by
 refine ⟨?_,?_,?_,?_,Bm⟩;all_goals simp [go_sem]
theorem FBox.upto {B b:Nat} {f:Fence} {w w':World} (h:FBox b f w) (hb:Below B w w') (aA:b<B):FBox b f w':=by
 obtain ⟨h0,h1,h2,h3,h4⟩:=h.cells;exact ⟨(hb.cell (p:=⟨b,0,Ab⟩) aA).trans h0,(hb.cell (p:=⟨b,1,Ab⟩) aA).trans h1,(hb.cell (p:=⟨b,2,Ab⟩) aA).trans h2,(hb.cell (p:=⟨b,3,Ab⟩) aA).trans h3,Ai h4 hb.size⟩
theorem FBox.below {b:Nat} {f:Fence} {w w':World} (h:FBox b f w) (hb:Below w w w'):FBox b f w':=h.upto hb h.cells.2.2.2.2
def PutPost (l:List Fence) (f:Fence) (w:World) (e:Ending) (w':World):Prop :=
 ∃ v',e = .returned (.tuple #[v',J U (Da l f).2])/\Ow Ch 65 w' w v' (Da l f).1/\Below w w w'
theorem PutPost.of {l l':List Fence} {f:Fence} {w w':World} {v:Value} {n:Int} {base:Nat} (h:Hid (Da l f=(l',n))) (ho:Ow Ch 65 w' base v l') (aV:w.heap.size<=base) (hb:Below w w w') :
  PutPost l f w (.returned (.tuple #[v,J U n])) w':=⟨v,by rw [h.out],by rw [h.out];exact ho.more aV,hb⟩
theorem Jj (v:Value) (l:List Fence) (f:Fence) (w:World) (hl:l.length<=2000000) (h:Rd Ch w w v l) :
  Calls An 23 #[v,It f] w (PutPost l f w):=by
 obtain ⟨A,c,rfl,-⟩:=id h;obtain ⟨i0,aL,aR,aS,aP⟩:=info_parts Ji;have h0:=Bp (show ∀ W,Below w w W->Rd Ch W W (.slice A l.length c) l from fun W hW=>(h.below hW).more hW.size);have D:=FBox.new 65 f w;have b0:Below w w (w.alloc (.cells #[.int .i64 f.run,.int .i64 f.task,.int .i64 f.try_,.string f.text] 65)):=(Bq _ _).alloc (Br _) _;unfold It;clear h;go_enter Tryz.func23,Tryz.ntmps23;go_wp2_with (at_builtin;refine Bz _ Ch Bo rfl (.const (.slice Ab 0 0)) (.tmp 9) rfl Tryz.underlying59 aL aR aS aP rfl (v:=.slice Ab 0 0) (l:=[]) rfl (Ow.nil Ch 65 _ (w.heap.size+1)) rfl (h0.out _ ((Bq _ _).alloc Bn _)) Bm Bk Bo Bm ?_;intro v1 w1 o1 g1 _;rw [List.nil_append] at o1;obtain ⟨A1,c1,rfl,-⟩:=id (Rd.of_own o1);have d1:=(Bq (w.heap.size+1) _).grown g1 Bn (fun k hk=>by simp [Value.ownBlock] at hk<;>omega);clear g1;replace D:=D.upto d1 Bk;have b1:Below w w w1:=b0.trans (d1.mono Bk);obtain ⟨x0,x1,x2,x3,x4⟩:=D.cells)
 clear b0 d1;clear x0 x1 x2 x3 x4;have C2:=Mz (.slice A l.length c) l f.run f.task w1 hl (h0.out _ b1);rcases Ws (fAt f.run f.task) l with ⟨ki,kv⟩ | ⟨k,hk,ki,kv⟩
 all_goals
  rw [kv] at C2;have KI:=Bp ki;clear ki kv;refine C2.mono ?_;clear C2;rintro e w2 ⟨rfl,c2⟩;replace D:=D.below c2;replace o1:=o1.below c2;have b2:=Bs b1 c2;clear c2 b1;go_wp2_with fail
  refine (Ly (.slice A l.length c) l w2 hl (h0.out _ b2)).mono ?_;rintro e w3 ⟨rfl,c3⟩;replace D:=D.below c3;replace o1:=o1.below c3;have b3:=Bs b2 c3;clear c3 b2;cases hF:Ej l
  ·have H:=Bp (show Da l f=(l,8) by unfold Da;rw [if_pos hF]);clear hF;go_wp2;go_ret2;exact PutPost.of H o1 Bk b3
  have HF:=Bp (show ¬ Ej l=false by rw [hF];simp);have aK:l.length<=60:=by
   simp only [Ej,Bool.and_eq_true,decide_eq_true_eq] at hF;exact hF.1
  clear hF;obtain ⟨x0,x1,x2,x3,x4⟩:=D.cells;go_wp2_with fail
  clear x0 x1 x2 x3 x4;refine (Jw f w3).mono ?_;rintro e w4 ⟨rfl,c4⟩;replace D:=D.below c4;replace o1:=o1.below c4;have b4:=Bs b3 c4;clear c4 b3;cases hO:fOk f
  ·have H:=Bp (show Da l f=(l,5) by unfold Da;rw [if_neg HF.out,if_pos hO]);clear hO;go_wp2;go_ret2;exact PutPost.of H o1 Bk b4
  have HO:=Bp (show ¬ fOk f=false by rw [hO];simp);clear hO
 ·have hg:decide ((0:Int) <= -1)=false:=Bo;by_cases h60:l.length=60
  ·have H:=Bp (show Da l f=(l,7) by unfold Da;rw [if_neg HF.out,if_neg HO.out,KI.out];simp [h60]);have h6I:((l.length:Int) == 60)=true:=by simp;omega
   clear h60;go_wp2;go_quiet (fail);go_wp2;go_ret2;exact PutPost.of H (o1.below (Cj (Bq _ _) _)) Bk (Cj b4 _)
  ·have h6I:((l.length:Int) == 60)=false:=by simp;omega
   have H:=Bp (show Da l f=(l.take (Jf l f) ++ f :: l.drop (Jf l f),0) by unfold Da;rw [if_neg HF.out,if_neg HO.out,KI.out];simp [h60]);clear h60;go_wp2;go_quiet (fail);obtain ⟨w5,eG⟩:∃ w5,w5=w4.drewN nq:=⟨_,rfl⟩
   rw [<-eG];have b5:Below w w w5:=by rw [eG];exact Cj b4 _
   replace o1:Ow Ch 65 w5 (w.heap.size+1) (.slice A1 l.length c1) l:=by rw [eG];exact o1.below (Cj (Bq _ _) _)
   replace D:FBox w f w5:=by rw [eG];exact D.below (Cj (Bq _ _) _)
   clear eG b4;go_wp2;go_loopw [8] (fun i wr=>∃ k:Nat,k<=l.length/\i = .int .i64 k/\Hid (∀ j (h:j<l.length),j<k->fBe l[j] f=true)/\Below w5 w5 wr) (fun i _=>l.length - (intOf i).toNat);case atStart=>exact ⟨0,Ag _,rfl,fun j _ hj=>absurd hj Bk,Bq _ _⟩
   case round =>
    obtain ⟨k,hk,rfl,cV,c6⟩:=hrel;have b6:=Bs b5 c6;replace o1:=o1.below c6;replace D:=D.below c6;have C6:=Bp c6;clear b5 c6;obtain ⟨x0,x1,x2,x3,x4⟩:=D.cells;have aJ:=Cy wr;by_cases aA:k<l.length
    ·obtain ⟨b,o,rfl,aG,y0,y1,y2,y3⟩:=(h0.out _ b6).fence aA;have eC:(k:Int)<(l.length:Int):=Bk;cases t:fBe l[k] f
     ·have HP:=Bp (Tv l f k hk cV.out (fun _=>t));go_wp2;refine Bv Bl Bl ?_;repeat (go_big_quiet_step ((go_at_call 65;rename_i x;have h1:=Ld _ (.inl rfl) l[k] f x.1;exact Ea h1)))
      refine Ak ?_;rintro w7 ⟨⟨_,c7⟩,rfl⟩;clear aJ;replace o1:=o1.below c7;replace D:=D.below c7;have b7:=Bs b6 c7;clear b6 c7 x0 x1 x2 x3 x4;obtain ⟨x0,x1,x2,x3,x4⟩:=D.cells;go_wp2_with fail
      refine (M2 (.slice A1 l.length c1) l k w7 f (w.heap.size+1) _ Bk Bk (o1.below ((Bq _ _).alloc (Br _) _)) (by simp;omega) (heap_alloc_new w7 _) (fun e=>by have:=o1.within _ e;omega)).mono ?_;rintro e w8 ⟨v8,rfl,o8,g8,-⟩;have b8:=(b7.alloc b7.size _).grown g8 (by simp;omega) (fun g hg=>by have:=o1.within g hg;omega);rw [<-HP.out] at o8;go_wp2;go_ret2;exact PutPost.of H o8 Bk b8
     ·have S:Hid (∀ j (h:j<l.length),j<k+1->fBe l[j] f=true):=by
       intro j h hj;by_cases e:j=k
       ·subst e;exact t
       ·exact cV.out j h Bk
      go_wp2;refine Bv Bl Bl ?_;repeat (go_big_quiet_step ((go_at_call 65;rename_i x;have h1:=Ld _ (.inl rfl) l[k] f x.1;exact Ea h1)))
      refine Ak ?_;rintro w7 ⟨⟨_,c7⟩,rfl⟩;clear x0 x1 x2 x3 x4;clear aJ;go_wp2;exact ⟨⟨k+1,Bk,by go_num,S,Bs C6.out c7⟩,by simp [intOf];omega⟩
    ·have HP:=Bp (Tv l f k hk cV.out (fun h=>absurd h aA));have eC:decide ((k:Int)<(l.length:Int))=false:=by simp;omega
     go_wp2;refine Bv Bl Bl ?_;repeat (go_big_quiet_step (fail))
     refine Ak ?_;rintro w7 ⟨⟨_,c7⟩,rfl⟩;clear aJ;replace o1:=o1.below c7;replace D:=D.below c7;have b7:=Bs b6 c7;clear b6 c7 x0 x1 x2 x3 x4;obtain ⟨x0,x1,x2,x3,x4⟩:=D.cells;go_wp2_with fail
     refine (M2 (.slice A1 l.length c1) l k w7 f (w.heap.size+1) _ Bk Bk (o1.below ((Bq _ _).alloc (Br _) _)) (by simp;omega) (heap_alloc_new w7 _) (fun e=>by have:=o1.within _ e;omega)).mono ?_;rintro e w8 ⟨v8,rfl,o8,g8,-⟩;have b8:=(b7.alloc b7.size _).grown g8 (by simp;omega) (fun g hg=>by have:=o1.within g hg;omega);rw [<-HP.out] at o8;go_wp2;go_ret2;exact PutPost.of H o8 Bk b8
 ·obtain ⟨b,o,rfl,aG,y0,y1,y2,y3⟩:=(h0.out _ b4).fence hk;have eC:(k:Int)<(l.length:Int):=Bk;have cS:(0:Int)<=(k:Int):=Bk;have hg:decide ((0:Int)<=(k:Int))=true:=Bm;have bW:l.getD k f=l[k]:=by simp [List.getD,hk]
  obtain ⟨x0,x1,x2,x3,x4⟩:=D.cells;by_cases ht:f.try_<l[k].try_
  ·have H:=Bp (show Da l f=(l,11) by unfold Da;rw [if_neg HF.out,if_neg HO.out,KI.out];simp only [bW];rw [if_pos ht]);clear bW;go_wp2;go_quiet (fail);go_wp2;go_ret2;exact PutPost.of H (o1.below (Cj (Bq _ _) _)) Bk (Cj b4 _)
  ·have H:=Bp (show Da l f=(l.set k f,0) by unfold Da;rw [if_neg HF.out,if_neg HO.out,KI.out];simp only [bW];rw [if_neg ht]);clear bW;go_wp2;go_quiet (fail);obtain ⟨w5,eG⟩:∃ w5,w5=w4.drewN nq:=⟨_,rfl⟩
   rw [<-eG];have b5:Below w w w5:=by rw [eG];exact Cj b4 _
   replace o1:Ow Ch 65 w5 (w.heap.size+1) (.slice A1 l.length c1) l:=by rw [eG];exact o1.below (Cj (Bq _ _) _)
   replace D:FBox w f w5:=by rw [eG];exact D.below (Cj (Bq _ _) _)
   clear eG b4;clear x0 x1 x2 x3 x4;obtain ⟨x0,x1,x2,x3,x4⟩:=D.cells;obtain ⟨g,rfl,pJ,gS⟩:=o1.some_ Bk;have hf:=o1.free;have hp:=Bp (Ow.put o1 rfl k hk f);obtain ⟨z0,z1,z2,z3⟩:=o1.fence hk;go_wp2;go_ret2;exact PutPost.of H hp.out.1 Bk (b5.grown hp.out.2 Bk (fun g' hg'=>by simp at hg';omega))
theorem Q6 (v:Value) (l:List Fence) (f:Fence) (w:World) (hl:l.length<=2000000) (h:Rd Ch w w v l) :
  Calls An 69 #[v,It f] w (PutPost l f w):=by
 obtain ⟨A,c,rfl,-⟩:=id h;obtain ⟨i0,aL,aR,aS,aP⟩:=info_parts Ji;have h0:=Bp (show ∀ W,Below w w W->Rd Ch W W (.slice A l.length c) l from fun W hW=>(h.below hW).more hW.size);have D:=FBox.new 65 f w;have b0:Below w w (w.alloc (.cells #[.int .i64 f.run,.int .i64 f.task,.int .i64 f.try_,.string f.text] 65)):=(Bq _ _).alloc (Br _) _;unfold It;clear h;go_enter Tryz.func69,Tryz.ntmps69;go_wp2_with (at_builtin;refine Bz _ Ch Bo rfl (.tmp 9) (.tmp 10) rfl Tryz.underlying59 aL aR aS aP rfl (v:=.slice (Ac ⟨w.heap.size+1,0,Ab⟩) 0 0) (l:=[]) rfl ((Ow.empty Ch 65 _ Bm).more (base':=w.heap.size+1) Bk) rfl (h0.out _ (((Bq _ _).alloc Bn _).alloc Bn _)) Bm Bk Bo Bm ?_;intro v1 w1 o1 g1 _;rw [List.nil_append] at o1;obtain ⟨A1,c1,rfl,-⟩:=id (Rd.of_own o1);have d1:=((Bq (w.heap.size+1) _).alloc Bn _).grown g1 Bn (fun k hk=>by simp [Value.ownBlock] at hk<;>omega);clear g1;replace D:=D.upto d1 Bk;have b1:Below w w w1:=b0.trans (d1.mono Bk);obtain ⟨x0,x1,x2,x3,x4⟩:=D.cells)
 clear b0 d1;clear x0 x1 x2 x3 x4;have C2:=S7 (.slice A l.length c) l f.run f.task w1 hl (h0.out _ b1);rcases Ws (fAt f.run f.task) l with ⟨ki,kv⟩ | ⟨k,hk,ki,kv⟩
 all_goals
  rw [kv] at C2;have KI:=Bp ki;clear ki kv;refine C2.mono ?_;clear C2;rintro e w2 ⟨rfl,e2⟩;have c2:Below w1 w1 w2:=by rw [<-e2];exact Bq _ _
  clear e2;replace D:=D.below c2;replace o1:=o1.below c2;have b2:=Bs b1 c2;clear c2 b1;go_wp2_with fail
  refine (Q3 (.slice A l.length c) l w2 hl (h0.out _ b2)).mono ?_;rintro e w3 ⟨rfl,c3⟩;replace D:=D.below c3;replace o1:=o1.below c3;have b3:=Bs b2 c3;clear c3 b2;cases hF:Ej l
  ·have H:=Bp (show Da l f=(l,8) by unfold Da;rw [if_pos hF]);clear hF;go_wp2;go_ret2;exact PutPost.of H o1 Bk b3
  have HF:=Bp (show ¬ Ej l=false by rw [hF];simp);have aK:l.length<=60:=by
   simp only [Ej,Bool.and_eq_true,decide_eq_true_eq] at hF;exact hF.1
  clear hF;obtain ⟨x0,x1,x2,x3,x4⟩:=D.cells;go_wp2_with fail
  clear x0 x1 x2 x3 x4;refine (Lw f w3).mono ?_;rintro e w4 ⟨rfl,c4⟩;replace D:=D.below c4;replace o1:=o1.below c4;have b4:=Bs b3 c4;clear c4 b3;cases hO:fOk f
  ·have H:=Bp (show Da l f=(l,5) by unfold Da;rw [if_neg HF.out,if_pos hO]);clear hO;go_wp2;go_ret2;exact PutPost.of H o1 Bk b4
  have HO:=Bp (show ¬ fOk f=false by rw [hO];simp);clear hO
 ·have hg:decide ((0:Int) <= -1)=false:=Bo;by_cases h60:l.length=60
  ·have H:=Bp (show Da l f=(l,7) by unfold Da;rw [if_neg HF.out,if_neg HO.out,KI.out];simp [h60]);have h6I:((l.length:Int) == 60)=true:=by simp;omega
   clear h60;go_wp2;go_quiet (fail);go_wp2;go_ret2;exact PutPost.of H (o1.below (Cj (Bq _ _) _)) Bk (Cj b4 _)
  ·have h6I:((l.length:Int) == 60)=false:=by simp;omega
   have H:=Bp (show Da l f=(l.take (Jf l f) ++ f :: l.drop (Jf l f),0) by unfold Da;rw [if_neg HF.out,if_neg HO.out,KI.out];simp [h60]);clear h60;go_wp2;go_quiet (fail);obtain ⟨w5,eG⟩:∃ w5,w5=w4.drewN nq:=⟨_,rfl⟩
   rw [<-eG];have b5:Below w w w5:=by rw [eG];exact Cj b4 _
   replace o1:Ow Ch 65 w5 (w.heap.size+1) (.slice A1 l.length c1) l:=by rw [eG];exact o1.below (Cj (Bq _ _) _)
   replace D:FBox w f w5:=by rw [eG];exact D.below (Cj (Bq _ _) _)
   clear eG b4;go_wp2;go_loopw [8] (fun i wr=>∃ k:Nat,k<=l.length/\i = .int .i64 k/\Hid (∀ j (h:j<l.length),j<k->fBe l[j] f=true)/\Below w5 w5 wr) (fun i _=>l.length - (intOf i).toNat);case atStart=>exact ⟨0,Ag _,rfl,fun j _ hj=>absurd hj Bk,Bq _ _⟩
   case round =>
    obtain ⟨k,hk,rfl,cV,c6⟩:=hrel;have b6:=Bs b5 c6;replace o1:=o1.below c6;replace D:=D.below c6;have C6:=Bp c6;clear b5 c6;obtain ⟨x0,x1,x2,x3,x4⟩:=D.cells;have aJ:=Cy wr;by_cases aA:k<l.length
    ·obtain ⟨b,o,rfl,aG,y0,y1,y2,y3⟩:=(h0.out _ b6).fence aA;have eC:(k:Int)<(l.length:Int):=Bk;cases t:fBe l[k] f
     ·have HP:=Bp (Tv l f k hk cV.out (fun _=>t));go_wp2;refine Bv Bl Bl ?_;repeat (go_big_quiet_step ((go_at_call 132;rename_i x;have h1:=Ld _ (.inr rfl) l[k] f x.1;exact Ea h1)))
      refine Ak ?_;rintro w7 ⟨⟨_,c7⟩,rfl⟩;clear aJ;replace o1:=o1.below c7;replace D:=D.below c7;have b7:=Bs b6 c7;clear b6 c7 x0 x1 x2 x3 x4;obtain ⟨x0,x1,x2,x3,x4⟩:=D.cells;have gB:k<=c:=Ah hk (h0.out _ b7).cap;have mD:(k:Int)<=(c:Int):=Bk;have a0:=Bp (show ∀ W,Below w7 w7 W->Rd Ch W W (.slice (Ac ⟨b,o,Ab⟩) k c) (l.take k) from fun W hW=>(h0.out _ (Bs b7 hW)).take hk c gB);have lt1:=Bp (show (l.take k).length<=100 by simp;omega);have aN:=Bp (show ((w7.drew.alloc (.cells #[] 65)).alloc (.cells #[.int .i64 f.run,.int .i64 f.task,.int .i64 f.try_,.string f.text] 65)).heap[w7.heap.size+1]? = Ac (.cells (Ch.cells f).toArray 65 (0,0)) by have:=heap_alloc_new (w7.drew.alloc (.cells #[] 65)) (.cells #[.int .i64 f.run,.int .i64 f.task,.int .i64 f.try_,.string f.text] 65);rw [show (w7.drew.alloc (.cells #[] 65)).heap.size=w7.heap.size+1 from by simp] at this;exact this);have qA:=Bp (show ((w7.drew.alloc (.cells #[.int .i64 f.run,.int .i64 f.task,.int .i64 f.try_,.string f.text] 65)).alloc (.cells #[] 65)).heap[w7.heap.size]? = Ac (.cells (Ch.cells f).toArray 65 (0,0)) from (Below.heap_alloc _ _ _ Bm).trans (heap_alloc_new w7.drew (.cells #[.int .i64 f.run,.int .i64 f.task,.int .i64 f.try_,.string f.text] 65)));have a1:=Bp (show ∀ W,Below w7 w7 W->Rd Ch W W (.slice (Ac ⟨b,o+k * 4,Ab⟩) (l.length - k) (c - k)) (l.drop k) from fun W hW=>by have:=(h0.out _ (Bs b7 hW)).drop k hk;simpa [Ch,Addr.add_lit] using this);go_wp2;go_region_law (first
        | (refine Df (w7.drew.alloc (.cells #[] 65)) Ch Bo rfl (.tmp 69) (.tmp 72) rfl Tryz.underlying59 aL aR aS aP rfl (v:=.slice (Ac ⟨w7,0,Ab⟩) 0 0) (l:=[]) (by simp [Act.eval]) ((Ow.empty Ch 65 w7.drew rfl).more (base':=w7.heap.size) (Br _)) (A:=(Ac ⟨b,o,Ab⟩)) (m:=k) (c:=_) (ys:=l.take k) (by simp [Act.eval]) (a0.out _ (((Bq w7 w7).drew).alloc Bn _)) Bm (by have:=lt1.out;omega) Bo Bn ?_;intro v8 w8 o8 g8 _;rw [List.nil_append] at o8;have d8:=((((Bq w7 w7).drew).alloc Bn _)).grown g8 Bn (fun g hg=>by simp [Value.ownBlock] at hg<;>omega);have sW:w7.heap.size<=w8.heap.size:=d8.size;skip;replace D:=D.upto d8 Bk;obtain ⟨X0,X1,X2,X3,X4⟩:=D.cells)
        | (refine Df ((w7.drew.alloc (.cells #[] 65)).alloc (.cells #[.int .i64 f.run,.int .i64 f.task,.int .i64 f.try_,.string f.text] 65)) Ch Bo rfl (.tmp 69) (.tmp 72) rfl Tryz.underlying59 aL aR aS aP rfl (v:=.slice (Ac ⟨w7,0,Ab⟩) 0 0) (l:=[]) (by simp [Act.eval]) (((Ow.empty Ch 65 w7.drew rfl).more (base':=w7.heap.size) (Br _)).below ((Bq _ _).alloc (Br _) _)) (A:=(Ac ⟨b,o,Ab⟩)) (m:=k) (c:=_) (ys:=l.take k) (by simp [Act.eval]) (a0.out _ ((((Bq w7 w7).drew).alloc Bn _).alloc Bn _)) Bm (by have:=lt1.out;omega) Bo Bn ?_;intro v8 w8 o8 g8 _;rw [List.nil_append] at o8;have d8:=(((((Bq w7 w7).drew).alloc Bn _).alloc Bn _)).grown g8 Bn (fun g hg=>by simp [Value.ownBlock] at hg<;>omega);have sW:w7.heap.size<=w8.heap.size:=d8.size;have rx8:=Bp (Rd.of_row Ch (Jy g8 aN.out (by simp [Value.ownBlock])) (B:=w8.heap.size+1) (by have:=g8.size;simp at this;omega));replace D:=D.upto d8 Bk;obtain ⟨X0,X1,X2,X3,X4⟩:=D.cells)
        | (refine Df ((w7.drew.alloc (.cells #[.int .i64 f.run,.int .i64 f.task,.int .i64 f.try_,.string f.text] 65)).alloc (.cells #[] 65)) Ch Bo rfl (.tmp 69) (.tmp 72) rfl Tryz.underlying59 aL aR aS aP rfl (v:=.slice (Ac ⟨w7.heap.size+1,0,Ab⟩) 0 0) (l:=[]) (by simp [Act.eval]) ((Ow.empty Ch 65 (w7.drew.alloc (.cells #[.int .i64 f.run,.int .i64 f.task,.int .i64 f.try_,.string f.text] 65)) (g:=w7.heap.size+1) Bm).more (base':=w7.heap.size) Bk) (A:=(Ac ⟨b,o,Ab⟩)) (m:=k) (c:=_) (ys:=l.take k) (by simp [Act.eval]) (a0.out _ ((((Bq w7 w7).drew).alloc Bn _).alloc Bn _)) Bm (by have:=lt1.out;omega) Bo Bn ?_;intro v8 w8 o8 g8 _;rw [List.nil_append] at o8;have d8:=(((((Bq w7 w7).drew).alloc Bn _).alloc Bn _)).grown g8 Bn (fun g hg=>by simp [Value.ownBlock] at hg<;>omega);have sW:w7.heap.size<=w8.heap.size:=d8.size;have rx8:=Bp (Rd.of_row Ch (Jy g8 qA.out (by simp [Value.ownBlock])) (B:=w8.heap.size+1) (by have:=g8.size;simp at this;omega));replace D:=D.upto d8 Bk;obtain ⟨X0,X1,X2,X3,X4⟩:=D.cells)
        | (refine Df (w8.alloc (.cells #[.int .i64 f.run,.int .i64 f.task,.int .i64 f.try_,.string f.text] 65)) Ch Bo rfl (.tmp 73) (.tmp 75) rfl Tryz.underlying59 aL aR aS aP rfl (v:=v8) (l:=l.take k) (by simp [Act.eval]) (o8.below ((Bq _ _).alloc (Br _) _)) (A:=Ac ⟨w8,0,Ab⟩) (m:=1) (c:=1) (ys:=[f]) (by simp [Act.eval]) (Rd.one Ch w8 _ f rfl rfl 1 (Br _) (B:=w8.heap.size+1) Bk) (by have:=lt1.out;omega) Bm Bo (by first | omega | (simp;omega)) ?_;intro v9 w9 o9 g9 _;have d9:=(d8.alloc d8.size _).grown g9 (by first | omega | (simp;omega)) (fun g hg=>(o8.within g hg).1))
        | (refine Df w8 Ch Bo rfl (.tmp 73) (.tmp 75) rfl Tryz.underlying59 aL aR aS aP rfl (v:=v8) (l:=l.take k) (by simp [Act.eval]) o8 (A:=Ac ⟨w7.heap.size+1,0,Ab⟩) (m:=1) (c:=1) (ys:=[f]) (by simp [Act.eval]) rx8.out (by have:=lt1.out;omega) Bm Bo (by first | omega | (simp;omega)) ?_;intro v9 w9 o9 g9 _;have d9:=(d8).grown g9 (by first | omega | (simp;omega)) (fun g hg=>(o8.within g hg).1))
        | (refine Df w8 Ch Bo rfl (.tmp 73) (.tmp 75) rfl Tryz.underlying59 aL aR aS aP rfl (v:=v8) (l:=l.take k) (by simp [Act.eval]) o8 (A:=Ac ⟨w7,0,Ab⟩) (m:=1) (c:=1) (ys:=[f]) (by simp [Act.eval]) rx8.out (by have:=lt1.out;omega) Bm Bo (by first | omega | (simp;omega)) ?_;intro v9 w9 o9 g9 _;have d9:=(d8).grown g9 (by first | omega | (simp;omega)) (fun g hg=>(o8.within g hg).1)))
      all_goals
       clear x0 x1 x2 x3 x4 X0 X1 X2 X3 X4 a0 aN qA g8 g9;have lt2:=Bp (show (l.take k ++ [f]).length<=100 by simp;omega);have lt3:=Bp (show (l.drop k).length<=100 by simp;omega);rcases Nat.lt_or_ge k c with hkc2 | hkc2
       ·have mX:¬ c=k:=Bk;go_wp2_with (at_builtin;refine Bz w9 Ch Bo rfl (.tmp 77) (.tmp 80) rfl Tryz.underlying59 aL aR aS aP rfl (v:=v9) (l:=l.take k ++ [f]) rfl o9 (A:=(Ac ⟨b,o+k * 4,Ab⟩)) (m:=l.length - k) (c:=c - k) (ys:=l.drop k) rfl (a1.out _ d9) (by have:=lt2.out;omega) (by have:=lt3.out;omega) Bo (by have:=d9.size;omega) ?_;intro v10 w10 o10 g10 _;have d10:=d9.grown g10 (by have:=d9.size;omega) (fun g hg=>(o9.within g hg).1))
        go_ret2;exact PutPost.of H (show Ow Ch 65 w10 w7.heap.size v10 (l.take (Jf l f) ++ f :: l.drop (Jf l f)) by rw [HP.out];simpa using o10) b7.size (b7.trans (d10.mono b7.size))
       ·obtain rfl:k=c:=Bk;have sA:l.length<=k:=(h0.out _ b7).cap;have a2:=Bp (show Rd Ch w9 w9.heap.size (.slice (Ac ⟨b,o,Ab⟩) 0 0) (l.drop k) by
         rw [List.drop_eq_nil_of_le sA];exact ⟨_,0,rfl,Br _,fun h=>absurd h Bm⟩)
        go_wp2_with (at_builtin;refine Bz w9 Ch Bo rfl (.tmp 77) (.tmp 80) rfl Tryz.underlying59 aL aR aS aP rfl (v:=v9) (l:=l.take k ++ [f]) rfl o9 (A:=(Ac ⟨b,o,Ab⟩)) (m:=0) (c:=0) (ys:=l.drop k) rfl a2.out (by have:=lt2.out;omega) (by have:=lt3.out;omega) Bo (by have:=d9.size;omega) ?_;intro v10 w10 o10 g10 _;have d10:=d9.grown g10 (by have:=d9.size;omega) (fun g hg=>(o9.within g hg).1))
        go_ret2;exact PutPost.of H (show Ow Ch 65 w10 w7.heap.size v10 (l.take (Jf l f) ++ f :: l.drop (Jf l f)) by rw [HP.out];simpa using o10) b7.size (b7.trans (d10.mono b7.size))
     ·have S:Hid (∀ j (h:j<l.length),j<k+1->fBe l[j] f=true):=by
       intro j h hj;by_cases e:j=k
       ·subst e;exact t
       ·exact cV.out j h Bk
      go_wp2;refine Bv Bl Bl ?_;repeat (go_big_quiet_step ((go_at_call 132;rename_i x;have h1:=Ld _ (.inr rfl) l[k] f x.1;exact Ea h1)))
      refine Ak ?_;rintro w7 ⟨⟨_,c7⟩,rfl⟩;clear x0 x1 x2 x3 x4;clear aJ;go_wp2;exact ⟨⟨k+1,Bk,by go_num,S,Bs C6.out c7⟩,by simp [intOf];omega⟩
    ·have HP:=Bp (Tv l f k hk cV.out (fun h=>absurd h aA));have eC:decide ((k:Int)<(l.length:Int))=false:=by simp;omega
     go_wp2;refine Bv Bl Bl ?_;repeat (go_big_quiet_step (fail))
     refine Ak ?_;rintro w7 ⟨⟨_,c7⟩,rfl⟩;clear aJ;replace o1:=o1.below c7;replace D:=D.below c7;have b7:=Bs b6 c7;clear b6 c7 x0 x1 x2 x3 x4;obtain ⟨x0,x1,x2,x3,x4⟩:=D.cells;have gB:k<=c:=Ah hk (h0.out _ b7).cap;have mD:(k:Int)<=(c:Int):=Bk;have a0:=Bp (show ∀ W,Below w7 w7 W->Rd Ch W W (.slice A k c) (l.take k) from fun W hW=>(h0.out _ (Bs b7 hW)).take hk c gB);have lt1:=Bp (show (l.take k).length<=100 by simp;omega);have aN:=Bp (show ((w7.drew.alloc (.cells #[] 65)).alloc (.cells #[.int .i64 f.run,.int .i64 f.task,.int .i64 f.try_,.string f.text] 65)).heap[w7.heap.size+1]? = Ac (.cells (Ch.cells f).toArray 65 (0,0)) by have:=heap_alloc_new (w7.drew.alloc (.cells #[] 65)) (.cells #[.int .i64 f.run,.int .i64 f.task,.int .i64 f.try_,.string f.text] 65);rw [show (w7.drew.alloc (.cells #[] 65)).heap.size=w7.heap.size+1 from by simp] at this;exact this);have qA:=Bp (show ((w7.drew.alloc (.cells #[.int .i64 f.run,.int .i64 f.task,.int .i64 f.try_,.string f.text] 65)).alloc (.cells #[] 65)).heap[w7.heap.size]? = Ac (.cells (Ch.cells f).toArray 65 (0,0)) from (Below.heap_alloc _ _ _ Bm).trans (heap_alloc_new w7.drew (.cells #[.int .i64 f.run,.int .i64 f.task,.int .i64 f.try_,.string f.text] 65)));have a1:=Bp (show ∀ W,Below w7 w7 W->Rd Ch W W (.slice (A.map fun x=>x.add (k * 4)) (l.length - k) (c - k)) (l.drop k) from fun W hW=>by have:=(h0.out _ (Bs b7 hW)).drop k hk;simpa [Ch,Addr.add_lit] using this);go_wp2;go_region_law (first
       | (refine Df (w7.drew.alloc (.cells #[] 65)) Ch Bo rfl (.tmp 69) (.tmp 72) rfl Tryz.underlying59 aL aR aS aP rfl (v:=.slice (Ac ⟨w7,0,Ab⟩) 0 0) (l:=[]) (by simp [Act.eval]) ((Ow.empty Ch 65 w7.drew rfl).more (base':=w7.heap.size) (Br _)) (A:=A) (m:=k) (c:=_) (ys:=l.take k) (by simp [Act.eval]) (a0.out _ (((Bq w7 w7).drew).alloc Bn _)) Bm (by have:=lt1.out;omega) Bo Bn ?_;intro v8 w8 o8 g8 _;rw [List.nil_append] at o8;have d8:=((((Bq w7 w7).drew).alloc Bn _)).grown g8 Bn (fun g hg=>by simp [Value.ownBlock] at hg<;>omega);have sW:w7.heap.size<=w8.heap.size:=d8.size;skip;replace D:=D.upto d8 Bk;obtain ⟨X0,X1,X2,X3,X4⟩:=D.cells)
       | (refine Df ((w7.drew.alloc (.cells #[] 65)).alloc (.cells #[.int .i64 f.run,.int .i64 f.task,.int .i64 f.try_,.string f.text] 65)) Ch Bo rfl (.tmp 69) (.tmp 72) rfl Tryz.underlying59 aL aR aS aP rfl (v:=.slice (Ac ⟨w7,0,Ab⟩) 0 0) (l:=[]) (by simp [Act.eval]) (((Ow.empty Ch 65 w7.drew rfl).more (base':=w7.heap.size) (Br _)).below ((Bq _ _).alloc (Br _) _)) (A:=A) (m:=k) (c:=_) (ys:=l.take k) (by simp [Act.eval]) (a0.out _ ((((Bq w7 w7).drew).alloc Bn _).alloc Bn _)) Bm (by have:=lt1.out;omega) Bo Bn ?_;intro v8 w8 o8 g8 _;rw [List.nil_append] at o8;have d8:=(((((Bq w7 w7).drew).alloc Bn _).alloc Bn _)).grown g8 Bn (fun g hg=>by simp [Value.ownBlock] at hg<;>omega);have sW:w7.heap.size<=w8.heap.size:=d8.size;have rx8:=Bp (Rd.of_row Ch (Jy g8 aN.out (by simp [Value.ownBlock])) (B:=w8.heap.size+1) (by have:=g8.size;simp at this;omega));replace D:=D.upto d8 Bk;obtain ⟨X0,X1,X2,X3,X4⟩:=D.cells)
       | (refine Df ((w7.drew.alloc (.cells #[.int .i64 f.run,.int .i64 f.task,.int .i64 f.try_,.string f.text] 65)).alloc (.cells #[] 65)) Ch Bo rfl (.tmp 69) (.tmp 72) rfl Tryz.underlying59 aL aR aS aP rfl (v:=.slice (Ac ⟨w7.heap.size+1,0,Ab⟩) 0 0) (l:=[]) (by simp [Act.eval]) ((Ow.empty Ch 65 (w7.drew.alloc (.cells #[.int .i64 f.run,.int .i64 f.task,.int .i64 f.try_,.string f.text] 65)) (g:=w7.heap.size+1) Bm).more (base':=w7.heap.size) Bk) (A:=A) (m:=k) (c:=_) (ys:=l.take k) (by simp [Act.eval]) (a0.out _ ((((Bq w7 w7).drew).alloc Bn _).alloc Bn _)) Bm (by have:=lt1.out;omega) Bo Bn ?_;intro v8 w8 o8 g8 _;rw [List.nil_append] at o8;have d8:=(((((Bq w7 w7).drew).alloc Bn _).alloc Bn _)).grown g8 Bn (fun g hg=>by simp [Value.ownBlock] at hg<;>omega);have sW:w7.heap.size<=w8.heap.size:=d8.size;have rx8:=Bp (Rd.of_row Ch (Jy g8 qA.out (by simp [Value.ownBlock])) (B:=w8.heap.size+1) (by have:=g8.size;simp at this;omega));replace D:=D.upto d8 Bk;obtain ⟨X0,X1,X2,X3,X4⟩:=D.cells)
       | (refine Df (w8.alloc (.cells #[.int .i64 f.run,.int .i64 f.task,.int .i64 f.try_,.string f.text] 65)) Ch Bo rfl (.tmp 73) (.tmp 75) rfl Tryz.underlying59 aL aR aS aP rfl (v:=v8) (l:=l.take k) (by simp [Act.eval]) (o8.below ((Bq _ _).alloc (Br _) _)) (A:=Ac ⟨w8,0,Ab⟩) (m:=1) (c:=1) (ys:=[f]) (by simp [Act.eval]) (Rd.one Ch w8 _ f rfl rfl 1 (Br _) (B:=w8.heap.size+1) Bk) (by have:=lt1.out;omega) Bm Bo (by first | omega | (simp;omega)) ?_;intro v9 w9 o9 g9 _;have d9:=(d8.alloc d8.size _).grown g9 (by first | omega | (simp;omega)) (fun g hg=>(o8.within g hg).1))
       | (refine Df w8 Ch Bo rfl (.tmp 73) (.tmp 75) rfl Tryz.underlying59 aL aR aS aP rfl (v:=v8) (l:=l.take k) (by simp [Act.eval]) o8 (A:=Ac ⟨w7.heap.size+1,0,Ab⟩) (m:=1) (c:=1) (ys:=[f]) (by simp [Act.eval]) rx8.out (by have:=lt1.out;omega) Bm Bo (by first | omega | (simp;omega)) ?_;intro v9 w9 o9 g9 _;have d9:=(d8).grown g9 (by first | omega | (simp;omega)) (fun g hg=>(o8.within g hg).1))
       | (refine Df w8 Ch Bo rfl (.tmp 73) (.tmp 75) rfl Tryz.underlying59 aL aR aS aP rfl (v:=v8) (l:=l.take k) (by simp [Act.eval]) o8 (A:=Ac ⟨w7,0,Ab⟩) (m:=1) (c:=1) (ys:=[f]) (by simp [Act.eval]) rx8.out (by have:=lt1.out;omega) Bm Bo (by first | omega | (simp;omega)) ?_;intro v9 w9 o9 g9 _;have d9:=(d8).grown g9 (by first | omega | (simp;omega)) (fun g hg=>(o8.within g hg).1)))
     all_goals
      clear x0 x1 x2 x3 x4 X0 X1 X2 X3 X4 a0 aN qA g8 g9;have lt2:=Bp (show (l.take k ++ [f]).length<=100 by simp;omega);have lt3:=Bp (show (l.drop k).length<=100 by simp;omega);rcases Nat.lt_or_ge k c with hkc2 | hkc2
      ·have mX:¬ c=k:=Bk;go_wp2_with (at_builtin;refine Bz w9 Ch Bo rfl (.tmp 77) (.tmp 80) rfl Tryz.underlying59 aL aR aS aP rfl (v:=v9) (l:=l.take k ++ [f]) rfl o9 (A:=(A.map fun x=>x.add (k * 4))) (m:=l.length - k) (c:=c - k) (ys:=l.drop k) rfl (a1.out _ d9) (by have:=lt2.out;omega) (by have:=lt3.out;omega) Bo (by have:=d9.size;omega) ?_;intro v10 w10 o10 g10 _;have d10:=d9.grown g10 (by have:=d9.size;omega) (fun g hg=>(o9.within g hg).1))
       go_ret2;exact PutPost.of H (show Ow Ch 65 w10 w7.heap.size v10 (l.take (Jf l f) ++ f :: l.drop (Jf l f)) by rw [HP.out];simpa using o10) b7.size (b7.trans (d10.mono b7.size))
      ·obtain rfl:k=c:=Bk;have sA:l.length<=k:=(h0.out _ b7).cap;have a2:=Bp (show Rd Ch w9 w9.heap.size (.slice A 0 0) (l.drop k) by
        rw [List.drop_eq_nil_of_le sA];exact ⟨_,0,rfl,Br _,fun h=>absurd h Bm⟩)
       go_wp2_with (at_builtin;refine Bz w9 Ch Bo rfl (.tmp 77) (.tmp 80) rfl Tryz.underlying59 aL aR aS aP rfl (v:=v9) (l:=l.take k ++ [f]) rfl o9 (A:=A) (m:=0) (c:=0) (ys:=l.drop k) rfl a2.out (by have:=lt2.out;omega) (by have:=lt3.out;omega) Bo (by have:=d9.size;omega) ?_;intro v10 w10 o10 g10 _;have d10:=d9.grown g10 (by have:=d9.size;omega) (fun g hg=>(o9.within g hg).1))
       go_ret2;exact PutPost.of H (show Ow Ch 65 w10 w7.heap.size v10 (l.take (Jf l f) ++ f :: l.drop (Jf l f)) by rw [HP.out];simpa using o10) b7.size (b7.trans (d10.mono b7.size))
 ·obtain ⟨b,o,rfl,aG,y0,y1,y2,y3⟩:=(h0.out _ b4).fence hk;have eC:(k:Int)<(l.length:Int):=Bk;have cS:(0:Int)<=(k:Int):=Bk;have hg:decide ((0:Int)<=(k:Int))=true:=Bm;have bW:l.getD k f=l[k]:=by simp [List.getD,hk]
  obtain ⟨x0,x1,x2,x3,x4⟩:=D.cells;by_cases ht:f.try_<l[k].try_
  ·have H:=Bp (show Da l f=(l,11) by unfold Da;rw [if_neg HF.out,if_neg HO.out,KI.out];simp only [bW];rw [if_pos ht]);clear bW;go_wp2;go_quiet (fail);go_wp2;go_ret2;exact PutPost.of H (o1.below (Cj (Bq _ _) _)) Bk (Cj b4 _)
  ·have H:=Bp (show Da l f=(l.set k f,0) by unfold Da;rw [if_neg HF.out,if_neg HO.out,KI.out];simp only [bW];rw [if_neg ht]);clear bW;go_wp2;go_quiet (fail);obtain ⟨w5,eG⟩:∃ w5,w5=w4.drewN nq:=⟨_,rfl⟩
   rw [<-eG];have b5:Below w w w5:=by rw [eG];exact Cj b4 _
   replace o1:Ow Ch 65 w5 (w.heap.size+1) (.slice A1 l.length c1) l:=by rw [eG];exact o1.below (Cj (Bq _ _) _)
   replace D:FBox w f w5:=by rw [eG];exact D.below (Cj (Bq _ _) _)
   clear eG b4;clear x0 x1 x2 x3 x4;obtain ⟨x0,x1,x2,x3,x4⟩:=D.cells;obtain ⟨g,rfl,pJ,gS⟩:=o1.some_ Bk;have hf:=o1.free;have hp:=Bp (Ow.put o1 rfl k hk f);obtain ⟨z0,z1,z2,z3⟩:=o1.fence hk;go_wp2;go_ret2;exact PutPost.of H hp.out.1 Bk (b5.grown hp.out.2 Bk (fun g' hg'=>by simp at hg';omega))
end Go.Proofs.YtonlnjdempbfoaaGreat
