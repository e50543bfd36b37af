/-
  copy between slices whose elements take several cells; a row that is known whole; slices.Insert's steps. Data of the type Entry: how it lies in memory, and the 
-/
import Derived.Test.YtonlnjdempbfoabGreatZFd1
import Derived.Laws.CopyRow
import Derived.Laws.CopyOwn
import Derived.Lib.AppendZerosOnto
import Derived.Lib.Overlaps
import Derived.Lib.SliceRun
import Derived.Lib.Hide
namespace Go.Proofs.YtonlnjdempbfoabGreat
open Go.RowKit
set_option maxRecDepth 100000
set_option maxHeartbeats 4000000
set_option linter.unusedVariables false
set_option linter.unusedSimpArgs false
open Value renaming int->J,slice->Aa
open IntKind renaming i64->U
open Option renaming none->Ab,some->Ac
open Below renaming setCell->Ad,alloc->Ae
open Nat renaming zero_le->Ag,le_trans->Ah,lt_of_lt_of_le->Ai
open Go renaming bodyPost_ret->Aj
open Go.Proofs.Tryz renaming prog->Am
open List renaming getElem_mem->Aw,length_take->Az,length_append->Bd,take_of_length_le->Bg
open Go.Proofs.Tryz
section
variable {P:Program}
theorem Aaa (w:World) (dT sT ty elem:TypeId) (g o dLen dCap:Nat) (a:Addr) (sLen sCap k:Nat) (cur:Array Value) (t:TypeId) (cs:List Value)
  (hu:P.underlying dT=Ac (.slice elem)) (hs:(P.info? elem).map (·.size)=Ac k)
  (hg:w.heap[g]? = Ac (.cells cur t (0,0))) (hn:cs.length=Nat.min sLen dLen * k)
  (hsrc:∀ j v,cs[j]? = Ac v->w.cell? (a.add j)=Ac v) (hfit:o+cs.length<=cur.size) (h1:∀ v∈cs,v.oneCell'=true) :
  (Builtin.copy_ #[dT,sT] ty #[Aa (Ac ⟨g,o,Ab⟩) dLen dCap,Aa (Ac a) sLen sCap]).run P w =
   .ok (goInt (Nat.min sLen dLen)) (w.setRow g (cur.toList.take o ++ cs ++ cur.toList.drop (o+cs.length)).toArray):=by
 have hl:=run_loadCells_list (P:=P) w a cs hsrc;have eB:=run_storeCells_at P g o t cs 0 cur w hg (by simpa using hfit) h1;cases hq:P.info? elem with
 | none=>simp [hq] at hs
 | some i =>
  have hi:i.size=k:=by simpa [hq] using hs
  rw [hn] at hl;simp [Builtin.copy_,run_underlying hu,Builtin.lenOf,Builtin.firstCells,sizeOf,typeInfo,hq,hi,hl,eB]
theorem Yh (w:World) (g:Nat) (cs:Array Value):w.grownBy (w.setRow g cs) (Ac g) :=
 ⟨rfl,rfl,rfl,by simp [World.setRow],fun k _ aC=>setRow_other w g k cs (fun e=>aC (by rw [e]))⟩
theorem Ub (w:World) {o:Oper} {a:Act} {K:Act->World->Prop} {Q:Exit->Act->World->Prop} (d s:Operand) (dT sT:TypeId)
  (ho:o.op = .call { callee:=.builtin .copy,args:=#[d,s],argTypes:=#[dT,sT] }) (elem:TypeId) (k:Nat) (hu:P.underlying dT=Ac (.slice elem)) (bM:(P.info? elem).map (·.size)=Ac k)
  (g off dLen dCap:Nat) (ad:Addr) (sLen sCap:Nat) (hd:a.eval d = .slice (Ac ⟨g,off,Ab⟩) dLen dCap) (hs:a.eval s = .slice (Ac ad) sLen sCap)
  (cur:List Value) (t:TypeId) (hg:w.heap[g]? = Ac (.cells cur.toArray t (0,0))) (cs:List Value) (hn:cs.length=Nat.min sLen dLen * k)
  (hsrc:∀ j v,cs[j]? = Ac v->w.cell? (ad.add j)=Ac v) (hfit:off+cs.length<=cur.length) (h1:∀ v∈cs,v.oneCell'=true)
  (h:∀ w',Hid (w'.heap[g]? = Ac (.cells (splice cur off cs).toArray t (0,0)))->w.grownBy w' (Ac g)->K (a.put o.dst (goInt (Nat.min sLen dLen))) w'):o.wp P a w K Q:=by
 have eU:=Aaa (P:=P) w dT sT o.type elem g off dLen dCap ad sLen sCap k cur.toArray t cs hu bM hg hn hsrc (by simpa using hfit) h1;have h2:Hid ((w.setRow g (cur.toArray.toList.take off ++ cs ++ cur.toArray.toList.drop (off+cs.length)).toArray).heap[g]? = Ac (.cells (splice cur off cs).toArray t (0,0))):=show _=_ by simpa [splice] using setRow_heap w g _ _ t _ hg
 have h3:=h _ h2 (Yh w g _);unfold Oper.wp execOp;simp only [ho,resolve,invoke,builtin,Sem.run_bind,Sem.run_pure,Result.andThen_ok,List.map_toArray,List.map_cons,List.map_nil,hd,hs,eU];exact h3
theorem N7 (w:World) {ops:Array Oper} {rest:List Oper} {o:Oper} {a:Act} {Q:Exit->Act->World->Prop} (dJ:o.guard=Ab) (d s:Operand) (dT sT:TypeId)
  (ho:o.op = .call { callee:=.builtin .copy,args:=#[d,s],argTypes:=#[dT,sT] }) (elem:TypeId) (k:Nat) (hu:P.underlying dT=Ac (.slice elem)) (bM:(P.info? elem).map (·.size)=Ac k)
  (g off dLen dCap:Nat) (ad:Addr) (sLen sCap:Nat) (hd:a.eval d = .slice (Ac ⟨g,off,Ab⟩) dLen dCap) (hs:a.eval s = .slice (Ac ad) sLen sCap)
  (cur:List Value) (t:TypeId) (hg:w.heap[g]? = Ac (.cells cur.toArray t (0,0))) (cs:List Value) (hn:cs.length=Nat.min sLen dLen * k)
  (hsrc:∀ j v,cs[j]? = Ac v->w.cell? (ad.add j)=Ac v) (hfit:off+cs.length<=cur.length) (h1:∀ v∈cs,v.oneCell'=true)
  (h:∀ w',Hid (w'.heap[g]? = Ac (.cells (splice cur off cs).toArray t (0,0)))->w.grownBy w' (Ac g)->wpList P ops Q rest (a.put o.dst (goInt (Nat.min sLen dLen))) w'):wpList P ops Q (o :: rest) a w :=
 wpList_plain dJ fun _ hK=>Ub w d s dT sT ho elem k hu bM g off dLen dCap ad sLen sCap hd hs cur t hg cs hn hsrc hfit h1 fun w' h2 h3=>hK _ _ (h w' h2 h3)
theorem Qm (w:World) {ops:Array Oper} {o:Oper} {a:Act} {K:Act->World->Prop} {Q:Exit->Act->World->Prop} {EE:Prop} (dJ:o.guard=Ab) (d s:Operand) (dT sT:TypeId)
  (ho:o.op = .call { callee:=.builtin .copy,args:=#[d,s],argTypes:=#[dT,sT] }) (elem:TypeId) (k:Nat) (hu:P.underlying dT=Ac (.slice elem)) (bM:(P.info? elem).map (·.size)=Ac k)
  (g off dLen dCap:Nat) (ad:Addr) (sLen sCap:Nat) (hd:a.eval d = .slice (Ac ⟨g,off,Ab⟩) dLen dCap) (hs:a.eval s = .slice (Ac ad) sLen sCap)
  (cur:List Value) (t:TypeId) (hg:w.heap[g]? = Ac (.cells cur.toArray t (0,0))) (cs:List Value) (hn:cs.length=Nat.min sLen dLen * k)
  (hsrc:∀ j v,cs[j]? = Ac v->w.cell? (ad.add j)=Ac v) (hfit:off+cs.length<=cur.length) (h1:∀ v∈cs,v.oneCell'=true)
  (h:∀ w',Hid (w'.heap[g]? = Ac (.cells (splice cur off cs).toArray t (0,0)))->w.grownBy w' (Ac g)->K (a.put o.dst (goInt (Nat.min sLen dLen))) w') :
  if Region.wanted o (yielded ops a.tmps)=true then Oper.wp P o a w K Q else EE:=by
 have hw:Region.wanted o (yielded ops a.tmps)=true:=by simp [Region.wanted,dJ]
 rw [if_pos hw];exact Ub w d s dT sT ho elem k hu bM g off dLen dCap ad sLen sCap hd hs cur t hg cs hn hsrc hfit h1 h
end
section
variable {α:Type} {e:Enc α} {E:TypeId} {w:World} {base g n cap:Nat} {l:List α}
theorem Ow.row (h:Ow e E w base (Aa (Ac ⟨g,0,Ab⟩) n cap) l) :
  l.length=n/\base<=g/\n<=cap/\cap<=maxLen /\ ∃ cur:List Value,w.heap[g]? = Ac (.cells cur.toArray E (0,0))/\cur.length=cap * e.sz/\cur.take (n * e.sz)=l.flatMap e.cells:=by
 rcases h.2 with ⟨h1,_⟩ | ⟨g',cap',cur,hv,hg,hh,hc,hm,hs,ht⟩
 ·simp at h1
 ·simp only [Value.slice.injEq,Option.some.injEq,Addr.mk.injEq,and_true] at hv;obtain ⟨rfl,rfl,rfl⟩:=hv;exact ⟨rfl,hg,hc,hm,cur.toList,by simpa using hh,by simpa using hs,ht⟩
theorem Ow.of_row {cur:List Value} (hg:w.heap[g]? = Ac (.cells cur.toArray E (0,0))) (hc:cur.length=cap * e.sz) (ht:cur.take (l.length * e.sz)=l.flatMap e.cells) (hb:base<=g) (hn:l.length<=cap) (hm:cap<=maxLen) :
  Ow e E w base (Aa (Ac ⟨g,0,Ab⟩) l.length cap) l :=
 ⟨e.flat_length l,.inr ⟨g,cap,cur.toArray,rfl,hb,hg,hn,hm,by simpa using hc,by simpa using ht⟩⟩
end
theorem Acj {α:Type} (R X Y:List α) (a:Nat) (h:a+X.length+Y.length<=R.length):(splice (splice R a X) (a+X.length) Y).take (a+X.length+Y.length)=R.take a ++ X ++ Y:=by
 have h0:(R.take a).length=a:=by rw [Az];omega
 have h1:(splice R a X).take (a+X.length)=R.take a ++ X:=by
  unfold splice;rw [<-List.append_assoc,List.take_left' (by rw [Bd,h0])]
 unfold splice at h1 ⊢;rw [h1,<-List.append_assoc,List.take_left' (by rw [Bd,Bd,h0])]
theorem Aab {α:Type} (C X Y:List α) (a:Nat) (h:a+X.length+Y.length<=C.length):(splice (splice C (a+X.length) Y) a X).take (a+X.length+Y.length)=C.take a ++ X ++ Y:=by
 have h0:(C.take a).length=a:=by rw [Az];omega
 have h1:(splice C (a+X.length) Y).take a=C.take a:=by
  unfold splice;rw [List.take_append_of_le_length (by rw [Az];omega),List.take_take];congr 1;omega
 have h2:(splice C (a+X.length) Y).drop (a+X.length)=Y ++ C.drop (a+X.length+Y.length):=by
  unfold splice;rw [List.drop_left' (by rw [Az];omega)]
 show ((splice C (a+X.length) Y).take a ++ (X ++ (splice C (a+X.length) Y).drop (a+X.length))).take _=_;rw [h1,h2,<-List.append_assoc,<-List.append_assoc,List.take_left' (by rw [Bd,Bd,h0])]
theorem N8 {α:Type} (e:Enc α) (l:List α) (i:Nat) (hi:i<=l.length) (x:α) :
  (l.take i ++ x :: l.drop i).flatMap e.cells=(l.flatMap e.cells).take (i * e.sz) ++ e.cells x ++ (l.flatMap e.cells).drop (i * e.sz):=by
 have hl:l.flatMap e.cells=(l.take i).flatMap e.cells ++ (l.drop i).flatMap e.cells:=by rw [<-List.flatMap_append,List.take_append_drop]
 have h0:((l.take i).flatMap e.cells).length=i * e.sz:=by rw [e.flat_length,Az,Nat.min_eq_left hi]
 rw [List.flatMap_append,List.flatMap_cons,hl,List.take_left' h0,List.drop_left' h0,List.append_assoc]
section
variable {P:Program}
theorem O7 (w:World) {ops:Array Oper} {rest:List Oper} {o:Oper} {a:Act} {Q:Exit->Act->World->Prop} (dJ:o.guard=Ab) (s x:Operand) (t tn:TypeId)
  (ho:o.op = .call { callee:=.builtin .append,args:=#[s,x],argTypes:=#[t,tn] }) (E:TypeId) (i:TypeInfo) (z:Value) (sz bytes:Nat) (kn kq:IntKind)
  (ht:P.underlying t=Ac (.slice E)) (htn:P.underlying tn=Ac (.int kn)) (hi:P.info? E=Ac i) (hz:i.zero=Ac z) (cH:i.size=sz) (cF:i.bytes=bytes) (hzs:z.cells.size=sz) (bM:0<sz)
  (ad:Addr) (n cap:Nat) (olds:List Value) (hs:a.eval s = .slice (Ac ad) n cap) (k:Nat) (m:Int) (hm:m=k) (hx:a.eval x = .int kq m)
  (nK:olds.length=n * sz) (hold:∀ j u,olds[j]? = Ac u->w.cell? (ad.add j)=Ac u) (h0:0<k) (hg:cap<n+k) (h1:n+k<=3000000) (hb:bytes<=10000) (N:Nat) (hN:N=n+k)
  (h:∀ (w':World) (c:Nat) (R:List Value),Hid (w'.heap[w.heap.size]? = Ac (.cells R.toArray E (0,0)))->Hid (R.length=c * sz)->Hid (R.take (n * sz)=olds)->N<=c->c<=9223372036854775807->w.grownBy w' Ab->w.heap.size<w'.heap.size ->
   wpList P ops Q rest (a.put o.dst (.slice (Ac ⟨w,0,Ab⟩) N c)) w'):wpList P ops Q (o :: rest) a w:=by
 subst hm;subst hN;have aK:(n+k) * bytes<=3000000 * 10000:=Nat.mul_le_mul h1 hb;have hkb:k * bytes<=(n+k) * bytes:=Nat.mul_le_mul_right _ Bl;have eU:=Lib.run_append_grow_zeros (P:=P) w t tn o.type E i z kq kn ht htn hi hz (Ac ad) n cap olds
  (run_firstCells_some w.drew i.size n ad n cap olds (by rw [cH];exact nK) (fun j u hu=>hold j u hu)) k h0 Bl hg Bl (by rw [cF];omega) (by rw [cF];exact growslice_fits hg Bl)
 have uQ:=grownCap_ge w (n+k) cap E;have qI:grownCap w (n+k) cap E<=maxLen:=grownCap_le_maxLen w (n+k) cap E (by simp [maxLen];omega);simp only [maxLen] at qI;have h2:=h (w.drew.alloc (.cells (olds.toArray ++ Builtin.zeroCells z.cells k ++ Builtin.zeroCells z.cells (grownCap w (n+k) cap E - (n+k))) E)) (grownCap w (n+k) cap E) (olds ++ (Builtin.zeroCells z.cells k).toList ++ (Builtin.zeroCells z.cells (grownCap w (n+k) cap E - (n+k))).toList)
  (by
   unfold Hid
   have:=heap_alloc_new w.drew (.cells (olds.toArray ++ Builtin.zeroCells z.cells k ++ Builtin.zeroCells z.cells (grownCap w (n+k) cap E - (n+k))) E)
   have e:(olds ++ (Builtin.zeroCells z.cells k).toList ++ (Builtin.zeroCells z.cells (grownCap w (n+k) cap E - (n+k))).toList).toArray=olds.toArray ++ Builtin.zeroCells z.cells k ++ Builtin.zeroCells z.cells (grownCap w (n+k) cap E - (n+k)):=Bn;rw [e];exact this)
  (by
   unfold Hid;simp only [Bd,Array.length_toList,size_zeroCells,nK,hzs];rw [<-Nat.add_mul,<-Nat.add_mul];congr 1;omega)
  (by unfold Hid;rw [List.append_assoc,<-nK,List.take_left]) uQ qI
  ⟨rfl,rfl,rfl,Bn,fun _ bF _=>Below.heap_alloc w.drew _ _ bF⟩ Bn
 refine wpList_plain dJ fun _ hK=>?_;unfold Oper.wp execOp;simp only [ho,resolve,invoke,builtin,Sem.run_bind,Sem.run_pure,Result.andThen_ok,List.map_toArray,List.map_cons,List.map_nil,hs,hx,eU];exact hK _ _ h2
end
theorem Ack {w w':World} (h:w.grownBy w' Ab) (row:Option Nat):w.grownBy w' row:=⟨h.os,h.tape,h.output,h.size,fun k hk _=>h.block k hk Bn⟩
theorem W9 {w w1 w2:World} {row:Option Nat} {G:Nat} (h:w.grownBy w1 row) (h2:w1.grownBy w2 (Ac G)) (hG:w<=G):w.grownBy w2 row :=
 ⟨h2.os.trans h.os,h2.tape.trans h.tape,h2.output.trans h.output,Ah h.size h2.size,fun k hk aC=>(h2.block k (Ai hk h.size) (fun e=>by injection e with e;omega)).trans (h.block k hk aC)⟩
theorem Uc {w w':World} {row:Option Nat} (h:w.drew.grownBy w' row):w.grownBy w' row:=⟨h.os,h.tape,h.output,h.size,h.block⟩
theorem Aac {w w':World} {row:Option Nat} (hg:w.grownBy w' row) {g:Nat} {o:Obj} (h:w.heap[g]? = Ac o) (aC:Ac g≠row):w'.heap[g]? = Ac o :=
 (hg.block g (Array.getElem?_eq_some_iff.1 h).1 aC).trans h
theorem Mx {w:World} {g:Nat} {R:List Value} {E:TypeId} {o:Nat} (h:w.heap[g]? = Ac (.cells R.toArray E (0,0))) (xs:List Value) (hx:∀ j u,xs[j]? = Ac u->R[o+j]? = Ac u) :
  ∀ j u,xs[j]? = Ac u->w.cell? ((⟨g,o,Ab⟩:Addr).add j)=Ac u:=by
 intro j u hu;have e:((⟨g,o,Ab⟩:Addr).add j)=⟨g,o+j,Ab⟩:=by unfold Addr.add;split<;>simp_all
 rw [e,cell_of_row _ _ (o+j) _ _ (0,0) h];simpa using hx j u hu
theorem G7 {α:Type} (C X:List α) (a:Nat) (h:a+X.length<=C.length):(splice C a X).length=C.length:=by
 unfold splice;simp only [Bd,Az,List.length_drop];omega
section
variable {α:Type} (e:Enc α) (l:List α) (i:Nat) (hi:i<=l.length) (x:α)
include hi
theorem Ke:(l.take i ++ x :: l.drop i).length=l.length+1:=by simp;omega
omit hi in
theorem Sv:((l.flatMap e.cells).drop (i * e.sz)).length=(l.length - i) * e.sz:=by rw [List.length_drop,e.flat_length,Nat.sub_mul]
theorem Ud:i * e.sz+(e.cells x).length+((l.flatMap e.cells).drop (i * e.sz)).length=(l.length+1) * e.sz:=by
 rw [Sv e l i,e.len,<-Nat.succ_mul,<-Nat.add_mul];congr 1;omega
theorem Aad (C:List Value) (hC:C.take (l.length * e.sz)=l.flatMap e.cells) (hl:(l.length+1) * e.sz<=C.length) :
  (splice (splice C ((i+1) * e.sz) ((l.flatMap e.cells).drop (i * e.sz))) (i * e.sz) (e.cells x)).take ((l.length+1) * e.sz)=(l.take i ++ x :: l.drop i).flatMap e.cells /\
  (splice (splice C ((i+1) * e.sz) ((l.flatMap e.cells).drop (i * e.sz))) (i * e.sz) (e.cells x)).length=C.length:=by
 have hs:=Ud e l i hi x;have h1:(i+1) * e.sz=i * e.sz+(e.cells x).length:=by rw [e.len,Nat.succ_mul]
 have h2:C.take (i * e.sz)=(l.flatMap e.cells).take (i * e.sz):=by
  rw [<-hC,List.take_take];congr 1;exact (Nat.min_eq_left (Nat.mul_le_mul_right _ hi)).symm
 constructor
 ·rw [h1,<-hs,Aab _ _ _ _ Bl,N8 e l i hi x,h2]
 ·rw [G7,G7]
  ·rw [h1];omega
  ·rw [G7 _ _ _ (by rw [h1];omega)];omega
theorem Acl (R:List Value) (hR:R.take (i * e.sz)=(l.flatMap e.cells).take (i * e.sz)) (hl:(l.length+1) * e.sz<=R.length) :
  (splice (splice R (i * e.sz) (e.cells x)) ((i+1) * e.sz) ((l.flatMap e.cells).drop (i * e.sz))).take ((l.length+1) * e.sz)=(l.take i ++ x :: l.drop i).flatMap e.cells /\
  (splice (splice R (i * e.sz) (e.cells x)) ((i+1) * e.sz) ((l.flatMap e.cells).drop (i * e.sz))).length=R.length:=by
 have hs:=Ud e l i hi x;have h1:(i+1) * e.sz=i * e.sz+(e.cells x).length:=by rw [e.len,Nat.succ_mul]
 constructor
 ·rw [h1,<-hs,Acj _ _ _ _ Bl,N8 e l i hi x,hR]
 ·rw [G7,G7]
  ·omega
  ·rw [G7 _ _ _ Bl,h1];omega
end
structure Entry where
 prio:Int
 seq:Int
 run:Int
 task:Int
deriving DecidableEq,Inhabited
@[go_sem] abbrev Gs (x:Entry) (_s:Unit):Value:=.agg #[.int .i64 x.prio,.int .i64 x.seq,.int .i64 x.run,.int .i64 x.task]
abbrev Bx:Dt Entry:=Dt.flat (fun q=>[.int .i64 q.1.prio,.int .i64 q.1.seq,.int .i64 q.1.run,.int .i64 q.1.task]) 4 (fun _=>rfl) (fun q u hu=>by simp at hu;rcases hu with rfl | rfl | rfl | rfl<;>rfl)
def Dw (_:Entry):Nat:=0
def Qn (x:Entry):Prop:=Wf x.prio/\Wf x.seq/\Wf x.run/\Wf x.task
def Dc (_:Entry):Nat:=4
def J0 (k:Int) (_:Entry):Entry:=⟨k,k+1,k+1+1,k+1+1+1⟩
theorem K1 (x:Entry):Dc x<=13 * (Dw x+1):=by
 unfold Dc Dw;omega
theorem Aae (x:Entry) (s:Unit) (w:World) (hl:Dw x<=2000000) (h:Bx.rd w w x s) :
  Calls Am 273 #[Gs x s] w (Df Bx Gs x w):=by
 have aY:∀ W,Below w w W->Bx.rd W W x s:=fun W hW=>Bx.rd_more (Bx.rd_below h hW) hW.size;go_enter func273,ntmps273;go_wp2;refine Aj (v:=Gs x ()) ?_ rfl ?_
 ·simp [Gs,results,results273,go_sem]
 ·exact ⟨(),[],rfl,rfl,(fun _ h=>by cases h),by repeat (first | (with_reducible exact Br _ _) | refine Ad ?_ Bo _ | refine Ae ?_ Bo _)⟩
theorem Aaf (x y:Entry) (s r:Unit) (w:World) (hl:Dw x<=2000000) (hl':Dw y<=2000000) (h:Bx.rd w w x s) (h':Bx.rd w w y r) :
  Calls Am 275 #[Gs x s,Gs y r] w fun e w'=>e = .returned (.bool (decide (x=y)))/\Below w w w':=by
 have aY:∀ W,Below w w W->Bx.rd W W x s:=fun W hW=>Bx.rd_more (Bx.rd_below h hW) hW.size;have cF:∀ W,Below w w W->Bx.rd W W y r:=fun W hW=>Bx.rd_more (Bx.rd_below h' hW) hW.size;by_cases h0:x.prio=y.prio;case neg =>
  have t0:(x.prio != y.prio)=true:=by rw [bne_iff_ne];exact h0
  have H:=Bq (show decide (x=y)=false by simp only [decide_eq_false_iff_not];intro e;exact h0 (by rw [e]));clear h0;go_enter func275,ntmps275;go_wp2;go_ret;exact ⟨Bw (by first | exact H.out.symm | rfl),by repeat (first | exact Br _ _ | refine Ae ?_ Bo _)⟩
 have t0:(x.prio != y.prio)=false:=by simp [h0]
 have H0:=Bq h0;clear h0;by_cases h1:x.seq=y.seq;case neg =>
  have t1:(x.seq != y.seq)=true:=by rw [bne_iff_ne];exact h1
  have H:=Bq (show decide (x=y)=false by simp only [decide_eq_false_iff_not];intro e;exact h1 (by rw [e]));clear h1;go_enter func275,ntmps275;go_wp2;go_ret;exact ⟨Bw (by first | exact H.out.symm | rfl),by repeat (first | exact Br _ _ | refine Ae ?_ Bo _)⟩
 have t1:(x.seq != y.seq)=false:=by simp [h1]
 have H1:=Bq h1;clear h1;by_cases h2:x.run=y.run;case neg =>
  have t2:(x.run != y.run)=true:=by rw [bne_iff_ne];exact h2
  have H:=Bq (show decide (x=y)=false by simp only [decide_eq_false_iff_not];intro e;exact h2 (by rw [e]));clear h2;go_enter func275,ntmps275;go_wp2;go_ret;exact ⟨Bw (by first | exact H.out.symm | rfl),by repeat (first | exact Br _ _ | refine Ae ?_ Bo _)⟩
 have t2:(x.run != y.run)=false:=by simp [h2]
 have H2:=Bq h2;clear h2;by_cases h3:x.task=y.task;case neg =>
  have t3:(x.task != y.task)=true:=by rw [bne_iff_ne];exact h3
  have H:=Bq (show decide (x=y)=false by simp only [decide_eq_false_iff_not];intro e;exact h3 (by rw [e]));clear h3;go_enter func275,ntmps275;go_wp2;go_ret;exact ⟨Bw (by first | exact H.out.symm | rfl),by repeat (first | exact Br _ _ | refine Ae ?_ Bo _)⟩
 have t3:(x.task != y.task)=false:=by simp [h3]
 have H3:=Bq h3;clear h3;have H:=Bq (show decide (x=y)=true by
  simp only [decide_eq_true_eq];have hh:=And.intro H0.out (And.intro H1.out (And.intro H2.out H3.out));obtain ⟨e0,e1,e2,e3⟩:=hh;cases x;cases y;simp only at e0 e1 e2 e3;subst e0 e1 e2 e3;rfl)
 go_enter func275,ntmps275;go_wp2;go_ret;exact ⟨Bw (by first | exact H.out.symm | rfl),by repeat (first | exact Br _ _ | refine Ae ?_ Bo _)⟩
theorem RdL.entry {w:World} {B:Nat} {A:Option Addr} {n c:Nat} {l:List (Entry)} (h:RdL Bx w B (Aa A n c) l) {k:Nat} (hk:k<l.length) :
  ∃ b o,∃ _s:Unit,A=Ac ⟨b,o,Ab⟩/\b<B/\Bx.rd w B l[k] _s/\w.cell? ⟨b,o+k * 4,Ab⟩=Ac (J U l[k].prio)/\w.cell? ⟨b,o+k * 4+1,Ab⟩=Ac (J U l[k].seq)/\w.cell? ⟨b,o+k * 4+2,Ab⟩=Ac (J U l[k].run)/\w.cell? ⟨b,o+k * 4+3,Ab⟩=Ac (J U l[k].task):=by
 obtain ⟨b,o,s,rfl,hb,hc,hr⟩:=h.at_ k hk;exact ⟨b,o,s,rfl,hb,hr,hc 0 _ rfl,hc 1 _ rfl,hc 2 _ rfl,hc 3 _ rfl⟩
theorem Ow.c_entry {E:TypeId} {w:World} {base g n cap:Nat} {l:List ((Entry)×Unit)} (h:Ow Bx.enc E w base (Aa (Ac ⟨g,0,Ab⟩) n cap) l) {k:Nat} (hk:k<l.length) :
  w.cell? ⟨g,k * 4,Ab⟩=Ac (J U l[k].1.prio)/\w.cell? ⟨g,k * 4+1,Ab⟩=Ac (J U l[k].1.seq)/\w.cell? ⟨g,k * 4+2,Ab⟩=Ac (J U l[k].1.run)/\w.cell? ⟨g,k * 4+3,Ab⟩=Ac (J U l[k].1.task):=by
 rcases h.form with ⟨h1,_⟩ | ⟨g',cap',hv,_,_,_,_,_,hc⟩
 ·simp at h1
 ·simp only [Value.slice.injEq,Option.some.injEq,Addr.mk.injEq,and_true] at hv;obtain ⟨rfl,_,_⟩:=hv;exact ⟨hc k hk 0 _ rfl,hc k hk 1 _ rfl,hc k hk 2 _ rfl,hc k hk 3 _ rfl⟩
theorem Foc.entry {w:World} {b o n c j:Nat} {rs:List ((Entry)×Unit)} {G1 Fx G2:List Nat} {x:Entry} {s:Unit} (h:Foc Bx w b o n c rs j G1 Fx G2 x s) :
  w.cell? ⟨b,o+j * 4,Ab⟩=Ac (J U x.prio)/\w.cell? ⟨b,o+j * 4+1,Ab⟩=Ac (J U x.seq)/\w.cell? ⟨b,o+j * 4+2,Ab⟩=Ac (J U x.run)/\w.cell? ⟨b,o+j * 4+3,Ab⟩=Ac (J U x.task):=⟨h.cells 0 _ rfl,h.cells 1 _ rfl,h.cells 2 _ rfl,h.cells 3 _ rfl⟩
theorem Yi (l:List (Entry)) (s:Sl) (left:Int) (w:World) (h0:0<=left) (h1:left<=2000000) (hw:wfL Qn l) (h:RdL Bx w w s.v l) :
  Calls Am 227 #[Aa s.a s.n s.c,J U left] w (K4 left (D8 Dw l) w):=by
 obtain ⟨A,n,c⟩:=s;obtain ⟨A',c',hv,-⟩:=h.form;simp only [Sl.v,Value.slice.injEq] at hv;obtain ⟨rfl,rfl,rfl⟩:=hv;have bZ:=hw.1;by_cases aA:left<l.length
 ·go_enter func227,ntmps227;go_wp2;go_ret;exact ⟨-1,rfl,.inl rfl,Br _ _⟩
 go_enter func227,ntmps227;go_wp2;go_ret;exact ⟨_,rfl,.inr ⟨Bl,by rw [Ge (cnt:=Dw) (fun _=>rfl) l];omega⟩,Br _ _⟩
theorem Yj (l l':List (Entry)) (s s':Sl) (w:World) (hl:D8 Dw l<=2000000) (hl':D8 Dw l'<=2000000) (h:RdL Bx w w s.v l) (h':RdL Bx w w s'.v l') :
  Calls Am 235 #[Aa s.a s.n s.c,Aa s'.a s'.n s'.c] w fun e w'=>e = .returned (.bool (decide (l=l')))/\Below w w w':=by
 obtain ⟨A,n,c⟩:=s;obtain ⟨A0,c0,hv,-⟩:=h.form;simp only [Sl.v,Value.slice.injEq] at hv;obtain ⟨rfl,rfl,rfl⟩:=hv;obtain ⟨A',n',c'⟩:=s';obtain ⟨A0,c0,hv,-⟩:=h'.form;simp only [Sl.v,Value.slice.injEq] at hv;obtain ⟨rfl,rfl,rfl⟩:=hv;have bZ:l.length<=2000000:=Ah (Cj _ _) hl;have hll':l'.length<=2000000:=Ah (Cj _ _) hl';have dH:∀ k (hk:k<l.length),Dw l[k]<=2000000:=fun k hk=>by have:=C9 (cnt:=Dw) (Aw hk);omega
 have hcc':∀ k (hk:k<l'.length),Dw l'[k]<=2000000:=fun k hk=>by have:=C9 (cnt:=Dw) (Aw hk);omega
 clear hl hl';by_cases aC:l.length=l'.length
 ·have aL:((l.length:Int) != (l'.length:Int))=false:=by simp [aC]
  have Hne:=Bq aC;clear aC;go_enter func235,ntmps235;go_wp2;go_loopw [5] (fun i wr=>∃ k:Nat,k<=l.length/\i = J U k/\Hid (l.take k=l'.take k)/\Below w w wr) (fun i _=>l.length - (intOf i).toNat);case atStart=>exact ⟨0,Ag _,rfl,rfl,Br _ _⟩
  case round =>
   obtain ⟨k,hk,rfl,eS,hb⟩:=hrel;by_cases aA:k<l.length
   ·have cA:k<l'.length:=by rw [<-Hne.out];exact aA
    obtain ⟨b,o,s,rfl,aK,hr,c0,c1,c2,c3⟩:=(h.below hb).entry aA;obtain ⟨b',o',s',rfl,bI,gH,d0,d1,d2,d3⟩:=(h'.below hb).entry cA;have hx:∀ W,Below wr wr W->Bx.rd W W l[k] s:=fun W hW=>Bx.rd_more (Bx.rd_below (Bx.rd_more hr hb.size) hW) hW.size;have dV:∀ W,Below wr wr W->Bx.rd W W l'[k] s':=fun W hW=>Bx.rd_more (Bx.rd_below (Bx.rd_more gH hb.size) hW) hW.size;go_wp2;go_still_tail 8,Bm;go_wp2_with (go_at_call 275;refine (Aaf l[k] l'[k] s s' _ (dH k aA) (hcc' k cA) (hx _ (by first | exact Br _ _ | exact (Br _ _).drew)) (dV _ (by first | exact Br _ _ | exact (Br _ _).drew))).mono ?_;rintro e w1 ⟨rfl,aJ⟩)
    ·rename_i hd;go_ret;refine ⟨Bw ?_,(hb.drew).trans (aJ.mono hb.size)⟩;simp only [Bool.false_eq,decide_eq_false_iff_not];intro e;subst e;simp at hd
    ·rename_i hd;refine ⟨⟨k+1,Bl,by go_num,?_,(hb.drew).trans (aJ.mono hb.size)⟩,by simp [intOf];omega⟩;show List.take (k+1) l=List.take (k+1) l';rw [Cp l k aA,Cp l' k cA,eS.out];simp at hd;rw [hd]
   ·go_wp2;go_ret;refine ⟨Bw ?_,hb⟩;have h1:=eS.out;rw [Bg Bl,Bg (by rw [<-Hne.out];omega)] at h1;simp [h1]
 ·have aL:((l.length:Int) != (l'.length:Int))=true:=by simp;omega
  go_enter func235,ntmps235;go_wp2;go_ret;refine ⟨Bw ?_,Br _ _⟩;simp only [Bool.false_eq,decide_eq_false_iff_not];intro e;exact aC (by rw [e])
theorem Aag:(Am.info? 163).map (fun i=>(i.zero,i.size,i.bytes))=Ac (Ac (.agg #[J U 0,J U 0,J U 0,J U 0]),4,32):=Bm
theorem Yk (l:List (Entry)) (s:Sl) (w:World) (hl:D8 Dw l<=2000000) (h:RdL Bx w w s.v l) :
  Calls Am 233 #[.slice s.a s.n s.c] w (Df (Dt.list Bx) slV l w):=by
 obtain ⟨A,n,c⟩:=s;obtain ⟨A',c',hv,-⟩:=h.form;simp only [Sl.v,Value.slice.injEq] at hv;obtain ⟨rfl,rfl,rfl⟩:=hv;have bZ:l.length<=2000000:=Ah (Cj _ _) hl;have dH:∀ k (hk:k<l.length),Dw l[k]<=2000000:=fun k hk=>by have:=C9 (cnt:=Dw) (Aw hk);omega
 clear hl;obtain ⟨i0,aR,aX,aW,aU⟩:=info_parts Aag;have kE:∀ w:World,(Instr.makeSlice 122 (.int .i64 (l.length:Int)) (.int .i64 (l.length:Int))).run Am w = .ok (.slice (Ac ⟨w,0,Ab⟩) l.length l.length) (w.alloc (.cells (madeCells #[.int .i64 0,.int .i64 0,.int .i64 0,.int .i64 0] (l.length * 4)) 163)):=by
  intro w
  have:=run_make (P:=Am) w 122 163 i0 _ underlying122 aR aX .i64 .i64 l.length l.length Bl Bl (by rw [aU];omega) Bl
  rw [aW] at this;simpa [Value.cells] using this
 go_enter func233,ntmps233;go_wp2;go_loopw [4] (fun i wr=>∃ k:Nat,k<=l.length/\i = .int .i64 k/\Hid (∃ (rs:List ((Entry)×Unit)) (G:List Nat),rs.map (·.1)=l.take k/\Ow Bx.enc 163 wr w (.slice (Ac ⟨w,0,Ab⟩) l.length l.length) (rs ++ List.replicate (l.length - k) (⟨0,0,0,0⟩,()))/\Ows Bx wr G rs/\G.Nodup /\ ∀ b∈G,w<b)/\Below w w wr) (fun i _=>l.length - (intOf i).toNat);case atStart=>exact ⟨0,Ag _,rfl,⟨[],[],rfl,by rw [List.nil_append,Nat.sub_zero];exact Ow.made Bx.enc 163 w (⟨0,0,0,0⟩,()) l.length Bp (by simp [maxLen];omega) rfl rfl,.nil,List.nodup_nil,fun _ h=>by cases h⟩,Bt⟩
 case round =>
  obtain ⟨k,hk,rfl,⟨rs,G,hm,hown,hG,gW,eK⟩,hb⟩:=hrel;have bG:rs.length=k:=by have:=congrArg List.length hm;simpa [Nat.min_eq_left hk] using this
  by_cases aA:k<l.length
  ·obtain ⟨b,o,s,rfl,aK,hr,c0,c1,c2,c3⟩:=(h.below hb).entry aA;have hx:∀ W,Below wr wr W->Bx.rd W W l[k] s:=fun W hW=>Bx.rd_more (Bx.rd_below (Bx.rd_more hr hb.size) hW) hW.size;have aF:(rs ++ List.replicate (l.length - k) ((⟨0,0,0,0⟩,()):(Entry)×Unit)).length=l.length:=by simp;omega
   have Hm:=Bq hm;have Hrl:=Bq bG;clear hm bG;go_wp2_with (go_at_call 273;refine (Aae l[k] s _ (dH k aA) (hx _ (by first | exact Br _ _ | exact (Br _ _).drew))).mono ?_;rintro e w1 ⟨s1,F1,rfl,o1,n1,aJ⟩;have bP:=hown.below aJ;have hf:=bP.free;obtain ⟨d0,d1,d2,d3⟩:=bP.c_entry (k:=k) (by rw [aF];exact aA))
   have hp:=Ow.put bP aF k aA (l[k],s1);have Hp:=Bld.lay hG gW eK aJ (r:=(l[k],s1)) o1 n1 (Ai (hown.blk).2 (Bs _)) hp.2;rw [Mv rs _ k l.length Hrl.out aA] at hp;refine ⟨⟨k+1,Bl,by go_num,⟨rs ++ [(l[k],s1)],G ++ F1,?_,hp.1,Hp.1,Hp.2.1,Hp.2.2⟩,(hb.trans (aJ.mono hb.size)).grown hp.2 (Ah hb.size aJ.size) (fun g hg=>by simp at hg;omega)⟩,by simp [intOf];omega⟩;rw [List.map_append,Hm.out,Cp l k aA];rfl
  ·have bF:k=l.length:=Bl;subst bF;rw [Nat.sub_self,List.replicate_zero,List.append_nil] at hown;go_wp2;go_ret;rw [List.take_length] at hm;have hB:Bld Bx 163 wr w (.slice (Ac ⟨w,0,Ab⟩) l.length l.length) rs:=⟨G,by rw [<-bG];exact (by rw [bG];exact hown),hG,gW,fun b aV=>⟨Nat.le_of_lt (eK b aV),by simp [Value.ownBlock];have:=eK b aV;omega⟩⟩
   obtain ⟨F,h1,h2⟩:=hB.owl hm;exact ⟨⟨Ac ⟨w,0,Ab⟩,l.length,l.length⟩,F,rfl,h1,h2,hb⟩
theorem Ue (l:List (Entry)) (s:Sl) (F:List Nat) (k:Int) (w:World) (hl:D8 Dw l<=2000000) (cL:0<=k) (fJ:k<=1000000000) (h:OwL Bx w F s.v l) :
  Calls Am 237 #[Aa s.a s.n s.c,J U k] w (N6 (Dt.list Bx) F (mkL J0 Dc k l) s (k+(Cx Dc l:Nat)) w):=by
 obtain ⟨A,n,c⟩:=s;obtain ⟨A',c',hv,-⟩:=h.form;simp only [Sl.v,Value.slice.injEq] at hv;obtain ⟨rfl,rfl,rfl⟩:=hv;have bZ:l.length<=2000000:=Ah (Cj _ _) hl;have cS:∀ j,Cx Dc (l.take j)<=26000000:=fun j=>by
  have h1:=Fo Dc l j;have h2:=Et (num:=Dc) (cnt:=Dw) (K:=13) K1 l;omega
 have Hnl:=Bq cS;clear cS hl;go_enter func237,ntmps237;go_wp2;go_loopw [1,5] (fun q i wr=>∃ (j:Nat) (m:Int),j<=l.length/\i = J U j/\q = J U m/\Hid (m=k+(Cx Dc (l.take j):Nat))/\OwL Bx wr F (Aa A l.length c) (mkL J0 Dc k (l.take j) ++ l.drop j)/\Chg F w wr) (fun _ i _=>l.length - (intOf i).toNat);case atStart=>exact ⟨0,k,Ag _,rfl,rfl,by show k=_;simp [Cx],h,Chg.refl _ _⟩
 case round =>
  obtain ⟨j,m,hj,rfl,rfl,hm,ho,hc⟩:=hrel;have hm':=hm.out;have fV:=Hnl.out j;have eP:0<=m:=Bl;have bU:m<=1026000000:=Bl;clear hm' fV;by_cases aA:j<l.length
  ·have aB:(j:Int)<(l.length:Int):=Bl;have aF:(mkL J0 Dc k (l.take j) ++ l.drop j).length=l.length:=by simp [Ep];omega
   obtain ⟨b,o,rs,s,G1,Fx,G2,rfl,hF,bR,f0⟩:=ho.foc (j:=j) (by rw [aF];exact aA);rw [Mw J0 Dc k l j aA] at f0;subst hF;have Hrm:=Bq bR;clear bR ho;obtain ⟨c0,c1,c2,c3⟩:=f0.entry;have fr0:=f0.free;go_wp2;obtain ⟨f1,g1⟩:=f0.put ⟨m,m+1,m+1+1,m+1+1+1⟩ 0 [J U (m),J U (m+1),J U (m+1+1),J U (m+1+1+1)] (by show 0+4<=4;omega) (fun i hi=>match i,hi with | 0,_=>rfl | 1,_=>rfl | 2,_=>rfl | 3,_=>rfl | i+4,hi=>absurd hi Bn) (fun i hi hx=>match i,hi,hx with | 0,_,hx=>absurd hx Bn | 1,_,hx=>absurd hx Bn | 2,_,hx=>absurd hx Bn | 3,_,hx=>absurd hx Bn | i+4,hi,_=>absurd hi (by show ¬ (i+4<4);omega)) (fun _ hh=>hh);have pY:=hm.out;have hown:=f1.owl Hrm.out;have eD:⟨m,m+1,m+1+1,m+1+1+1⟩=J0 m l[j]:=rfl;have bX:=Ol J0 Dc k l j aA;rw [<-hm.out] at bX;rw [eD,bX] at hown;have cV:(Cx Dc (l.take (j+1)):Nat)=Cx Dc (l.take j)+Dc l[j]:=Em _ _ _ aA;refine ⟨⟨j+1,m+1+1+1+1,Bl,by go_num,rfl,?_,hown,(hc).trans (g1.mono (fun _ hh=>Nd hh))⟩,by simp [intOf];omega⟩;have dS:Dc l[j]=4:=rfl;show m+1+1+1+1=_;rw [cV,dS];push_cast;omega
  ·have hj':j=l.length:=Bl;subst hj';rw [List.take_length,List.drop_length,List.append_nil] at ho;go_wp2;go_ret;refine ⟨C8 ?_,ho,hc⟩;rw [hm.out,List.take_length]
theorem Uf (l:List (Entry)) (s:Sl) (k:Int) (w:World) (hl:D8 Dw l<=2000000) (cL:0<=k) (fJ:k<=1000000000) (h:RdL Bx w w s.v (mkL J0 Dc k l)) :
  Calls Am 239 #[Aa s.a s.n s.c,J U k] w fun e w'=>e = .returned (J U (k+(Cx Dc l:Nat)))/\Below w w w':=by
 obtain ⟨A,n,c⟩:=s;obtain ⟨A',c',hv,-⟩:=h.form;simp only [Sl.v,Value.slice.injEq,Ep] at hv;obtain ⟨rfl,rfl,rfl⟩:=hv;have bZ:l.length<=2000000:=Ah (Cj _ _) hl;have cS:∀ j,Cx Dc (l.take j)<=26000000:=fun j=>by
  have h1:=Fo Dc l j;have h2:=Et (num:=Dc) (cnt:=Dw) (K:=13) K1 l;omega
 have aN:∀ (wr:World) (j:Nat) (hj:j<l.length) (m:Int),Below w w wr->m=k+(Cx Dc (l.take j):Nat) -> ∃ b o,∃ s:Unit,A=Ac ⟨b,o,Ab⟩/\b<w.heap.size/\Bx.rd wr w (J0 m l[j]) s/\wr.cell? ⟨b,o+j * 4,Ab⟩=Ac (J U (m))/\wr.cell? ⟨b,o+j * 4+1,Ab⟩=Ac (J U (m+1))/\wr.cell? ⟨b,o+j * 4+2,Ab⟩=Ac (J U (m+1+1))/\wr.cell? ⟨b,o+j * 4+3,Ab⟩=Ac (J U (m+1+1+1)):=by
  intro wr j hj m hb hm;obtain ⟨b,o,s,h1,h2,h3,h4⟩:=(h.below hb).entry (k:=j) (by rw [Ep];exact hj);first | rw [Kw _ _ _ _ _ hj,<-hm] at h3 h4 | rw [Kw _ _ _ _ _ hj,<-hm] at h3
  exact ⟨b,o,s,h1,h2,h3,h4⟩
 have Hc:=Bq aN;have Hnl:=Bq cS;clear aN cS hl;go_enter func239,ntmps239;go_wp2;go_loopw [1,5] (fun q i wr=>∃ (j:Nat) (m:Int),j<=l.length/\i = J U j/\q = J U m/\Hid (m=k+(Cx Dc (l.take j):Nat))/\Below w w wr) (fun _ i _=>l.length - (intOf i).toNat);case atStart=>exact ⟨0,k,Ag _,rfl,rfl,by show k=_;simp [Cx],Br _ _⟩
 case round =>
  obtain ⟨j,m,hj,rfl,rfl,hm,hb⟩:=hrel;have hm':=hm.out;have fV:=Hnl.out j;have eP:0<=m:=Bl;have bU:m<=1026000000:=Bl;clear hm' fV;by_cases aA:j<l.length
  ·have aB:(j:Int)<(l.length:Int):=Bl;obtain ⟨b,o,s,rfl,aK,gR,c0,c1,c2,c3⟩:=Hc.out wr j aA m hb hm.out;go_wp2;have cV:(Cx Dc (l.take (j+1)):Nat)=Cx Dc (l.take j)+Dc l[j]:=Em _ _ _ aA;refine ⟨⟨j+1,m+1+1+1+1,Bl,by go_num,rfl,?_,hb⟩,by simp [intOf];omega⟩;have dS:Dc l[j]=4:=rfl;have pY:=hm.out;show m+1+1+1+1=_;rw [cV,dS];push_cast;omega
  ·have hj':j=l.length:=Bl;subst hj';go_wp2;go_ret;refine ⟨C8 ?_,hb⟩;rw [hm.out,List.take_length]
def Cl (x:List Entry):Nat:=D8 Dw x
def N9 (x:List Entry):Prop:=wfL Qn x
def Da (x:List Entry):Nat:=Cx Dc x
def Jg (k:Int) (x:List Entry):List Entry:=mkL J0 Dc k x
theorem J1 (x:List Entry):Da x<=13 * (Cl x+1):=by
 have h:=Et (num:=Dc) (cnt:=Dw) (K:=13) K1 x;unfold Da Cl;omega
theorem RdL.entryS {w:World} {B:Nat} {A:Option Addr} {n c:Nat} {l:List (List Entry)} (h:RdL (Dt.list Bx) w B (Aa A n c) l) {k:Nat} (hk:k<l.length) :
  ∃ b o,∃ s:Sl,A=Ac ⟨b,o,Ab⟩/\b<B/\(Dt.list Bx).rd w B l[k] s/\w.cell? ⟨b,o+k,Ab⟩=Ac (Aa s.a s.n s.c):=by
 obtain ⟨b,o,s,rfl,hb,hc,hr⟩:=h.at_ k hk;exact ⟨b,o,s,rfl,hb,hr,(by have hh:=hc 0 _ rfl;rw [show k * (Dt.list Bx).enc.sz=k from Nat.mul_one k] at hh;exact hh)⟩
theorem Ow.c_entryS {E:TypeId} {w:World} {base g n cap:Nat} {l:List ((List Entry)×Sl)} (h:Ow (Dt.list Bx).enc E w base (Aa (Ac ⟨g,0,Ab⟩) n cap) l) {k:Nat} (hk:k<l.length) :
  w.cell? ⟨g,k,Ab⟩=Ac (Aa l[k].2.a l[k].2.n l[k].2.c):=by
 rcases h.form with ⟨h1,_⟩ | ⟨g',cap',hv,_,_,_,_,_,hc⟩
 ·simp at h1
 ·simp only [Value.slice.injEq,Option.some.injEq,Addr.mk.injEq,and_true] at hv;obtain ⟨rfl,_,_⟩:=hv;exact (by have hh:=hc k hk 0 _ rfl;rw [show k * (Dt.list Bx).enc.sz=k from Nat.mul_one k] at hh;exact hh)
theorem Foc.entryS {w:World} {b o n c j:Nat} {rs:List ((List Entry)×Sl)} {G1 Fx G2:List Nat} {x:List Entry} {s:Sl} (h:Foc (Dt.list Bx) w b o n c rs j G1 Fx G2 x s) :
  w.cell? ⟨b,o+j,Ab⟩=Ac (Aa s.a s.n s.c):=(by have hh:=h.cells 0 _ rfl;rw [show j * (Dt.list Bx).enc.sz=j from Nat.mul_one j] at hh;exact hh)
theorem Wh (l:List (List Entry)) (s:Sl) (left:Int) (w:World) (h0:0<=left) (h1:left<=2000000) (hw:wfL N9 l) (h:RdL (Dt.list Bx) w w s.v l) :
  Calls Am 149 #[Aa s.a s.n s.c,J U left] w (K4 left (D8 Cl l) w):=by
 obtain ⟨A,n,c⟩:=s;obtain ⟨A',c',hv,-⟩:=h.form;simp only [Sl.v,Value.slice.injEq] at hv;obtain ⟨rfl,rfl,rfl⟩:=hv;have bZ:=hw.1;by_cases aA:left<l.length
 ·go_enter func149,ntmps149;go_wp2;go_ret;exact ⟨-1,rfl,.inl rfl,Br _ _⟩
 have Hw:=Bq hw;clear hw;go_enter func149,ntmps149;go_wp2;go_loopw [1,5] (fun t i wr=>∃ k:Nat,∃ m:Int,k<=l.length/\i = J U k/\t = J U m/\0<=m/\m+l.length+(((l.take k).map Cl).sum:Nat)<=left/\Below w w wr) (fun _ i _=>l.length - (intOf i).toNat);case atStart=>exact ⟨0,_,Ag _,rfl,rfl,Bl,Bo,Br _ _⟩
 case round =>
  obtain ⟨k,m,hk,rfl,rfl,m0,m1,hb⟩:=hrel;by_cases aA:k<l.length
  ·obtain ⟨b,o,s,rfl,aK,hr,c0⟩:=(h.below hb).entryS aA;have hx:∀ W,Below wr wr W->(Dt.list Bx).rd W W.heap.size l[k] s:=fun W hW=>(Dt.list Bx).rd_more ((Dt.list Bx).rd_below ((Dt.list Bx).rd_more hr hb.size) hW) hW.size;have rK:N9 l[k]:=Hw.out.2 _ (Aw aA);have M1:=Bq m1;have m2:m<=2000000:=Bl;clear m1;go_wp2_with fail
   refine (Yi l[k] s m _ m0 m2 rK (hx _ (by first | exact Br _ _ | exact (Br _ _).drew))).mono ?_;rintro e w1 ⟨r,rfl,hr,aJ⟩;rcases hr with rfl | ⟨r0,r1⟩
   ·go_wp2;go_ret;exact ⟨-1,rfl,.inl rfl,Bu hb aJ⟩
   ·go_wp2;refine ⟨⟨k+1,r,Bl,by go_num,rfl,r0,?_,Bu hb aJ⟩,by simp [intOf];omega⟩;have M2:=M1.out;have r2:r+(Cl l[k]:Nat)<=m:=r1;rw [Em _ _ _ aA];push_cast;omega
  ·go_wp2;go_ret;refine ⟨_,rfl,.inr ⟨Bl,?_⟩,hb⟩;rw [Bg Bl] at m1;unfold D8;push_cast;omega
theorem Wi (l l':List (List Entry)) (s s':Sl) (w:World) (hl:D8 Cl l<=2000000) (hl':D8 Cl l'<=2000000) (h:RdL (Dt.list Bx) w w s.v l) (h':RdL (Dt.list Bx) w w s'.v l') :
  Calls Am 161 #[Aa s.a s.n s.c,Aa s'.a s'.n s'.c] w fun e w'=>e = .returned (.bool (decide (l=l')))/\Below w w w':=by
 obtain ⟨A,n,c⟩:=s;obtain ⟨A0,c0,hv,-⟩:=h.form;simp only [Sl.v,Value.slice.injEq] at hv;obtain ⟨rfl,rfl,rfl⟩:=hv;obtain ⟨A',n',c'⟩:=s';obtain ⟨A0,c0,hv,-⟩:=h'.form;simp only [Sl.v,Value.slice.injEq] at hv;obtain ⟨rfl,rfl,rfl⟩:=hv;have bZ:l.length<=2000000:=Ah (Cj _ _) hl;have hll':l'.length<=2000000:=Ah (Cj _ _) hl';have dH:∀ k (hk:k<l.length),Cl l[k]<=2000000:=fun k hk=>by have:=C9 (cnt:=Cl) (Aw hk);omega
 have hcc':∀ k (hk:k<l'.length),Cl l'[k]<=2000000:=fun k hk=>by have:=C9 (cnt:=Cl) (Aw hk);omega
 clear hl hl';by_cases aC:l.length=l'.length
 ·have aL:((l.length:Int) != (l'.length:Int))=false:=by simp [aC]
  have Hne:=Bq aC;clear aC;go_enter func161,ntmps161;go_wp2;go_loopw [5] (fun i wr=>∃ k:Nat,k<=l.length/\i = J U k/\Hid (l.take k=l'.take k)/\Below w w wr) (fun i _=>l.length - (intOf i).toNat);case atStart=>exact ⟨0,Ag _,rfl,rfl,Br _ _⟩
  case round =>
   obtain ⟨k,hk,rfl,eS,hb⟩:=hrel;by_cases aA:k<l.length
   ·have cA:k<l'.length:=by rw [<-Hne.out];exact aA
    obtain ⟨b,o,s,rfl,aK,hr,c0⟩:=(h.below hb).entryS aA;obtain ⟨b',o',s',rfl,bI,gH,d0⟩:=(h'.below hb).entryS cA;have hx:∀ W,Below wr wr W->(Dt.list Bx).rd W W.heap.size l[k] s:=fun W hW=>(Dt.list Bx).rd_more ((Dt.list Bx).rd_below ((Dt.list Bx).rd_more hr hb.size) hW) hW.size;have dV:∀ W,Below wr wr W->(Dt.list Bx).rd W W.heap.size l'[k] s':=fun W hW=>(Dt.list Bx).rd_more ((Dt.list Bx).rd_below ((Dt.list Bx).rd_more gH hb.size) hW) hW.size;go_wp2;go_still_tail 8,Bm;go_wp2_with (go_at_call 235;refine (Yj l[k] l'[k] s s' _ (dH k aA) (hcc' k cA) (hx _ (by first | exact Br _ _ | exact (Br _ _).drew)) (dV _ (by first | exact Br _ _ | exact (Br _ _).drew))).mono ?_;rintro e w1 ⟨rfl,aJ⟩)
    ·rename_i hd;go_ret;refine ⟨Bw ?_,(hb.drew).trans (aJ.mono hb.size)⟩;simp only [Bool.false_eq,decide_eq_false_iff_not];intro e;subst e;simp at hd
    ·rename_i hd;refine ⟨⟨k+1,Bl,by go_num,?_,(hb.drew).trans (aJ.mono hb.size)⟩,by simp [intOf];omega⟩;show List.take (k+1) l=List.take (k+1) l';rw [Cp l k aA,Cp l' k cA,eS.out];simp at hd;rw [hd]
   ·go_wp2;go_ret;refine ⟨Bw ?_,hb⟩;have h1:=eS.out;rw [Bg Bl,Bg (by rw [<-Hne.out];omega)] at h1;simp [h1]
 ·have aL:((l.length:Int) != (l'.length:Int))=true:=by simp;omega
  go_enter func161,ntmps161;go_wp2;go_ret;refine ⟨Bw ?_,Br _ _⟩;simp only [Bool.false_eq,decide_eq_false_iff_not];intro e;exact aC (by rw [e])
theorem Nf:(Am.info? 122).map (fun i=>(i.zero,i.size,i.bytes))=Ac (Ac (Aa Ab 0 0),1,24):=Bm
theorem Wj (l:List (List Entry)) (s:Sl) (w:World) (hl:D8 Cl l<=2000000) (h:RdL (Dt.list Bx) w w s.v l) :
  Calls Am 158 #[.slice s.a s.n s.c] w (Df (Dt.list (Dt.list Bx)) slV l w):=by
 obtain ⟨A,n,c⟩:=s;obtain ⟨A',c',hv,-⟩:=h.form;simp only [Sl.v,Value.slice.injEq] at hv;obtain ⟨rfl,rfl,rfl⟩:=hv;have bZ:l.length<=2000000:=Ah (Cj _ _) hl;have dH:∀ k (hk:k<l.length),Cl l[k]<=2000000:=fun k hk=>by have:=C9 (cnt:=Cl) (Aw hk);omega
 clear hl;obtain ⟨i0,aR,aX,aW,aU⟩:=info_parts Nf;have kE:∀ w:World,(Instr.makeSlice 24 (.int .i64 (l.length:Int)) (.int .i64 (l.length:Int))).run Am w = .ok (.slice (Ac ⟨w,0,Ab⟩) l.length l.length) (w.alloc (.cells (madeCells #[.slice Ab 0 0] l.length) 122)):=by
  intro w
  have:=run_make (P:=Am) w 24 122 i0 _ underlying24 aR aX .i64 .i64 l.length l.length Bl Bl (by rw [aU];omega) Bl
  rw [aW] at this;simpa [Value.cells] using this
 go_enter func158,ntmps158;go_wp2;go_loopw [4] (fun i wr=>∃ k:Nat,k<=l.length/\i = .int .i64 k/\Hid (∃ (rs:List ((List Entry)×Sl)) (G:List Nat),rs.map (·.1)=l.take k/\Ow (Dt.list Bx).enc 122 wr w.heap.size (.slice (Ac ⟨w,0,Ab⟩) l.length l.length) (rs ++ List.replicate (l.length - k) ([],⟨Ab,0,0⟩))/\Ows (Dt.list Bx) wr G rs/\G.Nodup /\ ∀ b∈G,w<b)/\Below w w wr) (fun i _=>l.length - (intOf i).toNat);case atStart=>exact ⟨0,Ag _,rfl,⟨[],[],rfl,by rw [List.nil_append,Nat.sub_zero];exact Ow.made (Dt.list Bx).enc 122 w ([],⟨Ab,0,0⟩) l.length Bp (by simp [maxLen];omega) rfl (Nat.mul_one _).symm,.nil,List.nodup_nil,fun _ h=>by cases h⟩,Bt⟩
 case round =>
  obtain ⟨k,hk,rfl,⟨rs,G,hm,hown,hG,gW,eK⟩,hb⟩:=hrel;have bG:rs.length=k:=by have:=congrArg List.length hm;simpa [Nat.min_eq_left hk] using this
  by_cases aA:k<l.length
  ·obtain ⟨b,o,s,rfl,aK,hr,c0⟩:=(h.below hb).entryS aA;have hx:∀ W,Below wr wr W->(Dt.list Bx).rd W W.heap.size l[k] s:=fun W hW=>(Dt.list Bx).rd_more ((Dt.list Bx).rd_below ((Dt.list Bx).rd_more hr hb.size) hW) hW.size;have aF:(rs ++ List.replicate (l.length - k) (([],⟨Ab,0,0⟩):(List Entry)×Sl)).length=l.length:=by simp;omega
   have Hm:=Bq hm;have Hrl:=Bq bG;clear hm bG;go_wp2_with (go_at_call 233;refine (Yk l[k] s _ (dH k aA) (hx _ (by first | exact Br _ _ | exact (Br _ _).drew))).mono ?_;rintro e w1 ⟨s1,F1,rfl,o1,n1,aJ⟩;have bP:=hown.below aJ;have hf:=bP.free;have d0:=bP.c_entryS (k:=k) (by rw [aF];exact aA))
   have hp:=Ow.put bP aF k aA (l[k],s1);rw [show k * (Dt.list Bx).enc.sz=k from Nat.mul_one k] at hp;have Hp:=Bld.lay hG gW eK aJ (r:=(l[k],s1)) o1 n1 (Ai (hown.blk).2 (Bs _)) hp.2;rw [Mv rs _ k l.length Hrl.out aA] at hp;refine ⟨⟨k+1,Bl,by go_num,⟨rs ++ [(l[k],s1)],G ++ F1,?_,hp.1,Hp.1,Hp.2.1,Hp.2.2⟩,(hb.trans (aJ.mono hb.size)).grown hp.2 (Ah hb.size aJ.size) (fun g hg=>by simp at hg;omega)⟩,by simp [intOf];omega⟩;rw [List.map_append,Hm.out,Cp l k aA];rfl
  ·have bF:k=l.length:=Bl;subst bF;rw [Nat.sub_self,List.replicate_zero,List.append_nil] at hown;go_wp2;go_ret;rw [List.take_length] at hm;have hB:Bld (Dt.list Bx) 122 wr w (.slice (Ac ⟨w,0,Ab⟩) l.length l.length) rs:=⟨G,by rw [<-bG];exact (by rw [bG];exact hown),hG,gW,fun b aV=>⟨Nat.le_of_lt (eK b aV),by simp [Value.ownBlock];have:=eK b aV;omega⟩⟩
   obtain ⟨F,h1,h2⟩:=hB.owl hm;exact ⟨⟨Ac ⟨w,0,Ab⟩,l.length,l.length⟩,F,rfl,h1,h2,hb⟩
theorem Sw (l:List (List Entry)) (s:Sl) (F:List Nat) (k:Int) (w:World) (hl:D8 Cl l<=2000000) (cL:0<=k) (fJ:k<=900000000) (h:OwL (Dt.list Bx) w F s.v l) :
  Calls Am 163 #[Aa s.a s.n s.c,J U k] w (N6 (Dt.list (Dt.list Bx)) F (mkL Jg Da k l) s (k+(Cx Da l:Nat)) w):=by
 obtain ⟨A,n,c⟩:=s;obtain ⟨A',c',hv,-⟩:=h.form;simp only [Sl.v,Value.slice.injEq] at hv;obtain ⟨rfl,rfl,rfl⟩:=hv;have bZ:l.length<=2000000:=Ah (Cj _ _) hl;have cS:∀ j,Cx Da (l.take j)<=26000000:=fun j=>by
  have h1:=Fo Da l j;have h2:=Et (num:=Da) (cnt:=Cl) (K:=13) J1 l;omega
 have dH:∀ k (hk:k<l.length),Cl l[k]<=2000000:=fun k hk=>by have:=C9 (cnt:=Cl) (Aw hk);omega
 have Hnl:=Bq cS;clear cS hl;go_enter func163,ntmps163;go_wp2;go_loopw [1,5] (fun q i wr=>∃ (j:Nat) (m:Int),j<=l.length/\i = J U j/\q = J U m/\Hid (m=k+(Cx Da (l.take j):Nat))/\OwL (Dt.list Bx) wr F (Aa A l.length c) (mkL Jg Da k (l.take j) ++ l.drop j)/\Chg F w wr) (fun _ i _=>l.length - (intOf i).toNat);case atStart=>exact ⟨0,k,Ag _,rfl,rfl,by show k=_;simp [Cx],h,Chg.refl _ _⟩
 case round =>
  obtain ⟨j,m,hj,rfl,rfl,hm,ho,hc⟩:=hrel;have hm':=hm.out;have fV:=Hnl.out j;have eP:0<=m:=Bl;have bU:m<=926000000:=Bl;clear hm' fV;by_cases aA:j<l.length
  ·have aB:(j:Int)<(l.length:Int):=Bl;have aF:(mkL Jg Da k (l.take j) ++ l.drop j).length=l.length:=by simp [Ep];omega
   obtain ⟨b,o,rs,s,G1,Fx,G2,rfl,hF,bR,f0⟩:=ho.foc (j:=j) (by rw [aF];exact aA);rw [Mw Jg Da k l j aA] at f0;subst hF;have Hrm:=Bq bR;clear bR ho;have c0:=f0.entryS;have fr0:=f0.free;have gG:D8 Dw l[j]<=2000000:=by
    have:=dH j aA
    unfold Cl at this;omega
   have hne0:Cx Dc l[j]<=26000000:=by
    have h2:=Et (num:=Dc) (cnt:=Dw) (K:=13) K1 l[j];omega
   go_wp2_with fail
   refine (Ue l[j] s Fx _ _ gG Bl Bl f0.here).mono ?_;rintro e w1 ⟨rfl,o1,g1⟩;have f1:=f0.sub (y:=mkL J0 Dc (m) l[j]) g1 o1 rfl;have c1_0:=f1.entryS;have fr1:=f1.free;go_wp2;have pY:=hm.out;have hown:=f1.owl Hrm.out;have eD:mkL J0 Dc (m) l[j]=Jg m l[j]:=rfl;have bX:=Ol Jg Da k l j aA;rw [<-hm.out] at bX;rw [eD,bX] at hown;have cV:(Cx Da (l.take (j+1)):Nat)=Cx Da (l.take j)+Da l[j]:=Em _ _ _ aA;refine ⟨⟨j+1,m+(Cx Dc l[j]:Nat),Bl,by go_num,rfl,?_,hown,(hc).trans (g1.mono (fun _ hh=>Ql hh))⟩,by simp [intOf];omega⟩;have dS:Da l[j]=Cx Dc l[j]:=rfl;show m+(Cx Dc l[j]:Nat)=_;rw [cV,dS];push_cast;omega
  ·have hj':j=l.length:=Bl;subst hj';rw [List.take_length,List.drop_length,List.append_nil] at ho;go_wp2;go_ret;refine ⟨C8 ?_,ho,hc⟩;rw [hm.out,List.take_length]
theorem Sx (l:List (List Entry)) (s:Sl) (k:Int) (w:World) (hl:D8 Cl l<=2000000) (cL:0<=k) (fJ:k<=900000000) (h:RdL (Dt.list Bx) w w s.v (mkL Jg Da k l)) :
  Calls Am 165 #[Aa s.a s.n s.c,J U k] w fun e w'=>e = .returned (J U (k+(Cx Da l:Nat)))/\Below w w w':=by
 obtain ⟨A,n,c⟩:=s;obtain ⟨A',c',hv,-⟩:=h.form;simp only [Sl.v,Value.slice.injEq,Ep] at hv;obtain ⟨rfl,rfl,rfl⟩:=hv;have bZ:l.length<=2000000:=Ah (Cj _ _) hl;have cS:∀ j,Cx Da (l.take j)<=26000000:=fun j=>by
  have h1:=Fo Da l j;have h2:=Et (num:=Da) (cnt:=Cl) (K:=13) J1 l;omega
 have dH:∀ k (hk:k<l.length),Cl l[k]<=2000000:=fun k hk=>by have:=C9 (cnt:=Cl) (Aw hk);omega
 have aN:∀ (wr:World) (j:Nat) (hj:j<l.length) (m:Int),Below w w wr->m=k+(Cx Da (l.take j):Nat) -> ∃ b o,∃ s:Sl,A=Ac ⟨b,o,Ab⟩/\b<w.heap.size/\(Dt.list Bx).rd wr w.heap.size (Jg m l[j]) s/\wr.cell? ⟨b,o+j,Ab⟩=Ac (Aa s.a s.n s.c):=by
  intro wr j hj m hb hm;obtain ⟨b,o,s,h1,h2,h3,h4⟩:=(h.below hb).entryS (k:=j) (by rw [Ep];exact hj);first | rw [Kw _ _ _ _ _ hj,<-hm] at h3 h4 | rw [Kw _ _ _ _ _ hj,<-hm] at h3
  exact ⟨b,o,s,h1,h2,h3,h4⟩
 have Hc:=Bq aN;have Hnl:=Bq cS;clear aN cS hl;go_enter func165,ntmps165;go_wp2;go_loopw [1,5] (fun q i wr=>∃ (j:Nat) (m:Int),j<=l.length/\i = J U j/\q = J U m/\Hid (m=k+(Cx Da (l.take j):Nat))/\Below w w wr) (fun _ i _=>l.length - (intOf i).toNat);case atStart=>exact ⟨0,k,Ag _,rfl,rfl,by show k=_;simp [Cx],Br _ _⟩
 case round =>
  obtain ⟨j,m,hj,rfl,rfl,hm,hb⟩:=hrel;have hm':=hm.out;have fV:=Hnl.out j;have eP:0<=m:=Bl;have bU:m<=926000000:=Bl;clear hm' fV;by_cases aA:j<l.length
  ·have aB:(j:Int)<(l.length:Int):=Bl;obtain ⟨b,o,s,rfl,aK,gR,c0⟩:=Hc.out wr j aA m hb hm.out;have hx:∀ W,Below wr wr W->(Dt.list Bx).rd W W.heap.size (Jg m l[j]) s:=fun W hW=>(Dt.list Bx).rd_more ((Dt.list Bx).rd_below ((Dt.list Bx).rd_more gR hb.size) hW) hW.size;have gG:D8 Dw l[j]<=2000000:=by
    have:=dH j aA
    unfold Cl at this;omega
   have hne0:Cx Dc l[j]<=26000000:=by
    have h2:=Et (num:=Dc) (cnt:=Dw) (K:=13) K1 l[j];omega
   go_wp2_with fail
   refine (Uf l[j] s _ _ gG Bl Bl (hx _ (by first | exact Br _ _ | exact (Br _ _).drew))).mono ?_;rintro e v0 ⟨rfl,aL⟩;have B0:Below wr wr v0:=Bu (by first | exact Br _ _ | exact (Br _ _).drew) aL;obtain ⟨q0,p0⟩:=Gl B0;have hbr0:=Ai aK hb.size;go_wp2;have cV:(Cx Da (l.take (j+1)):Nat)=Cx Da (l.take j)+Da l[j]:=Em _ _ _ aA;refine ⟨⟨j+1,m+(Cx Dc l[j]:Nat),Bl,by go_num,rfl,?_,Bu hb B0⟩,by simp [intOf];omega⟩;have dS:Da l[j]=Cx Dc l[j]:=rfl;have pY:=hm.out;show m+(Cx Dc l[j]:Nat)=_;rw [cV,dS];push_cast;omega
  ·have hj':j=l.length:=Bl;subst hj';go_wp2;go_ret;refine ⟨C8 ?_,hb⟩;rw [hm.out,List.take_length]
@[go_sem] abbrev Xa (x:Edge) (_s:Unit):Value:=.agg #[.int .i64 x.fr,.int .i64 x.to]
abbrev Eg:Dt Edge:=Dt.flat (fun q=>[.int .i64 q.1.fr,.int .i64 q.1.to]) 2 (fun _=>rfl) (fun q u hu=>by simp at hu;rcases hu with rfl | rfl<;>rfl)
def Eb (_:Edge):Nat:=0
def Ug (x:Edge):Prop:=Wf x.fr/\Wf x.to
def Cq (_:Edge):Nat:=2
def Ix (k:Int) (_:Edge):Edge:=⟨k,k+1⟩
theorem Jl (x:Edge):Cq x<=13 * (Eb x+1):=by
 unfold Cq Eb;omega
theorem Acm (x:Edge) (s:Unit) (w:World) (hl:Eb x<=2000000) (h:Eg.rd w w x s) :
  Calls Am 243 #[Xa x s] w (Df Eg Xa x w):=by
 have aY:∀ W,Below w w W->Eg.rd W W x s:=fun W hW=>Eg.rd_more (Eg.rd_below h hW) hW.size;go_enter func243,ntmps243;go_wp2;refine Aj (v:=Xa x ()) ?_ rfl ?_
 ·simp [Xa,results,results243,go_sem]
 ·exact ⟨(),[],rfl,rfl,(fun _ h=>by cases h),by repeat (first | (with_reducible exact Br _ _) | refine Ad ?_ Bo _ | refine Ae ?_ Bo _)⟩
theorem Acn (x y:Edge) (s r:Unit) (w:World) (hl:Eb x<=2000000) (hl':Eb y<=2000000) (h:Eg.rd w w x s) (h':Eg.rd w w y r) :
  Calls Am 244 #[Xa x s,Xa y r] w fun e w'=>e = .returned (.bool (decide (x=y)))/\Below w w w':=by
 have aY:∀ W,Below w w W->Eg.rd W W x s:=fun W hW=>Eg.rd_more (Eg.rd_below h hW) hW.size;have cF:∀ W,Below w w W->Eg.rd W W y r:=fun W hW=>Eg.rd_more (Eg.rd_below h' hW) hW.size;by_cases h0:x.fr=y.fr;case neg =>
  have t0:(x.fr != y.fr)=true:=by rw [bne_iff_ne];exact h0
  have H:=Bq (show decide (x=y)=false by simp only [decide_eq_false_iff_not];intro e;exact h0 (by rw [e]));clear h0;go_enter func244,ntmps244;go_wp2;go_ret;exact ⟨Bw (by first | exact H.out.symm | rfl),by repeat (first | exact Br _ _ | refine Ae ?_ Bo _)⟩
 have t0:(x.fr != y.fr)=false:=by simp [h0]
 have H0:=Bq h0;clear h0;by_cases h1:x.to=y.to;case neg =>
  have t1:(x.to != y.to)=true:=by rw [bne_iff_ne];exact h1
  have H:=Bq (show decide (x=y)=false by simp only [decide_eq_false_iff_not];intro e;exact h1 (by rw [e]));clear h1;go_enter func244,ntmps244;go_wp2;go_ret;exact ⟨Bw (by first | exact H.out.symm | rfl),by repeat (first | exact Br _ _ | refine Ae ?_ Bo _)⟩
 have t1:(x.to != y.to)=false:=by simp [h1]
 have H1:=Bq h1;clear h1;have H:=Bq (show decide (x=y)=true by
  simp only [decide_eq_true_eq];have hh:=And.intro H0.out H1.out;obtain ⟨e0,e1⟩:=hh;cases x;cases y;simp only at e0 e1;subst e0 e1;rfl)
 go_enter func244,ntmps244;go_wp2;go_ret;exact ⟨Bw (by first | exact H.out.symm | rfl),by repeat (first | exact Br _ _ | refine Ae ?_ Bo _)⟩
theorem RdL.edge {w:World} {B:Nat} {A:Option Addr} {n c:Nat} {l:List (Edge)} (h:RdL Eg w B (Aa A n c) l) {k:Nat} (hk:k<l.length) :
  ∃ b o,∃ _s:Unit,A=Ac ⟨b,o,Ab⟩/\b<B/\Eg.rd w B l[k] _s/\w.cell? ⟨b,o+k * 2,Ab⟩=Ac (J U l[k].fr)/\w.cell? ⟨b,o+k * 2+1,Ab⟩=Ac (J U l[k].to):=by
 obtain ⟨b,o,s,rfl,hb,hc,hr⟩:=h.at_ k hk;exact ⟨b,o,s,rfl,hb,hr,hc 0 _ rfl,hc 1 _ rfl⟩
theorem Ow.c_edge {E:TypeId} {w:World} {base g n cap:Nat} {l:List ((Edge)×Unit)} (h:Ow Eg.enc E w base (Aa (Ac ⟨g,0,Ab⟩) n cap) l) {k:Nat} (hk:k<l.length) :
  w.cell? ⟨g,k * 2,Ab⟩=Ac (J U l[k].1.fr)/\w.cell? ⟨g,k * 2+1,Ab⟩=Ac (J U l[k].1.to):=by
 rcases h.form with ⟨h1,_⟩ | ⟨g',cap',hv,_,_,_,_,_,hc⟩
 ·simp at h1
 ·simp only [Value.slice.injEq,Option.some.injEq,Addr.mk.injEq,and_true] at hv;obtain ⟨rfl,_,_⟩:=hv;exact ⟨hc k hk 0 _ rfl,hc k hk 1 _ rfl⟩
theorem Foc.edge {w:World} {b o n c j:Nat} {rs:List ((Edge)×Unit)} {G1 Fx G2:List Nat} {x:Edge} {s:Unit} (h:Foc Eg w b o n c rs j G1 Fx G2 x s) :
  w.cell? ⟨b,o+j * 2,Ab⟩=Ac (J U x.fr)/\w.cell? ⟨b,o+j * 2+1,Ab⟩=Ac (J U x.to):=⟨h.cells 0 _ rfl,h.cells 1 _ rfl⟩
theorem Aah (l:List (Edge)) (s:Sl) (left:Int) (w:World) (h0:0<=left) (h1:left<=2000000) (hw:wfL Ug l) (h:RdL Eg w w s.v l) :
  Calls Am 167 #[Aa s.a s.n s.c,J U left] w (K4 left (D8 Eb l) w):=by
 obtain ⟨A,n,c⟩:=s;obtain ⟨A',c',hv,-⟩:=h.form;simp only [Sl.v,Value.slice.injEq] at hv;obtain ⟨rfl,rfl,rfl⟩:=hv;have bZ:=hw.1;by_cases aA:left<l.length
 ·go_enter func167,ntmps167;go_wp2;go_ret;exact ⟨-1,rfl,.inl rfl,Br _ _⟩
 go_enter func167,ntmps167;go_wp2;go_ret;exact ⟨_,rfl,.inr ⟨Bl,by rw [Ge (cnt:=Eb) (fun _=>rfl) l];omega⟩,Br _ _⟩
theorem Aai (l l':List (Edge)) (s s':Sl) (w:World) (hl:D8 Eb l<=2000000) (hl':D8 Eb l'<=2000000) (h:RdL Eg w w s.v l) (h':RdL Eg w w s'.v l') :
  Calls Am 171 #[Aa s.a s.n s.c,Aa s'.a s'.n s'.c] w fun e w'=>e = .returned (.bool (decide (l=l')))/\Below w w w':=by
 obtain ⟨A,n,c⟩:=s;obtain ⟨A0,c0,hv,-⟩:=h.form;simp only [Sl.v,Value.slice.injEq] at hv;obtain ⟨rfl,rfl,rfl⟩:=hv;obtain ⟨A',n',c'⟩:=s';obtain ⟨A0,c0,hv,-⟩:=h'.form;simp only [Sl.v,Value.slice.injEq] at hv;obtain ⟨rfl,rfl,rfl⟩:=hv;have bZ:l.length<=2000000:=Ah (Cj _ _) hl;have hll':l'.length<=2000000:=Ah (Cj _ _) hl';have dH:∀ k (hk:k<l.length),Eb l[k]<=2000000:=fun k hk=>by have:=C9 (cnt:=Eb) (Aw hk);omega
 have hcc':∀ k (hk:k<l'.length),Eb l'[k]<=2000000:=fun k hk=>by have:=C9 (cnt:=Eb) (Aw hk);omega
 clear hl hl';by_cases aC:l.length=l'.length
 ·have aL:((l.length:Int) != (l'.length:Int))=false:=by simp [aC]
  have Hne:=Bq aC;clear aC;go_enter func171,ntmps171;go_wp2;go_loopw [5] (fun i wr=>∃ k:Nat,k<=l.length/\i = J U k/\Hid (l.take k=l'.take k)/\Below w w wr) (fun i _=>l.length - (intOf i).toNat);case atStart=>exact ⟨0,Ag _,rfl,rfl,Br _ _⟩
  case round =>
   obtain ⟨k,hk,rfl,eS,hb⟩:=hrel;by_cases aA:k<l.length
   ·have cA:k<l'.length:=by rw [<-Hne.out];exact aA
    obtain ⟨b,o,s,rfl,aK,hr,c0,c1⟩:=(h.below hb).edge aA;obtain ⟨b',o',s',rfl,bI,gH,d0,d1⟩:=(h'.below hb).edge cA;have hx:∀ W,Below wr wr W->Eg.rd W W l[k] s:=fun W hW=>Eg.rd_more (Eg.rd_below (Eg.rd_more hr hb.size) hW) hW.size;have dV:∀ W,Below wr wr W->Eg.rd W W l'[k] s':=fun W hW=>Eg.rd_more (Eg.rd_below (Eg.rd_more gH hb.size) hW) hW.size;go_wp2;go_still_tail 8,Bm;go_wp2_with (go_at_call 244;refine (Acn l[k] l'[k] s s' _ (dH k aA) (hcc' k cA) (hx _ (by first | exact Br _ _ | exact (Br _ _).drew)) (dV _ (by first | exact Br _ _ | exact (Br _ _).drew))).mono ?_;rintro e w1 ⟨rfl,aJ⟩)
    ·rename_i hd;go_ret;refine ⟨Bw ?_,(hb.drew).trans (aJ.mono hb.size)⟩;simp only [Bool.false_eq,decide_eq_false_iff_not];intro e;subst e;simp at hd
    ·rename_i hd;refine ⟨⟨k+1,Bl,by go_num,?_,(hb.drew).trans (aJ.mono hb.size)⟩,by simp [intOf];omega⟩;show List.take (k+1) l=List.take (k+1) l';rw [Cp l k aA,Cp l' k cA,eS.out];simp at hd;rw [hd]
   ·go_wp2;go_ret;refine ⟨Bw ?_,hb⟩;have h1:=eS.out;rw [Bg Bl,Bg (by rw [<-Hne.out];omega)] at h1;simp [h1]
 ·have aL:((l.length:Int) != (l'.length:Int))=true:=by simp;omega
  go_enter func171,ntmps171;go_wp2;go_ret;refine ⟨Bw ?_,Br _ _⟩;simp only [Bool.false_eq,decide_eq_false_iff_not];intro e;exact aC (by rw [e])
theorem Aco:(Am.info? 187).map (fun i=>(i.zero,i.size,i.bytes))=Ac (Ac (.agg #[J U 0,J U 0]),2,16):=Bm
theorem Aaj (l:List (Edge)) (s:Sl) (w:World) (hl:D8 Eb l<=2000000) (h:RdL Eg w w s.v l) :
  Calls Am 169 #[.slice s.a s.n s.c] w (Df (Dt.list Eg) slV l w):=by
 obtain ⟨A,n,c⟩:=s;obtain ⟨A',c',hv,-⟩:=h.form;simp only [Sl.v,Value.slice.injEq] at hv;obtain ⟨rfl,rfl,rfl⟩:=hv;have bZ:l.length<=2000000:=Ah (Cj _ _) hl;have dH:∀ k (hk:k<l.length),Eb l[k]<=2000000:=fun k hk=>by have:=C9 (cnt:=Eb) (Aw hk);omega
 clear hl;obtain ⟨i0,aR,aX,aW,aU⟩:=info_parts Aco;have kE:∀ w:World,(Instr.makeSlice 34 (.int .i64 (l.length:Int)) (.int .i64 (l.length:Int))).run Am w = .ok (.slice (Ac ⟨w,0,Ab⟩) l.length l.length) (w.alloc (.cells (madeCells #[.int .i64 0,.int .i64 0] (l.length * 2)) 187)):=by
  intro w
  have:=run_make (P:=Am) w 34 187 i0 _ underlying34 aR aX .i64 .i64 l.length l.length Bl Bl (by rw [aU];omega) Bl
  rw [aW] at this;simpa [Value.cells] using this
 go_enter func169,ntmps169;go_wp2;go_loopw [4] (fun i wr=>∃ k:Nat,k<=l.length/\i = .int .i64 k/\Hid (∃ (rs:List ((Edge)×Unit)) (G:List Nat),rs.map (·.1)=l.take k/\Ow Eg.enc 187 wr w (.slice (Ac ⟨w,0,Ab⟩) l.length l.length) (rs ++ List.replicate (l.length - k) (⟨0,0⟩,()))/\Ows Eg wr G rs/\G.Nodup /\ ∀ b∈G,w<b)/\Below w w wr) (fun i _=>l.length - (intOf i).toNat);case atStart=>exact ⟨0,Ag _,rfl,⟨[],[],rfl,by rw [List.nil_append,Nat.sub_zero];exact Ow.made Eg.enc 187 w (⟨0,0⟩,()) l.length Bp (by simp [maxLen];omega) rfl rfl,.nil,List.nodup_nil,fun _ h=>by cases h⟩,Bt⟩
 case round =>
  obtain ⟨k,hk,rfl,⟨rs,G,hm,hown,hG,gW,eK⟩,hb⟩:=hrel;have bG:rs.length=k:=by have:=congrArg List.length hm;simpa [Nat.min_eq_left hk] using this
  by_cases aA:k<l.length
  ·obtain ⟨b,o,s,rfl,aK,hr,c0,c1⟩:=(h.below hb).edge aA;have hx:∀ W,Below wr wr W->Eg.rd W W l[k] s:=fun W hW=>Eg.rd_more (Eg.rd_below (Eg.rd_more hr hb.size) hW) hW.size;have aF:(rs ++ List.replicate (l.length - k) ((⟨0,0⟩,()):(Edge)×Unit)).length=l.length:=by simp;omega
   have Hm:=Bq hm;have Hrl:=Bq bG;clear hm bG;go_wp2_with (go_at_call 243;refine (Acm l[k] s _ (dH k aA) (hx _ (by first | exact Br _ _ | exact (Br _ _).drew))).mono ?_;rintro e w1 ⟨s1,F1,rfl,o1,n1,aJ⟩;have bP:=hown.below aJ;have hf:=bP.free;obtain ⟨d0,d1⟩:=bP.c_edge (k:=k) (by rw [aF];exact aA))
   have hp:=Ow.put bP aF k aA (l[k],s1);have Hp:=Bld.lay hG gW eK aJ (r:=(l[k],s1)) o1 n1 (Ai (hown.blk).2 (Bs _)) hp.2;rw [Mv rs _ k l.length Hrl.out aA] at hp;refine ⟨⟨k+1,Bl,by go_num,⟨rs ++ [(l[k],s1)],G ++ F1,?_,hp.1,Hp.1,Hp.2.1,Hp.2.2⟩,(hb.trans (aJ.mono hb.size)).grown hp.2 (Ah hb.size aJ.size) (fun g hg=>by simp at hg;omega)⟩,by simp [intOf];omega⟩;rw [List.map_append,Hm.out,Cp l k aA];rfl
  ·have bF:k=l.length:=Bl;subst bF;rw [Nat.sub_self,List.replicate_zero,List.append_nil] at hown;go_wp2;go_ret;rw [List.take_length] at hm;have hB:Bld Eg 187 wr w (.slice (Ac ⟨w,0,Ab⟩) l.length l.length) rs:=⟨G,by rw [<-bG];exact (by rw [bG];exact hown),hG,gW,fun b aV=>⟨Nat.le_of_lt (eK b aV),by simp [Value.ownBlock];have:=eK b aV;omega⟩⟩
   obtain ⟨F,h1,h2⟩:=hB.owl hm;exact ⟨⟨Ac ⟨w,0,Ab⟩,l.length,l.length⟩,F,rfl,h1,h2,hb⟩
theorem Pb (l:List (Edge)) (s:Sl) (F:List Nat) (k:Int) (w:World) (hl:D8 Eb l<=2000000) (cL:0<=k) (fJ:k<=1000000000) (h:OwL Eg w F s.v l) :
  Calls Am 93 #[Aa s.a s.n s.c,J U k] w (N6 (Dt.list Eg) F (mkL Ix Cq k l) s (k+(Cx Cq l:Nat)) w):=by
 obtain ⟨A,n,c⟩:=s;obtain ⟨A',c',hv,-⟩:=h.form;simp only [Sl.v,Value.slice.injEq] at hv;obtain ⟨rfl,rfl,rfl⟩:=hv;have bZ:l.length<=2000000:=Ah (Cj _ _) hl;have cS:∀ j,Cx Cq (l.take j)<=26000000:=fun j=>by
  have h1:=Fo Cq l j;have h2:=Et (num:=Cq) (cnt:=Eb) (K:=13) Jl l;omega
 have Hnl:=Bq cS;clear cS hl;go_enter func93,ntmps93;go_wp2;go_loopw [1,5] (fun q i wr=>∃ (j:Nat) (m:Int),j<=l.length/\i = J U j/\q = J U m/\Hid (m=k+(Cx Cq (l.take j):Nat))/\OwL Eg wr F (Aa A l.length c) (mkL Ix Cq k (l.take j) ++ l.drop j)/\Chg F w wr) (fun _ i _=>l.length - (intOf i).toNat);case atStart=>exact ⟨0,k,Ag _,rfl,rfl,by show k=_;simp [Cx],h,Chg.refl _ _⟩
 case round =>
  obtain ⟨j,m,hj,rfl,rfl,hm,ho,hc⟩:=hrel;have hm':=hm.out;have fV:=Hnl.out j;have eP:0<=m:=Bl;have bU:m<=1026000000:=Bl;clear hm' fV;by_cases aA:j<l.length
  ·have aB:(j:Int)<(l.length:Int):=Bl;have aF:(mkL Ix Cq k (l.take j) ++ l.drop j).length=l.length:=by simp [Ep];omega
   obtain ⟨b,o,rs,s,G1,Fx,G2,rfl,hF,bR,f0⟩:=ho.foc (j:=j) (by rw [aF];exact aA);rw [Mw Ix Cq k l j aA] at f0;subst hF;have Hrm:=Bq bR;clear bR ho;obtain ⟨c0,c1⟩:=f0.edge;have fr0:=f0.free;go_wp2;obtain ⟨f1,g1⟩:=f0.put ⟨m,m+1⟩ 0 [J U (m),J U (m+1)] (by show 0+2<=2;omega) (fun i hi=>match i,hi with | 0,_=>rfl | 1,_=>rfl | i+2,hi=>absurd hi Bn) (fun i hi hx=>match i,hi,hx with | 0,_,hx=>absurd hx Bn | 1,_,hx=>absurd hx Bn | i+2,hi,_=>absurd hi (by show ¬ (i+2<2);omega)) (fun _ hh=>hh);have pY:=hm.out;have hown:=f1.owl Hrm.out;have eD:⟨m,m+1⟩=Ix m l[j]:=rfl;have bX:=Ol Ix Cq k l j aA;rw [<-hm.out] at bX;rw [eD,bX] at hown;have cV:(Cx Cq (l.take (j+1)):Nat)=Cx Cq (l.take j)+Cq l[j]:=Em _ _ _ aA;refine ⟨⟨j+1,m+1+1,Bl,by go_num,rfl,?_,hown,(hc).trans (g1.mono (fun _ hh=>Nd hh))⟩,by simp [intOf];omega⟩;have dS:Cq l[j]=2:=rfl;show m+1+1=_;rw [cV,dS];push_cast;omega
  ·have hj':j=l.length:=Bl;subst hj';rw [List.take_length,List.drop_length,List.append_nil] at ho;go_wp2;go_ret;refine ⟨C8 ?_,ho,hc⟩;rw [hm.out,List.take_length]
theorem Wk (l:List (Edge)) (s:Sl) (k:Int) (w:World) (hl:D8 Eb l<=2000000) (cL:0<=k) (fJ:k<=1000000000) (h:RdL Eg w w s.v (mkL Ix Cq k l)) :
  Calls Am 240 #[Aa s.a s.n s.c,J U k] w fun e w'=>e = .returned (J U (k+(Cx Cq l:Nat)))/\Below w w w':=by
 obtain ⟨A,n,c⟩:=s;obtain ⟨A',c',hv,-⟩:=h.form;simp only [Sl.v,Value.slice.injEq,Ep] at hv;obtain ⟨rfl,rfl,rfl⟩:=hv;have bZ:l.length<=2000000:=Ah (Cj _ _) hl;have cS:∀ j,Cx Cq (l.take j)<=26000000:=fun j=>by
  have h1:=Fo Cq l j;have h2:=Et (num:=Cq) (cnt:=Eb) (K:=13) Jl l;omega
 have aN:∀ (wr:World) (j:Nat) (hj:j<l.length) (m:Int),Below w w wr->m=k+(Cx Cq (l.take j):Nat) -> ∃ b o,∃ s:Unit,A=Ac ⟨b,o,Ab⟩/\b<w.heap.size/\Eg.rd wr w (Ix m l[j]) s/\wr.cell? ⟨b,o+j * 2,Ab⟩=Ac (J U (m))/\wr.cell? ⟨b,o+j * 2+1,Ab⟩=Ac (J U (m+1)):=by
  intro wr j hj m hb hm;obtain ⟨b,o,s,h1,h2,h3,h4⟩:=(h.below hb).edge (k:=j) (by rw [Ep];exact hj);first | rw [Kw _ _ _ _ _ hj,<-hm] at h3 h4 | rw [Kw _ _ _ _ _ hj,<-hm] at h3
  exact ⟨b,o,s,h1,h2,h3,h4⟩
 have Hc:=Bq aN;have Hnl:=Bq cS;clear aN cS hl;go_enter func240,ntmps240;go_wp2;go_loopw [1,5] (fun q i wr=>∃ (j:Nat) (m:Int),j<=l.length/\i = J U j/\q = J U m/\Hid (m=k+(Cx Cq (l.take j):Nat))/\Below w w wr) (fun _ i _=>l.length - (intOf i).toNat);case atStart=>exact ⟨0,k,Ag _,rfl,rfl,by show k=_;simp [Cx],Br _ _⟩
 case round =>
  obtain ⟨j,m,hj,rfl,rfl,hm,hb⟩:=hrel;have hm':=hm.out;have fV:=Hnl.out j;have eP:0<=m:=Bl;have bU:m<=1026000000:=Bl;clear hm' fV;by_cases aA:j<l.length
  ·have aB:(j:Int)<(l.length:Int):=Bl;obtain ⟨b,o,s,rfl,aK,gR,c0,c1⟩:=Hc.out wr j aA m hb hm.out;go_wp2;have cV:(Cx Cq (l.take (j+1)):Nat)=Cx Cq (l.take j)+Cq l[j]:=Em _ _ _ aA;refine ⟨⟨j+1,m+1+1,Bl,by go_num,rfl,?_,hb⟩,by simp [intOf];omega⟩;have dS:Cq l[j]=2:=rfl;have pY:=hm.out;show m+1+1=_;rw [cV,dS];push_cast;omega
  ·have hj':j=l.length:=Bl;subst hj';go_wp2;go_ret;refine ⟨C8 ?_,hb⟩;rw [hm.out,List.take_length]
structure Task where
 state:Int
 need:Int
 try_:Int
 until_:Int
deriving DecidableEq,Inhabited
@[go_sem] abbrev Xb (x:Task) (_s:Unit):Value:=.agg #[.int .i64 x.state,.int .i64 x.need,.int .i64 x.try_,.int .i64 x.until_]
abbrev C7:Dt Task:=Dt.flat (fun q=>[.int .i64 q.1.state,.int .i64 q.1.need,.int .i64 q.1.try_,.int .i64 q.1.until_]) 4 (fun _=>rfl) (fun q u hu=>by simp at hu;rcases hu with rfl | rfl | rfl | rfl<;>rfl)
def Dz (_:Task):Nat:=0
def Uh (x:Task):Prop:=Wf x.state/\Wf x.need/\Wf x.try_/\Wf x.until_
def Du (_:Task):Nat:=4
def Lq (k:Int) (_:Task):Task:=⟨k,k+1,k+1+1,k+1+1+1⟩
theorem Lr (x:Task):Du x<=13 * (Dz x+1):=by
 unfold Du Dz;omega
theorem Acp (x:Task) (s:Unit) (w:World) (hl:Dz x<=2000000) (h:C7.rd w w x s) :
  Calls Am 283 #[Xb x s] w (Df C7 Xb x w):=by
 have aY:∀ W,Below w w W->C7.rd W W x s:=fun W hW=>C7.rd_more (C7.rd_below h hW) hW.size;go_enter func283,ntmps283;go_wp2;refine Aj (v:=Xb x ()) ?_ rfl ?_
 ·simp [Xb,results,results283,go_sem]
 ·exact ⟨(),[],rfl,rfl,(fun _ h=>by cases h),by repeat (first | (with_reducible exact Br _ _) | refine Ad ?_ Bo _ | refine Ae ?_ Bo _)⟩
theorem Acq (x y:Task) (s r:Unit) (w:World) (hl:Dz x<=2000000) (hl':Dz y<=2000000) (h:C7.rd w w x s) (h':C7.rd w w y r) :
  Calls Am 284 #[Xb x s,Xb y r] w fun e w'=>e = .returned (.bool (decide (x=y)))/\Below w w w':=by
 have aY:∀ W,Below w w W->C7.rd W W x s:=fun W hW=>C7.rd_more (C7.rd_below h hW) hW.size;have cF:∀ W,Below w w W->C7.rd W W y r:=fun W hW=>C7.rd_more (C7.rd_below h' hW) hW.size;by_cases h0:x.state=y.state;case neg =>
  have t0:(x.state != y.state)=true:=by rw [bne_iff_ne];exact h0
  have H:=Bq (show decide (x=y)=false by simp only [decide_eq_false_iff_not];intro e;exact h0 (by rw [e]));clear h0;go_enter func284,ntmps284;go_wp2;go_ret;exact ⟨Bw (by first | exact H.out.symm | rfl),by repeat (first | exact Br _ _ | refine Ae ?_ Bo _)⟩
 have t0:(x.state != y.state)=false:=by simp [h0]
 have H0:=Bq h0;clear h0;by_cases h1:x.need=y.need;case neg =>
  have t1:(x.need != y.need)=true:=by rw [bne_iff_ne];exact h1
  have H:=Bq (show decide (x=y)=false by simp only [decide_eq_false_iff_not];intro e;exact h1 (by rw [e]));clear h1;go_enter func284,ntmps284;go_wp2;go_ret;exact ⟨Bw (by first | exact H.out.symm | rfl),by repeat (first | exact Br _ _ | refine Ae ?_ Bo _)⟩
 have t1:(x.need != y.need)=false:=by simp [h1]
 have H1:=Bq h1;clear h1;by_cases h2:x.try_=y.try_;case neg =>
  have t2:(x.try_ != y.try_)=true:=by rw [bne_iff_ne];exact h2
  have H:=Bq (show decide (x=y)=false by simp only [decide_eq_false_iff_not];intro e;exact h2 (by rw [e]));clear h2;go_enter func284,ntmps284;go_wp2;go_ret;exact ⟨Bw (by first | exact H.out.symm | rfl),by repeat (first | exact Br _ _ | refine Ae ?_ Bo _)⟩
 have t2:(x.try_ != y.try_)=false:=by simp [h2]
 have H2:=Bq h2;clear h2;by_cases h3:x.until_=y.until_;case neg =>
  have t3:(x.until_ != y.until_)=true:=by rw [bne_iff_ne];exact h3
  have H:=Bq (show decide (x=y)=false by simp only [decide_eq_false_iff_not];intro e;exact h3 (by rw [e]));clear h3;go_enter func284,ntmps284;go_wp2;go_ret;exact ⟨Bw (by first | exact H.out.symm | rfl),by repeat (first | exact Br _ _ | refine Ae ?_ Bo _)⟩
 have t3:(x.until_ != y.until_)=false:=by simp [h3]
 have H3:=Bq h3;clear h3;have H:=Bq (show decide (x=y)=true by
  simp only [decide_eq_true_eq];have hh:=And.intro H0.out (And.intro H1.out (And.intro H2.out H3.out));obtain ⟨e0,e1,e2,e3⟩:=hh;cases x;cases y;simp only at e0 e1 e2 e3;subst e0 e1 e2 e3;rfl)
 go_enter func284,ntmps284;go_wp2;go_ret;exact ⟨Bw (by first | exact H.out.symm | rfl),by repeat (first | exact Br _ _ | refine Ae ?_ Bo _)⟩
theorem RdL.task {w:World} {B:Nat} {A:Option Addr} {n c:Nat} {l:List (Task)} (h:RdL C7 w B (Aa A n c) l) {k:Nat} (hk:k<l.length) :
  ∃ b o,∃ _s:Unit,A=Ac ⟨b,o,Ab⟩/\b<B/\C7.rd w B l[k] _s/\w.cell? ⟨b,o+k * 4,Ab⟩=Ac (J U l[k].state)/\w.cell? ⟨b,o+k * 4+1,Ab⟩=Ac (J U l[k].need)/\w.cell? ⟨b,o+k * 4+2,Ab⟩=Ac (J U l[k].try_)/\w.cell? ⟨b,o+k * 4+3,Ab⟩=Ac (J U l[k].until_):=by
 obtain ⟨b,o,s,rfl,hb,hc,hr⟩:=h.at_ k hk;exact ⟨b,o,s,rfl,hb,hr,hc 0 _ rfl,hc 1 _ rfl,hc 2 _ rfl,hc 3 _ rfl⟩
theorem Ow.c_task {E:TypeId} {w:World} {base g n cap:Nat} {l:List ((Task)×Unit)} (h:Ow C7.enc E w base (Aa (Ac ⟨g,0,Ab⟩) n cap) l) {k:Nat} (hk:k<l.length) :
  w.cell? ⟨g,k * 4,Ab⟩=Ac (J U l[k].1.state)/\w.cell? ⟨g,k * 4+1,Ab⟩=Ac (J U l[k].1.need)/\w.cell? ⟨g,k * 4+2,Ab⟩=Ac (J U l[k].1.try_)/\w.cell? ⟨g,k * 4+3,Ab⟩=Ac (J U l[k].1.until_):=by
 rcases h.form with ⟨h1,_⟩ | ⟨g',cap',hv,_,_,_,_,_,hc⟩
 ·simp at h1
 ·simp only [Value.slice.injEq,Option.some.injEq,Addr.mk.injEq,and_true] at hv;obtain ⟨rfl,_,_⟩:=hv;exact ⟨hc k hk 0 _ rfl,hc k hk 1 _ rfl,hc k hk 2 _ rfl,hc k hk 3 _ rfl⟩
theorem Foc.task {w:World} {b o n c j:Nat} {rs:List ((Task)×Unit)} {G1 Fx G2:List Nat} {x:Task} {s:Unit} (h:Foc C7 w b o n c rs j G1 Fx G2 x s) :
  w.cell? ⟨b,o+j * 4,Ab⟩=Ac (J U x.state)/\w.cell? ⟨b,o+j * 4+1,Ab⟩=Ac (J U x.need)/\w.cell? ⟨b,o+j * 4+2,Ab⟩=Ac (J U x.try_)/\w.cell? ⟨b,o+j * 4+3,Ab⟩=Ac (J U x.until_):=⟨h.cells 0 _ rfl,h.cells 1 _ rfl,h.cells 2 _ rfl,h.cells 3 _ rfl⟩
theorem Aak (l:List (Task)) (s:Sl) (left:Int) (w:World) (h0:0<=left) (h1:left<=2000000) (hw:wfL Uh l) (h:RdL C7 w w s.v l) :
  Calls Am 271 #[Aa s.a s.n s.c,J U left] w (K4 left (D8 Dz l) w):=by
 obtain ⟨A,n,c⟩:=s;obtain ⟨A',c',hv,-⟩:=h.form;simp only [Sl.v,Value.slice.injEq] at hv;obtain ⟨rfl,rfl,rfl⟩:=hv;have bZ:=hw.1;by_cases aA:left<l.length
 ·go_enter func271,ntmps271;go_wp2;go_ret;exact ⟨-1,rfl,.inl rfl,Br _ _⟩
 go_enter func271,ntmps271;go_wp2;go_ret;exact ⟨_,rfl,.inr ⟨Bl,by rw [Ge (cnt:=Dz) (fun _=>rfl) l];omega⟩,Br _ _⟩
theorem Aal (l l':List (Task)) (s s':Sl) (w:World) (hl:D8 Dz l<=2000000) (hl':D8 Dz l'<=2000000) (h:RdL C7 w w s.v l) (h':RdL C7 w w s'.v l') :
  Calls Am 276 #[Aa s.a s.n s.c,Aa s'.a s'.n s'.c] w fun e w'=>e = .returned (.bool (decide (l=l')))/\Below w w w':=by
 obtain ⟨A,n,c⟩:=s;obtain ⟨A0,c0,hv,-⟩:=h.form;simp only [Sl.v,Value.slice.injEq] at hv;obtain ⟨rfl,rfl,rfl⟩:=hv;obtain ⟨A',n',c'⟩:=s';obtain ⟨A0,c0,hv,-⟩:=h'.form;simp only [Sl.v,Value.slice.injEq] at hv;obtain ⟨rfl,rfl,rfl⟩:=hv;have bZ:l.length<=2000000:=Ah (Cj _ _) hl;have hll':l'.length<=2000000:=Ah (Cj _ _) hl';have dH:∀ k (hk:k<l.length),Dz l[k]<=2000000:=fun k hk=>by have:=C9 (cnt:=Dz) (Aw hk);omega
 have hcc':∀ k (hk:k<l'.length),Dz l'[k]<=2000000:=fun k hk=>by have:=C9 (cnt:=Dz) (Aw hk);omega
 clear hl hl';by_cases aC:l.length=l'.length
 ·have aL:((l.length:Int) != (l'.length:Int))=false:=by simp [aC]
  have Hne:=Bq aC;clear aC;go_enter func276,ntmps276;go_wp2;go_loopw [5] (fun i wr=>∃ k:Nat,k<=l.length/\i = J U k/\Hid (l.take k=l'.take k)/\Below w w wr) (fun i _=>l.length - (intOf i).toNat);case atStart=>exact ⟨0,Ag _,rfl,rfl,Br _ _⟩
  case round =>
   obtain ⟨k,hk,rfl,eS,hb⟩:=hrel;by_cases aA:k<l.length
   ·have cA:k<l'.length:=by rw [<-Hne.out];exact aA
    obtain ⟨b,o,s,rfl,aK,hr,c0,c1,c2,c3⟩:=(h.below hb).task aA;obtain ⟨b',o',s',rfl,bI,gH,d0,d1,d2,d3⟩:=(h'.below hb).task cA;have hx:∀ W,Below wr wr W->C7.rd W W l[k] s:=fun W hW=>C7.rd_more (C7.rd_below (C7.rd_more hr hb.size) hW) hW.size;have dV:∀ W,Below wr wr W->C7.rd W W l'[k] s':=fun W hW=>C7.rd_more (C7.rd_below (C7.rd_more gH hb.size) hW) hW.size;go_wp2;go_still_tail 8,Bm;go_wp2_with (go_at_call 284;refine (Acq l[k] l'[k] s s' _ (dH k aA) (hcc' k cA) (hx _ (by first | exact Br _ _ | exact (Br _ _).drew)) (dV _ (by first | exact Br _ _ | exact (Br _ _).drew))).mono ?_;rintro e w1 ⟨rfl,aJ⟩)
    ·rename_i hd;go_ret;refine ⟨Bw ?_,(hb.drew).trans (aJ.mono hb.size)⟩;simp only [Bool.false_eq,decide_eq_false_iff_not];intro e;subst e;simp at hd
    ·rename_i hd;refine ⟨⟨k+1,Bl,by go_num,?_,(hb.drew).trans (aJ.mono hb.size)⟩,by simp [intOf];omega⟩;show List.take (k+1) l=List.take (k+1) l';rw [Cp l k aA,Cp l' k cA,eS.out];simp at hd;rw [hd]
   ·go_wp2;go_ret;refine ⟨Bw ?_,hb⟩;have h1:=eS.out;rw [Bg Bl,Bg (by rw [<-Hne.out];omega)] at h1;simp [h1]
 ·have aL:((l.length:Int) != (l'.length:Int))=true:=by simp;omega
  go_enter func276,ntmps276;go_wp2;go_ret;refine ⟨Bw ?_,Br _ _⟩;simp only [Bool.false_eq,decide_eq_false_iff_not];intro e;exact aC (by rw [e])
theorem Acr:(Am.info? 217).map (fun i=>(i.zero,i.size,i.bytes))=Ac (Ac (.agg #[J U 0,J U 0,J U 0,J U 0]),4,32):=Bm
theorem Aam (l:List (Task)) (s:Sl) (w:World) (hl:D8 Dz l<=2000000) (h:RdL C7 w w s.v l) :
  Calls Am 274 #[.slice s.a s.n s.c] w (Df (Dt.list C7) slV l w):=by
 obtain ⟨A,n,c⟩:=s;obtain ⟨A',c',hv,-⟩:=h.form;simp only [Sl.v,Value.slice.injEq] at hv;obtain ⟨rfl,rfl,rfl⟩:=hv;have bZ:l.length<=2000000:=Ah (Cj _ _) hl;have dH:∀ k (hk:k<l.length),Dz l[k]<=2000000:=fun k hk=>by have:=C9 (cnt:=Dz) (Aw hk);omega
 clear hl;obtain ⟨i0,aR,aX,aW,aU⟩:=info_parts Acr;have kE:∀ w:World,(Instr.makeSlice 165 (.int .i64 (l.length:Int)) (.int .i64 (l.length:Int))).run Am w = .ok (.slice (Ac ⟨w,0,Ab⟩) l.length l.length) (w.alloc (.cells (madeCells #[.int .i64 0,.int .i64 0,.int .i64 0,.int .i64 0] (l.length * 4)) 217)):=by
  intro w
  have:=run_make (P:=Am) w 165 217 i0 _ underlying165 aR aX .i64 .i64 l.length l.length Bl Bl (by rw [aU];omega) Bl
  rw [aW] at this;simpa [Value.cells] using this
 go_enter func274,ntmps274;go_wp2;go_loopw [4] (fun i wr=>∃ k:Nat,k<=l.length/\i = .int .i64 k/\Hid (∃ (rs:List ((Task)×Unit)) (G:List Nat),rs.map (·.1)=l.take k/\Ow C7.enc 217 wr w (.slice (Ac ⟨w,0,Ab⟩) l.length l.length) (rs ++ List.replicate (l.length - k) (⟨0,0,0,0⟩,()))/\Ows C7 wr G rs/\G.Nodup /\ ∀ b∈G,w<b)/\Below w w wr) (fun i _=>l.length - (intOf i).toNat);case atStart=>exact ⟨0,Ag _,rfl,⟨[],[],rfl,by rw [List.nil_append,Nat.sub_zero];exact Ow.made C7.enc 217 w (⟨0,0,0,0⟩,()) l.length Bp (by simp [maxLen];omega) rfl rfl,.nil,List.nodup_nil,fun _ h=>by cases h⟩,Bt⟩
 case round =>
  obtain ⟨k,hk,rfl,⟨rs,G,hm,hown,hG,gW,eK⟩,hb⟩:=hrel;have bG:rs.length=k:=by have:=congrArg List.length hm;simpa [Nat.min_eq_left hk] using this
  by_cases aA:k<l.length
  ·obtain ⟨b,o,s,rfl,aK,hr,c0,c1,c2,c3⟩:=(h.below hb).task aA;have hx:∀ W,Below wr wr W->C7.rd W W l[k] s:=fun W hW=>C7.rd_more (C7.rd_below (C7.rd_more hr hb.size) hW) hW.size;have aF:(rs ++ List.replicate (l.length - k) ((⟨0,0,0,0⟩,()):(Task)×Unit)).length=l.length:=by simp;omega
   have Hm:=Bq hm;have Hrl:=Bq bG;clear hm bG;go_wp2_with (go_at_call 283;refine (Acp l[k] s _ (dH k aA) (hx _ (by first | exact Br _ _ | exact (Br _ _).drew))).mono ?_;rintro e w1 ⟨s1,F1,rfl,o1,n1,aJ⟩;have bP:=hown.below aJ;have hf:=bP.free;obtain ⟨d0,d1,d2,d3⟩:=bP.c_task (k:=k) (by rw [aF];exact aA))
   have hp:=Ow.put bP aF k aA (l[k],s1);have Hp:=Bld.lay hG gW eK aJ (r:=(l[k],s1)) o1 n1 (Ai (hown.blk).2 (Bs _)) hp.2;rw [Mv rs _ k l.length Hrl.out aA] at hp;refine ⟨⟨k+1,Bl,by go_num,⟨rs ++ [(l[k],s1)],G ++ F1,?_,hp.1,Hp.1,Hp.2.1,Hp.2.2⟩,(hb.trans (aJ.mono hb.size)).grown hp.2 (Ah hb.size aJ.size) (fun g hg=>by simp at hg;omega)⟩,by simp [intOf];omega⟩;rw [List.map_append,Hm.out,Cp l k aA];rfl
  ·have bF:k=l.length:=Bl;subst bF;rw [Nat.sub_self,List.replicate_zero,List.append_nil] at hown;go_wp2;go_ret;rw [List.take_length] at hm;have hB:Bld C7 217 wr w (.slice (Ac ⟨w,0,Ab⟩) l.length l.length) rs:=⟨G,by rw [<-bG];exact (by rw [bG];exact hown),hG,gW,fun b aV=>⟨Nat.le_of_lt (eK b aV),by simp [Value.ownBlock];have:=eK b aV;omega⟩⟩
   obtain ⟨F,h1,h2⟩:=hB.owl hm;exact ⟨⟨Ac ⟨w,0,Ab⟩,l.length,l.length⟩,F,rfl,h1,h2,hb⟩
theorem Wl (l:List (Task)) (s:Sl) (F:List Nat) (k:Int) (w:World) (hl:D8 Dz l<=2000000) (cL:0<=k) (fJ:k<=1000000000) (h:OwL C7 w F s.v l) :
  Calls Am 238 #[Aa s.a s.n s.c,J U k] w (N6 (Dt.list C7) F (mkL Lq Du k l) s (k+(Cx Du l:Nat)) w):=by
 obtain ⟨A,n,c⟩:=s;obtain ⟨A',c',hv,-⟩:=h.form;simp only [Sl.v,Value.slice.injEq] at hv;obtain ⟨rfl,rfl,rfl⟩:=hv;have bZ:l.length<=2000000:=Ah (Cj _ _) hl;have cS:∀ j,Cx Du (l.take j)<=26000000:=fun j=>by
  have h1:=Fo Du l j;have h2:=Et (num:=Du) (cnt:=Dz) (K:=13) Lr l;omega
 have Hnl:=Bq cS;clear cS hl;go_enter func238,ntmps238;go_wp2;go_loopw [1,5] (fun q i wr=>∃ (j:Nat) (m:Int),j<=l.length/\i = J U j/\q = J U m/\Hid (m=k+(Cx Du (l.take j):Nat))/\OwL C7 wr F (Aa A l.length c) (mkL Lq Du k (l.take j) ++ l.drop j)/\Chg F w wr) (fun _ i _=>l.length - (intOf i).toNat);case atStart=>exact ⟨0,k,Ag _,rfl,rfl,by show k=_;simp [Cx],h,Chg.refl _ _⟩
 case round =>
  obtain ⟨j,m,hj,rfl,rfl,hm,ho,hc⟩:=hrel;have hm':=hm.out;have fV:=Hnl.out j;have eP:0<=m:=Bl;have bU:m<=1026000000:=Bl;clear hm' fV;by_cases aA:j<l.length
  ·have aB:(j:Int)<(l.length:Int):=Bl;have aF:(mkL Lq Du k (l.take j) ++ l.drop j).length=l.length:=by simp [Ep];omega
   obtain ⟨b,o,rs,s,G1,Fx,G2,rfl,hF,bR,f0⟩:=ho.foc (j:=j) (by rw [aF];exact aA);rw [Mw Lq Du k l j aA] at f0;subst hF;have Hrm:=Bq bR;clear bR ho;obtain ⟨c0,c1,c2,c3⟩:=f0.task;have fr0:=f0.free;go_wp2;obtain ⟨f1,g1⟩:=f0.put ⟨m,m+1,m+1+1,m+1+1+1⟩ 0 [J U (m),J U (m+1),J U (m+1+1),J U (m+1+1+1)] (by show 0+4<=4;omega) (fun i hi=>match i,hi with | 0,_=>rfl | 1,_=>rfl | 2,_=>rfl | 3,_=>rfl | i+4,hi=>absurd hi Bn) (fun i hi hx=>match i,hi,hx with | 0,_,hx=>absurd hx Bn | 1,_,hx=>absurd hx Bn | 2,_,hx=>absurd hx Bn | 3,_,hx=>absurd hx Bn | i+4,hi,_=>absurd hi (by show ¬ (i+4<4);omega)) (fun _ hh=>hh);have pY:=hm.out;have hown:=f1.owl Hrm.out;have eD:⟨m,m+1,m+1+1,m+1+1+1⟩=Lq m l[j]:=rfl;have bX:=Ol Lq Du k l j aA;rw [<-hm.out] at bX;rw [eD,bX] at hown;have cV:(Cx Du (l.take (j+1)):Nat)=Cx Du (l.take j)+Du l[j]:=Em _ _ _ aA;refine ⟨⟨j+1,m+1+1+1+1,Bl,by go_num,rfl,?_,hown,(hc).trans (g1.mono (fun _ hh=>Nd hh))⟩,by simp [intOf];omega⟩;have dS:Du l[j]=4:=rfl;show m+1+1+1+1=_;rw [cV,dS];push_cast;omega
  ·have hj':j=l.length:=Bl;subst hj';rw [List.take_length,List.drop_length,List.append_nil] at ho;go_wp2;go_ret;refine ⟨C8 ?_,ho,hc⟩;rw [hm.out,List.take_length]
theorem Wm (l:List (Task)) (s:Sl) (k:Int) (w:World) (hl:D8 Dz l<=2000000) (cL:0<=k) (fJ:k<=1000000000) (h:RdL C7 w w s.v (mkL Lq Du k l)) :
  Calls Am 241 #[Aa s.a s.n s.c,J U k] w fun e w'=>e = .returned (J U (k+(Cx Du l:Nat)))/\Below w w w':=by
 obtain ⟨A,n,c⟩:=s;obtain ⟨A',c',hv,-⟩:=h.form;simp only [Sl.v,Value.slice.injEq,Ep] at hv;obtain ⟨rfl,rfl,rfl⟩:=hv;have bZ:l.length<=2000000:=Ah (Cj _ _) hl;have cS:∀ j,Cx Du (l.take j)<=26000000:=fun j=>by
  have h1:=Fo Du l j;have h2:=Et (num:=Du) (cnt:=Dz) (K:=13) Lr l;omega
 have aN:∀ (wr:World) (j:Nat) (hj:j<l.length) (m:Int),Below w w wr->m=k+(Cx Du (l.take j):Nat) -> ∃ b o,∃ s:Unit,A=Ac ⟨b,o,Ab⟩/\b<w.heap.size/\C7.rd wr w (Lq m l[j]) s/\wr.cell? ⟨b,o+j * 4,Ab⟩=Ac (J U (m))/\wr.cell? ⟨b,o+j * 4+1,Ab⟩=Ac (J U (m+1))/\wr.cell? ⟨b,o+j * 4+2,Ab⟩=Ac (J U (m+1+1))/\wr.cell? ⟨b,o+j * 4+3,Ab⟩=Ac (J U (m+1+1+1)):=by
  intro wr j hj m hb hm;obtain ⟨b,o,s,h1,h2,h3,h4⟩:=(h.below hb).task (k:=j) (by rw [Ep];exact hj);first | rw [Kw _ _ _ _ _ hj,<-hm] at h3 h4 | rw [Kw _ _ _ _ _ hj,<-hm] at h3
  exact ⟨b,o,s,h1,h2,h3,h4⟩
 have Hc:=Bq aN;have Hnl:=Bq cS;clear aN cS hl;go_enter func241,ntmps241;go_wp2;go_loopw [1,5] (fun q i wr=>∃ (j:Nat) (m:Int),j<=l.length/\i = J U j/\q = J U m/\Hid (m=k+(Cx Du (l.take j):Nat))/\Below w w wr) (fun _ i _=>l.length - (intOf i).toNat);case atStart=>exact ⟨0,k,Ag _,rfl,rfl,by show k=_;simp [Cx],Br _ _⟩
 case round =>
  obtain ⟨j,m,hj,rfl,rfl,hm,hb⟩:=hrel;have hm':=hm.out;have fV:=Hnl.out j;have eP:0<=m:=Bl;have bU:m<=1026000000:=Bl;clear hm' fV;by_cases aA:j<l.length
  ·have aB:(j:Int)<(l.length:Int):=Bl;obtain ⟨b,o,s,rfl,aK,gR,c0,c1,c2,c3⟩:=Hc.out wr j aA m hb hm.out;go_wp2;have cV:(Cx Du (l.take (j+1)):Nat)=Cx Du (l.take j)+Du l[j]:=Em _ _ _ aA;refine ⟨⟨j+1,m+1+1+1+1,Bl,by go_num,rfl,?_,hb⟩,by simp [intOf];omega⟩;have dS:Du l[j]=4:=rfl;have pY:=hm.out;show m+1+1+1+1=_;rw [cV,dS];push_cast;omega
  ·have hj':j=l.length:=Bl;subst hj';go_wp2;go_ret;refine ⟨C8 ?_,hb⟩;rw [hm.out,List.take_length]
structure DBox (b:Nat) (cs:List Value) (w:World):Prop where
 cell:∀ (j:Nat) (u:Value),cs[j]? = some u->w.cell? ⟨b,j,none⟩=some u
 free:∀ j,w.frozen? ⟨b,j,none⟩=false
 lt:b<w
theorem DBox.new (T:TypeId) (cs:List Value) (w:World) {b:Nat} (hb:b=w):DBox b cs (w.alloc (.cells cs.toArray T)):=by
 subst hb;refine ⟨fun j u hu=>?_,fun j=>by simp [go_sem],Bn⟩
 have:=Qg w cs.toArray T rfl j u (by simpa using hu)
 have e:((⟨w,0,Ab⟩:Addr).add j)=⟨w,j,Ab⟩:=by
  unfold Addr.add;split<;>simp_all
 rw [e] at this;exact this
theorem DBox.keep {b:Nat} {cs:List Value} {w w':World} (h:DBox b cs w) (hs:w.heap.size<=w'.heap.size) (hk:∀ j,w'.cell? ⟨b,j,Ab⟩=w.cell? ⟨b,j,Ab⟩) (hf:∀ j,w'.frozen? ⟨b,j,Ab⟩=w.frozen? ⟨b,j,Ab⟩):DBox b cs w' :=
 ⟨fun j u hu=>(hk j).trans (h.cell j u hu),fun j=>(hf j).trans (h.free j),Ai h.lt hs⟩
theorem DBox.below {b:Nat} {cs:List Value} {w w':World} (h:DBox b cs w) (hb:Below w w w'):DBox b cs w' :=
 h.keep hb.size (fun j=>hb.cell (p:=⟨b,j,Ab⟩) h.lt) (fun j=>hb.frozen (p:=⟨b,j,Ab⟩) h.lt)
theorem DBox.chg {F:List Nat} {b:Nat} {cs:List Value} {w w':World} (h:DBox b cs w) (hc:Chg F w w') (hn:b∉F):DBox b cs w' :=
 h.keep hc.size (fun j=>hc.cell (p:=⟨b,j,Ab⟩) h.lt hn) (fun j=>hc.frozen (p:=⟨b,j,Ab⟩) h.lt hn)
theorem bx1 (w:World) (T1:TypeId) (c1:List Value):∃ W,Hid (W=(w.alloc (.cells c1.toArray T1)))/\DBox (w.heap.size) c1 W/\Below w w W :=
 ⟨_,Bq rfl,DBox.new T1 c1 w Bn,by repeat (first | exact Br _ _ | refine Ae ?_ Bo _)⟩
theorem bx2 (w:World) (T1:TypeId) (c1:List Value) (T2:TypeId) (c2:List Value):∃ W,Hid (W=((w.alloc (.cells c1.toArray T1)).alloc (.cells c2.toArray T2)))/\DBox (w.heap.size) c1 W/\DBox (w+1) c2 W/\Below w w W :=
 ⟨_,Bq rfl,(DBox.new T1 c1 w Bn).below (Bt),DBox.new T2 c2 (w.alloc (.cells c1.toArray T1)) Bn,by repeat (first | exact Br _ _ | refine Ae ?_ Bo _)⟩
theorem bx3 (w:World) (T1:TypeId) (c1:List Value) (T2:TypeId) (c2:List Value) (T3:TypeId) (c3:List Value):∃ W,Hid (W=(((w.alloc (.cells c1.toArray T1)).alloc (.cells c2.toArray T2)).alloc (.cells c3.toArray T3)))/\DBox (w.heap.size) c1 W/\DBox (w+1) c2 W/\DBox (w+1+1) c3 W/\Below w w W :=
 ⟨_,Bq rfl,((DBox.new T1 c1 w Bn).below (Bt)).below (Bt),(DBox.new T2 c2 (w.alloc (.cells c1.toArray T1)) Bn).below (Bt),DBox.new T3 c3 ((w.alloc (.cells c1.toArray T1)).alloc (.cells c2.toArray T2)) Bn,by repeat (first | exact Br _ _ | refine Ae ?_ Bo _)⟩
theorem bx4 (w:World) (T1:TypeId) (c1:List Value) (T2:TypeId) (c2:List Value) (T3:TypeId) (c3:List Value) (T4:TypeId) (c4:List Value):∃ W,Hid (W=((((w.alloc (.cells c1.toArray T1)).alloc (.cells c2.toArray T2)).alloc (.cells c3.toArray T3)).alloc (.cells c4.toArray T4)))/\DBox (w.heap.size) c1 W/\DBox (w+1) c2 W/\DBox (w+1+1) c3 W/\DBox (w+1+1+1) c4 W/\Below w w W :=
 ⟨_,Bq rfl,(((DBox.new T1 c1 w Bn).below (Bt)).below (Bt)).below (Bt),((DBox.new T2 c2 (w.alloc (.cells c1.toArray T1)) Bn).below (Bt)).below (Bt),(DBox.new T3 c3 ((w.alloc (.cells c1.toArray T1)).alloc (.cells c2.toArray T2)) Bn).below (Bt),DBox.new T4 c4 (((w.alloc (.cells c1.toArray T1)).alloc (.cells c2.toArray T2)).alloc (.cells c3.toArray T3)) Bn,by repeat (first | exact Br _ _ | refine Ae ?_ Bo _)⟩
theorem bx5 (w:World) (T1:TypeId) (c1:List Value) (T2:TypeId) (c2:List Value) (T3:TypeId) (c3:List Value) (T4:TypeId) (c4:List Value) (T5:TypeId) (c5:List Value):∃ W,Hid (W=(((((w.alloc (.cells c1.toArray T1)).alloc (.cells c2.toArray T2)).alloc (.cells c3.toArray T3)).alloc (.cells c4.toArray T4)).alloc (.cells c5.toArray T5)))/\DBox (w.heap.size) c1 W/\DBox (w+1) c2 W/\DBox (w+1+1) c3 W/\DBox (w+1+1+1) c4 W/\DBox (w+1+1+1+1) c5 W/\Below w w W :=
 ⟨_,Bq rfl,((((DBox.new T1 c1 w Bn).below (Bt)).below (Bt)).below (Bt)).below (Bt),(((DBox.new T2 c2 (w.alloc (.cells c1.toArray T1)) Bn).below (Bt)).below (Bt)).below (Bt),((DBox.new T3 c3 ((w.alloc (.cells c1.toArray T1)).alloc (.cells c2.toArray T2)) Bn).below (Bt)).below (Bt),(DBox.new T4 c4 (((w.alloc (.cells c1.toArray T1)).alloc (.cells c2.toArray T2)).alloc (.cells c3.toArray T3)) Bn).below (Bt),DBox.new T5 c5 ((((w.alloc (.cells c1.toArray T1)).alloc (.cells c2.toArray T2)).alloc (.cells c3.toArray T3)).alloc (.cells c4.toArray T4)) Bn,by repeat (first | exact Br _ _ | refine Ae ?_ Bo _)⟩
theorem DBox.g1 {b:Nat} {w:World} {u0:Value} (h:DBox b [u0] w):w.cell? ⟨b,0,Ab⟩=Ac u0/\b<w :=
 ⟨h.cell 0 _ rfl,h.lt⟩
theorem DBox.g4 {b:Nat} {w:World} {u0 u1 u2 u3:Value} (h:DBox b [u0,u1,u2,u3] w):w.cell? ⟨b,0,Ab⟩=Ac u0/\w.cell? ⟨b,1,Ab⟩=Ac u1/\w.cell? ⟨b,2,Ab⟩=Ac u2/\w.cell? ⟨b,3,Ab⟩=Ac u3/\b<w :=
 ⟨h.cell 0 _ rfl,h.cell 1 _ rfl,h.cell 2 _ rfl,h.cell 3 _ rfl,h.lt⟩
theorem DBox.g5 {b:Nat} {w:World} {u0 u1 u2 u3 u4:Value} (h:DBox b [u0,u1,u2,u3,u4] w):w.cell? ⟨b,0,Ab⟩=Ac u0/\w.cell? ⟨b,1,Ab⟩=Ac u1/\w.cell? ⟨b,2,Ab⟩=Ac u2/\w.cell? ⟨b,3,Ab⟩=Ac u3/\w.cell? ⟨b,4,Ab⟩=Ac u4/\b<w :=
 ⟨h.cell 0 _ rfl,h.cell 1 _ rfl,h.cell 2 _ rfl,h.cell 3 _ rfl,h.cell 4 _ rfl,h.lt⟩
theorem DBox.g7 {b:Nat} {w:World} {u0 u1 u2 u3 u4 u5 u6:Value} (h:DBox b [u0,u1,u2,u3,u4,u5,u6] w):w.cell? ⟨b,0,Ab⟩=Ac u0/\w.cell? ⟨b,1,Ab⟩=Ac u1/\w.cell? ⟨b,2,Ab⟩=Ac u2/\w.cell? ⟨b,3,Ab⟩=Ac u3/\w.cell? ⟨b,4,Ab⟩=Ac u4/\w.cell? ⟨b,5,Ab⟩=Ac u5/\w.cell? ⟨b,6,Ab⟩=Ac u6/\b<w :=
 ⟨h.cell 0 _ rfl,h.cell 1 _ rfl,h.cell 2 _ rfl,h.cell 3 _ rfl,h.cell 4 _ rfl,h.cell 5 _ rfl,h.cell 6 _ rfl,h.lt⟩
theorem DBox.g8 {b:Nat} {w:World} {u0 u1 u2 u3 u4 u5 u6 u7:Value} (h:DBox b [u0,u1,u2,u3,u4,u5,u6,u7] w):w.cell? ⟨b,0,Ab⟩=Ac u0/\w.cell? ⟨b,1,Ab⟩=Ac u1/\w.cell? ⟨b,2,Ab⟩=Ac u2/\w.cell? ⟨b,3,Ab⟩=Ac u3/\w.cell? ⟨b,4,Ab⟩=Ac u4/\w.cell? ⟨b,5,Ab⟩=Ac u5/\w.cell? ⟨b,6,Ab⟩=Ac u6/\w.cell? ⟨b,7,Ab⟩=Ac u7/\b<w :=
 ⟨h.cell 0 _ rfl,h.cell 1 _ rfl,h.cell 2 _ rfl,h.cell 3 _ rfl,h.cell 4 _ rfl,h.cell 5 _ rfl,h.cell 6 _ rfl,h.cell 7 _ rfl,h.lt⟩
theorem DBox.g11 {b:Nat} {w:World} {u0 u1 u2 u3 u4 u5 u6 u7 u8 u9 u10:Value} (h:DBox b [u0,u1,u2,u3,u4,u5,u6,u7,u8,u9,u10] w):w.cell? ⟨b,0,Ab⟩=Ac u0/\w.cell? ⟨b,1,Ab⟩=Ac u1/\w.cell? ⟨b,2,Ab⟩=Ac u2/\w.cell? ⟨b,3,Ab⟩=Ac u3/\w.cell? ⟨b,4,Ab⟩=Ac u4/\w.cell? ⟨b,5,Ab⟩=Ac u5/\w.cell? ⟨b,6,Ab⟩=Ac u6/\w.cell? ⟨b,7,Ab⟩=Ac u7/\w.cell? ⟨b,8,Ab⟩=Ac u8/\w.cell? ⟨b,9,Ab⟩=Ac u9/\w.cell? ⟨b,10,Ab⟩=Ac u10/\b<w :=
 ⟨h.cell 0 _ rfl,h.cell 1 _ rfl,h.cell 2 _ rfl,h.cell 3 _ rfl,h.cell 4 _ rfl,h.cell 5 _ rfl,h.cell 6 _ rfl,h.cell 7 _ rfl,h.cell 8 _ rfl,h.cell 9 _ rfl,h.cell 10 _ rfl,h.lt⟩
theorem DBox.g12 {b:Nat} {w:World} {u0 u1 u2 u3 u4 u5 u6 u7 u8 u9 u10 u11:Value} (h:DBox b [u0,u1,u2,u3,u4,u5,u6,u7,u8,u9,u10,u11] w):w.cell? ⟨b,0,Ab⟩=Ac u0/\w.cell? ⟨b,1,Ab⟩=Ac u1/\w.cell? ⟨b,2,Ab⟩=Ac u2/\w.cell? ⟨b,3,Ab⟩=Ac u3/\w.cell? ⟨b,4,Ab⟩=Ac u4/\w.cell? ⟨b,5,Ab⟩=Ac u5/\w.cell? ⟨b,6,Ab⟩=Ac u6/\w.cell? ⟨b,7,Ab⟩=Ac u7/\w.cell? ⟨b,8,Ab⟩=Ac u8/\w.cell? ⟨b,9,Ab⟩=Ac u9/\w.cell? ⟨b,10,Ab⟩=Ac u10/\w.cell? ⟨b,11,Ab⟩=Ac u11/\b<w :=
 ⟨h.cell 0 _ rfl,h.cell 1 _ rfl,h.cell 2 _ rfl,h.cell 3 _ rfl,h.cell 4 _ rfl,h.cell 5 _ rfl,h.cell 6 _ rfl,h.cell 7 _ rfl,h.cell 8 _ rfl,h.cell 9 _ rfl,h.cell 10 _ rfl,h.cell 11 _ rfl,h.lt⟩
theorem Dt.set4 {α:Type} (d:Dt α) {w:World} {F:List Nat} {x:α} {s:d.S} {b o0 o1 o2 o3:Nat} {u0 u1 u2 u3:Value} (h:d.ow w F x s) (hb:b∉F) :
  d.ow ((((w.setCell ⟨b,o0,Ab⟩ u0).setCell ⟨b,o1,Ab⟩ u1).setCell ⟨b,o2,Ab⟩ u2).setCell ⟨b,o3,Ab⟩ u3) F x s :=
 d.ow_set (d.ow_set (d.ow_set (d.ow_set h (a:=⟨b,o0,Ab⟩) hb u0) (a:=⟨b,o1,Ab⟩) hb u1) (a:=⟨b,o2,Ab⟩) hb u2) (a:=⟨b,o3,Ab⟩) hb u3
end Go.Proofs.YtonlnjdempbfoabGreat
