/-
  copy between slices whose elements take several cells; a row that is known whole; slices.Insert's steps. Data of the type Entry: how it lies in memory, and the 
-/
import Derived.Test.YtonlnjdempbfoaaGreatZSl1
import Derived.Laws.CopyRow
import Derived.Laws.CopyOwn
import Derived.Lib.AppendZerosOnto
import Derived.Lib.Overlaps
import Derived.Lib.SliceRun
import Derived.Lib.Hide
namespace Go.Proofs.YtonlnjdempbfoaaGreat
open Go.RowKit
set_option maxRecDepth 100000
set_option maxHeartbeats 4000000
set_option linter.unusedVariables false
set_option linter.unusedSimpArgs false
open Value renaming int->J,slice->Aa
open IntKind renaming i64->U
open Option renaming none->Ab,some->Ac
open Below renaming setCell->Ad,alloc->Ae
open Nat renaming zero_le->Ag,le_trans->Ah,lt_of_lt_of_le->Ai
open Go.Proofs.Tryz renaming prog->Am
open Int renaming toNat_natCast->Ao,eq_ofNat_of_zero_le->Ap
open List renaming getElem_mem->Aw,length_take->Az,length_append->Bd,take_of_length_le->Bg
open World renaming size_alloc->Bj,size_setCell->Bk
section
variable {P:Program}
theorem Yk (w:World) (dT sT ty elem:TypeId) (g o dLen dCap:Nat) (a:Addr) (sLen sCap k:Nat) (cur:Array Value) (t:TypeId) (cs:List Value)
  (hu:P.underlying dT=Ac (.slice elem)) (hs:(P.info? elem).map (·.size)=Ac k)
  (hg:w.heap[g]? = Ac (.cells cur t (0,0))) (hn:cs.length=Nat.min sLen dLen * k)
  (hsrc:∀ j v,cs[j]? = Ac v->w.cell? (a.add j)=Ac v) (hfit:o+cs.length<=cur.size) (h1:∀ v∈cs,v.oneCell'=true) :
  (Builtin.copy_ #[dT,sT] ty #[.slice (Ac ⟨g,o,Ab⟩) dLen dCap,.slice (Ac a) sLen sCap]).run P w =
   .ok (goInt (Nat.min sLen dLen)) (w.setRow g (cur.toList.take o ++ cs ++ cur.toList.drop (o+cs.length)).toArray):=by
 have hl:=run_loadCells_list (P:=P) w a cs hsrc;have dM:=run_storeCells_at P g o t cs 0 cur w hg (by simpa using hfit) h1;cases hq:P.info? elem with
 | none=>simp [hq] at hs
 | some i =>
  have hi:i.size=k:=by simpa [hq] using hs
  rw [hn] at hl;simp [Builtin.copy_,run_underlying hu,Builtin.lenOf,Builtin.firstCells,sizeOf,typeInfo,hq,hi,hl,dM]
theorem Ws (w:World) (g:Nat) (cs:Array Value):w.grownBy (w.setRow g cs) (Ac g) :=
 ⟨rfl,rfl,rfl,by simp [World.setRow],fun k _ aC=>setRow_other w g k cs (fun e=>aC (by rw [e]))⟩
theorem Ta (w:World) {o:Oper} {a:Act} {K:Act->World->Prop} {Q:Exit->Act->World->Prop} (d s:Operand) (dT sT:TypeId)
  (ho:o.op = .call { callee:=.builtin .copy,args:=#[d,s],argTypes:=#[dT,sT] }) (elem:TypeId) (k:Nat) (hu:P.underlying dT=Ac (.slice elem)) (aV:(P.info? elem).map (·.size)=Ac k)
  (g off dLen dCap:Nat) (ad:Addr) (sLen sCap:Nat) (hd:a.eval d = .slice (Ac ⟨g,off,Ab⟩) dLen dCap) (hs:a.eval s = .slice (Ac ad) sLen sCap)
  (cur:List Value) (t:TypeId) (hg:w.heap[g]? = Ac (.cells cur.toArray t (0,0))) (cs:List Value) (hn:cs.length=Nat.min sLen dLen * k)
  (hsrc:∀ j v,cs[j]? = Ac v->w.cell? (ad.add j)=Ac v) (hfit:off+cs.length<=cur.length) (h1:∀ v∈cs,v.oneCell'=true)
  (h:∀ w',Hid (w'.heap[g]? = Ac (.cells (splice cur off cs).toArray t (0,0)))->w.grownBy w' (Ac g)->K (a.put o.dst (goInt (Nat.min sLen dLen))) w'):o.wp P a w K Q:=by
 have eF:=Yk (P:=P) w dT sT o.type elem g off dLen dCap ad sLen sCap k cur.toArray t cs hu aV hg hn hsrc (by simpa using hfit) h1;have h2:Hid ((w.setRow g (cur.toArray.toList.take off ++ cs ++ cur.toArray.toList.drop (off+cs.length)).toArray).heap[g]? = Ac (.cells (splice cur off cs).toArray t (0,0))):=show _=_ by simpa [splice] using setRow_heap w g _ _ t _ hg
 have h3:=h _ h2 (Ws w g _);unfold Oper.wp execOp;simp only [ho,resolve,invoke,builtin,Sem.run_bind,Sem.run_pure,Result.andThen_ok,List.map_toArray,List.map_cons,List.map_nil,hd,hs,eF];exact h3
theorem Na (w:World) {ops:Array Oper} {rest:List Oper} {o:Oper} {a:Act} {Q:Exit->Act->World->Prop} (cU:o.guard=Ab) (d s:Operand) (dT sT:TypeId)
  (ho:o.op = .call { callee:=.builtin .copy,args:=#[d,s],argTypes:=#[dT,sT] }) (elem:TypeId) (k:Nat) (hu:P.underlying dT=Ac (.slice elem)) (aV:(P.info? elem).map (·.size)=Ac k)
  (g off dLen dCap:Nat) (ad:Addr) (sLen sCap:Nat) (hd:a.eval d = .slice (Ac ⟨g,off,Ab⟩) dLen dCap) (hs:a.eval s = .slice (Ac ad) sLen sCap)
  (cur:List Value) (t:TypeId) (hg:w.heap[g]? = Ac (.cells cur.toArray t (0,0))) (cs:List Value) (hn:cs.length=Nat.min sLen dLen * k)
  (hsrc:∀ j v,cs[j]? = Ac v->w.cell? (ad.add j)=Ac v) (hfit:off+cs.length<=cur.length) (h1:∀ v∈cs,v.oneCell'=true)
  (h:∀ w',Hid (w'.heap[g]? = Ac (.cells (splice cur off cs).toArray t (0,0)))->w.grownBy w' (Ac g)->wpList P ops Q rest (a.put o.dst (goInt (Nat.min sLen dLen))) w'):wpList P ops Q (o :: rest) a w :=
 wpList_plain cU fun _ hK=>Ta w d s dT sT ho elem k hu aV g off dLen dCap ad sLen sCap hd hs cur t hg cs hn hsrc hfit h1 fun w' h2 h3=>hK _ _ (h w' h2 h3)
theorem Pi (w:World) {ops:Array Oper} {o:Oper} {a:Act} {K:Act->World->Prop} {Q:Exit->Act->World->Prop} {EE:Prop} (cU:o.guard=Ab) (d s:Operand) (dT sT:TypeId)
  (ho:o.op = .call { callee:=.builtin .copy,args:=#[d,s],argTypes:=#[dT,sT] }) (elem:TypeId) (k:Nat) (hu:P.underlying dT=Ac (.slice elem)) (aV:(P.info? elem).map (·.size)=Ac k)
  (g off dLen dCap:Nat) (ad:Addr) (sLen sCap:Nat) (hd:a.eval d = .slice (Ac ⟨g,off,Ab⟩) dLen dCap) (hs:a.eval s = .slice (Ac ad) sLen sCap)
  (cur:List Value) (t:TypeId) (hg:w.heap[g]? = Ac (.cells cur.toArray t (0,0))) (cs:List Value) (hn:cs.length=Nat.min sLen dLen * k)
  (hsrc:∀ j v,cs[j]? = Ac v->w.cell? (ad.add j)=Ac v) (hfit:off+cs.length<=cur.length) (h1:∀ v∈cs,v.oneCell'=true)
  (h:∀ w',Hid (w'.heap[g]? = Ac (.cells (splice cur off cs).toArray t (0,0)))->w.grownBy w' (Ac g)->K (a.put o.dst (goInt (Nat.min sLen dLen))) w') :
  if Region.wanted o (yielded ops a.tmps)=true then Oper.wp P o a w K Q else EE:=by
 have hw:Region.wanted o (yielded ops a.tmps)=true:=by simp [Region.wanted,cU]
 rw [if_pos hw];exact Ta w d s dT sT ho elem k hu aV g off dLen dCap ad sLen sCap hd hs cur t hg cs hn hsrc hfit h1 h
end
section
variable {α:Type} {e:Enc α} {E:TypeId} {w:World} {base g n cap:Nat} {l:List α}
theorem Ow.row (h:Ow e E w base (Aa (Ac ⟨g,0,Ab⟩) n cap) l) :
  l.length=n/\base<=g/\n<=cap/\cap<=maxLen /\ ∃ cur:List Value,w.heap[g]? = Ac (.cells cur.toArray E (0,0))/\cur.length=cap * e.sz/\cur.take (n * e.sz)=l.flatMap e.cells:=by
 rcases h.2 with ⟨h1,_⟩ | ⟨g',cap',cur,hv,hg,hh,hc,hm,hs,ht⟩
 ·simp at h1
 ·simp only [Value.slice.injEq,Option.some.injEq,Addr.mk.injEq,and_true] at hv;obtain ⟨rfl,rfl,rfl⟩:=hv;exact ⟨rfl,hg,hc,hm,cur.toList,by simpa using hh,by simpa using hs,ht⟩
theorem Ow.of_row {cur:List Value} (hg:w.heap[g]? = Ac (.cells cur.toArray E (0,0))) (hc:cur.length=cap * e.sz) (ht:cur.take (l.length * e.sz)=l.flatMap e.cells) (hb:base<=g) (hn:l.length<=cap) (hm:cap<=maxLen) :
  Ow e E w base (Aa (Ac ⟨g,0,Ab⟩) l.length cap) l :=
 ⟨e.flat_length l,.inr ⟨g,cap,cur.toArray,rfl,hb,hg,hn,hm,by simpa using hc,by simpa using ht⟩⟩
end
theorem Aal {α:Type} (R X Y:List α) (a:Nat) (h:a+X.length+Y.length<=R.length):(splice (splice R a X) (a+X.length) Y).take (a+X.length+Y.length)=R.take a ++ X ++ Y:=by
 have h0:(R.take a).length=a:=by rw [Az];omega
 have h1:(splice R a X).take (a+X.length)=R.take a ++ X:=by
  unfold splice;rw [<-List.append_assoc,List.take_left' (by rw [Bd,h0])]
 unfold splice at h1 ⊢;rw [h1,<-List.append_assoc,List.take_left' (by rw [Bd,Bd,h0])]
theorem Yl {α:Type} (C X Y:List α) (a:Nat) (h:a+X.length+Y.length<=C.length):(splice (splice C (a+X.length) Y) a X).take (a+X.length+Y.length)=C.take a ++ X ++ Y:=by
 have h0:(C.take a).length=a:=by rw [Az];omega
 have h1:(splice C (a+X.length) Y).take a=C.take a:=by
  unfold splice;rw [List.take_append_of_le_length (by rw [Az];omega),List.take_take];congr 1;omega
 have h2:(splice C (a+X.length) Y).drop (a+X.length)=Y ++ C.drop (a+X.length+Y.length):=by
  unfold splice;rw [List.drop_left' (by rw [Az];omega)]
 show ((splice C (a+X.length) Y).take a ++ (X ++ (splice C (a+X.length) Y).drop (a+X.length))).take _=_;rw [h1,h2,<-List.append_assoc,<-List.append_assoc,List.take_left' (by rw [Bd,Bd,h0])]
theorem Nb {α:Type} (e:Enc α) (l:List α) (i:Nat) (hi:i<=l.length) (x:α) :
  (l.take i ++ x :: l.drop i).flatMap e.cells=(l.flatMap e.cells).take (i * e.sz) ++ e.cells x ++ (l.flatMap e.cells).drop (i * e.sz):=by
 have hl:l.flatMap e.cells=(l.take i).flatMap e.cells ++ (l.drop i).flatMap e.cells:=by rw [<-List.flatMap_append,List.take_append_drop]
 have h0:((l.take i).flatMap e.cells).length=i * e.sz:=by rw [e.flat_length,Az,Nat.min_eq_left hi]
 rw [List.flatMap_append,List.flatMap_cons,hl,List.take_left' h0,List.drop_left' h0,List.append_assoc]
section
variable {P:Program}
theorem N4 (w:World) {ops:Array Oper} {rest:List Oper} {o:Oper} {a:Act} {Q:Exit->Act->World->Prop} (cU:o.guard=Ab) (s x:Operand) (t tn:TypeId)
  (ho:o.op = .call { callee:=.builtin .append,args:=#[s,x],argTypes:=#[t,tn] }) (E:TypeId) (i:TypeInfo) (z:Value) (sz bytes:Nat) (kn kq:IntKind)
  (ht:P.underlying t=Ac (.slice E)) (htn:P.underlying tn=Ac (.int kn)) (hi:P.info? E=Ac i) (hz:i.zero=Ac z) (bY:i.size=sz) (cM:i.bytes=bytes) (hzs:z.cells.size=sz) (aV:0<sz)
  (ad:Addr) (n cap:Nat) (olds:List Value) (hs:a.eval s = .slice (Ac ad) n cap) (k:Nat) (m:Int) (hm:m=k) (hx:a.eval x = .int kq m)
  (mV:olds.length=n * sz) (hold:∀ j u,olds[j]? = Ac u->w.cell? (ad.add j)=Ac u) (h0:0<k) (hg:cap<n+k) (h1:n+k<=3000000) (hb:bytes<=10000) (N:Nat) (hN:N=n+k)
  (h:∀ (w':World) (c:Nat) (R:List Value),Hid (w'.heap[w.heap.size]? = Ac (.cells R.toArray E (0,0)))->Hid (R.length=c * sz)->Hid (R.take (n * sz)=olds)->N<=c->c<=9223372036854775807->w.grownBy w' Ab->w.heap.size<w'.heap.size ->
   wpList P ops Q rest (a.put o.dst (.slice (Ac ⟨w,0,Ab⟩) N c)) w'):wpList P ops Q (o :: rest) a w:=by
 subst hm;subst hN;have aH:(n+k) * bytes<=3000000 * 10000:=Nat.mul_le_mul h1 hb;have hkb:k * bytes<=(n+k) * bytes:=Nat.mul_le_mul_right _ Bl;have eF:=Lib.run_append_grow_zeros (P:=P) w t tn o.type E i z kq kn ht htn hi hz (Ac ad) n cap olds
  (run_firstCells_some w.drew i.size n ad n cap olds (by rw [bY];exact mV) (fun j u hu=>hold j u hu)) k h0 Bl hg Bl (by rw [cM];omega) (by rw [cM];exact growslice_fits hg Bl)
 have tQ:=grownCap_ge w (n+k) cap E;have qB:grownCap w (n+k) cap E<=maxLen:=grownCap_le_maxLen w (n+k) cap E (by simp [maxLen];omega);simp only [maxLen] at qB;have h2:=h (w.drew.alloc (.cells (olds.toArray ++ Builtin.zeroCells z.cells k ++ Builtin.zeroCells z.cells (grownCap w (n+k) cap E - (n+k))) E)) (grownCap w (n+k) cap E) (olds ++ (Builtin.zeroCells z.cells k).toList ++ (Builtin.zeroCells z.cells (grownCap w (n+k) cap E - (n+k))).toList)
  (by
   unfold Hid
   have:=heap_alloc_new w.drew (.cells (olds.toArray ++ Builtin.zeroCells z.cells k ++ Builtin.zeroCells z.cells (grownCap w (n+k) cap E - (n+k))) E)
   have e:(olds ++ (Builtin.zeroCells z.cells k).toList ++ (Builtin.zeroCells z.cells (grownCap w (n+k) cap E - (n+k))).toList).toArray=olds.toArray ++ Builtin.zeroCells z.cells k ++ Builtin.zeroCells z.cells (grownCap w (n+k) cap E - (n+k)):=Bn;rw [e];exact this)
  (by
   unfold Hid;simp only [Bd,Array.length_toList,size_zeroCells,mV,hzs];rw [<-Nat.add_mul,<-Nat.add_mul];congr 1;omega)
  (by unfold Hid;rw [List.append_assoc,<-mV,List.take_left]) tQ qB
  ⟨rfl,rfl,rfl,Bn,fun _ bJ _=>Below.heap_alloc w.drew _ _ bJ⟩ Bn
 refine wpList_plain cU fun _ hK=>?_;unfold Oper.wp execOp;simp only [ho,resolve,invoke,builtin,Sem.run_bind,Sem.run_pure,Result.andThen_ok,List.map_toArray,List.map_cons,List.map_nil,hs,hx,eF];exact hK _ _ h2
end
theorem Aam {w w':World} (h:w.grownBy w' Ab) (row:Option Nat):w.grownBy w' row:=⟨h.os,h.tape,h.output,h.size,fun k hk _=>h.block k hk Bn⟩
theorem Vr {w w1 w2:World} {row:Option Nat} {G:Nat} (h:w.grownBy w1 row) (h2:w1.grownBy w2 (Ac G)) (hG:w<=G):w.grownBy w2 row :=
 ⟨h2.os.trans h.os,h2.tape.trans h.tape,h2.output.trans h.output,Ah h.size h2.size,fun k hk aC=>(h2.block k (Ai hk h.size) (fun e=>by injection e with e;omega)).trans (h.block k hk aC)⟩
theorem Tb {w w':World} {row:Option Nat} (h:w.drew.grownBy w' row):w.grownBy w' row:=⟨h.os,h.tape,h.output,h.size,h.block⟩
theorem Ym {w w':World} {row:Option Nat} (hg:w.grownBy w' row) {g:Nat} {o:Obj} (h:w.heap[g]? = Ac o) (aC:Ac g≠row):w'.heap[g]? = Ac o :=
 (hg.block g (Array.getElem?_eq_some_iff.1 h).1 aC).trans h
theorem Ma {w:World} {g:Nat} {R:List Value} {E:TypeId} {o:Nat} (h:w.heap[g]? = Ac (.cells R.toArray E (0,0))) (xs:List Value) (hx:∀ j u,xs[j]? = Ac u->R[o+j]? = Ac u) :
  ∀ j u,xs[j]? = Ac u->w.cell? ((⟨g,o,Ab⟩:Addr).add j)=Ac u:=by
 intro j u hu;have e:((⟨g,o,Ab⟩:Addr).add j)=⟨g,o+j,Ab⟩:=by unfold Addr.add;split<;>simp_all
 rw [e,cell_of_row _ _ (o+j) _ _ (0,0) h];simpa using hx j u hu
theorem Gi {α:Type} (C X:List α) (a:Nat) (h:a+X.length<=C.length):(splice C a X).length=C.length:=by
 unfold splice;simp only [Bd,Az,List.length_drop];omega
section
variable {α:Type} (e:Enc α) (l:List α) (i:Nat) (hi:i<=l.length) (x:α)
include hi
theorem Jr:(l.take i ++ x :: l.drop i).length=l.length+1:=by simp;omega
omit hi in
theorem Rt:((l.flatMap e.cells).drop (i * e.sz)).length=(l.length - i) * e.sz:=by rw [List.length_drop,e.flat_length,Nat.sub_mul]
theorem Tc:i * e.sz+(e.cells x).length+((l.flatMap e.cells).drop (i * e.sz)).length=(l.length+1) * e.sz:=by
 rw [Rt e l i,e.len,<-Nat.succ_mul,<-Nat.add_mul];congr 1;omega
theorem Yn (C:List Value) (hC:C.take (l.length * e.sz)=l.flatMap e.cells) (hl:(l.length+1) * e.sz<=C.length) :
  (splice (splice C ((i+1) * e.sz) ((l.flatMap e.cells).drop (i * e.sz))) (i * e.sz) (e.cells x)).take ((l.length+1) * e.sz)=(l.take i ++ x :: l.drop i).flatMap e.cells /\
  (splice (splice C ((i+1) * e.sz) ((l.flatMap e.cells).drop (i * e.sz))) (i * e.sz) (e.cells x)).length=C.length:=by
 have hs:=Tc e l i hi x;have h1:(i+1) * e.sz=i * e.sz+(e.cells x).length:=by rw [e.len,Nat.succ_mul]
 have h2:C.take (i * e.sz)=(l.flatMap e.cells).take (i * e.sz):=by
  rw [<-hC,List.take_take];congr 1;exact (Nat.min_eq_left (Nat.mul_le_mul_right _ hi)).symm
 constructor
 ·rw [h1,<-hs,Yl _ _ _ _ Bl,Nb e l i hi x,h2]
 ·rw [Gi,Gi]
  ·rw [h1];omega
  ·rw [Gi _ _ _ (by rw [h1];omega)];omega
theorem Aan (R:List Value) (hR:R.take (i * e.sz)=(l.flatMap e.cells).take (i * e.sz)) (hl:(l.length+1) * e.sz<=R.length) :
  (splice (splice R (i * e.sz) (e.cells x)) ((i+1) * e.sz) ((l.flatMap e.cells).drop (i * e.sz))).take ((l.length+1) * e.sz)=(l.take i ++ x :: l.drop i).flatMap e.cells /\
  (splice (splice R (i * e.sz) (e.cells x)) ((i+1) * e.sz) ((l.flatMap e.cells).drop (i * e.sz))).length=R.length:=by
 have hs:=Tc e l i hi x;have h1:(i+1) * e.sz=i * e.sz+(e.cells x).length:=by rw [e.len,Nat.succ_mul]
 constructor
 ·rw [h1,<-hs,Aal _ _ _ _ Bl,Nb e l i hi x,hR]
 ·rw [Gi,Gi]
  ·omega
  ·rw [Gi _ _ _ Bl,h1];omega
end
structure Entry where
 prio:Int
 seq:Int
 run:Int
 task:Int
deriving DecidableEq,Inhabited
@[go_sem] abbrev Hd (x:Entry) (_s:Unit):Value:=.agg #[.int .i64 x.prio,.int .i64 x.seq,.int .i64 x.run,.int .i64 x.task]
abbrev Bx:Dt Entry:=Dt.flat (fun q=>[.int .i64 q.1.prio,.int .i64 q.1.seq,.int .i64 q.1.run,.int .i64 q.1.task]) 4 (fun _=>rfl) (fun q u hu=>by simp at hu;rcases hu with rfl | rfl | rfl | rfl<;>rfl)
def Jh (_:Entry):Nat:=0
theorem RdL.entry {w:World} {B:Nat} {A:Option Addr} {n c:Nat} {l:List (Entry)} (h:RdL Bx w B (Aa A n c) l) {k:Nat} (hk:k<l.length) :
  ∃ b o,∃ _s:Unit,A=Ac ⟨b,o,Ab⟩/\b<B/\Bx.rd w B l[k] _s/\w.cell? ⟨b,o+k * 4,Ab⟩=Ac (J U l[k].prio)/\w.cell? ⟨b,o+k * 4+1,Ab⟩=Ac (J U l[k].seq)/\w.cell? ⟨b,o+k * 4+2,Ab⟩=Ac (J U l[k].run)/\w.cell? ⟨b,o+k * 4+3,Ab⟩=Ac (J U l[k].task):=by
 obtain ⟨b,o,s,rfl,hb,hc,hr⟩:=h.at_ k hk;exact ⟨b,o,s,rfl,hb,hr,hc 0 _ rfl,hc 1 _ rfl,hc 2 _ rfl,hc 3 _ rfl⟩
theorem Foc.entry {w:World} {b o n c j:Nat} {rs:List ((Entry)×Unit)} {G1 Fx G2:List Nat} {x:Entry} {s:Unit} (h:Foc Bx w b o n c rs j G1 Fx G2 x s) :
  w.cell? ⟨b,o+j * 4,Ab⟩=Ac (J U x.prio)/\w.cell? ⟨b,o+j * 4+1,Ab⟩=Ac (J U x.seq)/\w.cell? ⟨b,o+j * 4+2,Ab⟩=Ac (J U x.run)/\w.cell? ⟨b,o+j * 4+3,Ab⟩=Ac (J U x.task):=⟨h.cells 0 _ rfl,h.cells 1 _ rfl,h.cells 2 _ rfl,h.cells 3 _ rfl⟩
def C8 (x:List Entry):Nat:=E6 Jh x
theorem RdL.entryS {w:World} {B:Nat} {A:Option Addr} {n c:Nat} {l:List (List Entry)} (h:RdL (Dt.list Bx) w B (Aa A n c) l) {k:Nat} (hk:k<l.length) :
  ∃ b o,∃ s:Sl,A=Ac ⟨b,o,Ab⟩/\b<B/\(Dt.list Bx).rd w B l[k] s/\w.cell? ⟨b,o+k,Ab⟩=Ac (Aa s.a s.n s.c):=by
 obtain ⟨b,o,s,rfl,hb,hc,hr⟩:=h.at_ k hk;exact ⟨b,o,s,rfl,hb,hr,(by have hh:=hc 0 _ rfl;rw [show k * (Dt.list Bx).enc.sz=k from Nat.mul_one k] at hh;exact hh)⟩
theorem Foc.entryS {w:World} {b o n c j:Nat} {rs:List ((List Entry)×Sl)} {G1 Fx G2:List Nat} {x:List Entry} {s:Sl} (h:Foc (Dt.list Bx) w b o n c rs j G1 Fx G2 x s) :
  w.cell? ⟨b,o+j,Ab⟩=Ac (Aa s.a s.n s.c):=(by have hh:=h.cells 0 _ rfl;rw [show j * (Dt.list Bx).enc.sz=j from Nat.mul_one j] at hh;exact hh)
theorem Ko:(Am.info? 96).map (fun i=>(i.zero,i.size,i.bytes))=Ac (Ac (Aa Ab 0 0),1,24):=Bm
@[go_sem] abbrev Vs (x:Edge) (_s:Unit):Value:=.agg #[.int .i64 x.fr,.int .i64 x.to]
abbrev Dv:Dt Edge:=Dt.flat (fun q=>[.int .i64 q.1.fr,.int .i64 q.1.to]) 2 (fun _=>rfl) (fun q u hu=>by simp at hu;rcases hu with rfl | rfl<;>rfl)
def D4 (_:Edge):Nat:=0
def Td (x:Edge):Prop:=Wf x.fr/\Wf x.to
def Cq (_:Edge):Nat:=2
def Kf (k:Int) (_:Edge):Edge:=⟨k,k+1⟩
theorem K3 (x:Edge):Cq x<=13 * (D4 x+1):=by
 unfold Cq D4;omega
theorem Aao (x:Edge) (s:Unit) (w:World) (hl:D4 x<=2000000) (h:Dv.rd w w x s) :
  Calls Am 247 #[Vs x s] w (Di Dv Vs x w):=by
 have cW:∀ W,Below w w W->Dv.rd W W x s:=fun W hW=>Dv.rd_more (Dv.rd_below h hW) hW.size;go_enter Tryz.func247,Tryz.ntmps247;go_wp2;refine bodyPost_ret (v:=Vs x ()) ?_ rfl ?_
 ·simp [Vs,results,Tryz.results247,go_sem]
 ·exact ⟨(),[],rfl,rfl,(fun _ h=>by cases h),by repeat (first | (with_reducible exact Br _ _) | refine Ad ?_ Bo _ | refine Ae ?_ Bo _)⟩
theorem Aap (x y:Edge) (s r:Unit) (w:World) (hl:D4 x<=2000000) (hl':D4 y<=2000000) (h:Dv.rd w w x s) (h':Dv.rd w w y r) :
  Calls Am 248 #[Vs x s,Vs y r] w fun e w'=>e = .returned (.bool (decide (x=y)))/\Below w w w':=by
 have cW:∀ W,Below w w W->Dv.rd W W x s:=fun W hW=>Dv.rd_more (Dv.rd_below h hW) hW.size;have cM:∀ W,Below w w W->Dv.rd W W y r:=fun W hW=>Dv.rd_more (Dv.rd_below h' hW) hW.size;by_cases h0:x.fr=y.fr;case neg =>
  have t0:(x.fr != y.fr)=true:=by rw [bne_iff_ne];exact h0
  have H:=Bq (show decide (x=y)=false by simp only [decide_eq_false_iff_not];intro e;exact h0 (by rw [e]));clear h0;go_enter Tryz.func248,Tryz.ntmps248;go_wp2;go_ret;exact ⟨Bv (by first | exact H.out.symm | rfl),by repeat (first | exact Br _ _ | refine Ae ?_ Bo _)⟩
 have t0:(x.fr != y.fr)=false:=by simp [h0]
 have H0:=Bq h0;clear h0;by_cases h1:x.to=y.to;case neg =>
  have t1:(x.to != y.to)=true:=by rw [bne_iff_ne];exact h1
  have H:=Bq (show decide (x=y)=false by simp only [decide_eq_false_iff_not];intro e;exact h1 (by rw [e]));clear h1;go_enter Tryz.func248,Tryz.ntmps248;go_wp2;go_ret;exact ⟨Bv (by first | exact H.out.symm | rfl),by repeat (first | exact Br _ _ | refine Ae ?_ Bo _)⟩
 have t1:(x.to != y.to)=false:=by simp [h1]
 have H1:=Bq h1;clear h1;have H:=Bq (show decide (x=y)=true by
  simp only [decide_eq_true_eq];have hh:=And.intro H0.out H1.out;obtain ⟨e0,e1⟩:=hh;cases x;cases y;simp only at e0 e1;subst e0 e1;rfl)
 go_enter Tryz.func248,Tryz.ntmps248;go_wp2;go_ret;exact ⟨Bv (by first | exact H.out.symm | rfl),by repeat (first | exact Br _ _ | refine Ae ?_ Bo _)⟩
theorem RdL.edge {w:World} {B:Nat} {A:Option Addr} {n c:Nat} {l:List (Edge)} (h:RdL Dv w B (Aa A n c) l) {k:Nat} (hk:k<l.length) :
  ∃ b o,∃ _s:Unit,A=Ac ⟨b,o,Ab⟩/\b<B/\Dv.rd w B l[k] _s/\w.cell? ⟨b,o+k * 2,Ab⟩=Ac (J U l[k].fr)/\w.cell? ⟨b,o+k * 2+1,Ab⟩=Ac (J U l[k].to):=by
 obtain ⟨b,o,s,rfl,hb,hc,hr⟩:=h.at_ k hk;exact ⟨b,o,s,rfl,hb,hr,hc 0 _ rfl,hc 1 _ rfl⟩
theorem Ow.c_edge {E:TypeId} {w:World} {base g n cap:Nat} {l:List ((Edge)×Unit)} (h:Ow Dv.enc E w base (Aa (Ac ⟨g,0,Ab⟩) n cap) l) {k:Nat} (hk:k<l.length) :
  w.cell? ⟨g,k * 2,Ab⟩=Ac (J U l[k].1.fr)/\w.cell? ⟨g,k * 2+1,Ab⟩=Ac (J U l[k].1.to):=by
 rcases h.form with ⟨h1,_⟩ | ⟨g',cap',hv,_,_,_,_,_,hc⟩
 ·simp at h1
 ·simp only [Value.slice.injEq,Option.some.injEq,Addr.mk.injEq,and_true] at hv;obtain ⟨rfl,_,_⟩:=hv;exact ⟨hc k hk 0 _ rfl,hc k hk 1 _ rfl⟩
theorem Foc.edge {w:World} {b o n c j:Nat} {rs:List ((Edge)×Unit)} {G1 Fx G2:List Nat} {x:Edge} {s:Unit} (h:Foc Dv w b o n c rs j G1 Fx G2 x s) :
  w.cell? ⟨b,o+j * 2,Ab⟩=Ac (J U x.fr)/\w.cell? ⟨b,o+j * 2+1,Ab⟩=Ac (J U x.to):=⟨h.cells 0 _ rfl,h.cells 1 _ rfl⟩
theorem Yo (l:List (Edge)) (s:Sl) (left:Int) (w:World) (h0:0<=left) (h1:left<=2000000) (hw:wfL Td l) (h:RdL Dv w w s.v l) :
  Calls Am 195 #[Aa s.a s.n s.c,J U left] w (Wj left (E6 D4 l) w):=by
 obtain ⟨A,n,c⟩:=s;obtain ⟨A',c',hv,-⟩:=h.form;simp only [Sl.v,Value.slice.injEq] at hv;obtain ⟨rfl,rfl,rfl⟩:=hv;have cR:=hw.1;by_cases aA:left<l.length
 ·go_enter Tryz.func195,Tryz.ntmps195;go_wp2;go_ret;exact ⟨-1,rfl,.inl rfl,Br _ _⟩
 go_enter Tryz.func195,Tryz.ntmps195;go_wp2;go_ret;exact ⟨_,rfl,.inr ⟨Bl,by rw [Fn (cnt:=D4) (fun _=>rfl) l];omega⟩,Br _ _⟩
theorem Yp (l l':List (Edge)) (s s':Sl) (w:World) (hl:E6 D4 l<=2000000) (hl':E6 D4 l'<=2000000) (h:RdL Dv w w s.v l) (h':RdL Dv w w s'.v l') :
  Calls Am 220 #[Aa s.a s.n s.c,Aa s'.a s'.n s'.c] w fun e w'=>e = .returned (.bool (decide (l=l')))/\Below w w w':=by
 obtain ⟨A,n,c⟩:=s;obtain ⟨A0,c0,hv,-⟩:=h.form;simp only [Sl.v,Value.slice.injEq] at hv;obtain ⟨rfl,rfl,rfl⟩:=hv;obtain ⟨A',n',c'⟩:=s';obtain ⟨A0,c0,hv,-⟩:=h'.form;simp only [Sl.v,Value.slice.injEq] at hv;obtain ⟨rfl,rfl,rfl⟩:=hv;have cR:l.length<=2000000:=Ah (Ck _ _) hl;have hll':l'.length<=2000000:=Ah (Ck _ _) hl';have gF:∀ k (hk:k<l.length),D4 l[k]<=2000000:=fun k hk=>by have:=Ds (cnt:=D4) (Aw hk);omega
 have hcc':∀ k (hk:k<l'.length),D4 l'[k]<=2000000:=fun k hk=>by have:=Ds (cnt:=D4) (Aw hk);omega
 clear hl hl';by_cases aC:l.length=l'.length
 ·have bS:((l.length:Int) != (l'.length:Int))=false:=by simp [aC]
  have Hne:=Bq aC;clear aC;go_enter Tryz.func220,Tryz.ntmps220;go_wp2;go_loopw [5] (fun i wr=>∃ k:Nat,k<=l.length/\i = J U k/\Hid (l.take k=l'.take k)/\Below w w wr) (fun i _=>l.length - (intOf i).toNat);case atStart=>exact ⟨0,Ag _,rfl,rfl,Br _ _⟩
  case round =>
   obtain ⟨k,hk,rfl,jW,hb⟩:=hrel;by_cases aA:k<l.length
   ·have eP:k<l'.length:=by rw [<-Hne.out];exact aA
    obtain ⟨b,o,s,rfl,aH,hr,c0,c1⟩:=(h.below hb).edge aA;obtain ⟨b',o',s',rfl,bI,nX,d0,d1⟩:=(h'.below hb).edge eP;have hx:∀ W,Below wr wr W->Dv.rd W W l[k] s:=fun W hW=>Dv.rd_more (Dv.rd_below (Dv.rd_more hr hb.size) hW) hW.size;have eH:∀ W,Below wr wr W->Dv.rd W W l'[k] s':=fun W hW=>Dv.rd_more (Dv.rd_below (Dv.rd_more nX hb.size) hW) hW.size;go_wp2;go_still_tail 8,Bm;go_wp2_with (go_at_call 248;refine (Aap l[k] l'[k] s s' _ (gF k aA) (hcc' k eP) (hx _ (by first | exact Br _ _ | exact (Br _ _).drew)) (eH _ (by first | exact Br _ _ | exact (Br _ _).drew))).mono ?_;rintro e w1 ⟨rfl,aN⟩)
    ·rename_i hd;go_ret;refine ⟨Bv ?_,(hb.drew).trans (aN.mono hb.size)⟩;simp only [Bool.false_eq,decide_eq_false_iff_not];intro e;subst e;simp at hd
    ·rename_i hd;refine ⟨⟨k+1,Bl,by go_num,?_,(hb.drew).trans (aN.mono hb.size)⟩,by simp [intOf];omega⟩;show List.take (k+1) l=List.take (k+1) l';rw [Cn l k aA,Cn l' k eP,jW.out];simp at hd;rw [hd]
   ·go_wp2;go_ret;refine ⟨Bv ?_,hb⟩;have h1:=jW.out;rw [Bg Bl,Bg (by rw [<-Hne.out];omega)] at h1;simp [h1]
 ·have bS:((l.length:Int) != (l'.length:Int))=true:=by simp;omega
  go_enter Tryz.func220,Tryz.ntmps220;go_wp2;go_ret;refine ⟨Bv ?_,Br _ _⟩;simp only [Bool.false_eq,decide_eq_false_iff_not];intro e;exact aC (by rw [e])
theorem Aaq:(Am.info? 199).map (fun i=>(i.zero,i.size,i.bytes))=Ac (Ac (.agg #[J U 0,J U 0]),2,16):=Bm
theorem Yq (l:List (Edge)) (s:Sl) (w:World) (hl:E6 D4 l<=2000000) (h:RdL Dv w w s.v l) :
  Calls Am 219 #[.slice s.a s.n s.c] w (Di (Dt.list Dv) slV l w):=by
 obtain ⟨A,n,c⟩:=s;obtain ⟨A',c',hv,-⟩:=h.form;simp only [Sl.v,Value.slice.injEq] at hv;obtain ⟨rfl,rfl,rfl⟩:=hv;have cR:l.length<=2000000:=Ah (Ck _ _) hl;have gF:∀ k (hk:k<l.length),D4 l[k]<=2000000:=fun k hk=>by have:=Ds (cnt:=D4) (Aw hk);omega
 clear hl;obtain ⟨i0,aL,aS,aP,aQ⟩:=info_parts Aaq;have mN:∀ w:World,(Instr.makeSlice 41 (.int .i64 (l.length:Int)) (.int .i64 (l.length:Int))).run Am w = .ok (.slice (Ac ⟨w,0,Ab⟩) l.length l.length) (w.alloc (.cells (madeCells #[.int .i64 0,.int .i64 0] (l.length * 2)) 199)):=by
  intro w
  have:=run_make (P:=Am) w 41 199 i0 _ Tryz.underlying41 aL aS .i64 .i64 l.length l.length Bl Bl (by rw [aQ];omega) Bl
  rw [aP] at this;simpa [Value.cells] using this
 go_enter Tryz.func219,Tryz.ntmps219;go_wp2;go_loopw [4] (fun i wr=>∃ k:Nat,k<=l.length/\i = .int .i64 k/\Hid (∃ (rs:List ((Edge)×Unit)) (G:List Nat),rs.map (·.1)=l.take k/\Ow Dv.enc 199 wr w (.slice (Ac ⟨w,0,Ab⟩) l.length l.length) (rs ++ List.replicate (l.length - k) (⟨0,0⟩,()))/\Ows Dv wr G rs/\G.Nodup /\ ∀ b∈G,w<b)/\Below w w wr) (fun i _=>l.length - (intOf i).toNat);case atStart=>exact ⟨0,Ag _,rfl,⟨[],[],rfl,by rw [List.nil_append,Nat.sub_zero];exact Ow.made Dv.enc 199 w (⟨0,0⟩,()) l.length Bp (by simp [maxLen];omega) rfl rfl,.nil,List.nodup_nil,fun _ h=>by cases h⟩,(Br _ _).alloc (Bs _) _⟩
 case round =>
  obtain ⟨k,hk,rfl,⟨rs,G,hm,hown,hG,uP,kW⟩,hb⟩:=hrel;have bK:rs.length=k:=by have:=congrArg List.length hm;simpa [Nat.min_eq_left hk] using this
  by_cases aA:k<l.length
  ·obtain ⟨b,o,s,rfl,aH,hr,c0,c1⟩:=(h.below hb).edge aA;have hx:∀ W,Below wr wr W->Dv.rd W W l[k] s:=fun W hW=>Dv.rd_more (Dv.rd_below (Dv.rd_more hr hb.size) hW) hW.size;have aJ:(rs ++ List.replicate (l.length - k) ((⟨0,0⟩,()):(Edge)×Unit)).length=l.length:=by simp;omega
   have Hm:=Bq hm;have Hrl:=Bq bK;clear hm bK;go_wp2_with (go_at_call 247;refine (Aao l[k] s _ (gF k aA) (hx _ (by first | exact Br _ _ | exact (Br _ _).drew))).mono ?_;rintro e w1 ⟨s1,F1,rfl,o1,n1,aN⟩;have fA:=hown.below aN;have hf:=fA.free;obtain ⟨d0,d1⟩:=fA.c_edge (k:=k) (by rw [aJ];exact aA))
   have hp:=Ow.put fA aJ k aA (l[k],s1);have Hp:=Bld.lay hG uP kW aN (r:=(l[k],s1)) o1 n1 (Ai (hown.blk).2 (Bs _)) hp.2;rw [Yg rs _ k l.length Hrl.out aA] at hp;refine ⟨⟨k+1,Bl,by go_num,⟨rs ++ [(l[k],s1)],G ++ F1,?_,hp.1,Hp.1,Hp.2.1,Hp.2.2⟩,(hb.trans (aN.mono hb.size)).grown hp.2 (Ah hb.size aN.size) (fun g hg=>by simp at hg;omega)⟩,by simp [intOf];omega⟩;rw [List.map_append,Hm.out,Cn l k aA];rfl
  ·have bJ:k=l.length:=Bl;subst bJ;rw [Nat.sub_self,List.replicate_zero,List.append_nil] at hown;go_wp2;go_ret;rw [List.take_length] at hm;have hB:Bld Dv 199 wr w (.slice (Ac ⟨w,0,Ab⟩) l.length l.length) rs:=⟨G,by rw [<-bK];exact (by rw [bK];exact hown),hG,uP,fun b aU=>⟨Nat.le_of_lt (kW b aU),by simp [Value.ownBlock];have:=kW b aU;omega⟩⟩
   obtain ⟨F,h1,h2⟩:=hB.owl hm;exact ⟨⟨Ac ⟨w,0,Ab⟩,l.length,l.length⟩,F,rfl,h1,h2,hb⟩
theorem Vb (l:List (Edge)) (s:Sl) (F:List Nat) (k:Int) (w:World) (hl:E6 D4 l<=2000000) (dB:0<=k) (kJ:k<=1000000000) (h:OwL Dv w F s.v l) :
  Calls Am 95 #[Aa s.a s.n s.c,J U k] w (Adl (Dt.list Dv) F (mkL Kf Cq k l) s (k+(En Cq l:Nat)) w):=by
 obtain ⟨A,n,c⟩:=s;obtain ⟨A',c',hv,-⟩:=h.form;simp only [Sl.v,Value.slice.injEq] at hv;obtain ⟨rfl,rfl,rfl⟩:=hv;have cR:l.length<=2000000:=Ah (Ck _ _) hl;have eM:∀ j,En Cq (l.take j)<=26000000:=fun j=>by
  have h1:=Kn Cq l j;have h2:=J8 (num:=Cq) (cnt:=D4) (K:=13) K3 l;omega
 have Hnl:=Bq eM;clear eM hl;go_enter Tryz.func95,Tryz.ntmps95;go_wp2;go_loopw [1,5] (fun q i wr=>∃ (j:Nat) (m:Int),j<=l.length/\i = J U j/\q = J U m/\Hid (m=k+(En Cq (l.take j):Nat))/\OwL Dv wr F (Aa A l.length c) (mkL Kf Cq k (l.take j) ++ l.drop j)/\Chg F w wr) (fun _ i _=>l.length - (intOf i).toNat);case atStart=>exact ⟨0,k,Ag _,rfl,rfl,by show k=_;simp [En],h,Chg.refl _ _⟩
 case round =>
  obtain ⟨j,m,hj,rfl,rfl,hm,ho,hc⟩:=hrel;have hm':=hm.out;have rP:=Hnl.out j;have fR:0<=m:=Bl;have cG:m<=1026000000:=Bl;clear hm' rP;by_cases aA:j<l.length
  ·have aB:(j:Int)<(l.length:Int):=Bl;have aJ:(mkL Kf Cq k (l.take j) ++ l.drop j).length=l.length:=by simp [Hb];omega
   obtain ⟨b,o,rs,s,G1,Fx,G2,rfl,hF,cI,f0⟩:=ho.foc (j:=j) (by rw [aJ];exact aA);rw [Yj Kf Cq k l j aA] at f0;subst hF;have Hrm:=Bq cI;clear cI ho;obtain ⟨c0,c1⟩:=f0.edge;have fr0:=f0.free;go_wp2;obtain ⟨f1,g1⟩:=f0.put ⟨m,m+1⟩ 0 [J U (m),J U (m+1)] (by show 0+2<=2;omega) (fun i hi=>match i,hi with | 0,_=>rfl | 1,_=>rfl | i+2,hi=>absurd hi Bn) (fun i hi hx=>match i,hi,hx with | 0,_,hx=>absurd hx Bn | 1,_,hx=>absurd hx Bn | i+2,hi,_=>absurd hi (by show ¬ (i+2<2);omega)) (fun _ hh=>hh);have hmf:=hm.out;have hown:=f1.owl Hrm.out;have mF:⟨m,m+1⟩=Kf m l[j]:=rfl;have dA:=Abs Kf Cq k l j aA;rw [<-hm.out] at dA;rw [mF,dA] at hown;have jV:(En Cq (l.take (j+1)):Nat)=En Cq (l.take j)+Cq l[j]:=Iz _ _ _ aA;refine ⟨⟨j+1,m+1+1,Bl,by go_num,rfl,?_,hown,(hc).trans (g1.mono (fun _ hh=>Wp hh))⟩,by simp [intOf];omega⟩;have fP:Cq l[j]=2:=rfl;show m+1+1=_;rw [jV,fP];push_cast;omega
  ·have hj':j=l.length:=Bl;subst hj';rw [List.take_length,List.drop_length,List.append_nil] at ho;go_wp2;go_ret;refine ⟨Dc ?_,ho,hc⟩;rw [hm.out,List.take_length]
theorem Vc (l:List (Edge)) (s:Sl) (k:Int) (w:World) (hl:E6 D4 l<=2000000) (dB:0<=k) (kJ:k<=1000000000) (h:RdL Dv w w s.v (mkL Kf Cq k l)) :
  Calls Am 96 #[Aa s.a s.n s.c,J U k] w fun e w'=>e = .returned (J U (k+(En Cq l:Nat)))/\Below w w w':=by
 obtain ⟨A,n,c⟩:=s;obtain ⟨A',c',hv,-⟩:=h.form;simp only [Sl.v,Value.slice.injEq,Hb] at hv;obtain ⟨rfl,rfl,rfl⟩:=hv;have cR:l.length<=2000000:=Ah (Ck _ _) hl;have eM:∀ j,En Cq (l.take j)<=26000000:=fun j=>by
  have h1:=Kn Cq l j;have h2:=J8 (num:=Cq) (cnt:=D4) (K:=13) K3 l;omega
 have aX:∀ (wr:World) (j:Nat) (hj:j<l.length) (m:Int),Below w w wr->m=k+(En Cq (l.take j):Nat) -> ∃ b o,∃ s:Unit,A=Ac ⟨b,o,Ab⟩/\b<w.heap.size/\Dv.rd wr w (Kf m l[j]) s/\wr.cell? ⟨b,o+j * 2,Ab⟩=Ac (J U (m))/\wr.cell? ⟨b,o+j * 2+1,Ab⟩=Ac (J U (m+1)):=by
  intro wr j hj m hb hm;obtain ⟨b,o,s,h1,h2,h3,h4⟩:=(h.below hb).edge (k:=j) (by rw [Hb];exact hj);first | rw [Sm _ _ _ _ _ hj,<-hm] at h3 h4 | rw [Sm _ _ _ _ _ hj,<-hm] at h3
  exact ⟨b,o,s,h1,h2,h3,h4⟩
 have Hc:=Bq aX;have Hnl:=Bq eM;clear aX eM hl;go_enter Tryz.func96,Tryz.ntmps96;go_wp2;go_loopw [1,5] (fun q i wr=>∃ (j:Nat) (m:Int),j<=l.length/\i = J U j/\q = J U m/\Hid (m=k+(En Cq (l.take j):Nat))/\Below w w wr) (fun _ i _=>l.length - (intOf i).toNat);case atStart=>exact ⟨0,k,Ag _,rfl,rfl,by show k=_;simp [En],Br _ _⟩
 case round =>
  obtain ⟨j,m,hj,rfl,rfl,hm,hb⟩:=hrel;have hm':=hm.out;have rP:=Hnl.out j;have fR:0<=m:=Bl;have cG:m<=1026000000:=Bl;clear hm' rP;by_cases aA:j<l.length
  ·have aB:(j:Int)<(l.length:Int):=Bl;obtain ⟨b,o,s,rfl,aH,gB,c0,c1⟩:=Hc.out wr j aA m hb hm.out;go_wp2;have jV:(En Cq (l.take (j+1)):Nat)=En Cq (l.take j)+Cq l[j]:=Iz _ _ _ aA;refine ⟨⟨j+1,m+1+1,Bl,by go_num,rfl,?_,hb⟩,by simp [intOf];omega⟩;have fP:Cq l[j]=2:=rfl;have hmf:=hm.out;show m+1+1=_;rw [jV,fP];push_cast;omega
  ·have hj':j=l.length:=Bl;subst hj';go_wp2;go_ret;refine ⟨Dc ?_,hb⟩;rw [hm.out,List.take_length]
structure Task where
 state:Int
 need:Int
 try_:Int
 until_:Int
deriving DecidableEq,Inhabited
abbrev Ee:Dt Task:=Dt.flat (fun q=>[.int .i64 q.1.state,.int .i64 q.1.need,.int .i64 q.1.try_,.int .i64 q.1.until_]) 4 (fun _=>rfl) (fun q u hu=>by simp at hu;rcases hu with rfl | rfl | rfl | rfl<;>rfl)
def He (_:Task):Nat:=0
theorem RdL.task {w:World} {B:Nat} {A:Option Addr} {n c:Nat} {l:List (Task)} (h:RdL Ee w B (Aa A n c) l) {k:Nat} (hk:k<l.length) :
  ∃ b o,∃ _s:Unit,A=Ac ⟨b,o,Ab⟩/\b<B/\Ee.rd w B l[k] _s/\w.cell? ⟨b,o+k * 4,Ab⟩=Ac (J U l[k].state)/\w.cell? ⟨b,o+k * 4+1,Ab⟩=Ac (J U l[k].need)/\w.cell? ⟨b,o+k * 4+2,Ab⟩=Ac (J U l[k].try_)/\w.cell? ⟨b,o+k * 4+3,Ab⟩=Ac (J U l[k].until_):=by
 obtain ⟨b,o,s,rfl,hb,hc,hr⟩:=h.at_ k hk;exact ⟨b,o,s,rfl,hb,hr,hc 0 _ rfl,hc 1 _ rfl,hc 2 _ rfl,hc 3 _ rfl⟩
theorem Foc.task {w:World} {b o n c j:Nat} {rs:List ((Task)×Unit)} {G1 Fx G2:List Nat} {x:Task} {s:Unit} (h:Foc Ee w b o n c rs j G1 Fx G2 x s) :
  w.cell? ⟨b,o+j * 4,Ab⟩=Ac (J U x.state)/\w.cell? ⟨b,o+j * 4+1,Ab⟩=Ac (J U x.need)/\w.cell? ⟨b,o+j * 4+2,Ab⟩=Ac (J U x.try_)/\w.cell? ⟨b,o+j * 4+3,Ab⟩=Ac (J U x.until_):=⟨h.cells 0 _ rfl,h.cells 1 _ rfl,h.cells 2 _ rfl,h.cells 3 _ rfl⟩
structure DBox (b:Nat) (cs:List Value) (w:World):Prop where
 cell:∀ (j:Nat) (u:Value),cs[j]? = some u->w.cell? ⟨b,j,none⟩=some u
 free:∀ j,w.frozen? ⟨b,j,none⟩=false
 lt:b<w
theorem DBox.new (T:TypeId) (cs:List Value) (w:World) {b:Nat} (hb:b=w):DBox b cs (w.alloc (.cells cs.toArray T)):=by
 subst hb;refine ⟨fun j u hu=>?_,fun j=>by simp [go_sem],Bn⟩
 have:=Pa w cs.toArray T rfl j u (by simpa using hu)
 have e:((⟨w,0,Ab⟩:Addr).add j)=⟨w,j,Ab⟩:=by
  unfold Addr.add;split<;>simp_all
 rw [e] at this;exact this
theorem DBox.keep {b:Nat} {cs:List Value} {w w':World} (h:DBox b cs w) (hs:w.heap.size<=w'.heap.size) (hk:∀ j,w'.cell? ⟨b,j,Ab⟩=w.cell? ⟨b,j,Ab⟩) (hf:∀ j,w'.frozen? ⟨b,j,Ab⟩=w.frozen? ⟨b,j,Ab⟩):DBox b cs w' :=
 ⟨fun j u hu=>(hk j).trans (h.cell j u hu),fun j=>(hf j).trans (h.free j),Ai h.lt hs⟩
theorem DBox.below {b:Nat} {cs:List Value} {w w':World} (h:DBox b cs w) (hb:Below w w w'):DBox b cs w' :=
 h.keep hb.size (fun j=>hb.cell (p:=⟨b,j,Ab⟩) h.lt) (fun j=>hb.frozen (p:=⟨b,j,Ab⟩) h.lt)
theorem DBox.chg {F:List Nat} {b:Nat} {cs:List Value} {w w':World} (h:DBox b cs w) (hc:Chg F w w') (hn:b∉F):DBox b cs w' :=
 h.keep hc.size (fun j=>hc.cell (p:=⟨b,j,Ab⟩) h.lt hn) (fun j=>hc.frozen (p:=⟨b,j,Ab⟩) h.lt hn)
theorem bx1 (w:World) (T1:TypeId) (c1:List Value):∃ W,Hid (W=(w.alloc (.cells c1.toArray T1)))/\DBox (w.heap.size) c1 W/\Below w w W :=
 ⟨_,Bq rfl,DBox.new T1 c1 w Bn,by repeat (first | exact Br _ _ | refine Ae ?_ Bo _)⟩
theorem bx2 (w:World) (T1:TypeId) (c1:List Value) (T2:TypeId) (c2:List Value):∃ W,Hid (W=((w.alloc (.cells c1.toArray T1)).alloc (.cells c2.toArray T2)))/\DBox (w.heap.size) c1 W/\DBox (w.heap.size+1) c2 W/\Below w w W :=
 ⟨_,Bq rfl,(DBox.new T1 c1 w Bn).below ((Br _ _).alloc (Bs _) _),DBox.new T2 c2 (w.alloc (.cells c1.toArray T1)) Bn,by repeat (first | exact Br _ _ | refine Ae ?_ Bo _)⟩
theorem bx3 (w:World) (T1:TypeId) (c1:List Value) (T2:TypeId) (c2:List Value) (T3:TypeId) (c3:List Value):∃ W,Hid (W=(((w.alloc (.cells c1.toArray T1)).alloc (.cells c2.toArray T2)).alloc (.cells c3.toArray T3)))/\DBox (w.heap.size) c1 W/\DBox (w.heap.size+1) c2 W/\DBox (w.heap.size+1+1) c3 W/\Below w w W :=
 ⟨_,Bq rfl,((DBox.new T1 c1 w Bn).below ((Br _ _).alloc (Bs _) _)).below ((Br _ _).alloc (Bs _) _),(DBox.new T2 c2 (w.alloc (.cells c1.toArray T1)) Bn).below ((Br _ _).alloc (Bs _) _),DBox.new T3 c3 ((w.alloc (.cells c1.toArray T1)).alloc (.cells c2.toArray T2)) Bn,by repeat (first | exact Br _ _ | refine Ae ?_ Bo _)⟩
theorem bx4 (w:World) (T1:TypeId) (c1:List Value) (T2:TypeId) (c2:List Value) (T3:TypeId) (c3:List Value) (T4:TypeId) (c4:List Value):∃ W,Hid (W=((((w.alloc (.cells c1.toArray T1)).alloc (.cells c2.toArray T2)).alloc (.cells c3.toArray T3)).alloc (.cells c4.toArray T4)))/\DBox (w.heap.size) c1 W/\DBox (w.heap.size+1) c2 W/\DBox (w.heap.size+1+1) c3 W/\DBox (w.heap.size+1+1+1) c4 W/\Below w w W :=
 ⟨_,Bq rfl,(((DBox.new T1 c1 w Bn).below ((Br _ _).alloc (Bs _) _)).below ((Br _ _).alloc (Bs _) _)).below ((Br _ _).alloc (Bs _) _),((DBox.new T2 c2 (w.alloc (.cells c1.toArray T1)) Bn).below ((Br _ _).alloc (Bs _) _)).below ((Br _ _).alloc (Bs _) _),(DBox.new T3 c3 ((w.alloc (.cells c1.toArray T1)).alloc (.cells c2.toArray T2)) Bn).below ((Br _ _).alloc (Bs _) _),DBox.new T4 c4 (((w.alloc (.cells c1.toArray T1)).alloc (.cells c2.toArray T2)).alloc (.cells c3.toArray T3)) Bn,by repeat (first | exact Br _ _ | refine Ae ?_ Bo _)⟩
theorem bx5 (w:World) (T1:TypeId) (c1:List Value) (T2:TypeId) (c2:List Value) (T3:TypeId) (c3:List Value) (T4:TypeId) (c4:List Value) (T5:TypeId) (c5:List Value):∃ W,Hid (W=(((((w.alloc (.cells c1.toArray T1)).alloc (.cells c2.toArray T2)).alloc (.cells c3.toArray T3)).alloc (.cells c4.toArray T4)).alloc (.cells c5.toArray T5)))/\DBox (w.heap.size) c1 W/\DBox (w.heap.size+1) c2 W/\DBox (w.heap.size+1+1) c3 W/\DBox (w.heap.size+1+1+1) c4 W/\DBox (w.heap.size+1+1+1+1) c5 W/\Below w w W :=
 ⟨_,Bq rfl,((((DBox.new T1 c1 w Bn).below ((Br _ _).alloc (Bs _) _)).below ((Br _ _).alloc (Bs _) _)).below ((Br _ _).alloc (Bs _) _)).below ((Br _ _).alloc (Bs _) _),(((DBox.new T2 c2 (w.alloc (.cells c1.toArray T1)) Bn).below ((Br _ _).alloc (Bs _) _)).below ((Br _ _).alloc (Bs _) _)).below ((Br _ _).alloc (Bs _) _),((DBox.new T3 c3 ((w.alloc (.cells c1.toArray T1)).alloc (.cells c2.toArray T2)) Bn).below ((Br _ _).alloc (Bs _) _)).below ((Br _ _).alloc (Bs _) _),(DBox.new T4 c4 (((w.alloc (.cells c1.toArray T1)).alloc (.cells c2.toArray T2)).alloc (.cells c3.toArray T3)) Bn).below ((Br _ _).alloc (Bs _) _),DBox.new T5 c5 ((((w.alloc (.cells c1.toArray T1)).alloc (.cells c2.toArray T2)).alloc (.cells c3.toArray T3)).alloc (.cells c4.toArray T4)) Bn,by repeat (first | exact Br _ _ | refine Ae ?_ Bo _)⟩
theorem DBox.g1 {b:Nat} {w:World} {u0:Value} (h:DBox b [u0] w):w.cell? ⟨b,0,Ab⟩=Ac u0/\b<w :=
 ⟨h.cell 0 _ rfl,h.lt⟩
theorem DBox.g2 {b:Nat} {w:World} {u0 u1:Value} (h:DBox b [u0,u1] w):w.cell? ⟨b,0,Ab⟩=Ac u0/\w.cell? ⟨b,1,Ab⟩=Ac u1/\b<w :=
 ⟨h.cell 0 _ rfl,h.cell 1 _ rfl,h.lt⟩
theorem DBox.g3 {b:Nat} {w:World} {u0 u1 u2:Value} (h:DBox b [u0,u1,u2] w):w.cell? ⟨b,0,Ab⟩=Ac u0/\w.cell? ⟨b,1,Ab⟩=Ac u1/\w.cell? ⟨b,2,Ab⟩=Ac u2/\b<w :=
 ⟨h.cell 0 _ rfl,h.cell 1 _ rfl,h.cell 2 _ rfl,h.lt⟩
theorem DBox.g4 {b:Nat} {w:World} {u0 u1 u2 u3:Value} (h:DBox b [u0,u1,u2,u3] w):w.cell? ⟨b,0,Ab⟩=Ac u0/\w.cell? ⟨b,1,Ab⟩=Ac u1/\w.cell? ⟨b,2,Ab⟩=Ac u2/\w.cell? ⟨b,3,Ab⟩=Ac u3/\b<w :=
 ⟨h.cell 0 _ rfl,h.cell 1 _ rfl,h.cell 2 _ rfl,h.cell 3 _ rfl,h.lt⟩
theorem DBox.g5 {b:Nat} {w:World} {u0 u1 u2 u3 u4:Value} (h:DBox b [u0,u1,u2,u3,u4] w):w.cell? ⟨b,0,Ab⟩=Ac u0/\w.cell? ⟨b,1,Ab⟩=Ac u1/\w.cell? ⟨b,2,Ab⟩=Ac u2/\w.cell? ⟨b,3,Ab⟩=Ac u3/\w.cell? ⟨b,4,Ab⟩=Ac u4/\b<w :=
 ⟨h.cell 0 _ rfl,h.cell 1 _ rfl,h.cell 2 _ rfl,h.cell 3 _ rfl,h.cell 4 _ rfl,h.lt⟩
theorem DBox.g6 {b:Nat} {w:World} {u0 u1 u2 u3 u4 u5:Value} (h:DBox b [u0,u1,u2,u3,u4,u5] w):w.cell? ⟨b,0,Ab⟩=Ac u0/\w.cell? ⟨b,1,Ab⟩=Ac u1/\w.cell? ⟨b,2,Ab⟩=Ac u2/\w.cell? ⟨b,3,Ab⟩=Ac u3/\w.cell? ⟨b,4,Ab⟩=Ac u4/\w.cell? ⟨b,5,Ab⟩=Ac u5/\b<w :=
 ⟨h.cell 0 _ rfl,h.cell 1 _ rfl,h.cell 2 _ rfl,h.cell 3 _ rfl,h.cell 4 _ rfl,h.cell 5 _ rfl,h.lt⟩
theorem DBox.g7 {b:Nat} {w:World} {u0 u1 u2 u3 u4 u5 u6:Value} (h:DBox b [u0,u1,u2,u3,u4,u5,u6] w):w.cell? ⟨b,0,Ab⟩=Ac u0/\w.cell? ⟨b,1,Ab⟩=Ac u1/\w.cell? ⟨b,2,Ab⟩=Ac u2/\w.cell? ⟨b,3,Ab⟩=Ac u3/\w.cell? ⟨b,4,Ab⟩=Ac u4/\w.cell? ⟨b,5,Ab⟩=Ac u5/\w.cell? ⟨b,6,Ab⟩=Ac u6/\b<w :=
 ⟨h.cell 0 _ rfl,h.cell 1 _ rfl,h.cell 2 _ rfl,h.cell 3 _ rfl,h.cell 4 _ rfl,h.cell 5 _ rfl,h.cell 6 _ rfl,h.lt⟩
theorem DBox.g8 {b:Nat} {w:World} {u0 u1 u2 u3 u4 u5 u6 u7:Value} (h:DBox b [u0,u1,u2,u3,u4,u5,u6,u7] w):w.cell? ⟨b,0,Ab⟩=Ac u0/\w.cell? ⟨b,1,Ab⟩=Ac u1/\w.cell? ⟨b,2,Ab⟩=Ac u2/\w.cell? ⟨b,3,Ab⟩=Ac u3/\w.cell? ⟨b,4,Ab⟩=Ac u4/\w.cell? ⟨b,5,Ab⟩=Ac u5/\w.cell? ⟨b,6,Ab⟩=Ac u6/\w.cell? ⟨b,7,Ab⟩=Ac u7/\b<w :=
 ⟨h.cell 0 _ rfl,h.cell 1 _ rfl,h.cell 2 _ rfl,h.cell 3 _ rfl,h.cell 4 _ rfl,h.cell 5 _ rfl,h.cell 6 _ rfl,h.cell 7 _ rfl,h.lt⟩
theorem DBox.g9 {b:Nat} {w:World} {u0 u1 u2 u3 u4 u5 u6 u7 u8:Value} (h:DBox b [u0,u1,u2,u3,u4,u5,u6,u7,u8] w):w.cell? ⟨b,0,Ab⟩=Ac u0/\w.cell? ⟨b,1,Ab⟩=Ac u1/\w.cell? ⟨b,2,Ab⟩=Ac u2/\w.cell? ⟨b,3,Ab⟩=Ac u3/\w.cell? ⟨b,4,Ab⟩=Ac u4/\w.cell? ⟨b,5,Ab⟩=Ac u5/\w.cell? ⟨b,6,Ab⟩=Ac u6/\w.cell? ⟨b,7,Ab⟩=Ac u7/\w.cell? ⟨b,8,Ab⟩=Ac u8/\b<w :=
 ⟨h.cell 0 _ rfl,h.cell 1 _ rfl,h.cell 2 _ rfl,h.cell 3 _ rfl,h.cell 4 _ rfl,h.cell 5 _ rfl,h.cell 6 _ rfl,h.cell 7 _ rfl,h.cell 8 _ rfl,h.lt⟩
theorem DBox.g11 {b:Nat} {w:World} {u0 u1 u2 u3 u4 u5 u6 u7 u8 u9 u10:Value} (h:DBox b [u0,u1,u2,u3,u4,u5,u6,u7,u8,u9,u10] w):w.cell? ⟨b,0,Ab⟩=Ac u0/\w.cell? ⟨b,1,Ab⟩=Ac u1/\w.cell? ⟨b,2,Ab⟩=Ac u2/\w.cell? ⟨b,3,Ab⟩=Ac u3/\w.cell? ⟨b,4,Ab⟩=Ac u4/\w.cell? ⟨b,5,Ab⟩=Ac u5/\w.cell? ⟨b,6,Ab⟩=Ac u6/\w.cell? ⟨b,7,Ab⟩=Ac u7/\w.cell? ⟨b,8,Ab⟩=Ac u8/\w.cell? ⟨b,9,Ab⟩=Ac u9/\w.cell? ⟨b,10,Ab⟩=Ac u10/\b<w :=
 ⟨h.cell 0 _ rfl,h.cell 1 _ rfl,h.cell 2 _ rfl,h.cell 3 _ rfl,h.cell 4 _ rfl,h.cell 5 _ rfl,h.cell 6 _ rfl,h.cell 7 _ rfl,h.cell 8 _ rfl,h.cell 9 _ rfl,h.cell 10 _ rfl,h.lt⟩
theorem Dt.set4 {α:Type} (d:Dt α) {w:World} {F:List Nat} {x:α} {s:d.S} {b o0 o1 o2 o3:Nat} {u0 u1 u2 u3:Value} (h:d.ow w F x s) (hb:b∉F) :
  d.ow ((((w.setCell ⟨b,o0,Ab⟩ u0).setCell ⟨b,o1,Ab⟩ u1).setCell ⟨b,o2,Ab⟩ u2).setCell ⟨b,o3,Ab⟩ u3) F x s :=
 d.ow_set (d.ow_set (d.ow_set (d.ow_set h (a:=⟨b,o0,Ab⟩) hb u0) (a:=⟨b,o1,Ab⟩) hb u1) (a:=⟨b,o2,Ab⟩) hb u2) (a:=⟨b,o3,Ab⟩) hb u3
def Dq (es:List (Nat×Nat)) (T t:Nat):List Nat:=(List.range T).filter fun s=>decide ((s,t)∈es)
def Fa (es:List (Nat×Nat)) (T t:Nat):List Nat:=(List.range T).filter fun s=>decide ((t,s)∈es)
def Ii (l:List (Nat×Nat)) (q:Nat×Nat) (x:Nat):List Nat:=if q∈l then [x] else []
theorem Wt (es:List (Nat×Nat)) (k t:Nat):Dq es (k+1) t=Dq es k t ++ Ii es (k,t) k:=by
 unfold Dq Ii;rw [List.range_succ,List.filter_append];by_cases h:(k,t)∈es<;>simp [h]
theorem Pj (es:List (Nat×Nat)) (k t:Nat):Fa es (k+1) t=Fa es k t ++ Ii es (t,k) k:=by
 unfold Fa Ii;rw [List.range_succ,List.filter_append];by_cases h:(t,k)∈es<;>simp [h]
theorem Ij (es:List (Nat×Nat)) (T t:Nat):(Dq es T t).length<=T:=by
 have:=List.length_filter_le (fun s=>decide ((s,t)∈es)) (List.range T)
 simpa [Dq] using this
theorem Li (es:List (Nat×Nat)) (T t:Nat):(Fa es T t).length<=T:=by
 have:=List.length_filter_le (fun s=>decide ((t,s)∈es)) (List.range T)
 simpa [Fa] using this
theorem Vt (l:List (Nat×Nat)) (q:Nat×Nat) (x:Nat):(Ii l q x).length<=1:=by
 unfold Ii;split<;>simp
theorem Vu {l l':List (Nat×Nat)} {q:Nat×Nat} {x:Nat} (h:l'=l ++ [q]) (hq:q∉l):Ii l' q x=Ii l q x ++ [x]:=by
 subst h;simp [Ii,hq]
theorem Yr {l l':List (Nat×Nat)} {q e:Nat×Nat} {x:Nat} (h:l'=l ++ [e]) (hq:e≠q):Ii l' q x=Ii l q x:=by
 subst h;simp [Ii,Ne.symm hq]
theorem Abt {p:Plan} (he:Gr p) (hn:p.edges.Nodup) {j:Nat} (hj:j<p.edges.length):(p.edges[j].fr.toNat,p.edges[j].to.toNat)∉esL (p.edges.take j):=by
 intro hm;simp only [esL,List.mem_map] at hm;obtain ⟨e,qG,hee⟩:=hm;obtain ⟨i,hi,rfl⟩:=List.getElem_of_mem qG;have hi2:i<j:=by
  rw [Az] at hi;omega
 rw [List.getElem_take] at hee;have h1:=Ha he (k:=i) Bl;have h2:=Ha he hj;simp only [Prod.mk.injEq] at hee;have e1:p.edges[i].fr=p.edges[j].fr:=Bl;have e2:p.edges[i].to=p.edges[j].to:=Bl;have:p.edges[i]=p.edges[j]:=by
  cases hx:p.edges[i];cases hy:p.edges[j];rw [hx,hy] at e1 e2;simp only at e1 e2;rw [e1,e2]
 exact List.pairwise_iff_getElem.1 hn i j Bl hj hi2 this
theorem Nc (p:Plan) (ve:Value) (t:Nat) (w:World) (hm:Eg p=true) (he:Gr p) (hn:p.edges.Nodup) (h:Rd Gd w w ve p.edges) :
  Calls Am 237 #[Ge p ve,.int .i64 (t:Int)] w fun e w'=>∃ v,e = .returned v/\Ow Ec 3 w' w v (Dq (Dn p) p.tasks.toNat t)/\Below w w w':=by
 obtain ⟨A,c,rfl,-⟩:=id h;obtain ⟨t1,t2⟩:=Dw hm;have aJ:=Ez hm;obtain ⟨T,hT⟩:=Ap (show 0<=p.tasks by omega);have HT:=Bq hT;have HTn:=Bq (show p.tasks.toNat=T by omega);have fH:T<=12:=Bl;clear hT;obtain ⟨j0,cB,jz0,jz1,jz2⟩:=info_parts Kc;unfold Ge;go_enter Tryz.func237,Tryz.ntmps237;go_wp2;go_loopw [5,6] (fun vl i wr=>∃ k:Nat,k<=T/\i = .int .i64 k/\Ow Ec 3 wr (w.heap.size+1) vl (Dq (Dn p) k t)/\BoxAt w p (.slice A p.edges.length c) wr/\Below w w wr) (fun _ i _=>T - (intOf i).toNat);case atStart =>
  have D:=BoxAt.new 43 p (.slice A p.edges.length c) w;refine ⟨0,Ag _,rfl,?_,D.below ((Br _ _).alloc (Bs _) _),?_⟩
  ·exact (Ow.empty Ec 3 (Dx 43 p (.slice A p.edges.length c) w) (g:=w.heap.size+1) (by rw [E0]))
  ·repeat (first | exact Br _ _ | refine Ae ?_ Bo _)
 case round =>
  obtain ⟨k,hk,rfl,ho,D,hb⟩:=hrel;obtain ⟨x0,x1,x2,x3,x4,xs⟩:=D.cells;by_cases aA:k<T
  ·have aB:(k:Int)<p.tasks:=by rw [HT.out];omega
   obtain ⟨wo,rfl⟩:∃ wo:World,wo=wr:=⟨_,rfl⟩
   go_wp2;clear x0 x1 x2 x3 x4 xs;go_loopw [5,7] (fun vl i wr=>∃ j:Nat,j<=p.edges.length/\i = .int .i64 j/\Ow Ec 3 wr (w.heap.size+1) vl (Dq (Dn p) k t ++ Ii (esL (p.edges.take j)) (k,t) k)/\BoxAt w p (.slice A p.edges.length c) wr/\Below w w wr) (fun _ i _=>p.edges.length - (intOf i).toNat);case atStart=>exact ⟨0,Ag _,rfl,by simpa [Ii,esL] using ho,D,hb⟩
   case round =>
    clear ho D hb;obtain ⟨j,hj,rfl,ho,D,hb⟩:=hrel;obtain ⟨x0,x1,x2,x3,x4,xs⟩:=D.cells;by_cases cZ:j<p.edges.length
    ·have gU:(j:Int)<(p.edges.length:Int):=Bl;obtain ⟨b,o,rfl,aH,c0,c1⟩:=(h.below hb).edge cZ;obtain ⟨f1,f2,f3,f4⟩:=Ha he cZ;have cQ:=Bq (show esL (p.edges.take (j+1))=esL (p.edges.take j) ++ [(p.edges[j].fr.toNat,p.edges[j].to.toNat)] by unfold esL;rw [Cn _ j cZ,List.map_append];rfl);have gW:=Bq (Abt he hn cZ);generalize p.edges[j].fr=fx at *
     generalize p.edges[j].to=tx at *
     obtain ⟨a,rfl⟩:=Ap f1;obtain ⟨d,rfl⟩:=Ap f3;simp only [Ao] at cQ gW;by_cases hxy:a=k/\d=t
     ·obtain ⟨e1,e2⟩:=hxy;subst e1;subst e2;have S:=Bq (Vu (l:=esL (p.edges.take j)) (l':=esL (p.edges.take (j+1))) (q:=(a,d)) (x:=a) cQ.out gW.out);have Hl:=Bq (show (Dq (Dn p) a d ++ Ii (esL (p.edges.take j)) (a,d) a).length<=3000000 by
       have h1:=Ij (Dn p) a d;have h2:=Vt (esL (p.edges.take j)) (a,d) a;rw [Bd];omega)
      have mG:((a:Int) == (a:Int))=true:=Bn;have hab2:((d:Int) == (d:Int))=true:=Bn;have ha:Hid (∀ w:World,Below w w (w.alloc (.cells #[.int .i64 (a:Int)] 3))):=fun w=>(Br _ _).alloc (Bs _) _;go_wp2_with (at_builtin;refine By _ Ec Bp rfl (.tmp 40) (.tmp 42) rfl Tryz.underlying26 cB jz0 jz1 jz2 rfl (l:=Dq (Dn p) a d ++ Ii (esL (p.edges.take j)) (a,d) a) rfl (ho.below (ha.out wr)) rfl (Rd.one Ec _ _ a rfl rfl 1 (Bs _) (Nat.lt_succ_self _)) Hl.out Bn Bp (by simp;omega) ?_;intro v5 w5 o5 g5 _)
      have D5:=(D.below (ha.out wr)).far g5 (fun e=>by have:=ho.within _ e.symm;omega);have aU:=Bt hb (ha.out wr);have W5:=aU.grown g5 aU.size (fun g hg=>by have:=ho.within _ hg;omega);refine ⟨⟨j+1,Bl,by go_num,?_,D5,W5⟩,by simp [intOf];omega⟩;rw [S.out,<-List.append_assoc];exact o5
     ·have S:=Bq (Yr (l:=esL (p.edges.take j)) (l':=esL (p.edges.take (j+1))) (q:=(k,t)) (e:=(a,d)) (x:=k) cQ.out (fun e=>hxy (by simp only [Prod.mk.injEq] at e;omega)));have fE:∀ w',Below wr wr w'->(∃ j_1:Nat,j_1<=p.edges.length/\Value.int .i64 ((j:Int)+1)=Value.int .i64 (j_1:Int)/\Ow Ec 3 w' (w.heap.size+1) u5 (Dq (Dn p) k t ++ Ii (esL (p.edges.take j_1)) (k,t) k)/\BoxAt w p (.slice (Ac ⟨b,o,Ab⟩) p.edges.length c) w'/\Below w w w'):=fun w' kX=>⟨j+1,Bl,by go_num,by rw [S.out];exact ho.below kX,D.below kX,Bt hb kX⟩
      have Hout:=Bq fE;clear fE;by_cases hfa:a=k
      ·have mG:((a:Int) == ((k:Nat):Int))=true:=by simp [hfa]
       have hdb:((d:Int) == ((t:Nat):Int))=false:=beq_eq_false_iff_ne.2 Bl;clear hfa hxy;go_wp2;exact ⟨Hout.out _ (Br _ _),by simp [intOf];omega⟩
      ·have mG:((a:Int) == ((k:Nat):Int))=false:=beq_eq_false_iff_ne.2 Bl;clear hfa hxy;go_wp2;exact ⟨Hout.out _ (Br _ _),by simp [intOf];omega⟩
    ·have gU:¬ (j:Int)<(p.edges.length:Int):=Bl;have hj':j=p.edges.length:=Bl;subst hj';rw [List.take_length] at ho;have S:=Bq (Wt (Dn p) k t);go_wp2;exact ⟨⟨k+1,Bl,by go_num,by rw [S.out];exact ho,D,hb⟩,by simp [intOf];omega⟩
  ·have aB:¬ (k:Int)<p.tasks:=by rw [HT.out];omega
   have bJ:k=T:=Bl;subst bJ;go_wp2;go_ret;refine ⟨_,rfl,?_,hb⟩;rw [HTn.out];exact ho.more Bl
theorem Te (p:Plan) (ve:Value) (t:Nat) (w:World) (hm:Eg p=true) (he:Gr p) (hn:p.edges.Nodup) (h:Rd Gd w w ve p.edges) :
  Calls Am 242 #[Ge p ve,.int .i64 (t:Int)] w fun e w'=>∃ v,e = .returned v/\Ow Ec 3 w' w v (Fa (Dn p) p.tasks.toNat t)/\Below w w w':=by
 obtain ⟨A,c,rfl,-⟩:=id h;obtain ⟨t1,t2⟩:=Dw hm;have aJ:=Ez hm;obtain ⟨T,hT⟩:=Ap (show 0<=p.tasks by omega);have HT:=Bq hT;have HTn:=Bq (show p.tasks.toNat=T by omega);have fH:T<=12:=Bl;clear hT;obtain ⟨j0,cB,jz0,jz1,jz2⟩:=info_parts Kc;unfold Ge;go_enter Tryz.func242,Tryz.ntmps242;go_wp2;go_loopw [5,6] (fun vl i wr=>∃ k:Nat,k<=T/\i = .int .i64 k/\Ow Ec 3 wr (w.heap.size+1) vl (Fa (Dn p) k t)/\BoxAt w p (.slice A p.edges.length c) wr/\Below w w wr) (fun _ i _=>T - (intOf i).toNat);case atStart =>
  have D:=BoxAt.new 43 p (.slice A p.edges.length c) w;refine ⟨0,Ag _,rfl,?_,D.below ((Br _ _).alloc (Bs _) _),?_⟩
  ·exact (Ow.empty Ec 3 (Dx 43 p (.slice A p.edges.length c) w) (g:=w.heap.size+1) (by rw [E0]))
  ·repeat (first | exact Br _ _ | refine Ae ?_ Bo _)
 case round =>
  obtain ⟨k,hk,rfl,ho,D,hb⟩:=hrel;obtain ⟨x0,x1,x2,x3,x4,xs⟩:=D.cells;by_cases aA:k<T
  ·have aB:(k:Int)<p.tasks:=by rw [HT.out];omega
   obtain ⟨wo,rfl⟩:∃ wo:World,wo=wr:=⟨_,rfl⟩
   go_wp2;clear x0 x1 x2 x3 x4 xs;go_loopw [5,7] (fun vl i wr=>∃ j:Nat,j<=p.edges.length/\i = .int .i64 j/\Ow Ec 3 wr (w.heap.size+1) vl (Fa (Dn p) k t ++ Ii (esL (p.edges.take j)) (t,k) k)/\BoxAt w p (.slice A p.edges.length c) wr/\Below w w wr) (fun _ i _=>p.edges.length - (intOf i).toNat);case atStart=>exact ⟨0,Ag _,rfl,by simpa [Ii,esL] using ho,D,hb⟩
   case round =>
    clear ho D hb;obtain ⟨j,hj,rfl,ho,D,hb⟩:=hrel;obtain ⟨x0,x1,x2,x3,x4,xs⟩:=D.cells;by_cases cZ:j<p.edges.length
    ·have gU:(j:Int)<(p.edges.length:Int):=Bl;obtain ⟨b,o,rfl,aH,c0,c1⟩:=(h.below hb).edge cZ;obtain ⟨f1,f2,f3,f4⟩:=Ha he cZ;have cQ:=Bq (show esL (p.edges.take (j+1))=esL (p.edges.take j) ++ [(p.edges[j].fr.toNat,p.edges[j].to.toNat)] by unfold esL;rw [Cn _ j cZ,List.map_append];rfl);have gW:=Bq (Abt he hn cZ);generalize p.edges[j].fr=fx at *
     generalize p.edges[j].to=tx at *
     obtain ⟨a,rfl⟩:=Ap f1;obtain ⟨d,rfl⟩:=Ap f3;simp only [Ao] at cQ gW;by_cases hxy:d=k/\a=t
     ·obtain ⟨e1,e2⟩:=hxy;subst e1;subst e2;have S:=Bq (Vu (l:=esL (p.edges.take j)) (l':=esL (p.edges.take (j+1))) (q:=(a,d)) (x:=d) cQ.out gW.out);have Hl:=Bq (show (Fa (Dn p) d a ++ Ii (esL (p.edges.take j)) (a,d) d).length<=3000000 by
       have h1:=Li (Dn p) d a;have h2:=Vt (esL (p.edges.take j)) (a,d) d;rw [Bd];omega)
      have mG:((d:Int) == (d:Int))=true:=Bn;have hab2:((a:Int) == (a:Int))=true:=Bn;have ha:Hid (∀ w:World,Below w w (w.alloc (.cells #[.int .i64 (d:Int)] 3))):=fun w=>(Br _ _).alloc (Bs _) _;go_wp2_with (at_builtin;refine By _ Ec Bp rfl (.tmp 40) (.tmp 42) rfl Tryz.underlying26 cB jz0 jz1 jz2 rfl (l:=Fa (Dn p) d a ++ Ii (esL (p.edges.take j)) (a,d) d) rfl (ho.below (ha.out wr)) rfl (Rd.one Ec _ _ d rfl rfl 1 (Bs _) (Nat.lt_succ_self _)) Hl.out Bn Bp (by simp;omega) ?_;intro v5 w5 o5 g5 _)
      have D5:=(D.below (ha.out wr)).far g5 (fun e=>by have:=ho.within _ e.symm;omega);have aU:=Bt hb (ha.out wr);have W5:=aU.grown g5 aU.size (fun g hg=>by have:=ho.within _ hg;omega);refine ⟨⟨j+1,Bl,by go_num,?_,D5,W5⟩,by simp [intOf];omega⟩;rw [S.out,<-List.append_assoc];exact o5
     ·have S:=Bq (Yr (l:=esL (p.edges.take j)) (l':=esL (p.edges.take (j+1))) (q:=(t,k)) (e:=(a,d)) (x:=k) cQ.out (fun e=>hxy (by simp only [Prod.mk.injEq] at e;omega)));have fE:∀ w',Below wr wr w'->(∃ j_1:Nat,j_1<=p.edges.length/\Value.int .i64 ((j:Int)+1)=Value.int .i64 (j_1:Int)/\Ow Ec 3 w' (w.heap.size+1) u5 (Fa (Dn p) k t ++ Ii (esL (p.edges.take j_1)) (t,k) k)/\BoxAt w p (.slice (Ac ⟨b,o,Ab⟩) p.edges.length c) w'/\Below w w w'):=fun w' kX=>⟨j+1,Bl,by go_num,by rw [S.out];exact ho.below kX,D.below kX,Bt hb kX⟩
      have Hout:=Bq fE;clear fE;by_cases hfa:a=t
      ·have mG:((a:Int) == ((t:Nat):Int))=true:=by simp [hfa]
       have hdb:((d:Int) == ((k:Nat):Int))=false:=beq_eq_false_iff_ne.2 Bl;clear hfa hxy;go_wp2;exact ⟨Hout.out _ (Br _ _),by simp [intOf];omega⟩
      ·have mG:((a:Int) == ((t:Nat):Int))=false:=beq_eq_false_iff_ne.2 Bl;clear hfa hxy;go_wp2;exact ⟨Hout.out _ (Br _ _),by simp [intOf];omega⟩
    ·have gU:¬ (j:Int)<(p.edges.length:Int):=Bl;have hj':j=p.edges.length:=Bl;subst hj';rw [List.take_length] at ho;have S:=Bq (Pj (Dn p) k t);go_wp2;exact ⟨⟨k+1,Bl,by go_num,by rw [S.out];exact ho,D,hb⟩,by simp [intOf];omega⟩
  ·have aB:¬ (k:Int)<p.tasks:=by rw [HT.out];omega
   have bJ:k=T:=Bl;subst bJ;go_wp2;go_ret;refine ⟨_,rfl,?_,hb⟩;rw [HTn.out];exact ho.more Bl
theorem RdL.at1 {α:Type} {d:Dt α} {w:World} {B:Nat} {s:Sl} {l:List α} (h:RdL d w B s.v l):s.n=l.length:=by
 obtain ⟨A,c,hv,-⟩:=h.form;simp only [Sl.v,Value.slice.injEq] at hv;exact hv.2.1
structure Reply where
 code:Int
 run:Int
 task:Int
 try_:Int
deriving DecidableEq,Inhabited
@[go_sem] abbrev Aev (x:Reply) (_s:Unit):Value:=.agg #[.int .i64 x.code,.int .i64 x.run,.int .i64 x.task,.int .i64 x.try_]
abbrev Hz:Dt Reply:=Dt.flat (fun q=>[.int .i64 q.1.code,.int .i64 q.1.run,.int .i64 q.1.task,.int .i64 q.1.try_]) 4 (fun _=>rfl) (fun q u hu=>by simp at hu;rcases hu with rfl | rfl | rfl | rfl<;>rfl)
def Pk (_:Reply):Nat:=0
theorem RdL.reply {w:World} {B:Nat} {A:Option Addr} {n c:Nat} {l:List (Reply)} (h:RdL Hz w B (Aa A n c) l) {k:Nat} (hk:k<l.length) :
  ∃ b o,∃ _s:Unit,A=Ac ⟨b,o,Ab⟩/\b<B/\Hz.rd w B l[k] _s/\w.cell? ⟨b,o+k * 4,Ab⟩=Ac (J U l[k].code)/\w.cell? ⟨b,o+k * 4+1,Ab⟩=Ac (J U l[k].run)/\w.cell? ⟨b,o+k * 4+2,Ab⟩=Ac (J U l[k].task)/\w.cell? ⟨b,o+k * 4+3,Ab⟩=Ac (J U l[k].try_):=by
 obtain ⟨b,o,s,rfl,hb,hc,hr⟩:=h.at_ k hk;exact ⟨b,o,s,rfl,hb,hr,hc 0 _ rfl,hc 1 _ rfl,hc 2 _ rfl,hc 3 _ rfl⟩
theorem Foc.reply {w:World} {b o n c j:Nat} {rs:List ((Reply)×Unit)} {G1 Fx G2:List Nat} {x:Reply} {s:Unit} (h:Foc Hz w b o n c rs j G1 Fx G2 x s) :
  w.cell? ⟨b,o+j * 4,Ab⟩=Ac (J U x.code)/\w.cell? ⟨b,o+j * 4+1,Ab⟩=Ac (J U x.run)/\w.cell? ⟨b,o+j * 4+2,Ab⟩=Ac (J U x.task)/\w.cell? ⟨b,o+j * 4+3,Ab⟩=Ac (J U x.try_):=⟨h.cells 0 _ rfl,h.cells 1 _ rfl,h.cells 2 _ rfl,h.cells 3 _ rfl⟩
theorem Q6:(Am.info? 69).map (fun i=>(i.zero,i.size,i.bytes))=Ac (Ac (.agg #[J U 0,J U 0,J U 0,J U 0]),4,32):=Bm
@[go_sem] abbrev Ja (x:Plan) (s:Sl):Value:=.agg #[.int .i64 x.prio,.int .i64 x.most,.int .i64 x.wait,.int .i64 x.tasks,.slice s.a s.n s.c]
abbrev Ca:Dt Plan:=Dt.via (Dt.list Dv) (·.edges) (fun q=>[.int .i64 q.1.prio,.int .i64 q.1.most,.int .i64 q.1.wait,.int .i64 q.1.tasks,.slice q.2.a q.2.n q.2.c]) 5 (fun _=>rfl) (fun q u hu=>by simp at hu;rcases hu with rfl | rfl | rfl | rfl | rfl<;>rfl)
def Eb (x:Plan):Nat:=E6 D4 x.edges
def Aar (x:Plan):Prop:=Wf x.prio/\Wf x.most/\Wf x.wait/\Wf x.tasks/\wfL Td x.edges
theorem Aas (x:Plan) (s:Sl) (w:World) (hl:Eb x<=2000000) (h:Ca.rd w w x s) :
  Calls Am 152 #[Ja x s] w (Di Ca Ja x w):=by
 have cW:∀ W,Below w w W->Ca.rd W W x s:=fun W hW=>Ca.rd_more (Ca.rd_below h hW) hW.size;go_enter Tryz.func152,Tryz.ntmps152;go_wp2_with fail
 refine (Yq x.edges s _ (by unfold Eb at hl;omega) ((cW _ (by repeat (first | exact Br _ _ | refine Ae ?_ Bo _))))).mono ?_;rintro e w0 ⟨s0,F0,rfl,o0,n0,bS⟩;obtain ⟨q0,p0⟩:=Lg bS;have z0:=bS.size;simp only [Bj,Bk] at z0 n0;have B0:Below w w w0:=Bt (by repeat (first | exact Br _ _ | refine Ae ?_ Bo _)) bS;go_wp2;refine bodyPost_ret (v:=Ja x s0) ?_ rfl ?_
 ·simp [Ja,results,Tryz.results152,go_sem,q0]
 ·refine ⟨s0,F0,rfl,?_,?_,?_⟩
  ·repeat (first | (with_reducible exact o0) | refine Dt.ow_set _ ?_ (by intro hm;have:=n0 _ hm;(try simp only [Bj,Bk] at this);omega) _)
  ·intro b hb
   have:=n0 b hb
   omega
  ·repeat (first | (with_reducible exact B0) | (with_reducible exact Br _ _) | refine Ad ?_ Bo _ | refine Ae ?_ Bo _)
theorem Aat (x y:Plan) (s r:Sl) (w:World) (hl:Eb x<=2000000) (hl':Eb y<=2000000) (h:Ca.rd w w x s) (h':Ca.rd w w y r) :
  Calls Am 153 #[Ja x s,Ja y r] w fun e w'=>e = .returned (.bool (decide (x=y)))/\Below w w w':=by
 have cW:∀ W,Below w w W->Ca.rd W W x s:=fun W hW=>Ca.rd_more (Ca.rd_below h hW) hW.size;have cM:∀ W,Below w w W->Ca.rd W W y r:=fun W hW=>Ca.rd_more (Ca.rd_below h' hW) hW.size;by_cases h0:x.prio=y.prio;case neg =>
  have t0:(x.prio != y.prio)=true:=by rw [bne_iff_ne];exact h0
  have H:=Bq (show decide (x=y)=false by simp only [decide_eq_false_iff_not];intro e;exact h0 (by rw [e]));clear h0;go_enter Tryz.func153,Tryz.ntmps153;go_wp2;go_ret;exact ⟨Bv (by first | exact H.out.symm | rfl),by repeat (first | exact Br _ _ | refine Ae ?_ Bo _)⟩
 have t0:(x.prio != y.prio)=false:=by simp [h0]
 have H0:=Bq h0;clear h0;by_cases h1:x.most=y.most;case neg =>
  have t1:(x.most != y.most)=true:=by rw [bne_iff_ne];exact h1
  have H:=Bq (show decide (x=y)=false by simp only [decide_eq_false_iff_not];intro e;exact h1 (by rw [e]));clear h1;go_enter Tryz.func153,Tryz.ntmps153;go_wp2;go_ret;exact ⟨Bv (by first | exact H.out.symm | rfl),by repeat (first | exact Br _ _ | refine Ae ?_ Bo _)⟩
 have t1:(x.most != y.most)=false:=by simp [h1]
 have H1:=Bq h1;clear h1;by_cases h2:x.wait=y.wait;case neg =>
  have t2:(x.wait != y.wait)=true:=by rw [bne_iff_ne];exact h2
  have H:=Bq (show decide (x=y)=false by simp only [decide_eq_false_iff_not];intro e;exact h2 (by rw [e]));clear h2;go_enter Tryz.func153,Tryz.ntmps153;go_wp2;go_ret;exact ⟨Bv (by first | exact H.out.symm | rfl),by repeat (first | exact Br _ _ | refine Ae ?_ Bo _)⟩
 have t2:(x.wait != y.wait)=false:=by simp [h2]
 have H2:=Bq h2;clear h2;by_cases h3:x.tasks=y.tasks;case neg =>
  have t3:(x.tasks != y.tasks)=true:=by rw [bne_iff_ne];exact h3
  have H:=Bq (show decide (x=y)=false by simp only [decide_eq_false_iff_not];intro e;exact h3 (by rw [e]));clear h3;go_enter Tryz.func153,Tryz.ntmps153;go_wp2;go_ret;exact ⟨Bv (by first | exact H.out.symm | rfl),by repeat (first | exact Br _ _ | refine Ae ?_ Bo _)⟩
 have t3:(x.tasks != y.tasks)=false:=by simp [h3]
 have H3:=Bq h3;clear h3;go_enter Tryz.func153,Tryz.ntmps153;go_wp2_with fail
 refine (Yp x.edges y.edges s r _ (by unfold Eb at hl;omega) (by unfold Eb at hl';omega) ((cW _ (by repeat (first | exact Br _ _ | refine Ae ?_ Bo _)))) ((cM _ (by repeat (first | exact Br _ _ | refine Ae ?_ Bo _))))).mono ?_;rintro e w4 ⟨rfl,bR⟩;have B4:Below w w w4:=Bt (by repeat (first | exact Br _ _ | refine Ae ?_ Bo _)) bR;obtain ⟨q4,p4⟩:=Lg bR;by_cases h4:x.edges=y.edges;case neg =>
  have H:=Bq (show decide (x=y)=false by simp only [decide_eq_false_iff_not];intro e;exact h4 (by rw [e]));rw [decide_eq_false h4];clear h4;go_wp2;go_ret;exact ⟨Bv (by first | exact H.out.symm | rfl),by exact B4⟩
 rw [decide_eq_true h4];have H4:=Bq h4;clear h4;have H:=Bq (show decide (x=y)=true by
  simp only [decide_eq_true_eq];have hh:=And.intro H0.out (And.intro H1.out (And.intro H2.out (And.intro H3.out H4.out)));obtain ⟨e0,e1,e2,e3,e4⟩:=hh;cases x;cases y;simp only at e0 e1 e2 e3 e4;subst e0 e1 e2 e3 e4;rfl)
 go_wp2;go_ret;exact ⟨Bv (by first | exact H.out.symm | rfl),by exact B4⟩
theorem Aau (x:Plan) (s:Sl) (left:Int) (w:World) (h0:0<=left) (h1:left<=2000000) (hw:Aar x) (h:Ca.rd w w x s) :
  Calls Am 140 #[Ja x s,J U left] w (Wj left (Eb x) w):=by
 have cW:∀ W,Below w w W->Ca.rd W W x s:=fun W hW=>Ca.rd_more (Ca.rd_below h hW) hW.size;go_enter Tryz.func140,Tryz.ntmps140;go_wp2_with fail
 refine (Yo x.edges s left _ Bl Bl hw.2.2.2.2 ((cW _ (by repeat (first | exact Br _ _ | refine Ae ?_ Bo _))))).mono ?_;rintro e w0 ⟨r0,rfl,pB,bS⟩;have B0:Below w w w0:=Bt (by repeat (first | exact Br _ _ | refine Ae ?_ Bo _)) bS;obtain ⟨q0,p0⟩:=Lg bS;rcases pB with rfl | ⟨y0,z0⟩
 ·go_wp2;go_ret;exact ⟨-1,rfl,.inl rfl,B0⟩
 go_wp2;go_ret;exact ⟨_,rfl,.inr ⟨Bl,by unfold Eb;omega⟩,B0⟩
theorem Way.head {es:List (Nat×Nat)} : ∀ {a x b:Nat} (l1:List Nat) {l2:List Nat},Pg.Way es a (l1 ++ x :: l2) b->Pg.Way es a (l1 ++ [x]) x
 | _,_,_,[],_,h=>by cases h with | cons h1 _=>exact .cons h1 (.nil _)
 | _,_,_,_ :: l1,_,h=>by cases h with | cons h1 h2=>exact .cons h1 (Way.head l1 h2)
theorem DBox.put {b:Nat} {cs:List Value} {w:World} (h:DBox b cs w) (j:Nat) (hj:j<cs.length) (u:Value):DBox b (cs.set j u) (w.setCell ⟨b,j,Ab⟩ u):=by
 refine ⟨fun i x hx=>?_,fun i=>by rw [Ig];exact h.free i,by simpa [World.setCell] using h.lt⟩;have hi:i<cs.length:=by
  have:=(List.getElem?_eq_some_iff.1 hx).1
  simpa using this
 rw [Km w b i j u cs[i] (h.cell i _ (List.getElem?_eq_getElem hi)) ⟨_,h.cell j _ (List.getElem?_eq_getElem hj)⟩];by_cases e:i=j
 ·subst e;rw [List.getElem?_set_self hi] at hx;rw [if_pos rfl];exact hx
 ·rw [List.getElem?_set_ne (Ne.symm e),List.getElem?_eq_getElem hi] at hx;rw [if_neg e];exact hx
structure Wait where
 call:Int
 reply:Reply
deriving DecidableEq,Inhabited
abbrev Adm:Dt Wait:=Dt.flat (fun q=>[.int .i64 q.1.call,.int .i64 q.1.reply.code,.int .i64 q.1.reply.run,.int .i64 q.1.reply.task,.int .i64 q.1.reply.try_]) 5 (fun _=>rfl) (fun q u hu=>by simp at hu;rcases hu with rfl | rfl | rfl | rfl | rfl<;>rfl)
theorem RdL.wait {w:World} {B:Nat} {A:Option Addr} {n c:Nat} {l:List (Wait)} (h:RdL Adm w B (Aa A n c) l) {k:Nat} (hk:k<l.length) :
  ∃ b o,∃ _s:Unit,A=Ac ⟨b,o,Ab⟩/\b<B/\Adm.rd w B l[k] _s/\w.cell? ⟨b,o+k * 5,Ab⟩=Ac (J U l[k].call)/\w.cell? ⟨b,o+k * 5+1,Ab⟩=Ac (J U l[k].reply.code)/\w.cell? ⟨b,o+k * 5+2,Ab⟩=Ac (J U l[k].reply.run)/\w.cell? ⟨b,o+k * 5+3,Ab⟩=Ac (J U l[k].reply.task)/\w.cell? ⟨b,o+k * 5+4,Ab⟩=Ac (J U l[k].reply.try_):=by
 obtain ⟨b,o,s,rfl,hb,hc,hr⟩:=h.at_ k hk;exact ⟨b,o,s,rfl,hb,hr,hc 0 _ rfl,hc 1 _ rfl,hc 2 _ rfl,hc 3 _ rfl,hc 4 _ rfl⟩
theorem Foc.wait {w:World} {b o n c j:Nat} {rs:List ((Wait)×Unit)} {G1 Fx G2:List Nat} {x:Wait} {s:Unit} (h:Foc Adm w b o n c rs j G1 Fx G2 x s) :
  w.cell? ⟨b,o+j * 5,Ab⟩=Ac (J U x.call)/\w.cell? ⟨b,o+j * 5+1,Ab⟩=Ac (J U x.reply.code)/\w.cell? ⟨b,o+j * 5+2,Ab⟩=Ac (J U x.reply.run)/\w.cell? ⟨b,o+j * 5+3,Ab⟩=Ac (J U x.reply.task)/\w.cell? ⟨b,o+j * 5+4,Ab⟩=Ac (J U x.reply.try_):=⟨h.cells 0 _ rfl,h.cells 1 _ rfl,h.cells 2 _ rfl,h.cells 3 _ rfl,h.cells 4 _ rfl⟩
structure Run where
 id:Int
 plan:Plan
 state:Int
 tasks:List Task
deriving DecidableEq,Inhabited
@[go_sem] abbrev Gw (x:Run) (s:Sl×Sl):Value:=.agg #[.int .i64 x.id,.int .i64 x.plan.prio,.int .i64 x.plan.most,.int .i64 x.plan.wait,.int .i64 x.plan.tasks,.slice s.1.a s.1.n s.1.c,.int .i64 x.state,.slice s.2.a s.2.n s.2.c]
abbrev Ch:Dt Run:=Dt.two Ca (Dt.list Ee) (·.plan) (·.tasks) (fun q=>[.int .i64 q.1.id,.int .i64 q.1.plan.prio,.int .i64 q.1.plan.most,.int .i64 q.1.plan.wait,.int .i64 q.1.plan.tasks,.slice q.2.1.a q.2.1.n q.2.1.c,.int .i64 q.1.state,.slice q.2.2.a q.2.2.n q.2.2.c]) 8 (fun _=>rfl) (fun q u hu=>by simp at hu;rcases hu with rfl | rfl | rfl | rfl | rfl | rfl | rfl | rfl<;>rfl)
def Cw (x:Run):Nat:=Eb x.plan+E6 He x.tasks
theorem RdL.run {w:World} {B:Nat} {A:Option Addr} {n c:Nat} {l:List (Run)} (h:RdL Ch w B (Aa A n c) l) {k:Nat} (hk:k<l.length) :
  ∃ b o,∃ s:Sl×Sl,A=Ac ⟨b,o,Ab⟩/\b<B/\Ch.rd w B l[k] s/\w.cell? ⟨b,o+k * 8,Ab⟩=Ac (J U l[k].id)/\w.cell? ⟨b,o+k * 8+1,Ab⟩=Ac (J U l[k].plan.prio)/\w.cell? ⟨b,o+k * 8+2,Ab⟩=Ac (J U l[k].plan.most)/\w.cell? ⟨b,o+k * 8+3,Ab⟩=Ac (J U l[k].plan.wait)/\w.cell? ⟨b,o+k * 8+4,Ab⟩=Ac (J U l[k].plan.tasks)/\w.cell? ⟨b,o+k * 8+5,Ab⟩=Ac (Aa s.1.a s.1.n s.1.c)/\w.cell? ⟨b,o+k * 8+6,Ab⟩=Ac (J U l[k].state)/\w.cell? ⟨b,o+k * 8+7,Ab⟩=Ac (Aa s.2.a s.2.n s.2.c):=by
 obtain ⟨b,o,s,rfl,hb,hc,hr⟩:=h.at_ k hk;exact ⟨b,o,s,rfl,hb,hr,hc 0 _ rfl,hc 1 _ rfl,hc 2 _ rfl,hc 3 _ rfl,hc 4 _ rfl,hc 5 _ rfl,hc 6 _ rfl,hc 7 _ rfl⟩
theorem Foc.run {w:World} {b o n c j:Nat} {rs:List ((Run)×Sl×Sl)} {G1 Fx G2:List Nat} {x:Run} {s:Sl×Sl} (h:Foc Ch w b o n c rs j G1 Fx G2 x s) :
  w.cell? ⟨b,o+j * 8,Ab⟩=Ac (J U x.id)/\w.cell? ⟨b,o+j * 8+1,Ab⟩=Ac (J U x.plan.prio)/\w.cell? ⟨b,o+j * 8+2,Ab⟩=Ac (J U x.plan.most)/\w.cell? ⟨b,o+j * 8+3,Ab⟩=Ac (J U x.plan.wait)/\w.cell? ⟨b,o+j * 8+4,Ab⟩=Ac (J U x.plan.tasks)/\w.cell? ⟨b,o+j * 8+5,Ab⟩=Ac (Aa s.1.a s.1.n s.1.c)/\w.cell? ⟨b,o+j * 8+6,Ab⟩=Ac (J U x.state)/\w.cell? ⟨b,o+j * 8+7,Ab⟩=Ac (Aa s.2.a s.2.n s.2.c):=⟨h.cells 0 _ rfl,h.cells 1 _ rfl,h.cells 2 _ rfl,h.cells 3 _ rfl,h.cells 4 _ rfl,h.cells 5 _ rfl,h.cells 6 _ rfl,h.cells 7 _ rfl⟩
theorem Kv:(Am.info? 89).map (fun i=>(i.zero,i.size,i.bytes))=Ac (Ac (.agg #[J U 0,J U 0,J U 0,J U 0,J U 0,Aa Ab 0 0,J U 0,Aa Ab 0 0]),8,96):=Bm
end Go.Proofs.YtonlnjdempbfoaaGreat
