/-
  append of a whole slice that reads as a list, nil or not, onto a slice of the call's own. PlanFault of the program. Data that hold slices: how they lie in memor
-/
import Derived.Test.YtecnbnbopcblgaaGreatZVw0
import Derived.Maps.AppendAt
import Derived.RegionTactic
import Derived.OwnWalk
import Derived.Deep.RegionWith
import Derived.Laws.CopyRow
import Derived.Laws.CopyOwn
import Derived.Lib.AppendZerosOnto
import Derived.Lib.Overlaps
import Derived.Lib.SliceRun
import Derived.Lib.Hide
namespace Go.Proofs.YtecnbnbopcblgaaGreat
open Go.RowKit
set_option maxRecDepth 100000
set_option maxHeartbeats 4000000
set_option linter.unusedVariables false
set_option linter.unusedSimpArgs false
open Value renaming int->J,slice->Aa
open IntKind renaming i64->Ab
open Option renaming none->Ac,some->Ad
open Below renaming setCell->Ae,alloc->Af
open Nat renaming zero_le->Ah,le_trans->Ai,lt_of_lt_of_le->Aj
open Go renaming wpQuiet_nil->Al
open Go.Proofs.Tryz renaming prog->An
open List renaming length_map->Au,mem_singleton->Aw,getElem_mem->Ax,nodup_append->Ay,length_take->A0,length_append->Bd,mem_append_right->Be,mem_append_left->Bf,take_of_length_le->Bg,length_set->Bh,mem_append->Bi
open World renaming size_alloc->Bj
open Go.Proofs.Tryz
section
variable {P:Program} (w:World)
theorem Q2 (base:Nat) (t ty e:TypeId) (i:TypeInfo) (size:Nat) (ht:P.underlying t=Ad (.slice e)) (hi:P.info? e=Ad i)
  (v:Value) (n:Nat) (xs:List Value) (hown:w.ownsRow base e size v n xs) (c:Nat):(Builtin.append_ #[t,t] ty #[v,Aa Ac 0 c]).run P w = .ok v w:=by
 rcases hown.2 with ⟨rfl,rfl⟩ | ⟨g,cap,cur,rfl,_,_,hnc,_⟩
 ·simp [Builtin.append_,run_underlying ht,sizeOf,typeInfo,hi,Builtin.lenOf,Builtin.firstCells]
 ·simp [Builtin.append_,run_underlying ht,sizeOf,typeInfo,hi,Builtin.lenOf,Builtin.firstCells,hnc,storeCells]
theorem Afb {α:Type} {e:Enc α} (bJ:0<e.sz) {w:World} {B:Nat} {A:Option Addr} {m c:Nat} {ys:List α} (hr:Rd e w B (Aa A m c) ys):m=ys.length/\(0<m -> ∃ ad,A=Ad ad /\ ∀ j u,(ys.flatMap e.cells)[j]? = Ad u->w.cell? (ad.add j)=Ad u):=by
 obtain ⟨A',c',hv,_,hA⟩:=hr;simp only [Value.slice.injEq] at hv;obtain ⟨rfl,rfl,rfl⟩:=hv;refine ⟨rfl,fun hm=>?_⟩;obtain ⟨b,o,rfl,hb,hc⟩:=hA hm;refine ⟨⟨b,o,Ac⟩,rfl,fun j u hu=>?_⟩;have aB:=(List.getElem?_eq_some_iff.1 hu).1;rw [e.flat_length] at aB;have hk:j / e.sz<ys.length:=Nat.div_lt_of_lt_mul (by rw [Nat.mul_comm];exact aB);have hj:j % e.sz<e.sz:=Nat.mod_lt _ bJ;have rK:j / e.sz * e.sz+j % e.sz=j:=by rw [Nat.mul_comm];exact Nat.div_add_mod _ _
 have h1:=e.flat_get hj ys (j / e.sz) hk;rw [rK] at h1;have h2:=hc (j / e.sz) hk (j % e.sz) u (by rw [<-h1];exact hu);have ea:(⟨b,o,Ac⟩:Addr).add j=⟨b,o+j / e.sz * e.sz+j % e.sz,Ac⟩:=by
  rw [Nat.add_assoc,rK];unfold Addr.add;split<;>simp_all
 rw [ea];exact h2
theorem Yn {α:Type} (e:Enc α) (bJ:0<e.sz) (base:Nat) (t ty E:TypeId) (i:TypeInfo) (z:Value) (bytes:Nat) (ht:P.underlying t=Ad (.slice E)) (hi:P.info? E=Ad i) (hz:i.zero=Ad z)
  (cF:i.size=e.sz) (dG:i.bytes=bytes) (hzs:z.cells.size=e.sz)
  (v:Value) (l:List α) (hown:Ow e E w base v l)
  (B:Nat) (A:Option Addr) (m c:Nat) (ys:List α) (hr:Rd e w B (Aa A m c) ys)
  (hn:l.length<=3000000) (hm:ys.length<=3000000) (hbytes:bytes<=10000) (aS:base<=w.heap.size) :
  ∃ v' w',(Builtin.append_ #[t,t] ty #[v,Aa A m c]).run P w = .ok v' w'/\Ow e E w' base v' (l ++ ys)/\w.grownBy w' v.ownBlock /\
   (v'.ownBlock=v.ownBlock\/v'.ownBlock=Ad w.heap.size):=by
 obtain ⟨rfl,hA⟩:=Afb bJ hr;have h0:∀ ad:Addr,A=Ad ad -> ∀ j u,(ys.flatMap e.cells)[j]? = Ad u->w.cell? (ad.add j)=Ad u:=by
  intro ad hAd j u hu;rcases Nat.eq_zero_or_pos ys.length with aW | hpos
  ·have:ys=[]:=List.eq_nil_of_length_eq_zero aW;subst this;simp at hu
  ·obtain ⟨ad',bW,hc⟩:=hA hpos;rw [bW] at hAd;injection hAd with hAd
   subst hAd;exact hc j u hu
 rcases A with _ | ad
 ·have sV:ys=[]:=by
   rcases Nat.eq_zero_or_pos ys.length with h1 | h1
   ·exact List.eq_nil_of_length_eq_zero h1
   ·obtain ⟨_,h2,_⟩:=hA h1;cases h2
  subst sV;exact ⟨v,w,Q2 w base t ty E i e.sz ht hi v l.length (l.flatMap e.cells) hown c,by simpa using hown,World.grownBy.refl w _,.inl rfl⟩
 ·have h1:∀ u∈ys.flatMap e.cells,u.oneCell'=true:=by
   intro u hu;obtain ⟨y,_,hy⟩:=List.mem_flatMap.1 hu;exact e.one y u hy
  have aJ:(l.length+ys.length) * bytes<=6000000 * 10000:=Nat.mul_le_mul Bl hbytes;obtain ⟨v',w',cZ,h2,h3,_,h5⟩:=run_append_own_at (P:=P) w base t ty E i z e.sz bytes ht hi hz cF dG hzs bJ v l.length (l.flatMap e.cells) hown ad ys.length c (ys.flatMap e.cells) (e.flat_length ys) (h0 ad rfl) h1 (by simp [maxLen];omega) Bl aS;refine ⟨v',w',cZ,?_,h3,h5⟩;unfold Ow;rw [Bd,List.flatMap_append];exact h2
theorem Fe {α:Type} {o:Oper} {a:Act} {K:Act->World->Prop} {Q:Exit->Act->World->Prop} (e:Enc α) (bJ:0<e.sz) (s x:Operand) (t:TypeId)
  (ho:o.op = .call { callee:=.builtin .append,args:=#[s,x],argTypes:=#[t,t] })
  (base:Nat) (E:TypeId) (i:TypeInfo) (z:Value) (bytes:Nat) (ht:P.underlying t=Ad (.slice E)) (hi:P.info? E=Ad i) (hz:i.zero=Ad z)
  (cF:i.size=e.sz) (dG:i.bytes=bytes) (hzs:z.cells.size=e.sz)
  (v:Value) (l:List α) (hs:a.eval s=v) (hown:Ow e E w base v l)
  (B:Nat) (A:Option Addr) (m c:Nat) (ys:List α) (hx:a.eval x = .slice A m c) (hr:Rd e w B (.slice A m c) ys)
  (hn:l.length<=3000000) (hm:ys.length<=3000000) (hbytes:bytes<=10000) (aS:base<=w.heap.size)
  (h:∀ v' w',Ow e E w' base v' (l ++ ys)->w.grownBy w' v.ownBlock->(v'.ownBlock=v.ownBlock\/v'.ownBlock=Ad w.heap.size)->K (a.put o.dst v') w'):o.wp P a w K Q:=by
 obtain ⟨v',w',cZ,h2,h3,h4⟩:=Yn (P:=P) w e bJ base t o.type E i z bytes ht hi hz cF dG hzs v l hown B A m c ys hr hn hm hbytes aS;unfold Oper.wp execOp;simp only [ho,resolve,invoke,builtin,Sem.run_bind,Sem.run_pure,Result.andThen_ok,List.map_toArray,List.map_cons,List.map_nil,hs,hx,cZ];exact h v' w' h2 h3 h4
theorem Cj {α:Type} {ops:Array Oper} {rest:List Oper} {o:Oper} {a:Act} {Q:Exit->Act->World->Prop} (e:Enc α) (bJ:0<e.sz) (dC:o.guard=Ac) (s x:Operand) {t:TypeId}
  (ho:o.op = .call { callee:=.builtin .append,args:=#[s,x],argTypes:=#[t,t] })
  {base:Nat} {E:TypeId} {i:TypeInfo} {z:Value} {bytes:Nat} (ht:P.underlying t=Ad (.slice E)) (hi:P.info? E=Ad i) (hz:i.zero=Ad z)
  (cF:i.size=e.sz) (dG:i.bytes=bytes) (hzs:z.cells.size=e.sz)
  {v:Value} {l:List α} (hs:a.eval s=v) (hown:Ow e E w base v l)
  {B:Nat} {A:Option Addr} {m c:Nat} {ys:List α} (hx:a.eval x = .slice A m c) (hr:Rd e w B (.slice A m c) ys)
  (hn:l.length<=3000000) (hm:ys.length<=3000000) (hbytes:bytes<=10000) (aS:base<=w.heap.size)
  (h:∀ v' w',Ow e E w' base v' (l ++ ys)->w.grownBy w' v.ownBlock->(v'.ownBlock=v.ownBlock\/v'.ownBlock=Ad w.heap.size)->wpList P ops Q rest (a.put o.dst v') w'):wpList P ops Q (o :: rest) a w :=
 wpList_plain dC fun _ hK=>Fe w e bJ s x t ho base E i z bytes ht hi hz cF dG hzs v l hs hown B A m c ys hx hr hn hm hbytes aS fun v' w' h2 h3 h4=>hK _ _ (h v' w' h2 h3 h4)
theorem G4 {α:Type} {ops:Array Oper} {o:Oper} {a:Act} {K:Act->World->Prop} {Q:Exit->Act->World->Prop} {EE:Prop} (e:Enc α) (bJ:0<e.sz) (dC:o.guard=Ac) (s x:Operand) {t:TypeId}
  (ho:o.op = .call { callee:=.builtin .append,args:=#[s,x],argTypes:=#[t,t] })
  {base:Nat} {E:TypeId} {i:TypeInfo} {z:Value} {bytes:Nat} (ht:P.underlying t=Ad (.slice E)) (hi:P.info? E=Ad i) (hz:i.zero=Ad z)
  (cF:i.size=e.sz) (dG:i.bytes=bytes) (hzs:z.cells.size=e.sz)
  {v:Value} {l:List α} (hs:a.eval s=v) (hown:Ow e E w base v l)
  {B:Nat} {A:Option Addr} {m c:Nat} {ys:List α} (hx:a.eval x = .slice A m c) (hr:Rd e w B (.slice A m c) ys)
  (hn:l.length<=3000000) (hm:ys.length<=3000000) (hbytes:bytes<=10000) (aS:base<=w.heap.size)
  (h:∀ v' w',Ow e E w' base v' (l ++ ys)->w.grownBy w' v.ownBlock->(v'.ownBlock=v.ownBlock\/v'.ownBlock=Ad w.heap.size)->K (a.put o.dst v') w') :
  if Region.wanted o (yielded ops a.tmps)=true then Oper.wp P o a w K Q else EE:=by
 have hw:Region.wanted o (yielded ops a.tmps)=true:=by simp [Region.wanted,dC]
 rw [if_pos hw];exact Fe w e bJ s x t ho base E i z bytes ht hi hz cF dG hzs v l hs hown B A m c ys hx hr hn hm hbytes aS h
end
theorem Rd.one {α:Type} (e:Enc α) (w:World) (T:TypeId) (x:α) {g:Nat} (hg:g=w) {cs:Array Value} (mW:cs=(e.cells x).toArray) (c:Nat) (hc:1<=c) {B:Nat} (hB:g<B):Rd e (w.alloc (.cells cs T)) B (Aa (Ad ⟨g,0,Ac⟩) 1 c) [x]:=by
 refine ⟨_,c,rfl,by simpa using hc,fun _=>⟨g,0,rfl,hB,fun k hk j u hu=>?_⟩⟩;have dF:k=0:=by simpa using hk
 subst dF;simp only [List.getElem_cons_zero] at hu
 have:=Oq w cs T hg j u (by rw [mW];simpa using hu)
 have ea:(⟨g,0,Ac⟩:Addr).add j=⟨g,0+0 * e.sz+j,Ac⟩:=by
  unfold Addr.add;split<;>simp_all
 rw [ea] at this;exact this
theorem Ow.empty {α:Type} (e:Enc α) (E:TypeId) (w:World) {g:Nat} (hg:g=w):Ow e E (w.alloc (.cells #[] E)) g (Aa (Ad ⟨g,0,Ac⟩) 0 0) []:=by
 subst hg;exact World.ownsRow_lit (base:=w) (e:=E) (size:=e.sz) w #[] 0 (Bs _) (by simp [maxLen]) Bn
theorem Yo (v:Value) (l:List Edge) (x:Edge) (w:World) (hl:l.length<=2000000) (h:Rd Gd w w v l) :
  Calls An 301 #[v,Aby x] w fun e w'=>e = .returned (J Ab (He (fun y=>decide (x=y)) l))/\Below w w w':=by
 obtain ⟨A,c,rfl,-⟩:=id h;unfold Aby;go_enter func301,ntmps301;go_wp2;go_loopw [8] (fun i wr=>∃ k:Nat,k<=l.length/\i = J Ab k/\Hid (∀ j (hj:j<k) (hj':j<l.length),decide (x=l[j])=false)/\Below (w.alloc (.cells #[J Ab x.fr,J Ab x.to] 206)) (w.alloc (.cells #[J Ab x.fr,J Ab x.to] 206)) wr) (fun i _=>l.length - (intOf i).toNat);case atStart=>exact ⟨0,Ah _,rfl,fun j hj=>absurd hj Bl,Br _ _⟩
 case round =>
  obtain ⟨k,hk,rfl,bY,hb⟩:=hrel;have dJ:Below w w (w.alloc (.cells #[J Ab x.fr,J Ab x.to] 206)):=Bt;have bN:=Bv dJ hb;by_cases aB:k<l.length
  ·obtain ⟨b,o,rfl,aH,c0,c1⟩:=(h.below bN).edge aB;have n0:wr.cell? ⟨w,0,Ac⟩=Ad (J Ab x.fr):=(hb.cell (p:=⟨w,0,Ac⟩) Bn).trans (by go_simp);have n1:wr.cell? ⟨w,1,Ac⟩=Ad (J Ab x.to):=(hb.cell (p:=⟨w,1,Ac⟩) Bn).trans (by go_simp);by_cases hx:x=l[k]
   ·have H:=Bq (It (p:=fun y=>decide (x=y)) aB (fun j hj=>bY.out j hj Bl) (show decide (x=l[k])=true by simp [hx]));have e0:l[k].fr=x.fr:=by rw [hx]
    have e1:l[k].to=x.to:=by rw [hx]
    rw [e0] at c0;rw [e1] at c1;clear hx e0 e1;go_wp2;go_quiet (fail);go_wp2;go_ret;exact ⟨D6 (by rw [H.out]),Du bN _⟩
   ·have S:Hid (∀ j (hj:j<k+1) (hj':j<l.length),decide (x=l[j])=false):=by
     intro j hj hj';by_cases e:j=k
     ·subst e;simpa using hx
     ·exact bY.out j Bl hj'
    have eE:¬ (x.fr=l[k].fr/\x.to=l[k].to):=fun ⟨e0,e1⟩=>hx (by cases x;cases hlk:l[k];simp_all);clear hx;by_cases e0:x.fr=l[k].fr
    ·have e1:¬ x.to=l[k].to:=fun e=>eE ⟨e0,e⟩;have e1':(x.to == l[k].to)=false:=by simpa using e1
     rw [<-e0] at c0;clear eE e0;go_wp2;go_quiet (fail);go_wp2;exact ⟨⟨k+1,Bl,by go_num,S,Du hb _⟩,clM⟩
    ·have e0':(x.fr == l[k].fr)=false:=by simpa using e0
     clear eE;go_wp2;go_quiet (fail);go_wp2;exact ⟨⟨k+1,Bl,by go_num,S,Du hb _⟩,clM⟩
  ·have H:=Bq (Jd (p:=fun y=>decide (x=y)) (l:=l) (fun j hj=>bY.out j Bl hj));go_wp2;go_ret;exact ⟨D6 (by rw [H.out]),bN⟩
theorem Af1 {l:List Edge} {x:Edge} : (0<=He (fun y=>decide (x=y)) l) ↔ x∈l:=by
 unfold He;cases h:l.findIdx? (fun y=>decide (x=y)) with
 | none =>
  rw [List.findIdx?_eq_none_iff] at h;simp only;refine ⟨fun h=>absurd h Bl,fun hx=>?_⟩
  have:=h x hx
  simp at this
 | some i =>
  rw [List.findIdx?_eq_some_iff_getElem] at h;obtain ⟨hi,hp,_⟩:=h;simp only [decide_eq_true_eq] at hp;simp only;exact ⟨fun _=>by rw [hp];exact Ax hi,fun _=>Bl⟩
theorem Ng (v:Value) (l:List Edge) (x:Edge) (w:World) (hl:l.length<=2000000) (h:Rd Gd w w v l) :
  Calls An 270 #[v,Aby x] w fun e w'=>e = .returned (.bool (decide (x∈l)))/\Below w w w':=by
 have dJ:Below w w (w.alloc (.cells #[J Ab x.fr,J Ab x.to] 206)):=Bt;have H:=Bq (show decide (0<=He (fun y=>decide (x=y)) l)=decide (x∈l) from decide_eq_decide.2 Af1);unfold Aby;go_enter func270,ntmps270;go_wp2_with fail
 refine (Yo v l x _ hl ((h.below dJ).more dJ.size)).mono ?_;rintro e w1 ⟨rfl,aZ⟩;go_wp2_with fail
 go_ret;exact ⟨Bx (by rw [<-H.out]),Bv dJ aZ⟩
theorem Ou {p:Plan} (h:Eg p=false):Cr p=1:=by unfold Cr;rw [if_pos h]
theorem Ov {p:Plan} (h:Eg p=true) (h2:¬ Ht p):Cr p=2:=by unfold Cr;rw [if_neg (by rw [h];simp),if_pos h2]
theorem Oj {p:Plan} (h:Eg p=true) (h2:Ht p) (h3:¬ p.edges.Nodup):Cr p=3:=by
 unfold Cr;rw [if_neg (by rw [h];simp),if_neg (by simpa using h2),if_pos h3]
theorem Ok {p:Plan} (h:Eg p=true) (h2:Ht p) (h3:p.edges.Nodup) (h4:S7 p):Cr p=4:=by
 unfold Cr;rw [if_neg (by rw [h];simp),if_neg (by simpa using h2),if_neg (by simpa using h3),if_pos h4]
theorem Mh {α:Type} {l:List α} {x:α} : (l ++ [x]).Nodup ↔ l.Nodup/\x∉l:=by
 rw [Ay];constructor
 ·rintro ⟨h1,_,h2⟩;exact ⟨h1,fun hx=>h2 x hx x Bn rfl⟩
 ·rintro ⟨h1,h2⟩;refine ⟨h1,Bn,fun a ha b hb e=>?_⟩;simp only [Aw] at hb;subst hb;subst e;exact h2 ha
theorem Q3 (p:Plan) (ve:Value) (w:World) (hl:p.edges.length<=2000000) (h:Rd Gd w w ve p.edges) (hm:Eg p=false) :
  Calls An 200 #[Gl p ve] w fun e w'=>e = .returned (J Ab (Cr p))/\Below w w w':=by
 have H:=Bq (Ou hm);obtain ⟨A,c,rfl,-⟩:=id h;unfold Gl;cases h1:inB p.tasks 1 12
 ·clear hm;go_enter func200,ntmps200;go_wp2_with (go_at_call 72;refine (Cq _ _ _ _).mono ?_;rintro e w' ⟨rfl,rfl⟩)
  go_ret;exact ⟨D6 H.out.symm,Bt⟩
 by_cases h2:30<p.edges.length
 ·have h2':(30:Int)<(p.edges.length:Int):=Bl;clear hm;go_enter func200,ntmps200;go_wp2_with (go_at_call 72;refine (Cq _ _ _ _).mono ?_;rintro e w' ⟨rfl,rfl⟩)
  go_ret;exact ⟨D6 H.out.symm,Bt⟩
 have h2':¬ (30:Int)<(p.edges.length:Int):=Bl;cases h3:inB p.prio 0 9
 ·clear hm;go_enter func200,ntmps200;go_wp2_with (go_at_call 72;refine (Cq _ _ _ _).mono ?_;rintro e w' ⟨rfl,rfl⟩)
  go_ret;exact ⟨D6 H.out.symm,Bt⟩
 cases h4:inB p.most 1 5
 ·clear hm;go_enter func200,ntmps200;go_wp2_with (go_at_call 72;refine (Cq _ _ _ _).mono ?_;rintro e w' ⟨rfl,rfl⟩)
  go_ret;exact ⟨D6 H.out.symm,Bt⟩
 cases h5:inB p.wait 1 20
 ·clear hm;go_enter func200,ntmps200;go_wp2_with (go_at_call 72;refine (Cq _ _ _ _).mono ?_;rintro e w' ⟨rfl,rfl⟩)
  go_ret;exact ⟨D6 H.out.symm,Bt⟩
 ·exfalso;have:Eg p=true:=by simp [Eg,h1,h3,h4,h5];omega
  rw [this] at hm;cases hm
structure Sl where
 a:Option Addr
 n:Nat
 c:Nat
abbrev Sl.v (s:Sl):Value:=.slice s.a s.n s.c
structure Chg (F:List Nat) (w w':World):Prop where
 os:w'.os=w.os
 tape:w'.tape=w.tape
 output:w'.output=w.output
 size:w.heap.size<=w'.heap.size
 block:∀ b,b<w.heap.size->b∉F->w'.heap[b]? = w.heap[b]?
theorem Chg.refl (F:List Nat) (w:World):Chg F w w:=⟨rfl,rfl,rfl,Bs _,fun _ _ _=>rfl⟩
theorem Chg.trans {F:List Nat} {a b c:World} (h:Chg F a b) (k:Chg F b c):Chg F a c :=
 ⟨k.os.trans h.os,k.tape.trans h.tape,k.output.trans h.output,Ai h.size k.size,fun i hi hn=>(k.block i (Aj hi h.size) hn).trans (h.block i hi hn)⟩
theorem Chg.mono {F G:List Nat} {a b:World} (h:Chg F a b) (hs:∀ x∈F,x∈G):Chg G a b:=⟨h.os,h.tape,h.output,h.size,fun i hi hn=>h.block i hi (fun hx=>hn (hs i hx))⟩
theorem Chg.of_below {a b:World} (F:List Nat) (h:Below a a b):Chg F a b:=⟨h.os,h.tape,h.output,h.size,fun i hi _=>h.block i hi⟩
theorem Chg.below {F:List Nat} {a b:World} (h:Chg F a b) {base:Nat} (hb:base<=a.heap.size) (hF:∀ x∈F,base<=x):Below base a b :=
 ⟨h.os,h.tape,h.output,h.size,fun i hi=>h.block i Bl (fun hx=>by have:=hF i hx;omega)⟩
theorem Chg.setCell (w:World) (b o:Nat) (u:Value):Chg [b] w (w.setCell ⟨b,o,Ac⟩ u) :=
 ⟨rfl,rfl,rfl,by simp [World.setCell],fun i _ hn=>Below.heap_setCell w ⟨b,o,Ac⟩ u i (by simpa using hn)⟩
theorem Chg.grown {F:List Nat} {a b:World} {row:Option Nat} (h:a.grownBy b row) (hr:∀ g,row=Ad g->g∈F):Chg F a b :=
 ⟨h.os,h.tape,h.output,h.size,fun i hi hn=>h.block i hi (fun e=>hn (hr i e.symm))⟩
theorem Chg.cell {F:List Nat} {w w':World} (h:Chg F w w') {p:Addr} (hp:p.block<w.heap.size) (hn:p.block∉F):w'.cell? p=w.cell? p:=World.cell?_of_block (h.block _ hp hn)
theorem Chg.frozen {F:List Nat} {w w':World} (h:Chg F w w') {p:Addr} (hp:p.block<w.heap.size) (hn:p.block∉F):w'.frozen? p=w.frozen? p:=World.frozen?_of_block (h.block _ hp hn)
section
variable {α:Type} {e:Enc α} {w w':World} {B B':Nat} {v:Value} {l:List α} {F G:List Nat}
def Ei (v:Value) (n:Nat):List Nat:=if n=0 then [] else v.ownBlock.toList
theorem Kh (v:Value) (n:Nat):(Ei v n).Nodup:=by
 unfold Ei;split
 ·exact List.nodup_nil
 ·cases v.ownBlock<;>simp
def Hw (e:Enc α) (w:World) (F:List Nat) (v:Value) (l:List α):Prop:=Rd e w w v l/\F=Ei v l.length /\ ∀ g∈F,∀ j,w.frozen? ⟨g,j,Ac⟩=false
theorem Rd.block_lt {A:Option Addr} {n c:Nat} (h:Rd e w B (Aa A n c) l):∀ b∈Ei (Aa A n c) l.length,b<B:=by
 intro b hb;obtain ⟨A',c',hv,_,hA⟩:=h;simp only [Value.slice.injEq] at hv;obtain ⟨rfl,rfl,rfl⟩:=hv;unfold Ei at hb;split at hb
 ·cases hb
 ·obtain ⟨b',o',rfl,aB,_⟩:=hA Bl;simp [Value.ownBlock] at hb;omega
theorem Rd.keepF (h:Rd e w B v l) (hB:B<=B') (hk:∀ b∈Ei v l.length,∀ o,w'.cell? ⟨b,o,Ac⟩=w.cell? ⟨b,o,Ac⟩):Rd e w' B' v l:=by
 obtain ⟨A,c,rfl,cA,hA⟩:=h;refine ⟨A,c,rfl,cA,fun hl=>?_⟩;obtain ⟨b,o,rfl,aB,hc⟩:=hA hl;refine ⟨b,o,rfl,Bl,fun k bE j u hu=>?_⟩;rw [hk b (by unfold Ei;rw [if_neg Bl];simp [Value.ownBlock])];exact hc k bE j u hu
theorem Hw.lt (h:Hw e w F v l):∀ b∈F,b<w:=by
 obtain ⟨hr,rfl,_⟩:=h;obtain ⟨A,c,rfl,_⟩:=id hr;exact hr.block_lt
theorem Hw.nodup (h:Hw e w F v l):F.Nodup:=by
 obtain ⟨_,rfl,_⟩:=h;exact Kh _ _
theorem Hw.keep (h:Hw e w F v l) (hs:w.heap.size<=w'.heap.size) (hk:∀ b∈F,w'.heap[b]? = w.heap[b]?):Hw e w' F v l:=by
 obtain ⟨hr,rfl,hf⟩:=h;refine ⟨hr.keepF hs (fun b hb o=>World.cell?_of_block (hk b hb)),rfl,fun g hg j=>?_⟩;rw [World.frozen?_of_block (w:=w) (hk g hg)];exact hf g hg j
theorem Hw.chg (h:Hw e w F v l) (hc:Chg G w w') (hd:∀ b∈F,b∉G):Hw e w' F v l:=h.keep hc.size fun b hb=>hc.block b (h.lt b hb) (hd b hb)
theorem Hw.below (h:Hw e w F v l) (hb:Below w w w'):Hw e w' F v l:=h.keep hb.size fun b hF=>hb.block b (h.lt b hF)
theorem Hw.rd (h:Hw e w F v l):Rd e w w v l:=h.1
theorem Hw.of_ow {E:TypeId} {base:Nat} (h:Ow e E w base v l):Hw e w (Ei v l.length) v l /\ ∀ b∈Ei v l.length,base<=b:=by
 have hr:=Rd.of_own h;rcases h.form with ⟨rfl,rfl⟩ | ⟨g,cap,rfl,h1,h2,_,_,hf,_⟩
 ·exact ⟨⟨hr,rfl,fun g hg=>by simp [Ei] at hg⟩,fun b hb=>by simp [Ei] at hb⟩
 ·have hb:∀ b∈Ei (Aa (Ad ⟨g,0,Ac⟩) l.length cap) l.length,b=g:=by
   intro b hb;unfold Ei at hb;split at hb
   ·cases hb
   ·simpa [Value.ownBlock] using hb
  exact ⟨⟨hr,rfl,fun b bH j=>by rw [hb b bH];exact hf j⟩,fun b bH=>by rw [hb b bH];exact h1⟩
theorem Hw.nil (e:Enc α) (w:World) (A:Option Addr) (c:Nat):Hw e w [] (Aa A 0 c) [] :=
 ⟨⟨A,c,rfl,Ah _,fun h=>absurd h Bn⟩,by simp [Ei],fun _ h=>by cases h⟩
theorem Hw.at_ {A:Option Addr} {n c:Nat} (h:Hw e w F (Aa A n c) l) (hp:0<l.length):∃ b o,A=Ad ⟨b,o,Ac⟩/\F=[b]/\b<w.heap.size/\(∀ j,w.frozen? ⟨b,j,Ac⟩=false):=by
 obtain ⟨hr,hF,hf⟩:=h;obtain ⟨A',c',hv,_,hA⟩:=id hr;simp only [Value.slice.injEq] at hv;obtain ⟨rfl,rfl,rfl⟩:=hv;obtain ⟨b,o,rfl,aB,_⟩:=hA hp;have hFb:F=[b]:=by
  rw [hF];unfold Ei;rw [if_neg Bl];rfl
 exact ⟨b,o,rfl,hFb,aB,fun j=>hf b (by rw [hFb];simp) j⟩
end
theorem Fn:∀ (us:List Value) (w:World) (b i:Nat),Chg [b] w (Is w b i us)
 | [],w,b,_=>Chg.refl [b] w
 | u :: us,w,b,i=>(Chg.setCell w b i u).trans (Fn us _ b (i+1))
theorem J8:∀ (us:List Value) (w:World) (b i:Nat),(Is w b i us).heap.size=w.heap.size
 | [],_,_,_=>rfl
 | u :: us,w,b,i=>by
  rw [Is,J8 us];simp [World.setCell]
theorem Lw (w:World) (b o i:Nat) (u u0:Value) (h0:w.cell? ⟨b,o,Ac⟩=Ad u0) (hi:∃ x,w.cell? ⟨b,i,Ac⟩=Ad x) :
  (w.setCell ⟨b,i,Ac⟩ u).cell? ⟨b,o,Ac⟩=Ad (if o=i then u else u0):=by
 by_cases h:o=i
 ·subst h;rw [if_pos rfl];obtain ⟨x,hx⟩:=hi;simp [go_sem,hx]
 ·rw [if_neg h]
  have:=h0
  simp [go_sem,this]
theorem S8:∀ (us:List Value) (w:World) (b i o:Nat) (u0:Value),(∀ j,j<us.length -> ∃ x,w.cell? ⟨b,i+j,Ac⟩=Ad x)->w.cell? ⟨b,o,Ac⟩=Ad u0 ->
  (Is w b i us).cell? ⟨b,o,Ac⟩=Ad (if h:i<=o/\o<i+us.length then us[o - i]' Bl else u0)
 | [],w,b,i,o,u0,_,h0=>by
  rw [Is,h0,dif_neg Bn]
 | u :: us,w,b,i,o,u0,hx,h0=>by
  have h1:=Lw w b o i u u0 h0 (by simpa using hx 0 Bn);have h2:=S8 us (w.setCell ⟨b,i,Ac⟩ u) b (i+1) o _ (fun j hj=>by
   obtain ⟨x,eE⟩:=hx (j+1) (by simpa using hj);exact ⟨_,Lw w b (i+1+j) i u x (by rw [show i+1+j=i+(j+1) from by omega];exact eE) (by simpa using hx 0 Bn)⟩) h1
  rw [Is,h2];congr 1;by_cases ho:o=i
  ·subst ho;rw [dif_neg Bl,if_pos rfl,dif_pos Bn];simp
  ·by_cases cH:i+1<=o/\o<i+1+us.length
   ·rw [dif_pos cH,dif_pos (by simp only [List.length_cons];omega)];have:o - i=(o - (i+1))+1:=Bl;simp only [this,List.getElem_cons_succ]
   ·rw [dif_neg cH,if_neg ho,dif_neg (by simp only [List.length_cons];omega)]
theorem Je (w:World) (a:Addr) (u:Value) (p:Addr):(w.setCell a u).frozen? p=w.frozen? p:=by simp [go_sem]
theorem Jf:∀ (us:List Value) (w:World) (b i:Nat) (p:Addr),(Is w b i us).frozen? p=w.frozen? p
 | [],_,_,_,_=>rfl
 | u :: us,w,b,i,p=>by rw [Is,Jf us,Je]
theorem Rd.part {α:Type} {e:Enc α} {w:World} {B b o n c:Nat} {l:List α} (h:Rd e w B (Aa (Ad ⟨b,o,Ac⟩) n c) l) (k:Nat) (hk:k<l.length) (y:α) (off:Nat) (us:List Value) (hoff:off+us.length<=e.sz)
  (cH:∀ j (hj:j<us.length),(e.cells y)[off+j]? = Ad us[j]) (fI:∀ j,j<e.sz->(j<off\/off+us.length<=j)->(e.cells y)[j]? = (e.cells l[k])[j]?) :
  Rd e (Is w b (o+k * e.sz+off) us) B (Aa (Ad ⟨b,o,Ac⟩) n c) (l.set k y):=by
 obtain ⟨A',c',hv,cA,hA⟩:=h;simp only [Value.slice.injEq] at hv;obtain ⟨rfl,rfl,rfl⟩:=hv;refine ⟨_,c,by rw [Bh],by rw [Bh];exact cA,fun _=>?_⟩;obtain ⟨b',o',he,aB,hc⟩:=hA Bl;simp only [Option.some.injEq,Addr.mk.injEq,and_true] at he;obtain ⟨rfl,rfl⟩:=he;refine ⟨b,o,rfl,aB,fun i aQ j u hu=>?_⟩;have hi:i<l.length:=by rw [Bh] at aQ;exact aQ
 have hj:j<e.sz:=by
  have:=(List.getElem?_eq_some_iff.1 hu).1
  rw [e.len] at this;exact this
 have sY:∀ j',j'<us.length -> ∃ x,w.cell? ⟨b,o+k * e.sz+off+j',Ac⟩=Ad x:=fun j' hj'=>by
  have hlt':off+j'<(e.cells l[k]).length:=by rw [e.len];omega
  exact ⟨_,by rw [Nat.add_assoc];exact hc k hk (off+j') _ (List.getElem?_eq_getElem hlt')⟩
 by_cases hik:i=k
 ·subst hik;rw [List.getElem_set_self] at hu;have rT:j<(e.cells l[i]).length:=by rw [e.len];exact hj
  have h0:=hc i hi j _ (List.getElem?_eq_getElem rT);have h1:=S8 us w b (o+i * e.sz+off) (o+i * e.sz+j) _ sY h0;rw [h1];by_cases hr:off<=j/\j<off+us.length
  ·rw [dif_pos Bl];have h2:=cH (j - off) Bl;rw [show off+(j - off)=j from Bl,hu] at h2;have h3:o+i * e.sz+j - (o+i * e.sz+off)=j - off:=Bl;simp only [h3];exact h2.symm
  ·rw [dif_neg Bl];have h2:=fI j hj Bl;rw [hu,List.getElem?_eq_getElem rT] at h2;exact h2.symm
 ·rw [List.getElem_set_ne Bl] at hu;have h0:=hc i hi j u hu;have h1:=S8 us w b (o+k * e.sz+off) (o+i * e.sz+j) _ sY h0;rw [h1,dif_neg];intro hh;rcases Nat.lt_or_gt_of_ne hik with h | h
  ·have:(i+1) * e.sz<=k * e.sz:=Nat.mul_le_mul_right _ h;rw [Nat.succ_mul] at this;omega
  ·have:(k+1) * e.sz<=i * e.sz:=Nat.mul_le_mul_right _ h;rw [Nat.succ_mul] at this;omega
theorem Rd.same {α:Type} {e:Enc α} {w:World} {B:Nat} {v:Value} {l:List α} (h:Rd e w B v l) (k:Nat) (hk:k<l.length) (y:α) (hy:e.cells y=e.cells l[k]):Rd e w B v (l.set k y):=by
 obtain ⟨A,c,rfl,cA,hA⟩:=h;refine ⟨A,c,by rw [Bh],by rw [Bh];exact cA,fun hl=>?_⟩;rw [Bh] at hl;obtain ⟨b,o,hb,aB,hc⟩:=hA hl;refine ⟨b,o,hb,aB,fun i aQ j u hu=>?_⟩;have hi:i<l.length:=by rw [Bh] at aQ;exact aQ
 refine hc i hi j u ?_;by_cases hik:k=i
 ·subst hik;rw [List.getElem_set_self,hy] at hu;exact hu
 ·rw [List.getElem_set_ne hik] at hu;exact hu
structure Dt (α:Type) where
 S:Type
 enc:Enc (α×S)
 rd:World->Nat->α->S->Prop
 ow:World->List Nat->α->S->Prop
 rd_keep:∀ {w w':World} {B B':Nat} {x:α} {s:S},rd w B x s->B<=B'->(∀ p:Addr,p.block<B->w'.cell? p=w.cell? p)->rd w' B' x s
 ow_keep:∀ {w w':World} {F:List Nat} {x:α} {s:S},ow w F x s->w.heap.size<=w'.heap.size->(∀ b∈F,w'.heap[b]? = w.heap[b]?)->ow w' F x s
 ow_lt:∀ {w:World} {F:List Nat} {x:α} {s:S},ow w F x s -> ∀ b∈F,b<w
 ow_rd:∀ {w:World} {F:List Nat} {x:α} {s:S},ow w F x s->rd w w x s
 ow_nodup:∀ {w:World} {F:List Nat} {x:α} {s:S},ow w F x s->F.Nodup
section
variable {α:Type} {d:Dt α} {w w':World} {B B':Nat} {v:Value} {l:List α} {F G:List Nat}
def RdL (d:Dt α) (w:World) (B:Nat) (v:Value) (l:List α):Prop:=∃ rs:List (α×d.S),rs.map (·.1)=l/\Rd d.enc w B v rs /\ ∀ r∈rs,d.rd w B r.1 r.2
theorem RdL.keep (h:RdL d w B v l) (hB:B<=B') (hk:∀ p:Addr,p.block<B->w'.cell? p=w.cell? p):RdL d w' B' v l:=by
 obtain ⟨rs,hm,hr,ha⟩:=h;exact ⟨rs,hm,(hr.keep hk).more hB,fun r hx=>d.rd_keep (ha r hx) hB hk⟩
theorem RdL.below (h:RdL d w B v l) (hb:Below B w w'):RdL d w' B v l:=h.keep (Bs _) fun _ hp=>hb.cell hp
theorem RdL.more (h:RdL d w B v l) (hB:B<=B'):RdL d w B' v l:=h.keep hB fun _ _=>rfl
theorem RdL.form (h:RdL d w B v l):∃ A c,v = Aa A l.length c/\l.length<=c:=by
 obtain ⟨rs,rfl,⟨A,c,hv,hc,_⟩,_⟩:=h;exact ⟨A,c,by rw [Au];exact hv,by rw [Au];exact hc⟩
theorem RdL.at_ {A:Option Addr} {n c:Nat} (h:RdL d w B (Aa A n c) l) (k:Nat) (hk:k<l.length):∃ b o s,A=Ad ⟨b,o,Ac⟩/\b<B /\
  (∀ j u,(d.enc.cells (l[k],s))[j]? = Ad u->w.cell? ⟨b,o+k * d.enc.sz+j,Ac⟩=Ad u)/\d.rd w B l[k] s:=by
 obtain ⟨rs,rfl,⟨A',c',hv,_,hA⟩,ha⟩:=h;simp only [Value.slice.injEq] at hv;obtain ⟨rfl,_,_⟩:=hv;rw [Au] at hk;obtain ⟨b,o,bW,hb,hc⟩:=hA Bl;have e:(rs.map (·.1))[k]'(by rw [Au];exact hk)=rs[k].1:=by rw [List.getElem_map]
 refine ⟨b,o,rs[k].2,bW,hb,fun j u hu=>?_,?_⟩
 ·rw [e] at hu;exact hc k hk j u hu
 ·rw [e];exact ha _ (Ax hk)
inductive Ows (d:Dt α) (w:World):List Nat->List (α×d.S)->Prop
 | nil:Ows d w [] []
 | cons {F G:List Nat} {r:α×d.S} {rs:List (α×d.S)} : d.ow w F r.1 r.2->Ows d w G rs->Ows d w (F ++ G) (r :: rs)
theorem Ows.keep {rs:List (α×d.S)} (h:Ows d w F rs) (hs:w.heap.size<=w'.heap.size) (hk:∀ b∈F,w'.heap[b]? = w.heap[b]?):Ows d w' F rs:=by
 induction h with
 | nil=>exact .nil
 | cons h1 _ ih=>exact .cons (d.ow_keep h1 hs fun b hb=>hk b (Bf _ hb)) (ih fun b hb=>hk b (Be _ hb))
theorem Ows.lt {rs:List (α×d.S)} (h:Ows d w F rs):∀ b∈F,b<w:=by
 induction h with
 | nil=>intro b hb;cases hb
 | cons h1 _ ih =>
  intro b hb;rcases Bi.1 hb with hb | hb
  ·exact d.ow_lt h1 b hb
  ·exact ih b hb
theorem Ows.rd {rs:List (α×d.S)} (h:Ows d w F rs):∀ r∈rs,d.rd w w r.1 r.2:=by
 induction h with
 | nil=>intro r hr;cases hr
 | cons h1 _ ih =>
  intro r hr;rcases List.mem_cons.1 hr with rfl | hr
  ·exact d.ow_rd h1
  ·exact ih r hr
theorem Ows.append {rs ts:List (α×d.S)} (h:Ows d w F rs) (k:Ows d w G ts):Ows d w (F ++ G) (rs ++ ts):=by
 induction h with
 | nil=>exact k
 | cons h1 _ ih =>
  rw [List.append_assoc];exact .cons h1 ih
theorem Ows.one {r:α×d.S} (h:d.ow w F r.1 r.2):Ows d w F [r]:=by
 have:=Ows.cons h (Ows.nil (d:=d) (w:=w))
 rwa [List.append_nil] at this
theorem Ows.split {rs:List (α×d.S)} (h:Ows d w F rs) (k:Nat) (hk:k<=rs.length):∃ F1 F2,F=F1 ++ F2/\Ows d w F1 (rs.take k)/\Ows d w F2 (rs.drop k):=by
 induction h generalizing k with
 | nil=>exact ⟨[],[],rfl,by simpa using Ows.nil,by simpa using Ows.nil⟩
 | @cons F G r rs h1 h2 ih =>
  cases k with
  | zero=>exact ⟨[],F ++ G,rfl,by simpa using Ows.nil,by simpa using Ows.cons h1 h2⟩
  | succ k =>
   obtain ⟨F1,F2,rfl,h3,h4⟩:=ih k (by simpa using hk);exact ⟨F ++ F1,F2,by rw [List.append_assoc],by simpa using Ows.cons h1 h3,by simpa using h4⟩
theorem Ows.head {r:α×d.S} {rs:List (α×d.S)} (h:Ows d w F (r :: rs)):∃ F1 F2,F=F1 ++ F2/\d.ow w F1 r.1 r.2/\Ows d w F2 rs:=by
 cases h with
 | cons h1 h2=>exact ⟨_,_,rfl,h1,h2⟩
def OwL (d:Dt α) (w:World) (F:List Nat) (v:Value) (l:List α):Prop :=
 ∃ (rs:List (α×d.S)) (H G:List Nat),rs.map (·.1)=l/\Hw d.enc w H v rs/\Ows d w G rs/\F=H ++ G/\F.Nodup
theorem OwL.keep (h:OwL d w F v l) (hs:w.heap.size<=w'.heap.size) (hk:∀ b∈F,w'.heap[b]? = w.heap[b]?):OwL d w' F v l:=by
 obtain ⟨rs,H,G,hm,hh,ho,rfl,hn⟩:=h;exact ⟨rs,H,G,hm,hh.keep hs fun b hb=>hk b (Bf _ hb),ho.keep hs fun b hb=>hk b (Be _ hb),rfl,hn⟩
theorem OwL.lt (h:OwL d w F v l):∀ b∈F,b<w:=by
 obtain ⟨rs,H,G,hm,hh,ho,rfl,hn⟩:=h;intro b hb;rcases Bi.1 hb with hb | hb
 ·exact hh.lt b hb
 ·exact ho.lt b hb
theorem OwL.nodup (h:OwL d w F v l):F.Nodup:=by
 obtain ⟨rs,H,G,hm,hh,ho,rfl,hn⟩:=h;exact hn
theorem OwL.rd (h:OwL d w F v l):RdL d w w v l:=by
 obtain ⟨rs,H,G,hm,hh,ho,rfl,hn⟩:=h;exact ⟨rs,hm,hh.rd,ho.rd⟩
theorem OwL.chg (h:OwL d w F v l) (hc:Chg G w w') (hd:∀ b∈F,b∉G):OwL d w' F v l:=h.keep hc.size fun b hb=>hc.block b (h.lt b hb) (hd b hb)
theorem OwL.below (h:OwL d w F v l) (hb:Below w w w'):OwL d w' F v l:=h.keep hb.size fun b hF=>hb.block b (h.lt b hF)
theorem OwL.nil (d:Dt α) (w:World) (A:Option Addr) (c:Nat):OwL d w [] (Aa A 0 c) []:=⟨[],[],[],rfl,Hw.nil _ _ _ _,.nil,rfl,List.nodup_nil⟩
theorem OwL.form (h:OwL d w F v l):∃ A c,v = Aa A l.length c/\l.length<=c:=h.rd.form
@[reducible] def Dt.list (d:Dt α):Dt (List α) where
 S:=Sl
 enc:={ cells:=fun p=>[p.2.v],sz:=1,len:=fun _=>rfl,one:=fun p u hu=>by simp at hu;subst hu;rfl }
 rd w B l s:=RdL d w B s.v l
 ow w F l s:=OwL d w F s.v l
 rd_keep h hB hk:=h.keep hB hk
 ow_keep h hs hk:=h.keep hs hk
 ow_lt h:=h.lt
 ow_rd h:=h.rd
 ow_nodup h:=h.nodup
@[reducible] def Dt.flats (e:Enc α):Dt (List α) where
 S:=Sl
 enc:={ cells:=fun p=>[p.2.v],sz:=1,len:=fun _=>rfl,one:=fun p u hu=>by simp at hu;subst hu;rfl }
 rd w B l s:=Rd e w B s.v l
 ow w F l s:=Hw e w F s.v l
 rd_keep h hB hk:=(h.keep hk).more hB
 ow_keep h hs hk:=h.keep hs hk
 ow_lt h:=h.lt
 ow_rd h:=h.rd
 ow_nodup h:=h.nodup
@[reducible] def Dt.flat {β:Type} (cells:β×Unit->List Value) (sz:Nat) (len:∀ x,(cells x).length=sz) (one:∀ x,∀ u∈cells x,u.oneCell'=true):Dt β where
 S:=Unit
 enc:={ cells:=cells,sz:=sz,len:=len,one:=one }
 rd _ _ _ _:=True
 ow _ F _ _:=F=[]
 rd_keep _ _ _:=trivial
 ow_keep h _ _:=h
 ow_lt h:=by subst h;intro b hb;cases hb
 ow_rd _:=trivial
 ow_nodup h:=by subst h;exact List.nodup_nil
@[reducible] def Dt.via {β:Type} (d:Dt α) (f:β->α) (cells:β×d.S->List Value) (sz:Nat) (len:∀ x,(cells x).length=sz) (one:∀ x,∀ u∈cells x,u.oneCell'=true):Dt β where
 S:=d.S
 enc:={ cells:=cells,sz:=sz,len:=len,one:=one }
 rd w B x s:=d.rd w B (f x) s
 ow w F x s:=d.ow w F (f x) s
 rd_keep h hB hk:=d.rd_keep h hB hk
 ow_keep h hs hk:=d.ow_keep h hs hk
 ow_lt h:=d.ow_lt h
 ow_rd h:=d.ow_rd h
 ow_nodup h:=d.ow_nodup h
@[reducible] def Dt.two {β γ:Type} (d:Dt α) (d':Dt γ) (f:β->α) (g:β->γ) (cells:β×(d.S×d'.S)->List Value) (sz:Nat) (len:∀ x,(cells x).length=sz) (one:∀ x,∀ u∈cells x,u.oneCell'=true):Dt β where
 S:=d.S×d'.S
 enc:={ cells:=cells,sz:=sz,len:=len,one:=one }
 rd w B x s:=d.rd w B (f x) s.1/\d'.rd w B (g x) s.2
 ow w F x s:=∃ F1 F2,F=F1 ++ F2/\F.Nodup/\d.ow w F1 (f x) s.1/\d'.ow w F2 (g x) s.2
 rd_keep h hB hk:=⟨d.rd_keep h.1 hB hk,d'.rd_keep h.2 hB hk⟩
 ow_keep:=fun ⟨F1,F2,hF,hn,h1,h2⟩ hs hk=>⟨F1,F2,hF,hn,d.ow_keep h1 hs fun b hb=>hk b (by rw [hF];exact Bf _ hb),d'.ow_keep h2 hs fun b hb=>hk b (by rw [hF];exact Be _ hb)⟩
 ow_lt:=fun ⟨F1,F2,hF,hn,h1,h2⟩ b hb=>by
  rw [hF] at hb
  rcases Bi.1 hb with hb | hb
  ·exact d.ow_lt h1 b hb
  ·exact d'.ow_lt h2 b hb
 ow_rd:=fun ⟨F1,F2,hF,hn,h1,h2⟩=>⟨d.ow_rd h1,d'.ow_rd h2⟩
 ow_nodup:=fun ⟨F1,F2,hF,hn,h1,h2⟩=>hn
theorem Dt.ow_chg (d:Dt α) {x:α} {s:d.S} (h:d.ow w F x s) (hc:Chg G w w') (hd:∀ b∈F,b∉G):d.ow w' F x s:=d.ow_keep h hc.size fun b hb=>hc.block b (d.ow_lt h b hb) (hd b hb)
theorem Dt.ow_below (d:Dt α) {x:α} {s:d.S} (h:d.ow w F x s) (hb:Below w w w'):d.ow w' F x s:=d.ow_keep h hb.size fun b hF=>hb.block b (d.ow_lt h b hF)
theorem Dt.rd_below (d:Dt α) {x:α} {s:d.S} (h:d.rd w B x s) (hb:Below B w w'):d.rd w' B x s:=d.rd_keep h (Bs _) fun _ hp=>hb.cell hp
theorem Dt.rd_more (d:Dt α) {x:α} {s:d.S} (h:d.rd w B x s) (hB:B<=B'):d.rd w B' x s:=d.rd_keep h hB fun _ _=>rfl
def Fa (d:Dt α) (val:α->d.S->Value) (x:α) (w:World) (e:Ending) (w':World):Prop :=
 ∃ s F,e = .returned (val x s)/\d.ow w' F x s/\(∀ b∈F,w<=b)/\Below w w w'
end
section
variable {α:Type} {d:Dt α} {w w':World} {v:Value} {l:List α} {F G:List Nat}
theorem Dt.ow_set (d:Dt α) {x:α} {s:d.S} (h:d.ow w F x s) {a:Addr} (ha:a.block∉F) (u:Value):d.ow (w.setCell a u) F x s :=
 d.ow_keep h (by simp [World.setCell]) fun b hb=>Below.heap_setCell w a u b (fun e=>ha (by rw [<-e];exact hb))
theorem OwL.set (h:OwL d w F v l) {a:Addr} (ha:a.block∉F) (u:Value):OwL d (w.setCell a u) F v l :=
 h.keep (by simp [World.setCell]) fun b hb=>Below.heap_setCell w a u b (fun e=>ha (by rw [<-e];exact hb))
theorem Hw.set {e:Enc α} (h:Hw e w F v l) {a:Addr} (ha:a.block∉F) (u:Value):Hw e (w.setCell a u) F v l :=
 h.keep (by simp [World.setCell]) fun b hb=>Below.heap_setCell w a u b (fun e=>ha (by rw [<-e];exact hb))
theorem Ows.bel {rs:List (α×d.S)} (h:Ows d w F rs) (hb:Below w w w'):Ows d w' F rs:=h.keep hb.size fun b hF=>hb.block b (h.lt b hF)
theorem Ows.chg {rs:List (α×d.S)} (h:Ows d w F rs) (hc:Chg G w w') (hd:∀ b∈F,b∉G):Ows d w' F rs:=h.keep hc.size fun b hb=>hc.block b (h.lt b hb) (hd b hb)
end
theorem Ho (v:Value) (n:Nat):∀ b∈Ei v n,v.ownBlock=Ad b:=by
 intro b hb;unfold Ei at hb;split at hb
 ·cases hb
 ·cases h:v.ownBlock with
  | none=>rw [h] at hb;cases hb
  | some g =>
   rw [h] at hb;simp at hb;rw [hb]
section
variable {α:Type} {d:Dt α} {E:TypeId} {w w1 w':World} {base:Nat} {v:Value} {rs:List (α×d.S)}
def Bld (d:Dt α) (E:TypeId) (w:World) (base:Nat) (v:Value) (rs:List (α×d.S)):Prop :=
 ∃ G,Ow d.enc E w base v rs/\Ows d w G rs/\G.Nodup /\ ∀ b∈G,base<=b/\v.ownBlock≠Ad b
theorem Bld.nil (d:Dt α) (E:TypeId) (w:World) (base:Nat):Bld d E w base (Aa Ac 0 0) []:=⟨[],Ow.nil _ _ _ _,.nil,List.nodup_nil,fun _ h=>by cases h⟩
theorem Bld.of_empty {v:Value} (h:Ow d.enc E w base v []):Bld d E w base v []:=⟨[],h,.nil,List.nodup_nil,fun _ h=>by cases h⟩
theorem Bld.below (h:Bld d E w base v rs) (hb:Below w w w'):Bld d E w' base v rs:=by
 obtain ⟨G,h1,h2,h3,h4⟩:=h;exact ⟨G,h1.below hb,h2.bel hb,h3,h4⟩
theorem Bld.ow (h:Bld d E w base v rs):Ow d.enc E w base v rs:=by
 obtain ⟨G,h1,_⟩:=h;exact h1
theorem Bld.rd (h:Bld d E w base v rs):RdL d w w v (rs.map (·.1)):=by
 obtain ⟨G,h1,h2,_⟩:=h;exact ⟨rs,rfl,Rd.of_own h1,h2.rd⟩
theorem Bld.push {v3:Value} {w3:World} {ts:List (α×d.S)} {F:List Nat} (h:Bld d E w base v rs) (hb:Below w w w1) (ht:Ows d w1 F ts) (hF:∀ b∈F,w<=b) (hn:F.Nodup) (aS:base<=w.heap.size)
  (ho:Ow d.enc E w3 base v3 (rs ++ ts)) (hg:w1.grownBy w3 v.ownBlock) (hv:v3.ownBlock=v.ownBlock \/ ∃ g,v3.ownBlock=Ad g/\w1.heap.size<=g):Bld d E w3 base v3 (rs ++ ts):=by
 obtain ⟨G,h1,h2,h3,h4⟩:=h;have hG:∀ b∈G,b<w:=h2.lt;have cI:∀ b∈F,b<w1:=ht.lt;have rQ:∀ b∈F,v.ownBlock≠Ad b:=fun b hb he=>by
  rcases h1.form with ⟨rfl,_⟩ | ⟨g,cap,rfl,_,aB,_⟩
  ·simp [Value.ownBlock] at he
  ·have:g=b:=by simpa [Value.ownBlock] using he
   have:=hF b hb
   omega
 have hs:=hb.size;refine ⟨G ++ F,ho,?_,?_,?_⟩
 ·refine Ows.append ((h2.bel hb).keep hg.size fun b hbG=>hg.block b (by have:=hG b hbG;omega) ?_) (ht.keep hg.size fun b bT=>hg.block b (cI b bT) ?_)
  ·exact fun e=>(h4 b hbG).2 e.symm
  ·exact fun e=>rQ b bT e.symm
 ·rw [Ay];refine ⟨h3,hn,fun a ha b bH e=>?_⟩
  have:=hG a ha
  have:=hF b bH
  omega
 ·intro b aV;rcases Bi.1 aV with aV | aV
  ·refine ⟨(h4 b aV).1,?_⟩;rcases hv with hv | ⟨g,hv,aB⟩
   ·rw [hv];exact (h4 b aV).2
   ·rw [hv];intro e
    have:=hG b aV
    injection e with e
    omega
  ·refine ⟨by have:=hF b aV;omega,?_⟩;rcases hv with hv | ⟨g,hv,aB⟩
   ·rw [hv];exact rQ b aV
   ·rw [hv];intro e
    have:=cI b aV
    injection e with e
    omega
theorem Bld.owl (h:Bld d E w base v rs) {l:List α} (hl:rs.map (·.1)=l):∃ F,OwL d w F v l /\ ∀ b∈F,base<=b:=by
 obtain ⟨G,h1,h2,h3,h4⟩:=h;obtain ⟨h5,h6⟩:=Hw.of_ow h1;refine ⟨_,⟨rs,_,G,hl,h5,h2,rfl,?_⟩,?_⟩
 ·rw [Ay];refine ⟨Kh _ _,h3,fun a ha b hb e=>?_⟩;subst e;exact (h4 a hb).2 (Ho _ _ _ ha)
 ·intro b hb;rcases Bi.1 hb with hb | hb
  ·exact h6 b hb
  ·exact (h4 b hb).1
end
abbrev slV {α:Type} (_:α) (s:Sl):Value:=.slice s.a s.n s.c
section
variable {α:Type} {d:Dt α} {w w':World} {b o n c j:Nat} {rs:List (α×d.S)} {G1 Fx G2:List Nat} {x y:α} {s:d.S}
structure Foc (d:Dt α) (w:World) (b o n c:Nat) (rs:List (α×d.S)) (j:Nat) (G1 Fx G2:List Nat) (x:α) (s:d.S):Prop where
 rd:Rd d.enc w w (.slice (some ⟨b,o,none⟩) n c) (rs.set j (x,s))
 free:∀ i,w.frozen? ⟨b,i,none⟩=false
 left:Ows d w G1 (rs.take j)
 here:d.ow w Fx x s
 right:Ows d w G2 (rs.drop (j+1))
 lt:j<rs.length
 nodup:([b] ++ (G1 ++ (Fx ++ G2))).Nodup
 blk:b<w
theorem Foc.apart (h:Foc d w b o n c rs j G1 Fx G2 x s):(b∉G1/\b∉Fx/\b∉G2)/\(∀ a∈G1,a∉Fx)/\(∀ a∈G2,a∉Fx):=by
 have h1:=h.nodup;simp only [List.cons_append,List.nil_append,List.nodup_cons,Bi,not_or,Ay] at h1;obtain ⟨⟨a1,a2,a3⟩,_,⟨_,_,a4⟩,a5⟩:=h1;exact ⟨⟨a1,a2,a3⟩,fun a ha hx=>a5 a ha a (.inl hx) rfl,fun a ha hx=>a4 a hx a ha rfl⟩
theorem Foc.cells (h:Foc d w b o n c rs j G1 Fx G2 x s):∀ i u,(d.enc.cells (x,s))[i]? = Ad u->w.cell? ⟨b,o+j * d.enc.sz+i,Ac⟩=Ad u:=by
 intro i u hu;obtain ⟨A',c',hv,_,hA⟩:=h.rd;simp only [Value.slice.injEq] at hv;obtain ⟨rfl,_,_⟩:=hv;have hl:j<(rs.set j (x,s)).length:=by rw [Bh];exact h.lt
 obtain ⟨b',o',he,_,hc⟩:=hA Bl;simp only [Option.some.injEq,Addr.mk.injEq,and_true] at he;obtain ⟨rfl,rfl⟩:=he;exact hc j hl i u (by rw [List.getElem_set_self];exact hu)
theorem Foc.put (h:Foc d w b o n c rs j G1 Fx G2 x s) (y:α) (off:Nat) (us:List Value) (hoff:off+us.length<=d.enc.sz)
  (cH:∀ i (hi:i<us.length),(d.enc.cells (y,s))[off+i]? = Ad us[i]) (fI:∀ i,i<d.enc.sz->(i<off\/off+us.length<=i)->(d.enc.cells (y,s))[i]? = (d.enc.cells (x,s))[i]?)
  (hy:∀ W,d.ow W Fx x s->d.ow W Fx y s):Foc d (Is w b (o+j * d.enc.sz+off) us) b o n c rs j G1 Fx G2 y s/\Chg [b] w (Is w b (o+j * d.enc.sz+off) us):=by
 have hc:=Fn us w b (o+j * d.enc.sz+off);obtain ⟨⟨a1,a2,a3⟩,_,_⟩:=h.apart;refine ⟨⟨?_,fun i=>by rw [Jf];exact h.free i,h.left.chg hc ?_,hy _ (Dt.ow_chg d h.here hc ?_),h.right.chg hc ?_,h.lt,h.nodup,by rw [J8];exact h.blk⟩,hc⟩
 ·have hl:j<(rs.set j (x,s)).length:=by rw [Bh];exact h.lt
  have:=h.rd.part j hl (y,s) off us hoff cH (by rw [List.getElem_set_self];exact fI)
  rw [List.set_set] at this;rw [J8];exact this
 all_goals
  intro x hx hb;simp only [Aw] at hb;subst hb;first | exact a1 hx | exact a2 hx | exact a3 hx
theorem Foc.sub (h:Foc d w b o n c rs j G1 Fx G2 x s) (hc:Chg Fx w w') (hy:d.ow w' Fx y s) (hcells:d.enc.cells (y,s)=d.enc.cells (x,s)):Foc d w' b o n c rs j G1 Fx G2 y s:=by
 obtain ⟨⟨a1,a2,a3⟩,a4,a5⟩:=h.apart;refine ⟨?_,fun i=>by rw [hc.frozen (p:=⟨b,i,Ac⟩) h.blk a2];exact h.free i,h.left.chg hc a4,hy,h.right.chg hc a5,h.lt,h.nodup,Aj h.blk hc.size⟩;have hl:j<(rs.set j (x,s)).length:=by rw [Bh];exact h.lt
 have h1:=h.rd.keepF (w':=w') hc.size (fun b' bH i=>by
  have:=Ho _ _ _ bH
  have:b=b':=by simpa [Value.ownBlock] using this
  subst this;exact hc.cell (p:=⟨b,i,Ac⟩) h.blk a2)
 have h2:=h1.same j hl (y,s) (by rw [List.getElem_set_self];exact hcells);rwa [List.set_set] at h2
theorem Foc.start {F1 F2:List Nat} (hr:Rd d.enc w w (Aa (Ad ⟨b,o,Ac⟩) n c) rs) (hf:∀ i,w.frozen? ⟨b,i,Ac⟩=false) (h1:Ows d w F1 (rs.take j)) (h2:Ows d w F2 (rs.drop j)) (hj:j<rs.length) (hn:([b] ++ (F1 ++ F2)).Nodup) (hb:b<w) :
  ∃ Fx G2,F2=Fx ++ G2/\Foc d w b o n c rs j F1 Fx G2 rs[j].1 rs[j].2:=by
 rw [<-List.getElem_cons_drop hj] at h2;obtain ⟨Fx,G2,rfl,h3,h4⟩:=h2.head;refine ⟨Fx,G2,rfl,⟨?_,hf,h1,h3,h4,hj,hn,hb⟩⟩;have:rs.set j (rs[j].1,rs[j].2)=rs:=List.set_getElem_self hj;rw [this];exact hr
end
theorem OwL.foc {α:Type} {d:Dt α} {w:World} {F:List Nat} {A:Option Addr} {n c:Nat} {l:List α} (h:OwL d w F (Aa A n c) l) {j:Nat} (hj:j<l.length) :
  ∃ (b o:Nat) (rs:List (α×d.S)) (s:d.S) (G1 Fx G2:List Nat),A=Ad ⟨b,o,Ac⟩/\F=[b] ++ (G1 ++ (Fx ++ G2))/\rs.map (·.1)=l/\Foc d w b o n c rs j G1 Fx G2 l[j] s:=by
 obtain ⟨rs,H,G,hm,hh,ho,rfl,hn⟩:=h;subst hm;rw [Au] at hj;obtain ⟨b,o,rfl,rfl,hb,hf⟩:=hh.at_ Bl;obtain ⟨F1,F2,rfl,h1,h2⟩:=ho.split j (Nat.le_of_lt hj);obtain ⟨Fx,G2,rfl,h3⟩:=Foc.start hh.rd hf h1 h2 hj hn hb;refine ⟨b,o,rs,rs[j].2,F1,Fx,G2,rfl,rfl,rfl,?_⟩;rw [List.getElem_map];exact h3
theorem Foc.owl {α:Type} {d:Dt α} {w:World} {b o n c j:Nat} {rs:List (α×d.S)} {G1 Fx G2:List Nat} {x:α} {s:d.S} {l:List α} (h:Foc d w b o n c rs j G1 Fx G2 x s) (hm:rs.map (·.1)=l) :
  OwL d w ([b] ++ (G1 ++ (Fx ++ G2))) (Aa (Ad ⟨b,o,Ac⟩) n c) (l.set j x):=by
 refine ⟨rs.set j (x,s),[b],G1 ++ (Fx ++ G2),by rw [List.map_set,hm],⟨h.rd,?_,?_⟩,?_,rfl,h.nodup⟩
 ·unfold Ei;rw [if_neg (by rw [Bh];have:=h.lt;omega)];rfl
 ·intro g hg i;have:g=b:=by simpa using hg
  subst this;exact h.free i
 ·have e:rs.set j (x,s)=rs.take j ++ (x,s) :: rs.drop (j+1):=by rw [List.set_eq_take_append_cons_drop,if_pos h.lt]
  rw [e];exact h.left.append (.cons h.here h.right)
def Kv {α:Type} (cnt:α->Nat) (l:List α):Nat:=l.length+(l.map cnt).sum
theorem Gw {α:Type} {cnt:α->Nat} : ∀ {l:List α} {x:α},x∈l->cnt x+1<=Kv cnt l
 | y :: l,x,h=>by
  unfold Kv;simp only [List.length_cons,List.map_cons,List.sum_cons];rcases List.mem_cons.1 h with rfl | h
  ·omega
  ·have:=Gw (cnt:=cnt) h
   unfold Kv at this;omega
theorem Cv {α:Type} (cnt:α->Nat) (l:List α):l.length<=Kv cnt l:=Nat.le_add_right _ _
theorem Yp {α:Type} (f:α->Nat) (l:List α) (k:Nat) (h:k<l.length):((l.take (k+1)).map f).sum=((l.take k).map f).sum+f l[k]:=by
 rw [Cy l k h,List.map_append,List.sum_append];simp
theorem Hz {α:Type} {cnt:α->Nat} (h:∀ x,cnt x=0):∀ l:List α,Kv cnt l=l.length
 | []=>rfl
 | x :: l=>by
  have:=Hz h l
  unfold Kv at *
  simp only [List.length_cons,List.map_cons,List.sum_cons,h x] at *
  omega
section
variable {α:Type} (mk:Int->α->α) (num:α->Nat)
end
theorem S9 (p:Plan) (ve:Value) (w:World) (h:Rd Gd w w ve p.edges) (hm:Eg p=true) :
  Calls An 200 #[Gl p ve] w fun e w'=>e = .returned (J Ab (Cr p))/\Below w w w':=by
 have Hm:=Bq hm;obtain ⟨t1,t2⟩:=Dx hm;have aK:=Es hm;have hlen2:p.edges.length<=2000000:=Bl;have hlI:¬ (30:Int)<(p.edges.length:Int):=Bl;have hlB:decide ((30:Int)<(p.edges.length:Int))=false:=by simpa using hlI
 obtain ⟨A,c,rfl,-⟩:=id h;have cA:=h.cap;unfold Gl;simp only [Eg,Bool.and_eq_true] at hm;obtain ⟨⟨⟨⟨h1,-⟩,h3⟩,h4⟩,h5⟩:=hm;go_enter func200,ntmps200;go_wp2_with (go_at_call 72;refine (Cq _ _ _ _).mono ?_;rintro e w' ⟨rfl,rfl⟩)
 go_loopw [40] (fun i wr=>∃ k:Nat,k<=p.edges.length/\i = J Ab k/\Hid (∀ j (hj:j<p.edges.length),j<k->I9 p.tasks p.edges[j]=true)/\Below (El 43 p (Aa A p.edges.length c) w) (El 43 p (Aa A p.edges.length c) w) wr) (fun i _=>p.edges.length - (intOf i).toNat);case atStart=>exact ⟨0,Ah _,rfl,fun j hj h0=>absurd h0 Bl,Br _ _⟩
 case round =>
  obtain ⟨k,hk,rfl,aY,hb⟩:=hrel;obtain ⟨x0,x1,x2,x3,x4,hs,bN⟩:=Gm hb;have bG:w.heap.size<wr.heap.size:=Bl;by_cases aB:k<p.edges.length
  ·obtain ⟨b,o,rfl,aH,c0,c1⟩:=(h.below bN).edge aB;have hba:=hb.alloc hb.size (.cells #[J Ab p.edges[k].fr,J Ab p.edges[k].to] 206);have hbwa:=bN.alloc bN.size (.cells #[J Ab p.edges[k].fr,J Ab p.edges[k].to] 206);have bad:I9 p.tasks p.edges[k]=false->Hid (Cr p=2):=fun hf=>Ov Hm.out (fun cH=>by
    rw [cH _ (Ax aB)] at hf;cases hf)
   cases g1:inB p.edges[k].fr 0 (p.tasks - 1)
   ·have H:=bad (by simp [I9,g1]);clear bad;go_wp2_with (go_at_call 72;refine (Cq _ _ _ _).mono ?_;rintro e w' ⟨rfl,rfl⟩)
    go_ret;exact ⟨D6 H.out.symm,hbwa⟩
   cases g2:inB p.edges[k].to 0 (p.tasks - 1)
   ·have H:=bad (by simp [I9,g2]);clear bad;go_wp2_with (go_at_call 72;refine (Cq _ _ _ _).mono ?_;rintro e w' ⟨rfl,rfl⟩)
    go_ret;exact ⟨D6 H.out.symm,hbwa⟩
   ·have S:Hid (∀ j (hj:j<p.edges.length),j<k+1->I9 p.tasks p.edges[j]=true):=by
     intro j hj fM;by_cases e:j=k
     ·subst e;simp [I9,g1,g2]
     ·exact aY.out j hj Bl
    clear bad;go_wp2_with (go_at_call 72;refine (Cq _ _ _ _).mono ?_;rintro e w' ⟨rfl,rfl⟩)
    exact ⟨⟨k+1,Bl,by go_num,S,hba⟩,clM⟩
  ·have cH:Hid (Ht p):=fun e he=>by
    obtain ⟨j,hj,rfl⟩:=List.getElem_of_mem he;exact aY.out j hj Bl
   clear aY hk;go_wp2;go_loopw [64] (fun i wr=>∃ k:Nat,k<=p.edges.length/\i = J Ab k/\Hid ((p.edges.take k).Nodup)/\Below (El 43 p (Aa A p.edges.length c) w) (El 43 p (Aa A p.edges.length c) w) wr) (fun i _=>p.edges.length - (intOf i).toNat);case atStart=>exact ⟨0,Ah _,rfl,by show (p.edges.take 0).Nodup;simp,hb⟩
   case round =>
    clear hb x0 x1 x2 x3 x4 hs bN bG;obtain ⟨k,hk,rfl,aY,hb⟩:=hrel;obtain ⟨x0,x1,x2,x3,x4,hs,bN⟩:=Gm hb;have bG:w.heap.size<wr.heap.size:=Bl;have nV:k<=c:=Bl;by_cases aB:k<p.edges.length
    ·obtain ⟨b,o,rfl,aH,c0,c1⟩:=(h.below bN).edge aB;have hba:=hb.alloc hb.size (.cells #[J Ab p.edges[k].fr,J Ab p.edges[k].to] 206);have hbwa:=bN.alloc bN.size (.cells #[J Ab p.edges[k].fr,J Ab p.edges[k].to] 206);have n0:(wr.alloc (.cells #[J Ab p.edges[k].fr,J Ab p.edges[k].to] 206)).cell? ⟨wr,0,Ac⟩=Ad (J Ab p.edges[k].fr):=by go_simp
     have n1:(wr.alloc (.cells #[J Ab p.edges[k].fr,J Ab p.edges[k].to] 206)).cell? ⟨wr,1,Ac⟩=Ad (J Ab p.edges[k].to):=by go_simp
     have x4':(wr.alloc (.cells #[J Ab p.edges[k].fr,J Ab p.edges[k].to] 206)).cell? ⟨w,4,Ac⟩=Ad (Aa (Ad ⟨b,o,Ac⟩) p.edges.length c):=by
      rw [World.cell?_alloc_lt _ _ _ (by simp;omega)];exact x4
     have z1:wr.heap.size<(wr.alloc (.cells #[J Ab p.edges[k].fr,J Ab p.edges[k].to] 206)).heap.size:=Bn;have z2:w.heap.size<(wr.alloc (.cells #[J Ab p.edges[k].fr,J Ab p.edges[k].to] 206)).heap.size:=by simp;omega
     have rX:=(Rd.take (k:=k) (c':=c) (h.below bN) Bl nV)
     have aS:Below w w (wr.alloc (.cells #[J Ab p.edges[k].fr,J Ab p.edges[k].to] 206)):=hbwa;have hrd2:Rd Gd (wr.alloc (.cells #[J Ab p.edges[k].fr,J Ab p.edges[k].to] 206)) w (Aa (Ad ⟨b,o,Ac⟩) k c) (p.edges.take k):=Rd.take (h.below aS) Bl c nV;have aX:(p.edges.take k).length<=2000000:=by simp;omega
     clear rX;by_cases fV:p.edges[k]∈p.edges.take k
     ·have H:Hid (Cr p=3):=Oj Hm.out cH.out (fun bI=>by
       have h1:(p.edges.take (k+1)).Nodup:=bI.sublist (List.take_sublist _ _);rw [Cy _ k aB] at h1;exact (Mh.1 h1).2 fV)
      have hmb:decide (p.edges[k]∈p.edges.take k)=true:=by simpa using fV
      clear fV;go_wp2;generalize wr.alloc (.cells #[J Ab p.edges[k].fr,J Ab p.edges[k].to] 206)=W2 at *
      have aN:=Df W2;refine Bz Bm Bm ?_;repeat (go_big_quiet_step ((go_at_call 270;rename_i x;have h1:=Ng _ (p.edges.take k) p.edges[k] x.1 aX ((hrd2.below (x.2.mono aS.size)).more (Ai aS.size x.2.size));rw [hmb] at h1;exact Fk h1)))
      refine Al ?_;rintro _ ⟨⟨w1,aZ⟩,rfl⟩;clear aN;go_wp2;go_ret;exact ⟨D6 H.out.symm,Bv aS aZ⟩
     ·have S:Hid ((p.edges.take (k+1)).Nodup):=by
       show (p.edges.take (k+1)).Nodup;rw [Cy _ k aB];exact Mh.2 ⟨aY.out,fV⟩
      have hmb:decide (p.edges[k]∈p.edges.take k)=false:=by simpa using fV
      clear fV;go_wp2;generalize wr.alloc (.cells #[J Ab p.edges[k].fr,J Ab p.edges[k].to] 206)=W2 at *
      have aN:=Df W2;refine Bz Bm Bm ?_;repeat (go_big_quiet_step ((go_at_call 270;rename_i x;have h1:=Ng _ (p.edges.take k) p.edges[k] x.1 aX ((hrd2.below (x.2.mono aS.size)).more (Ai aS.size x.2.size));rw [hmb] at h1;exact Fk h1)))
      refine Al ?_;rintro _ ⟨⟨w1,aZ⟩,rfl⟩;clear aN;go_wp2;exact ⟨⟨k+1,Bl,by go_num,S,hba.trans (aZ.mono hba.size)⟩,clM⟩
    ·have bI:Hid p.edges.Nodup:=by
      have h1:=aY.out;rw [Bg Bl] at h1;exact h1
     clear aY hk nV;go_wp2_with fail
     refine (Afz p (Aa A p.edges.length c) _ Hm.out cH.out ((h.below bN).more bN.size)).mono ?_;rintro e w1 ⟨v1,rfl,o1,aZ⟩;have hbw1:=Bv bN aZ;obtain ⟨T,hT⟩:=Int.eq_ofNat_of_zero_le (show 0<=p.tasks by omega);have HT:=Bq hT;have mM:p.tasks.toNat=T:=Bl;rw [mM] at o1;have sI:1<=T:=Bl;have qA:T<=12:=Bl;have nT:=Pg.Aiz (Dr p) T (by rw [<-mM];exact (Lv cH.out).1) (by rw [<-mM];exact (Lv cH.out).2);have gG:(Pg.Lt (Dr p) T (List.replicate T 0)).length=T:=by rw [Pg.Mg,List.length_replicate]
     have nB:=Bq (show S7 p ↔ ∃ t,t<T/\Pg.Reach (Dr p) t t by unfold S7;rw [mM]);have sD:∀ x∈Pg.Lt (Dr p) T (List.replicate T 0),x<2 ^ T:=Pg.Ad4 T _ _ (by rw [<-mM];exact (Lv cH.out).2) (fun x hx=>by
      have:=List.eq_of_mem_replicate hx
      subst this;exact Nat.two_pow_pos T) T
     generalize Pg.Lt (Dr p) T (List.replicate T 0)=O at *
     have Hiff:=Bq nT;have HOl:=Bq gG;clear nT hT mM;rcases o1.form with ⟨_,e0⟩ | ⟨g,cap,rfl,_,rM,_,_,_,_⟩
     ·exfalso;rw [e0] at gG;simp at gG;omega
     rw [gG] at o1;rw [gG];clear gG;go_wp2;go_loop [79] (fun i=>∃ k:Nat,k<=T/\i = J Ab k/\Hid (∀ j,j<k->(O.getD j 0).testBit j=false)) (fun i=>T - (intOf i).toNat);case atStart=>exact ⟨0,Ah _,rfl,fun j hj=>absurd hj Bl⟩
     case round =>
      obtain ⟨k,hk,rfl,aY⟩:=hrel;by_cases aX:k<T
      ·have ck:=o1.nat (k:=k) (by rw [HOl.out];exact aX);have tE:k<O.length:=by rw [HOl.out];exact aX
       have hx:O[k]<9223372036854775808:=Aj (sD _ (Ax tE)) (Ai (Nat.pow_le_pow_right Bl qA) Bp);have hbt:=Ahf O[k] k hx;have hg:Hid (O.getD k 0=O[k]):=by unfold Hid;rw [List.getD_eq_getElem?_getD,List.getElem?_eq_getElem tE];rfl
       cases aJ:O[k].testBit k
       ·rw [aJ] at hbt;have S:Hid (∀ j,j<k+1->(O.getD j 0).testBit j=false):=by
         intro j hj;by_cases e:j=k
         ·subst e;rw [hg.out];exact aJ
         ·exact aY.out j Bl
        go_wp2;exact ⟨⟨k+1,Bl,by go_num,S⟩,clM⟩
       ·rw [aJ] at hbt;have H:Hid (Cr p=4):=Ok Hm.out cH.out bI.out (nB.out.2 ⟨k,aX,(Hiff.out k k).1 (by rw [hg.out];exact aJ)⟩);go_wp2;go_ret;exact ⟨D6 H.out.symm,hbw1⟩
      ·have H:Hid (Cr p=0):=Cs.2 ⟨Hm.out,cH.out,bI.out,fun hc=>by
        obtain ⟨t,ht,hr⟩:=nB.out.1 hc;have h1:=(Hiff.out t t).2 hr;rw [aY.out t Bl] at h1;cases h1⟩
       go_wp2;go_ret;exact ⟨D6 H.out.symm,hbw1⟩
theorem H9 (p:Plan) (ve:Value) (w:World) (hl:p.edges.length<=2000000) (h:Rd Gd w w ve p.edges) :
  Calls An 200 #[Gl p ve] w fun e w'=>e = .returned (J Ab (Cr p))/\Below w w w':=by
 cases hm:Eg p
 ·exact Q3 p ve w hl h hm
 ·exact S9 p ve w h hm
theorem Tu (p:Plan) (ve:Value) (w:World) (hl:p.edges.length<=2000000) (h:Rd Gd w w ve p.edges) :
  Calls An 287 #[Gl p ve] w fun e w'=>e = .returned (.bool (!Eg p))/\Below w w w':=by
 obtain ⟨A,c,rfl,-⟩:=id h;unfold Gl;cases h1:inB p.tasks 1 12
 ·have H:=Bq (show (!Eg p)=true by simp [Eg,h1]);go_enter func287,ntmps287;go_wp2_with (go_at_call 90;refine (Cl _ _ _ _).mono ?_;rintro e w' ⟨rfl,rfl⟩)
  go_ret;exact ⟨Bx H.out.symm,Bt⟩
 by_cases h2:30<p.edges.length
 ·have H:=Bq (show (!Eg p)=true by simp [Eg,show ¬ p.edges.length<=30 by omega]);have h2':decide ((30:Int)<(p.edges.length:Int))=true:=by simp;omega
  have h2'':(30:Int)<(p.edges.length:Int):=Bl;go_enter func287,ntmps287;go_wp2_with (go_at_call 90;refine (Cl _ _ _ _).mono ?_;rintro e w' ⟨rfl,rfl⟩)
  go_ret;exact ⟨Bx H.out.symm,Bt⟩
 have h2':decide ((30:Int)<(p.edges.length:Int))=false:=by simp;omega
 have h2'':¬ (30:Int)<(p.edges.length:Int):=Bl;cases h3:inB p.prio 0 9
 ·have H:=Bq (show (!Eg p)=true by simp [Eg,h3]);go_enter func287,ntmps287;go_wp2_with (go_at_call 90;refine (Cl _ _ _ _).mono ?_;rintro e w' ⟨rfl,rfl⟩)
  go_ret;exact ⟨Bx H.out.symm,Bt⟩
 cases h4:inB p.most 1 5
 ·have H:=Bq (show (!Eg p)=true by simp [Eg,h4]);go_enter func287,ntmps287;go_wp2_with (go_at_call 90;refine (Cl _ _ _ _).mono ?_;rintro e w' ⟨rfl,rfl⟩)
  go_ret;exact ⟨Bx H.out.symm,Bt⟩
 have H:Hid ((!inB p.wait 1 20) = !Eg p):=by
  show (!inB p.wait 1 20) = !Eg p;simp [Eg,h1,h3,h4,show p.edges.length<=30 by omega]
 go_enter func287,ntmps287;go_wp2_with (go_at_call 90;refine (Cl _ _ _ _).mono ?_;rintro e w' ⟨rfl,rfl⟩)
 go_ret;exact ⟨Bx H.out,Bt⟩
theorem Ki (p:Plan) (ve:Value) (w:World) (hl:p.edges.length<=2000000) (h:Rd Gd w w ve p.edges) :
  Calls An 237 #[Gl p ve] w fun e w'=>e = .returned (J Ab (Cr p))/\Below w w w':=by
 obtain ⟨A,c,rfl,-⟩:=id h;have dJ:=Lc 43 p (Aa A p.edges.length c) w;cases hm:Eg p
 ·have H:=Bq (Ou hm);unfold Gl;go_enter func237,ntmps237;go_wp2_with fail
  refine (Tu p (Aa A p.edges.length c) _ hl ((h.below dJ).more dJ.size)).mono ?_;rintro e w1 ⟨rfl,aZ⟩;rw [hm];go_wp2;go_ret;exact ⟨D6 H.out.symm,Bv dJ aZ⟩
 ·have Hm:=Bq hm;obtain ⟨t1,t2⟩:=Dx hm;have aK:=Es hm;unfold Gl;go_enter func237,ntmps237;go_wp2_with fail
  refine (Tu p (Aa A p.edges.length c) _ hl ((h.below dJ).more dJ.size)).mono ?_;rintro e w1 ⟨rfl,aZ⟩;rw [hm];clear hm;go_wp2;go_loopw [3] (fun i wr=>∃ k:Nat,k<=p.edges.length/\i = J Ab k/\Hid (∀ j (hj:j<p.edges.length),j<k->I9 p.tasks p.edges[j]=true)/\Below (El 43 p (Aa A p.edges.length c) w) (El 43 p (Aa A p.edges.length c) w) wr) (fun i _=>p.edges.length - (intOf i).toNat);case atStart=>exact ⟨0,Ah _,rfl,fun j hj h0=>absurd h0 Bl,aZ⟩
  case round =>
   obtain ⟨k,hk,rfl,aY,hb⟩:=hrel;obtain ⟨x0,x1,x2,x3,x4,hs,bN⟩:=Gm hb;by_cases aB:k<p.edges.length
   ·obtain ⟨b,o,rfl,aH,c0,c1⟩:=(h.below bN).edge aB;have aC:(k:Int)<(p.edges.length:Int):=Bl;have aN:=Df wr;have bG:w.heap.size<wr.heap.size:=Bl;have hbb1:b<wr:=Bl;have e1:Ab.wrap (p.tasks - 1)=p.tasks - 1:=IntWalk.i64_in _ Bl;have bad:I9 p.tasks p.edges[k]=false->Hid (Cr p=2):=fun hf=>Ov Hm.out (fun cH=>by
     rw [cH _ (Ax aB)] at hf;cases hf)
    cases g1:inB p.edges[k].fr 0 (p.tasks - 1)
    ·have H:=bad (by simp [I9,g1]);clear bad;go_wp2;refine Bz Bm Bm ?_;repeat (go_big_quiet_step ((go_at_call 90;exact Dy (fun u=>Cl _ _ _ u.1))))
     refine Al ?_;rintro _ ⟨⟨w2,aJ⟩,rfl⟩;clear aN;go_wp2;go_ret;exact ⟨D6 H.out.symm,Bv bN aJ⟩
    cases g2:inB p.edges[k].to 0 (p.tasks - 1)
    ·have H:=bad (by simp [I9,g2]);clear bad;go_wp2;refine Bz Bm Bm ?_;repeat (go_big_quiet_step ((go_at_call 90;exact Dy (fun u=>Cl _ _ _ u.1))))
     refine Al ?_;rintro _ ⟨⟨w2,aJ⟩,rfl⟩;clear aN;go_wp2;go_ret;exact ⟨D6 H.out.symm,Bv bN aJ⟩
    ·have S:Hid (∀ j (hj:j<p.edges.length),j<k+1->I9 p.tasks p.edges[j]=true):=by
      intro j hj fM;by_cases e:j=k
      ·subst e;simp [I9,g1,g2]
      ·exact aY.out j hj Bl
     clear bad;go_wp2;refine Bz Bm Bm ?_;repeat (go_big_quiet_step ((go_at_call 90;exact Dy (fun u=>Cl _ _ _ u.1))))
     refine Al ?_;rintro _ ⟨⟨w2,aJ⟩,rfl⟩;clear aN;go_wp2;exact ⟨⟨k+1,Bl,by go_num,S,hb.trans (aJ.mono hb.size)⟩,clM⟩
   ·have cH:Hid (Ht p):=fun e he=>by
     obtain ⟨j,hj,rfl⟩:=List.getElem_of_mem he;exact aY.out j hj Bl
    have aC:¬ (k:Int)<(p.edges.length:Int):=Bl;have bG:w.heap.size<wr.heap.size:=Bl;clear aY hk aZ;go_wp2;clear aB aC;go_loopw [4] (fun i wr=>∃ k:Nat,k<=p.edges.length/\i = J Ab k/\Hid ((p.edges.take k).Nodup)/\Below (El 43 p (Aa A p.edges.length c) w) (El 43 p (Aa A p.edges.length c) w) wr) (fun i _=>p.edges.length - (intOf i).toNat);case atStart=>exact ⟨0,Ah _,rfl,by show (p.edges.take 0).Nodup;simp,hb⟩
    case round =>
     clear hb x0 x1 x2 x3 x4 hs bN bG;obtain ⟨k,hk,rfl,aY,hb⟩:=hrel;obtain ⟨x0,x1,x2,x3,x4,hs,bN⟩:=Gm hb;by_cases aB:k<p.edges.length
     ·have aC:(k:Int)<(p.edges.length:Int):=Bl;obtain ⟨b,o,rfl,-,-,-⟩:=(h.below bN).edge aB;obtain ⟨wo,rfl⟩:∃ wo:World,wo=wr:=⟨_,rfl⟩
      go_wp2;go_loopw [5] (fun i wr=>∃ m:Nat,m<=k/\i = J Ab m/\Hid (∀ j (hj:j<p.edges.length),j<m -> ¬ p.edges[k]=p.edges[j])/\Below (El 43 p (Aa (Ad ⟨b,o,Ac⟩) p.edges.length c) w) (El 43 p (Aa (Ad ⟨b,o,Ac⟩) p.edges.length c) w) wr) (fun i _=>k - (intOf i).toNat);case atStart=>exact ⟨0,Ah _,rfl,fun j hj h0=>absurd h0 Bl,hb⟩
      case round =>
       clear hb x0 x1 x2 x3 x4 hs bN;obtain ⟨m,hm,rfl,bY,hb⟩:=hrel;obtain ⟨x0,x1,x2,x3,x4,hs,bN⟩:=Gm hb;by_cases pK:m<k
       ·have mL:(m:Int)<(k:Int):=Bl;have hml:m<p.edges.length:=Bl;have hmlI:(m:Int)<(p.edges.length:Int):=Bl;obtain ⟨b1,o1,he1,-,c0,c1⟩:=(h.below bN).edge aB;obtain ⟨b2,o2,he2,-,d0,d1⟩:=(h.below bN).edge hml;simp only [Option.some.injEq,Addr.mk.injEq,and_true] at he1 he2;obtain ⟨rfl,rfl⟩:=he1;obtain ⟨rfl,rfl⟩:=he2;by_cases hx:p.edges[k]=p.edges[m]
        ·have H:Hid (Cr p=3):=Oj Hm.out cH.out (fun bI=>by
          have h1:(p.edges.take (k+1)).Nodup:=bI.sublist (List.take_sublist _ _);rw [Cy _ k aB] at h1;refine (Mh.1 h1).2 ?_;rw [hx];have:(p.edges.take k)[m]'(by simp;omega)=p.edges[m]:=List.getElem_take;rw [<-this];exact Ax _)
         have e0:p.edges[m].fr=p.edges[k].fr:=by rw [hx]
         have e1:p.edges[m].to=p.edges[k].to:=by rw [hx]
         rw [e0] at d0;rw [e1] at d1;clear hx e0 e1;go_wp2;go_quiet (fail);go_wp2;go_ret;exact ⟨D6 H.out.symm,Du bN _⟩
        ·have S:Hid (∀ j (hj:j<p.edges.length),j<m+1 -> ¬ p.edges[k]=p.edges[j]):=by
          intro j hj hjm;by_cases e:j=m
          ·subst e;exact hx
          ·exact bY.out j hj Bl
         have eE:¬ (p.edges[k].fr=p.edges[m].fr/\p.edges[k].to=p.edges[m].to):=fun ⟨e0,e1⟩=>hx (by cases hlk:p.edges[k];cases hlm:p.edges[m];simp_all);clear hx;by_cases e0:p.edges[k].fr=p.edges[m].fr
         ·have e1:¬ p.edges[k].to=p.edges[m].to:=fun e=>eE ⟨e0,e⟩;have e1':(p.edges[k].to == p.edges[m].to)=false:=beq_eq_false_iff_ne.2 e1;rw [<-e0] at d0;clear eE e0;go_wp2;go_quiet (fail);go_wp2;exact ⟨⟨m+1,Bl,by go_num,S,Du hb _⟩,clM⟩
         ·have e0':(p.edges[k].fr == p.edges[m].fr)=false:=beq_eq_false_iff_ne.2 e0;clear eE;go_wp2;go_quiet (fail);go_wp2;exact ⟨⟨m+1,Bl,by go_num,S,Du hb _⟩,clM⟩
       ·have mL:¬ (m:Int)<(k:Int):=Bl;have S:Hid ((p.edges.take (k+1)).Nodup):=by
         show (p.edges.take (k+1)).Nodup;rw [Cy _ k aB];refine Mh.2 ⟨aY.out,fun fV=>?_⟩;obtain ⟨j,hj,hje⟩:=List.getElem_of_mem fV;rw [List.getElem_take] at hje;simp at hj;exact bY.out j Bl Bl hje.symm
        go_wp2;exact ⟨⟨k+1,Bl,by go_num,S,hb⟩,clM⟩
     ·have aC:¬ (k:Int)<(p.edges.length:Int):=Bl;have bI:Hid p.edges.Nodup:=by
       have h1:=aY.out;rw [Bg Bl] at h1;exact h1
      clear aY hk;go_wp2;clear aB aC;go_loopw [6] (fun i wr=>∃ k:Nat,(k:Int)<=p.tasks/\i = J Ab k/\Hid (∀ j,j<k -> ¬ Pg.Reach (Dr p) j j)/\Below (El 43 p (Aa A p.edges.length c) w) (El 43 p (Aa A p.edges.length c) w) wr) (fun i _=>p.tasks.toNat - (intOf i).toNat);case atStart=>exact ⟨0,Bl,rfl,fun j hj=>absurd hj Bl,hb⟩
      case round =>
       clear hb x0 x1 x2 x3 x4 hs bN;obtain ⟨k,hk,rfl,aY,hb⟩:=hrel;obtain ⟨x0,x1,x2,x3,x4,hs,bN⟩:=Gm hb;by_cases aB:(k:Int)<p.tasks
       ·go_wp2_with fail
        refine (Ahi p (Aa A p.edges.length c) k _ Hm.out cH.out aB ((h.below bN).more bN.size)).mono ?_;rintro e w2 ⟨v,O,rfl,o1,aJ,gG,nT⟩;have tE:k<O.length:=Bl;have hlen0:=Bq gG;rcases o1.form with ⟨_,e0⟩ | ⟨g,cap,rfl,_,rM,_,_,_,_⟩
        ·exfalso;subst e0;simp at tE
        have ck:=o1.bool tE;have hg:Hid (O.getD k false=O[k]):=by unfold Hid;rw [List.getD_eq_getElem?_getD,List.getElem?_eq_getElem tE];rfl
        have Hiff:=Bq nT;have hkOI:(k:Int)<(O.length:Int):=Bl;clear gG nT;cases hO:O[k]
        ·rw [hO] at ck;have S:Hid (∀ j,j<k+1 -> ¬ Pg.Reach (Dr p) j j):=by
          intro j hj;by_cases e:j=k
          ·subst e;intro hr
           have:=(Hiff.out j).2 hr
           rw [hg.out,hO] at this;cases this
          ·exact aY.out j Bl
         clear hO;go_wp2;exact ⟨⟨k+1,Bl,by go_num,S,hb.trans (aJ.mono hb.size)⟩,clM⟩
        ·rw [hO] at ck;have H:Hid (Cr p=4):=Ok Hm.out cH.out bI.out ⟨k,Bl,(Hiff.out k).1 (by rw [hg.out,hO])⟩;clear hO;go_wp2;go_ret;exact ⟨D6 H.out.symm,Bv bN aJ⟩
       ·have H:Hid (Cr p=0):=Cs.2 ⟨Hm.out,cH.out,bI.out,fun ⟨t,ht,hr⟩=>aY.out t Bl hr⟩;go_wp2;go_ret;exact ⟨D6 H.out.symm,bN⟩
theorem Aag (p:Plan) (ve:Value) (w:World) (hl:p.edges.length<=2000000) (h:Rd Gd w w ve p.edges) :
  Calls An 176 #[Gl p ve] w (Q1 p w):=by
 obtain ⟨A,c,rfl,-⟩:=id h;obtain ⟨i0,aQ,aW,aU,aR⟩:=info_parts Sz;have fN:∀ W,Below w w W->Rd Gd W W (Aa A p.edges.length c) p.edges:=fun W hW=>(h.below hW).more hW.size;unfold Gl;go_enter func176,ntmps176;go_wp2_with (at_builtin;refine Cj _ Gd Bp rfl (.const (Aa Ac 0 0)) (.tmp 4) rfl underlying41 aQ aW aU aR rfl (v:=Aa Ac 0 0) (l:=[]) rfl (Ow.nil Gd 206 _ (w+2)) rfl (fN _ (((Br _ _).alloc Bo _).alloc Bo _)) Bn Bl Bp Bn ?_;intro v1 w1 o1 g1 _;rw [List.nil_append] at o1;obtain ⟨A1,c1,rfl,-⟩:=id (Rd.of_own o1);have aZ:=(Br (w+2) _).grown g1 Bo (fun k hk=>by simp [Value.ownBlock] at hk<;>omega);clear g1;have q1:∀ b o,b<w.heap.size+2->w1.cell? ⟨b,o,Ac⟩=_:=fun b o h=>aZ.cell (p:=⟨b,o,Ac⟩) h;have q2:∀ b o,b<w.heap.size+2->w1.frozen? ⟨b,o,Ac⟩=_:=fun b o h=>aZ.frozen (p:=⟨b,o,Ac⟩) h;have hs:=aZ.size;simp only [Bj] at hs)
 have hW:Below w w w1:=Below.trans (((Br _ _).alloc Bo _).alloc Bo _) (aZ.mono Bl);refine bodyPost_ret (v:=Gl p (Aa A1 p.edges.length c1)) ?_ rfl ?_
 ·simp [Gl,results,results176,go_sem,q1]
 ·refine ⟨Aa A1 p.edges.length c1,rfl,?_,?_⟩
  ·refine Ow.more (base:=w+2) ?_ Bl;unfold Ow at o1 ⊢;repeat (first | (with_reducible exact o1) | refine ownsRow_setCell_below ?_ Bo _)
  ·repeat (first | (with_reducible exact hW) | refine Ae ?_ Bo _)
theorem Aah (p:Plan) (ve:Value) (w:World) (hl:p.edges.length<=2000000) (h:Rd Gd w w ve p.edges) :
  Calls An 178 #[Gl p ve] w (Q1 p w):=by
 obtain ⟨A,c,rfl,-⟩:=id h;obtain ⟨i0,aQ,aW,aU,aR⟩:=info_parts Sz;have fN:∀ W,Below w w W->Rd Gd W W (Aa A p.edges.length c) p.edges:=fun W hW=>(h.below hW).more hW.size;unfold Gl;go_enter func178,ntmps178;go_wp2_with (at_builtin;refine Cj _ Gd Bp rfl (.tmp 3) (.tmp 5) rfl underlying41 aQ aW aU aR rfl (v:=Aa (Ad ⟨w+1+1,0,Ac⟩) 0 0) (l:=[]) rfl ((Ow.empty Gd 206 _ Bn).more (base':=w.heap.size+2) Bl) rfl (fN _ ((((Br _ _).alloc Bo _).alloc Bo _).alloc Bo _)) Bn Bl Bp Bn ?_;intro v1 w1 o1 g1 _;rw [List.nil_append] at o1;obtain ⟨A1,c1,rfl,-⟩:=id (Rd.of_own o1);have aZ:=((Br (w+2) _).alloc Bo _).grown g1 Bo (fun k hk=>by simp [Value.ownBlock] at hk<;>omega);clear g1;have q1:∀ b o,b<w.heap.size+2->w1.cell? ⟨b,o,Ac⟩=_:=fun b o h=>aZ.cell (p:=⟨b,o,Ac⟩) h;have q2:∀ b o,b<w.heap.size+2->w1.frozen? ⟨b,o,Ac⟩=_:=fun b o h=>aZ.frozen (p:=⟨b,o,Ac⟩) h;have hs:=aZ.size;simp only [Bj] at hs)
 have hW:Below w w w1:=Below.trans (((Br _ _).alloc Bo _).alloc Bo _) (aZ.mono Bl);refine bodyPost_ret (v:=Gl p (Aa A1 p.edges.length c1)) ?_ rfl ?_
 ·simp [Gl,results,results178,go_sem,q1]
 ·refine ⟨Aa A1 p.edges.length c1,rfl,?_,?_⟩
  ·refine Ow.more (base:=w+2) ?_ Bl;unfold Ow at o1 ⊢;repeat (first | (with_reducible exact o1) | refine ownsRow_setCell_below ?_ Bo _)
  ·repeat (first | (with_reducible exact hW) | refine Ae ?_ Bo _)
section
variable {P:Program}
theorem Ab0 (w:World) (dT sT ty elem:TypeId) (g o dLen dCap:Nat) (a:Addr) (sLen sCap k:Nat) (cur:Array Value) (t:TypeId) (cs:List Value)
  (hu:P.underlying dT=Ad (.slice elem)) (hs:(P.info? elem).map (·.size)=Ad k)
  (hg:w.heap[g]? = Ad (.cells cur t (0,0))) (hn:cs.length=Nat.min sLen dLen * k)
  (hsrc:∀ j v,cs[j]? = Ad v->w.cell? (a.add j)=Ad v) (gE:o+cs.length<=cur.size) (h1:∀ v∈cs,v.oneCell'=true) :
  (Builtin.copy_ #[dT,sT] ty #[Aa (Ad ⟨g,o,Ac⟩) dLen dCap,Aa (Ad a) sLen sCap]).run P w =
   .ok (goInt (Nat.min sLen dLen)) (w.setRow g (cur.toList.take o ++ cs ++ cur.toList.drop (o+cs.length)).toArray):=by
 have hl:=run_loadCells_list (P:=P) w a cs hsrc;have bL:=run_storeCells_at P g o t cs 0 cur w hg (by simpa using gE) h1;cases hq:P.info? elem with
 | none=>simp [hq] at hs
 | some i =>
  have hi:i.size=k:=by simpa [hq] using hs
  rw [hn] at hl;simp [Builtin.copy_,run_underlying hu,Builtin.lenOf,Builtin.firstCells,sizeOf,typeInfo,hq,hi,hl,bL]
theorem Aai (w:World) (g:Nat) (cs:Array Value):w.grownBy (w.setRow g cs) (Ad g) :=
 ⟨rfl,rfl,rfl,by simp [World.setRow],fun k _ aE=>setRow_other w g k cs (fun e=>aE (by rw [e]))⟩
theorem V1 (w:World) {o:Oper} {a:Act} {K:Act->World->Prop} {Q:Exit->Act->World->Prop} (d s:Operand) (dT sT:TypeId)
  (ho:o.op = .call { callee:=.builtin .copy,args:=#[d,s],argTypes:=#[dT,sT] }) (elem:TypeId) (k:Nat) (hu:P.underlying dT=Ad (.slice elem)) (bJ:(P.info? elem).map (·.size)=Ad k)
  (g off dLen dCap:Nat) (ad:Addr) (sLen sCap:Nat) (hd:a.eval d = .slice (Ad ⟨g,off,Ac⟩) dLen dCap) (hs:a.eval s = .slice (Ad ad) sLen sCap)
  (cur:List Value) (t:TypeId) (hg:w.heap[g]? = Ad (.cells cur.toArray t (0,0))) (cs:List Value) (hn:cs.length=Nat.min sLen dLen * k)
  (hsrc:∀ j v,cs[j]? = Ad v->w.cell? (ad.add j)=Ad v) (gE:off+cs.length<=cur.length) (h1:∀ v∈cs,v.oneCell'=true)
  (h:∀ w',Hid (w'.heap[g]? = Ad (.cells (splice cur off cs).toArray t (0,0)))->w.grownBy w' (Ad g)->K (a.put o.dst (goInt (Nat.min sLen dLen))) w'):o.wp P a w K Q:=by
 have cZ:=Ab0 (P:=P) w dT sT o.type elem g off dLen dCap ad sLen sCap k cur.toArray t cs hu bJ hg hn hsrc (by simpa using gE) h1;have h2:Hid ((w.setRow g (cur.toArray.toList.take off ++ cs ++ cur.toArray.toList.drop (off+cs.length)).toArray).heap[g]? = Ad (.cells (splice cur off cs).toArray t (0,0))):=show _=_ by simpa [splice] using setRow_heap w g _ _ t _ hg
 have h3:=h _ h2 (Aai w g _);unfold Oper.wp execOp;simp only [ho,resolve,invoke,builtin,Sem.run_bind,Sem.run_pure,Result.andThen_ok,List.map_toArray,List.map_cons,List.map_nil,hd,hs,cZ];exact h3
theorem Oy (w:World) {ops:Array Oper} {rest:List Oper} {o:Oper} {a:Act} {Q:Exit->Act->World->Prop} (dC:o.guard=Ac) (d s:Operand) (dT sT:TypeId)
  (ho:o.op = .call { callee:=.builtin .copy,args:=#[d,s],argTypes:=#[dT,sT] }) (elem:TypeId) (k:Nat) (hu:P.underlying dT=Ad (.slice elem)) (bJ:(P.info? elem).map (·.size)=Ad k)
  (g off dLen dCap:Nat) (ad:Addr) (sLen sCap:Nat) (hd:a.eval d = .slice (Ad ⟨g,off,Ac⟩) dLen dCap) (hs:a.eval s = .slice (Ad ad) sLen sCap)
  (cur:List Value) (t:TypeId) (hg:w.heap[g]? = Ad (.cells cur.toArray t (0,0))) (cs:List Value) (hn:cs.length=Nat.min sLen dLen * k)
  (hsrc:∀ j v,cs[j]? = Ad v->w.cell? (ad.add j)=Ad v) (gE:off+cs.length<=cur.length) (h1:∀ v∈cs,v.oneCell'=true)
  (h:∀ w',Hid (w'.heap[g]? = Ad (.cells (splice cur off cs).toArray t (0,0)))->w.grownBy w' (Ad g)->wpList P ops Q rest (a.put o.dst (goInt (Nat.min sLen dLen))) w'):wpList P ops Q (o :: rest) a w :=
 wpList_plain dC fun _ hK=>V1 w d s dT sT ho elem k hu bJ g off dLen dCap ad sLen sCap hd hs cur t hg cs hn hsrc gE h1 fun w' h2 h3=>hK _ _ (h w' h2 h3)
theorem Rs (w:World) {ops:Array Oper} {o:Oper} {a:Act} {K:Act->World->Prop} {Q:Exit->Act->World->Prop} {EE:Prop} (dC:o.guard=Ac) (d s:Operand) (dT sT:TypeId)
  (ho:o.op = .call { callee:=.builtin .copy,args:=#[d,s],argTypes:=#[dT,sT] }) (elem:TypeId) (k:Nat) (hu:P.underlying dT=Ad (.slice elem)) (bJ:(P.info? elem).map (·.size)=Ad k)
  (g off dLen dCap:Nat) (ad:Addr) (sLen sCap:Nat) (hd:a.eval d = .slice (Ad ⟨g,off,Ac⟩) dLen dCap) (hs:a.eval s = .slice (Ad ad) sLen sCap)
  (cur:List Value) (t:TypeId) (hg:w.heap[g]? = Ad (.cells cur.toArray t (0,0))) (cs:List Value) (hn:cs.length=Nat.min sLen dLen * k)
  (hsrc:∀ j v,cs[j]? = Ad v->w.cell? (ad.add j)=Ad v) (gE:off+cs.length<=cur.length) (h1:∀ v∈cs,v.oneCell'=true)
  (h:∀ w',Hid (w'.heap[g]? = Ad (.cells (splice cur off cs).toArray t (0,0)))->w.grownBy w' (Ad g)->K (a.put o.dst (goInt (Nat.min sLen dLen))) w') :
  if Region.wanted o (yielded ops a.tmps)=true then Oper.wp P o a w K Q else EE:=by
 have hw:Region.wanted o (yielded ops a.tmps)=true:=by simp [Region.wanted,dC]
 rw [if_pos hw];exact V1 w d s dT sT ho elem k hu bJ g off dLen dCap ad sLen sCap hd hs cur t hg cs hn hsrc gE h1 h
end
section
variable {α:Type} {e:Enc α} {E:TypeId} {w:World} {base g n cap:Nat} {l:List α}
theorem Ow.row (h:Ow e E w base (Aa (Ad ⟨g,0,Ac⟩) n cap) l) :
  l.length=n/\base<=g/\n<=cap/\cap<=maxLen /\ ∃ cur:List Value,w.heap[g]? = Ad (.cells cur.toArray E (0,0))/\cur.length=cap * e.sz/\cur.take (n * e.sz)=l.flatMap e.cells:=by
 rcases h.2 with ⟨h1,_⟩ | ⟨g',cap',cur,hv,hg,hh,hc,hm,hs,ht⟩
 ·simp at h1
 ·simp only [Value.slice.injEq,Option.some.injEq,Addr.mk.injEq,and_true] at hv;obtain ⟨rfl,rfl,rfl⟩:=hv;exact ⟨rfl,hg,hc,hm,cur.toList,by simpa using hh,by simpa using hs,ht⟩
theorem Ow.of_row {cur:List Value} (hg:w.heap[g]? = Ad (.cells cur.toArray E (0,0))) (hc:cur.length=cap * e.sz) (ht:cur.take (l.length * e.sz)=l.flatMap e.cells) (hb:base<=g) (hn:l.length<=cap) (hm:cap<=maxLen) :
  Ow e E w base (Aa (Ad ⟨g,0,Ac⟩) l.length cap) l :=
 ⟨e.flat_length l,.inr ⟨g,cap,cur.toArray,rfl,hb,hg,hn,hm,by simpa using hc,by simpa using ht⟩⟩
end
theorem Aea {α:Type} (R X Y:List α) (a:Nat) (h:a+X.length+Y.length<=R.length):(splice (splice R a X) (a+X.length) Y).take (a+X.length+Y.length)=R.take a ++ X ++ Y:=by
 have h0:(R.take a).length=a:=by rw [A0];omega
 have h1:(splice R a X).take (a+X.length)=R.take a ++ X:=by
  unfold splice;rw [<-List.append_assoc,List.take_left' (by rw [Bd,h0])]
 unfold splice at h1 ⊢;rw [h1,<-List.append_assoc,List.take_left' (by rw [Bd,Bd,h0])]
theorem Ab1 {α:Type} (C X Y:List α) (a:Nat) (h:a+X.length+Y.length<=C.length):(splice (splice C (a+X.length) Y) a X).take (a+X.length+Y.length)=C.take a ++ X ++ Y:=by
 have h0:(C.take a).length=a:=by rw [A0];omega
 have h1:(splice C (a+X.length) Y).take a=C.take a:=by
  unfold splice;rw [List.take_append_of_le_length (by rw [A0];omega),List.take_take];congr 1;omega
 have h2:(splice C (a+X.length) Y).drop (a+X.length)=Y ++ C.drop (a+X.length+Y.length):=by
  unfold splice;rw [List.drop_left' (by rw [A0];omega)]
 show ((splice C (a+X.length) Y).take a ++ (X ++ (splice C (a+X.length) Y).drop (a+X.length))).take _=_;rw [h1,h2,<-List.append_assoc,<-List.append_assoc,List.take_left' (by rw [Bd,Bd,h0])]
theorem Oz {α:Type} (e:Enc α) (l:List α) (i:Nat) (hi:i<=l.length) (x:α) :
  (l.take i ++ x :: l.drop i).flatMap e.cells=(l.flatMap e.cells).take (i * e.sz) ++ e.cells x ++ (l.flatMap e.cells).drop (i * e.sz):=by
 have hl:l.flatMap e.cells=(l.take i).flatMap e.cells ++ (l.drop i).flatMap e.cells:=by rw [<-List.flatMap_append,List.take_append_drop]
 have h0:((l.take i).flatMap e.cells).length=i * e.sz:=by rw [e.flat_length,A0,Nat.min_eq_left hi]
 rw [List.flatMap_append,List.flatMap_cons,hl,List.take_left' h0,List.drop_left' h0,List.append_assoc]
section
variable {P:Program}
theorem Qg (w:World) {ops:Array Oper} {rest:List Oper} {o:Oper} {a:Act} {Q:Exit->Act->World->Prop} (dC:o.guard=Ac) (s x:Operand) (t tn:TypeId)
  (ho:o.op = .call { callee:=.builtin .append,args:=#[s,x],argTypes:=#[t,tn] }) (E:TypeId) (i:TypeInfo) (z:Value) (sz bytes:Nat) (kn kq:IntKind)
  (ht:P.underlying t=Ad (.slice E)) (htn:P.underlying tn=Ad (.int kn)) (hi:P.info? E=Ad i) (hz:i.zero=Ad z) (cF:i.size=sz) (dG:i.bytes=bytes) (hzs:z.cells.size=sz) (bJ:0<sz)
  (ad:Addr) (n cap:Nat) (olds:List Value) (hs:a.eval s = .slice (Ad ad) n cap) (k:Nat) (m:Int) (hm:m=k) (hx:a.eval x = .int kq m)
  (kR:olds.length=n * sz) (hold:∀ j u,olds[j]? = Ad u->w.cell? (ad.add j)=Ad u) (h0:0<k) (hg:cap<n+k) (h1:n+k<=3000000) (hb:bytes<=10000) (N:Nat) (hN:N=n+k)
  (h:∀ (w':World) (c:Nat) (R:List Value),Hid (w'.heap[w.heap.size]? = Ad (.cells R.toArray E (0,0)))->Hid (R.length=c * sz)->Hid (R.take (n * sz)=olds)->N<=c->c<=9223372036854775807->w.grownBy w' Ac->w.heap.size<w'.heap.size ->
   wpList P ops Q rest (a.put o.dst (.slice (Ad ⟨w,0,Ac⟩) N c)) w'):wpList P ops Q (o :: rest) a w:=by
 subst hm;subst hN;have aH:(n+k) * bytes<=3000000 * 10000:=Nat.mul_le_mul h1 hb;have hkb:k * bytes<=(n+k) * bytes:=Nat.mul_le_mul_right _ Bl;have cZ:=Lib.run_append_grow_zeros (P:=P) w t tn o.type E i z kq kn ht htn hi hz (Ad ad) n cap olds
  (run_firstCells_some w.drew i.size n ad n cap olds (by rw [cF];exact kR) (fun j u hu=>hold j u hu)) k h0 Bl hg Bl (by rw [dG];omega) (by rw [dG];exact growslice_fits hg Bl)
 have vF:=grownCap_ge w (n+k) cap E;have pZ:grownCap w (n+k) cap E<=maxLen:=grownCap_le_maxLen w (n+k) cap E (by simp [maxLen];omega);simp only [maxLen] at pZ;have h2:=h (w.drew.alloc (.cells (olds.toArray ++ Builtin.zeroCells z.cells k ++ Builtin.zeroCells z.cells (grownCap w (n+k) cap E - (n+k))) E)) (grownCap w (n+k) cap E) (olds ++ (Builtin.zeroCells z.cells k).toList ++ (Builtin.zeroCells z.cells (grownCap w (n+k) cap E - (n+k))).toList)
  (by
   unfold Hid
   have:=heap_alloc_new w.drew (.cells (olds.toArray ++ Builtin.zeroCells z.cells k ++ Builtin.zeroCells z.cells (grownCap w (n+k) cap E - (n+k))) E)
   have e:(olds ++ (Builtin.zeroCells z.cells k).toList ++ (Builtin.zeroCells z.cells (grownCap w (n+k) cap E - (n+k))).toList).toArray=olds.toArray ++ Builtin.zeroCells z.cells k ++ Builtin.zeroCells z.cells (grownCap w (n+k) cap E - (n+k)):=Bn;rw [e];exact this)
  (by
   unfold Hid;simp only [Bd,Array.length_toList,size_zeroCells,kR,hzs];rw [<-Nat.add_mul,<-Nat.add_mul];congr 1;omega)
  (by unfold Hid;rw [List.append_assoc,<-kR,List.take_left]) vF pZ
  ⟨rfl,rfl,rfl,Bn,fun _ bE _=>Below.heap_alloc w.drew _ _ bE⟩ Bn
 refine wpList_plain dC fun _ hK=>?_;unfold Oper.wp execOp;simp only [ho,resolve,invoke,builtin,Sem.run_bind,Sem.run_pure,Result.andThen_ok,List.map_toArray,List.map_cons,List.map_nil,hs,hx,cZ];exact hK _ _ h2
end
theorem Aeb {w w':World} (h:w.grownBy w' Ac) (row:Option Nat):w.grownBy w' row:=⟨h.os,h.tape,h.output,h.size,fun k hk _=>h.block k hk Bn⟩
theorem Zd {w w1 w2:World} {row:Option Nat} {G:Nat} (h:w.grownBy w1 row) (h2:w1.grownBy w2 (Ad G)) (hG:w<=G):w.grownBy w2 row :=
 ⟨h2.os.trans h.os,h2.tape.trans h.tape,h2.output.trans h.output,Ai h.size h2.size,fun k hk aE=>(h2.block k (Aj hk h.size) (fun e=>by injection e with e;omega)).trans (h.block k hk aE)⟩
theorem V2 {w w':World} {row:Option Nat} (h:w.drew.grownBy w' row):w.grownBy w' row:=⟨h.os,h.tape,h.output,h.size,h.block⟩
theorem Ab2 {w w':World} {row:Option Nat} (hg:w.grownBy w' row) {g:Nat} {o:Obj} (h:w.heap[g]? = Ad o) (aE:Ad g≠row):w'.heap[g]? = Ad o :=
 (hg.block g (Array.getElem?_eq_some_iff.1 h).1 aE).trans h
theorem Nh {w:World} {g:Nat} {R:List Value} {E:TypeId} {o:Nat} (h:w.heap[g]? = Ad (.cells R.toArray E (0,0))) (xs:List Value) (hx:∀ j u,xs[j]? = Ad u->R[o+j]? = Ad u) :
  ∀ j u,xs[j]? = Ad u->w.cell? ((⟨g,o,Ac⟩:Addr).add j)=Ad u:=by
 intro j u hu;have e:((⟨g,o,Ac⟩:Addr).add j)=⟨g,o+j,Ac⟩:=by unfold Addr.add;split<;>simp_all
 rw [e,cell_of_row _ _ (o+j) _ _ (0,0) h];simpa using hx j u hu
theorem Hk {α:Type} (C X:List α) (a:Nat) (h:a+X.length<=C.length):(splice C a X).length=C.length:=by
 unfold splice;simp only [Bd,A0,List.length_drop];omega
section
variable {α:Type} (e:Enc α) (l:List α) (i:Nat) (hi:i<=l.length) (x:α)
include hi
theorem Kz:(l.take i ++ x :: l.drop i).length=l.length+1:=by simp;omega
omit hi in
theorem Ux:((l.flatMap e.cells).drop (i * e.sz)).length=(l.length - i) * e.sz:=by rw [List.length_drop,e.flat_length,Nat.sub_mul]
theorem V3:i * e.sz+(e.cells x).length+((l.flatMap e.cells).drop (i * e.sz)).length=(l.length+1) * e.sz:=by
 rw [Ux e l i,e.len,<-Nat.succ_mul,<-Nat.add_mul];congr 1;omega
theorem Ab3 (C:List Value) (hC:C.take (l.length * e.sz)=l.flatMap e.cells) (hl:(l.length+1) * e.sz<=C.length) :
  (splice (splice C ((i+1) * e.sz) ((l.flatMap e.cells).drop (i * e.sz))) (i * e.sz) (e.cells x)).take ((l.length+1) * e.sz)=(l.take i ++ x :: l.drop i).flatMap e.cells /\
  (splice (splice C ((i+1) * e.sz) ((l.flatMap e.cells).drop (i * e.sz))) (i * e.sz) (e.cells x)).length=C.length:=by
 have hs:=V3 e l i hi x;have h1:(i+1) * e.sz=i * e.sz+(e.cells x).length:=by rw [e.len,Nat.succ_mul]
 have h2:C.take (i * e.sz)=(l.flatMap e.cells).take (i * e.sz):=by
  rw [<-hC,List.take_take];congr 1;exact (Nat.min_eq_left (Nat.mul_le_mul_right _ hi)).symm
 constructor
 ·rw [h1,<-hs,Ab1 _ _ _ _ Bl,Oz e l i hi x,h2]
 ·rw [Hk,Hk]
  ·rw [h1];omega
  ·rw [Hk _ _ _ (by rw [h1];omega)];omega
theorem Aec (R:List Value) (hR:R.take (i * e.sz)=(l.flatMap e.cells).take (i * e.sz)) (hl:(l.length+1) * e.sz<=R.length) :
  (splice (splice R (i * e.sz) (e.cells x)) ((i+1) * e.sz) ((l.flatMap e.cells).drop (i * e.sz))).take ((l.length+1) * e.sz)=(l.take i ++ x :: l.drop i).flatMap e.cells /\
  (splice (splice R (i * e.sz) (e.cells x)) ((i+1) * e.sz) ((l.flatMap e.cells).drop (i * e.sz))).length=R.length:=by
 have hs:=V3 e l i hi x;have h1:(i+1) * e.sz=i * e.sz+(e.cells x).length:=by rw [e.len,Nat.succ_mul]
 constructor
 ·rw [h1,<-hs,Aea _ _ _ _ Bl,Oz e l i hi x,hR]
 ·rw [Hk,Hk]
  ·omega
  ·rw [Hk _ _ _ Bl,h1];omega
end
structure DBox (b:Nat) (cs:List Value) (w:World):Prop where
 cell:∀ (j:Nat) (u:Value),cs[j]? = some u->w.cell? ⟨b,j,none⟩=some u
 free:∀ j,w.frozen? ⟨b,j,none⟩=false
 lt:b<w
theorem DBox.new (T:TypeId) (cs:List Value) (w:World) {b:Nat} (hb:b=w):DBox b cs (w.alloc (.cells cs.toArray T)):=by
 subst hb;refine ⟨fun j u hu=>?_,fun j=>by simp [go_sem],Bn⟩
 have:=Oq w cs.toArray T rfl j u (by simpa using hu)
 have e:((⟨w,0,Ac⟩:Addr).add j)=⟨w,j,Ac⟩:=by
  unfold Addr.add;split<;>simp_all
 rw [e] at this;exact this
theorem DBox.keep {b:Nat} {cs:List Value} {w w':World} (h:DBox b cs w) (hs:w.heap.size<=w'.heap.size) (hk:∀ j,w'.cell? ⟨b,j,Ac⟩=w.cell? ⟨b,j,Ac⟩) (hf:∀ j,w'.frozen? ⟨b,j,Ac⟩=w.frozen? ⟨b,j,Ac⟩):DBox b cs w' :=
 ⟨fun j u hu=>(hk j).trans (h.cell j u hu),fun j=>(hf j).trans (h.free j),Aj h.lt hs⟩
theorem DBox.below {b:Nat} {cs:List Value} {w w':World} (h:DBox b cs w) (hb:Below w w w'):DBox b cs w' :=
 h.keep hb.size (fun j=>hb.cell (p:=⟨b,j,Ac⟩) h.lt) (fun j=>hb.frozen (p:=⟨b,j,Ac⟩) h.lt)
theorem DBox.chg {F:List Nat} {b:Nat} {cs:List Value} {w w':World} (h:DBox b cs w) (hc:Chg F w w') (hn:b∉F):DBox b cs w' :=
 h.keep hc.size (fun j=>hc.cell (p:=⟨b,j,Ac⟩) h.lt hn) (fun j=>hc.frozen (p:=⟨b,j,Ac⟩) h.lt hn)
theorem bx1 (w:World) (T1:TypeId) (c1:List Value):∃ W,Hid (W=(w.alloc (.cells c1.toArray T1)))/\DBox (w.heap.size) c1 W/\Below w w W :=
 ⟨_,Bq rfl,DBox.new T1 c1 w Bn,by repeat (first | exact Br _ _ | refine Af ?_ Bo _)⟩
theorem bx2 (w:World) (T1:TypeId) (c1:List Value) (T2:TypeId) (c2:List Value):∃ W,Hid (W=((w.alloc (.cells c1.toArray T1)).alloc (.cells c2.toArray T2)))/\DBox (w.heap.size) c1 W/\DBox (w+1) c2 W/\Below w w W :=
 ⟨_,Bq rfl,(DBox.new T1 c1 w Bn).below (Bt),DBox.new T2 c2 (w.alloc (.cells c1.toArray T1)) Bn,by repeat (first | exact Br _ _ | refine Af ?_ Bo _)⟩
theorem bx3 (w:World) (T1:TypeId) (c1:List Value) (T2:TypeId) (c2:List Value) (T3:TypeId) (c3:List Value):∃ W,Hid (W=(((w.alloc (.cells c1.toArray T1)).alloc (.cells c2.toArray T2)).alloc (.cells c3.toArray T3)))/\DBox (w.heap.size) c1 W/\DBox (w+1) c2 W/\DBox (w+1+1) c3 W/\Below w w W :=
 ⟨_,Bq rfl,((DBox.new T1 c1 w Bn).below (Bt)).below (Bt),(DBox.new T2 c2 (w.alloc (.cells c1.toArray T1)) Bn).below (Bt),DBox.new T3 c3 ((w.alloc (.cells c1.toArray T1)).alloc (.cells c2.toArray T2)) Bn,by repeat (first | exact Br _ _ | refine Af ?_ Bo _)⟩
theorem bx4 (w:World) (T1:TypeId) (c1:List Value) (T2:TypeId) (c2:List Value) (T3:TypeId) (c3:List Value) (T4:TypeId) (c4:List Value):∃ W,Hid (W=((((w.alloc (.cells c1.toArray T1)).alloc (.cells c2.toArray T2)).alloc (.cells c3.toArray T3)).alloc (.cells c4.toArray T4)))/\DBox (w.heap.size) c1 W/\DBox (w+1) c2 W/\DBox (w+1+1) c3 W/\DBox (w+1+1+1) c4 W/\Below w w W :=
 ⟨_,Bq rfl,(((DBox.new T1 c1 w Bn).below (Bt)).below (Bt)).below (Bt),((DBox.new T2 c2 (w.alloc (.cells c1.toArray T1)) Bn).below (Bt)).below (Bt),(DBox.new T3 c3 ((w.alloc (.cells c1.toArray T1)).alloc (.cells c2.toArray T2)) Bn).below (Bt),DBox.new T4 c4 (((w.alloc (.cells c1.toArray T1)).alloc (.cells c2.toArray T2)).alloc (.cells c3.toArray T3)) Bn,by repeat (first | exact Br _ _ | refine Af ?_ Bo _)⟩
theorem bx5 (w:World) (T1:TypeId) (c1:List Value) (T2:TypeId) (c2:List Value) (T3:TypeId) (c3:List Value) (T4:TypeId) (c4:List Value) (T5:TypeId) (c5:List Value):∃ W,Hid (W=(((((w.alloc (.cells c1.toArray T1)).alloc (.cells c2.toArray T2)).alloc (.cells c3.toArray T3)).alloc (.cells c4.toArray T4)).alloc (.cells c5.toArray T5)))/\DBox (w.heap.size) c1 W/\DBox (w+1) c2 W/\DBox (w+1+1) c3 W/\DBox (w+1+1+1) c4 W/\DBox (w+1+1+1+1) c5 W/\Below w w W :=
 ⟨_,Bq rfl,((((DBox.new T1 c1 w Bn).below (Bt)).below (Bt)).below (Bt)).below (Bt),(((DBox.new T2 c2 (w.alloc (.cells c1.toArray T1)) Bn).below (Bt)).below (Bt)).below (Bt),((DBox.new T3 c3 ((w.alloc (.cells c1.toArray T1)).alloc (.cells c2.toArray T2)) Bn).below (Bt)).below (Bt),(DBox.new T4 c4 (((w.alloc (.cells c1.toArray T1)).alloc (.cells c2.toArray T2)).alloc (.cells c3.toArray T3)) Bn).below (Bt),DBox.new T5 c5 ((((w.alloc (.cells c1.toArray T1)).alloc (.cells c2.toArray T2)).alloc (.cells c3.toArray T3)).alloc (.cells c4.toArray T4)) Bn,by repeat (first | exact Br _ _ | refine Af ?_ Bo _)⟩
theorem DBox.g1 {b:Nat} {w:World} {u0:Value} (h:DBox b [u0] w):w.cell? ⟨b,0,Ac⟩=Ad u0/\b<w :=
 ⟨h.cell 0 _ rfl,h.lt⟩
theorem DBox.g4 {b:Nat} {w:World} {u0 u1 u2 u3:Value} (h:DBox b [u0,u1,u2,u3] w):w.cell? ⟨b,0,Ac⟩=Ad u0/\w.cell? ⟨b,1,Ac⟩=Ad u1/\w.cell? ⟨b,2,Ac⟩=Ad u2/\w.cell? ⟨b,3,Ac⟩=Ad u3/\b<w :=
 ⟨h.cell 0 _ rfl,h.cell 1 _ rfl,h.cell 2 _ rfl,h.cell 3 _ rfl,h.lt⟩
theorem DBox.g5 {b:Nat} {w:World} {u0 u1 u2 u3 u4:Value} (h:DBox b [u0,u1,u2,u3,u4] w):w.cell? ⟨b,0,Ac⟩=Ad u0/\w.cell? ⟨b,1,Ac⟩=Ad u1/\w.cell? ⟨b,2,Ac⟩=Ad u2/\w.cell? ⟨b,3,Ac⟩=Ad u3/\w.cell? ⟨b,4,Ac⟩=Ad u4/\b<w :=
 ⟨h.cell 0 _ rfl,h.cell 1 _ rfl,h.cell 2 _ rfl,h.cell 3 _ rfl,h.cell 4 _ rfl,h.lt⟩
theorem DBox.g7 {b:Nat} {w:World} {u0 u1 u2 u3 u4 u5 u6:Value} (h:DBox b [u0,u1,u2,u3,u4,u5,u6] w):w.cell? ⟨b,0,Ac⟩=Ad u0/\w.cell? ⟨b,1,Ac⟩=Ad u1/\w.cell? ⟨b,2,Ac⟩=Ad u2/\w.cell? ⟨b,3,Ac⟩=Ad u3/\w.cell? ⟨b,4,Ac⟩=Ad u4/\w.cell? ⟨b,5,Ac⟩=Ad u5/\w.cell? ⟨b,6,Ac⟩=Ad u6/\b<w :=
 ⟨h.cell 0 _ rfl,h.cell 1 _ rfl,h.cell 2 _ rfl,h.cell 3 _ rfl,h.cell 4 _ rfl,h.cell 5 _ rfl,h.cell 6 _ rfl,h.lt⟩
theorem DBox.g8 {b:Nat} {w:World} {u0 u1 u2 u3 u4 u5 u6 u7:Value} (h:DBox b [u0,u1,u2,u3,u4,u5,u6,u7] w):w.cell? ⟨b,0,Ac⟩=Ad u0/\w.cell? ⟨b,1,Ac⟩=Ad u1/\w.cell? ⟨b,2,Ac⟩=Ad u2/\w.cell? ⟨b,3,Ac⟩=Ad u3/\w.cell? ⟨b,4,Ac⟩=Ad u4/\w.cell? ⟨b,5,Ac⟩=Ad u5/\w.cell? ⟨b,6,Ac⟩=Ad u6/\w.cell? ⟨b,7,Ac⟩=Ad u7/\b<w :=
 ⟨h.cell 0 _ rfl,h.cell 1 _ rfl,h.cell 2 _ rfl,h.cell 3 _ rfl,h.cell 4 _ rfl,h.cell 5 _ rfl,h.cell 6 _ rfl,h.cell 7 _ rfl,h.lt⟩
theorem DBox.g11 {b:Nat} {w:World} {u0 u1 u2 u3 u4 u5 u6 u7 u8 u9 u10:Value} (h:DBox b [u0,u1,u2,u3,u4,u5,u6,u7,u8,u9,u10] w):w.cell? ⟨b,0,Ac⟩=Ad u0/\w.cell? ⟨b,1,Ac⟩=Ad u1/\w.cell? ⟨b,2,Ac⟩=Ad u2/\w.cell? ⟨b,3,Ac⟩=Ad u3/\w.cell? ⟨b,4,Ac⟩=Ad u4/\w.cell? ⟨b,5,Ac⟩=Ad u5/\w.cell? ⟨b,6,Ac⟩=Ad u6/\w.cell? ⟨b,7,Ac⟩=Ad u7/\w.cell? ⟨b,8,Ac⟩=Ad u8/\w.cell? ⟨b,9,Ac⟩=Ad u9/\w.cell? ⟨b,10,Ac⟩=Ad u10/\b<w :=
 ⟨h.cell 0 _ rfl,h.cell 1 _ rfl,h.cell 2 _ rfl,h.cell 3 _ rfl,h.cell 4 _ rfl,h.cell 5 _ rfl,h.cell 6 _ rfl,h.cell 7 _ rfl,h.cell 8 _ rfl,h.cell 9 _ rfl,h.cell 10 _ rfl,h.lt⟩
theorem Dt.set4 {α:Type} (d:Dt α) {w:World} {F:List Nat} {x:α} {s:d.S} {b o0 o1 o2 o3:Nat} {u0 u1 u2 u3:Value} (h:d.ow w F x s) (hb:b∉F) :
  d.ow ((((w.setCell ⟨b,o0,Ac⟩ u0).setCell ⟨b,o1,Ac⟩ u1).setCell ⟨b,o2,Ac⟩ u2).setCell ⟨b,o3,Ac⟩ u3) F x s :=
 d.ow_set (d.ow_set (d.ow_set (d.ow_set h (a:=⟨b,o0,Ac⟩) hb u0) (a:=⟨b,o1,Ac⟩) hb u1) (a:=⟨b,o2,Ac⟩) hb u2) (a:=⟨b,o3,Ac⟩) hb u3
end Go.Proofs.YtecnbnbopcblgaaGreat
