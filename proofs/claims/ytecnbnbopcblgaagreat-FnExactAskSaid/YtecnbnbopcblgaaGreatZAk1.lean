/-
  append of a whole slice that reads as a list, nil or not, onto a slice of the call's own. PlanFault of the program. Data that hold slices: how they lie in memor
-/
import Derived.Test.YtecnbnbopcblgaaGreatZAk0
import Derived.Maps.AppendAt
import Derived.RegionTactic
import Derived.OwnWalk
import Derived.Deep.RegionWith
import Derived.Laws.CopyRow
import Derived.Laws.CopyOwn
import Derived.Lib.AppendZerosOnto
import Derived.Lib.Overlaps
import Derived.Lib.SliceRun
namespace Go.Proofs.YtecnbnbopcblgaaGreat
open Go.RowKit
set_option maxRecDepth 100000
set_option maxHeartbeats 4000000
set_option linter.unusedVariables false
set_option linter.unusedSimpArgs false
open Value renaming int->J,slice->Aa
open IntKind renaming i64->U
open Option renaming none->Ab,some->Ac
open Below renaming setCell->Ad
open Nat renaming zero_le->Ag,le_trans->Ah,lt_of_lt_of_le->Ai
open Go renaming wpQuiet_nil->Ak
open Go.Proofs.Tryz renaming prog->Am
open List renaming length_map->Ar,mem_singleton->Au,getElem_mem->Aw,nodup_append->Ax,length_take->Az,length_append->Bd,mem_append_right->Be,mem_append_left->Bf,take_of_length_le->Bg,length_set->Bh,mem_append->Bi
open World renaming size_alloc->Bj
open Go.Proofs.Tryz
theorem Aix {p:Prop} (h:p:=by
 clear hm;go_enter func200,ntmps200;go_wp2_with (go_at_call 72;refine (Cm _ _ _ _).mono ?_;rintro e w' ⟨rfl,rfl⟩)
 go_ret;exact ⟨Cy H.out.symm,Bu⟩):p:=h
theorem Ajp {p:Prop} (h:p:=by
 go_enter func287,ntmps287;go_wp2_with (go_at_call 90;refine (Cd _ _ _ _).mono ?_;rintro e w' ⟨rfl,rfl⟩)
 go_ret;exact ⟨Bx H.out.symm,Bu⟩):p:=h
theorem Ajx {p:Prop} (h:p:=by
 refine ⟨Aa A1 p.edges.length c1,rfl,?_,?_⟩
 ·refine Ow.more (base:=w+2) ?_ Bl;unfold Ow at o1 ⊢;repeat (first | (with_reducible exact o1) | refine ownsRow_setCell_below ?_ Bp _)
 ·repeat (first | (with_reducible exact hW) | refine Ad ?_ Bp _)):p:=h
theorem Aka {p:Prop} (h:p:=by
 clear bad;go_wp2;refine Bz Bm Bm ?_;repeat (go_big_quiet_step ((go_at_call 90;exact Da (fun u=>Cd _ _ _ u.1))))
 refine Ak ?_;rintro _ ⟨⟨w2,aK⟩,rfl⟩;clear aM;go_wp2;go_ret;exact ⟨Cy H.out.symm,Bv bV aK⟩):p:=h
theorem Ale {p:Prop} (h:p:=by
 clear bad;go_wp2_with (go_at_call 72;refine (Cm _ _ _ _).mono ?_;rintro e w' ⟨rfl,rfl⟩)
 go_ret;exact ⟨Cy H.out.symm,hbwa⟩):p:=h
theorem Al8 {p:Prop} (h:p:=by rw [Ax];refine ⟨J4 _ _,h3,fun a ha b hb e=>?_⟩;subst e;exact (h4 a hb).2 (H9 _ _ _ ha)):p:=h
theorem Ame {p:Prop} (h:p:=by go_wp2;exact ⟨⟨k+1,Bl,by go_num,S⟩,clM⟩):p:=h
theorem Amg {p:Prop} (h:p:=by
 injection e with e
 omega):p:=h
theorem Amv {p:Prop} (h:p:=by
 intro j hj hj';by_cases e:j=k
 ·subst e;simpa using hx
 ·exact cQ.out j Bl hj'):p:=h
theorem Amw {p:Prop} (h:p:=by go_wp2;go_quiet (fail);go_wp2;exact ⟨⟨k+1,Bl,by go_num,S,Dq hb _⟩,clM⟩):p:=h
theorem Amx {p:Prop} (h:p:=by go_wp2;go_quiet (fail);go_wp2;exact ⟨⟨m+1,Bl,by go_num,S,Dq hb _⟩,clM⟩):p:=h
theorem Amy {p:Prop} (h:p:=by
 intro j hj gB;by_cases e:j=k
 ·subst e;simp [Ji,g1,g2]
 ·exact aY.out j hj Bl):p:=h
theorem Am4 {p:Prop} (h:p:=by intro u hu;obtain ⟨y,_,hy⟩:=List.mem_flatMap.1 hu;exact e.one y u hy):p:=h
theorem Anm {p:Prop} (h:p:=by obtain ⟨j,hj,rfl⟩:=List.getElem_of_mem he;exact aY.out j hj Bl):p:=h
section
variable {P:Program} (w:World)
theorem Qi (base:Nat) (t ty e:TypeId) (i:TypeInfo) (size:Nat) (ht:P.underlying t=Ac (.slice e)) (hi:P.info? e=Ac i)
  (v:Value) (n:Nat) (xs:List Value) (hown:w.ownsRow base e size v n xs) (c:Nat):(Builtin.append_ #[t,t] ty #[v,Aa Ab 0 c]).run P w = .ok v w:=by
 rcases hown.2 with ⟨rfl,rfl⟩ | ⟨g,cap,cur,rfl,_,_,hnc,_⟩
 ·simp [Builtin.append_,run_underlying ht,sizeOf,typeInfo,hi,Builtin.lenOf,Builtin.firstCells]
 ·simp [Builtin.append_,run_underlying ht,sizeOf,typeInfo,hi,Builtin.lenOf,Builtin.firstCells,hnc,storeCells]
theorem Aem {α:Type} {e:Enc α} (bL:0<e.sz) {w:World} {B:Nat} {A:Option Addr} {m c:Nat} {ys:List α} (hr:Rd e w B (Aa A m c) ys):m=ys.length/\(0<m -> ∃ ad,A=Ac ad /\ ∀ j u,(ys.flatMap e.cells)[j]? = Ac u->w.cell? (ad.add j)=Ac u):=by
 obtain ⟨A',c',hv,_,hA⟩:=hr;simp only [Value.slice.injEq] at hv;obtain ⟨rfl,rfl,rfl⟩:=hv;refine ⟨rfl,fun hm=>?_⟩;obtain ⟨b,o,rfl,hb,hc⟩:=hA hm;refine ⟨⟨b,o,Ab⟩,rfl,fun j u hu=>?_⟩;have aA:=(List.getElem?_eq_some_iff.1 hu).1;rw [e.flat_length] at aA;have hk:j / e.sz<ys.length:=Nat.div_lt_of_lt_mul (by rw [Nat.mul_comm];exact aA);have hj:j % e.sz<e.sz:=Nat.mod_lt _ bL;have sA:j / e.sz * e.sz+j % e.sz=j:=by rw [Nat.mul_comm];exact Nat.div_add_mod _ _
 have h1:=e.flat_get hj ys (j / e.sz) hk;rw [sA] at h1;have h2:=hc (j / e.sz) hk (j % e.sz) u (by rw [<-h1];exact hu);have ea:(⟨b,o,Ab⟩:Addr).add j=⟨b,o+j / e.sz * e.sz+j % e.sz,Ab⟩:=by
  rw [Nat.add_assoc,sA];exact Amu
 rw [ea];exact h2
theorem Wv {α:Type} (e:Enc α) (bL:0<e.sz) (base:Nat) (t ty E:TypeId) (i:TypeInfo) (z:Value) (bytes:Nat) (ht:P.underlying t=Ac (.slice E)) (hi:P.info? E=Ac i) (hz:i.zero=Ac z)
  (cJ:i.size=e.sz) (cC:i.bytes=bytes) (hzs:z.cells.size=e.sz)
  (v:Value) (l:List α) (hown:Ow e E w base v l)
  (B:Nat) (A:Option Addr) (m c:Nat) (ys:List α) (hr:Rd e w B (Aa A m c) ys)
  (hn:l.length<=3000000) (hm:ys.length<=3000000) (hbytes:bytes<=10000) (aV:base<=w.heap.size) :
  ∃ v' w',(Builtin.append_ #[t,t] ty #[v,Aa A m c]).run P w = .ok v' w'/\Ow e E w' base v' (l ++ ys)/\w.grownBy w' v.ownBlock /\
   (v'.ownBlock=v.ownBlock\/v'.ownBlock=Ac w.heap.size):=by
 obtain ⟨rfl,hA⟩:=Aem bL hr;have h0:∀ ad:Addr,A=Ac ad -> ∀ j u,(ys.flatMap e.cells)[j]? = Ac u->w.cell? (ad.add j)=Ac u:=by
  intro ad hAd j u hu;rcases Nat.eq_zero_or_pos ys.length with aU | hpos
  ·have:ys=[]:=List.eq_nil_of_length_eq_zero aU;subst this;simp at hu
  ·obtain ⟨ad',bU,hc⟩:=hA hpos;rw [bU] at hAd;injection hAd with hAd
   subst hAd;exact hc j u hu
 rcases A with _ | ad
 ·have cL:ys=[]:=by
   rcases Nat.eq_zero_or_pos ys.length with h1 | h1
   ·exact List.eq_nil_of_length_eq_zero h1
   ·obtain ⟨_,h2,_⟩:=hA h1;cases h2
  subst cL;exact ⟨v,w,Qi w base t ty E i e.sz ht hi v l.length (l.flatMap e.cells) hown c,by simpa using hown,World.grownBy.refl w _,.inl rfl⟩
 ·have h1:∀ u∈ys.flatMap e.cells,u.oneCell'=true:=Am4
  have aK:(l.length+ys.length) * bytes<=6000000 * 10000:=Nat.mul_le_mul Bl hbytes;obtain ⟨v',w',eU,h2,h3,_,h5⟩:=run_append_own_at (P:=P) w base t ty E i z e.sz bytes ht hi hz cJ cC hzs bL v l.length (l.flatMap e.cells) hown ad ys.length c (ys.flatMap e.cells) (e.flat_length ys) (h0 ad rfl) h1 (by simp [maxLen];omega) Bl aV;refine ⟨v',w',eU,?_,h3,h5⟩;unfold Ow;rw [Bd,List.flatMap_append];exact h2
theorem Dz {α:Type} {o:Oper} {a:Act} {K:Act->World->Prop} {Q:Exit->Act->World->Prop} (e:Enc α) (bL:0<e.sz) (s x:Operand) (t:TypeId)
  (ho:o.op = .call { callee:=.builtin .append,args:=#[s,x],argTypes:=#[t,t] })
  (base:Nat) (E:TypeId) (i:TypeInfo) (z:Value) (bytes:Nat) (ht:P.underlying t=Ac (.slice E)) (hi:P.info? E=Ac i) (hz:i.zero=Ac z)
  (cJ:i.size=e.sz) (cC:i.bytes=bytes) (hzs:z.cells.size=e.sz)
  (v:Value) (l:List α) (hs:a.eval s=v) (hown:Ow e E w base v l)
  (B:Nat) (A:Option Addr) (m c:Nat) (ys:List α) (hx:a.eval x = .slice A m c) (hr:Rd e w B (.slice A m c) ys)
  (hn:l.length<=3000000) (hm:ys.length<=3000000) (hbytes:bytes<=10000) (aV:base<=w.heap.size)
  (h:∀ v' w',Ow e E w' base v' (l ++ ys)->w.grownBy w' v.ownBlock->(v'.ownBlock=v.ownBlock\/v'.ownBlock=Ac w.heap.size)->K (a.put o.dst v') w'):o.wp P a w K Q:=by
 obtain ⟨v',w',eU,h2,h3,h4⟩:=Wv (P:=P) w e bL base t o.type E i z bytes ht hi hz cJ cC hzs v l hown B A m c ys hr hn hm hbytes aV;unfold Oper.wp execOp;simp only [ho,resolve,invoke,builtin,Sem.run_bind,Sem.run_pure,Result.andThen_ok,List.map_toArray,List.map_cons,List.map_nil,hs,hx,eU];exact h v' w' h2 h3 h4
theorem Ci {α:Type} {ops:Array Oper} {rest:List Oper} {o:Oper} {a:Act} {Q:Exit->Act->World->Prop} (e:Enc α) (bL:0<e.sz) (dF:o.guard=Ab) (s x:Operand) {t:TypeId}
  (ho:o.op = .call { callee:=.builtin .append,args:=#[s,x],argTypes:=#[t,t] })
  {base:Nat} {E:TypeId} {i:TypeInfo} {z:Value} {bytes:Nat} (ht:P.underlying t=Ac (.slice E)) (hi:P.info? E=Ac i) (hz:i.zero=Ac z)
  (cJ:i.size=e.sz) (cC:i.bytes=bytes) (hzs:z.cells.size=e.sz)
  {v:Value} {l:List α} (hs:a.eval s=v) (hown:Ow e E w base v l)
  {B:Nat} {A:Option Addr} {m c:Nat} {ys:List α} (hx:a.eval x = .slice A m c) (hr:Rd e w B (.slice A m c) ys)
  (hn:l.length<=3000000) (hm:ys.length<=3000000) (hbytes:bytes<=10000) (aV:base<=w.heap.size)
  (h:∀ v' w',Ow e E w' base v' (l ++ ys)->w.grownBy w' v.ownBlock->(v'.ownBlock=v.ownBlock\/v'.ownBlock=Ac w.heap.size)->wpList P ops Q rest (a.put o.dst v') w'):wpList P ops Q (o :: rest) a w :=
 wpList_plain dF fun _ hK=>Dz w e bL s x t ho base E i z bytes ht hi hz cJ cC hzs v l hs hown B A m c ys hx hr hn hm hbytes aV fun v' w' h2 h3 h4=>hK _ _ (h v' w' h2 h3 h4)
theorem Gs {α:Type} {ops:Array Oper} {o:Oper} {a:Act} {K:Act->World->Prop} {Q:Exit->Act->World->Prop} {EE:Prop} (e:Enc α) (bL:0<e.sz) (dF:o.guard=Ab) (s x:Operand) {t:TypeId}
  (ho:o.op = .call { callee:=.builtin .append,args:=#[s,x],argTypes:=#[t,t] })
  {base:Nat} {E:TypeId} {i:TypeInfo} {z:Value} {bytes:Nat} (ht:P.underlying t=Ac (.slice E)) (hi:P.info? E=Ac i) (hz:i.zero=Ac z)
  (cJ:i.size=e.sz) (cC:i.bytes=bytes) (hzs:z.cells.size=e.sz)
  {v:Value} {l:List α} (hs:a.eval s=v) (hown:Ow e E w base v l)
  {B:Nat} {A:Option Addr} {m c:Nat} {ys:List α} (hx:a.eval x = .slice A m c) (hr:Rd e w B (.slice A m c) ys)
  (hn:l.length<=3000000) (hm:ys.length<=3000000) (hbytes:bytes<=10000) (aV:base<=w.heap.size)
  (h:∀ v' w',Ow e E w' base v' (l ++ ys)->w.grownBy w' v.ownBlock->(v'.ownBlock=v.ownBlock\/v'.ownBlock=Ac w.heap.size)->K (a.put o.dst v') w') :
  if Region.wanted o (yielded ops a.tmps)=true then Oper.wp P o a w K Q else EE:=by
 have hw:Region.wanted o (yielded ops a.tmps)=true:=by simp [Region.wanted,dF]
 rw [if_pos hw];exact Dz w e bL s x t ho base E i z bytes ht hi hz cJ cC hzs v l hs hown B A m c ys hx hr hn hm hbytes aV h
end
theorem Rd.one {α:Type} (e:Enc α) (w:World) (T:TypeId) (x:α) {g:Nat} (hg:g=w) {cs:Array Value} (fP:cs=(e.cells x).toArray) (c:Nat) (hc:1<=c) {B:Nat} (hB:g<B):Rd e (w.alloc (.cells cs T)) B (Aa (Ac ⟨g,0,Ab⟩) 1 c) [x]:=by
 refine ⟨_,c,rfl,by simpa using hc,fun _=>⟨g,0,rfl,hB,fun k hk j u hu=>?_⟩⟩;have cE:k=0:=by simpa using hk
 subst cE;simp only [List.getElem_cons_zero] at hu
 have:=Qt w cs T hg j u (by rw [fP];simpa using hu)
 have ea:(⟨g,0,Ab⟩:Addr).add j=⟨g,0+0 * e.sz+j,Ab⟩:=Amu
 rw [ea] at this;exact this
theorem Ow.empty {α:Type} (e:Enc α) (E:TypeId) (w:World) {g:Nat} (hg:g=w):Ow e E (w.alloc (.cells #[] E)) g (Aa (Ac ⟨g,0,Ab⟩) 0 0) []:=by
 subst hg;exact World.ownsRow_lit (base:=w) (e:=E) (size:=e.sz) w #[] 0 (Bt _) (by simp [maxLen]) Bo
theorem Ww (v:Value) (l:List Edge) (x:Edge) (w:World) (hl:l.length<=2000000) (h:Rd He w w v l) :
  Calls Am 301 #[v,Aas x] w fun e w'=>e = .returned (J U (Hv (fun y=>decide (x=y)) l))/\Below w w w':=by
 obtain ⟨A,c,rfl,-⟩:=id h;unfold Aas;go_enter func301,ntmps301;go_wp2;go_loopw [8] (fun i wr=>∃ k:Nat,k<=l.length/\i = J U k/\Hid (∀ j (hj:j<k) (hj':j<l.length),decide (x=l[j])=false)/\Below (w.alloc (.cells #[J U x.fr,J U x.to] 206)) (w.alloc (.cells #[J U x.fr,J U x.to] 206)) wr) (fun i _=>l.length - (intOf i).toNat);case atStart=>exact ⟨0,Ag _,rfl,fun j hj=>absurd hj Bl,Bs _ _⟩
 case round =>
  obtain ⟨k,hk,rfl,cQ,hb⟩:=hrel;have aN:Below w w (w.alloc (.cells #[J U x.fr,J U x.to] 206)):=Bu;have bV:=Bv aN hb;by_cases aA:k<l.length
  ·obtain ⟨b,o,rfl,aJ,c0,c1⟩:=(h.below bV).edge aA;have n0:wr.cell? ⟨w,0,Ab⟩=Ac (J U x.fr):=(hb.cell (p:=⟨w,0,Ab⟩) Bo).trans (by go_simp);have n1:wr.cell? ⟨w,1,Ab⟩=Ac (J U x.to):=(hb.cell (p:=⟨w,1,Ab⟩) Bo).trans (by go_simp);by_cases hx:x=l[k]
   ·have H:=Br (Jy (p:=fun y=>decide (x=y)) aA (fun j hj=>cQ.out j hj Bl) (show decide (x=l[k])=true by simp [hx]));have e0:l[k].fr=x.fr:=by rw [hx]
    have e1:l[k].to=x.to:=by rw [hx]
    rw [e0] at c0;rw [e1] at c1;clear hx e0 e1;go_wp2;go_quiet (fail);go_wp2;go_ret;exact ⟨Cy (by rw [H.out]),Dq bV _⟩
   ·have S:Hid (∀ j (hj:j<k+1) (hj':j<l.length),decide (x=l[j])=false):=Amv
    have dR:¬ (x.fr=l[k].fr/\x.to=l[k].to):=fun ⟨e0,e1⟩=>hx (by cases x;cases hlk:l[k];simp_all);clear hx;by_cases e0:x.fr=l[k].fr
    ·have e1:¬ x.to=l[k].to:=fun e=>dR ⟨e0,e⟩;have e1':(x.to == l[k].to)=false:=by simpa using e1
     rw [<-e0] at c0;clear dR e0;exact Amw
    ·have e0':(x.fr == l[k].fr)=false:=by simpa using e0
     clear dR;exact Amw
  ·have H:=Br (Km (p:=fun y=>decide (x=y)) (l:=l) (fun j hj=>cQ.out j Bl hj));go_wp2;go_ret;exact ⟨Cy (by rw [H.out]),bV⟩
theorem Ae8 {l:List Edge} {x:Edge} : (0<=Hv (fun y=>decide (x=y)) l) ↔ x∈l:=by
 unfold Hv;cases h:l.findIdx? (fun y=>decide (x=y)) with
 | none =>
  rw [List.findIdx?_eq_none_iff] at h;simp only;refine ⟨fun h=>absurd h Bl,fun hx=>?_⟩
  have:=h x hx
  simp at this
 | some i =>
  rw [List.findIdx?_eq_some_iff_getElem] at h;obtain ⟨hi,hp,_⟩:=h;simp only [decide_eq_true_eq] at hp;simp only;exact ⟨fun _=>by rw [hp];exact Aw hi,fun _=>Bl⟩
theorem M8 (v:Value) (l:List Edge) (x:Edge) (w:World) (hl:l.length<=2000000) (h:Rd He w w v l) :
  Calls Am 270 #[v,Aas x] w fun e w'=>e = .returned (.bool (decide (x∈l)))/\Below w w w':=by
 have aN:Below w w (w.alloc (.cells #[J U x.fr,J U x.to] 206)):=Bu;have H:=Br (show decide (0<=Hv (fun y=>decide (x=y)) l)=decide (x∈l) from decide_eq_decide.2 Ae8);unfold Aas;go_enter func270,ntmps270;go_wp2_with fail
 refine (Ww v l x _ hl ((h.below aN).more aN.size)).mono ?_;rintro e w1 ⟨rfl,aG⟩;go_wp2_with fail
 go_ret;exact ⟨Bx (by rw [<-H.out]),Bv aN aG⟩
theorem Oi {p:Plan} (h:E5 p=false):Cr p=1:=by unfold Cr;rw [if_pos h]
theorem Oj {p:Plan} (h:E5 p=true) (h2:¬ Hu p):Cr p=2:=by unfold Cr;rw [if_neg (by rw [h];simp),if_pos h2]
theorem N7 {p:Plan} (h:E5 p=true) (h2:Hu p) (h3:¬ p.edges.Nodup):Cr p=3:=by
 unfold Cr;rw [if_neg (by rw [h];simp),if_neg (by simpa using h2),if_pos h3]
theorem N8 {p:Plan} (h:E5 p=true) (h2:Hu p) (h3:p.edges.Nodup) (h4:Ru p):Cr p=4:=by
 unfold Cr;rw [if_neg (by rw [h];simp),if_neg (by simpa using h2),if_neg (by simpa using h3),if_pos h4]
theorem Nn {α:Type} {l:List α} {x:α} : (l ++ [x]).Nodup ↔ l.Nodup/\x∉l:=by
 rw [Ax];constructor
 ·rintro ⟨h1,_,h2⟩;exact ⟨h1,fun hx=>h2 x hx x Bo rfl⟩
 ·rintro ⟨h1,h2⟩;refine ⟨h1,Bo,fun a ha b hb e=>?_⟩;simp only [Au] at hb;subst hb;subst e;exact h2 ha
theorem Qj (p:Plan) (ve:Value) (w:World) (hl:p.edges.length<=2000000) (h:Rd He w w ve p.edges) (hm:E5 p=false) :
  Calls Am 200 #[G9 p ve] w fun e w'=>e = .returned (J U (Cr p))/\Below w w w':=by
 have H:=Br (Oi hm);obtain ⟨A,c,rfl,-⟩:=id h;unfold G9;cases h1:inB p.tasks 1 12
 ·exact Aix
 by_cases h2:30<p.edges.length
 ·have h2':(30:Int)<(p.edges.length:Int):=Bl;exact Aix
 have h2':¬ (30:Int)<(p.edges.length:Int):=Bl;cases h3:inB p.prio 0 9
 ·exact Aix
 cases h4:inB p.most 1 5
 ·exact Aix
 cases h5:inB p.wait 1 20
 ·exact Aix
 ·exfalso;have:E5 p=true:=by simp [E5,h1,h3,h4,h5];omega
  rw [this] at hm;cases hm
structure Sl where
 a:Option Addr
 n:Nat
 c:Nat
abbrev Sl.v (s:Sl):Value:=.slice s.a s.n s.c
structure Chg (F:List Nat) (w w':World):Prop where
 os:w'.os=w.os
 tape:w'.tape=w.tape
 output:w'.output=w.output
 size:w.heap.size<=w'.heap.size
 block:∀ b,b<w.heap.size->b∉F->w'.heap[b]? = w.heap[b]?
theorem Chg.refl (F:List Nat) (w:World):Chg F w w:=⟨rfl,rfl,rfl,Bt _,fun _ _ _=>rfl⟩
theorem Chg.trans {F:List Nat} {a b c:World} (h:Chg F a b) (k:Chg F b c):Chg F a c :=
 ⟨k.os.trans h.os,k.tape.trans h.tape,k.output.trans h.output,Ah h.size k.size,fun i hi hn=>(k.block i (Ai hi h.size) hn).trans (h.block i hi hn)⟩
theorem Chg.mono {F G:List Nat} {a b:World} (h:Chg F a b) (hs:∀ x∈F,x∈G):Chg G a b:=⟨h.os,h.tape,h.output,h.size,fun i hi hn=>h.block i hi (fun hx=>hn (hs i hx))⟩
theorem Chg.of_below {a b:World} (F:List Nat) (h:Below a a b):Chg F a b:=⟨h.os,h.tape,h.output,h.size,fun i hi _=>h.block i hi⟩
theorem Chg.below {F:List Nat} {a b:World} (h:Chg F a b) {base:Nat} (hb:base<=a.heap.size) (hF:∀ x∈F,base<=x):Below base a b :=
 ⟨h.os,h.tape,h.output,h.size,fun i hi=>h.block i Bl (fun hx=>by have:=hF i hx;omega)⟩
theorem Chg.setCell (w:World) (b o:Nat) (u:Value):Chg [b] w (w.setCell ⟨b,o,Ab⟩ u) :=
 ⟨rfl,rfl,rfl,by simp [World.setCell],fun i _ hn=>Below.heap_setCell w ⟨b,o,Ab⟩ u i (by simpa using hn)⟩
theorem Chg.cell {F:List Nat} {w w':World} (h:Chg F w w') {p:Addr} (hp:p.block<w.heap.size) (hn:p.block∉F):w'.cell? p=w.cell? p:=World.cell?_of_block (h.block _ hp hn)
theorem Chg.frozen {F:List Nat} {w w':World} (h:Chg F w w') {p:Addr} (hp:p.block<w.heap.size) (hn:p.block∉F):w'.frozen? p=w.frozen? p:=World.frozen?_of_block (h.block _ hp hn)
section
variable {α:Type} {e:Enc α} {w w':World} {B B':Nat} {v:Value} {l:List α} {F G:List Nat}
def El (v:Value) (n:Nat):List Nat:=if n=0 then [] else v.ownBlock.toList
theorem J4 (v:Value) (n:Nat):(El v n).Nodup:=by
 unfold El;split
 ·exact List.nodup_nil
 ·cases v.ownBlock<;>simp
def Hw (e:Enc α) (w:World) (F:List Nat) (v:Value) (l:List α):Prop:=Rd e w w v l/\F=El v l.length /\ ∀ g∈F,∀ j,w.frozen? ⟨g,j,Ab⟩=false
theorem Rd.block_lt {A:Option Addr} {n c:Nat} (h:Rd e w B (Aa A n c) l):∀ b∈El (Aa A n c) l.length,b<B:=by
 intro b hb;obtain ⟨A',c',hv,_,hA⟩:=h;simp only [Value.slice.injEq] at hv;obtain ⟨rfl,rfl,rfl⟩:=hv;unfold El at hb;split at hb
 ·cases hb
 ·obtain ⟨b',o',rfl,aA,_⟩:=hA Bl;simp [Value.ownBlock] at hb;omega
theorem Rd.keepF (h:Rd e w B v l) (hB:B<=B') (hk:∀ b∈El v l.length,∀ o,w'.cell? ⟨b,o,Ab⟩=w.cell? ⟨b,o,Ab⟩):Rd e w' B' v l:=by
 obtain ⟨A,c,rfl,cI,hA⟩:=h;refine ⟨A,c,rfl,cI,fun hl=>?_⟩;obtain ⟨b,o,rfl,aA,hc⟩:=hA hl;refine ⟨b,o,rfl,Bl,fun k aZ j u hu=>?_⟩;rw [hk b (by unfold El;rw [if_neg Bl];simp [Value.ownBlock])];exact hc k aZ j u hu
theorem Hw.lt (h:Hw e w F v l):∀ b∈F,b<w:=by
 obtain ⟨hr,rfl,_⟩:=h;obtain ⟨A,c,rfl,_⟩:=id hr;exact hr.block_lt
theorem Hw.nodup (h:Hw e w F v l):F.Nodup:=by
 obtain ⟨_,rfl,_⟩:=h;exact J4 _ _
theorem Hw.keep (h:Hw e w F v l) (hs:w.heap.size<=w'.heap.size) (hk:∀ b∈F,w'.heap[b]? = w.heap[b]?):Hw e w' F v l:=by
 obtain ⟨hr,rfl,hf⟩:=h;refine ⟨hr.keepF hs (fun b hb o=>World.cell?_of_block (hk b hb)),rfl,fun g hg j=>?_⟩;rw [World.frozen?_of_block (w:=w) (hk g hg)];exact hf g hg j
theorem Hw.chg (h:Hw e w F v l) (hc:Chg G w w') (hd:∀ b∈F,b∉G):Hw e w' F v l:=h.keep hc.size fun b hb=>hc.block b (h.lt b hb) (hd b hb)
theorem Hw.below (h:Hw e w F v l) (hb:Below w w w'):Hw e w' F v l:=h.keep hb.size fun b hF=>hb.block b (h.lt b hF)
theorem Hw.rd (h:Hw e w F v l):Rd e w w v l:=h.1
theorem Hw.of_ow {E:TypeId} {base:Nat} (h:Ow e E w base v l):Hw e w (El v l.length) v l /\ ∀ b∈El v l.length,base<=b:=by
 have hr:=Rd.of_own h;rcases h.form with ⟨rfl,rfl⟩ | ⟨g,cap,rfl,h1,h2,_,_,hf,_⟩
 ·exact ⟨⟨hr,rfl,fun g hg=>by simp [El] at hg⟩,fun b hb=>by simp [El] at hb⟩
 ·have hb:∀ b∈El (Aa (Ac ⟨g,0,Ab⟩) l.length cap) l.length,b=g:=by
   intro b hb;unfold El at hb;split at hb
   ·cases hb
   ·simpa [Value.ownBlock] using hb
  exact ⟨⟨hr,rfl,fun b aX j=>by rw [hb b aX];exact hf j⟩,fun b aX=>by rw [hb b aX];exact h1⟩
theorem Hw.nil (e:Enc α) (w:World) (A:Option Addr) (c:Nat):Hw e w [] (Aa A 0 c) [] :=
 ⟨⟨A,c,rfl,Ag _,fun h=>absurd h Bo⟩,by simp [El],fun _ h=>by cases h⟩
theorem Hw.at_ {A:Option Addr} {n c:Nat} (h:Hw e w F (Aa A n c) l) (hp:0<l.length):∃ b o,A=Ac ⟨b,o,Ab⟩/\F=[b]/\b<w.heap.size/\(∀ j,w.frozen? ⟨b,j,Ab⟩=false):=by
 obtain ⟨hr,hF,hf⟩:=h;obtain ⟨A',c',hv,_,hA⟩:=id hr;simp only [Value.slice.injEq] at hv;obtain ⟨rfl,rfl,rfl⟩:=hv;obtain ⟨b,o,rfl,aA,_⟩:=hA hp;have hFb:F=[b]:=by
  rw [hF];unfold El;rw [if_neg Bl];rfl
 exact ⟨b,o,rfl,hFb,aA,fun j=>hf b (by rw [hFb];simp) j⟩
end
theorem I6:∀ (us:List Value) (w:World) (b i:Nat),Chg [b] w (Ie w b i us)
 | [],w,b,_=>Chg.refl [b] w
 | u :: us,w,b,i=>(Chg.setCell w b i u).trans (I6 us _ b (i+1))
theorem Jz:∀ (us:List Value) (w:World) (b i:Nat),(Ie w b i us).heap.size=w.heap.size
 | [],_,_,_=>rfl
 | u :: us,w,b,i=>by
  rw [Ie,Jz us];simp [World.setCell]
theorem Np (w:World) (b o i:Nat) (u u0:Value) (h0:w.cell? ⟨b,o,Ab⟩=Ac u0) (hi:∃ x,w.cell? ⟨b,i,Ab⟩=Ac x) :
  (w.setCell ⟨b,i,Ab⟩ u).cell? ⟨b,o,Ab⟩=Ac (if o=i then u else u0):=by
 by_cases h:o=i
 ·subst h;rw [if_pos rfl];obtain ⟨x,hx⟩:=hi;simp [go_sem,hx]
 ·rw [if_neg h]
  have:=h0
  simp [go_sem,this]
theorem Rv:∀ (us:List Value) (w:World) (b i o:Nat) (u0:Value),(∀ j,j<us.length -> ∃ x,w.cell? ⟨b,i+j,Ab⟩=Ac x)->w.cell? ⟨b,o,Ab⟩=Ac u0 ->
  (Ie w b i us).cell? ⟨b,o,Ab⟩=Ac (if h:i<=o/\o<i+us.length then us[o - i]' Bl else u0)
 | [],w,b,i,o,u0,_,h0=>by
  rw [Ie,h0,dif_neg Bo]
 | u :: us,w,b,i,o,u0,hx,h0=>by
  have h1:=Np w b o i u u0 h0 (by simpa using hx 0 Bo);have h2:=Rv us (w.setCell ⟨b,i,Ab⟩ u) b (i+1) o _ (fun j hj=>by
   obtain ⟨x,dR⟩:=hx (j+1) (by simpa using hj);exact ⟨_,Np w b (i+1+j) i u x (by rw [show i+1+j=i+(j+1) from by omega];exact dR) (by simpa using hx 0 Bo)⟩) h1
  rw [Ie,h2];congr 1;by_cases ho:o=i
  ·subst ho;rw [dif_neg Bl,if_pos rfl,dif_pos Bo];simp
  ·by_cases cF:i+1<=o/\o<i+1+us.length
   ·rw [dif_pos cF,dif_pos (by simp only [List.length_cons];omega)];have:o - i=(o - (i+1))+1:=Bl;simp only [this,List.getElem_cons_succ]
   ·rw [dif_neg cF,if_neg ho,dif_neg (by simp only [List.length_cons];omega)]
theorem J5 (w:World) (a:Addr) (u:Value) (p:Addr):(w.setCell a u).frozen? p=w.frozen? p:=by simp [go_sem]
theorem I7:∀ (us:List Value) (w:World) (b i:Nat) (p:Addr),(Ie w b i us).frozen? p=w.frozen? p
 | [],_,_,_,_=>rfl
 | u :: us,w,b,i,p=>by rw [Ie,I7 us,J5]
theorem Rd.part {α:Type} {e:Enc α} {w:World} {B b o n c:Nat} {l:List α} (h:Rd e w B (Aa (Ac ⟨b,o,Ab⟩) n c) l) (k:Nat) (hk:k<l.length) (y:α) (off:Nat) (us:List Value) (hoff:off+us.length<=e.sz)
  (cF:∀ j (hj:j<us.length),(e.cells y)[off+j]? = Ac us[j]) (fS:∀ j,j<e.sz->(j<off\/off+us.length<=j)->(e.cells y)[j]? = (e.cells l[k])[j]?) :
  Rd e (Ie w b (o+k * e.sz+off) us) B (Aa (Ac ⟨b,o,Ab⟩) n c) (l.set k y):=by
 obtain ⟨A',c',hv,cI,hA⟩:=h;simp only [Value.slice.injEq] at hv;obtain ⟨rfl,rfl,rfl⟩:=hv;refine ⟨_,c,by rw [Bh],by rw [Bh];exact cI,fun _=>?_⟩;obtain ⟨b',o',he,aA,hc⟩:=hA Bl;simp only [Option.some.injEq,Addr.mk.injEq,and_true] at he;obtain ⟨rfl,rfl⟩:=he;refine ⟨b,o,rfl,aA,fun i aQ j u hu=>?_⟩;have hi:i<l.length:=by rw [Bh] at aQ;exact aQ
 have hj:j<e.sz:=Am8
 have tG:∀ j',j'<us.length -> ∃ x,w.cell? ⟨b,o+k * e.sz+off+j',Ab⟩=Ac x:=fun j' hj'=>by
  have bY:off+j'<(e.cells l[k]).length:=by rw [e.len];omega
  exact ⟨_,by rw [Nat.add_assoc];exact hc k hk (off+j') _ (List.getElem?_eq_getElem bY)⟩
 by_cases hik:i=k
 ·subst hik;rw [List.getElem_set_self] at hu;have uD:j<(e.cells l[i]).length:=by rw [e.len];exact hj
  have h0:=hc i hi j _ (List.getElem?_eq_getElem uD);have h1:=Rv us w b (o+i * e.sz+off) (o+i * e.sz+j) _ tG h0;rw [h1];by_cases hr:off<=j/\j<off+us.length
  ·rw [dif_pos Bl];have h2:=cF (j - off) Bl;rw [show off+(j - off)=j from Bl,hu] at h2;have h3:o+i * e.sz+j - (o+i * e.sz+off)=j - off:=Bl;simp only [h3];exact h2.symm
  ·rw [dif_neg Bl];have h2:=fS j hj Bl;rw [hu,List.getElem?_eq_getElem uD] at h2;exact h2.symm
 ·rw [List.getElem_set_ne Bl] at hu;have h0:=hc i hi j u hu;have h1:=Rv us w b (o+k * e.sz+off) (o+i * e.sz+j) _ tG h0;rw [h1,dif_neg];intro hh;rcases Nat.lt_or_gt_of_ne hik with h | h
  ·have:(i+1) * e.sz<=k * e.sz:=Nat.mul_le_mul_right _ h;rw [Nat.succ_mul] at this;omega
  ·have:(k+1) * e.sz<=i * e.sz:=Nat.mul_le_mul_right _ h;rw [Nat.succ_mul] at this;omega
theorem Rd.same {α:Type} {e:Enc α} {w:World} {B:Nat} {v:Value} {l:List α} (h:Rd e w B v l) (k:Nat) (hk:k<l.length) (y:α) (hy:e.cells y=e.cells l[k]):Rd e w B v (l.set k y):=by
 obtain ⟨A,c,rfl,cI,hA⟩:=h;refine ⟨A,c,by rw [Bh],by rw [Bh];exact cI,fun hl=>?_⟩;rw [Bh] at hl;obtain ⟨b,o,hb,aA,hc⟩:=hA hl;refine ⟨b,o,hb,aA,fun i aQ j u hu=>?_⟩;have hi:i<l.length:=by rw [Bh] at aQ;exact aQ
 refine hc i hi j u ?_;by_cases hik:k=i
 ·subst hik;rw [List.getElem_set_self,hy] at hu;exact hu
 ·rw [List.getElem_set_ne hik] at hu;exact hu
structure Dt (α:Type) where
 S:Type
 enc:Enc (α×S)
 rd:World->Nat->α->S->Prop
 ow:World->List Nat->α->S->Prop
 rd_keep:∀ {w w':World} {B B':Nat} {x:α} {s:S},rd w B x s->B<=B'->(∀ p:Addr,p.block<B->w'.cell? p=w.cell? p)->rd w' B' x s
 ow_keep:∀ {w w':World} {F:List Nat} {x:α} {s:S},ow w F x s->w.heap.size<=w'.heap.size->(∀ b∈F,w'.heap[b]? = w.heap[b]?)->ow w' F x s
 ow_lt:∀ {w:World} {F:List Nat} {x:α} {s:S},ow w F x s -> ∀ b∈F,b<w
 ow_rd:∀ {w:World} {F:List Nat} {x:α} {s:S},ow w F x s->rd w w x s
 ow_nodup:∀ {w:World} {F:List Nat} {x:α} {s:S},ow w F x s->F.Nodup
section
variable {α:Type} {d:Dt α} {w w':World} {B B':Nat} {v:Value} {l:List α} {F G:List Nat}
def RdL (d:Dt α) (w:World) (B:Nat) (v:Value) (l:List α):Prop:=∃ rs:List (α×d.S),rs.map (·.1)=l/\Rd d.enc w B v rs /\ ∀ r∈rs,d.rd w B r.1 r.2
theorem RdL.keep (h:RdL d w B v l) (hB:B<=B') (hk:∀ p:Addr,p.block<B->w'.cell? p=w.cell? p):RdL d w' B' v l:=by
 obtain ⟨rs,hm,hr,ha⟩:=h;exact ⟨rs,hm,(hr.keep hk).more hB,fun r hx=>d.rd_keep (ha r hx) hB hk⟩
theorem RdL.below (h:RdL d w B v l) (hb:Below B w w'):RdL d w' B v l:=h.keep (Bt _) fun _ hp=>hb.cell hp
theorem RdL.more (h:RdL d w B v l) (hB:B<=B'):RdL d w B' v l:=h.keep hB fun _ _=>rfl
theorem RdL.form (h:RdL d w B v l):∃ A c,v = Aa A l.length c/\l.length<=c:=by
 obtain ⟨rs,rfl,⟨A,c,hv,hc,_⟩,_⟩:=h;exact ⟨A,c,by rw [Ar];exact hv,by rw [Ar];exact hc⟩
theorem RdL.at_ {A:Option Addr} {n c:Nat} (h:RdL d w B (Aa A n c) l) (k:Nat) (hk:k<l.length):∃ b o s,A=Ac ⟨b,o,Ab⟩/\b<B /\
  (∀ j u,(d.enc.cells (l[k],s))[j]? = Ac u->w.cell? ⟨b,o+k * d.enc.sz+j,Ab⟩=Ac u)/\d.rd w B l[k] s:=by
 obtain ⟨rs,rfl,⟨A',c',hv,_,hA⟩,ha⟩:=h;simp only [Value.slice.injEq] at hv;obtain ⟨rfl,_,_⟩:=hv;rw [Ar] at hk;obtain ⟨b,o,bU,hb,hc⟩:=hA Bl;have e:(rs.map (·.1))[k]'(by rw [Ar];exact hk)=rs[k].1:=by rw [List.getElem_map]
 refine ⟨b,o,rs[k].2,bU,hb,fun j u hu=>?_,?_⟩
 ·rw [e] at hu;exact hc k hk j u hu
 ·rw [e];exact ha _ (Aw hk)
inductive Ows (d:Dt α) (w:World):List Nat->List (α×d.S)->Prop
 | nil:Ows d w [] []
 | cons {F G:List Nat} {r:α×d.S} {rs:List (α×d.S)} : d.ow w F r.1 r.2->Ows d w G rs->Ows d w (F ++ G) (r :: rs)
theorem Ows.keep {rs:List (α×d.S)} (h:Ows d w F rs) (hs:w.heap.size<=w'.heap.size) (hk:∀ b∈F,w'.heap[b]? = w.heap[b]?):Ows d w' F rs:=by
 induction h with
 | nil=>exact .nil
 | cons h1 _ ih=>exact .cons (d.ow_keep h1 hs fun b hb=>hk b (Bf _ hb)) (ih fun b hb=>hk b (Be _ hb))
theorem Ows.lt {rs:List (α×d.S)} (h:Ows d w F rs):∀ b∈F,b<w:=by
 induction h with
 | nil=>intro b hb;cases hb
 | cons h1 _ ih =>
  intro b hb;rcases Bi.1 hb with hb | hb
  ·exact d.ow_lt h1 b hb
  ·exact ih b hb
theorem Ows.rd {rs:List (α×d.S)} (h:Ows d w F rs):∀ r∈rs,d.rd w w r.1 r.2:=by
 induction h with
 | nil=>intro r hr;cases hr
 | cons h1 _ ih =>
  intro r hr;rcases List.mem_cons.1 hr with rfl | hr
  ·exact d.ow_rd h1
  ·exact ih r hr
theorem Ows.append {rs ts:List (α×d.S)} (h:Ows d w F rs) (k:Ows d w G ts):Ows d w (F ++ G) (rs ++ ts):=by
 induction h with
 | nil=>exact k
 | cons h1 _ ih =>
  rw [List.append_assoc];exact .cons h1 ih
theorem Ows.one {r:α×d.S} (h:d.ow w F r.1 r.2):Ows d w F [r]:=by
 have:=Ows.cons h (Ows.nil (d:=d) (w:=w))
 rwa [List.append_nil] at this
theorem Ows.split {rs:List (α×d.S)} (h:Ows d w F rs) (k:Nat) (hk:k<=rs.length):∃ F1 F2,F=F1 ++ F2/\Ows d w F1 (rs.take k)/\Ows d w F2 (rs.drop k):=by
 induction h generalizing k with
 | nil=>exact ⟨[],[],rfl,by simpa using Ows.nil,by simpa using Ows.nil⟩
 | @cons F G r rs h1 h2 ih =>
  cases k with
  | zero=>exact ⟨[],F ++ G,rfl,by simpa using Ows.nil,by simpa using Ows.cons h1 h2⟩
  | succ k =>
   obtain ⟨F1,F2,rfl,h3,h4⟩:=ih k (by simpa using hk);exact ⟨F ++ F1,F2,by rw [List.append_assoc],by simpa using Ows.cons h1 h3,by simpa using h4⟩
theorem Ows.head {r:α×d.S} {rs:List (α×d.S)} (h:Ows d w F (r :: rs)):∃ F1 F2,F=F1 ++ F2/\d.ow w F1 r.1 r.2/\Ows d w F2 rs:=by
 cases h with
 | cons h1 h2=>exact ⟨_,_,rfl,h1,h2⟩
def OwL (d:Dt α) (w:World) (F:List Nat) (v:Value) (l:List α):Prop :=
 ∃ (rs:List (α×d.S)) (H G:List Nat),rs.map (·.1)=l/\Hw d.enc w H v rs/\Ows d w G rs/\F=H ++ G/\F.Nodup
theorem OwL.keep (h:OwL d w F v l) (hs:w.heap.size<=w'.heap.size) (hk:∀ b∈F,w'.heap[b]? = w.heap[b]?):OwL d w' F v l:=by
 obtain ⟨rs,H,G,hm,hh,ho,rfl,hn⟩:=h;exact ⟨rs,H,G,hm,hh.keep hs fun b hb=>hk b (Bf _ hb),ho.keep hs fun b hb=>hk b (Be _ hb),rfl,hn⟩
theorem OwL.lt (h:OwL d w F v l):∀ b∈F,b<w:=by
 obtain ⟨rs,H,G,hm,hh,ho,rfl,hn⟩:=h;intro b hb;rcases Bi.1 hb with hb | hb
 ·exact hh.lt b hb
 ·exact ho.lt b hb
theorem OwL.nodup (h:OwL d w F v l):F.Nodup:=by
 obtain ⟨rs,H,G,hm,hh,ho,rfl,hn⟩:=h;exact hn
theorem OwL.rd (h:OwL d w F v l):RdL d w w v l:=by
 obtain ⟨rs,H,G,hm,hh,ho,rfl,hn⟩:=h;exact ⟨rs,hm,hh.rd,ho.rd⟩
theorem OwL.chg (h:OwL d w F v l) (hc:Chg G w w') (hd:∀ b∈F,b∉G):OwL d w' F v l:=h.keep hc.size fun b hb=>hc.block b (h.lt b hb) (hd b hb)
theorem OwL.below (h:OwL d w F v l) (hb:Below w w w'):OwL d w' F v l:=h.keep hb.size fun b hF=>hb.block b (h.lt b hF)
theorem OwL.nil (d:Dt α) (w:World) (A:Option Addr) (c:Nat):OwL d w [] (Aa A 0 c) []:=⟨[],[],[],rfl,Hw.nil _ _ _ _,.nil,rfl,List.nodup_nil⟩
theorem OwL.form (h:OwL d w F v l):∃ A c,v = Aa A l.length c/\l.length<=c:=h.rd.form
@[reducible] def Dt.list (d:Dt α):Dt (List α) where
 S:=Sl
 enc:={ cells:=fun p=>[p.2.v],sz:=1,len:=fun _=>rfl,one:=fun p u hu=>by simp at hu;subst hu;rfl }
 rd w B l s:=RdL d w B s.v l
 ow w F l s:=OwL d w F s.v l
 rd_keep h hB hk:=h.keep hB hk
 ow_keep h hs hk:=h.keep hs hk
 ow_lt h:=h.lt
 ow_rd h:=h.rd
 ow_nodup h:=h.nodup
@[reducible] def Dt.flats (e:Enc α):Dt (List α) where
 S:=Sl
 enc:={ cells:=fun p=>[p.2.v],sz:=1,len:=fun _=>rfl,one:=fun p u hu=>by simp at hu;subst hu;rfl }
 rd w B l s:=Rd e w B s.v l
 ow w F l s:=Hw e w F s.v l
 rd_keep h hB hk:=(h.keep hk).more hB
 ow_keep h hs hk:=h.keep hs hk
 ow_lt h:=h.lt
 ow_rd h:=h.rd
 ow_nodup h:=h.nodup
@[reducible] def Dt.flat {β:Type} (cells:β×Unit->List Value) (sz:Nat) (len:∀ x,(cells x).length=sz) (one:∀ x,∀ u∈cells x,u.oneCell'=true):Dt β where
 S:=Unit
 enc:={ cells:=cells,sz:=sz,len:=len,one:=one }
 rd _ _ _ _:=True
 ow _ F _ _:=F=[]
 rd_keep _ _ _:=trivial
 ow_keep h _ _:=h
 ow_lt h:=by subst h;intro b hb;cases hb
 ow_rd _:=trivial
 ow_nodup h:=by subst h;exact List.nodup_nil
@[reducible] def Dt.via {β:Type} (d:Dt α) (f:β->α) (cells:β×d.S->List Value) (sz:Nat) (len:∀ x,(cells x).length=sz) (one:∀ x,∀ u∈cells x,u.oneCell'=true):Dt β where
 S:=d.S
 enc:={ cells:=cells,sz:=sz,len:=len,one:=one }
 rd w B x s:=d.rd w B (f x) s
 ow w F x s:=d.ow w F (f x) s
 rd_keep h hB hk:=d.rd_keep h hB hk
 ow_keep h hs hk:=d.ow_keep h hs hk
 ow_lt h:=d.ow_lt h
 ow_rd h:=d.ow_rd h
 ow_nodup h:=d.ow_nodup h
@[reducible] def Dt.two {β γ:Type} (d:Dt α) (d':Dt γ) (f:β->α) (g:β->γ) (cells:β×(d.S×d'.S)->List Value) (sz:Nat) (len:∀ x,(cells x).length=sz) (one:∀ x,∀ u∈cells x,u.oneCell'=true):Dt β where
 S:=d.S×d'.S
 enc:={ cells:=cells,sz:=sz,len:=len,one:=one }
 rd w B x s:=d.rd w B (f x) s.1/\d'.rd w B (g x) s.2
 ow w F x s:=∃ F1 F2,F=F1 ++ F2/\F.Nodup/\d.ow w F1 (f x) s.1/\d'.ow w F2 (g x) s.2
 rd_keep h hB hk:=⟨d.rd_keep h.1 hB hk,d'.rd_keep h.2 hB hk⟩
 ow_keep:=fun ⟨F1,F2,hF,hn,h1,h2⟩ hs hk=>⟨F1,F2,hF,hn,d.ow_keep h1 hs fun b hb=>hk b (by rw [hF];exact Bf _ hb),d'.ow_keep h2 hs fun b hb=>hk b (by rw [hF];exact Be _ hb)⟩
 ow_lt:=fun ⟨F1,F2,hF,hn,h1,h2⟩ b hb=>by
  rw [hF] at hb
  rcases Bi.1 hb with hb | hb
  ·exact d.ow_lt h1 b hb
  ·exact d'.ow_lt h2 b hb
 ow_rd:=fun ⟨F1,F2,hF,hn,h1,h2⟩=>⟨d.ow_rd h1,d'.ow_rd h2⟩
 ow_nodup:=fun ⟨F1,F2,hF,hn,h1,h2⟩=>hn
theorem Dt.ow_chg (d:Dt α) {x:α} {s:d.S} (h:d.ow w F x s) (hc:Chg G w w') (hd:∀ b∈F,b∉G):d.ow w' F x s:=d.ow_keep h hc.size fun b hb=>hc.block b (d.ow_lt h b hb) (hd b hb)
theorem Dt.ow_below (d:Dt α) {x:α} {s:d.S} (h:d.ow w F x s) (hb:Below w w w'):d.ow w' F x s:=d.ow_keep h hb.size fun b hF=>hb.block b (d.ow_lt h b hF)
theorem Dt.rd_below (d:Dt α) {x:α} {s:d.S} (h:d.rd w B x s) (hb:Below B w w'):d.rd w' B x s:=d.rd_keep h (Bt _) fun _ hp=>hb.cell hp
theorem Dt.rd_more (d:Dt α) {x:α} {s:d.S} (h:d.rd w B x s) (hB:B<=B'):d.rd w B' x s:=d.rd_keep h hB fun _ _=>rfl
def Dv (d:Dt α) (val:α->d.S->Value) (x:α) (w:World) (e:Ending) (w':World):Prop :=
 ∃ s F,e = .returned (val x s)/\d.ow w' F x s/\(∀ b∈F,w<=b)/\Below w w w'
end
section
variable {α:Type} {d:Dt α} {w w':World} {v:Value} {l:List α} {F G:List Nat}
theorem Dt.ow_set (d:Dt α) {x:α} {s:d.S} (h:d.ow w F x s) {a:Addr} (ha:a.block∉F) (u:Value):d.ow (w.setCell a u) F x s :=
 d.ow_keep h (by simp [World.setCell]) fun b hb=>Below.heap_setCell w a u b (fun e=>ha (by rw [<-e];exact hb))
theorem OwL.set (h:OwL d w F v l) {a:Addr} (ha:a.block∉F) (u:Value):OwL d (w.setCell a u) F v l :=
 h.keep (by simp [World.setCell]) fun b hb=>Below.heap_setCell w a u b (fun e=>ha (by rw [<-e];exact hb))
theorem Hw.set {e:Enc α} (h:Hw e w F v l) {a:Addr} (ha:a.block∉F) (u:Value):Hw e (w.setCell a u) F v l :=
 h.keep (by simp [World.setCell]) fun b hb=>Below.heap_setCell w a u b (fun e=>ha (by rw [<-e];exact hb))
theorem Ows.bel {rs:List (α×d.S)} (h:Ows d w F rs) (hb:Below w w w'):Ows d w' F rs:=h.keep hb.size fun b hF=>hb.block b (h.lt b hF)
theorem Ows.chg {rs:List (α×d.S)} (h:Ows d w F rs) (hc:Chg G w w') (hd:∀ b∈F,b∉G):Ows d w' F rs:=h.keep hc.size fun b hb=>hc.block b (h.lt b hb) (hd b hb)
end
theorem H9 (v:Value) (n:Nat):∀ b∈El v n,v.ownBlock=Ac b:=by
 intro b hb;unfold El at hb;split at hb
 ·cases hb
 ·cases h:v.ownBlock with
  | none=>rw [h] at hb;cases hb
  | some g =>
   rw [h] at hb;simp at hb;rw [hb]
section
variable {α:Type} {d:Dt α} {E:TypeId} {w w1 w':World} {base:Nat} {v:Value} {rs:List (α×d.S)}
def Bld (d:Dt α) (E:TypeId) (w:World) (base:Nat) (v:Value) (rs:List (α×d.S)):Prop :=
 ∃ G,Ow d.enc E w base v rs/\Ows d w G rs/\G.Nodup /\ ∀ b∈G,base<=b/\v.ownBlock≠Ac b
theorem Bld.nil (d:Dt α) (E:TypeId) (w:World) (base:Nat):Bld d E w base (Aa Ab 0 0) []:=⟨[],Ow.nil _ _ _ _,.nil,List.nodup_nil,fun _ h=>by cases h⟩
theorem Bld.of_empty {v:Value} (h:Ow d.enc E w base v []):Bld d E w base v []:=⟨[],h,.nil,List.nodup_nil,fun _ h=>by cases h⟩
theorem Bld.below (h:Bld d E w base v rs) (hb:Below w w w'):Bld d E w' base v rs:=by
 obtain ⟨G,h1,h2,h3,h4⟩:=h;exact ⟨G,h1.below hb,h2.bel hb,h3,h4⟩
theorem Bld.ow (h:Bld d E w base v rs):Ow d.enc E w base v rs:=by
 obtain ⟨G,h1,_⟩:=h;exact h1
theorem Bld.rd (h:Bld d E w base v rs):RdL d w w v (rs.map (·.1)):=by
 obtain ⟨G,h1,h2,_⟩:=h;exact ⟨rs,rfl,Rd.of_own h1,h2.rd⟩
theorem Bld.push {v3:Value} {w3:World} {ts:List (α×d.S)} {F:List Nat} (h:Bld d E w base v rs) (hb:Below w w w1) (ht:Ows d w1 F ts) (hF:∀ b∈F,w<=b) (hn:F.Nodup) (aV:base<=w.heap.size)
  (ho:Ow d.enc E w3 base v3 (rs ++ ts)) (hg:w1.grownBy w3 v.ownBlock) (hv:v3.ownBlock=v.ownBlock \/ ∃ g,v3.ownBlock=Ac g/\w1.heap.size<=g):Bld d E w3 base v3 (rs ++ ts):=by
 obtain ⟨G,h1,h2,h3,h4⟩:=h;have hG:∀ b∈G,b<w:=h2.lt;have cS:∀ b∈F,b<w1:=ht.lt;have vR:∀ b∈F,v.ownBlock≠Ac b:=fun b hb he=>by
  rcases h1.form with ⟨rfl,_⟩ | ⟨g,cap,rfl,_,aA,_⟩
  ·simp [Value.ownBlock] at he
  ·have:g=b:=by simpa [Value.ownBlock] using he
   have:=hF b hb
   omega
 have hs:=hb.size;refine ⟨G ++ F,ho,?_,?_,?_⟩
 ·refine Ows.append ((h2.bel hb).keep hg.size fun b hbG=>hg.block b (by have:=hG b hbG;omega) ?_) (ht.keep hg.size fun b dA=>hg.block b (cS b dA) ?_)
  ·exact fun e=>(h4 b hbG).2 e.symm
  ·exact fun e=>vR b dA e.symm
 ·rw [Ax];refine ⟨h3,hn,fun a ha b aX e=>?_⟩
  have:=hG a ha
  have:=hF b aX
  omega
 ·intro b eE;rcases Bi.1 eE with eE | eE
  ·refine ⟨(h4 b eE).1,?_⟩;rcases hv with hv | ⟨g,hv,aA⟩
   ·rw [hv];exact (h4 b eE).2
   ·rw [hv];intro e
    have:=hG b eE
    exact Amg
  ·refine ⟨by have:=hF b eE;omega,?_⟩;rcases hv with hv | ⟨g,hv,aA⟩
   ·rw [hv];exact vR b eE
   ·rw [hv];intro e
    have:=cS b eE
    exact Amg
theorem Bld.owl (h:Bld d E w base v rs) {l:List α} (hl:rs.map (·.1)=l):∃ F,OwL d w F v l /\ ∀ b∈F,base<=b:=by
 obtain ⟨G,h1,h2,h3,h4⟩:=h;obtain ⟨h5,h6⟩:=Hw.of_ow h1;refine ⟨_,⟨rs,_,G,hl,h5,h2,rfl,?_⟩,?_⟩
 ·exact Al8
 ·intro b hb;rcases Bi.1 hb with hb | hb
  ·exact h6 b hb
  ·exact (h4 b hb).1
theorem Bld.lay {g:Nat} {rs:List (α×d.S)} {w2:World} {F G:List Nat} {r:α×d.S} (h1:Ows d w G rs) (h3:G.Nodup) (h4:∀ b∈G,g<b) (hb:Below w w w1) (hr:d.ow w1 F r.1 r.2) (hF:∀ b∈F,w<=b) (hg:g<w)
  (qG:w1.grownBy w2 (Ac g)):Ows d w2 (G ++ F) (rs ++ [r])/\(G ++ F).Nodup /\ ∀ b∈G ++ F,g<b:=by
 have hG:∀ b∈G,b<w:=h1.lt;have hs:=hb.size;refine ⟨Ows.append ((h1.bel hb).keep qG.size fun b hbG=>qG.block b (by have:=hG b hbG;omega) ?_) ((Ows.one hr).keep qG.size fun b dA=>qG.block b (d.ow_lt hr b dA) ?_),?_,?_⟩
 ·intro e
  have:=h4 b hbG
  exact Amg
 ·intro e
  have:=hF b dA
  exact Amg
 ·rw [Ax];refine ⟨h3,d.ow_nodup hr,fun a ha b aX e=>?_⟩
  have:=hG a ha
  have:=hF b aX
  omega
 ·intro b eE;rcases Bi.1 eE with eE | eE
  ·exact h4 b eE
  ·have:=hF b eE
   omega
end
theorem J6 {F G:List Nat} {a b c d:Nat} (h:∀ x∈F,a<=x/\x<b) (k:∀ x∈G,c<=x/\x<d) (aC:b<=c\/d<=a):∀ x∈F,x∉G:=by
 intro x hx hy
 have:=h x hx
 have:=k x hy
 omega
theorem Kh {F:List Nat} {a b:Nat} (h:∀ x∈F,a<=x) (k:∀ x∈F,x<b):∀ x∈F,a<=x/\x<b:=fun x hx=>⟨h x hx,k x hx⟩
abbrev slV {α:Type} (_:α) (s:Sl):Value:=.slice s.a s.n s.c
section
variable {α:Type} {d:Dt α} {w w':World} {b o n c j:Nat} {rs:List (α×d.S)} {G1 Fx G2:List Nat} {x y:α} {s:d.S}
structure Foc (d:Dt α) (w:World) (b o n c:Nat) (rs:List (α×d.S)) (j:Nat) (G1 Fx G2:List Nat) (x:α) (s:d.S):Prop where
 rd:Rd d.enc w w (.slice (some ⟨b,o,none⟩) n c) (rs.set j (x,s))
 free:∀ i,w.frozen? ⟨b,i,none⟩=false
 left:Ows d w G1 (rs.take j)
 here:d.ow w Fx x s
 right:Ows d w G2 (rs.drop (j+1))
 lt:j<rs.length
 nodup:([b] ++ (G1 ++ (Fx ++ G2))).Nodup
 blk:b<w
theorem Foc.apart (h:Foc d w b o n c rs j G1 Fx G2 x s):(b∉G1/\b∉Fx/\b∉G2)/\(∀ a∈G1,a∉Fx)/\(∀ a∈G2,a∉Fx):=by
 have h1:=h.nodup;simp only [List.cons_append,List.nil_append,List.nodup_cons,Bi,not_or,Ax] at h1;obtain ⟨⟨a1,a2,a3⟩,_,⟨_,_,a4⟩,a5⟩:=h1;exact ⟨⟨a1,a2,a3⟩,fun a ha hx=>a5 a ha a (.inl hx) rfl,fun a ha hx=>a4 a hx a ha rfl⟩
theorem Foc.cells (h:Foc d w b o n c rs j G1 Fx G2 x s):∀ i u,(d.enc.cells (x,s))[i]? = Ac u->w.cell? ⟨b,o+j * d.enc.sz+i,Ab⟩=Ac u:=by
 intro i u hu;obtain ⟨A',c',hv,_,hA⟩:=h.rd;simp only [Value.slice.injEq] at hv;obtain ⟨rfl,_,_⟩:=hv;have hl:j<(rs.set j (x,s)).length:=by rw [Bh];exact h.lt
 obtain ⟨b',o',he,_,hc⟩:=hA Bl;simp only [Option.some.injEq,Addr.mk.injEq,and_true] at he;obtain ⟨rfl,rfl⟩:=he;exact hc j hl i u (by rw [List.getElem_set_self];exact hu)
theorem Foc.put (h:Foc d w b o n c rs j G1 Fx G2 x s) (y:α) (off:Nat) (us:List Value) (hoff:off+us.length<=d.enc.sz)
  (cF:∀ i (hi:i<us.length),(d.enc.cells (y,s))[off+i]? = Ac us[i]) (fS:∀ i,i<d.enc.sz->(i<off\/off+us.length<=i)->(d.enc.cells (y,s))[i]? = (d.enc.cells (x,s))[i]?)
  (hy:∀ W,d.ow W Fx x s->d.ow W Fx y s):Foc d (Ie w b (o+j * d.enc.sz+off) us) b o n c rs j G1 Fx G2 y s/\Chg [b] w (Ie w b (o+j * d.enc.sz+off) us):=by
 have hc:=I6 us w b (o+j * d.enc.sz+off);obtain ⟨⟨a1,a2,a3⟩,_,_⟩:=h.apart;refine ⟨⟨?_,fun i=>by rw [I7];exact h.free i,h.left.chg hc ?_,hy _ (Dt.ow_chg d h.here hc ?_),h.right.chg hc ?_,h.lt,h.nodup,by rw [Jz];exact h.blk⟩,hc⟩
 ·have hl:j<(rs.set j (x,s)).length:=by rw [Bh];exact h.lt
  have:=h.rd.part j hl (y,s) off us hoff cF (by rw [List.getElem_set_self];exact fS)
  rw [List.set_set] at this;rw [Jz];exact this
 all_goals
  intro x hx hb;simp only [Au] at hb;subst hb;first | exact a1 hx | exact a2 hx | exact a3 hx
theorem Foc.sub (h:Foc d w b o n c rs j G1 Fx G2 x s) (hc:Chg Fx w w') (hy:d.ow w' Fx y s) (hcells:d.enc.cells (y,s)=d.enc.cells (x,s)):Foc d w' b o n c rs j G1 Fx G2 y s:=by
 obtain ⟨⟨a1,a2,a3⟩,a4,a5⟩:=h.apart;refine ⟨?_,fun i=>by rw [hc.frozen (p:=⟨b,i,Ab⟩) h.blk a2];exact h.free i,h.left.chg hc a4,hy,h.right.chg hc a5,h.lt,h.nodup,Ai h.blk hc.size⟩;have hl:j<(rs.set j (x,s)).length:=by rw [Bh];exact h.lt
 have h1:=h.rd.keepF (w':=w') hc.size (fun b' aX i=>by
  have:=H9 _ _ _ aX
  have:b=b':=by simpa [Value.ownBlock] using this
  subst this;exact hc.cell (p:=⟨b,i,Ab⟩) h.blk a2)
 have h2:=h1.same j hl (y,s) (by rw [List.getElem_set_self];exact hcells);rwa [List.set_set] at h2
theorem Foc.start {F1 F2:List Nat} (hr:Rd d.enc w w (Aa (Ac ⟨b,o,Ab⟩) n c) rs) (hf:∀ i,w.frozen? ⟨b,i,Ab⟩=false) (h1:Ows d w F1 (rs.take j)) (h2:Ows d w F2 (rs.drop j)) (hj:j<rs.length) (hn:([b] ++ (F1 ++ F2)).Nodup) (hb:b<w) :
  ∃ Fx G2,F2=Fx ++ G2/\Foc d w b o n c rs j F1 Fx G2 rs[j].1 rs[j].2:=by
 rw [<-List.getElem_cons_drop hj] at h2;obtain ⟨Fx,G2,rfl,h3,h4⟩:=h2.head;refine ⟨Fx,G2,rfl,⟨?_,hf,h1,h3,h4,hj,hn,hb⟩⟩;have:rs.set j (rs[j].1,rs[j].2)=rs:=List.set_getElem_self hj;rw [this];exact hr
end
theorem OwL.foc {α:Type} {d:Dt α} {w:World} {F:List Nat} {A:Option Addr} {n c:Nat} {l:List α} (h:OwL d w F (Aa A n c) l) {j:Nat} (hj:j<l.length) :
  ∃ (b o:Nat) (rs:List (α×d.S)) (s:d.S) (G1 Fx G2:List Nat),A=Ac ⟨b,o,Ab⟩/\F=[b] ++ (G1 ++ (Fx ++ G2))/\rs.map (·.1)=l/\Foc d w b o n c rs j G1 Fx G2 l[j] s:=by
 obtain ⟨rs,H,G,hm,hh,ho,rfl,hn⟩:=h;subst hm;rw [Ar] at hj;obtain ⟨b,o,rfl,rfl,hb,hf⟩:=hh.at_ Bl;obtain ⟨F1,F2,rfl,h1,h2⟩:=ho.split j (Nat.le_of_lt hj);obtain ⟨Fx,G2,rfl,h3⟩:=Foc.start hh.rd hf h1 h2 hj hn hb;refine ⟨b,o,rs,rs[j].2,F1,Fx,G2,rfl,rfl,rfl,?_⟩;rw [List.getElem_map];exact h3
theorem Foc.owl {α:Type} {d:Dt α} {w:World} {b o n c j:Nat} {rs:List (α×d.S)} {G1 Fx G2:List Nat} {x:α} {s:d.S} {l:List α} (h:Foc d w b o n c rs j G1 Fx G2 x s) (hm:rs.map (·.1)=l) :
  OwL d w ([b] ++ (G1 ++ (Fx ++ G2))) (Aa (Ac ⟨b,o,Ab⟩) n c) (l.set j x):=by
 refine ⟨rs.set j (x,s),[b],G1 ++ (Fx ++ G2),by rw [List.map_set,hm],⟨h.rd,?_,?_⟩,?_,rfl,h.nodup⟩
 ·unfold El;rw [if_neg (by rw [Bh];have:=h.lt;omega)];rfl
 ·intro g hg i;have:g=b:=by simpa using hg
  subst this;exact h.free i
 ·have e:rs.set j (x,s)=rs.take j ++ (x,s) :: rs.drop (j+1):=by rw [List.set_eq_take_append_cons_drop,if_pos h.lt]
  rw [e];exact h.left.append (.cons h.here h.right)
theorem O7 {b x:Nat} {G:List Nat} (h:x∈[b]):x∈[b] ++ G:=Bf _ h
theorem Uq {b x:Nat} {G1 Fx G2:List Nat} (h:x∈Fx):x∈[b] ++ (G1 ++ (Fx ++ G2)):=Be _ (Be _ (Bf _ h))
theorem Mm {F G:List Nat} (h:(F ++ G).Nodup):(∀ x∈F,x∉G)/\(∀ x∈G,x∉F):=by
 rw [Ax] at h;exact ⟨fun x hx hy=>h.2.2 x hx x hy rfl,fun x hx hy=>h.2.2 x hy x hx rfl⟩
theorem M9 {α:Type} (rs:List α) (z:α) (k n:Nat) {y:α} (h:rs.length=k) (aA:k<n):(rs ++ List.replicate (n - k) z).set k y=(rs ++ [y]) ++ List.replicate (n - (k+1)) z:=by
 rw [List.set_append_right _ _ Bl,h,Nat.sub_self,show n - k=(n - (k+1))+1 from Bl,List.replicate_succ,List.set_cons_zero,List.append_assoc,List.singleton_append]
def Mu {α:Type} (d:Dt α) (F:List Nat) (y:α) (s:d.S) (r:Int) (w:World) (en:Ending) (w':World):Prop:=en = .returned (J U r)/\d.ow w' F y s/\Chg F w w'
def Ek {α:Type} (cnt:α->Nat) (l:List α):Nat:=l.length+(l.map cnt).sum
theorem Dm {α:Type} {cnt:α->Nat} : ∀ {l:List α} {x:α},x∈l->cnt x+1<=Ek cnt l
 | y :: l,x,h=>by
  unfold Ek;simp only [List.length_cons,List.map_cons,List.sum_cons];rcases List.mem_cons.1 h with rfl | h
  ·omega
  ·have:=Dm (cnt:=cnt) h
   unfold Ek at this;omega
theorem Ck {α:Type} (cnt:α->Nat) (l:List α):l.length<=Ek cnt l:=Nat.le_add_right _ _
theorem Ew {α:Type} (f:α->Nat) (l:List α) (k:Nat) (h:k<l.length):((l.take (k+1)).map f).sum=((l.take k).map f).sum+f l[k]:=by
 rw [Cp l k h,List.map_append,List.sum_append];simp
theorem Aau {α:Type} (f:α->Nat) (l:List α) (k:Nat):((l.take k).map f).sum<=(l.map f).sum:=by
 conv=>rhs;rw [<-List.take_append_drop k l,List.map_append,List.sum_append]
 omega
theorem Fh {α:Type} {cnt:α->Nat} (h:∀ x,cnt x=0):∀ l:List α,Ek cnt l=l.length
 | []=>rfl
 | x :: l=>by
  have:=Fh h l
  unfold Ek at *
  simp only [List.length_cons,List.map_cons,List.sum_cons,h x] at *
  omega
def wfL {α:Type} (wf:α->Prop) (l:List α):Prop:=l.length<=9223372036854775807 /\ ∀ x∈l,wf x
def C9 {α:Type} (num:α->Nat) (l:List α):Nat:=(l.map num).sum
theorem Et {α:Type} {num cnt:α->Nat} {K:Nat} (h:∀ x,num x<=K * (cnt x+1)):∀ l:List α,C9 num l<=K * Ek cnt l
 | []=>by simp [C9]
 | x :: l=>by
  have h1:=Et h l;have h2:=h x;unfold C9 Ek at *
  simp only [List.length_cons,List.map_cons,List.sum_cons];rw [Nat.mul_add] at h1 h2 ⊢;rw [Nat.mul_succ,Nat.mul_add];omega
theorem Gd {α:Type} (num:α->Nat) (l:List α) (k:Nat):C9 num (l.take k)<=C9 num l:=Aau num l k
def mkL {α:Type} (mk:Int->α->α) (num:α->Nat):Int->List α->List α
 | _,[]=>[]
 | k,x :: l=>mk k x :: mkL mk num (k+num x) l
section
variable {α:Type} (mk:Int->α->α) (num:α->Nat)
theorem Em:∀ (k:Int) (l:List α),(mkL mk num k l).length=l.length
 | _,[]=>rfl
 | k,x :: l=>by simp [mkL,Em _ l]
theorem Aav:∀ (k:Int) (l:List α) (x:α),mkL mk num k (l ++ [x])=mkL mk num k l ++ [mk (k+C9 num l) x]
 | k,[],x=>by simp [mkL,C9]
 | k,y :: l,x=>by
  simp only [mkL,List.cons_append];rw [Aav _ l x];have e:k+(num y:Int)+(C9 num l:Nat)=k+(C9 num (y :: l):Nat):=by
   simp only [C9,List.map_cons,List.sum_cons];push_cast;omega
  rw [e]
theorem Jt (k:Int) (l:List α) (j:Nat) (h:j<l.length) (h':j<(mkL mk num k l).length):(mkL mk num k l)[j]=mk (k+C9 num (l.take j)) l[j]:=by
 induction l generalizing k j with
 | nil=>exact absurd h Bo
 | cons y l ih =>
  cases j with
  | zero=>simp [mkL,C9]
  | succ j =>
   simp only [mkL,List.getElem_cons_succ,List.take_succ_cons];rw [ih (k+num y) j (by simpa using h)];congr 1;simp only [C9,List.map_cons,List.sum_cons];push_cast;omega
theorem O8 (k:Int) (l:List α) (j:Nat) (h:j<l.length):(mkL mk num k (l.take j) ++ l.drop j).set j (mk (k+C9 num (l.take j)) l[j])=mkL mk num k (l.take (j+1)) ++ l.drop (j+1):=by
 have hl:(mkL mk num k (l.take j)).length=j:=by rw [Em,Az,Nat.min_eq_left (Nat.le_of_lt h)]
 rw [List.set_append_right _ _ Bl,hl,Nat.sub_self,Cp l j h,Aav,List.append_assoc,<-List.getElem_cons_drop h,List.set_cons_zero,List.singleton_append]
theorem Na (k:Int) (l:List α) (j:Nat) (h:j<l.length) {h':j<(mkL mk num k (l.take j) ++ l.drop j).length} : (mkL mk num k (l.take j) ++ l.drop j)[j]=l[j]:=by
 have hl:(mkL mk num k (l.take j)).length=j:=by rw [Em,Az,Nat.min_eq_left (Nat.le_of_lt h)]
 rw [List.getElem_append_right Bl];simp [hl]
end
theorem Rx (p:Plan) (ve:Value) (w:World) (h:Rd He w w ve p.edges) (hm:E5 p=true) :
  Calls Am 200 #[G9 p ve] w fun e w'=>e = .returned (J U (Cr p))/\Below w w w':=by
 have Hm:=Br hm;obtain ⟨t1,t2⟩:=Er hm;have aE:=Fw hm;have hlen2:p.edges.length<=2000000:=Bl;have hlI:¬ (30:Int)<(p.edges.length:Int):=Bl;have hlB:decide ((30:Int)<(p.edges.length:Int))=false:=by simpa using hlI
 obtain ⟨A,c,rfl,-⟩:=id h;have cI:=h.cap;unfold G9;simp only [E5,Bool.and_eq_true] at hm;obtain ⟨⟨⟨⟨h1,-⟩,h3⟩,h4⟩,h5⟩:=hm;go_enter func200,ntmps200;go_wp2_with (go_at_call 72;refine (Cm _ _ _ _).mono ?_;rintro e w' ⟨rfl,rfl⟩)
 go_loopw [40] (fun i wr=>∃ k:Nat,k<=p.edges.length/\i = J U k/\Hid (∀ j (hj:j<p.edges.length),j<k->Ji p.tasks p.edges[j]=true)/\Below (Es 43 p (Aa A p.edges.length c) w) (Es 43 p (Aa A p.edges.length c) w) wr) (fun i _=>p.edges.length - (intOf i).toNat);case atStart=>exact ⟨0,Ag _,rfl,fun j hj h0=>absurd h0 Bl,Bs _ _⟩
 case round =>
  obtain ⟨k,hk,rfl,aY,hb⟩:=hrel;obtain ⟨x0,x1,x2,x3,x4,hs,bV⟩:=Gh hb;have bE:w.heap.size<wr.heap.size:=Bl;by_cases aA:k<p.edges.length
  ·obtain ⟨b,o,rfl,aJ,c0,c1⟩:=(h.below bV).edge aA;have uA:=hb.alloc hb.size (.cells #[J U p.edges[k].fr,J U p.edges[k].to] 206);have hbwa:=bV.alloc bV.size (.cells #[J U p.edges[k].fr,J U p.edges[k].to] 206);have bad:Ji p.tasks p.edges[k]=false->Hid (Cr p=2):=fun hf=>Oj Hm.out (fun cF=>by
    rw [cF _ (Aw aA)] at hf;cases hf)
   cases g1:inB p.edges[k].fr 0 (p.tasks - 1)
   ·have H:=bad (by simp [Ji,g1]);exact Ale
   cases g2:inB p.edges[k].to 0 (p.tasks - 1)
   ·have H:=bad (by simp [Ji,g2]);exact Ale
   ·have S:Hid (∀ j (hj:j<p.edges.length),j<k+1->Ji p.tasks p.edges[j]=true):=Amy
    clear bad;go_wp2_with (go_at_call 72;refine (Cm _ _ _ _).mono ?_;rintro e w' ⟨rfl,rfl⟩)
    exact ⟨⟨k+1,Bl,by go_num,S,uA⟩,clM⟩
  ·have cF:Hid (Hu p):=fun e he=>by
    exact Anm
   clear aY hk;go_wp2;go_loopw [64] (fun i wr=>∃ k:Nat,k<=p.edges.length/\i = J U k/\Hid ((p.edges.take k).Nodup)/\Below (Es 43 p (Aa A p.edges.length c) w) (Es 43 p (Aa A p.edges.length c) w) wr) (fun i _=>p.edges.length - (intOf i).toNat);case atStart=>exact ⟨0,Ag _,rfl,by show (p.edges.take 0).Nodup;simp,hb⟩
   case round =>
    clear hb x0 x1 x2 x3 x4 hs bV bE;obtain ⟨k,hk,rfl,aY,hb⟩:=hrel;obtain ⟨x0,x1,x2,x3,x4,hs,bV⟩:=Gh hb;have bE:w.heap.size<wr.heap.size:=Bl;have nZ:k<=c:=Bl;by_cases aA:k<p.edges.length
    ·obtain ⟨b,o,rfl,aJ,c0,c1⟩:=(h.below bV).edge aA;have uA:=hb.alloc hb.size (.cells #[J U p.edges[k].fr,J U p.edges[k].to] 206);have hbwa:=bV.alloc bV.size (.cells #[J U p.edges[k].fr,J U p.edges[k].to] 206);have n0:(wr.alloc (.cells #[J U p.edges[k].fr,J U p.edges[k].to] 206)).cell? ⟨wr,0,Ab⟩=Ac (J U p.edges[k].fr):=by go_simp
     have n1:(wr.alloc (.cells #[J U p.edges[k].fr,J U p.edges[k].to] 206)).cell? ⟨wr,1,Ab⟩=Ac (J U p.edges[k].to):=by go_simp
     have x4':(wr.alloc (.cells #[J U p.edges[k].fr,J U p.edges[k].to] 206)).cell? ⟨w,4,Ab⟩=Ac (Aa (Ac ⟨b,o,Ab⟩) p.edges.length c):=by
      rw [World.cell?_alloc_lt _ _ _ (by simp;omega)];exact x4
     have z1:wr.heap.size<(wr.alloc (.cells #[J U p.edges[k].fr,J U p.edges[k].to] 206)).heap.size:=Bo;have z2:w.heap.size<(wr.alloc (.cells #[J U p.edges[k].fr,J U p.edges[k].to] 206)).heap.size:=by simp;omega
     have nC:=(Rd.take (k:=k) (c':=c) (h.below bV) Bl nZ)
     have aV:Below w w (wr.alloc (.cells #[J U p.edges[k].fr,J U p.edges[k].to] 206)):=hbwa;have hrd2:Rd He (wr.alloc (.cells #[J U p.edges[k].fr,J U p.edges[k].to] 206)) w (Aa (Ac ⟨b,o,Ab⟩) k c) (p.edges.take k):=Rd.take (h.below aV) Bl c nZ;have aW:(p.edges.take k).length<=2000000:=by simp;omega
     clear nC;by_cases jK:p.edges[k]∈p.edges.take k
     ·have H:Hid (Cr p=3):=N7 Hm.out cF.out (fun bP=>by
       have h1:(p.edges.take (k+1)).Nodup:=bP.sublist (List.take_sublist _ _);rw [Cp _ k aA] at h1;exact (Nn.1 h1).2 jK)
      have hmb:decide (p.edges[k]∈p.edges.take k)=true:=by simpa using jK
      clear jK;go_wp2;generalize wr.alloc (.cells #[J U p.edges[k].fr,J U p.edges[k].to] 206)=W2 at *
      have aM:=Cw W2;refine Bz Bm Bm ?_;repeat (go_big_quiet_step ((go_at_call 270;rename_i x;have h1:=M8 _ (p.edges.take k) p.edges[k] x.1 aW ((hrd2.below (x.2.mono aV.size)).more (Ah aV.size x.2.size));rw [hmb] at h1;exact Fu h1)))
      refine Ak ?_;rintro _ ⟨⟨w1,aG⟩,rfl⟩;clear aM;go_wp2;go_ret;exact ⟨Cy H.out.symm,Bv aV aG⟩
     ·have S:Hid ((p.edges.take (k+1)).Nodup):=by
       show (p.edges.take (k+1)).Nodup;rw [Cp _ k aA];exact Nn.2 ⟨aY.out,jK⟩
      have hmb:decide (p.edges[k]∈p.edges.take k)=false:=by simpa using jK
      clear jK;go_wp2;generalize wr.alloc (.cells #[J U p.edges[k].fr,J U p.edges[k].to] 206)=W2 at *
      have aM:=Cw W2;refine Bz Bm Bm ?_;repeat (go_big_quiet_step ((go_at_call 270;rename_i x;have h1:=M8 _ (p.edges.take k) p.edges[k] x.1 aW ((hrd2.below (x.2.mono aV.size)).more (Ah aV.size x.2.size));rw [hmb] at h1;exact Fu h1)))
      refine Ak ?_;rintro _ ⟨⟨w1,aG⟩,rfl⟩;clear aM;go_wp2;exact ⟨⟨k+1,Bl,by go_num,S,uA.trans (aG.mono uA.size)⟩,clM⟩
    ·have bP:Hid p.edges.Nodup:=by
      have h1:=aY.out;rw [Bg Bl] at h1;exact h1
     clear aY hk nZ;go_wp2_with fail
     refine (Ae6 p (Aa A p.edges.length c) _ Hm.out cF.out ((h.below bV).more bV.size)).mono ?_;rintro e w1 ⟨v1,rfl,o1,aG⟩;have hbw1:=Bv bV aG;obtain ⟨T,hT⟩:=Int.eq_ofNat_of_zero_le (show 0<=p.tasks by omega);have HT:=Br hT;have nE:p.tasks.toNat=T:=Bl;rw [nE] at o1;have tH:1<=T:=Bl;have rV:T<=12:=Bl;have pA:=Pg.Ahp (Ea p) T (by rw [<-nE];exact (Ml cF.out).1) (by rw [<-nE];exact (Ml cF.out).2);have kL:(Pg.Lf (Ea p) T (List.replicate T 0)).length=T:=by rw [Pg.Lx,List.length_replicate]
     have sF:=Br (show Ru p ↔ ∃ t,t<T/\Pg.Reach (Ea p) t t by unfold Ru;rw [nE]);have tA:∀ x∈Pg.Lf (Ea p) T (List.replicate T 0),x<2 ^ T:=Pg.Acw T _ _ (by rw [<-nE];exact (Ml cF.out).2) (fun x hx=>by
      have:=List.eq_of_mem_replicate hx
      subst this;exact Nat.two_pow_pos T) T
     generalize Pg.Lf (Ea p) T (List.replicate T 0)=O at *
     have Hiff:=Br pA;have HOl:=Br kL;clear pA hT nE;rcases o1.form with ⟨_,e0⟩ | ⟨g,cap,rfl,_,sV,_,_,_,_⟩
     ·exfalso;rw [e0] at kL;simp at kL;omega
     rw [kL] at o1;rw [kL];clear kL;go_wp2;go_loop [79] (fun i=>∃ k:Nat,k<=T/\i = J U k/\Hid (∀ j,j<k->(O.getD j 0).testBit j=false)) (fun i=>T - (intOf i).toNat);case atStart=>exact ⟨0,Ag _,rfl,fun j hj=>absurd hj Bl⟩
     case round =>
      obtain ⟨k,hk,rfl,aY⟩:=hrel;by_cases aW:k<T
      ·have ck:=o1.nat (k:=k) (by rw [HOl.out];exact aW);have tW:k<O.length:=by rw [HOl.out];exact aW
       have hx:O[k]<9223372036854775808:=Ai (tA _ (Aw tW)) (Ah (Nat.pow_le_pow_right Bl rV) Bq);have hbt:=Agi O[k] k hx;have hg:Hid (O.getD k 0=O[k]):=by unfold Hid;rw [List.getD_eq_getElem?_getD,List.getElem?_eq_getElem tW];rfl
       cases aK:O[k].testBit k
       ·rw [aK] at hbt;have S:Hid (∀ j,j<k+1->(O.getD j 0).testBit j=false):=by
         intro j hj;by_cases e:j=k
         ·subst e;rw [hg.out];exact aK
         ·exact aY.out j Bl
        exact Ame
       ·rw [aK] at hbt;have H:Hid (Cr p=4):=N8 Hm.out cF.out bP.out (sF.out.2 ⟨k,aW,(Hiff.out k k).1 (by rw [hg.out];exact aK)⟩);go_wp2;go_ret;exact ⟨Cy H.out.symm,hbw1⟩
      ·have H:Hid (Cr p=0):=Dl.2 ⟨Hm.out,cF.out,bP.out,fun hc=>by
        obtain ⟨t,ht,hr⟩:=sF.out.1 hc;have h1:=(Hiff.out t t).2 hr;rw [aY.out t Bl] at h1;cases h1⟩
       go_wp2;go_ret;exact ⟨Cy H.out.symm,hbw1⟩
theorem Hz (p:Plan) (ve:Value) (w:World) (hl:p.edges.length<=2000000) (h:Rd He w w ve p.edges) :
  Calls Am 200 #[G9 p ve] w fun e w'=>e = .returned (J U (Cr p))/\Below w w w':=by
 cases hm:E5 p
 ·exact Qj p ve w hl h hm
 ·exact Rx p ve w h hm
theorem Yu (p:Plan) (ve:Value) (w:World) (hl:p.edges.length<=2000000) (h:Rd He w w ve p.edges) :
  Calls Am 176 #[G9 p ve] w (Qh p w):=by
 obtain ⟨A,c,rfl,-⟩:=id h;obtain ⟨i0,aQ,aU,aS,aR⟩:=info_parts Xn;have bG:∀ W,Below w w W->Rd He W W (Aa A p.edges.length c) p.edges:=fun W hW=>(h.below hW).more hW.size;unfold G9;go_enter func176,ntmps176;go_wp2_with (at_builtin;refine Ci _ He Bq rfl (.const (Aa Ab 0 0)) (.tmp 4) rfl underlying41 aQ aU aS aR rfl (v:=Aa Ab 0 0) (l:=[]) rfl (Ow.nil He 206 _ (w+2)) rfl (bG _ (((Bs _ _).alloc Bp _).alloc Bp _)) Bo Bl Bq Bo ?_;intro v1 w1 o1 g1 _;rw [List.nil_append] at o1;obtain ⟨A1,c1,rfl,-⟩:=id (Rd.of_own o1);have aG:=(Bs (w+2) _).grown g1 Bp (fun k hk=>by simp [Value.ownBlock] at hk<;>omega);clear g1;have q1:∀ b o,b<w.heap.size+2->w1.cell? ⟨b,o,Ab⟩=_:=fun b o h=>aG.cell (p:=⟨b,o,Ab⟩) h;have q2:∀ b o,b<w.heap.size+2->w1.frozen? ⟨b,o,Ab⟩=_:=fun b o h=>aG.frozen (p:=⟨b,o,Ab⟩) h;have hs:=aG.size;simp only [Bj] at hs)
 have hW:Below w w w1:=Below.trans (((Bs _ _).alloc Bp _).alloc Bp _) (aG.mono Bl);refine bodyPost_ret (v:=G9 p (Aa A1 p.edges.length c1)) ?_ rfl ?_
 ·simp [G9,results,results176,go_sem,q1]
 ·exact Ajx
theorem Yv (p:Plan) (ve:Value) (w:World) (hl:p.edges.length<=2000000) (h:Rd He w w ve p.edges) :
  Calls Am 178 #[G9 p ve] w (Qh p w):=by
 obtain ⟨A,c,rfl,-⟩:=id h;obtain ⟨i0,aQ,aU,aS,aR⟩:=info_parts Xn;have bG:∀ W,Below w w W->Rd He W W (Aa A p.edges.length c) p.edges:=fun W hW=>(h.below hW).more hW.size;unfold G9;go_enter func178,ntmps178;go_wp2_with (at_builtin;refine Ci _ He Bq rfl (.tmp 3) (.tmp 5) rfl underlying41 aQ aU aS aR rfl (v:=Aa (Ac ⟨w+1+1,0,Ab⟩) 0 0) (l:=[]) rfl ((Ow.empty He 206 _ Bo).more (base':=w.heap.size+2) Bl) rfl (bG _ ((((Bs _ _).alloc Bp _).alloc Bp _).alloc Bp _)) Bo Bl Bq Bo ?_;intro v1 w1 o1 g1 _;rw [List.nil_append] at o1;obtain ⟨A1,c1,rfl,-⟩:=id (Rd.of_own o1);have aG:=((Bs (w+2) _).alloc Bp _).grown g1 Bp (fun k hk=>by simp [Value.ownBlock] at hk<;>omega);clear g1;have q1:∀ b o,b<w.heap.size+2->w1.cell? ⟨b,o,Ab⟩=_:=fun b o h=>aG.cell (p:=⟨b,o,Ab⟩) h;have q2:∀ b o,b<w.heap.size+2->w1.frozen? ⟨b,o,Ab⟩=_:=fun b o h=>aG.frozen (p:=⟨b,o,Ab⟩) h;have hs:=aG.size;simp only [Bj] at hs)
 have hW:Below w w w1:=Below.trans (((Bs _ _).alloc Bp _).alloc Bp _) (aG.mono Bl);refine bodyPost_ret (v:=G9 p (Aa A1 p.edges.length c1)) ?_ rfl ?_
 ·simp [G9,results,results178,go_sem,q1]
 ·exact Ajx
theorem So (p:Plan) (ve:Value) (w:World) (hl:p.edges.length<=2000000) (h:Rd He w w ve p.edges) :
  Calls Am 287 #[G9 p ve] w fun e w'=>e = .returned (.bool (!E5 p))/\Below w w w':=by
 obtain ⟨A,c,rfl,-⟩:=id h;unfold G9;cases h1:inB p.tasks 1 12
 ·have H:=Br (show (!E5 p)=true by simp [E5,h1]);exact Ajp
 by_cases h2:30<p.edges.length
 ·have H:=Br (show (!E5 p)=true by simp [E5,show ¬ p.edges.length<=30 by omega]);have h2':decide ((30:Int)<(p.edges.length:Int))=true:=by simp;omega
  have h2'':(30:Int)<(p.edges.length:Int):=Bl;go_enter func287,ntmps287;go_wp2_with (go_at_call 90;refine (Cd _ _ _ _).mono ?_;rintro e w' ⟨rfl,rfl⟩)
  go_ret;exact ⟨Bx H.out.symm,Bu⟩
 have h2':decide ((30:Int)<(p.edges.length:Int))=false:=by simp;omega
 have h2'':¬ (30:Int)<(p.edges.length:Int):=Bl;cases h3:inB p.prio 0 9
 ·have H:=Br (show (!E5 p)=true by simp [E5,h3]);exact Ajp
 cases h4:inB p.most 1 5
 ·have H:=Br (show (!E5 p)=true by simp [E5,h4]);exact Ajp
 have H:Hid ((!inB p.wait 1 20) = !E5 p):=by
  show (!inB p.wait 1 20) = !E5 p;simp [E5,h1,h3,h4,show p.edges.length<=30 by omega]
 go_enter func287,ntmps287;go_wp2_with (go_at_call 90;refine (Cd _ _ _ _).mono ?_;rintro e w' ⟨rfl,rfl⟩)
 go_ret;exact ⟨Bx H.out,Bu⟩
theorem J7 (p:Plan) (ve:Value) (w:World) (hl:p.edges.length<=2000000) (h:Rd He w w ve p.edges) :
  Calls Am 237 #[G9 p ve] w fun e w'=>e = .returned (J U (Cr p))/\Below w w w':=by
 obtain ⟨A,c,rfl,-⟩:=id h;have aN:=K0 43 p (Aa A p.edges.length c) w;cases hm:E5 p
 ·have H:=Br (Oi hm);unfold G9;go_enter func237,ntmps237;go_wp2_with fail
  refine (So p (Aa A p.edges.length c) _ hl ((h.below aN).more aN.size)).mono ?_;rintro e w1 ⟨rfl,aG⟩;rw [hm];go_wp2;go_ret;exact ⟨Cy H.out.symm,Bv aN aG⟩
 ·have Hm:=Br hm;obtain ⟨t1,t2⟩:=Er hm;have aE:=Fw hm;unfold G9;go_enter func237,ntmps237;go_wp2_with fail
  refine (So p (Aa A p.edges.length c) _ hl ((h.below aN).more aN.size)).mono ?_;rintro e w1 ⟨rfl,aG⟩;rw [hm];clear hm;go_wp2;go_loopw [3] (fun i wr=>∃ k:Nat,k<=p.edges.length/\i = J U k/\Hid (∀ j (hj:j<p.edges.length),j<k->Ji p.tasks p.edges[j]=true)/\Below (Es 43 p (Aa A p.edges.length c) w) (Es 43 p (Aa A p.edges.length c) w) wr) (fun i _=>p.edges.length - (intOf i).toNat);case atStart=>exact ⟨0,Ag _,rfl,fun j hj h0=>absurd h0 Bl,aG⟩
  case round =>
   obtain ⟨k,hk,rfl,aY,hb⟩:=hrel;obtain ⟨x0,x1,x2,x3,x4,hs,bV⟩:=Gh hb;by_cases aA:k<p.edges.length
   ·obtain ⟨b,o,rfl,aJ,c0,c1⟩:=(h.below bV).edge aA;have aB:(k:Int)<(p.edges.length:Int):=Bl;have aM:=Cw wr;have bE:w.heap.size<wr.heap.size:=Bl;have hbb1:b<wr:=Bl;have e1:U.wrap (p.tasks - 1)=p.tasks - 1:=IntWalk.i64_in _ Bl;have bad:Ji p.tasks p.edges[k]=false->Hid (Cr p=2):=fun hf=>Oj Hm.out (fun cF=>by
     rw [cF _ (Aw aA)] at hf;cases hf)
    cases g1:inB p.edges[k].fr 0 (p.tasks - 1)
    ·have H:=bad (by simp [Ji,g1]);exact Aka
    cases g2:inB p.edges[k].to 0 (p.tasks - 1)
    ·have H:=bad (by simp [Ji,g2]);exact Aka
    ·have S:Hid (∀ j (hj:j<p.edges.length),j<k+1->Ji p.tasks p.edges[j]=true):=Amy
     clear bad;go_wp2;refine Bz Bm Bm ?_;repeat (go_big_quiet_step ((go_at_call 90;exact Da (fun u=>Cd _ _ _ u.1))))
     refine Ak ?_;rintro _ ⟨⟨w2,aK⟩,rfl⟩;clear aM;go_wp2;exact ⟨⟨k+1,Bl,by go_num,S,hb.trans (aK.mono hb.size)⟩,clM⟩
   ·have cF:Hid (Hu p):=fun e he=>by
     exact Anm
    have aB:¬ (k:Int)<(p.edges.length:Int):=Bl;have bE:w.heap.size<wr.heap.size:=Bl;clear aY hk aG;go_wp2;clear aA aB;go_loopw [4] (fun i wr=>∃ k:Nat,k<=p.edges.length/\i = J U k/\Hid ((p.edges.take k).Nodup)/\Below (Es 43 p (Aa A p.edges.length c) w) (Es 43 p (Aa A p.edges.length c) w) wr) (fun i _=>p.edges.length - (intOf i).toNat);case atStart=>exact ⟨0,Ag _,rfl,by show (p.edges.take 0).Nodup;simp,hb⟩
    case round =>
     clear hb x0 x1 x2 x3 x4 hs bV bE;obtain ⟨k,hk,rfl,aY,hb⟩:=hrel;obtain ⟨x0,x1,x2,x3,x4,hs,bV⟩:=Gh hb;by_cases aA:k<p.edges.length
     ·have aB:(k:Int)<(p.edges.length:Int):=Bl;obtain ⟨b,o,rfl,-,-,-⟩:=(h.below bV).edge aA;obtain ⟨wo,rfl⟩:∃ wo:World,wo=wr:=⟨_,rfl⟩
      go_wp2;go_loopw [5] (fun i wr=>∃ m:Nat,m<=k/\i = J U m/\Hid (∀ j (hj:j<p.edges.length),j<m -> ¬ p.edges[k]=p.edges[j])/\Below (Es 43 p (Aa (Ac ⟨b,o,Ab⟩) p.edges.length c) w) (Es 43 p (Aa (Ac ⟨b,o,Ab⟩) p.edges.length c) w) wr) (fun i _=>k - (intOf i).toNat);case atStart=>exact ⟨0,Ag _,rfl,fun j hj h0=>absurd h0 Bl,hb⟩
      case round =>
       clear hb x0 x1 x2 x3 x4 hs bV;obtain ⟨m,hm,rfl,cQ,hb⟩:=hrel;obtain ⟨x0,x1,x2,x3,x4,hs,bV⟩:=Gh hb;by_cases kN:m<k
       ·have qP:(m:Int)<(k:Int):=Bl;have hml:m<p.edges.length:=Bl;have hmlI:(m:Int)<(p.edges.length:Int):=Bl;obtain ⟨b1,o1,he1,-,c0,c1⟩:=(h.below bV).edge aA;obtain ⟨b2,o2,he2,-,d0,d1⟩:=(h.below bV).edge hml;simp only [Option.some.injEq,Addr.mk.injEq,and_true] at he1 he2;obtain ⟨rfl,rfl⟩:=he1;obtain ⟨rfl,rfl⟩:=he2;by_cases hx:p.edges[k]=p.edges[m]
        ·have H:Hid (Cr p=3):=N7 Hm.out cF.out (fun bP=>by
          have h1:(p.edges.take (k+1)).Nodup:=bP.sublist (List.take_sublist _ _);rw [Cp _ k aA] at h1;refine (Nn.1 h1).2 ?_;rw [hx];have:(p.edges.take k)[m]'(by simp;omega)=p.edges[m]:=List.getElem_take;rw [<-this];exact Aw _)
         have e0:p.edges[m].fr=p.edges[k].fr:=by rw [hx]
         have e1:p.edges[m].to=p.edges[k].to:=by rw [hx]
         rw [e0] at d0;rw [e1] at d1;clear hx e0 e1;go_wp2;go_quiet (fail);go_wp2;go_ret;exact ⟨Cy H.out.symm,Dq bV _⟩
        ·have S:Hid (∀ j (hj:j<p.edges.length),j<m+1 -> ¬ p.edges[k]=p.edges[j]):=by
          intro j hj hjm;by_cases e:j=m
          ·subst e;exact hx
          ·exact cQ.out j hj Bl
         have dR:¬ (p.edges[k].fr=p.edges[m].fr/\p.edges[k].to=p.edges[m].to):=fun ⟨e0,e1⟩=>hx (by cases hlk:p.edges[k];cases hlm:p.edges[m];simp_all);clear hx;by_cases e0:p.edges[k].fr=p.edges[m].fr
         ·have e1:¬ p.edges[k].to=p.edges[m].to:=fun e=>dR ⟨e0,e⟩;have e1':(p.edges[k].to == p.edges[m].to)=false:=beq_eq_false_iff_ne.2 e1;rw [<-e0] at d0;clear dR e0;exact Amx
         ·have e0':(p.edges[k].fr == p.edges[m].fr)=false:=beq_eq_false_iff_ne.2 e0;clear dR;exact Amx
       ·have qP:¬ (m:Int)<(k:Int):=Bl;have S:Hid ((p.edges.take (k+1)).Nodup):=by
         show (p.edges.take (k+1)).Nodup;rw [Cp _ k aA];refine Nn.2 ⟨aY.out,fun jK=>?_⟩;obtain ⟨j,hj,hje⟩:=List.getElem_of_mem jK;rw [List.getElem_take] at hje;simp at hj;exact cQ.out j Bl Bl hje.symm
        go_wp2;exact ⟨⟨k+1,Bl,by go_num,S,hb⟩,clM⟩
     ·have aB:¬ (k:Int)<(p.edges.length:Int):=Bl;have bP:Hid p.edges.Nodup:=by
       have h1:=aY.out;rw [Bg Bl] at h1;exact h1
      clear aY hk;go_wp2;clear aA aB;go_loopw [6] (fun i wr=>∃ k:Nat,(k:Int)<=p.tasks/\i = J U k/\Hid (∀ j,j<k -> ¬ Pg.Reach (Ea p) j j)/\Below (Es 43 p (Aa A p.edges.length c) w) (Es 43 p (Aa A p.edges.length c) w) wr) (fun i _=>p.tasks.toNat - (intOf i).toNat);case atStart=>exact ⟨0,Bl,rfl,fun j hj=>absurd hj Bl,hb⟩
      case round =>
       clear hb x0 x1 x2 x3 x4 hs bV;obtain ⟨k,hk,rfl,aY,hb⟩:=hrel;obtain ⟨x0,x1,x2,x3,x4,hs,bV⟩:=Gh hb;by_cases aA:(k:Int)<p.tasks
       ·go_wp2_with fail
        refine (Agk p (Aa A p.edges.length c) k _ Hm.out cF.out aA ((h.below bV).more bV.size)).mono ?_;rintro e w2 ⟨v,O,rfl,o1,aK,kL,pA⟩;have tW:k<O.length:=Bl;have hlen0:=Br kL;rcases o1.form with ⟨_,e0⟩ | ⟨g,cap,rfl,_,sV,_,_,_,_⟩
        ·exfalso;subst e0;simp at tW
        have ck:=o1.bool tW;have hg:Hid (O.getD k false=O[k]):=by unfold Hid;rw [List.getD_eq_getElem?_getD,List.getElem?_eq_getElem tW];rfl
        have Hiff:=Br pA;have hkOI:(k:Int)<(O.length:Int):=Bl;clear kL pA;cases hO:O[k]
        ·rw [hO] at ck;have S:Hid (∀ j,j<k+1 -> ¬ Pg.Reach (Ea p) j j):=by
          intro j hj;by_cases e:j=k
          ·subst e;intro hr
           have:=(Hiff.out j).2 hr
           rw [hg.out,hO] at this;cases this
          ·exact aY.out j Bl
         clear hO;go_wp2;exact ⟨⟨k+1,Bl,by go_num,S,hb.trans (aK.mono hb.size)⟩,clM⟩
        ·rw [hO] at ck;have H:Hid (Cr p=4):=N8 Hm.out cF.out bP.out ⟨k,Bl,(Hiff.out k).1 (by rw [hg.out,hO])⟩;clear hO;go_wp2;go_ret;exact ⟨Cy H.out.symm,Bv bV aK⟩
       ·have H:Hid (Cr p=0):=Dl.2 ⟨Hm.out,cF.out,bP.out,fun ⟨t,ht,hr⟩=>aY.out t Bl hr⟩;go_wp2;go_ret;exact ⟨Cy H.out.symm,bV⟩
section
variable {P:Program}
theorem Aaw (w:World) (dT sT ty elem:TypeId) (g o dLen dCap:Nat) (a:Addr) (sLen sCap k:Nat) (cur:Array Value) (t:TypeId) (cs:List Value)
  (hu:P.underlying dT=Ac (.slice elem)) (hs:(P.info? elem).map (·.size)=Ac k)
  (hg:w.heap[g]? = Ac (.cells cur t (0,0))) (hn:cs.length=Nat.min sLen dLen * k)
  (hsrc:∀ j v,cs[j]? = Ac v->w.cell? (a.add j)=Ac v) (hfit:o+cs.length<=cur.size) (h1:∀ v∈cs,v.oneCell'=true) :
  (Builtin.copy_ #[dT,sT] ty #[Aa (Ac ⟨g,o,Ab⟩) dLen dCap,Aa (Ac a) sLen sCap]).run P w =
   .ok (goInt (Nat.min sLen dLen)) (w.setRow g (cur.toList.take o ++ cs ++ cur.toList.drop (o+cs.length)).toArray):=by
 have hl:=run_loadCells_list (P:=P) w a cs hsrc;have dX:=run_storeCells_at P g o t cs 0 cur w hg (by simpa using hfit) h1;cases hq:P.info? elem with
 | none=>simp [hq] at hs
 | some i =>
  have hi:i.size=k:=by simpa [hq] using hs
  rw [hn] at hl;simp [Builtin.copy_,run_underlying hu,Builtin.lenOf,Builtin.firstCells,sizeOf,typeInfo,hq,hi,hl,dX]
theorem Yw (w:World) (g:Nat) (cs:Array Value):w.grownBy (w.setRow g cs) (Ac g) :=
 ⟨rfl,rfl,rfl,by simp [World.setRow],fun k _ aC=>setRow_other w g k cs (fun e=>aC (by rw [e]))⟩
theorem Ur (w:World) {o:Oper} {a:Act} {K:Act->World->Prop} {Q:Exit->Act->World->Prop} (d s:Operand) (dT sT:TypeId)
  (ho:o.op = .call { callee:=.builtin .copy,args:=#[d,s],argTypes:=#[dT,sT] }) (elem:TypeId) (k:Nat) (hu:P.underlying dT=Ac (.slice elem)) (bL:(P.info? elem).map (·.size)=Ac k)
  (g off dLen dCap:Nat) (ad:Addr) (sLen sCap:Nat) (hd:a.eval d = .slice (Ac ⟨g,off,Ab⟩) dLen dCap) (hs:a.eval s = .slice (Ac ad) sLen sCap)
  (cur:List Value) (t:TypeId) (hg:w.heap[g]? = Ac (.cells cur.toArray t (0,0))) (cs:List Value) (hn:cs.length=Nat.min sLen dLen * k)
  (hsrc:∀ j v,cs[j]? = Ac v->w.cell? (ad.add j)=Ac v) (hfit:off+cs.length<=cur.length) (h1:∀ v∈cs,v.oneCell'=true)
  (h:∀ w',Hid (w'.heap[g]? = Ac (.cells (splice cur off cs).toArray t (0,0)))->w.grownBy w' (Ac g)->K (a.put o.dst (goInt (Nat.min sLen dLen))) w'):o.wp P a w K Q:=by
 have eU:=Aaw (P:=P) w dT sT o.type elem g off dLen dCap ad sLen sCap k cur.toArray t cs hu bL hg hn hsrc (by simpa using hfit) h1;have h2:Hid ((w.setRow g (cur.toArray.toList.take off ++ cs ++ cur.toArray.toList.drop (off+cs.length)).toArray).heap[g]? = Ac (.cells (splice cur off cs).toArray t (0,0))):=show _=_ by simpa [splice] using setRow_heap w g _ _ t _ hg
 have h3:=h _ h2 (Yw w g _);unfold Oper.wp execOp;simp only [ho,resolve,invoke,builtin,Sem.run_bind,Sem.run_pure,Result.andThen_ok,List.map_toArray,List.map_cons,List.map_nil,hd,hs,eU];exact h3
theorem J8 (w:World) {ops:Array Oper} {rest:List Oper} {o:Oper} {a:Act} {Q:Exit->Act->World->Prop} (dF:o.guard=Ab) (d s:Operand) (dT sT:TypeId)
  (ho:o.op = .call { callee:=.builtin .copy,args:=#[d,s],argTypes:=#[dT,sT] }) (elem:TypeId) (k:Nat) (hu:P.underlying dT=Ac (.slice elem)) (bL:(P.info? elem).map (·.size)=Ac k)
  (g off dLen dCap:Nat) (ad:Addr) (sLen sCap:Nat) (hd:a.eval d = .slice (Ac ⟨g,off,Ab⟩) dLen dCap) (hs:a.eval s = .slice (Ac ad) sLen sCap)
  (cur:List Value) (t:TypeId) (hg:w.heap[g]? = Ac (.cells cur.toArray t (0,0))) (cs:List Value) (hn:cs.length=Nat.min sLen dLen * k)
  (hsrc:∀ j v,cs[j]? = Ac v->w.cell? (ad.add j)=Ac v) (hfit:off+cs.length<=cur.length) (h1:∀ v∈cs,v.oneCell'=true)
  (h:∀ w',Hid (w'.heap[g]? = Ac (.cells (splice cur off cs).toArray t (0,0)))->w.grownBy w' (Ac g)->wpList P ops Q rest (a.put o.dst (goInt (Nat.min sLen dLen))) w'):wpList P ops Q (o :: rest) a w :=
 wpList_plain dF fun _ hK=>Ur w d s dT sT ho elem k hu bL g off dLen dCap ad sLen sCap hd hs cur t hg cs hn hsrc hfit h1 fun w' h2 h3=>hK _ _ (h w' h2 h3)
theorem Lh (w:World) {ops:Array Oper} {o:Oper} {a:Act} {K:Act->World->Prop} {Q:Exit->Act->World->Prop} {EE:Prop} (dF:o.guard=Ab) (d s:Operand) (dT sT:TypeId)
  (ho:o.op = .call { callee:=.builtin .copy,args:=#[d,s],argTypes:=#[dT,sT] }) (elem:TypeId) (k:Nat) (hu:P.underlying dT=Ac (.slice elem)) (bL:(P.info? elem).map (·.size)=Ac k)
  (g off dLen dCap:Nat) (ad:Addr) (sLen sCap:Nat) (hd:a.eval d = .slice (Ac ⟨g,off,Ab⟩) dLen dCap) (hs:a.eval s = .slice (Ac ad) sLen sCap)
  (cur:List Value) (t:TypeId) (hg:w.heap[g]? = Ac (.cells cur.toArray t (0,0))) (cs:List Value) (hn:cs.length=Nat.min sLen dLen * k)
  (hsrc:∀ j v,cs[j]? = Ac v->w.cell? (ad.add j)=Ac v) (hfit:off+cs.length<=cur.length) (h1:∀ v∈cs,v.oneCell'=true)
  (h:∀ w',Hid (w'.heap[g]? = Ac (.cells (splice cur off cs).toArray t (0,0)))->w.grownBy w' (Ac g)->K (a.put o.dst (goInt (Nat.min sLen dLen))) w') :
  if Region.wanted o (yielded ops a.tmps)=true then Oper.wp P o a w K Q else EE:=by
 have hw:Region.wanted o (yielded ops a.tmps)=true:=by simp [Region.wanted,dF]
 rw [if_pos hw];exact Ur w d s dT sT ho elem k hu bL g off dLen dCap ad sLen sCap hd hs cur t hg cs hn hsrc hfit h1 h
end
section
variable {α:Type} {e:Enc α} {E:TypeId} {w:World} {base g n cap:Nat} {l:List α}
theorem Ow.row (h:Ow e E w base (Aa (Ac ⟨g,0,Ab⟩) n cap) l) :
  l.length=n/\base<=g/\n<=cap/\cap<=maxLen /\ ∃ cur:List Value,w.heap[g]? = Ac (.cells cur.toArray E (0,0))/\cur.length=cap * e.sz/\cur.take (n * e.sz)=l.flatMap e.cells:=by
 rcases h.2 with ⟨h1,_⟩ | ⟨g',cap',cur,hv,hg,hh,hc,hm,hs,ht⟩
 ·simp at h1
 ·simp only [Value.slice.injEq,Option.some.injEq,Addr.mk.injEq,and_true] at hv;obtain ⟨rfl,rfl,rfl⟩:=hv;exact ⟨rfl,hg,hc,hm,cur.toList,by simpa using hh,by simpa using hs,ht⟩
theorem Ow.of_row {cur:List Value} (hg:w.heap[g]? = Ac (.cells cur.toArray E (0,0))) (hc:cur.length=cap * e.sz) (ht:cur.take (l.length * e.sz)=l.flatMap e.cells) (hb:base<=g) (hn:l.length<=cap) (hm:cap<=maxLen) :
  Ow e E w base (Aa (Ac ⟨g,0,Ab⟩) l.length cap) l :=
 ⟨e.flat_length l,.inr ⟨g,cap,cur.toArray,rfl,hb,hg,hn,hm,by simpa using hc,by simpa using ht⟩⟩
end
theorem Ac1 {α:Type} (R X Y:List α) (a:Nat) (h:a+X.length+Y.length<=R.length):(splice (splice R a X) (a+X.length) Y).take (a+X.length+Y.length)=R.take a ++ X ++ Y:=by
 have h0:(R.take a).length=a:=by rw [Az];omega
 have h1:(splice R a X).take (a+X.length)=R.take a ++ X:=by
  unfold splice;rw [<-List.append_assoc,List.take_left' (by rw [Bd,h0])]
 unfold splice at h1 ⊢;rw [h1,<-List.append_assoc,List.take_left' (by rw [Bd,Bd,h0])]
theorem Aax {α:Type} (C X Y:List α) (a:Nat) (h:a+X.length+Y.length<=C.length):(splice (splice C (a+X.length) Y) a X).take (a+X.length+Y.length)=C.take a ++ X ++ Y:=by
 have h0:(C.take a).length=a:=by rw [Az];omega
 have h1:(splice C (a+X.length) Y).take a=C.take a:=by
  unfold splice;rw [List.take_append_of_le_length (by rw [Az];omega),List.take_take];congr 1;omega
 have h2:(splice C (a+X.length) Y).drop (a+X.length)=Y ++ C.drop (a+X.length+Y.length):=by
  unfold splice;rw [List.drop_left' (by rw [Az];omega)]
 show ((splice C (a+X.length) Y).take a ++ (X ++ (splice C (a+X.length) Y).drop (a+X.length))).take _=_;rw [h1,h2,<-List.append_assoc,<-List.append_assoc,List.take_left' (by rw [Bd,Bd,h0])]
theorem Mn {α:Type} (e:Enc α) (l:List α) (i:Nat) (hi:i<=l.length) (x:α) :
  (l.take i ++ x :: l.drop i).flatMap e.cells=(l.flatMap e.cells).take (i * e.sz) ++ e.cells x ++ (l.flatMap e.cells).drop (i * e.sz):=by
 have hl:l.flatMap e.cells=(l.take i).flatMap e.cells ++ (l.drop i).flatMap e.cells:=by rw [<-List.flatMap_append,List.take_append_drop]
 have h0:((l.take i).flatMap e.cells).length=i * e.sz:=by rw [e.flat_length,Az,Nat.min_eq_left hi]
 rw [List.flatMap_append,List.flatMap_cons,hl,List.take_left' h0,List.drop_left' h0,List.append_assoc]
section
variable {P:Program}
theorem Ld (w:World) {ops:Array Oper} {rest:List Oper} {o:Oper} {a:Act} {Q:Exit->Act->World->Prop} (dF:o.guard=Ab) (s x:Operand) (t tn:TypeId)
  (ho:o.op = .call { callee:=.builtin .append,args:=#[s,x],argTypes:=#[t,tn] }) (E:TypeId) (i:TypeInfo) (z:Value) (sz bytes:Nat) (kn kq:IntKind)
  (ht:P.underlying t=Ac (.slice E)) (uE:P.underlying tn=Ac (.int kn)) (hi:P.info? E=Ac i) (hz:i.zero=Ac z) (cJ:i.size=sz) (cC:i.bytes=bytes) (hzs:z.cells.size=sz) (bL:0<sz)
  (ad:Addr) (n cap:Nat) (olds:List Value) (hs:a.eval s = .slice (Ac ad) n cap) (k:Nat) (m:Int) (hm:m=k) (hx:a.eval x = .int kq m)
  (pB:olds.length=n * sz) (hold:∀ j u,olds[j]? = Ac u->w.cell? (ad.add j)=Ac u) (h0:0<k) (hg:cap<n+k) (h1:n+k<=3000000) (hb:bytes<=10000) (N:Nat) (hN:N=n+k)
  (h:∀ (w':World) (c:Nat) (R:List Value),Hid (w'.heap[w.heap.size]? = Ac (.cells R.toArray E (0,0)))->Hid (R.length=c * sz)->Hid (R.take (n * sz)=olds)->N<=c->c<=9223372036854775807->w.grownBy w' Ab->w.heap.size<w'.heap.size ->
   wpList P ops Q rest (a.put o.dst (.slice (Ac ⟨w,0,Ab⟩) N c)) w'):wpList P ops Q (o :: rest) a w:=by
 subst hm;subst hN;have aJ:(n+k) * bytes<=3000000 * 10000:=Nat.mul_le_mul h1 hb;have hkb:k * bytes<=(n+k) * bytes:=Nat.mul_le_mul_right _ Bl;have eU:=Lib.run_append_grow_zeros (P:=P) w t tn o.type E i z kq kn ht uE hi hz (Ac ad) n cap olds
  (run_firstCells_some w.drew i.size n ad n cap olds (by rw [cJ];exact pB) (fun j u hu=>hold j u hu)) k h0 Bl hg Bl (by rw [cC];omega) (by rw [cC];exact growslice_fits hg Bl)
 have uQ:=grownCap_ge w (n+k) cap E;have kU:grownCap w (n+k) cap E<=maxLen:=grownCap_le_maxLen w (n+k) cap E (by simp [maxLen];omega);simp only [maxLen] at kU;have h2:=h (w.drew.alloc (.cells (olds.toArray ++ Builtin.zeroCells z.cells k ++ Builtin.zeroCells z.cells (grownCap w (n+k) cap E - (n+k))) E)) (grownCap w (n+k) cap E) (olds ++ (Builtin.zeroCells z.cells k).toList ++ (Builtin.zeroCells z.cells (grownCap w (n+k) cap E - (n+k))).toList)
  (by
   unfold Hid
   have:=heap_alloc_new w.drew (.cells (olds.toArray ++ Builtin.zeroCells z.cells k ++ Builtin.zeroCells z.cells (grownCap w (n+k) cap E - (n+k))) E)
   have e:(olds ++ (Builtin.zeroCells z.cells k).toList ++ (Builtin.zeroCells z.cells (grownCap w (n+k) cap E - (n+k))).toList).toArray=olds.toArray ++ Builtin.zeroCells z.cells k ++ Builtin.zeroCells z.cells (grownCap w (n+k) cap E - (n+k)):=Bo;rw [e];exact this)
  (by
   unfold Hid;simp only [Bd,Array.length_toList,size_zeroCells,pB,hzs];rw [<-Nat.add_mul,<-Nat.add_mul];congr 1;omega)
  (by unfold Hid;rw [List.append_assoc,<-pB,List.take_left]) uQ kU
  ⟨rfl,rfl,rfl,Bo,fun _ aZ _=>Below.heap_alloc w.drew _ _ aZ⟩ Bo
 refine wpList_plain dF fun _ hK=>?_;unfold Oper.wp execOp;simp only [ho,resolve,invoke,builtin,Sem.run_bind,Sem.run_pure,Result.andThen_ok,List.map_toArray,List.map_cons,List.map_nil,hs,hx,eU];exact hK _ _ h2
end
theorem Us {w w':World} (h:w.grownBy w' Ab) (row:Option Nat):w.grownBy w' row:=⟨h.os,h.tape,h.output,h.size,fun k hk _=>h.block k hk Bo⟩
theorem O9 {w w1 w2:World} {row:Option Nat} {G:Nat} (h:w.grownBy w1 row) (h2:w1.grownBy w2 (Ac G)) (hG:w<=G):w.grownBy w2 row :=
 ⟨h2.os.trans h.os,h2.tape.trans h.tape,h2.output.trans h.output,Ah h.size h2.size,fun k hk aC=>(h2.block k (Ai hk h.size) (fun e=>by injection e with e;omega)).trans (h.block k hk aC)⟩
theorem Nq {w w':World} {row:Option Nat} (h:w.drew.grownBy w' row):w.grownBy w' row:=⟨h.os,h.tape,h.output,h.size,h.block⟩
theorem Qx {w w':World} {row:Option Nat} (hg:w.grownBy w' row) {g:Nat} {o:Obj} (h:w.heap[g]? = Ac o) (aC:Ac g≠row):w'.heap[g]? = Ac o :=
 (hg.block g (Array.getElem?_eq_some_iff.1 h).1 aC).trans h
theorem Ix {w:World} {g:Nat} {R:List Value} {E:TypeId} {o:Nat} (h:w.heap[g]? = Ac (.cells R.toArray E (0,0))) (xs:List Value) (hx:∀ j u,xs[j]? = Ac u->R[o+j]? = Ac u) :
  ∀ j u,xs[j]? = Ac u->w.cell? ((⟨g,o,Ab⟩:Addr).add j)=Ac u:=by
 intro j u hu;have e:((⟨g,o,Ab⟩:Addr).add j)=⟨g,o+j,Ab⟩:=by unfold Addr.add;split<;>simp_all
 rw [e,cell_of_row _ _ (o+j) _ _ (0,0) h];simpa using hx j u hu
theorem Gi {α:Type} (C X:List α) (a:Nat) (h:a+X.length<=C.length):(splice C a X).length=C.length:=by
 unfold splice;simp only [Bd,Az,List.length_drop];omega
section
variable {α:Type} (e:Enc α) (l:List α) (i:Nat) (hi:i<=l.length) (x:α)
include hi
theorem G4:(l.take i ++ x :: l.drop i).length=l.length+1:=by simp;omega
omit hi in
theorem Ti:((l.flatMap e.cells).drop (i * e.sz)).length=(l.length - i) * e.sz:=by rw [List.length_drop,e.flat_length,Nat.sub_mul]
theorem Ut:i * e.sz+(e.cells x).length+((l.flatMap e.cells).drop (i * e.sz)).length=(l.length+1) * e.sz:=by
 rw [Ti e l i,e.len,<-Nat.succ_mul,<-Nat.add_mul];congr 1;omega
theorem Sp (C:List Value) (hC:C.take (l.length * e.sz)=l.flatMap e.cells) (hl:(l.length+1) * e.sz<=C.length) :
  (splice (splice C ((i+1) * e.sz) ((l.flatMap e.cells).drop (i * e.sz))) (i * e.sz) (e.cells x)).take ((l.length+1) * e.sz)=(l.take i ++ x :: l.drop i).flatMap e.cells /\
  (splice (splice C ((i+1) * e.sz) ((l.flatMap e.cells).drop (i * e.sz))) (i * e.sz) (e.cells x)).length=C.length:=by
 have hs:=Ut e l i hi x;have h1:(i+1) * e.sz=i * e.sz+(e.cells x).length:=by rw [e.len,Nat.succ_mul]
 have h2:C.take (i * e.sz)=(l.flatMap e.cells).take (i * e.sz):=by
  rw [<-hC,List.take_take];congr 1;exact (Nat.min_eq_left (Nat.mul_le_mul_right _ hi)).symm
 constructor
 ·rw [h1,<-hs,Aax _ _ _ _ Bl,Mn e l i hi x,h2]
 ·rw [Gi,Gi]
  ·rw [h1];omega
  ·rw [Gi _ _ _ (by rw [h1];omega)];omega
theorem Uu (R:List Value) (hR:R.take (i * e.sz)=(l.flatMap e.cells).take (i * e.sz)) (hl:(l.length+1) * e.sz<=R.length) :
  (splice (splice R (i * e.sz) (e.cells x)) ((i+1) * e.sz) ((l.flatMap e.cells).drop (i * e.sz))).take ((l.length+1) * e.sz)=(l.take i ++ x :: l.drop i).flatMap e.cells /\
  (splice (splice R (i * e.sz) (e.cells x)) ((i+1) * e.sz) ((l.flatMap e.cells).drop (i * e.sz))).length=R.length:=by
 have hs:=Ut e l i hi x;have h1:(i+1) * e.sz=i * e.sz+(e.cells x).length:=by rw [e.len,Nat.succ_mul]
 constructor
 ·rw [h1,<-hs,Ac1 _ _ _ _ Bl,Mn e l i hi x,hR]
 ·rw [Gi,Gi]
  ·omega
  ·rw [Gi _ _ _ Bl,h1];omega
end
end Go.Proofs.YtecnbnbopcblgaaGreat
