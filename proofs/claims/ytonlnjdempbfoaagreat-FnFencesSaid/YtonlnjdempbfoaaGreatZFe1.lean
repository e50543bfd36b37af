/-
  l06From of the reference: the search by a list. append of a whole slice that reads as a list, nil or not, onto a slice of the call's own. PlanFault of the progr
-/
import Derived.Test.YtonlnjdempbfoaaGreatZFe0
import Derived.Maps.AppendAt
import Derived.RegionTactic
import Derived.OwnWalk
import Derived.Deep.RegionWith
namespace Go.Proofs.YtonlnjdempbfoaaGreat
open Go.RowKit
set_option maxRecDepth 100000
set_option maxHeartbeats 4000000
set_option linter.unusedVariables false
set_option linter.unusedSimpArgs false
open Value renaming int->J,slice->Aa
open IntKind renaming i64->U
open Option renaming none->Ab,some->Ac
open Below renaming setCell->Ad
open Nat renaming zero_le->Ag,le_trans->Ah,lt_of_lt_of_le->Ai
open Go renaming wpQuiet_nil->Ak
open Go.Proofs.Tryz renaming prog->An
open Int renaming eq_ofNat_of_zero_le->Aq
open List renaming length_map->Au,getElem_mem->Aw,nodup_append->Ax,mem_append_right->Bd,mem_append_left->Be,take_of_length_le->Bf,length_set->Bg,mem_append->Bh
open World renaming size_alloc->Bi
theorem Ac1:(An.info? 4).map (fun i=>(i.zero,i.size,i.bytes))=Ac (Ac (.bool false),1,1):=Bl
def Ad7 (p:Plan) (t:Nat) (w:World) (e:Ending) (w':World):Prop :=
 ∃ v O,e = .returned v/\Ow Uf 4 w' w v O/\Below w w w'/\O.length=p.tasks.toNat /\ ∀ y,O.getD y false=true ↔ Pg.Reach (Dq p) t y
theorem Ad8 (p:Plan) (ve:Value) (t:Nat) (w:World) (hm:D7 p=true) (he:G6 p) (ht:(t:Int)<p.tasks) (h:Rd Gc w w ve p.edges) :
  Calls An 236 #[Gd p ve,.int .i64 (t:Int)] w (Ad7 p t w):=by
 obtain ⟨A,c,rfl,-⟩:=id h;obtain ⟨t1,t2⟩:=Ee hm;have aK:=E9 hm;obtain ⟨T,hT⟩:=Aq (show 0<=p.tasks by omega);have HT:=Bp hT;have gR:T<=12:=Bk;have htT:t<T:=Bk;obtain ⟨i0,aL,aR,aS,aP⟩:=info_parts Ac1;obtain ⟨j0,bS,jz0,jz1,jz2⟩:=info_parts Kt;have nK:∀ w:World,(Instr.makeSlice 248 (.int .i64 p.tasks) (.int .i64 p.tasks)).run An w = .ok (.slice (Ac ⟨w,0,Ab⟩) T T) (w.alloc (.cells (madeCells #[.bool false] (T * 1)) 4)):=by
  intro w
  have:=run_make (P:=An) w 248 4 i0 _ Tryz.underlying248 aL aR .i64 .i64 T T Bk Bk (by rw [aP];omega) Bk
  rw [aS] at this;rw [hT];simpa [Value.cells] using this
 have pC:(∀ e∈Dq p,e.1<T)/\(∀ e∈Dq p,e.2<T):=by
  have:=Ml he
  rw [hT] at this;simpa using this
 clear hT;unfold Gd;go_enter Tryz.func236,Tryz.ntmps236;go_wp2;go_loopw [6,7] (fun vl i wr=>∃ (k:Nat) (s:List Bool×List Nat),Hid (Pg.Bat (Dq p) T t k s)/\i = .int .i64 k/\Ow Uf 4 wr (w.heap.size+1) (.slice (Ac ⟨w.heap.size+1,0,Ab⟩) T T) s.1/\Ow Em 3 wr (w.heap.size+1) vl s.2 /\
   Below (D8 43 p (.slice A p.edges.length c) w) (D8 43 p (.slice A p.edges.length c) w) wr) (fun _ i _=>T+2 - (intOf i).toNat)
 case atStart =>
  refine ⟨0,_,Pg.Bat.start (Dq p) T t,rfl,?_,?_,?_⟩
  ·have:=Ow.made Uf 4 (D8 43 p (.slice A p.edges.length c) w) false T Bo (by simp [maxLen];omega) (z:=#[.bool false]) rfl (m:=T) (by simp [Uf])
   rw [Fa] at this;exact this.below ((Bq _ _).alloc (Br _) _)
  ·have:=World.ownsRow_lit (base:=w.heap.size+1) (e:=3) (size:=1) ((D8 43 p (.slice A p.edges.length c) w).alloc (.cells (madeCells #[.bool false] T) 4)) #[.int .i64 (t:Int)] 1 (by simp [Fa]) (by simp [maxLen]) rfl
   simp only [Bi,Fa] at this;exact this
  ·exact ((Bq _ _).alloc (Br _) _).alloc Bm _
 case round =>
  obtain ⟨k,s,gU,rfl,ho,hl,hb⟩:=hrel;obtain ⟨x0,x1,x2,x3,x4,hs,bI⟩:=E7 hb;have bL:w.heap.size<wr.heap.size:=Bk;have hkT:=gU.out.inv.lt;have fR:=gU.out.le;have jK:=Bp gU.out.inv.size;rcases hl.form with ⟨_,e0⟩ | ⟨gl,cap,rfl,hgl0,qY,aJ,mK,hlf,hlcell⟩
  ·exfalso;obtain ⟨l,hh,_⟩:=gU.out.inv.head;rw [hh] at e0;cases e0
  clear hlcell hlf;by_cases aA:k<s.2.length
  ·have aB:(k:Int)<(s.2.length:Int):=Bk;obtain ⟨wo,rfl⟩:∃ wo:World,wo=wr:=⟨_,rfl⟩
   have nP:s.2[k]? = Ac s.2[k]:=List.getElem?_eq_getElem aA;have mN:=Bp (gU.out.next pC.2 nP);clear nP;go_wp2;go_loopw [6,8] (fun vl i wr=>∃ (j:Nat),j<=p.edges.length/\i = .int .i64 j/\Ow Uf 4 wr (w.heap.size+1) (.slice (Ac ⟨w.heap.size+1,0,Ab⟩) T T) (Pg.Nd (esL (p.edges.take j)) s.2[k] s).1/\Ow Em 3 wr (w.heap.size+1) vl (Pg.Nd (esL (p.edges.take j)) s.2[k] s).2 /\
    Below (D8 43 p (.slice A p.edges.length c) w) (D8 43 p (.slice A p.edges.length c) w) wr) (fun _ i _=>p.edges.length - (intOf i).toNat)
   case atStart=>exact ⟨0,Ag _,rfl,ho,hl,hb⟩
   case round =>
    clear ho hl hb x0 x1 x2 x3 x4 hs bI bL hgl0 qY aJ mK;obtain ⟨j,hj,rfl,ho,hl,hb⟩:=hrel;obtain ⟨x0,x1,x2,x3,x4,hs,bI⟩:=E7 hb;have bL:w.heap.size<wr.heap.size:=Bk;by_cases cQ:j<p.edges.length
    ·have gF:(j:Int)<(p.edges.length:Int):=Bk;obtain ⟨b,o,rfl,aG,c0,c1⟩:=(h.below bI).edge cQ;obtain ⟨f1,f2,f3,f4⟩:=Hy he cQ;rw [HT.out] at f2 f4;have dI:=Bp (show esL (p.edges.take (j+1))=esL (p.edges.take j) ++ [(p.edges[j].fr.toNat,p.edges[j].to.toNat)] by unfold esL;rw [Dc _ j cQ,List.map_append];rfl);generalize p.edges[j].fr=fx at *
     generalize p.edges[j].to=tx at *
     obtain ⟨a,rfl⟩:=Aq f1;obtain ⟨d,rfl⟩:=Aq f3;have aE:Hid (Pg.Nd (esL (p.edges.take (j+1))) s.2[k] s=Pg.Lt s.2[k] (Pg.Nd (esL (p.edges.take j)) s.2[k] s) (a,d)):=by
      show Pg.Nd _ _ _=_;rw [dI.out];simp only [Int.toNat_natCast];unfold Pg.Nd;rw [List.foldl_append];rfl
     have mU:=Pg.Aez (esL (p.edges.take j)) s.2[k] s;rw [jK.out] at mU;obtain ⟨r,hr⟩:=Pg.Acx (esL (p.edges.take j)) s.2[k] s;have hgk:(Pg.Nd (esL (p.edges.take j)) s.2[k] s).2[k]? = Ac s.2[k]:=by rw [hr,List.getElem?_append_left aA,List.getElem?_eq_getElem aA]
     have hlen2:s.2.length<=(Pg.Nd (esL (p.edges.take j)) s.2[k] s).2.length:=by rw [hr];simp
     clear hr dI;generalize hS:Pg.Nd (esL (p.edges.take j)) s.2[k] s=S at *
     have HS:=Bp hS;clear hS;generalize hx:s.2[k]=x at *
     have HX:=Bp hx;clear hx;rcases hl.form with ⟨_,e0⟩ | ⟨gl',cap',rfl,hgl0,qY,aJ,mK,hlf,hlcell⟩
     ·exfalso
      have:=congrArg List.length e0
      simp only [List.length_nil] at this;omega
     have hkS:k<S.2.length:=Bk;have hSk:Hid (S.2[k]=x):=by
      rw [List.getElem?_eq_getElem hkS] at hgk;exact Option.some.inj hgk
     have cx:=hl.nat hkS;rw [hSk.out] at cx;have hHbl:=Bp mU;have hdO:d<S.1.length:=by rw [mU];omega
     have cO:=ho.bool hdO;have hgO:=ho.blk.2;have hkSI:(k:Int)<(S.2.length:Int):=Bk;clear mU hgk hlcell;by_cases nY:a=x
     ·subst nY;have bW:S.1.getD d true=S.1[d]:=by rw [List.getD_eq_getElem?_getD,List.getElem?_eq_getElem hdO];rfl
      have mE:((a:Int) == (a:Int))=true:=Bm;cases hO:S.1[d]
      ·rw [hO] at cO;have dD:Hid (Pg.Nd (esL (p.edges.take (j+1))) a s=(S.1.set d true,S.2 ++ [d])):=by
        show Pg.Nd _ _ _=_;rw [aE.out];unfold Pg.Lt;rw [if_pos ⟨rfl,by rw [bW,hO]⟩]
       clear bW hO aE;have e1:(wr.alloc (.cells #[.int .i64 (a:Int),.int .i64 (d:Int)] 199)).cell? ⟨wr,1,Ab⟩=Ac (.int .i64 (d:Int)):=by go_simp
       go_wp2;go_quiet (fail);have hW:=Cj ((Bq wr wr).alloc (Br _) (.cells #[.int .i64 (a:Int),.int .i64 (d:Int)] 199)) nq;have aF:=Cj (hb.alloc hb.size (.cells #[.int .i64 (a:Int),.int .i64 (d:Int)] 199)) nq;have e2:((wr.alloc (.cells #[.int .i64 (a:Int),.int .i64 (d:Int)] 199)).drewN nq).cell? ⟨wr,1,Ab⟩=Ac (.int .i64 (d:Int)):=e1;have hwn:wr.heap.size<((wr.alloc (.cells #[.int .i64 (a:Int),.int .i64 (d:Int)] 199)).drewN nq).heap.size:=Bm;clear e1 c0 c1 cx cO;generalize (wr.alloc (.cells #[.int .i64 (a:Int),.int .i64 (d:Int)] 199)).drewN nq=W2 at *
       have gA:=ho.below hW;have dS:=hl.below hW;have cO2:=gA.bool hdO;have hof:=gA.free;have cG:=Ow.put gA (n:=T) (by rw [hHbl.out]) d Bk true;simp only [Uf,Nat.mul_one] at cG;have pA:Ow Em 3 (W2.setCell ⟨w.heap.size+1,d,Ab⟩ (.bool true)) (w.heap.size+1) (.slice (Ac ⟨gl',0,Ab⟩) S.2.length cap') S.2:=dS.grown cG.2 (by
        have:=dS.ne_ gA Bo
        simpa [Value.ownBlock] using this)
       have hkp:=Fa 43 p (.slice (Ac ⟨b,o,Ab⟩) p.edges.length c) w;have bY:=aF.grown cG.2 aF.size (fun g hg=>by rw [Fa];simp at hg;omega);have ho3:=cG.1;have hl4:=pA.below ((Bq _ _).alloc (Br _) (.cells #[.int .i64 (d:Int)] 3));have hwz:w.heap.size+1<=W2.heap.size:=Bk;have cB:=bY.alloc bY.size (.cells #[.int .i64 (d:Int)] 3);clear cG;have hSl:S.2.length<=3000000:=by
        have:=(Pg.Acy (x:=a) (esL (p.edges.take j)) gU.out.inv (by rw [<-HX.out];exact Aw aA) (fun e he'=>by
         simp only [esL,List.mem_map] at he';obtain ⟨y,hy,rfl⟩:=he';simp only [Dq,esL,List.mem_map];exact ⟨y,List.mem_of_mem_take hy,rfl⟩) (fun e he'=>by
         simp only [esL,List.mem_map] at he';obtain ⟨y,hy,rfl⟩:=he';exact pC.2 _ (by simp only [Dq,esL,List.mem_map];exact ⟨y,List.mem_of_mem_take hy,rfl⟩))).lt
        rw [HS.out] at this;omega
       go_wp2_with (at_builtin;refine Nb (v:=.slice (Ac ⟨gl',0,Ab⟩) S.2.length cap') Em Bo rfl (.tmp 52) (.tmp 55) rfl Tryz.underlying26 bS jz0 jz1 jz2 rfl d rfl hl4 ⟨W2,0,Ab⟩ 1 rfl (Py _ #[.int .i64 (d:Int)] _ Bm) hSl Bo (by simp;omega) ?_;intro v' w3 hown3 hgrow3)
       have fF:=ho3.below ((Bq _ _).alloc (Br _) (.cells #[.int .i64 (d:Int)] 3));have ho5:=fF.grown hgrow3 (fF.ne_ hl4 Bo);have eE:=cB.grown hgrow3 cB.size (fun g hg=>by
        have hgg:gl'=g:=by simpa [Value.ownBlock] using hg
        have hgl1:=dS.blk.1;omega)
       exact ⟨⟨j+1,Bk,by go_num,by rw [dD.out];exact ho5,by rw [dD.out];exact hown3,eE⟩,by simp [intOf];omega⟩
      ·rw [hO] at cO;have bR:Hid (Pg.Nd (esL (p.edges.take (j+1))) a s=S):=by
        show Pg.Nd _ _ _=_;rw [aE.out];unfold Pg.Lt;rw [if_neg (fun h=>by rw [bW,hO] at h;exact absurd h.2 Bm)]
       clear bW hO;go_wp2;go_quiet (fail);go_wp2;exact ⟨⟨j+1,Bk,by go_num,by rw [bR.out];exact (ho.below (Cj ((Bq wr wr).alloc (Br _) _) _)),by rw [bR.out];exact (hl.below (Cj ((Bq wr wr).alloc (Br _) _) _)),Cj (hb.alloc hb.size _) _⟩,by simp [intOf];omega⟩
     ·have mE:((a:Int) == (x:Int))=false:=beq_eq_false_iff_ne.2 Bk;have bR:Hid (Pg.Nd (esL (p.edges.take (j+1))) x s=S):=by
       show Pg.Nd _ _ _=_;rw [aE.out];unfold Pg.Lt;rw [if_neg (fun h=>nY h.1)]
      clear nY;go_wp2;go_quiet (fail);go_wp2;exact ⟨⟨j+1,Bk,by go_num,by rw [bR.out];exact (ho.below (Cj ((Bq wr wr).alloc (Br _) _) _)),by rw [bR.out];exact (hl.below (Cj ((Bq wr wr).alloc (Br _) _) _)),Cj (hb.alloc hb.size _) _⟩,by simp [intOf];omega⟩
    ·have gF:¬ (j:Int)<(p.edges.length:Int):=Bk;have hj':j=p.edges.length:=Bk;subst hj';rw [List.take_length] at ho hl;go_wp2;refine ⟨⟨k+1,_,mN.out,by go_num,ho,hl,hb⟩,by simp [intOf];omega⟩
  ·have aB:¬ (k:Int)<(s.2.length:Int):=Bk;have aZ:k=s.2.length:=Bk;go_wp2;go_ret;refine ⟨_,s.1,rfl,ho.more Bk,bI,?_,fun y=>?_⟩
   ·rw [jK.out,HT.out];rfl
   ·exact Pg.Bat.iff (by rw [<-aZ];exact gU.out) y
section
variable {P:Program} (w:World)
theorem Pe (base:Nat) (t ty e:TypeId) (i:TypeInfo) (size:Nat) (ht:P.underlying t=Ac (.slice e)) (hi:P.info? e=Ac i)
  (v:Value) (n:Nat) (xs:List Value) (hown:w.ownsRow base e size v n xs) (c:Nat):(Builtin.append_ #[t,t] ty #[v,.slice Ab 0 c]).run P w = .ok v w:=by
 rcases hown.2 with ⟨rfl,rfl⟩ | ⟨g,cap,cur,rfl,_,_,hnc,_⟩
 ·simp [Builtin.append_,run_underlying ht,sizeOf,typeInfo,hi,Builtin.lenOf,Builtin.firstCells]
 ·simp [Builtin.append_,run_underlying ht,sizeOf,typeInfo,hi,Builtin.lenOf,Builtin.firstCells,hnc,storeCells]
theorem Ae4 {α:Type} {e:Enc α} (bG:0<e.sz) {w:World} {B:Nat} {A:Option Addr} {m c:Nat} {ys:List α} (hr:Rd e w B (Aa A m c) ys):m=ys.length/\(0<m -> ∃ ad,A=Ac ad /\ ∀ j u,(ys.flatMap e.cells)[j]? = Ac u->w.cell? (ad.add j)=Ac u):=by
 obtain ⟨A',c',hv,_,hA⟩:=hr;simp only [Value.slice.injEq] at hv;obtain ⟨rfl,rfl,rfl⟩:=hv;refine ⟨rfl,fun hm=>?_⟩;obtain ⟨b,o,rfl,hb,hc⟩:=hA hm;refine ⟨⟨b,o,Ab⟩,rfl,fun j u hu=>?_⟩;have aA:=(List.getElem?_eq_some_iff.1 hu).1;rw [e.flat_length] at aA;have hk:j / e.sz<ys.length:=Nat.div_lt_of_lt_mul (by rw [Nat.mul_comm];exact aA);have hj:j % e.sz<e.sz:=Nat.mod_lt _ bG;have mS:j / e.sz * e.sz+j % e.sz=j:=by rw [Nat.mul_comm];exact Nat.div_add_mod _ _
 have h1:=e.flat_get hj ys (j / e.sz) hk;rw [mS] at h1;have h2:=hc (j / e.sz) hk (j % e.sz) u (by rw [<-h1];exact hu);have ea:(⟨b,o,Ab⟩:Addr).add j=⟨b,o+j / e.sz * e.sz+j % e.sz,Ab⟩:=by
  rw [Nat.add_assoc,mS];unfold Addr.add;split<;>simp_all
 rw [ea];exact h2
theorem We {α:Type} (e:Enc α) (bG:0<e.sz) (base:Nat) (t ty E:TypeId) (i:TypeInfo) (z:Value) (bytes:Nat) (ht:P.underlying t=Ac (.slice E)) (hi:P.info? E=Ac i) (hz:i.zero=Ac z)
  (hsize:i.size=e.sz) (fG:i.bytes=bytes) (hzs:z.cells.size=e.sz)
  (v:Value) (l:List α) (hown:Ow e E w base v l)
  (B:Nat) (A:Option Addr) (m c:Nat) (ys:List α) (hr:Rd e w B (.slice A m c) ys)
  (hn:l.length<=3000000) (hm:ys.length<=3000000) (hbytes:bytes<=10000) (aV:base<=w.heap.size) :
  ∃ v' w',(Builtin.append_ #[t,t] ty #[v,.slice A m c]).run P w = .ok v' w'/\Ow e E w' base v' (l ++ ys)/\w.grownBy w' v.ownBlock /\
   (v'.ownBlock=v.ownBlock\/v'.ownBlock=Ac w.heap.size):=by
 obtain ⟨rfl,hA⟩:=Ae4 bG hr;have h0:∀ ad:Addr,A=Ac ad -> ∀ j u,(ys.flatMap e.cells)[j]? = Ac u->w.cell? (ad.add j)=Ac u:=by
  intro ad hAd j u hu;rcases Nat.eq_zero_or_pos ys.length with aR | hpos
  ·have:ys=[]:=List.eq_nil_of_length_eq_zero aR;subst this;simp at hu
  ·obtain ⟨ad',bJ,hc⟩:=hA hpos;rw [bJ] at hAd;injection hAd with hAd
   subst hAd;exact hc j u hu
 rcases A with _ | ad
 ·have rN:ys=[]:=by
   rcases Nat.eq_zero_or_pos ys.length with h1 | h1
   ·exact List.eq_nil_of_length_eq_zero h1
   ·obtain ⟨_,h2,_⟩:=hA h1;cases h2
  subst rN;exact ⟨v,w,Pe w base t ty E i e.sz ht hi v l.length (l.flatMap e.cells) hown c,by simpa using hown,World.grownBy.refl w _,.inl rfl⟩
 ·have h1:∀ u∈ys.flatMap e.cells,u.oneCell'=true:=by
   intro u hu;obtain ⟨y,_,hy⟩:=List.mem_flatMap.1 hu;exact e.one y u hy
  have aF:(l.length+ys.length) * bytes<=6000000 * 10000:=Nat.mul_le_mul Bk hbytes;obtain ⟨v',w',cV,h2,h3,_,h5⟩:=run_append_own_at (P:=P) w base t ty E i z e.sz bytes ht hi hz hsize fG hzs bG v l.length (l.flatMap e.cells) hown ad ys.length c (ys.flatMap e.cells) (e.flat_length ys) (h0 ad rfl) h1 (by simp [maxLen];omega) Bk aV;refine ⟨v',w',cV,?_,h3,h5⟩;unfold Ow;rw [List.length_append,List.flatMap_append];exact h2
theorem Ep {α:Type} {o:Oper} {a:Act} {K:Act->World->Prop} {Q:Exit->Act->World->Prop} (e:Enc α) (bG:0<e.sz) (s x:Operand) (t:TypeId)
  (ho:o.op = .call { callee:=.builtin .append,args:=#[s,x],argTypes:=#[t,t] })
  (base:Nat) (E:TypeId) (i:TypeInfo) (z:Value) (bytes:Nat) (ht:P.underlying t=Ac (.slice E)) (hi:P.info? E=Ac i) (hz:i.zero=Ac z)
  (hsize:i.size=e.sz) (fG:i.bytes=bytes) (hzs:z.cells.size=e.sz)
  (v:Value) (l:List α) (hs:a.eval s=v) (hown:Ow e E w base v l)
  (B:Nat) (A:Option Addr) (m c:Nat) (ys:List α) (hx:a.eval x = .slice A m c) (hr:Rd e w B (.slice A m c) ys)
  (hn:l.length<=3000000) (hm:ys.length<=3000000) (hbytes:bytes<=10000) (aV:base<=w.heap.size)
  (h:∀ v' w',Ow e E w' base v' (l ++ ys)->w.grownBy w' v.ownBlock->(v'.ownBlock=v.ownBlock\/v'.ownBlock=Ac w.heap.size)->K (a.put o.dst v') w'):o.wp P a w K Q:=by
 obtain ⟨v',w',cV,h2,h3,h4⟩:=We (P:=P) w e bG base t o.type E i z bytes ht hi hz hsize fG hzs v l hown B A m c ys hr hn hm hbytes aV;unfold Oper.wp execOp;simp only [ho,resolve,invoke,builtin,Sem.run_bind,Sem.run_pure,Result.andThen_ok,List.map_toArray,List.map_cons,List.map_nil,hs,hx,cV];exact h v' w' h2 h3 h4
theorem Bz {α:Type} {ops:Array Oper} {rest:List Oper} {o:Oper} {a:Act} {Q:Exit->Act->World->Prop} (e:Enc α) (bG:0<e.sz) (bW:o.guard=Ab) (s x:Operand) {t:TypeId}
  (ho:o.op = .call { callee:=.builtin .append,args:=#[s,x],argTypes:=#[t,t] })
  {base:Nat} {E:TypeId} {i:TypeInfo} {z:Value} {bytes:Nat} (ht:P.underlying t=Ac (.slice E)) (hi:P.info? E=Ac i) (hz:i.zero=Ac z)
  (hsize:i.size=e.sz) (fG:i.bytes=bytes) (hzs:z.cells.size=e.sz)
  {v:Value} {l:List α} (hs:a.eval s=v) (hown:Ow e E w base v l)
  {B:Nat} {A:Option Addr} {m c:Nat} {ys:List α} (hx:a.eval x = .slice A m c) (hr:Rd e w B (.slice A m c) ys)
  (hn:l.length<=3000000) (hm:ys.length<=3000000) (hbytes:bytes<=10000) (aV:base<=w.heap.size)
  (h:∀ v' w',Ow e E w' base v' (l ++ ys)->w.grownBy w' v.ownBlock->(v'.ownBlock=v.ownBlock\/v'.ownBlock=Ac w.heap.size)->wpList P ops Q rest (a.put o.dst v') w'):wpList P ops Q (o :: rest) a w :=
 wpList_plain bW fun _ hK=>Ep w e bG s x t ho base E i z bytes ht hi hz hsize fG hzs v l hs hown B A m c ys hx hr hn hm hbytes aV fun v' w' h2 h3 h4=>hK _ _ (h v' w' h2 h3 h4)
theorem Df {α:Type} {ops:Array Oper} {o:Oper} {a:Act} {K:Act->World->Prop} {Q:Exit->Act->World->Prop} {EE:Prop} (e:Enc α) (bG:0<e.sz) (bW:o.guard=Ab) (s x:Operand) {t:TypeId}
  (ho:o.op = .call { callee:=.builtin .append,args:=#[s,x],argTypes:=#[t,t] })
  {base:Nat} {E:TypeId} {i:TypeInfo} {z:Value} {bytes:Nat} (ht:P.underlying t=Ac (.slice E)) (hi:P.info? E=Ac i) (hz:i.zero=Ac z)
  (hsize:i.size=e.sz) (fG:i.bytes=bytes) (hzs:z.cells.size=e.sz)
  {v:Value} {l:List α} (hs:a.eval s=v) (hown:Ow e E w base v l)
  {B:Nat} {A:Option Addr} {m c:Nat} {ys:List α} (hx:a.eval x = .slice A m c) (hr:Rd e w B (.slice A m c) ys)
  (hn:l.length<=3000000) (hm:ys.length<=3000000) (hbytes:bytes<=10000) (aV:base<=w.heap.size)
  (h:∀ v' w',Ow e E w' base v' (l ++ ys)->w.grownBy w' v.ownBlock->(v'.ownBlock=v.ownBlock\/v'.ownBlock=Ac w.heap.size)->K (a.put o.dst v') w') :
  if Region.wanted o (yielded ops a.tmps)=true then Oper.wp P o a w K Q else EE:=by
 have hw:Region.wanted o (yielded ops a.tmps)=true:=by simp [Region.wanted,bW]
 rw [if_pos hw];exact Ep w e bG s x t ho base E i z bytes ht hi hz hsize fG hzs v l hs hown B A m c ys hx hr hn hm hbytes aV h
end
theorem Rd.one {α:Type} (e:Enc α) (w:World) (T:TypeId) (x:α) {g:Nat} (hg:g=w) {cs:Array Value} (qL:cs=(e.cells x).toArray) (c:Nat) (hc:1<=c) {B:Nat} (hB:g<B):Rd e (w.alloc (.cells cs T)) B (Aa (Ac ⟨g,0,Ab⟩) 1 c) [x]:=by
 refine ⟨_,c,rfl,by simpa using hc,fun _=>⟨g,0,rfl,hB,fun k hk j u hu=>?_⟩⟩;have cS:k=0:=by simpa using hk
 subst cS;simp only [List.getElem_cons_zero] at hu
 have:=Py w cs T hg j u (by rw [qL];simpa using hu)
 have ea:(⟨g,0,Ab⟩:Addr).add j=⟨g,0+0 * e.sz+j,Ab⟩:=by
  unfold Addr.add;split<;>simp_all
 rw [ea] at this;exact this
theorem Ow.empty {α:Type} (e:Enc α) (E:TypeId) (w:World) {g:Nat} (hg:g=w):Ow e E (w.alloc (.cells #[] E)) g (Aa (Ac ⟨g,0,Ab⟩) 0 0) []:=by
 subst hg;exact World.ownsRow_lit (base:=w.heap.size) (e:=E) (size:=e.sz) w #[] 0 (Br _) (by simp [maxLen]) Bm
theorem Wf (v:Value) (l:List Edge) (x:Edge) (w:World) (hl:l.length<=2000000) (h:Rd Gc w w v l) :
  Calls An 250 #[v,Y3 x] w fun e w'=>e = .returned (J U (E6 (fun y=>decide (x=y)) l))/\Below w w w':=by
 obtain ⟨A,c,rfl,-⟩:=id h;unfold Y3;go_enter Tryz.func250,Tryz.ntmps250;go_wp2;go_loopw [8] (fun i wr=>∃ k:Nat,k<=l.length/\i = J U k/\Hid (∀ j (hj:j<k) (hj':j<l.length),decide (x=l[j])=false)/\Below (w.alloc (.cells #[J U x.fr,J U x.to] 199)) (w.alloc (.cells #[J U x.fr,J U x.to] 199)) wr) (fun i _=>l.length - (intOf i).toNat);case atStart=>exact ⟨0,Ag _,rfl,fun j hj=>absurd hj Bk,Bq _ _⟩
 case round =>
  obtain ⟨k,hk,rfl,bZ,hb⟩:=hrel;have cZ:Below w w (w.alloc (.cells #[J U x.fr,J U x.to] 199)):=(Bq _ _).alloc (Br _) _;have bI:=Bs cZ hb;by_cases aA:k<l.length
  ·obtain ⟨b,o,rfl,aG,c0,c1⟩:=(h.below bI).edge aA;have n0:wr.cell? ⟨w,0,Ab⟩=Ac (J U x.fr):=(hb.cell (p:=⟨w,0,Ab⟩) Bm).trans (by go_simp);have n1:wr.cell? ⟨w,1,Ab⟩=Ac (J U x.to):=(hb.cell (p:=⟨w,1,Ab⟩) Bm).trans (by go_simp);by_cases hx:x=l[k]
   ·have H:=Bp (G7 (p:=fun y=>decide (x=y)) aA (fun j hj=>bZ.out j hj Bk) (show decide (x=l[k])=true by simp [hx]));have e0:l[k].fr=x.fr:=by rw [hx]
    have e1:l[k].to=x.to:=by rw [hx]
    rw [e0] at c0;rw [e1] at c1;clear hx e0 e1;go_wp2;go_quiet (fail);go_wp2;go_ret;exact ⟨Dg (by rw [H.out]),Cj bI _⟩
   ·have S:Hid (∀ j (hj:j<k+1) (hj':j<l.length),decide (x=l[j])=false):=by
     intro j hj hj';by_cases e:j=k
     ·subst e;simpa using hx
     ·exact bZ.out j Bk hj'
    have cD:¬ (x.fr=l[k].fr/\x.to=l[k].to):=fun ⟨e0,e1⟩=>hx (by cases x;cases sA:l[k];simp_all);clear hx;by_cases e0:x.fr=l[k].fr
    ·have e1:¬ x.to=l[k].to:=fun e=>cD ⟨e0,e⟩;have e1':(x.to == l[k].to)=false:=by simpa using e1
     rw [<-e0] at c0;clear cD e0;go_wp2;go_quiet (fail);go_wp2;exact ⟨⟨k+1,Bk,by go_num,S,Cj hb _⟩,by simp [intOf];omega⟩
    ·have e0':(x.fr == l[k].fr)=false:=by simpa using e0
     clear cD;go_wp2;go_quiet (fail);go_wp2;exact ⟨⟨k+1,Bk,by go_num,S,Cj hb _⟩,by simp [intOf];omega⟩
  ·have H:=Bp (Hg (p:=fun y=>decide (x=y)) (l:=l) (fun j hj=>bZ.out j Bk hj));go_wp2;go_ret;exact ⟨Dg (by rw [H.out]),bI⟩
theorem Ac2 {l:List Edge} {x:Edge} : (0<=E6 (fun y=>decide (x=y)) l) ↔ x∈l:=by
 unfold E6;cases h:l.findIdx? (fun y=>decide (x=y)) with
 | none =>
  rw [List.findIdx?_eq_none_iff] at h;simp only;refine ⟨fun h=>absurd h Bk,fun hx=>?_⟩
  have:=h x hx
  simp at this
 | some i =>
  rw [List.findIdx?_eq_some_iff_getElem] at h;obtain ⟨hi,hp,_⟩:=h;simp only [decide_eq_true_eq] at hp;simp only;exact ⟨fun _=>by rw [hp];exact Aw hi,fun _=>Bk⟩
theorem Lx (v:Value) (l:List Edge) (x:Edge) (w:World) (hl:l.length<=2000000) (h:Rd Gc w w v l) :
  Calls An 224 #[v,Y3 x] w fun e w'=>e = .returned (.bool (decide (x∈l)))/\Below w w w':=by
 have cZ:Below w w (w.alloc (.cells #[J U x.fr,J U x.to] 199)):=(Bq _ _).alloc (Br _) _;have H:=Bp (show decide (0<=E6 (fun y=>decide (x=y)) l)=decide (x∈l) from decide_eq_decide.2 Ac2);unfold Y3;go_enter Tryz.func224,Tryz.ntmps224;go_wp2_with fail
 refine (Wf v l x _ hl ((h.below cZ).more cZ.size)).mono ?_;rintro e w1 ⟨rfl,aQ⟩;go_wp2_with fail
 go_ret;exact ⟨Bw (by rw [<-H.out]),Bs cZ aQ⟩
theorem Nf {p:Plan} (h:D7 p=false):Cr p=1:=by unfold Cr;rw [if_pos h]
theorem Ng {p:Plan} (h:D7 p=true) (h2:¬ G6 p):Cr p=2:=by unfold Cr;rw [if_neg (by rw [h];simp),if_pos h2]
theorem M0 {p:Plan} (h:D7 p=true) (h2:G6 p) (h3:¬ p.edges.Nodup):Cr p=3:=by
 unfold Cr;rw [if_neg (by rw [h];simp),if_neg (by simpa using h2),if_pos h3]
theorem M1 {p:Plan} (h:D7 p=true) (h2:G6 p) (h3:p.edges.Nodup) (h4:Q2 p):Cr p=4:=by
 unfold Cr;rw [if_neg (by rw [h];simp),if_neg (by simpa using h2),if_neg (by simpa using h3),if_pos h4]
theorem Ku {α:Type} {l:List α} {x:α} : (l ++ [x]).Nodup ↔ l.Nodup/\x∉l:=by
 rw [Ax];constructor
 ·rintro ⟨h1,_,h2⟩;exact ⟨h1,fun hx=>h2 x hx x Bm rfl⟩
 ·rintro ⟨h1,h2⟩;refine ⟨h1,Bm,fun a ha b hb e=>?_⟩;simp only [List.mem_singleton] at hb;subst hb;subst e;exact h2 ha
theorem Pf (p:Plan) (ve:Value) (w:World) (hl:p.edges.length<=2000000) (h:Rd Gc w w ve p.edges) (hm:D7 p=false) :
  Calls An 164 #[Gd p ve] w fun e w'=>e = .returned (J U (Cr p))/\Below w w w':=by
 have H:=Bp (Nf hm);obtain ⟨A,c,rfl,-⟩:=id h;unfold Gd;cases h1:inB p.tasks 1 12
 ·clear hm;go_enter Tryz.func164,Tryz.ntmps164;go_wp2_with (go_at_call 58;refine (Cs _ _ _ _).mono ?_;rintro e w' ⟨rfl,rfl⟩)
  go_ret;exact ⟨Dg H.out.symm,(Bq _ _).alloc (Br _) _⟩
 by_cases h2:30<p.edges.length
 ·have h2':(30:Int)<(p.edges.length:Int):=Bk;clear hm;go_enter Tryz.func164,Tryz.ntmps164;go_wp2_with (go_at_call 58;refine (Cs _ _ _ _).mono ?_;rintro e w' ⟨rfl,rfl⟩)
  go_ret;exact ⟨Dg H.out.symm,(Bq _ _).alloc (Br _) _⟩
 have h2':¬ (30:Int)<(p.edges.length:Int):=Bk;cases h3:inB p.prio 0 9
 ·clear hm;go_enter Tryz.func164,Tryz.ntmps164;go_wp2_with (go_at_call 58;refine (Cs _ _ _ _).mono ?_;rintro e w' ⟨rfl,rfl⟩)
  go_ret;exact ⟨Dg H.out.symm,(Bq _ _).alloc (Br _) _⟩
 cases h4:inB p.most 1 5
 ·clear hm;go_enter Tryz.func164,Tryz.ntmps164;go_wp2_with (go_at_call 58;refine (Cs _ _ _ _).mono ?_;rintro e w' ⟨rfl,rfl⟩)
  go_ret;exact ⟨Dg H.out.symm,(Bq _ _).alloc (Br _) _⟩
 cases h5:inB p.wait 1 20
 ·clear hm;go_enter Tryz.func164,Tryz.ntmps164;go_wp2_with (go_at_call 58;refine (Cs _ _ _ _).mono ?_;rintro e w' ⟨rfl,rfl⟩)
  go_ret;exact ⟨Dg H.out.symm,(Bq _ _).alloc (Br _) _⟩
 ·exfalso;have:D7 p=true:=by simp [D7,h1,h3,h4,h5];omega
  rw [this] at hm;cases hm
section
def Ac3 (l:List Fence) (k:Nat):Prop:=∀ j (hj:j<l.length),j<k->fOk l[j]=true /\ ∀ h0:0<j,fBe l[j-1] l[j]=true
open Classical in
noncomputable def Ej (l:List Fence):Bool:=decide (l.length<=60) && decide (Ac3 l l.length)
theorem Q3 (v:Value) (l:List Fence) (w:World) (hl:l.length<=2000000) (h:Rd Ch w w v l) :
  Calls An 130 #[v] w fun e w'=>e = .returned (.bool (Ej l))/\Below w w w':=by
 obtain ⟨A,c,rfl,-⟩:=id h;by_cases hbig:60<l.length
 ·have H:=Bp (show Ej l=false by simp [Ej];omega);have dW:(60:Int)<(l.length:Int):=Bk;go_enter Tryz.func130,Tryz.ntmps130;go_wp2;go_ret;exact ⟨Bw H.out.symm,Bq _ _⟩
 have dW:¬ (60:Int)<(l.length:Int):=Bk;go_enter Tryz.func130,Tryz.ntmps130;go_wp2;go_loopw [3] (fun i wr=>∃ k:Nat,k<=l.length/\i = J U k/\Hid (Ac3 l k)/\Below w w wr) (fun i _=>l.length - (intOf i).toNat);case atStart=>exact ⟨0,Ag _,rfl,fun j hj h0=>absurd h0 Bk,Bq _ _⟩
 case round =>
  obtain ⟨k,hk,rfl,aU,hb⟩:=hrel;by_cases aA:k<l.length
  ·obtain ⟨b,o,rfl,aG,c0,c1,c2,c3⟩:=(h.below hb).fence aA;have bN:b<wr:=Ai aG hb.size;have aJ:=Cy wr;have step:fOk l[k]=true->(∀ h0:0<k,fBe l[k-1] l[k]=true)->Hid (Ac3 l (k+1)):=by
    intro a1 a2 j hj dN;by_cases e:j=k
    ·subst e;exact ⟨a1,a2⟩
    ·exact aU.out j hj Bk
   have bad:(fOk l[k]=false \/ ∃ h0:0<k,fBe l[k-1] l[k]=false)->Hid (Ej l=false):=by
    intro hh;unfold Hid;simp only [Ej,Bool.and_eq_false_iff,decide_eq_false_iff_not];right;intro ha;obtain ⟨a1,a2⟩:=ha k aA aA;rcases hh with hh | ⟨h0,hh⟩
    ·rw [a1] at hh;cases hh
    ·rw [a2 h0] at hh;cases hh
   cases t1:fOk l[k]
   ·have H:=bad (.inl t1);clear step bad;go_wp2;refine Bv Bl Bl ?_;repeat (go_big_quiet_step ((go_at_call 131;rename_i x;have h1:=Lw l[k] x.1;exact Ea h1)))
    refine Ak ?_;rintro _ ⟨⟨w1,aQ⟩,rfl⟩;clear aJ;go_wp2;go_ret;exact ⟨Bw H.out.symm,Bs hb aQ⟩
   ·by_cases cS:k=0
    ·subst cS;have S:=step t1 (fun h0=>absurd h0 Bk);clear step bad;simp only [Nat.zero_mul,Nat.add_zero] at c0 c1 c2 c3;go_wp2;refine Bv Bl Bl ?_;repeat (go_big_quiet_step ((go_at_call 131;rename_i x;have h1:=Lw l[0] x.1;exact Ea h1)))
     refine Ak ?_;rintro _ ⟨⟨w1,aQ⟩,rfl⟩;clear aJ;go_wp2;exact ⟨⟨0+1,Bk,by go_num,S,Bs hb aQ⟩,by simp [intOf];omega⟩
    ·have hkp:0<k:=Bk;obtain ⟨b',o',he,_,d0,d1,d2,d3⟩:=(h.below hb).fence (k:=k - 1) Bk;simp only [Option.some.injEq,Addr.mk.injEq,and_true] at he;obtain ⟨rfl,rfl⟩:=he;have nH:(0:Int)<(k:Int):=Bk;cases t2:fBe l[k-1] l[k]
     ·have H:=bad (.inr ⟨hkp,t2⟩);clear step bad;go_wp2;refine Bv Bl Bl ?_;repeat (go_big_quiet_step ((first
       | (go_at_call 131;rename_i x;have h1:=Lw l[k] x.1;exact Ea h1)
       | (go_at_call 132;rename_i x;have h1:=Ld _ (.inr rfl) l[k-1] l[k] x.1;exact Ea h1))))
      refine Ak ?_;rintro _ ⟨⟨w1,aQ⟩,rfl⟩;clear aJ;go_wp2;go_ret;exact ⟨Bw H.out.symm,Bs hb aQ⟩
     ·have S:=step t1 (fun _=>t2);clear step bad;go_wp2;refine Bv Bl Bl ?_;repeat (go_big_quiet_step ((first
       | (go_at_call 131;rename_i x;have h1:=Lw l[k] x.1;exact Ea h1)
       | (go_at_call 132;rename_i x;have h1:=Ld _ (.inr rfl) l[k-1] l[k] x.1;exact Ea h1))))
      refine Ak ?_;rintro _ ⟨⟨w1,aQ⟩,rfl⟩;clear aJ;go_wp2;exact ⟨⟨k+1,Bk,by go_num,S,Bs hb aQ⟩,by simp [intOf];omega⟩
  ·have H:=Bp (show Ej l=true by
    simp only [Ej,Bool.and_eq_true,decide_eq_true_eq];exact ⟨Bk,fun j hj _=>aU.out j hj Bk⟩)
   go_wp2;go_ret;exact ⟨Bw H.out.symm,hb⟩
theorem Ly (v:Value) (l:List Fence) (w:World) (hl:l.length<=2000000) (h:Rd Ch w w v l) :
  Calls An 21 #[v] w fun e w'=>e = .returned (.bool (Ej l))/\Below w w w':=by
 obtain ⟨A,c,rfl,-⟩:=id h;go_enter Tryz.func21,Tryz.ntmps21;go_wp2;go_loopw [7] (fun i wr=>∃ k:Nat,k<=l.length/\i = J U k/\Hid (Ac3 l k)/\Below w w wr) (fun i _=>l.length - (intOf i).toNat);case atStart=>exact ⟨0,Ag _,rfl,fun j hj h0=>absurd h0 Bk,Bq _ _⟩
 case round =>
  obtain ⟨k,hk,rfl,aU,hb⟩:=hrel;by_cases aA:k<l.length
  ·obtain ⟨b,o,rfl,aG,c0,c1,c2,c3⟩:=(h.below hb).fence aA;have hs:=hb.size;have bI:b<wr:=Bk;have bN:b<(wr.alloc (.cells #[J U l[k].run,J U l[k].task,J U l[k].try_,.string l[k].text] 65)):=by simp;omega
   have aJ:=Cy (wr.alloc (.cells #[J U l[k].run,J U l[k].task,J U l[k].try_,.string l[k].text] 65));have dD:wr.heap.size<(wr.alloc (.cells #[J U l[k].run,J U l[k].task,J U l[k].try_,.string l[k].text] 65)).heap.size:=Bm;have nC:Below w w (wr.alloc (.cells #[J U l[k].run,J U l[k].task,J U l[k].try_,.string l[k].text] 65)):=hb.alloc hb.size _;have step:fOk l[k]=true->(∀ h0:0<k,fBe l[k-1] l[k]=true)->Hid (Ac3 l (k+1)):=by
    intro a1 a2 j hj dN;by_cases e:j=k
    ·subst e;exact ⟨a1,a2⟩
    ·exact aU.out j hj Bk
   have bad:(fOk l[k]=false \/ ∃ h0:0<k,fBe l[k-1] l[k]=false)->Hid (Ej l=false):=by
    intro hh;unfold Hid;simp only [Ej,Bool.and_eq_false_iff,decide_eq_false_iff_not];right;intro ha;obtain ⟨a1,a2⟩:=ha k aA aA;rcases hh with hh | ⟨h0,hh⟩
    ·rw [a1] at hh;cases hh
    ·rw [a2 h0] at hh;cases hh
   cases t1:fOk l[k]
   ·have H:=bad (.inl t1);clear step bad;go_wp2;refine Bv Bl Bl ?_;repeat (go_big_quiet_step ((go_at_call 64;rename_i x;have h1:=Jw l[k] x.1;exact Ea h1)))
    refine Ak ?_;rintro _ ⟨⟨w1,aQ⟩,rfl⟩;clear aJ;go_wp2;go_ret;exact ⟨Bw H.out.symm,Bs nC aQ⟩
   ·by_cases cS:k=0
    ·subst cS;have S:=step t1 (fun h0=>absurd h0 Bk);clear step bad;simp only [Nat.zero_mul,Nat.add_zero] at c0 c1 c2 c3;go_wp2;refine Bv Bl Bl ?_;repeat (go_big_quiet_step ((go_at_call 64;rename_i x;have h1:=Jw l[0] x.1;exact Ea h1)))
     refine Ak ?_;rintro _ ⟨⟨w1,aQ⟩,rfl⟩;clear aJ;go_wp2;exact ⟨⟨0+1,Bk,by go_num,S,Bs nC aQ⟩,by simp [intOf];omega⟩
    ·have hkp:0<k:=Bk;obtain ⟨b',o',he,_,d0,d1,d2,d3⟩:=(h.below hb).fence (k:=k - 1) Bk;simp only [Option.some.injEq,Addr.mk.injEq,and_true] at he;obtain ⟨rfl,rfl⟩:=he;have nH:(0:Int)<(k:Int):=Bk;cases t2:fBe l[k-1] l[k]
     ·have H:=bad (.inr ⟨hkp,t2⟩);clear step bad;go_wp2;refine Bv Bl Bl ?_;repeat (go_big_quiet_step ((first
       | (go_at_call 64;rename_i x;have h1:=Jw l[k] x.1;exact Ea h1)
       | (go_at_call 65;rename_i x;have h1:=Ld _ (.inl rfl) l[k-1] l[k] x.1;exact Ea h1))))
      refine Ak ?_;rintro _ ⟨⟨w1,aQ⟩,rfl⟩;clear aJ;go_wp2;go_ret;exact ⟨Bw H.out.symm,Bs nC aQ⟩
     ·have S:=step t1 (fun _=>t2);clear step bad;go_wp2;refine Bv Bl Bl ?_;repeat (go_big_quiet_step ((first
       | (go_at_call 64;rename_i x;have h1:=Jw l[k] x.1;exact Ea h1)
       | (go_at_call 65;rename_i x;have h1:=Ld _ (.inl rfl) l[k-1] l[k] x.1;exact Ea h1))))
      refine Ak ?_;rintro _ ⟨⟨w1,aQ⟩,rfl⟩;clear aJ;go_wp2;exact ⟨⟨k+1,Bk,by go_num,S,Bs nC aQ⟩,by simp [intOf];omega⟩
  ·have hdone:Ac3 l l.length:=fun j hj _=>aU.out j hj Bk;have H:=Bp (show decide (l.length<=60)=Ej l by simp [Ej,hdone]);clear hdone;go_wp2;go_ret;refine ⟨Bw ?_,hb⟩;rw [<-H.out];exact decide_eq_decide.2 Bk
end
structure Sl where
 a:Option Addr
 n:Nat
 c:Nat
abbrev Sl.v (s:Sl):Value:=.slice s.a s.n s.c
structure Chg (F:List Nat) (w w':World):Prop where
 os:w'.os=w.os
 tape:w'.tape=w.tape
 output:w'.output=w.output
 size:w.heap.size<=w'.heap.size
 block:∀ b,b<w.heap.size->b∉F->w'.heap[b]? = w.heap[b]?
theorem Chg.refl (F:List Nat) (w:World):Chg F w w:=⟨rfl,rfl,rfl,Br _,fun _ _ _=>rfl⟩
theorem Chg.trans {F:List Nat} {a b c:World} (h:Chg F a b) (k:Chg F b c):Chg F a c :=
 ⟨k.os.trans h.os,k.tape.trans h.tape,k.output.trans h.output,Ah h.size k.size,fun i hi hn=>(k.block i (Ai hi h.size) hn).trans (h.block i hi hn)⟩
theorem Chg.mono {F G:List Nat} {a b:World} (h:Chg F a b) (hs:∀ x∈F,x∈G):Chg G a b:=⟨h.os,h.tape,h.output,h.size,fun i hi hn=>h.block i hi (fun hx=>hn (hs i hx))⟩
theorem Chg.of_below {a b:World} (F:List Nat) (h:Below a a b):Chg F a b:=⟨h.os,h.tape,h.output,h.size,fun i hi _=>h.block i hi⟩
theorem Chg.below {F:List Nat} {a b:World} (h:Chg F a b) {base:Nat} (hb:base<=a.heap.size) (hF:∀ x∈F,base<=x):Below base a b :=
 ⟨h.os,h.tape,h.output,h.size,fun i hi=>h.block i Bk (fun hx=>by have:=hF i hx;omega)⟩
theorem Chg.setCell (w:World) (b o:Nat) (u:Value):Chg [b] w (w.setCell ⟨b,o,Ab⟩ u) :=
 ⟨rfl,rfl,rfl,by simp [World.setCell],fun i _ hn=>Below.heap_setCell w ⟨b,o,Ab⟩ u i (by simpa using hn)⟩
theorem Chg.grown {F:List Nat} {a b:World} {row:Option Nat} (h:a.grownBy b row) (hr:∀ g,row=Ac g->g∈F):Chg F a b :=
 ⟨h.os,h.tape,h.output,h.size,fun i hi hn=>h.block i hi (fun e=>hn (hr i e.symm))⟩
theorem Chg.cell {F:List Nat} {w w':World} (h:Chg F w w') {p:Addr} (hp:p.block<w.heap.size) (hn:p.block∉F):w'.cell? p=w.cell? p:=World.cell?_of_block (h.block _ hp hn)
theorem Chg.frozen {F:List Nat} {w w':World} (h:Chg F w w') {p:Addr} (hp:p.block<w.heap.size) (hn:p.block∉F):w'.frozen? p=w.frozen? p:=World.frozen?_of_block (h.block _ hp hn)
section
variable {α:Type} {e:Enc α} {w w':World} {B B':Nat} {v:Value} {l:List α} {F G:List Nat}
def Eh (v:Value) (n:Nat):List Nat:=if n=0 then [] else v.ownBlock.toList
theorem I3 (v:Value) (n:Nat):(Eh v n).Nodup:=by
 unfold Eh;split
 ·exact List.nodup_nil
 ·cases v.ownBlock<;>simp
def Hw (e:Enc α) (w:World) (F:List Nat) (v:Value) (l:List α):Prop:=Rd e w w v l/\F=Eh v l.length /\ ∀ g∈F,∀ j,w.frozen? ⟨g,j,Ab⟩=false
theorem Rd.block_lt {A:Option Addr} {n c:Nat} (h:Rd e w B (Aa A n c) l):∀ b∈Eh (Aa A n c) l.length,b<B:=by
 intro b hb;obtain ⟨A',c',hv,_,hA⟩:=h;simp only [Value.slice.injEq] at hv;obtain ⟨rfl,rfl,rfl⟩:=hv;unfold Eh at hb;split at hb
 ·cases hb
 ·obtain ⟨b',o',rfl,aA,_⟩:=hA Bk;simp [Value.ownBlock] at hb;omega
theorem Rd.keepF (h:Rd e w B v l) (hB:B<=B') (hk:∀ b∈Eh v l.length,∀ o,w'.cell? ⟨b,o,Ab⟩=w.cell? ⟨b,o,Ab⟩):Rd e w' B' v l:=by
 obtain ⟨A,c,rfl,bT,hA⟩:=h;refine ⟨A,c,rfl,bT,fun hl=>?_⟩;obtain ⟨b,o,rfl,aA,hc⟩:=hA hl;refine ⟨b,o,rfl,Bk,fun k aZ j u hu=>?_⟩;rw [hk b (by unfold Eh;rw [if_neg Bk];simp [Value.ownBlock])];exact hc k aZ j u hu
theorem Hw.lt (h:Hw e w F v l):∀ b∈F,b<w:=by
 obtain ⟨hr,rfl,_⟩:=h;obtain ⟨A,c,rfl,_⟩:=id hr;exact hr.block_lt
theorem Hw.nodup (h:Hw e w F v l):F.Nodup:=by
 obtain ⟨_,rfl,_⟩:=h;exact I3 _ _
theorem Hw.keep (h:Hw e w F v l) (hs:w.heap.size<=w'.heap.size) (hk:∀ b∈F,w'.heap[b]? = w.heap[b]?):Hw e w' F v l:=by
 obtain ⟨hr,rfl,hf⟩:=h;refine ⟨hr.keepF hs (fun b hb o=>World.cell?_of_block (hk b hb)),rfl,fun g hg j=>?_⟩;rw [World.frozen?_of_block (w:=w) (hk g hg)];exact hf g hg j
theorem Hw.chg (h:Hw e w F v l) (hc:Chg G w w') (hd:∀ b∈F,b∉G):Hw e w' F v l:=h.keep hc.size fun b hb=>hc.block b (h.lt b hb) (hd b hb)
theorem Hw.below (h:Hw e w F v l) (hb:Below w w w'):Hw e w' F v l:=h.keep hb.size fun b hF=>hb.block b (h.lt b hF)
theorem Hw.rd (h:Hw e w F v l):Rd e w w v l:=h.1
theorem Hw.of_ow {E:TypeId} {base:Nat} (h:Ow e E w base v l):Hw e w (Eh v l.length) v l /\ ∀ b∈Eh v l.length,base<=b:=by
 have hr:=Rd.of_own h;rcases h.form with ⟨rfl,rfl⟩ | ⟨g,cap,rfl,h1,h2,_,_,hf,_⟩
 ·exact ⟨⟨hr,rfl,fun g hg=>by simp [Eh] at hg⟩,fun b hb=>by simp [Eh] at hb⟩
 ·have hb:∀ b∈Eh (Aa (Ac ⟨g,0,Ab⟩) l.length cap) l.length,b=g:=by
   intro b hb;unfold Eh at hb;split at hb
   ·cases hb
   ·simpa [Value.ownBlock] using hb
  exact ⟨⟨hr,rfl,fun b bE j=>by rw [hb b bE];exact hf j⟩,fun b bE=>by rw [hb b bE];exact h1⟩
theorem Hw.nil (e:Enc α) (w:World) (A:Option Addr) (c:Nat):Hw e w [] (Aa A 0 c) [] :=
 ⟨⟨A,c,rfl,Ag _,fun h=>absurd h Bm⟩,by simp [Eh],fun _ h=>by cases h⟩
theorem Hw.at_ {A:Option Addr} {n c:Nat} (h:Hw e w F (Aa A n c) l) (hp:0<l.length):∃ b o,A=Ac ⟨b,o,Ab⟩/\F=[b]/\b<w.heap.size/\(∀ j,w.frozen? ⟨b,j,Ab⟩=false):=by
 obtain ⟨hr,hF,hf⟩:=h;obtain ⟨A',c',hv,_,hA⟩:=id hr;simp only [Value.slice.injEq] at hv;obtain ⟨rfl,rfl,rfl⟩:=hv;obtain ⟨b,o,rfl,aA,_⟩:=hA hp;have hFb:F=[b]:=by
  rw [hF];unfold Eh;rw [if_neg Bk];rfl
 exact ⟨b,o,rfl,hFb,aA,fun j=>hf b (by rw [hFb];simp) j⟩
end
theorem Fb:∀ (us:List Value) (w:World) (b i:Nat),Chg [b] w (Io w b i us)
 | [],w,b,_=>Chg.refl [b] w
 | u :: us,w,b,i=>(Chg.setCell w b i u).trans (Fb us _ b (i+1))
theorem Km:∀ (us:List Value) (w:World) (b i:Nat),(Io w b i us).heap.size=w.heap.size
 | [],_,_,_=>rfl
 | u :: us,w,b,i=>by
  rw [Io,Km us];simp [World.setCell]
theorem Ke (w:World) (b o i:Nat) (u u0:Value) (h0:w.cell? ⟨b,o,Ab⟩=Ac u0) (hi:∃ x,w.cell? ⟨b,i,Ab⟩=Ac x) :
  (w.setCell ⟨b,i,Ab⟩ u).cell? ⟨b,o,Ab⟩=Ac (if o=i then u else u0):=by
 by_cases h:o=i
 ·subst h;rw [if_pos rfl];obtain ⟨x,hx⟩:=hi;simp [go_sem,hx]
 ·rw [if_neg h]
  have:=h0
  simp [go_sem,this]
theorem Q4:∀ (us:List Value) (w:World) (b i o:Nat) (u0:Value),(∀ j,j<us.length -> ∃ x,w.cell? ⟨b,i+j,Ab⟩=Ac x)->w.cell? ⟨b,o,Ab⟩=Ac u0 ->
  (Io w b i us).cell? ⟨b,o,Ab⟩=Ac (if h:i<=o/\o<i+us.length then us[o - i]' Bk else u0)
 | [],w,b,i,o,u0,_,h0=>by
  rw [Io,h0,dif_neg Bm]
 | u :: us,w,b,i,o,u0,hx,h0=>by
  have h1:=Ke w b o i u u0 h0 (by simpa using hx 0 Bm);have h2:=Q4 us (w.setCell ⟨b,i,Ab⟩ u) b (i+1) o _ (fun j hj=>by
   obtain ⟨x,cD⟩:=hx (j+1) (by simpa using hj);exact ⟨_,Ke w b (i+1+j) i u x (by rw [show i+1+j=i+(j+1) from by omega];exact cD) (by simpa using hx 0 Bm)⟩) h1
  rw [Io,h2];congr 1;by_cases ho:o=i
  ·subst ho;rw [dif_neg Bk,if_pos rfl,dif_pos Bm];simp
  ·by_cases cR:i+1<=o/\o<i+1+us.length
   ·rw [dif_pos cR,dif_pos (by simp only [List.length_cons];omega)];have:o - i=(o - (i+1))+1:=Bk;simp only [this,List.getElem_cons_succ]
   ·rw [dif_neg cR,if_neg ho,dif_neg (by simp only [List.length_cons];omega)]
theorem Hz (w:World) (a:Addr) (u:Value) (p:Addr):(w.setCell a u).frozen? p=w.frozen? p:=by simp [go_sem]
theorem Iy:∀ (us:List Value) (w:World) (b i:Nat) (p:Addr),(Io w b i us).frozen? p=w.frozen? p
 | [],_,_,_,_=>rfl
 | u :: us,w,b,i,p=>by rw [Io,Iy us,Hz]
theorem Rd.part {α:Type} {e:Enc α} {w:World} {B b o n c:Nat} {l:List α} (h:Rd e w B (Aa (Ac ⟨b,o,Ab⟩) n c) l) (k:Nat) (hk:k<l.length) (y:α) (off:Nat) (us:List Value) (hoff:off+us.length<=e.sz)
  (cR:∀ j (hj:j<us.length),(e.cells y)[off+j]? = Ac us[j]) (eZ:∀ j,j<e.sz->(j<off\/off+us.length<=j)->(e.cells y)[j]? = (e.cells l[k])[j]?) :
  Rd e (Io w b (o+k * e.sz+off) us) B (Aa (Ac ⟨b,o,Ab⟩) n c) (l.set k y):=by
 obtain ⟨A',c',hv,bT,hA⟩:=h;simp only [Value.slice.injEq] at hv;obtain ⟨rfl,rfl,rfl⟩:=hv;refine ⟨_,c,by rw [Bg],by rw [Bg];exact bT,fun _=>?_⟩;obtain ⟨b',o',he,aA,hc⟩:=hA Bk;simp only [Option.some.injEq,Addr.mk.injEq,and_true] at he;obtain ⟨rfl,rfl⟩:=he;refine ⟨b,o,rfl,aA,fun i aL j u hu=>?_⟩;have hi:i<l.length:=by rw [Bg] at aL;exact aL
 have hj:j<e.sz:=by
  have:=(List.getElem?_eq_some_iff.1 hu).1
  rw [e.len] at this;exact this
 have hex:∀ j',j'<us.length -> ∃ x,w.cell? ⟨b,o+k * e.sz+off+j',Ab⟩=Ac x:=fun j' hj'=>by
  have hlt':off+j'<(e.cells l[k]).length:=by rw [e.len];omega
  exact ⟨_,by rw [Nat.add_assoc];exact hc k hk (off+j') _ (List.getElem?_eq_getElem hlt')⟩
 by_cases hik:i=k
 ·subst hik;rw [List.getElem_set_self] at hu;have rJ:j<(e.cells l[i]).length:=by rw [e.len];exact hj
  have h0:=hc i hi j _ (List.getElem?_eq_getElem rJ);have h1:=Q4 us w b (o+i * e.sz+off) (o+i * e.sz+j) _ hex h0;rw [h1];by_cases hr:off<=j/\j<off+us.length
  ·rw [dif_pos Bk];have h2:=cR (j - off) Bk;rw [show off+(j - off)=j from Bk,hu] at h2;have h3:o+i * e.sz+j - (o+i * e.sz+off)=j - off:=Bk;simp only [h3];exact h2.symm
  ·rw [dif_neg Bk];have h2:=eZ j hj Bk;rw [hu,List.getElem?_eq_getElem rJ] at h2;exact h2.symm
 ·rw [List.getElem_set_ne Bk] at hu;have h0:=hc i hi j u hu;have h1:=Q4 us w b (o+k * e.sz+off) (o+i * e.sz+j) _ hex h0;rw [h1,dif_neg];intro hh;rcases Nat.lt_or_gt_of_ne hik with h | h
  ·have:(i+1) * e.sz<=k * e.sz:=Nat.mul_le_mul_right _ h;rw [Nat.succ_mul] at this;omega
  ·have:(k+1) * e.sz<=i * e.sz:=Nat.mul_le_mul_right _ h;rw [Nat.succ_mul] at this;omega
theorem Rd.same {α:Type} {e:Enc α} {w:World} {B:Nat} {v:Value} {l:List α} (h:Rd e w B v l) (k:Nat) (hk:k<l.length) (y:α) (hy:e.cells y=e.cells l[k]):Rd e w B v (l.set k y):=by
 obtain ⟨A,c,rfl,bT,hA⟩:=h;refine ⟨A,c,by rw [Bg],by rw [Bg];exact bT,fun hl=>?_⟩;rw [Bg] at hl;obtain ⟨b,o,hb,aA,hc⟩:=hA hl;refine ⟨b,o,hb,aA,fun i aL j u hu=>?_⟩;have hi:i<l.length:=by rw [Bg] at aL;exact aL
 refine hc i hi j u ?_;by_cases hik:k=i
 ·subst hik;rw [List.getElem_set_self,hy] at hu;exact hu
 ·rw [List.getElem_set_ne hik] at hu;exact hu
structure Dt (α:Type) where
 S:Type
 enc:Enc (α×S)
 rd:World->Nat->α->S->Prop
 ow:World->List Nat->α->S->Prop
 rd_keep:∀ {w w':World} {B B':Nat} {x:α} {s:S},rd w B x s->B<=B'->(∀ p:Addr,p.block<B->w'.cell? p=w.cell? p)->rd w' B' x s
 ow_keep:∀ {w w':World} {F:List Nat} {x:α} {s:S},ow w F x s->w.heap.size<=w'.heap.size->(∀ b∈F,w'.heap[b]? = w.heap[b]?)->ow w' F x s
 ow_lt:∀ {w:World} {F:List Nat} {x:α} {s:S},ow w F x s -> ∀ b∈F,b<w
 ow_rd:∀ {w:World} {F:List Nat} {x:α} {s:S},ow w F x s->rd w w x s
 ow_nodup:∀ {w:World} {F:List Nat} {x:α} {s:S},ow w F x s->F.Nodup
section
variable {α:Type} {d:Dt α} {w w':World} {B B':Nat} {v:Value} {l:List α} {F G:List Nat}
def RdL (d:Dt α) (w:World) (B:Nat) (v:Value) (l:List α):Prop:=∃ rs:List (α×d.S),rs.map (·.1)=l/\Rd d.enc w B v rs /\ ∀ r∈rs,d.rd w B r.1 r.2
theorem RdL.keep (h:RdL d w B v l) (hB:B<=B') (hk:∀ p:Addr,p.block<B->w'.cell? p=w.cell? p):RdL d w' B' v l:=by
 obtain ⟨rs,hm,hr,ha⟩:=h;exact ⟨rs,hm,(hr.keep hk).more hB,fun r hx=>d.rd_keep (ha r hx) hB hk⟩
theorem RdL.below (h:RdL d w B v l) (hb:Below B w w'):RdL d w' B v l:=h.keep (Br _) fun _ hp=>hb.cell hp
theorem RdL.more (h:RdL d w B v l) (hB:B<=B'):RdL d w B' v l:=h.keep hB fun _ _=>rfl
theorem RdL.form (h:RdL d w B v l):∃ A c,v = Aa A l.length c/\l.length<=c:=by
 obtain ⟨rs,rfl,⟨A,c,hv,hc,_⟩,_⟩:=h;exact ⟨A,c,by rw [Au];exact hv,by rw [Au];exact hc⟩
theorem RdL.at_ {A:Option Addr} {n c:Nat} (h:RdL d w B (Aa A n c) l) (k:Nat) (hk:k<l.length):∃ b o s,A=Ac ⟨b,o,Ab⟩/\b<B /\
  (∀ j u,(d.enc.cells (l[k],s))[j]? = Ac u->w.cell? ⟨b,o+k * d.enc.sz+j,Ab⟩=Ac u)/\d.rd w B l[k] s:=by
 obtain ⟨rs,rfl,⟨A',c',hv,_,hA⟩,ha⟩:=h;simp only [Value.slice.injEq] at hv;obtain ⟨rfl,_,_⟩:=hv;rw [Au] at hk;obtain ⟨b,o,bJ,hb,hc⟩:=hA Bk;have e:(rs.map (·.1))[k]'(by rw [Au];exact hk)=rs[k].1:=by rw [List.getElem_map]
 refine ⟨b,o,rs[k].2,bJ,hb,fun j u hu=>?_,?_⟩
 ·rw [e] at hu;exact hc k hk j u hu
 ·rw [e];exact ha _ (Aw hk)
inductive Ows (d:Dt α) (w:World):List Nat->List (α×d.S)->Prop
 | nil:Ows d w [] []
 | cons {F G:List Nat} {r:α×d.S} {rs:List (α×d.S)} : d.ow w F r.1 r.2->Ows d w G rs->Ows d w (F ++ G) (r :: rs)
theorem Ows.keep {rs:List (α×d.S)} (h:Ows d w F rs) (hs:w.heap.size<=w'.heap.size) (hk:∀ b∈F,w'.heap[b]? = w.heap[b]?):Ows d w' F rs:=by
 induction h with
 | nil=>exact .nil
 | cons h1 _ ih=>exact .cons (d.ow_keep h1 hs fun b hb=>hk b (Be _ hb)) (ih fun b hb=>hk b (Bd _ hb))
theorem Ows.lt {rs:List (α×d.S)} (h:Ows d w F rs):∀ b∈F,b<w:=by
 induction h with
 | nil=>intro b hb;cases hb
 | cons h1 _ ih =>
  intro b hb;rcases Bh.1 hb with hb | hb
  ·exact d.ow_lt h1 b hb
  ·exact ih b hb
theorem Ows.rd {rs:List (α×d.S)} (h:Ows d w F rs):∀ r∈rs,d.rd w w r.1 r.2:=by
 induction h with
 | nil=>intro r hr;cases hr
 | cons h1 _ ih =>
  intro r hr;rcases List.mem_cons.1 hr with rfl | hr
  ·exact d.ow_rd h1
  ·exact ih r hr
theorem Ows.append {rs ts:List (α×d.S)} (h:Ows d w F rs) (k:Ows d w G ts):Ows d w (F ++ G) (rs ++ ts):=by
 induction h with
 | nil=>exact k
 | cons h1 _ ih =>
  rw [List.append_assoc];exact .cons h1 ih
theorem Ows.one {r:α×d.S} (h:d.ow w F r.1 r.2):Ows d w F [r]:=by
 have:=Ows.cons h (Ows.nil (d:=d) (w:=w))
 rwa [List.append_nil] at this
theorem Ows.split {rs:List (α×d.S)} (h:Ows d w F rs) (k:Nat) (hk:k<=rs.length):∃ F1 F2,F=F1 ++ F2/\Ows d w F1 (rs.take k)/\Ows d w F2 (rs.drop k):=by
 induction h generalizing k with
 | nil=>exact ⟨[],[],rfl,by simpa using Ows.nil,by simpa using Ows.nil⟩
 | @cons F G r rs h1 h2 ih =>
  cases k with
  | zero=>exact ⟨[],F ++ G,rfl,by simpa using Ows.nil,by simpa using Ows.cons h1 h2⟩
  | succ k =>
   obtain ⟨F1,F2,rfl,h3,h4⟩:=ih k (by simpa using hk);exact ⟨F ++ F1,F2,by rw [List.append_assoc],by simpa using Ows.cons h1 h3,by simpa using h4⟩
theorem Ows.head {r:α×d.S} {rs:List (α×d.S)} (h:Ows d w F (r :: rs)):∃ F1 F2,F=F1 ++ F2/\d.ow w F1 r.1 r.2/\Ows d w F2 rs:=by
 cases h with
 | cons h1 h2=>exact ⟨_,_,rfl,h1,h2⟩
def OwL (d:Dt α) (w:World) (F:List Nat) (v:Value) (l:List α):Prop :=
 ∃ (rs:List (α×d.S)) (H G:List Nat),rs.map (·.1)=l/\Hw d.enc w H v rs/\Ows d w G rs/\F=H ++ G/\F.Nodup
theorem OwL.keep (h:OwL d w F v l) (hs:w.heap.size<=w'.heap.size) (hk:∀ b∈F,w'.heap[b]? = w.heap[b]?):OwL d w' F v l:=by
 obtain ⟨rs,H,G,hm,hh,ho,rfl,hn⟩:=h;exact ⟨rs,H,G,hm,hh.keep hs fun b hb=>hk b (Be _ hb),ho.keep hs fun b hb=>hk b (Bd _ hb),rfl,hn⟩
theorem OwL.lt (h:OwL d w F v l):∀ b∈F,b<w:=by
 obtain ⟨rs,H,G,hm,hh,ho,rfl,hn⟩:=h;intro b hb;rcases Bh.1 hb with hb | hb
 ·exact hh.lt b hb
 ·exact ho.lt b hb
theorem OwL.nodup (h:OwL d w F v l):F.Nodup:=by
 obtain ⟨rs,H,G,hm,hh,ho,rfl,hn⟩:=h;exact hn
theorem OwL.rd (h:OwL d w F v l):RdL d w w v l:=by
 obtain ⟨rs,H,G,hm,hh,ho,rfl,hn⟩:=h;exact ⟨rs,hm,hh.rd,ho.rd⟩
theorem OwL.chg (h:OwL d w F v l) (hc:Chg G w w') (hd:∀ b∈F,b∉G):OwL d w' F v l:=h.keep hc.size fun b hb=>hc.block b (h.lt b hb) (hd b hb)
theorem OwL.below (h:OwL d w F v l) (hb:Below w w w'):OwL d w' F v l:=h.keep hb.size fun b hF=>hb.block b (h.lt b hF)
theorem OwL.nil (d:Dt α) (w:World) (A:Option Addr) (c:Nat):OwL d w [] (Aa A 0 c) []:=⟨[],[],[],rfl,Hw.nil _ _ _ _,.nil,rfl,List.nodup_nil⟩
theorem OwL.form (h:OwL d w F v l):∃ A c,v = Aa A l.length c/\l.length<=c:=h.rd.form
@[reducible] def Dt.list (d:Dt α):Dt (List α) where
 S:=Sl
 enc:={ cells:=fun p=>[p.2.v],sz:=1,len:=fun _=>rfl,one:=fun p u hu=>by simp at hu;subst hu;rfl }
 rd w B l s:=RdL d w B s.v l
 ow w F l s:=OwL d w F s.v l
 rd_keep h hB hk:=h.keep hB hk
 ow_keep h hs hk:=h.keep hs hk
 ow_lt h:=h.lt
 ow_rd h:=h.rd
 ow_nodup h:=h.nodup
@[reducible] def Dt.flats (e:Enc α):Dt (List α) where
 S:=Sl
 enc:={ cells:=fun p=>[p.2.v],sz:=1,len:=fun _=>rfl,one:=fun p u hu=>by simp at hu;subst hu;rfl }
 rd w B l s:=Rd e w B s.v l
 ow w F l s:=Hw e w F s.v l
 rd_keep h hB hk:=(h.keep hk).more hB
 ow_keep h hs hk:=h.keep hs hk
 ow_lt h:=h.lt
 ow_rd h:=h.rd
 ow_nodup h:=h.nodup
@[reducible] def Dt.flat {β:Type} (cells:β×Unit->List Value) (sz:Nat) (len:∀ x,(cells x).length=sz) (one:∀ x,∀ u∈cells x,u.oneCell'=true):Dt β where
 S:=Unit
 enc:={ cells:=cells,sz:=sz,len:=len,one:=one }
 rd _ _ _ _:=True
 ow _ F _ _:=F=[]
 rd_keep _ _ _:=trivial
 ow_keep h _ _:=h
 ow_lt h:=by subst h;intro b hb;cases hb
 ow_rd _:=trivial
 ow_nodup h:=by subst h;exact List.nodup_nil
@[reducible] def Dt.via {β:Type} (d:Dt α) (f:β->α) (cells:β×d.S->List Value) (sz:Nat) (len:∀ x,(cells x).length=sz) (one:∀ x,∀ u∈cells x,u.oneCell'=true):Dt β where
 S:=d.S
 enc:={ cells:=cells,sz:=sz,len:=len,one:=one }
 rd w B x s:=d.rd w B (f x) s
 ow w F x s:=d.ow w F (f x) s
 rd_keep h hB hk:=d.rd_keep h hB hk
 ow_keep h hs hk:=d.ow_keep h hs hk
 ow_lt h:=d.ow_lt h
 ow_rd h:=d.ow_rd h
 ow_nodup h:=d.ow_nodup h
@[reducible] def Dt.two {β γ:Type} (d:Dt α) (d':Dt γ) (f:β->α) (g:β->γ) (cells:β×(d.S×d'.S)->List Value) (sz:Nat) (len:∀ x,(cells x).length=sz) (one:∀ x,∀ u∈cells x,u.oneCell'=true):Dt β where
 S:=d.S×d'.S
 enc:={ cells:=cells,sz:=sz,len:=len,one:=one }
 rd w B x s:=d.rd w B (f x) s.1/\d'.rd w B (g x) s.2
 ow w F x s:=∃ F1 F2,F=F1 ++ F2/\F.Nodup/\d.ow w F1 (f x) s.1/\d'.ow w F2 (g x) s.2
 rd_keep h hB hk:=⟨d.rd_keep h.1 hB hk,d'.rd_keep h.2 hB hk⟩
 ow_keep:=fun ⟨F1,F2,hF,hn,h1,h2⟩ hs hk=>⟨F1,F2,hF,hn,d.ow_keep h1 hs fun b hb=>hk b (by rw [hF];exact Be _ hb),d'.ow_keep h2 hs fun b hb=>hk b (by rw [hF];exact Bd _ hb)⟩
 ow_lt:=fun ⟨F1,F2,hF,hn,h1,h2⟩ b hb=>by
  rw [hF] at hb
  rcases Bh.1 hb with hb | hb
  ·exact d.ow_lt h1 b hb
  ·exact d'.ow_lt h2 b hb
 ow_rd:=fun ⟨F1,F2,hF,hn,h1,h2⟩=>⟨d.ow_rd h1,d'.ow_rd h2⟩
 ow_nodup:=fun ⟨F1,F2,hF,hn,h1,h2⟩=>hn
theorem Dt.ow_chg (d:Dt α) {x:α} {s:d.S} (h:d.ow w F x s) (hc:Chg G w w') (hd:∀ b∈F,b∉G):d.ow w' F x s:=d.ow_keep h hc.size fun b hb=>hc.block b (d.ow_lt h b hb) (hd b hb)
theorem Dt.ow_below (d:Dt α) {x:α} {s:d.S} (h:d.ow w F x s) (hb:Below w w w'):d.ow w' F x s:=d.ow_keep h hb.size fun b hF=>hb.block b (d.ow_lt h b hF)
theorem Dt.rd_below (d:Dt α) {x:α} {s:d.S} (h:d.rd w B x s) (hb:Below B w w'):d.rd w' B x s:=d.rd_keep h (Br _) fun _ hp=>hb.cell hp
theorem Dt.rd_more (d:Dt α) {x:α} {s:d.S} (h:d.rd w B x s) (hB:B<=B'):d.rd w B' x s:=d.rd_keep h hB fun _ _=>rfl
def Fc (d:Dt α) (val:α->d.S->Value) (x:α) (w:World) (e:Ending) (w':World):Prop :=
 ∃ s F,e = .returned (val x s)/\d.ow w' F x s/\(∀ b∈F,w<=b)/\Below w w w'
end
section
variable {α:Type} {d:Dt α} {w w':World} {v:Value} {l:List α} {F G:List Nat}
theorem Dt.ow_set (d:Dt α) {x:α} {s:d.S} (h:d.ow w F x s) {a:Addr} (ha:a.block∉F) (u:Value):d.ow (w.setCell a u) F x s :=
 d.ow_keep h (by simp [World.setCell]) fun b hb=>Below.heap_setCell w a u b (fun e=>ha (by rw [<-e];exact hb))
theorem OwL.set (h:OwL d w F v l) {a:Addr} (ha:a.block∉F) (u:Value):OwL d (w.setCell a u) F v l :=
 h.keep (by simp [World.setCell]) fun b hb=>Below.heap_setCell w a u b (fun e=>ha (by rw [<-e];exact hb))
theorem Hw.set {e:Enc α} (h:Hw e w F v l) {a:Addr} (ha:a.block∉F) (u:Value):Hw e (w.setCell a u) F v l :=
 h.keep (by simp [World.setCell]) fun b hb=>Below.heap_setCell w a u b (fun e=>ha (by rw [<-e];exact hb))
theorem Ows.bel {rs:List (α×d.S)} (h:Ows d w F rs) (hb:Below w w w'):Ows d w' F rs:=h.keep hb.size fun b hF=>hb.block b (h.lt b hF)
theorem Ows.chg {rs:List (α×d.S)} (h:Ows d w F rs) (hc:Chg G w w') (hd:∀ b∈F,b∉G):Ows d w' F rs:=h.keep hc.size fun b hb=>hc.block b (h.lt b hb) (hd b hb)
end
theorem H6 (v:Value) (n:Nat):∀ b∈Eh v n,v.ownBlock=Ac b:=by
 intro b hb;unfold Eh at hb;split at hb
 ·cases hb
 ·cases h:v.ownBlock with
  | none=>rw [h] at hb;cases hb
  | some g =>
   rw [h] at hb;simp at hb;rw [hb]
section
variable {α:Type} {d:Dt α} {E:TypeId} {w w1 w':World} {base:Nat} {v:Value} {rs:List (α×d.S)}
def Bld (d:Dt α) (E:TypeId) (w:World) (base:Nat) (v:Value) (rs:List (α×d.S)):Prop :=
 ∃ G,Ow d.enc E w base v rs/\Ows d w G rs/\G.Nodup /\ ∀ b∈G,base<=b/\v.ownBlock≠Ac b
theorem Bld.nil (d:Dt α) (E:TypeId) (w:World) (base:Nat):Bld d E w base (Aa Ab 0 0) []:=⟨[],Ow.nil _ _ _ _,.nil,List.nodup_nil,fun _ h=>by cases h⟩
theorem Bld.of_empty {v:Value} (h:Ow d.enc E w base v []):Bld d E w base v []:=⟨[],h,.nil,List.nodup_nil,fun _ h=>by cases h⟩
theorem Bld.below (h:Bld d E w base v rs) (hb:Below w w w'):Bld d E w' base v rs:=by
 obtain ⟨G,h1,h2,h3,h4⟩:=h;exact ⟨G,h1.below hb,h2.bel hb,h3,h4⟩
theorem Bld.ow (h:Bld d E w base v rs):Ow d.enc E w base v rs:=by
 obtain ⟨G,h1,_⟩:=h;exact h1
theorem Bld.rd (h:Bld d E w base v rs):RdL d w w v (rs.map (·.1)):=by
 obtain ⟨G,h1,h2,_⟩:=h;exact ⟨rs,rfl,Rd.of_own h1,h2.rd⟩
theorem Bld.push {v3:Value} {w3:World} {ts:List (α×d.S)} {F:List Nat} (h:Bld d E w base v rs) (hb:Below w w w1) (ht:Ows d w1 F ts) (hF:∀ b∈F,w<=b) (hn:F.Nodup) (aV:base<=w.heap.size)
  (ho:Ow d.enc E w3 base v3 (rs ++ ts)) (hg:w1.grownBy w3 v.ownBlock) (hv:v3.ownBlock=v.ownBlock \/ ∃ g,v3.ownBlock=Ac g/\w1.heap.size<=g):Bld d E w3 base v3 (rs ++ ts):=by
 obtain ⟨G,h1,h2,h3,h4⟩:=h;have hG:∀ b∈G,b<w:=h2.lt;have cL:∀ b∈F,b<w1:=ht.lt;have pT:∀ b∈F,v.ownBlock≠Ac b:=fun b hb he=>by
  rcases h1.form with ⟨rfl,_⟩ | ⟨g,cap,rfl,_,aA,_⟩
  ·simp [Value.ownBlock] at he
  ·have:g=b:=by simpa [Value.ownBlock] using he
   have:=hF b hb
   omega
 have hs:=hb.size;refine ⟨G ++ F,ho,?_,?_,?_⟩
 ·refine Ows.append ((h2.bel hb).keep hg.size fun b hbG=>hg.block b (by have:=hG b hbG;omega) ?_) (ht.keep hg.size fun b cN=>hg.block b (cL b cN) ?_)
  ·exact fun e=>(h4 b hbG).2 e.symm
  ·exact fun e=>pT b cN e.symm
 ·rw [Ax];refine ⟨h3,hn,fun a ha b bE e=>?_⟩
  have:=hG a ha
  have:=hF b bE
  omega
 ·intro b aW;rcases Bh.1 aW with aW | aW
  ·refine ⟨(h4 b aW).1,?_⟩;rcases hv with hv | ⟨g,hv,aA⟩
   ·rw [hv];exact (h4 b aW).2
   ·rw [hv];intro e
    have:=hG b aW
    injection e with e
    omega
  ·refine ⟨by have:=hF b aW;omega,?_⟩;rcases hv with hv | ⟨g,hv,aA⟩
   ·rw [hv];exact pT b aW
   ·rw [hv];intro e
    have:=cL b aW
    injection e with e
    omega
theorem Bld.owl (h:Bld d E w base v rs) {l:List α} (hl:rs.map (·.1)=l):∃ F,OwL d w F v l /\ ∀ b∈F,base<=b:=by
 obtain ⟨G,h1,h2,h3,h4⟩:=h;obtain ⟨h5,h6⟩:=Hw.of_ow h1;refine ⟨_,⟨rs,_,G,hl,h5,h2,rfl,?_⟩,?_⟩
 ·rw [Ax];refine ⟨I3 _ _,h3,fun a ha b hb e=>?_⟩;subst e;exact (h4 a hb).2 (H6 _ _ _ ha)
 ·intro b hb;rcases Bh.1 hb with hb | hb
  ·exact h6 b hb
  ·exact (h4 b hb).1
end
abbrev slV {α:Type} (_:α) (s:Sl):Value:=.slice s.a s.n s.c
section
variable {α:Type} {d:Dt α} {w w':World} {b o n c j:Nat} {rs:List (α×d.S)} {G1 Fx G2:List Nat} {x y:α} {s:d.S}
structure Foc (d:Dt α) (w:World) (b o n c:Nat) (rs:List (α×d.S)) (j:Nat) (G1 Fx G2:List Nat) (x:α) (s:d.S):Prop where
 rd:Rd d.enc w w (.slice (some ⟨b,o,none⟩) n c) (rs.set j (x,s))
 free:∀ i,w.frozen? ⟨b,i,none⟩=false
 left:Ows d w G1 (rs.take j)
 here:d.ow w Fx x s
 right:Ows d w G2 (rs.drop (j+1))
 lt:j<rs.length
 nodup:([b] ++ (G1 ++ (Fx ++ G2))).Nodup
 blk:b<w
theorem Foc.apart (h:Foc d w b o n c rs j G1 Fx G2 x s):(b∉G1/\b∉Fx/\b∉G2)/\(∀ a∈G1,a∉Fx)/\(∀ a∈G2,a∉Fx):=by
 have h1:=h.nodup;simp only [List.cons_append,List.nil_append,List.nodup_cons,Bh,not_or,Ax] at h1;obtain ⟨⟨a1,a2,a3⟩,_,⟨_,_,a4⟩,a5⟩:=h1;exact ⟨⟨a1,a2,a3⟩,fun a ha hx=>a5 a ha a (.inl hx) rfl,fun a ha hx=>a4 a hx a ha rfl⟩
theorem Foc.cells (h:Foc d w b o n c rs j G1 Fx G2 x s):∀ i u,(d.enc.cells (x,s))[i]? = Ac u->w.cell? ⟨b,o+j * d.enc.sz+i,Ab⟩=Ac u:=by
 intro i u hu;obtain ⟨A',c',hv,_,hA⟩:=h.rd;simp only [Value.slice.injEq] at hv;obtain ⟨rfl,_,_⟩:=hv;have hl:j<(rs.set j (x,s)).length:=by rw [Bg];exact h.lt
 obtain ⟨b',o',he,_,hc⟩:=hA Bk;simp only [Option.some.injEq,Addr.mk.injEq,and_true] at he;obtain ⟨rfl,rfl⟩:=he;exact hc j hl i u (by rw [List.getElem_set_self];exact hu)
theorem Foc.sub (h:Foc d w b o n c rs j G1 Fx G2 x s) (hc:Chg Fx w w') (hy:d.ow w' Fx y s) (hcells:d.enc.cells (y,s)=d.enc.cells (x,s)):Foc d w' b o n c rs j G1 Fx G2 y s:=by
 obtain ⟨⟨a1,a2,a3⟩,a4,a5⟩:=h.apart;refine ⟨?_,fun i=>by rw [hc.frozen (p:=⟨b,i,Ab⟩) h.blk a2];exact h.free i,h.left.chg hc a4,hy,h.right.chg hc a5,h.lt,h.nodup,Ai h.blk hc.size⟩;have hl:j<(rs.set j (x,s)).length:=by rw [Bg];exact h.lt
 have h1:=h.rd.keepF (w':=w') hc.size (fun b' bE i=>by
  have:=H6 _ _ _ bE
  have:b=b':=by simpa [Value.ownBlock] using this
  subst this;exact hc.cell (p:=⟨b,i,Ab⟩) h.blk a2)
 have h2:=h1.same j hl (y,s) (by rw [List.getElem_set_self];exact hcells);rwa [List.set_set] at h2
theorem Foc.start {F1 F2:List Nat} (hr:Rd d.enc w w (Aa (Ac ⟨b,o,Ab⟩) n c) rs) (hf:∀ i,w.frozen? ⟨b,i,Ab⟩=false) (h1:Ows d w F1 (rs.take j)) (h2:Ows d w F2 (rs.drop j)) (hj:j<rs.length) (hn:([b] ++ (F1 ++ F2)).Nodup) (hb:b<w) :
  ∃ Fx G2,F2=Fx ++ G2/\Foc d w b o n c rs j F1 Fx G2 rs[j].1 rs[j].2:=by
 rw [<-List.getElem_cons_drop hj] at h2;obtain ⟨Fx,G2,rfl,h3,h4⟩:=h2.head;refine ⟨Fx,G2,rfl,⟨?_,hf,h1,h3,h4,hj,hn,hb⟩⟩;have:rs.set j (rs[j].1,rs[j].2)=rs:=List.set_getElem_self hj;rw [this];exact hr
end
theorem OwL.foc {α:Type} {d:Dt α} {w:World} {F:List Nat} {A:Option Addr} {n c:Nat} {l:List α} (h:OwL d w F (Aa A n c) l) {j:Nat} (hj:j<l.length) :
  ∃ (b o:Nat) (rs:List (α×d.S)) (s:d.S) (G1 Fx G2:List Nat),A=Ac ⟨b,o,Ab⟩/\F=[b] ++ (G1 ++ (Fx ++ G2))/\rs.map (·.1)=l/\Foc d w b o n c rs j G1 Fx G2 l[j] s:=by
 obtain ⟨rs,H,G,hm,hh,ho,rfl,hn⟩:=h;subst hm;rw [Au] at hj;obtain ⟨b,o,rfl,rfl,hb,hf⟩:=hh.at_ Bk;obtain ⟨F1,F2,rfl,h1,h2⟩:=ho.split j (Nat.le_of_lt hj);obtain ⟨Fx,G2,rfl,h3⟩:=Foc.start hh.rd hf h1 h2 hj hn hb;refine ⟨b,o,rs,rs[j].2,F1,Fx,G2,rfl,rfl,rfl,?_⟩;rw [List.getElem_map];exact h3
theorem Foc.owl {α:Type} {d:Dt α} {w:World} {b o n c j:Nat} {rs:List (α×d.S)} {G1 Fx G2:List Nat} {x:α} {s:d.S} {l:List α} (h:Foc d w b o n c rs j G1 Fx G2 x s) (hm:rs.map (·.1)=l) :
  OwL d w ([b] ++ (G1 ++ (Fx ++ G2))) (Aa (Ac ⟨b,o,Ab⟩) n c) (l.set j x):=by
 refine ⟨rs.set j (x,s),[b],G1 ++ (Fx ++ G2),by rw [List.map_set,hm],⟨h.rd,?_,?_⟩,?_,rfl,h.nodup⟩
 ·unfold Eh;rw [if_neg (by rw [Bg];have:=h.lt;omega)];rfl
 ·intro g hg i;have:g=b:=by simpa using hg
  subst this;exact h.free i
 ·have e:rs.set j (x,s)=rs.take j ++ (x,s) :: rs.drop (j+1):=by rw [List.set_eq_take_append_cons_drop,if_pos h.lt]
  rw [e];exact h.left.append (.cons h.here h.right)
def Jx {α:Type} (cnt:α->Nat) (l:List α):Nat:=l.length+(l.map cnt).sum
theorem Fk {α:Type} {cnt:α->Nat} : ∀ {l:List α} {x:α},x∈l->cnt x+1<=Jx cnt l
 | y :: l,x,h=>by
  unfold Jx;simp only [List.length_cons,List.map_cons,List.sum_cons];rcases List.mem_cons.1 h with rfl | h
  ·omega
  ·have:=Fk (cnt:=cnt) h
   unfold Jx at this;omega
theorem Ct {α:Type} (cnt:α->Nat) (l:List α):l.length<=Jx cnt l:=Nat.le_add_right _ _
theorem Iz {α:Type} {cnt:α->Nat} (h:∀ x,cnt x=0):∀ l:List α,Jx cnt l=l.length
 | []=>rfl
 | x :: l=>by
  have:=Iz h l
  unfold Jx at *
  simp only [List.length_cons,List.map_cons,List.sum_cons,h x] at *
  omega
section
variable {α:Type} (mk:Int->α->α) (num:α->Nat)
end
theorem Xr (p:Plan) (ve:Value) (w:World) (hl:p.edges.length<=2000000) (h:Rd Gc w w ve p.edges) :
  Calls An 184 #[Gd p ve] w (O9 p w):=by
 obtain ⟨A,c,rfl,-⟩:=id h;obtain ⟨i0,aL,aR,aS,aP⟩:=info_parts Q1;have hbx:∀ W,Below w w W->Rd Gc W W (.slice A p.edges.length c) p.edges:=fun W hW=>(h.below hW).more hW.size;unfold Gd;go_enter Tryz.func184,Tryz.ntmps184;go_wp2_with (at_builtin;refine Bz _ Gc Bo rfl (.const (.slice Ab 0 0)) (.tmp 4) rfl Tryz.underlying41 aL aR aS aP rfl (v:=.slice Ab 0 0) (l:=[]) rfl (Ow.nil Gc 199 _ (w.heap.size+2)) rfl (hbx _ (((Bq _ _).alloc Bn _).alloc Bn _)) Bm Bk Bo Bm ?_;intro v1 w1 o1 g1 _;rw [List.nil_append] at o1;obtain ⟨A1,c1,rfl,-⟩:=id (Rd.of_own o1);have aQ:=(Bq (w.heap.size+2) _).grown g1 Bn (fun k hk=>by simp [Value.ownBlock] at hk<;>omega);clear g1;have q1:∀ b o,b<w.heap.size+2->w1.cell? ⟨b,o,Ab⟩=_:=fun b o h=>aQ.cell (p:=⟨b,o,Ab⟩) h;have q2:∀ b o,b<w.heap.size+2->w1.frozen? ⟨b,o,Ab⟩=_:=fun b o h=>aQ.frozen (p:=⟨b,o,Ab⟩) h;have hs:=aQ.size;simp only [Bi] at hs)
 have hW:Below w w w1:=Below.trans (((Bq _ _).alloc Bn _).alloc Bn _) (aQ.mono Bk);refine bodyPost_ret (v:=Gd p (.slice A1 p.edges.length c1)) ?_ rfl ?_
 ·simp [Gd,results,Tryz.results184,go_sem,q1]
 ·refine ⟨.slice A1 p.edges.length c1,rfl,?_,?_⟩
  ·refine Ow.more (base:=w.heap.size+2) ?_ Bk;unfold Ow at o1 ⊢;repeat (first | (with_reducible exact o1) | refine ownsRow_setCell_below ?_ Bn _)
  ·repeat (first | (with_reducible exact hW) | refine Ad ?_ Bn _)
theorem Xs (p:Plan) (ve:Value) (w:World) (hl:p.edges.length<=2000000) (h:Rd Gc w w ve p.edges) :
  Calls An 157 #[Gd p ve] w (O9 p w):=by
 obtain ⟨A,c,rfl,-⟩:=id h;obtain ⟨i0,aL,aR,aS,aP⟩:=info_parts Q1;have hbx:∀ W,Below w w W->Rd Gc W W (.slice A p.edges.length c) p.edges:=fun W hW=>(h.below hW).more hW.size;unfold Gd;go_enter Tryz.func157,Tryz.ntmps157;go_wp2_with (at_builtin;refine Bz _ Gc Bo rfl (.tmp 3) (.tmp 5) rfl Tryz.underlying41 aL aR aS aP rfl (v:=.slice (Ac ⟨w.heap.size+1+1,0,Ab⟩) 0 0) (l:=[]) rfl ((Ow.empty Gc 199 _ Bm).more (base':=w.heap.size+2) Bk) rfl (hbx _ ((((Bq _ _).alloc Bn _).alloc Bn _).alloc Bn _)) Bm Bk Bo Bm ?_;intro v1 w1 o1 g1 _;rw [List.nil_append] at o1;obtain ⟨A1,c1,rfl,-⟩:=id (Rd.of_own o1);have aQ:=((Bq (w.heap.size+2) _).alloc Bn _).grown g1 Bn (fun k hk=>by simp [Value.ownBlock] at hk<;>omega);clear g1;have q1:∀ b o,b<w.heap.size+2->w1.cell? ⟨b,o,Ab⟩=_:=fun b o h=>aQ.cell (p:=⟨b,o,Ab⟩) h;have q2:∀ b o,b<w.heap.size+2->w1.frozen? ⟨b,o,Ab⟩=_:=fun b o h=>aQ.frozen (p:=⟨b,o,Ab⟩) h;have hs:=aQ.size;simp only [Bi] at hs)
 have hW:Below w w w1:=Below.trans (((Bq _ _).alloc Bn _).alloc Bn _) (aQ.mono Bk);refine bodyPost_ret (v:=Gd p (.slice A1 p.edges.length c1)) ?_ rfl ?_
 ·simp [Gd,results,Tryz.results157,go_sem,q1]
 ·refine ⟨.slice A1 p.edges.length c1,rfl,?_,?_⟩
  ·refine Ow.more (base:=w.heap.size+2) ?_ Bk;unfold Ow at o1 ⊢;repeat (first | (with_reducible exact o1) | refine ownsRow_setCell_below ?_ Bn _)
  ·repeat (first | (with_reducible exact hW) | refine Ad ?_ Bn _)
theorem Q5 (p:Plan) (ve:Value) (w:World) (h:Rd Gc w w ve p.edges) (hm:D7 p=true) :
  Calls An 164 #[Gd p ve] w fun e w'=>e = .returned (J U (Cr p))/\Below w w w':=by
 have Hm:=Bp hm;obtain ⟨t1,t2⟩:=Ee hm;have aK:=E9 hm;have hlen2:p.edges.length<=2000000:=Bk;have hlI:¬ (30:Int)<(p.edges.length:Int):=Bk;have hlB:decide ((30:Int)<(p.edges.length:Int))=false:=by simpa using hlI
 obtain ⟨A,c,rfl,-⟩:=id h;have bT:=h.cap;unfold Gd;simp only [D7,Bool.and_eq_true] at hm;obtain ⟨⟨⟨⟨h1,-⟩,h3⟩,h4⟩,h5⟩:=hm;go_enter Tryz.func164,Tryz.ntmps164;go_wp2_with (go_at_call 58;refine (Cs _ _ _ _).mono ?_;rintro e w' ⟨rfl,rfl⟩)
 go_loopw [40] (fun i wr=>∃ k:Nat,k<=p.edges.length/\i = J U k/\Hid (∀ j (hj:j<p.edges.length),j<k->Ht p.tasks p.edges[j]=true)/\Below (D8 43 p (Aa A p.edges.length c) w) (D8 43 p (Aa A p.edges.length c) w) wr) (fun i _=>p.edges.length - (intOf i).toNat);case atStart=>exact ⟨0,Ag _,rfl,fun j hj h0=>absurd h0 Bk,Bq _ _⟩
 case round =>
  obtain ⟨k,hk,rfl,aU,hb⟩:=hrel;obtain ⟨x0,x1,x2,x3,x4,hs,bI⟩:=E7 hb;have bL:w.heap.size<wr.heap.size:=Bk;by_cases aA:k<p.edges.length
  ·obtain ⟨b,o,rfl,aG,c0,c1⟩:=(h.below bI).edge aA;have nC:=hb.alloc hb.size (.cells #[J U p.edges[k].fr,J U p.edges[k].to] 199);have hbwa:=bI.alloc bI.size (.cells #[J U p.edges[k].fr,J U p.edges[k].to] 199);have bad:Ht p.tasks p.edges[k]=false->Hid (Cr p=2):=fun hf=>Ng Hm.out (fun cR=>by
    rw [cR _ (Aw aA)] at hf;cases hf)
   cases g1:inB p.edges[k].fr 0 (p.tasks - 1)
   ·have H:=bad (by simp [Ht,g1]);clear bad;go_wp2_with (go_at_call 58;refine (Cs _ _ _ _).mono ?_;rintro e w' ⟨rfl,rfl⟩)
    go_ret;exact ⟨Dg H.out.symm,hbwa⟩
   cases g2:inB p.edges[k].to 0 (p.tasks - 1)
   ·have H:=bad (by simp [Ht,g2]);clear bad;go_wp2_with (go_at_call 58;refine (Cs _ _ _ _).mono ?_;rintro e w' ⟨rfl,rfl⟩)
    go_ret;exact ⟨Dg H.out.symm,hbwa⟩
   ·have S:Hid (∀ j (hj:j<p.edges.length),j<k+1->Ht p.tasks p.edges[j]=true):=by
     intro j hj dN;by_cases e:j=k
     ·subst e;simp [Ht,g1,g2]
     ·exact aU.out j hj Bk
    clear bad;go_wp2_with (go_at_call 58;refine (Cs _ _ _ _).mono ?_;rintro e w' ⟨rfl,rfl⟩)
    exact ⟨⟨k+1,Bk,by go_num,S,nC⟩,by simp [intOf];omega⟩
  ·have cR:Hid (G6 p):=fun e he=>by
    obtain ⟨j,hj,rfl⟩:=List.getElem_of_mem he;exact aU.out j hj Bk
   clear aU hk;go_wp2;go_loopw [64] (fun i wr=>∃ k:Nat,k<=p.edges.length/\i = J U k/\Hid ((p.edges.take k).Nodup)/\Below (D8 43 p (Aa A p.edges.length c) w) (D8 43 p (Aa A p.edges.length c) w) wr) (fun i _=>p.edges.length - (intOf i).toNat);case atStart=>exact ⟨0,Ag _,rfl,by show (p.edges.take 0).Nodup;simp,hb⟩
   case round =>
    clear hb x0 x1 x2 x3 x4 hs bI bL;obtain ⟨k,hk,rfl,aU,hb⟩:=hrel;obtain ⟨x0,x1,x2,x3,x4,hs,bI⟩:=E7 hb;have bL:w.heap.size<wr.heap.size:=Bk;have gB:k<=c:=Bk;by_cases aA:k<p.edges.length
    ·obtain ⟨b,o,rfl,aG,c0,c1⟩:=(h.below bI).edge aA;have nC:=hb.alloc hb.size (.cells #[J U p.edges[k].fr,J U p.edges[k].to] 199);have hbwa:=bI.alloc bI.size (.cells #[J U p.edges[k].fr,J U p.edges[k].to] 199);have n0:(wr.alloc (.cells #[J U p.edges[k].fr,J U p.edges[k].to] 199)).cell? ⟨wr,0,Ab⟩=Ac (J U p.edges[k].fr):=by go_simp
     have n1:(wr.alloc (.cells #[J U p.edges[k].fr,J U p.edges[k].to] 199)).cell? ⟨wr,1,Ab⟩=Ac (J U p.edges[k].to):=by go_simp
     have x4':(wr.alloc (.cells #[J U p.edges[k].fr,J U p.edges[k].to] 199)).cell? ⟨w,4,Ab⟩=Ac (Aa (Ac ⟨b,o,Ab⟩) p.edges.length c):=by
      rw [World.cell?_alloc_lt _ _ _ (by simp;omega)];exact x4
     have z1:wr.heap.size<(wr.alloc (.cells #[J U p.edges[k].fr,J U p.edges[k].to] 199)).heap.size:=Bm;have z2:w.heap.size<(wr.alloc (.cells #[J U p.edges[k].fr,J U p.edges[k].to] 199)).heap.size:=by simp;omega
     have hrd:=(Rd.take (k:=k) (c':=c) (h.below bI) Bk gB)
     have aV:Below w w (wr.alloc (.cells #[J U p.edges[k].fr,J U p.edges[k].to] 199)):=hbwa;have hrd2:Rd Gc (wr.alloc (.cells #[J U p.edges[k].fr,J U p.edges[k].to] 199)) w (Aa (Ac ⟨b,o,Ab⟩) k c) (p.edges.take k):=Rd.take (h.below aV) Bk c gB;have aX:(p.edges.take k).length<=2000000:=by simp;omega
     clear hrd;by_cases dV:p.edges[k]∈p.edges.take k
     ·have H:Hid (Cr p=3):=M0 Hm.out cR.out (fun bM=>by
       have h1:(p.edges.take (k+1)).Nodup:=bM.sublist (List.take_sublist _ _);rw [Dc _ k aA] at h1;exact (Ku.1 h1).2 dV)
      have hmb:decide (p.edges[k]∈p.edges.take k)=true:=by simpa using dV
      clear dV;go_wp2;generalize wr.alloc (.cells #[J U p.edges[k].fr,J U p.edges[k].to] 199)=W2 at *
      have aJ:=Cy W2;refine Bv Bl Bl ?_;repeat (go_big_quiet_step ((go_at_call 224;rename_i x;have h1:=Lx _ (p.edges.take k) p.edges[k] x.1 aX ((hrd2.below (x.2.mono aV.size)).more (Ah aV.size x.2.size));rw [hmb] at h1;exact Ea h1)))
      refine Ak ?_;rintro _ ⟨⟨w1,aQ⟩,rfl⟩;clear aJ;go_wp2;go_ret;exact ⟨Dg H.out.symm,Bs aV aQ⟩
     ·have S:Hid ((p.edges.take (k+1)).Nodup):=by
       show (p.edges.take (k+1)).Nodup;rw [Dc _ k aA];exact Ku.2 ⟨aU.out,dV⟩
      have hmb:decide (p.edges[k]∈p.edges.take k)=false:=by simpa using dV
      clear dV;go_wp2;generalize wr.alloc (.cells #[J U p.edges[k].fr,J U p.edges[k].to] 199)=W2 at *
      have aJ:=Cy W2;refine Bv Bl Bl ?_;repeat (go_big_quiet_step ((go_at_call 224;rename_i x;have h1:=Lx _ (p.edges.take k) p.edges[k] x.1 aX ((hrd2.below (x.2.mono aV.size)).more (Ah aV.size x.2.size));rw [hmb] at h1;exact Ea h1)))
      refine Ak ?_;rintro _ ⟨⟨w1,aQ⟩,rfl⟩;clear aJ;go_wp2;exact ⟨⟨k+1,Bk,by go_num,S,nC.trans (aQ.mono nC.size)⟩,by simp [intOf];omega⟩
    ·have bM:Hid p.edges.Nodup:=by
      have h1:=aU.out;rw [Bf Bk] at h1;exact h1
     clear aU hk gB;go_wp2_with fail
     refine (Ac0 p (Aa A p.edges.length c) _ Hm.out cR.out ((h.below bI).more bI.size)).mono ?_;rintro e w1 ⟨v1,rfl,o1,aQ⟩;have hbw1:=Bs bI aQ;obtain ⟨T,hT⟩:=Aq (show 0<=p.tasks by omega);have HT:=Bp hT;have nX:p.tasks.toNat=T:=Bk;rw [nX] at o1;have hT1:1<=T:=Bk;have qM:T<=12:=Bk;have mF:=Pg.Afm (Dq p) T (by rw [<-nX];exact (Ml cR.out).1) (by rw [<-nX];exact (Ml cR.out).2);have gP:(Pg.Kc (Dq p) T (List.replicate T 0)).length=T:=by rw [Pg.Ks,List.length_replicate]
     have pI:=Bp (show Q2 p ↔ ∃ t,t<T/\Pg.Reach (Dq p) t t by unfold Q2;rw [nX]);have qD:∀ x∈Pg.Kc (Dq p) T (List.replicate T 0),x<2 ^ T:=Pg.Aa4 T _ _ (by rw [<-nX];exact (Ml cR.out).2) (fun x hx=>by
      have:=List.eq_of_mem_replicate hx
      subst this;exact Nat.two_pow_pos T) T
     generalize Pg.Kc (Dq p) T (List.replicate T 0)=O at *
     have Hiff:=Bp mF;have HOl:=Bp gP;clear mF hT nX;rcases o1.form with ⟨_,e0⟩ | ⟨g,cap,rfl,_,qY,_,_,_,_⟩
     ·exfalso;rw [e0] at gP;simp at gP;omega
     rw [gP] at o1;rw [gP];clear gP;go_wp2;go_loop [79] (fun i=>∃ k:Nat,k<=T/\i = J U k/\Hid (∀ j,j<k->(O.getD j 0).testBit j=false)) (fun i=>T - (intOf i).toNat);case atStart=>exact ⟨0,Ag _,rfl,fun j hj=>absurd hj Bk⟩
     case round =>
      obtain ⟨k,hk,rfl,aU⟩:=hrel;by_cases aX:k<T
      ·have ck:=o1.nat (k:=k) (by rw [HOl.out];exact aX);have qC:k<O.length:=by rw [HOl.out];exact aX
       have hx:O[k]<9223372036854775808:=Ai (qD _ (Aw qC)) (Ah (Nat.pow_le_pow_right Bk qM) Bo);have hbt:=Ad5 O[k] k hx;have hg:Hid (O.getD k 0=O[k]):=by unfold Hid;rw [List.getD_eq_getElem?_getD,List.getElem?_eq_getElem qC];rfl
       cases aF:O[k].testBit k
       ·rw [aF] at hbt;have S:Hid (∀ j,j<k+1->(O.getD j 0).testBit j=false):=by
         intro j hj;by_cases e:j=k
         ·subst e;rw [hg.out];exact aF
         ·exact aU.out j Bk
        go_wp2;exact ⟨⟨k+1,Bk,by go_num,S⟩,by simp [intOf];omega⟩
       ·rw [aF] at hbt;have H:Hid (Cr p=4):=M1 Hm.out cR.out bM.out (pI.out.2 ⟨k,aX,(Hiff.out k k).1 (by rw [hg.out];exact aF)⟩);go_wp2;go_ret;exact ⟨Dg H.out.symm,hbw1⟩
      ·have H:Hid (Cr p=0):=C8.2 ⟨Hm.out,cR.out,bM.out,fun hc=>by
        obtain ⟨t,ht,hr⟩:=pI.out.1 hc;have h1:=(Hiff.out t t).2 hr;rw [aU.out t Bk] at h1;cases h1⟩
       go_wp2;go_ret;exact ⟨Dg H.out.symm,hbw1⟩
theorem Le (p:Plan) (ve:Value) (w:World) (hl:p.edges.length<=2000000) (h:Rd Gc w w ve p.edges) :
  Calls An 164 #[Gd p ve] w fun e w'=>e = .returned (J U (Cr p))/\Below w w w':=by
 cases hm:D7 p
 ·exact Pf p ve w hl h hm
 ·exact Q5 p ve w h hm
theorem Ry (p:Plan) (ve:Value) (w:World) (hl:p.edges.length<=2000000) (h:Rd Gc w w ve p.edges) :
  Calls An 235 #[Gd p ve] w fun e w'=>e = .returned (.bool (!D7 p))/\Below w w w':=by
 obtain ⟨A,c,rfl,-⟩:=id h;unfold Gd;cases h1:inB p.tasks 1 12
 ·have H:=Bp (show (!D7 p)=true by simp [D7,h1]);go_enter Tryz.func235,Tryz.ntmps235;go_wp2_with (go_at_call 155;refine (Cf _ _ _ _).mono ?_;rintro e w' ⟨rfl,rfl⟩)
  go_ret;exact ⟨Bw H.out.symm,(Bq _ _).alloc (Br _) _⟩
 by_cases h2:30<p.edges.length
 ·have H:=Bp (show (!D7 p)=true by simp [D7,show ¬ p.edges.length<=30 by omega]);have h2':decide ((30:Int)<(p.edges.length:Int))=true:=by simp;omega
  have h2'':(30:Int)<(p.edges.length:Int):=Bk;go_enter Tryz.func235,Tryz.ntmps235;go_wp2_with (go_at_call 155;refine (Cf _ _ _ _).mono ?_;rintro e w' ⟨rfl,rfl⟩)
  go_ret;exact ⟨Bw H.out.symm,(Bq _ _).alloc (Br _) _⟩
 have h2':decide ((30:Int)<(p.edges.length:Int))=false:=by simp;omega
 have h2'':¬ (30:Int)<(p.edges.length:Int):=Bk;cases h3:inB p.prio 0 9
 ·have H:=Bp (show (!D7 p)=true by simp [D7,h3]);go_enter Tryz.func235,Tryz.ntmps235;go_wp2_with (go_at_call 155;refine (Cf _ _ _ _).mono ?_;rintro e w' ⟨rfl,rfl⟩)
  go_ret;exact ⟨Bw H.out.symm,(Bq _ _).alloc (Br _) _⟩
 cases h4:inB p.most 1 5
 ·have H:=Bp (show (!D7 p)=true by simp [D7,h4]);go_enter Tryz.func235,Tryz.ntmps235;go_wp2_with (go_at_call 155;refine (Cf _ _ _ _).mono ?_;rintro e w' ⟨rfl,rfl⟩)
  go_ret;exact ⟨Bw H.out.symm,(Bq _ _).alloc (Br _) _⟩
 have H:Hid ((!inB p.wait 1 20) = !D7 p):=by
  show (!inB p.wait 1 20) = !D7 p;simp [D7,h1,h3,h4,show p.edges.length<=30 by omega]
 go_enter Tryz.func235,Tryz.ntmps235;go_wp2_with (go_at_call 155;refine (Cf _ _ _ _).mono ?_;rintro e w' ⟨rfl,rfl⟩)
 go_ret;exact ⟨Bw H.out,(Bq _ _).alloc (Br _) _⟩
theorem I4 (p:Plan) (ve:Value) (w:World) (hl:p.edges.length<=2000000) (h:Rd Gc w w ve p.edges) :
  Calls An 199 #[Gd p ve] w fun e w'=>e = .returned (J U (Cr p))/\Below w w w':=by
 obtain ⟨A,c,rfl,-⟩:=id h;have cZ:=Lm 43 p (Aa A p.edges.length c) w;cases hm:D7 p
 ·have H:=Bp (Nf hm);unfold Gd;go_enter Tryz.func199,Tryz.ntmps199;go_wp2_with fail
  refine (Ry p (Aa A p.edges.length c) _ hl ((h.below cZ).more cZ.size)).mono ?_;rintro e w1 ⟨rfl,aQ⟩;rw [hm];go_wp2;go_ret;exact ⟨Dg H.out.symm,Bs cZ aQ⟩
 ·have Hm:=Bp hm;obtain ⟨t1,t2⟩:=Ee hm;have aK:=E9 hm;unfold Gd;go_enter Tryz.func199,Tryz.ntmps199;go_wp2_with fail
  refine (Ry p (Aa A p.edges.length c) _ hl ((h.below cZ).more cZ.size)).mono ?_;rintro e w1 ⟨rfl,aQ⟩;rw [hm];clear hm;go_wp2;go_loopw [3] (fun i wr=>∃ k:Nat,k<=p.edges.length/\i = J U k/\Hid (∀ j (hj:j<p.edges.length),j<k->Ht p.tasks p.edges[j]=true)/\Below (D8 43 p (Aa A p.edges.length c) w) (D8 43 p (Aa A p.edges.length c) w) wr) (fun i _=>p.edges.length - (intOf i).toNat);case atStart=>exact ⟨0,Ag _,rfl,fun j hj h0=>absurd h0 Bk,aQ⟩
  case round =>
   obtain ⟨k,hk,rfl,aU,hb⟩:=hrel;obtain ⟨x0,x1,x2,x3,x4,hs,bI⟩:=E7 hb;by_cases aA:k<p.edges.length
   ·obtain ⟨b,o,rfl,aG,c0,c1⟩:=(h.below bI).edge aA;have aB:(k:Int)<(p.edges.length:Int):=Bk;have aJ:=Cy wr;have bL:w.heap.size<wr.heap.size:=Bk;have hbb1:b<wr:=Bk;have e1:U.wrap (p.tasks - 1)=p.tasks - 1:=IntWalk.i64_in _ Bk;have bad:Ht p.tasks p.edges[k]=false->Hid (Cr p=2):=fun hf=>Ng Hm.out (fun cR=>by
     rw [cR _ (Aw aA)] at hf;cases hf)
    cases g1:inB p.edges[k].fr 0 (p.tasks - 1)
    ·have H:=bad (by simp [Ht,g1]);clear bad;go_wp2;refine Bv Bl Bl ?_;repeat (go_big_quiet_step ((go_at_call 155;exact Ed (fun u=>Cf _ _ _ u.1))))
     refine Ak ?_;rintro _ ⟨⟨w2,aF⟩,rfl⟩;clear aJ;go_wp2;go_ret;exact ⟨Dg H.out.symm,Bs bI aF⟩
    cases g2:inB p.edges[k].to 0 (p.tasks - 1)
    ·have H:=bad (by simp [Ht,g2]);clear bad;go_wp2;refine Bv Bl Bl ?_;repeat (go_big_quiet_step ((go_at_call 155;exact Ed (fun u=>Cf _ _ _ u.1))))
     refine Ak ?_;rintro _ ⟨⟨w2,aF⟩,rfl⟩;clear aJ;go_wp2;go_ret;exact ⟨Dg H.out.symm,Bs bI aF⟩
    ·have S:Hid (∀ j (hj:j<p.edges.length),j<k+1->Ht p.tasks p.edges[j]=true):=by
      intro j hj dN;by_cases e:j=k
      ·subst e;simp [Ht,g1,g2]
      ·exact aU.out j hj Bk
     clear bad;go_wp2;refine Bv Bl Bl ?_;repeat (go_big_quiet_step ((go_at_call 155;exact Ed (fun u=>Cf _ _ _ u.1))))
     refine Ak ?_;rintro _ ⟨⟨w2,aF⟩,rfl⟩;clear aJ;go_wp2;exact ⟨⟨k+1,Bk,by go_num,S,hb.trans (aF.mono hb.size)⟩,by simp [intOf];omega⟩
   ·have cR:Hid (G6 p):=fun e he=>by
     obtain ⟨j,hj,rfl⟩:=List.getElem_of_mem he;exact aU.out j hj Bk
    have aB:¬ (k:Int)<(p.edges.length:Int):=Bk;have bL:w.heap.size<wr.heap.size:=Bk;clear aU hk aQ;go_wp2;clear aA aB;go_loopw [4] (fun i wr=>∃ k:Nat,k<=p.edges.length/\i = J U k/\Hid ((p.edges.take k).Nodup)/\Below (D8 43 p (Aa A p.edges.length c) w) (D8 43 p (Aa A p.edges.length c) w) wr) (fun i _=>p.edges.length - (intOf i).toNat);case atStart=>exact ⟨0,Ag _,rfl,by show (p.edges.take 0).Nodup;simp,hb⟩
    case round =>
     clear hb x0 x1 x2 x3 x4 hs bI bL;obtain ⟨k,hk,rfl,aU,hb⟩:=hrel;obtain ⟨x0,x1,x2,x3,x4,hs,bI⟩:=E7 hb;by_cases aA:k<p.edges.length
     ·have aB:(k:Int)<(p.edges.length:Int):=Bk;obtain ⟨b,o,rfl,-,-,-⟩:=(h.below bI).edge aA;obtain ⟨wo,rfl⟩:∃ wo:World,wo=wr:=⟨_,rfl⟩
      go_wp2;go_loopw [5] (fun i wr=>∃ m:Nat,m<=k/\i = J U m/\Hid (∀ j (hj:j<p.edges.length),j<m -> ¬ p.edges[k]=p.edges[j])/\Below (D8 43 p (Aa (Ac ⟨b,o,Ab⟩) p.edges.length c) w) (D8 43 p (Aa (Ac ⟨b,o,Ab⟩) p.edges.length c) w) wr) (fun i _=>k - (intOf i).toNat);case atStart=>exact ⟨0,Ag _,rfl,fun j hj h0=>absurd h0 Bk,hb⟩
      case round =>
       clear hb x0 x1 x2 x3 x4 hs bI;obtain ⟨m,hm,rfl,bZ,hb⟩:=hrel;obtain ⟨x0,x1,x2,x3,x4,hs,bI⟩:=E7 hb;by_cases nK:m<k
       ·have jD:(m:Int)<(k:Int):=Bk;have hml:m<p.edges.length:=Bk;have hmlI:(m:Int)<(p.edges.length:Int):=Bk;obtain ⟨b1,o1,he1,-,c0,c1⟩:=(h.below bI).edge aA;obtain ⟨b2,o2,he2,-,d0,d1⟩:=(h.below bI).edge hml;simp only [Option.some.injEq,Addr.mk.injEq,and_true] at he1 he2;obtain ⟨rfl,rfl⟩:=he1;obtain ⟨rfl,rfl⟩:=he2;by_cases hx:p.edges[k]=p.edges[m]
        ·have H:Hid (Cr p=3):=M0 Hm.out cR.out (fun bM=>by
          have h1:(p.edges.take (k+1)).Nodup:=bM.sublist (List.take_sublist _ _);rw [Dc _ k aA] at h1;refine (Ku.1 h1).2 ?_;rw [hx];have:(p.edges.take k)[m]'(by simp;omega)=p.edges[m]:=List.getElem_take;rw [<-this];exact Aw _)
         have e0:p.edges[m].fr=p.edges[k].fr:=by rw [hx]
         have e1:p.edges[m].to=p.edges[k].to:=by rw [hx]
         rw [e0] at d0;rw [e1] at d1;clear hx e0 e1;go_wp2;go_quiet (fail);go_wp2;go_ret;exact ⟨Dg H.out.symm,Cj bI _⟩
        ·have S:Hid (∀ j (hj:j<p.edges.length),j<m+1 -> ¬ p.edges[k]=p.edges[j]):=by
          intro j hj hjm;by_cases e:j=m
          ·subst e;exact hx
          ·exact bZ.out j hj Bk
         have cD:¬ (p.edges[k].fr=p.edges[m].fr/\p.edges[k].to=p.edges[m].to):=fun ⟨e0,e1⟩=>hx (by cases sA:p.edges[k];cases hlm:p.edges[m];simp_all);clear hx;by_cases e0:p.edges[k].fr=p.edges[m].fr
         ·have e1:¬ p.edges[k].to=p.edges[m].to:=fun e=>cD ⟨e0,e⟩;have e1':(p.edges[k].to == p.edges[m].to)=false:=beq_eq_false_iff_ne.2 e1;rw [<-e0] at d0;clear cD e0;go_wp2;go_quiet (fail);go_wp2;exact ⟨⟨m+1,Bk,by go_num,S,Cj hb _⟩,by simp [intOf];omega⟩
         ·have e0':(p.edges[k].fr == p.edges[m].fr)=false:=beq_eq_false_iff_ne.2 e0;clear cD;go_wp2;go_quiet (fail);go_wp2;exact ⟨⟨m+1,Bk,by go_num,S,Cj hb _⟩,by simp [intOf];omega⟩
       ·have jD:¬ (m:Int)<(k:Int):=Bk;have S:Hid ((p.edges.take (k+1)).Nodup):=by
         show (p.edges.take (k+1)).Nodup;rw [Dc _ k aA];refine Ku.2 ⟨aU.out,fun dV=>?_⟩;obtain ⟨j,hj,hje⟩:=List.getElem_of_mem dV;rw [List.getElem_take] at hje;simp at hj;exact bZ.out j Bk Bk hje.symm
        go_wp2;exact ⟨⟨k+1,Bk,by go_num,S,hb⟩,by simp [intOf];omega⟩
     ·have aB:¬ (k:Int)<(p.edges.length:Int):=Bk;have bM:Hid p.edges.Nodup:=by
       have h1:=aU.out;rw [Bf Bk] at h1;exact h1
      clear aU hk;go_wp2;clear aA aB;go_loopw [6] (fun i wr=>∃ k:Nat,(k:Int)<=p.tasks/\i = J U k/\Hid (∀ j,j<k -> ¬ Pg.Reach (Dq p) j j)/\Below (D8 43 p (Aa A p.edges.length c) w) (D8 43 p (Aa A p.edges.length c) w) wr) (fun i _=>p.tasks.toNat - (intOf i).toNat);case atStart=>exact ⟨0,Bk,rfl,fun j hj=>absurd hj Bk,hb⟩
      case round =>
       clear hb x0 x1 x2 x3 x4 hs bI;obtain ⟨k,hk,rfl,aU,hb⟩:=hrel;obtain ⟨x0,x1,x2,x3,x4,hs,bI⟩:=E7 hb;by_cases aA:(k:Int)<p.tasks
       ·go_wp2_with fail
        refine (Ad8 p (Aa A p.edges.length c) k _ Hm.out cR.out aA ((h.below bI).more bI.size)).mono ?_;rintro e w2 ⟨v,O,rfl,o1,aF,gP,mF⟩;have qC:k<O.length:=Bk;have hlen0:=Bp gP;rcases o1.form with ⟨_,e0⟩ | ⟨g,cap,rfl,_,qY,_,_,_,_⟩
        ·exfalso;subst e0;simp at qC
        have ck:=o1.bool qC;have hg:Hid (O.getD k false=O[k]):=by unfold Hid;rw [List.getD_eq_getElem?_getD,List.getElem?_eq_getElem qC];rfl
        have Hiff:=Bp mF;have hkOI:(k:Int)<(O.length:Int):=Bk;clear gP mF;cases hO:O[k]
        ·rw [hO] at ck;have S:Hid (∀ j,j<k+1 -> ¬ Pg.Reach (Dq p) j j):=by
          intro j hj;by_cases e:j=k
          ·subst e;intro hr
           have:=(Hiff.out j).2 hr
           rw [hg.out,hO] at this;cases this
          ·exact aU.out j Bk
         clear hO;go_wp2;exact ⟨⟨k+1,Bk,by go_num,S,hb.trans (aF.mono hb.size)⟩,by simp [intOf];omega⟩
        ·rw [hO] at ck;have H:Hid (Cr p=4):=M1 Hm.out cR.out bM.out ⟨k,Bk,(Hiff.out k).1 (by rw [hg.out,hO])⟩;clear hO;go_wp2;go_ret;exact ⟨Dg H.out.symm,Bs bI aF⟩
       ·have H:Hid (Cr p=0):=C8.2 ⟨Hm.out,cR.out,bM.out,fun ⟨t,ht,hr⟩=>aU.out t Bk hr⟩;go_wp2;go_ret;exact ⟨Dg H.out.symm,bI⟩
end Go.Proofs.YtonlnjdempbfoaaGreat
