/-
  l06From of the reference: the search by a list. append of a whole slice that reads as a list, nil or not, onto a slice of the call's own. PlanFault of the progr
-/
import Derived.Test.YtonlnjdempbfoaaGreatZSl0
import Derived.Maps.AppendAt
import Derived.RegionTactic
import Derived.OwnWalk
import Derived.Deep.RegionWith
namespace Go.Proofs.YtonlnjdempbfoaaGreat
open Go.RowKit
set_option maxRecDepth 100000
set_option maxHeartbeats 4000000
set_option linter.unusedVariables false
set_option linter.unusedSimpArgs false
open Value renaming int->J,slice->Aa
open IntKind renaming i64->U
open Option renaming none->Ab,some->Ac
open Below renaming setCell->Ad
open Nat renaming zero_le->Ag,le_trans->Ah,lt_of_lt_of_le->Ai
open Go renaming wpQuiet_nil->Ak
open Go.Proofs.Tryz renaming prog->Am
open Int renaming eq_ofNat_of_zero_le->Ap
open List renaming length_map->Ar,mem_singleton->Au,getElem_mem->Aw,nodup_append->Ax,length_take->Az,mem_append_right->Be,mem_append_left->Bf,take_of_length_le->Bg,length_set->Bh,mem_append->Bi
open World renaming size_alloc->Bj
theorem Acd:(Am.info? 4).map (fun i=>(i.zero,i.size,i.bytes))=Ac (Ac (.bool false),1,1):=Bm
def Adi (p:Plan) (t:Nat) (w:World) (e:Ending) (w':World):Prop :=
 ∃ v O,e = .returned v/\Ow Pf 4 w' w v O/\Below w w w'/\O.length=p.tasks.toNat /\ ∀ y,O.getD y false=true ↔ Pg.Reach (Dn p) t y
theorem Adj (p:Plan) (ve:Value) (t:Nat) (w:World) (hm:Eg p=true) (he:Gr p) (ht:(t:Int)<p.tasks) (h:Rd Gd w w ve p.edges) :
  Calls Am 236 #[Ge p ve,.int .i64 (t:Int)] w (Adi p t w):=by
 obtain ⟨A,c,rfl,-⟩:=id h;obtain ⟨t1,t2⟩:=Dw hm;have aJ:=Ez hm;obtain ⟨T,hT⟩:=Ap (show 0<=p.tasks by omega);have HT:=Bq hT;have fH:T<=12:=Bl;have htT:t<T:=Bl;obtain ⟨i0,aL,aS,aP,aQ⟩:=info_parts Acd;obtain ⟨j0,cB,jz0,jz1,jz2⟩:=info_parts Kc;have mN:∀ w:World,(Instr.makeSlice 248 (.int .i64 p.tasks) (.int .i64 p.tasks)).run Am w = .ok (.slice (Ac ⟨w,0,Ab⟩) T T) (w.alloc (.cells (madeCells #[.bool false] (T * 1)) 4)):=by
  intro w
  have:=run_make (P:=Am) w 248 4 i0 _ Tryz.underlying248 aL aS .i64 .i64 T T Bl Bl (by rw [aQ];omega) Bl
  rw [aP] at this;rw [hT];simpa [Value.cells] using this
 have rK:(∀ e∈Dn p,e.1<T)/\(∀ e∈Dn p,e.2<T):=by
  have:=Lh he
  rw [hT] at this;simpa using this
 clear hT;unfold Ge;go_enter Tryz.func236,Tryz.ntmps236;go_wp2;go_loopw [6,7] (fun vl i wr=>∃ (k:Nat) (s:List Bool×List Nat),Hid (Pg.Bat (Dn p) T t k s)/\i = .int .i64 k/\Ow Pf 4 wr (w.heap.size+1) (.slice (Ac ⟨w.heap.size+1,0,Ab⟩) T T) s.1/\Ow Ec 3 wr (w.heap.size+1) vl s.2 /\
   Below (Dx 43 p (.slice A p.edges.length c) w) (Dx 43 p (.slice A p.edges.length c) w) wr) (fun _ i _=>T+2 - (intOf i).toNat)
 case atStart =>
  refine ⟨0,_,Pg.Bat.start (Dn p) T t,rfl,?_,?_,?_⟩
  ·have:=Ow.made Pf 4 (Dx 43 p (.slice A p.edges.length c) w) false T Bp (by simp [maxLen];omega) (z:=#[.bool false]) rfl (m:=T) (by simp [Pf])
   rw [E0] at this;exact this.below ((Br _ _).alloc (Bs _) _)
  ·have:=World.ownsRow_lit (base:=w.heap.size+1) (e:=3) (size:=1) ((Dx 43 p (.slice A p.edges.length c) w).alloc (.cells (madeCells #[.bool false] T) 4)) #[.int .i64 (t:Int)] 1 (by simp [E0]) (by simp [maxLen]) rfl
   simp only [Bj,E0] at this;exact this
  ·exact ((Br _ _).alloc (Bs _) _).alloc Bn _
 case round =>
  obtain ⟨k,s,jM,rfl,ho,hl,hb⟩:=hrel;obtain ⟨x0,x1,x2,x3,x4,hs,bQ⟩:=E9 hb;have bL:w.heap.size<wr.heap.size:=Bl;have hkT:=jM.out.inv.lt;have kH:=jM.out.le;have mV:=Bq jM.out.inv.size;rcases hl.form with ⟨_,e0⟩ | ⟨gl,cap,rfl,hgl0,rJ,aR,qB,hlf,hlcell⟩
  ·exfalso;obtain ⟨l,hh,_⟩:=jM.out.inv.head;rw [hh] at e0;cases e0
  clear hlcell hlf;by_cases aA:k<s.2.length
  ·have aB:(k:Int)<(s.2.length:Int):=Bl;obtain ⟨wo,rfl⟩:∃ wo:World,wo=wr:=⟨_,rfl⟩
   have kK:s.2[k]? = Ac s.2[k]:=List.getElem?_eq_getElem aA;have fZ:=Bq (jM.out.next rK.2 kK);clear kK;go_wp2;go_loopw [6,8] (fun vl i wr=>∃ (j:Nat),j<=p.edges.length/\i = .int .i64 j/\Ow Pf 4 wr (w.heap.size+1) (.slice (Ac ⟨w.heap.size+1,0,Ab⟩) T T) (Pg.M7 (esL (p.edges.take j)) s.2[k] s).1/\Ow Ec 3 wr (w.heap.size+1) vl (Pg.M7 (esL (p.edges.take j)) s.2[k] s).2 /\
    Below (Dx 43 p (.slice A p.edges.length c) w) (Dx 43 p (.slice A p.edges.length c) w) wr) (fun _ i _=>p.edges.length - (intOf i).toNat)
   case atStart=>exact ⟨0,Ag _,rfl,ho,hl,hb⟩
   case round =>
    clear ho hl hb x0 x1 x2 x3 x4 hs bQ bL hgl0 rJ aR qB;obtain ⟨j,hj,rfl,ho,hl,hb⟩:=hrel;obtain ⟨x0,x1,x2,x3,x4,hs,bQ⟩:=E9 hb;have bL:w.heap.size<wr.heap.size:=Bl;by_cases cZ:j<p.edges.length
    ·have gU:(j:Int)<(p.edges.length:Int):=Bl;obtain ⟨b,o,rfl,aH,c0,c1⟩:=(h.below bQ).edge cZ;obtain ⟨f1,f2,f3,f4⟩:=Ha he cZ;rw [HT.out] at f2 f4;have cQ:=Bq (show esL (p.edges.take (j+1))=esL (p.edges.take j) ++ [(p.edges[j].fr.toNat,p.edges[j].to.toNat)] by unfold esL;rw [Cn _ j cZ,List.map_append];rfl);generalize p.edges[j].fr=fx at *
     generalize p.edges[j].to=tx at *
     obtain ⟨a,rfl⟩:=Ap f1;obtain ⟨d,rfl⟩:=Ap f3;have aE:Hid (Pg.M7 (esL (p.edges.take (j+1))) s.2[k] s=Pg.Lz s.2[k] (Pg.M7 (esL (p.edges.take j)) s.2[k] s) (a,d)):=by
      show Pg.M7 _ _ _=_;rw [cQ.out];simp only [Int.toNat_natCast];unfold Pg.M7;rw [List.foldl_append];rfl
     have mI:=Pg.Ad6 (esL (p.edges.take j)) s.2[k] s;rw [mV.out] at mI;obtain ⟨r,hr⟩:=Pg.Ab9 (esL (p.edges.take j)) s.2[k] s;have hgk:(Pg.M7 (esL (p.edges.take j)) s.2[k] s).2[k]? = Ac s.2[k]:=by rw [hr,List.getElem?_append_left aA,List.getElem?_eq_getElem aA]
     have hlen2:s.2.length<=(Pg.M7 (esL (p.edges.take j)) s.2[k] s).2.length:=by rw [hr];simp
     clear hr cQ;generalize hS:Pg.M7 (esL (p.edges.take j)) s.2[k] s=S at *
     have HS:=Bq hS;clear hS;generalize hx:s.2[k]=x at *
     have HX:=Bq hx;clear hx;rcases hl.form with ⟨_,e0⟩ | ⟨gl',cap',rfl,hgl0,rJ,aR,qB,hlf,hlcell⟩
     ·exfalso
      have:=congrArg List.length e0
      simp only [List.length_nil] at this;omega
     have hkS:k<S.2.length:=Bl;have hSk:Hid (S.2[k]=x):=by
      rw [List.getElem?_eq_getElem hkS] at hgk;exact Option.some.inj hgk
     have cx:=hl.nat hkS;rw [hSk.out] at cx;have hHbl:=Bq mI;have hdO:d<S.1.length:=by rw [mI];omega
     have cO:=ho.bool hdO;have hgO:=ho.blk.2;have hkSI:(k:Int)<(S.2.length:Int):=Bl;clear mI hgk hlcell;by_cases hax:a=x
     ·subst hax;have cU:S.1.getD d true=S.1[d]:=by rw [List.getD_eq_getElem?_getD,List.getElem?_eq_getElem hdO];rfl
      have mG:((a:Int) == (a:Int))=true:=Bn;cases hO:S.1[d]
      ·rw [hO] at cO;have gW:Hid (Pg.M7 (esL (p.edges.take (j+1))) a s=(S.1.set d true,S.2 ++ [d])):=by
        show Pg.M7 _ _ _=_;rw [aE.out];unfold Pg.Lz;rw [if_pos ⟨rfl,by rw [cU,hO]⟩]
       clear cU hO aE;have e1:(wr.alloc (.cells #[.int .i64 (a:Int),.int .i64 (d:Int)] 199)).cell? ⟨wr,1,Ab⟩=Ac (.int .i64 (d:Int)):=by go_simp
       go_wp2;go_quiet (fail);have hW:=Cj ((Br wr wr).alloc (Bs _) (.cells #[.int .i64 (a:Int),.int .i64 (d:Int)] 199)) nq;have aF:=Cj (hb.alloc hb.size (.cells #[.int .i64 (a:Int),.int .i64 (d:Int)] 199)) nq;have e2:((wr.alloc (.cells #[.int .i64 (a:Int),.int .i64 (d:Int)] 199)).drewN nq).cell? ⟨wr,1,Ab⟩=Ac (.int .i64 (d:Int)):=e1;have hwn:wr.heap.size<((wr.alloc (.cells #[.int .i64 (a:Int),.int .i64 (d:Int)] 199)).drewN nq).heap.size:=Bn;clear e1 c0 c1 cx cO;generalize (wr.alloc (.cells #[.int .i64 (a:Int),.int .i64 (d:Int)] 199)).drewN nq=W2 at *
       have jC:=ho.below hW;have eZ:=hl.below hW;have cO2:=jC.bool hdO;have hof:=jC.free;have cF:=Ow.put jC (n:=T) (by rw [hHbl.out]) d Bl true;simp only [Pf,Nat.mul_one] at cF;have qP:Ow Ec 3 (W2.setCell ⟨w.heap.size+1,d,Ab⟩ (.bool true)) (w.heap.size+1) (.slice (Ac ⟨gl',0,Ab⟩) S.2.length cap') S.2:=eZ.grown cF.2 (by
        have:=eZ.ne_ jC Bp
        simpa [Value.ownBlock] using this)
       have hkp:=E0 43 p (.slice (Ac ⟨b,o,Ab⟩) p.edges.length c) w;have cA:=aF.grown cF.2 aF.size (fun g hg=>by rw [E0];simp at hg;omega);have uB:=cF.1;have hl4:=qP.below ((Br _ _).alloc (Bs _) (.cells #[.int .i64 (d:Int)] 3));have hwz:w.heap.size+1<=W2.heap.size:=Bl;have bR:=cA.alloc cA.size (.cells #[.int .i64 (d:Int)] 3);clear cF;have hSl:S.2.length<=3000000:=by
        have:=(Pg.Aca (x:=a) (esL (p.edges.take j)) jM.out.inv (by rw [<-HX.out];exact Aw aA) (fun e he'=>by
         simp only [esL,List.mem_map] at he';obtain ⟨y,hy,rfl⟩:=he';simp only [Dn,esL,List.mem_map];exact ⟨y,List.mem_of_mem_take hy,rfl⟩) (fun e he'=>by
         simp only [esL,List.mem_map] at he';obtain ⟨y,hy,rfl⟩:=he';exact rK.2 _ (by simp only [Dn,esL,List.mem_map];exact ⟨y,List.mem_of_mem_take hy,rfl⟩))).lt
        rw [HS.out] at this;omega
       go_wp2_with (at_builtin;refine Kb (v:=.slice (Ac ⟨gl',0,Ab⟩) S.2.length cap') Ec Bp rfl (.tmp 52) (.tmp 55) rfl Tryz.underlying26 cB jz0 jz1 jz2 rfl d rfl hl4 ⟨W2,0,Ab⟩ 1 rfl (Pa _ #[.int .i64 (d:Int)] _ Bn) hSl Bp (by simp;omega) ?_;intro v' w3 hown3 hgrow3)
       have dC:=uB.below ((Br _ _).alloc (Bs _) (.cells #[.int .i64 (d:Int)] 3));have ho5:=dC.grown hgrow3 (dC.ne_ hl4 Bp);have eK:=bR.grown hgrow3 bR.size (fun g hg=>by
        have hgg:gl'=g:=by simpa [Value.ownBlock] using hg
        have hgl1:=eZ.blk.1;omega)
       exact ⟨⟨j+1,Bl,by go_num,by rw [gW.out];exact ho5,by rw [gW.out];exact hown3,eK⟩,by simp [intOf];omega⟩
      ·rw [hO] at cO;have bG:Hid (Pg.M7 (esL (p.edges.take (j+1))) a s=S):=by
        show Pg.M7 _ _ _=_;rw [aE.out];unfold Pg.Lz;rw [if_neg (fun h=>by rw [cU,hO] at h;exact absurd h.2 Bn)]
       clear cU hO;go_wp2;go_quiet (fail);go_wp2;exact ⟨⟨j+1,Bl,by go_num,by rw [bG.out];exact (ho.below (Cj ((Br wr wr).alloc (Bs _) _) _)),by rw [bG.out];exact (hl.below (Cj ((Br wr wr).alloc (Bs _) _) _)),Cj (hb.alloc hb.size _) _⟩,by simp [intOf];omega⟩
     ·have mG:((a:Int) == (x:Int))=false:=beq_eq_false_iff_ne.2 Bl;have bG:Hid (Pg.M7 (esL (p.edges.take (j+1))) x s=S):=by
       show Pg.M7 _ _ _=_;rw [aE.out];unfold Pg.Lz;rw [if_neg (fun h=>hax h.1)]
      clear hax;go_wp2;go_quiet (fail);go_wp2;exact ⟨⟨j+1,Bl,by go_num,by rw [bG.out];exact (ho.below (Cj ((Br wr wr).alloc (Bs _) _) _)),by rw [bG.out];exact (hl.below (Cj ((Br wr wr).alloc (Bs _) _) _)),Cj (hb.alloc hb.size _) _⟩,by simp [intOf];omega⟩
    ·have gU:¬ (j:Int)<(p.edges.length:Int):=Bl;have hj':j=p.edges.length:=Bl;subst hj';rw [List.take_length] at ho hl;go_wp2;refine ⟨⟨k+1,_,fZ.out,by go_num,ho,hl,hb⟩,by simp [intOf];omega⟩
  ·have aB:¬ (k:Int)<(s.2.length:Int):=Bl;have bJ:k=s.2.length:=Bl;go_wp2;go_ret;refine ⟨_,s.1,rfl,ho.more Bl,bQ,?_,fun y=>?_⟩
   ·rw [mV.out,HT.out];rfl
   ·exact Pg.Bat.iff (by rw [<-bJ];exact jM.out) y
section
variable {P:Program} (w:World)
theorem Ov (base:Nat) (t ty e:TypeId) (i:TypeInfo) (size:Nat) (ht:P.underlying t=Ac (.slice e)) (hi:P.info? e=Ac i)
  (v:Value) (n:Nat) (xs:List Value) (hown:w.ownsRow base e size v n xs) (c:Nat):(Builtin.append_ #[t,t] ty #[v,.slice Ab 0 c]).run P w = .ok v w:=by
 rcases hown.2 with ⟨rfl,rfl⟩ | ⟨g,cap,cur,rfl,_,_,hnc,_⟩
 ·simp [Builtin.append_,run_underlying ht,sizeOf,typeInfo,hi,Builtin.lenOf,Builtin.firstCells]
 ·simp [Builtin.append_,run_underlying ht,sizeOf,typeInfo,hi,Builtin.lenOf,Builtin.firstCells,hnc,storeCells]
theorem Abr {α:Type} {e:Enc α} (aV:0<e.sz) {w:World} {B:Nat} {A:Option Addr} {m c:Nat} {ys:List α} (hr:Rd e w B (Aa A m c) ys):m=ys.length/\(0<m -> ∃ ad,A=Ac ad /\ ∀ j u,(ys.flatMap e.cells)[j]? = Ac u->w.cell? (ad.add j)=Ac u):=by
 obtain ⟨A',c',hv,_,hA⟩:=hr;simp only [Value.slice.injEq] at hv;obtain ⟨rfl,rfl,rfl⟩:=hv;refine ⟨rfl,fun hm=>?_⟩;obtain ⟨b,o,rfl,hb,hc⟩:=hA hm;refine ⟨⟨b,o,Ab⟩,rfl,fun j u hu=>?_⟩;have aA:=(List.getElem?_eq_some_iff.1 hu).1;rw [e.flat_length] at aA;have hk:j / e.sz<ys.length:=Nat.div_lt_of_lt_mul (by rw [Nat.mul_comm];exact aA);have hj:j % e.sz<e.sz:=Nat.mod_lt _ aV;have qW:j / e.sz * e.sz+j % e.sz=j:=by rw [Nat.mul_comm];exact Nat.div_add_mod _ _
 have h1:=e.flat_get hj ys (j / e.sz) hk;rw [qW] at h1;have h2:=hc (j / e.sz) hk (j % e.sz) u (by rw [<-h1];exact hu);have ea:(⟨b,o,Ab⟩:Addr).add j=⟨b,o+j / e.sz * e.sz+j % e.sz,Ab⟩:=by
  rw [Nat.add_assoc,qW];unfold Addr.add;split<;>simp_all
 rw [ea];exact h2
theorem U9 {α:Type} (e:Enc α) (aV:0<e.sz) (base:Nat) (t ty E:TypeId) (i:TypeInfo) (z:Value) (bytes:Nat) (ht:P.underlying t=Ac (.slice E)) (hi:P.info? E=Ac i) (hz:i.zero=Ac z)
  (bY:i.size=e.sz) (cM:i.bytes=bytes) (hzs:z.cells.size=e.sz)
  (v:Value) (l:List α) (hown:Ow e E w base v l)
  (B:Nat) (A:Option Addr) (m c:Nat) (ys:List α) (hr:Rd e w B (.slice A m c) ys)
  (hn:l.length<=3000000) (hm:ys.length<=3000000) (hbytes:bytes<=10000) (aY:base<=w.heap.size) :
  ∃ v' w',(Builtin.append_ #[t,t] ty #[v,.slice A m c]).run P w = .ok v' w'/\Ow e E w' base v' (l ++ ys)/\w.grownBy w' v.ownBlock /\
   (v'.ownBlock=v.ownBlock\/v'.ownBlock=Ac w.heap.size):=by
 obtain ⟨rfl,hA⟩:=Abr aV hr;have h0:∀ ad:Addr,A=Ac ad -> ∀ j u,(ys.flatMap e.cells)[j]? = Ac u->w.cell? (ad.add j)=Ac u:=by
  intro ad hAd j u hu;rcases Nat.eq_zero_or_pos ys.length with aS | hpos
  ·have:ys=[]:=List.eq_nil_of_length_eq_zero aS;subst this;simp at hu
  ·obtain ⟨ad',bT,hc⟩:=hA hpos;rw [bT] at hAd;injection hAd with hAd
   subst hAd;exact hc j u hu
 rcases A with _ | ad
 ·have fR:ys=[]:=by
   rcases Nat.eq_zero_or_pos ys.length with h1 | h1
   ·exact List.eq_nil_of_length_eq_zero h1
   ·obtain ⟨_,h2,_⟩:=hA h1;cases h2
  subst fR;exact ⟨v,w,Ov w base t ty E i e.sz ht hi v l.length (l.flatMap e.cells) hown c,by simpa using hown,World.grownBy.refl w _,.inl rfl⟩
 ·have h1:∀ u∈ys.flatMap e.cells,u.oneCell'=true:=by
   intro u hu;obtain ⟨y,_,hy⟩:=List.mem_flatMap.1 hu;exact e.one y u hy
  have aF:(l.length+ys.length) * bytes<=6000000 * 10000:=Nat.mul_le_mul Bl hbytes;obtain ⟨v',w',eF,h2,h3,_,h5⟩:=run_append_own_at (P:=P) w base t ty E i z e.sz bytes ht hi hz bY cM hzs aV v l.length (l.flatMap e.cells) hown ad ys.length c (ys.flatMap e.cells) (e.flat_length ys) (h0 ad rfl) h1 (by simp [maxLen];omega) Bl aY;refine ⟨v',w',eF,?_,h3,h5⟩;unfold Ow;rw [List.length_append,List.flatMap_append];exact h2
theorem Em {α:Type} {o:Oper} {a:Act} {K:Act->World->Prop} {Q:Exit->Act->World->Prop} (e:Enc α) (aV:0<e.sz) (s x:Operand) (t:TypeId)
  (ho:o.op = .call { callee:=.builtin .append,args:=#[s,x],argTypes:=#[t,t] })
  (base:Nat) (E:TypeId) (i:TypeInfo) (z:Value) (bytes:Nat) (ht:P.underlying t=Ac (.slice E)) (hi:P.info? E=Ac i) (hz:i.zero=Ac z)
  (bY:i.size=e.sz) (cM:i.bytes=bytes) (hzs:z.cells.size=e.sz)
  (v:Value) (l:List α) (hs:a.eval s=v) (hown:Ow e E w base v l)
  (B:Nat) (A:Option Addr) (m c:Nat) (ys:List α) (hx:a.eval x = .slice A m c) (hr:Rd e w B (.slice A m c) ys)
  (hn:l.length<=3000000) (hm:ys.length<=3000000) (hbytes:bytes<=10000) (aY:base<=w.heap.size)
  (h:∀ v' w',Ow e E w' base v' (l ++ ys)->w.grownBy w' v.ownBlock->(v'.ownBlock=v.ownBlock\/v'.ownBlock=Ac w.heap.size)->K (a.put o.dst v') w'):o.wp P a w K Q:=by
 obtain ⟨v',w',eF,h2,h3,h4⟩:=U9 (P:=P) w e aV base t o.type E i z bytes ht hi hz bY cM hzs v l hown B A m c ys hr hn hm hbytes aY;unfold Oper.wp execOp;simp only [ho,resolve,invoke,builtin,Sem.run_bind,Sem.run_pure,Result.andThen_ok,List.map_toArray,List.map_cons,List.map_nil,hs,hx,eF];exact h v' w' h2 h3 h4
theorem By {α:Type} {ops:Array Oper} {rest:List Oper} {o:Oper} {a:Act} {Q:Exit->Act->World->Prop} (e:Enc α) (aV:0<e.sz) (cU:o.guard=Ab) (s x:Operand) {t:TypeId}
  (ho:o.op = .call { callee:=.builtin .append,args:=#[s,x],argTypes:=#[t,t] })
  {base:Nat} {E:TypeId} {i:TypeInfo} {z:Value} {bytes:Nat} (ht:P.underlying t=Ac (.slice E)) (hi:P.info? E=Ac i) (hz:i.zero=Ac z)
  (bY:i.size=e.sz) (cM:i.bytes=bytes) (hzs:z.cells.size=e.sz)
  {v:Value} {l:List α} (hs:a.eval s=v) (hown:Ow e E w base v l)
  {B:Nat} {A:Option Addr} {m c:Nat} {ys:List α} (hx:a.eval x = .slice A m c) (hr:Rd e w B (.slice A m c) ys)
  (hn:l.length<=3000000) (hm:ys.length<=3000000) (hbytes:bytes<=10000) (aY:base<=w.heap.size)
  (h:∀ v' w',Ow e E w' base v' (l ++ ys)->w.grownBy w' v.ownBlock->(v'.ownBlock=v.ownBlock\/v'.ownBlock=Ac w.heap.size)->wpList P ops Q rest (a.put o.dst v') w'):wpList P ops Q (o :: rest) a w :=
 wpList_plain cU fun _ hK=>Em w e aV s x t ho base E i z bytes ht hi hz bY cM hzs v l hs hown B A m c ys hx hr hn hm hbytes aY fun v' w' h2 h3 h4=>hK _ _ (h v' w' h2 h3 h4)
theorem Ff {α:Type} {ops:Array Oper} {o:Oper} {a:Act} {K:Act->World->Prop} {Q:Exit->Act->World->Prop} {EE:Prop} (e:Enc α) (aV:0<e.sz) (cU:o.guard=Ab) (s x:Operand) {t:TypeId}
  (ho:o.op = .call { callee:=.builtin .append,args:=#[s,x],argTypes:=#[t,t] })
  {base:Nat} {E:TypeId} {i:TypeInfo} {z:Value} {bytes:Nat} (ht:P.underlying t=Ac (.slice E)) (hi:P.info? E=Ac i) (hz:i.zero=Ac z)
  (bY:i.size=e.sz) (cM:i.bytes=bytes) (hzs:z.cells.size=e.sz)
  {v:Value} {l:List α} (hs:a.eval s=v) (hown:Ow e E w base v l)
  {B:Nat} {A:Option Addr} {m c:Nat} {ys:List α} (hx:a.eval x = .slice A m c) (hr:Rd e w B (.slice A m c) ys)
  (hn:l.length<=3000000) (hm:ys.length<=3000000) (hbytes:bytes<=10000) (aY:base<=w.heap.size)
  (h:∀ v' w',Ow e E w' base v' (l ++ ys)->w.grownBy w' v.ownBlock->(v'.ownBlock=v.ownBlock\/v'.ownBlock=Ac w.heap.size)->K (a.put o.dst v') w') :
  if Region.wanted o (yielded ops a.tmps)=true then Oper.wp P o a w K Q else EE:=by
 have hw:Region.wanted o (yielded ops a.tmps)=true:=by simp [Region.wanted,cU]
 rw [if_pos hw];exact Em w e aV s x t ho base E i z bytes ht hi hz bY cM hzs v l hs hown B A m c ys hx hr hn hm hbytes aY h
end
theorem Rd.one {α:Type} (e:Enc α) (w:World) (T:TypeId) (x:α) {g:Nat} (hg:g=w) {cs:Array Value} (sB:cs=(e.cells x).toArray) (c:Nat) (hc:1<=c) {B:Nat} (hB:g<B):Rd e (w.alloc (.cells cs T)) B (Aa (Ac ⟨g,0,Ab⟩) 1 c) [x]:=by
 refine ⟨_,c,rfl,by simpa using hc,fun _=>⟨g,0,rfl,hB,fun k hk j u hu=>?_⟩⟩;have dB:k=0:=by simpa using hk
 subst dB;simp only [List.getElem_cons_zero] at hu
 have:=Pa w cs T hg j u (by rw [sB];simpa using hu)
 have ea:(⟨g,0,Ab⟩:Addr).add j=⟨g,0+0 * e.sz+j,Ab⟩:=by
  unfold Addr.add;split<;>simp_all
 rw [ea] at this;exact this
theorem Ow.empty {α:Type} (e:Enc α) (E:TypeId) (w:World) {g:Nat} (hg:g=w):Ow e E (w.alloc (.cells #[] E)) g (Aa (Ac ⟨g,0,Ab⟩) 0 0) []:=by
 subst hg;exact World.ownsRow_lit (base:=w.heap.size) (e:=E) (size:=e.sz) w #[] 0 (Bs _) (by simp [maxLen]) Bn
theorem Va (v:Value) (l:List Edge) (x:Edge) (w:World) (hl:l.length<=2000000) (h:Rd Gd w w v l) :
  Calls Am 250 #[v,Yc x] w fun e w'=>e = .returned (J U (Gs (fun y=>decide (x=y)) l))/\Below w w w':=by
 obtain ⟨A,c,rfl,-⟩:=id h;unfold Yc;go_enter Tryz.func250,Tryz.ntmps250;go_wp2;go_loopw [8] (fun i wr=>∃ k:Nat,k<=l.length/\i = J U k/\Hid (∀ j (hj:j<k) (hj':j<l.length),decide (x=l[j])=false)/\Below (w.alloc (.cells #[J U x.fr,J U x.to] 199)) (w.alloc (.cells #[J U x.fr,J U x.to] 199)) wr) (fun i _=>l.length - (intOf i).toNat);case atStart=>exact ⟨0,Ag _,rfl,fun j hj=>absurd hj Bl,Br _ _⟩
 case round =>
  obtain ⟨k,hk,rfl,dI,hb⟩:=hrel;have bS:Below w w (w.alloc (.cells #[J U x.fr,J U x.to] 199)):=(Br _ _).alloc (Bs _) _;have bQ:=Bt bS hb;by_cases aA:k<l.length
  ·obtain ⟨b,o,rfl,aH,c0,c1⟩:=(h.below bQ).edge aA;have n0:wr.cell? ⟨w,0,Ab⟩=Ac (J U x.fr):=(hb.cell (p:=⟨w,0,Ab⟩) Bn).trans (by go_simp);have n1:wr.cell? ⟨w,1,Ab⟩=Ac (J U x.to):=(hb.cell (p:=⟨w,1,Ab⟩) Bn).trans (by go_simp);by_cases hx:x=l[k]
   ·have H:=Bq (I8 (p:=fun y=>decide (x=y)) aA (fun j hj=>dI.out j hj Bl) (show decide (x=l[k])=true by simp [hx]));have e0:l[k].fr=x.fr:=by rw [hx]
    have e1:l[k].to=x.to:=by rw [hx]
    rw [e0] at c0;rw [e1] at c1;clear hx e0 e1;go_wp2;go_quiet (fail);go_wp2;go_ret;exact ⟨Dc (by rw [H.out]),Cj bQ _⟩
   ·have S:Hid (∀ j (hj:j<k+1) (hj':j<l.length),decide (x=l[j])=false):=by
     intro j hj hj';by_cases e:j=k
     ·subst e;simpa using hx
     ·exact dI.out j Bl hj'
    have eH:¬ (x.fr=l[k].fr/\x.to=l[k].to):=fun ⟨e0,e1⟩=>hx (by cases x;cases hlk:l[k];simp_all);clear hx;by_cases e0:x.fr=l[k].fr
    ·have e1:¬ x.to=l[k].to:=fun e=>eH ⟨e0,e⟩;have e1':(x.to == l[k].to)=false:=by simpa using e1
     rw [<-e0] at c0;clear eH e0;go_wp2;go_quiet (fail);go_wp2;exact ⟨⟨k+1,Bl,by go_num,S,Cj hb _⟩,by simp [intOf];omega⟩
    ·have e0':(x.fr == l[k].fr)=false:=by simpa using e0
     clear eH;go_wp2;go_quiet (fail);go_wp2;exact ⟨⟨k+1,Bl,by go_num,S,Cj hb _⟩,by simp [intOf];omega⟩
  ·have H:=Bq (Jq (p:=fun y=>decide (x=y)) (l:=l) (fun j hj=>dI.out j Bl hj));go_wp2;go_ret;exact ⟨Dc (by rw [H.out]),bQ⟩
theorem Ace {l:List Edge} {x:Edge} : (0<=Gs (fun y=>decide (x=y)) l) ↔ x∈l:=by
 unfold Gs;cases h:l.findIdx? (fun y=>decide (x=y)) with
 | none =>
  rw [List.findIdx?_eq_none_iff] at h;simp only;refine ⟨fun h=>absurd h Bl,fun hx=>?_⟩
  have:=h x hx
  simp at this
 | some i =>
  rw [List.findIdx?_eq_some_iff_getElem] at h;obtain ⟨hi,hp,_⟩:=h;simp only [decide_eq_true_eq] at hp;simp only;exact ⟨fun _=>by rw [hp];exact Aw hi,fun _=>Bl⟩
theorem L9 (v:Value) (l:List Edge) (x:Edge) (w:World) (hl:l.length<=2000000) (h:Rd Gd w w v l) :
  Calls Am 224 #[v,Yc x] w fun e w'=>e = .returned (.bool (decide (x∈l)))/\Below w w w':=by
 have bS:Below w w (w.alloc (.cells #[J U x.fr,J U x.to] 199)):=(Br _ _).alloc (Bs _) _;have H:=Bq (show decide (0<=Gs (fun y=>decide (x=y)) l)=decide (x∈l) from decide_eq_decide.2 Ace);unfold Yc;go_enter Tryz.func224,Tryz.ntmps224;go_wp2_with fail
 refine (Va v l x _ hl ((h.below bS).more bS.size)).mono ?_;rintro e w1 ⟨rfl,aN⟩;go_wp2_with fail
 go_ret;exact ⟨Bv (by rw [<-H.out]),Bt bS aN⟩
theorem M8 {p:Plan} (h:Eg p=false):Co p=1:=by unfold Co;rw [if_pos h]
theorem M9 {p:Plan} (h:Eg p=true) (h2:¬ Gr p):Co p=2:=by unfold Co;rw [if_neg (by rw [h];simp),if_pos h2]
theorem Mw {p:Plan} (h:Eg p=true) (h2:Gr p) (h3:¬ p.edges.Nodup):Co p=3:=by
 unfold Co;rw [if_neg (by rw [h];simp),if_neg (by simpa using h2),if_pos h3]
theorem Mx {p:Plan} (h:Eg p=true) (h2:Gr p) (h3:p.edges.Nodup) (h4:Qf p):Co p=4:=by
 unfold Co;rw [if_neg (by rw [h];simp),if_neg (by simpa using h2),if_neg (by simpa using h3),if_pos h4]
theorem Mi {α:Type} {l:List α} {x:α} : (l ++ [x]).Nodup ↔ l.Nodup/\x∉l:=by
 rw [Ax];constructor
 ·rintro ⟨h1,_,h2⟩;exact ⟨h1,fun hx=>h2 x hx x Bn rfl⟩
 ·rintro ⟨h1,h2⟩;refine ⟨h1,Bn,fun a ha b hb e=>?_⟩;simp only [Au] at hb;subst hb;subst e;exact h2 ha
theorem Ox (p:Plan) (ve:Value) (w:World) (hl:p.edges.length<=2000000) (h:Rd Gd w w ve p.edges) (hm:Eg p=false) :
  Calls Am 164 #[Ge p ve] w fun e w'=>e = .returned (J U (Co p))/\Below w w w':=by
 have H:=Bq (M8 hm);obtain ⟨A,c,rfl,-⟩:=id h;unfold Ge;cases h1:inB p.tasks 1 12
 ·clear hm;go_enter Tryz.func164,Tryz.ntmps164;go_wp2_with (go_at_call 58;refine (Cl _ _ _ _).mono ?_;rintro e w' ⟨rfl,rfl⟩)
  go_ret;exact ⟨Dc H.out.symm,(Br _ _).alloc (Bs _) _⟩
 by_cases h2:30<p.edges.length
 ·have h2':(30:Int)<(p.edges.length:Int):=Bl;clear hm;go_enter Tryz.func164,Tryz.ntmps164;go_wp2_with (go_at_call 58;refine (Cl _ _ _ _).mono ?_;rintro e w' ⟨rfl,rfl⟩)
  go_ret;exact ⟨Dc H.out.symm,(Br _ _).alloc (Bs _) _⟩
 have h2':¬ (30:Int)<(p.edges.length:Int):=Bl;cases h3:inB p.prio 0 9
 ·clear hm;go_enter Tryz.func164,Tryz.ntmps164;go_wp2_with (go_at_call 58;refine (Cl _ _ _ _).mono ?_;rintro e w' ⟨rfl,rfl⟩)
  go_ret;exact ⟨Dc H.out.symm,(Br _ _).alloc (Bs _) _⟩
 cases h4:inB p.most 1 5
 ·clear hm;go_enter Tryz.func164,Tryz.ntmps164;go_wp2_with (go_at_call 58;refine (Cl _ _ _ _).mono ?_;rintro e w' ⟨rfl,rfl⟩)
  go_ret;exact ⟨Dc H.out.symm,(Br _ _).alloc (Bs _) _⟩
 cases h5:inB p.wait 1 20
 ·clear hm;go_enter Tryz.func164,Tryz.ntmps164;go_wp2_with (go_at_call 58;refine (Cl _ _ _ _).mono ?_;rintro e w' ⟨rfl,rfl⟩)
  go_ret;exact ⟨Dc H.out.symm,(Br _ _).alloc (Bs _) _⟩
 ·exfalso;have:Eg p=true:=by simp [Eg,h1,h3,h4,h5];omega
  rw [this] at hm;cases hm
structure Sl where
 a:Option Addr
 n:Nat
 c:Nat
abbrev Sl.v (s:Sl):Value:=.slice s.a s.n s.c
structure Chg (F:List Nat) (w w':World):Prop where
 os:w'.os=w.os
 tape:w'.tape=w.tape
 output:w'.output=w.output
 size:w.heap.size<=w'.heap.size
 block:∀ b,b<w.heap.size->b∉F->w'.heap[b]? = w.heap[b]?
theorem Chg.refl (F:List Nat) (w:World):Chg F w w:=⟨rfl,rfl,rfl,Bs _,fun _ _ _=>rfl⟩
theorem Chg.trans {F:List Nat} {a b c:World} (h:Chg F a b) (k:Chg F b c):Chg F a c :=
 ⟨k.os.trans h.os,k.tape.trans h.tape,k.output.trans h.output,Ah h.size k.size,fun i hi hn=>(k.block i (Ai hi h.size) hn).trans (h.block i hi hn)⟩
theorem Chg.mono {F G:List Nat} {a b:World} (h:Chg F a b) (hs:∀ x∈F,x∈G):Chg G a b:=⟨h.os,h.tape,h.output,h.size,fun i hi hn=>h.block i hi (fun hx=>hn (hs i hx))⟩
theorem Chg.of_below {a b:World} (F:List Nat) (h:Below a a b):Chg F a b:=⟨h.os,h.tape,h.output,h.size,fun i hi _=>h.block i hi⟩
theorem Chg.below {F:List Nat} {a b:World} (h:Chg F a b) {base:Nat} (hb:base<=a.heap.size) (hF:∀ x∈F,base<=x):Below base a b :=
 ⟨h.os,h.tape,h.output,h.size,fun i hi=>h.block i Bl (fun hx=>by have:=hF i hx;omega)⟩
theorem Chg.setCell (w:World) (b o:Nat) (u:Value):Chg [b] w (w.setCell ⟨b,o,Ab⟩ u) :=
 ⟨rfl,rfl,rfl,by simp [World.setCell],fun i _ hn=>Below.heap_setCell w ⟨b,o,Ab⟩ u i (by simpa using hn)⟩
theorem Chg.grown {F:List Nat} {a b:World} {row:Option Nat} (h:a.grownBy b row) (hr:∀ g,row=Ac g->g∈F):Chg F a b :=
 ⟨h.os,h.tape,h.output,h.size,fun i hi hn=>h.block i hi (fun e=>hn (hr i e.symm))⟩
theorem Chg.cell {F:List Nat} {w w':World} (h:Chg F w w') {p:Addr} (hp:p.block<w.heap.size) (hn:p.block∉F):w'.cell? p=w.cell? p:=World.cell?_of_block (h.block _ hp hn)
theorem Chg.frozen {F:List Nat} {w w':World} (h:Chg F w w') {p:Addr} (hp:p.block<w.heap.size) (hn:p.block∉F):w'.frozen? p=w.frozen? p:=World.frozen?_of_block (h.block _ hp hn)
section
variable {α:Type} {e:Enc α} {w w':World} {B B':Nat} {v:Value} {l:List α} {F G:List Nat}
def Dz (v:Value) (n:Nat):List Nat:=if n=0 then [] else v.ownBlock.toList
theorem Jf (v:Value) (n:Nat):(Dz v n).Nodup:=by
 unfold Dz;split
 ·exact List.nodup_nil
 ·cases v.ownBlock<;>simp
def Hw (e:Enc α) (w:World) (F:List Nat) (v:Value) (l:List α):Prop:=Rd e w w v l/\F=Dz v l.length /\ ∀ g∈F,∀ j,w.frozen? ⟨g,j,Ab⟩=false
theorem Rd.block_lt {A:Option Addr} {n c:Nat} (h:Rd e w B (Aa A n c) l):∀ b∈Dz (Aa A n c) l.length,b<B:=by
 intro b hb;obtain ⟨A',c',hv,_,hA⟩:=h;simp only [Value.slice.injEq] at hv;obtain ⟨rfl,rfl,rfl⟩:=hv;unfold Dz at hb;split at hb
 ·cases hb
 ·obtain ⟨b',o',rfl,aA,_⟩:=hA Bl;simp [Value.ownBlock] at hb;omega
theorem Rd.keepF (h:Rd e w B v l) (hB:B<=B') (hk:∀ b∈Dz v l.length,∀ o,w'.cell? ⟨b,o,Ab⟩=w.cell? ⟨b,o,Ab⟩):Rd e w' B' v l:=by
 obtain ⟨A,c,rfl,bZ,hA⟩:=h;refine ⟨A,c,rfl,bZ,fun hl=>?_⟩;obtain ⟨b,o,rfl,aA,hc⟩:=hA hl;refine ⟨b,o,rfl,Bl,fun k bJ j u hu=>?_⟩;rw [hk b (by unfold Dz;rw [if_neg Bl];simp [Value.ownBlock])];exact hc k bJ j u hu
theorem Hw.lt (h:Hw e w F v l):∀ b∈F,b<w:=by
 obtain ⟨hr,rfl,_⟩:=h;obtain ⟨A,c,rfl,_⟩:=id hr;exact hr.block_lt
theorem Hw.nodup (h:Hw e w F v l):F.Nodup:=by
 obtain ⟨_,rfl,_⟩:=h;exact Jf _ _
theorem Hw.keep (h:Hw e w F v l) (hs:w.heap.size<=w'.heap.size) (hk:∀ b∈F,w'.heap[b]? = w.heap[b]?):Hw e w' F v l:=by
 obtain ⟨hr,rfl,hf⟩:=h;refine ⟨hr.keepF hs (fun b hb o=>World.cell?_of_block (hk b hb)),rfl,fun g hg j=>?_⟩;rw [World.frozen?_of_block (w:=w) (hk g hg)];exact hf g hg j
theorem Hw.chg (h:Hw e w F v l) (hc:Chg G w w') (hd:∀ b∈F,b∉G):Hw e w' F v l:=h.keep hc.size fun b hb=>hc.block b (h.lt b hb) (hd b hb)
theorem Hw.below (h:Hw e w F v l) (hb:Below w w w'):Hw e w' F v l:=h.keep hb.size fun b hF=>hb.block b (h.lt b hF)
theorem Hw.rd (h:Hw e w F v l):Rd e w w v l:=h.1
theorem Hw.of_ow {E:TypeId} {base:Nat} (h:Ow e E w base v l):Hw e w (Dz v l.length) v l /\ ∀ b∈Dz v l.length,base<=b:=by
 have hr:=Rd.of_own h;rcases h.form with ⟨rfl,rfl⟩ | ⟨g,cap,rfl,h1,h2,_,_,hf,_⟩
 ·exact ⟨⟨hr,rfl,fun g hg=>by simp [Dz] at hg⟩,fun b hb=>by simp [Dz] at hb⟩
 ·have hb:∀ b∈Dz (Aa (Ac ⟨g,0,Ab⟩) l.length cap) l.length,b=g:=by
   intro b hb;unfold Dz at hb;split at hb
   ·cases hb
   ·simpa [Value.ownBlock] using hb
  exact ⟨⟨hr,rfl,fun b aU j=>by rw [hb b aU];exact hf j⟩,fun b aU=>by rw [hb b aU];exact h1⟩
theorem Hw.nil (e:Enc α) (w:World) (A:Option Addr) (c:Nat):Hw e w [] (Aa A 0 c) [] :=
 ⟨⟨A,c,rfl,Ag _,fun h=>absurd h Bn⟩,by simp [Dz],fun _ h=>by cases h⟩
theorem Hw.at_ {A:Option Addr} {n c:Nat} (h:Hw e w F (Aa A n c) l) (hp:0<l.length):∃ b o,A=Ac ⟨b,o,Ab⟩/\F=[b]/\b<w.heap.size/\(∀ j,w.frozen? ⟨b,j,Ab⟩=false):=by
 obtain ⟨hr,hF,hf⟩:=h;obtain ⟨A',c',hv,_,hA⟩:=id hr;simp only [Value.slice.injEq] at hv;obtain ⟨rfl,rfl,rfl⟩:=hv;obtain ⟨b,o,rfl,aA,_⟩:=hA hp;have hFb:F=[b]:=by
  rw [hF];unfold Dz;rw [if_neg Bl];rfl
 exact ⟨b,o,rfl,hFb,aA,fun j=>hf b (by rw [hFb];simp) j⟩
end
theorem Ie:∀ (us:List Value) (w:World) (b i:Nat),Chg [b] w (G9 w b i us)
 | [],w,b,_=>Chg.refl [b] w
 | u :: us,w,b,i=>(Chg.setCell w b i u).trans (Ie us _ b (i+1))
theorem I9:∀ (us:List Value) (w:World) (b i:Nat),(G9 w b i us).heap.size=w.heap.size
 | [],_,_,_=>rfl
 | u :: us,w,b,i=>by
  rw [G9,I9 us];simp [World.setCell]
theorem Km (w:World) (b o i:Nat) (u u0:Value) (h0:w.cell? ⟨b,o,Ab⟩=Ac u0) (hi:∃ x,w.cell? ⟨b,i,Ab⟩=Ac x) :
  (w.setCell ⟨b,i,Ab⟩ u).cell? ⟨b,o,Ab⟩=Ac (if o=i then u else u0):=by
 by_cases h:o=i
 ·subst h;rw [if_pos rfl];obtain ⟨x,hx⟩:=hi;simp [go_sem,hx]
 ·rw [if_neg h]
  have:=h0
  simp [go_sem,this]
theorem Qg:∀ (us:List Value) (w:World) (b i o:Nat) (u0:Value),(∀ j,j<us.length -> ∃ x,w.cell? ⟨b,i+j,Ab⟩=Ac x)->w.cell? ⟨b,o,Ab⟩=Ac u0 ->
  (G9 w b i us).cell? ⟨b,o,Ab⟩=Ac (if h:i<=o/\o<i+us.length then us[o - i]' Bl else u0)
 | [],w,b,i,o,u0,_,h0=>by
  rw [G9,h0,dif_neg Bn]
 | u :: us,w,b,i,o,u0,hx,h0=>by
  have h1:=Km w b o i u u0 h0 (by simpa using hx 0 Bn);have h2:=Qg us (w.setCell ⟨b,i,Ab⟩ u) b (i+1) o _ (fun j hj=>by
   obtain ⟨x,eH⟩:=hx (j+1) (by simpa using hj);exact ⟨_,Km w b (i+1+j) i u x (by rw [show i+1+j=i+(j+1) from by omega];exact eH) (by simpa using hx 0 Bn)⟩) h1
  rw [G9,h2];congr 1;by_cases ho:o=i
  ·subst ho;rw [dif_neg Bl,if_pos rfl,dif_pos Bn];simp
  ·by_cases cE:i+1<=o/\o<i+1+us.length
   ·rw [dif_pos cE,dif_pos (by simp only [List.length_cons];omega)];have:o - i=(o - (i+1))+1:=Bl;simp only [this,List.getElem_cons_succ]
   ·rw [dif_neg cE,if_neg ho,dif_neg (by simp only [List.length_cons];omega)]
theorem Ig (w:World) (a:Addr) (u:Value) (p:Addr):(w.setCell a u).frozen? p=w.frozen? p:=by simp [go_sem]
theorem Ih:∀ (us:List Value) (w:World) (b i:Nat) (p:Addr),(G9 w b i us).frozen? p=w.frozen? p
 | [],_,_,_,_=>rfl
 | u :: us,w,b,i,p=>by rw [G9,Ih us,Ig]
theorem Rd.part {α:Type} {e:Enc α} {w:World} {B b o n c:Nat} {l:List α} (h:Rd e w B (Aa (Ac ⟨b,o,Ab⟩) n c) l) (k:Nat) (hk:k<l.length) (y:α) (off:Nat) (us:List Value) (hoff:off+us.length<=e.sz)
  (cE:∀ j (hj:j<us.length),(e.cells y)[off+j]? = Ac us[j]) (fE:∀ j,j<e.sz->(j<off\/off+us.length<=j)->(e.cells y)[j]? = (e.cells l[k])[j]?) :
  Rd e (G9 w b (o+k * e.sz+off) us) B (Aa (Ac ⟨b,o,Ab⟩) n c) (l.set k y):=by
 obtain ⟨A',c',hv,bZ,hA⟩:=h;simp only [Value.slice.injEq] at hv;obtain ⟨rfl,rfl,rfl⟩:=hv;refine ⟨_,c,by rw [Bh],by rw [Bh];exact bZ,fun _=>?_⟩;obtain ⟨b',o',he,aA,hc⟩:=hA Bl;simp only [Option.some.injEq,Addr.mk.injEq,and_true] at he;obtain ⟨rfl,rfl⟩:=he;refine ⟨b,o,rfl,aA,fun i aL j u hu=>?_⟩;have hi:i<l.length:=by rw [Bh] at aL;exact aL
 have hj:j<e.sz:=by
  have:=(List.getElem?_eq_some_iff.1 hu).1
  rw [e.len] at this;exact this
 have sQ:∀ j',j'<us.length -> ∃ x,w.cell? ⟨b,o+k * e.sz+off+j',Ab⟩=Ac x:=fun j' hj'=>by
  have eP:off+j'<(e.cells l[k]).length:=by rw [e.len];omega
  exact ⟨_,by rw [Nat.add_assoc];exact hc k hk (off+j') _ (List.getElem?_eq_getElem eP)⟩
 by_cases hik:i=k
 ·subst hik;rw [List.getElem_set_self] at hu;have uS:j<(e.cells l[i]).length:=by rw [e.len];exact hj
  have h0:=hc i hi j _ (List.getElem?_eq_getElem uS);have h1:=Qg us w b (o+i * e.sz+off) (o+i * e.sz+j) _ sQ h0;rw [h1];by_cases hr:off<=j/\j<off+us.length
  ·rw [dif_pos Bl];have h2:=cE (j - off) Bl;rw [show off+(j - off)=j from Bl,hu] at h2;have h3:o+i * e.sz+j - (o+i * e.sz+off)=j - off:=Bl;simp only [h3];exact h2.symm
  ·rw [dif_neg Bl];have h2:=fE j hj Bl;rw [hu,List.getElem?_eq_getElem uS] at h2;exact h2.symm
 ·rw [List.getElem_set_ne Bl] at hu;have h0:=hc i hi j u hu;have h1:=Qg us w b (o+k * e.sz+off) (o+i * e.sz+j) _ sQ h0;rw [h1,dif_neg];intro hh;rcases Nat.lt_or_gt_of_ne hik with h | h
  ·have:(i+1) * e.sz<=k * e.sz:=Nat.mul_le_mul_right _ h;rw [Nat.succ_mul] at this;omega
  ·have:(k+1) * e.sz<=i * e.sz:=Nat.mul_le_mul_right _ h;rw [Nat.succ_mul] at this;omega
theorem Rd.same {α:Type} {e:Enc α} {w:World} {B:Nat} {v:Value} {l:List α} (h:Rd e w B v l) (k:Nat) (hk:k<l.length) (y:α) (hy:e.cells y=e.cells l[k]):Rd e w B v (l.set k y):=by
 obtain ⟨A,c,rfl,bZ,hA⟩:=h;refine ⟨A,c,by rw [Bh],by rw [Bh];exact bZ,fun hl=>?_⟩;rw [Bh] at hl;obtain ⟨b,o,hb,aA,hc⟩:=hA hl;refine ⟨b,o,hb,aA,fun i aL j u hu=>?_⟩;have hi:i<l.length:=by rw [Bh] at aL;exact aL
 refine hc i hi j u ?_;by_cases hik:k=i
 ·subst hik;rw [List.getElem_set_self,hy] at hu;exact hu
 ·rw [List.getElem_set_ne hik] at hu;exact hu
structure Dt (α:Type) where
 S:Type
 enc:Enc (α×S)
 rd:World->Nat->α->S->Prop
 ow:World->List Nat->α->S->Prop
 rd_keep:∀ {w w':World} {B B':Nat} {x:α} {s:S},rd w B x s->B<=B'->(∀ p:Addr,p.block<B->w'.cell? p=w.cell? p)->rd w' B' x s
 ow_keep:∀ {w w':World} {F:List Nat} {x:α} {s:S},ow w F x s->w.heap.size<=w'.heap.size->(∀ b∈F,w'.heap[b]? = w.heap[b]?)->ow w' F x s
 ow_lt:∀ {w:World} {F:List Nat} {x:α} {s:S},ow w F x s -> ∀ b∈F,b<w
 ow_rd:∀ {w:World} {F:List Nat} {x:α} {s:S},ow w F x s->rd w w x s
 ow_nodup:∀ {w:World} {F:List Nat} {x:α} {s:S},ow w F x s->F.Nodup
section
variable {α:Type} {d:Dt α} {w w':World} {B B':Nat} {v:Value} {l:List α} {F G:List Nat}
def RdL (d:Dt α) (w:World) (B:Nat) (v:Value) (l:List α):Prop:=∃ rs:List (α×d.S),rs.map (·.1)=l/\Rd d.enc w B v rs /\ ∀ r∈rs,d.rd w B r.1 r.2
theorem RdL.keep (h:RdL d w B v l) (hB:B<=B') (hk:∀ p:Addr,p.block<B->w'.cell? p=w.cell? p):RdL d w' B' v l:=by
 obtain ⟨rs,hm,hr,ha⟩:=h;exact ⟨rs,hm,(hr.keep hk).more hB,fun r hx=>d.rd_keep (ha r hx) hB hk⟩
theorem RdL.below (h:RdL d w B v l) (hb:Below B w w'):RdL d w' B v l:=h.keep (Bs _) fun _ hp=>hb.cell hp
theorem RdL.more (h:RdL d w B v l) (hB:B<=B'):RdL d w B' v l:=h.keep hB fun _ _=>rfl
theorem RdL.form (h:RdL d w B v l):∃ A c,v = Aa A l.length c/\l.length<=c:=by
 obtain ⟨rs,rfl,⟨A,c,hv,hc,_⟩,_⟩:=h;exact ⟨A,c,by rw [Ar];exact hv,by rw [Ar];exact hc⟩
theorem RdL.at_ {A:Option Addr} {n c:Nat} (h:RdL d w B (Aa A n c) l) (k:Nat) (hk:k<l.length):∃ b o s,A=Ac ⟨b,o,Ab⟩/\b<B /\
  (∀ j u,(d.enc.cells (l[k],s))[j]? = Ac u->w.cell? ⟨b,o+k * d.enc.sz+j,Ab⟩=Ac u)/\d.rd w B l[k] s:=by
 obtain ⟨rs,rfl,⟨A',c',hv,_,hA⟩,ha⟩:=h;simp only [Value.slice.injEq] at hv;obtain ⟨rfl,_,_⟩:=hv;rw [Ar] at hk;obtain ⟨b,o,bT,hb,hc⟩:=hA Bl;have e:(rs.map (·.1))[k]'(by rw [Ar];exact hk)=rs[k].1:=by rw [List.getElem_map]
 refine ⟨b,o,rs[k].2,bT,hb,fun j u hu=>?_,?_⟩
 ·rw [e] at hu;exact hc k hk j u hu
 ·rw [e];exact ha _ (Aw hk)
inductive Ows (d:Dt α) (w:World):List Nat->List (α×d.S)->Prop
 | nil:Ows d w [] []
 | cons {F G:List Nat} {r:α×d.S} {rs:List (α×d.S)} : d.ow w F r.1 r.2->Ows d w G rs->Ows d w (F ++ G) (r :: rs)
theorem Ows.keep {rs:List (α×d.S)} (h:Ows d w F rs) (hs:w.heap.size<=w'.heap.size) (hk:∀ b∈F,w'.heap[b]? = w.heap[b]?):Ows d w' F rs:=by
 induction h with
 | nil=>exact .nil
 | cons h1 _ ih=>exact .cons (d.ow_keep h1 hs fun b hb=>hk b (Bf _ hb)) (ih fun b hb=>hk b (Be _ hb))
theorem Ows.lt {rs:List (α×d.S)} (h:Ows d w F rs):∀ b∈F,b<w:=by
 induction h with
 | nil=>intro b hb;cases hb
 | cons h1 _ ih =>
  intro b hb;rcases Bi.1 hb with hb | hb
  ·exact d.ow_lt h1 b hb
  ·exact ih b hb
theorem Ows.rd {rs:List (α×d.S)} (h:Ows d w F rs):∀ r∈rs,d.rd w w r.1 r.2:=by
 induction h with
 | nil=>intro r hr;cases hr
 | cons h1 _ ih =>
  intro r hr;rcases List.mem_cons.1 hr with rfl | hr
  ·exact d.ow_rd h1
  ·exact ih r hr
theorem Ows.append {rs ts:List (α×d.S)} (h:Ows d w F rs) (k:Ows d w G ts):Ows d w (F ++ G) (rs ++ ts):=by
 induction h with
 | nil=>exact k
 | cons h1 _ ih =>
  rw [List.append_assoc];exact .cons h1 ih
theorem Ows.one {r:α×d.S} (h:d.ow w F r.1 r.2):Ows d w F [r]:=by
 have:=Ows.cons h (Ows.nil (d:=d) (w:=w))
 rwa [List.append_nil] at this
theorem Ows.split {rs:List (α×d.S)} (h:Ows d w F rs) (k:Nat) (hk:k<=rs.length):∃ F1 F2,F=F1 ++ F2/\Ows d w F1 (rs.take k)/\Ows d w F2 (rs.drop k):=by
 induction h generalizing k with
 | nil=>exact ⟨[],[],rfl,by simpa using Ows.nil,by simpa using Ows.nil⟩
 | @cons F G r rs h1 h2 ih =>
  cases k with
  | zero=>exact ⟨[],F ++ G,rfl,by simpa using Ows.nil,by simpa using Ows.cons h1 h2⟩
  | succ k =>
   obtain ⟨F1,F2,rfl,h3,h4⟩:=ih k (by simpa using hk);exact ⟨F ++ F1,F2,by rw [List.append_assoc],by simpa using Ows.cons h1 h3,by simpa using h4⟩
theorem Ows.head {r:α×d.S} {rs:List (α×d.S)} (h:Ows d w F (r :: rs)):∃ F1 F2,F=F1 ++ F2/\d.ow w F1 r.1 r.2/\Ows d w F2 rs:=by
 cases h with
 | cons h1 h2=>exact ⟨_,_,rfl,h1,h2⟩
def OwL (d:Dt α) (w:World) (F:List Nat) (v:Value) (l:List α):Prop :=
 ∃ (rs:List (α×d.S)) (H G:List Nat),rs.map (·.1)=l/\Hw d.enc w H v rs/\Ows d w G rs/\F=H ++ G/\F.Nodup
theorem OwL.keep (h:OwL d w F v l) (hs:w.heap.size<=w'.heap.size) (hk:∀ b∈F,w'.heap[b]? = w.heap[b]?):OwL d w' F v l:=by
 obtain ⟨rs,H,G,hm,hh,ho,rfl,hn⟩:=h;exact ⟨rs,H,G,hm,hh.keep hs fun b hb=>hk b (Bf _ hb),ho.keep hs fun b hb=>hk b (Be _ hb),rfl,hn⟩
theorem OwL.lt (h:OwL d w F v l):∀ b∈F,b<w:=by
 obtain ⟨rs,H,G,hm,hh,ho,rfl,hn⟩:=h;intro b hb;rcases Bi.1 hb with hb | hb
 ·exact hh.lt b hb
 ·exact ho.lt b hb
theorem OwL.nodup (h:OwL d w F v l):F.Nodup:=by
 obtain ⟨rs,H,G,hm,hh,ho,rfl,hn⟩:=h;exact hn
theorem OwL.rd (h:OwL d w F v l):RdL d w w v l:=by
 obtain ⟨rs,H,G,hm,hh,ho,rfl,hn⟩:=h;exact ⟨rs,hm,hh.rd,ho.rd⟩
theorem OwL.chg (h:OwL d w F v l) (hc:Chg G w w') (hd:∀ b∈F,b∉G):OwL d w' F v l:=h.keep hc.size fun b hb=>hc.block b (h.lt b hb) (hd b hb)
theorem OwL.below (h:OwL d w F v l) (hb:Below w w w'):OwL d w' F v l:=h.keep hb.size fun b hF=>hb.block b (h.lt b hF)
theorem OwL.nil (d:Dt α) (w:World) (A:Option Addr) (c:Nat):OwL d w [] (Aa A 0 c) []:=⟨[],[],[],rfl,Hw.nil _ _ _ _,.nil,rfl,List.nodup_nil⟩
theorem OwL.form (h:OwL d w F v l):∃ A c,v = Aa A l.length c/\l.length<=c:=h.rd.form
@[reducible] def Dt.list (d:Dt α):Dt (List α) where
 S:=Sl
 enc:={ cells:=fun p=>[p.2.v],sz:=1,len:=fun _=>rfl,one:=fun p u hu=>by simp at hu;subst hu;rfl }
 rd w B l s:=RdL d w B s.v l
 ow w F l s:=OwL d w F s.v l
 rd_keep h hB hk:=h.keep hB hk
 ow_keep h hs hk:=h.keep hs hk
 ow_lt h:=h.lt
 ow_rd h:=h.rd
 ow_nodup h:=h.nodup
@[reducible] def Dt.flats (e:Enc α):Dt (List α) where
 S:=Sl
 enc:={ cells:=fun p=>[p.2.v],sz:=1,len:=fun _=>rfl,one:=fun p u hu=>by simp at hu;subst hu;rfl }
 rd w B l s:=Rd e w B s.v l
 ow w F l s:=Hw e w F s.v l
 rd_keep h hB hk:=(h.keep hk).more hB
 ow_keep h hs hk:=h.keep hs hk
 ow_lt h:=h.lt
 ow_rd h:=h.rd
 ow_nodup h:=h.nodup
@[reducible] def Dt.flat {β:Type} (cells:β×Unit->List Value) (sz:Nat) (len:∀ x,(cells x).length=sz) (one:∀ x,∀ u∈cells x,u.oneCell'=true):Dt β where
 S:=Unit
 enc:={ cells:=cells,sz:=sz,len:=len,one:=one }
 rd _ _ _ _:=True
 ow _ F _ _:=F=[]
 rd_keep _ _ _:=trivial
 ow_keep h _ _:=h
 ow_lt h:=by subst h;intro b hb;cases hb
 ow_rd _:=trivial
 ow_nodup h:=by subst h;exact List.nodup_nil
@[reducible] def Dt.via {β:Type} (d:Dt α) (f:β->α) (cells:β×d.S->List Value) (sz:Nat) (len:∀ x,(cells x).length=sz) (one:∀ x,∀ u∈cells x,u.oneCell'=true):Dt β where
 S:=d.S
 enc:={ cells:=cells,sz:=sz,len:=len,one:=one }
 rd w B x s:=d.rd w B (f x) s
 ow w F x s:=d.ow w F (f x) s
 rd_keep h hB hk:=d.rd_keep h hB hk
 ow_keep h hs hk:=d.ow_keep h hs hk
 ow_lt h:=d.ow_lt h
 ow_rd h:=d.ow_rd h
 ow_nodup h:=d.ow_nodup h
@[reducible] def Dt.two {β γ:Type} (d:Dt α) (d':Dt γ) (f:β->α) (g:β->γ) (cells:β×(d.S×d'.S)->List Value) (sz:Nat) (len:∀ x,(cells x).length=sz) (one:∀ x,∀ u∈cells x,u.oneCell'=true):Dt β where
 S:=d.S×d'.S
 enc:={ cells:=cells,sz:=sz,len:=len,one:=one }
 rd w B x s:=d.rd w B (f x) s.1/\d'.rd w B (g x) s.2
 ow w F x s:=∃ F1 F2,F=F1 ++ F2/\F.Nodup/\d.ow w F1 (f x) s.1/\d'.ow w F2 (g x) s.2
 rd_keep h hB hk:=⟨d.rd_keep h.1 hB hk,d'.rd_keep h.2 hB hk⟩
 ow_keep:=fun ⟨F1,F2,hF,hn,h1,h2⟩ hs hk=>⟨F1,F2,hF,hn,d.ow_keep h1 hs fun b hb=>hk b (by rw [hF];exact Bf _ hb),d'.ow_keep h2 hs fun b hb=>hk b (by rw [hF];exact Be _ hb)⟩
 ow_lt:=fun ⟨F1,F2,hF,hn,h1,h2⟩ b hb=>by
  rw [hF] at hb
  rcases Bi.1 hb with hb | hb
  ·exact d.ow_lt h1 b hb
  ·exact d'.ow_lt h2 b hb
 ow_rd:=fun ⟨F1,F2,hF,hn,h1,h2⟩=>⟨d.ow_rd h1,d'.ow_rd h2⟩
 ow_nodup:=fun ⟨F1,F2,hF,hn,h1,h2⟩=>hn
theorem Dt.ow_chg (d:Dt α) {x:α} {s:d.S} (h:d.ow w F x s) (hc:Chg G w w') (hd:∀ b∈F,b∉G):d.ow w' F x s:=d.ow_keep h hc.size fun b hb=>hc.block b (d.ow_lt h b hb) (hd b hb)
theorem Dt.ow_below (d:Dt α) {x:α} {s:d.S} (h:d.ow w F x s) (hb:Below w w w'):d.ow w' F x s:=d.ow_keep h hb.size fun b hF=>hb.block b (d.ow_lt h b hF)
theorem Dt.rd_below (d:Dt α) {x:α} {s:d.S} (h:d.rd w B x s) (hb:Below B w w'):d.rd w' B x s:=d.rd_keep h (Bs _) fun _ hp=>hb.cell hp
theorem Dt.rd_more (d:Dt α) {x:α} {s:d.S} (h:d.rd w B x s) (hB:B<=B'):d.rd w B' x s:=d.rd_keep h hB fun _ _=>rfl
def Di (d:Dt α) (val:α->d.S->Value) (x:α) (w:World) (e:Ending) (w':World):Prop :=
 ∃ s F,e = .returned (val x s)/\d.ow w' F x s/\(∀ b∈F,w<=b)/\Below w w w'
end
section
variable {α:Type} {d:Dt α} {w w':World} {v:Value} {l:List α} {F G:List Nat}
theorem Dt.ow_set (d:Dt α) {x:α} {s:d.S} (h:d.ow w F x s) {a:Addr} (ha:a.block∉F) (u:Value):d.ow (w.setCell a u) F x s :=
 d.ow_keep h (by simp [World.setCell]) fun b hb=>Below.heap_setCell w a u b (fun e=>ha (by rw [<-e];exact hb))
theorem OwL.set (h:OwL d w F v l) {a:Addr} (ha:a.block∉F) (u:Value):OwL d (w.setCell a u) F v l :=
 h.keep (by simp [World.setCell]) fun b hb=>Below.heap_setCell w a u b (fun e=>ha (by rw [<-e];exact hb))
theorem Hw.set {e:Enc α} (h:Hw e w F v l) {a:Addr} (ha:a.block∉F) (u:Value):Hw e (w.setCell a u) F v l :=
 h.keep (by simp [World.setCell]) fun b hb=>Below.heap_setCell w a u b (fun e=>ha (by rw [<-e];exact hb))
theorem Ows.bel {rs:List (α×d.S)} (h:Ows d w F rs) (hb:Below w w w'):Ows d w' F rs:=h.keep hb.size fun b hF=>hb.block b (h.lt b hF)
theorem Ows.chg {rs:List (α×d.S)} (h:Ows d w F rs) (hc:Chg G w w') (hd:∀ b∈F,b∉G):Ows d w' F rs:=h.keep hc.size fun b hb=>hc.block b (h.lt b hb) (hd b hb)
end
theorem G4 (v:Value) (n:Nat):∀ b∈Dz v n,v.ownBlock=Ac b:=by
 intro b hb;unfold Dz at hb;split at hb
 ·cases hb
 ·cases h:v.ownBlock with
  | none=>rw [h] at hb;cases hb
  | some g =>
   rw [h] at hb;simp at hb;rw [hb]
section
variable {α:Type} {d:Dt α} {E:TypeId} {w w1 w':World} {base:Nat} {v:Value} {rs:List (α×d.S)}
def Bld (d:Dt α) (E:TypeId) (w:World) (base:Nat) (v:Value) (rs:List (α×d.S)):Prop :=
 ∃ G,Ow d.enc E w base v rs/\Ows d w G rs/\G.Nodup /\ ∀ b∈G,base<=b/\v.ownBlock≠Ac b
theorem Bld.nil (d:Dt α) (E:TypeId) (w:World) (base:Nat):Bld d E w base (Aa Ab 0 0) []:=⟨[],Ow.nil _ _ _ _,.nil,List.nodup_nil,fun _ h=>by cases h⟩
theorem Bld.of_empty {v:Value} (h:Ow d.enc E w base v []):Bld d E w base v []:=⟨[],h,.nil,List.nodup_nil,fun _ h=>by cases h⟩
theorem Bld.below (h:Bld d E w base v rs) (hb:Below w w w'):Bld d E w' base v rs:=by
 obtain ⟨G,h1,h2,h3,h4⟩:=h;exact ⟨G,h1.below hb,h2.bel hb,h3,h4⟩
theorem Bld.ow (h:Bld d E w base v rs):Ow d.enc E w base v rs:=by
 obtain ⟨G,h1,_⟩:=h;exact h1
theorem Bld.rd (h:Bld d E w base v rs):RdL d w w v (rs.map (·.1)):=by
 obtain ⟨G,h1,h2,_⟩:=h;exact ⟨rs,rfl,Rd.of_own h1,h2.rd⟩
theorem Bld.push {v3:Value} {w3:World} {ts:List (α×d.S)} {F:List Nat} (h:Bld d E w base v rs) (hb:Below w w w1) (ht:Ows d w1 F ts) (hF:∀ b∈F,w<=b) (hn:F.Nodup) (aY:base<=w.heap.size)
  (ho:Ow d.enc E w3 base v3 (rs ++ ts)) (hg:w1.grownBy w3 v.ownBlock) (hv:v3.ownBlock=v.ownBlock \/ ∃ g,v3.ownBlock=Ac g/\w1.heap.size<=g):Bld d E w3 base v3 (rs ++ ts):=by
 obtain ⟨G,h1,h2,h3,h4⟩:=h;have hG:∀ b∈G,b<w:=h2.lt;have cH:∀ b∈F,b<w1:=ht.lt;have vD:∀ b∈F,v.ownBlock≠Ac b:=fun b hb he=>by
  rcases h1.form with ⟨rfl,_⟩ | ⟨g,cap,rfl,_,aA,_⟩
  ·simp [Value.ownBlock] at he
  ·have:g=b:=by simpa [Value.ownBlock] using he
   have:=hF b hb
   omega
 have hs:=hb.size;refine ⟨G ++ F,ho,?_,?_,?_⟩
 ·refine Ows.append ((h2.bel hb).keep hg.size fun b hbG=>hg.block b (by have:=hG b hbG;omega) ?_) (ht.keep hg.size fun b cK=>hg.block b (cH b cK) ?_)
  ·exact fun e=>(h4 b hbG).2 e.symm
  ·exact fun e=>vD b cK e.symm
 ·rw [Ax];refine ⟨h3,hn,fun a ha b aU e=>?_⟩
  have:=hG a ha
  have:=hF b aU
  omega
 ·intro b hbm;rcases Bi.1 hbm with hbm | hbm
  ·refine ⟨(h4 b hbm).1,?_⟩;rcases hv with hv | ⟨g,hv,aA⟩
   ·rw [hv];exact (h4 b hbm).2
   ·rw [hv];intro e
    have:=hG b hbm
    injection e with e
    omega
  ·refine ⟨by have:=hF b hbm;omega,?_⟩;rcases hv with hv | ⟨g,hv,aA⟩
   ·rw [hv];exact vD b hbm
   ·rw [hv];intro e
    have:=cH b hbm
    injection e with e
    omega
theorem Bld.owl (h:Bld d E w base v rs) {l:List α} (hl:rs.map (·.1)=l):∃ F,OwL d w F v l /\ ∀ b∈F,base<=b:=by
 obtain ⟨G,h1,h2,h3,h4⟩:=h;obtain ⟨h5,h6⟩:=Hw.of_ow h1;refine ⟨_,⟨rs,_,G,hl,h5,h2,rfl,?_⟩,?_⟩
 ·rw [Ax];refine ⟨Jf _ _,h3,fun a ha b hb e=>?_⟩;subst e;exact (h4 a hb).2 (G4 _ _ _ ha)
 ·intro b hb;rcases Bi.1 hb with hb | hb
  ·exact h6 b hb
  ·exact (h4 b hb).1
theorem Bld.lay {g:Nat} {rs:List (α×d.S)} {w2:World} {F G:List Nat} {r:α×d.S} (h1:Ows d w G rs) (h3:G.Nodup) (h4:∀ b∈G,g<b) (hb:Below w w w1) (hr:d.ow w1 F r.1 r.2) (hF:∀ b∈F,w<=b) (hg:g<w)
  (pL:w1.grownBy w2 (Ac g)):Ows d w2 (G ++ F) (rs ++ [r])/\(G ++ F).Nodup /\ ∀ b∈G ++ F,g<b:=by
 have hG:∀ b∈G,b<w:=h1.lt;have hs:=hb.size;refine ⟨Ows.append ((h1.bel hb).keep pL.size fun b hbG=>pL.block b (by have:=hG b hbG;omega) ?_) ((Ows.one hr).keep pL.size fun b cK=>pL.block b (d.ow_lt hr b cK) ?_),?_,?_⟩
 ·intro e
  have:=h4 b hbG
  injection e with e
  omega
 ·intro e
  have:=hF b cK
  injection e with e
  omega
 ·rw [Ax];refine ⟨h3,d.ow_nodup hr,fun a ha b aU e=>?_⟩
  have:=hG a ha
  have:=hF b aU
  omega
 ·intro b hbm;rcases Bi.1 hbm with hbm | hbm
  ·exact h4 b hbm
  ·have:=hF b hbm
   omega
end
theorem Ph {F G:List Nat} {a b c d:Nat} (h:∀ x∈F,a<=x/\x<b) (k:∀ x∈G,c<=x/\x<d) (aC:b<=c\/d<=a):∀ x∈F,x∉G:=by
 intro x hx hy
 have:=h x hx
 have:=k x hy
 omega
theorem Q4 {F:List Nat} {a b:Nat} (h:∀ x∈F,a<=x) (k:∀ x∈F,x<b):∀ x∈F,a<=x/\x<b:=fun x hx=>⟨h x hx,k x hx⟩
abbrev slV {α:Type} (_:α) (s:Sl):Value:=.slice s.a s.n s.c
section
variable {α:Type} {d:Dt α} {w w':World} {b o n c j:Nat} {rs:List (α×d.S)} {G1 Fx G2:List Nat} {x y:α} {s:d.S}
structure Foc (d:Dt α) (w:World) (b o n c:Nat) (rs:List (α×d.S)) (j:Nat) (G1 Fx G2:List Nat) (x:α) (s:d.S):Prop where
 rd:Rd d.enc w w (.slice (some ⟨b,o,none⟩) n c) (rs.set j (x,s))
 free:∀ i,w.frozen? ⟨b,i,none⟩=false
 left:Ows d w G1 (rs.take j)
 here:d.ow w Fx x s
 right:Ows d w G2 (rs.drop (j+1))
 lt:j<rs.length
 nodup:([b] ++ (G1 ++ (Fx ++ G2))).Nodup
 blk:b<w
theorem Foc.apart (h:Foc d w b o n c rs j G1 Fx G2 x s):(b∉G1/\b∉Fx/\b∉G2)/\(∀ a∈G1,a∉Fx)/\(∀ a∈G2,a∉Fx):=by
 have h1:=h.nodup;simp only [List.cons_append,List.nil_append,List.nodup_cons,Bi,not_or,Ax] at h1;obtain ⟨⟨a1,a2,a3⟩,_,⟨_,_,a4⟩,a5⟩:=h1;exact ⟨⟨a1,a2,a3⟩,fun a ha hx=>a5 a ha a (.inl hx) rfl,fun a ha hx=>a4 a hx a ha rfl⟩
theorem Foc.cells (h:Foc d w b o n c rs j G1 Fx G2 x s):∀ i u,(d.enc.cells (x,s))[i]? = Ac u->w.cell? ⟨b,o+j * d.enc.sz+i,Ab⟩=Ac u:=by
 intro i u hu;obtain ⟨A',c',hv,_,hA⟩:=h.rd;simp only [Value.slice.injEq] at hv;obtain ⟨rfl,_,_⟩:=hv;have hl:j<(rs.set j (x,s)).length:=by rw [Bh];exact h.lt
 obtain ⟨b',o',he,_,hc⟩:=hA Bl;simp only [Option.some.injEq,Addr.mk.injEq,and_true] at he;obtain ⟨rfl,rfl⟩:=he;exact hc j hl i u (by rw [List.getElem_set_self];exact hu)
theorem Foc.put (h:Foc d w b o n c rs j G1 Fx G2 x s) (y:α) (off:Nat) (us:List Value) (hoff:off+us.length<=d.enc.sz)
  (cE:∀ i (hi:i<us.length),(d.enc.cells (y,s))[off+i]? = Ac us[i]) (fE:∀ i,i<d.enc.sz->(i<off\/off+us.length<=i)->(d.enc.cells (y,s))[i]? = (d.enc.cells (x,s))[i]?)
  (hy:∀ W,d.ow W Fx x s->d.ow W Fx y s):Foc d (G9 w b (o+j * d.enc.sz+off) us) b o n c rs j G1 Fx G2 y s/\Chg [b] w (G9 w b (o+j * d.enc.sz+off) us):=by
 have hc:=Ie us w b (o+j * d.enc.sz+off);obtain ⟨⟨a1,a2,a3⟩,_,_⟩:=h.apart;refine ⟨⟨?_,fun i=>by rw [Ih];exact h.free i,h.left.chg hc ?_,hy _ (Dt.ow_chg d h.here hc ?_),h.right.chg hc ?_,h.lt,h.nodup,by rw [I9];exact h.blk⟩,hc⟩
 ·have hl:j<(rs.set j (x,s)).length:=by rw [Bh];exact h.lt
  have:=h.rd.part j hl (y,s) off us hoff cE (by rw [List.getElem_set_self];exact fE)
  rw [List.set_set] at this;rw [I9];exact this
 all_goals
  intro x hx hb;simp only [Au] at hb;subst hb;first | exact a1 hx | exact a2 hx | exact a3 hx
theorem Foc.sub (h:Foc d w b o n c rs j G1 Fx G2 x s) (hc:Chg Fx w w') (hy:d.ow w' Fx y s) (hcells:d.enc.cells (y,s)=d.enc.cells (x,s)):Foc d w' b o n c rs j G1 Fx G2 y s:=by
 obtain ⟨⟨a1,a2,a3⟩,a4,a5⟩:=h.apart;refine ⟨?_,fun i=>by rw [hc.frozen (p:=⟨b,i,Ab⟩) h.blk a2];exact h.free i,h.left.chg hc a4,hy,h.right.chg hc a5,h.lt,h.nodup,Ai h.blk hc.size⟩;have hl:j<(rs.set j (x,s)).length:=by rw [Bh];exact h.lt
 have h1:=h.rd.keepF (w':=w') hc.size (fun b' aU i=>by
  have:=G4 _ _ _ aU
  have:b=b':=by simpa [Value.ownBlock] using this
  subst this;exact hc.cell (p:=⟨b,i,Ab⟩) h.blk a2)
 have h2:=h1.same j hl (y,s) (by rw [List.getElem_set_self];exact hcells);rwa [List.set_set] at h2
theorem Foc.start {F1 F2:List Nat} (hr:Rd d.enc w w (Aa (Ac ⟨b,o,Ab⟩) n c) rs) (hf:∀ i,w.frozen? ⟨b,i,Ab⟩=false) (h1:Ows d w F1 (rs.take j)) (h2:Ows d w F2 (rs.drop j)) (hj:j<rs.length) (hn:([b] ++ (F1 ++ F2)).Nodup) (hb:b<w) :
  ∃ Fx G2,F2=Fx ++ G2/\Foc d w b o n c rs j F1 Fx G2 rs[j].1 rs[j].2:=by
 rw [<-List.getElem_cons_drop hj] at h2;obtain ⟨Fx,G2,rfl,h3,h4⟩:=h2.head;refine ⟨Fx,G2,rfl,⟨?_,hf,h1,h3,h4,hj,hn,hb⟩⟩;have:rs.set j (rs[j].1,rs[j].2)=rs:=List.set_getElem_self hj;rw [this];exact hr
theorem Foc.done (h:Foc d w b o n c rs j G1 Fx G2 x s):Rd d.enc w w (Aa (Ac ⟨b,o,Ab⟩) n c) (rs.set j (x,s))/\Ows d w (G1 ++ Fx) ((rs.set j (x,s)).take (j+1))/\Ows d w G2 ((rs.set j (x,s)).drop (j+1))/\([b] ++ ((G1 ++ Fx) ++ G2)).Nodup:=by
 refine ⟨h.rd,?_,?_,?_⟩
 ·have hl:j<(rs.set j (x,s)).length:=by rw [Bh];exact h.lt
  rw [List.take_succ_eq_append_getElem hl,List.getElem_set_self,List.take_set_of_le (Bs j)];exact h.left.append (Ows.one h.here)
 ·rw [List.drop_set_of_lt Bl];exact h.right
 ·have:=h.nodup
  simp only [List.append_assoc] at this ⊢;exact this
end
theorem OwL.foc {α:Type} {d:Dt α} {w:World} {F:List Nat} {A:Option Addr} {n c:Nat} {l:List α} (h:OwL d w F (Aa A n c) l) {j:Nat} (hj:j<l.length) :
  ∃ (b o:Nat) (rs:List (α×d.S)) (s:d.S) (G1 Fx G2:List Nat),A=Ac ⟨b,o,Ab⟩/\F=[b] ++ (G1 ++ (Fx ++ G2))/\rs.map (·.1)=l/\Foc d w b o n c rs j G1 Fx G2 l[j] s:=by
 obtain ⟨rs,H,G,hm,hh,ho,rfl,hn⟩:=h;subst hm;rw [Ar] at hj;obtain ⟨b,o,rfl,rfl,hb,hf⟩:=hh.at_ Bl;obtain ⟨F1,F2,rfl,h1,h2⟩:=ho.split j (Nat.le_of_lt hj);obtain ⟨Fx,G2,rfl,h3⟩:=Foc.start hh.rd hf h1 h2 hj hn hb;refine ⟨b,o,rs,rs[j].2,F1,Fx,G2,rfl,rfl,rfl,?_⟩;rw [List.getElem_map];exact h3
theorem Foc.owl {α:Type} {d:Dt α} {w:World} {b o n c j:Nat} {rs:List (α×d.S)} {G1 Fx G2:List Nat} {x:α} {s:d.S} {l:List α} (h:Foc d w b o n c rs j G1 Fx G2 x s) (hm:rs.map (·.1)=l) :
  OwL d w ([b] ++ (G1 ++ (Fx ++ G2))) (Aa (Ac ⟨b,o,Ab⟩) n c) (l.set j x):=by
 refine ⟨rs.set j (x,s),[b],G1 ++ (Fx ++ G2),by rw [List.map_set,hm],⟨h.rd,?_,?_⟩,?_,rfl,h.nodup⟩
 ·unfold Dz;rw [if_neg (by rw [Bh];have:=h.lt;omega)];rfl
 ·intro g hg i;have:g=b:=by simpa using hg
  subst this;exact h.free i
 ·have e:rs.set j (x,s)=rs.take j ++ (x,s) :: rs.drop (j+1):=by rw [List.set_eq_take_append_cons_drop,if_pos h.lt]
  rw [e];exact h.left.append (.cons h.here h.right)
theorem Wp {b x:Nat} {G:List Nat} (h:x∈[b]):x∈[b] ++ G:=Bf _ h
theorem Adk {b x:Nat} {G1 Fx G2:List Nat} (h:x∈Fx):x∈[b] ++ (G1 ++ (Fx ++ G2)):=Be _ (Be _ (Bf _ h))
theorem Yg {α:Type} (rs:List α) (z:α) (k n:Nat) {y:α} (h:rs.length=k) (aA:k<n):(rs ++ List.replicate (n - k) z).set k y=(rs ++ [y]) ++ List.replicate (n - (k+1)) z:=by
 rw [List.set_append_right _ _ Bl,h,Nat.sub_self,show n - k=(n - (k+1))+1 from Bl,List.replicate_succ,List.set_cons_zero,List.append_assoc,List.singleton_append]
def Adl {α:Type} (d:Dt α) (F:List Nat) (y:α) (s:d.S) (r:Int) (w:World) (en:Ending) (w':World):Prop:=en = .returned (J U r)/\d.ow w' F y s/\Chg F w w'
def E6 {α:Type} (cnt:α->Nat) (l:List α):Nat:=l.length+(l.map cnt).sum
theorem Ds {α:Type} {cnt:α->Nat} : ∀ {l:List α} {x:α},x∈l->cnt x+1<=E6 cnt l
 | y :: l,x,h=>by
  unfold E6;simp only [List.length_cons,List.map_cons,List.sum_cons];rcases List.mem_cons.1 h with rfl | h
  ·omega
  ·have:=Ds (cnt:=cnt) h
   unfold E6 at this;omega
theorem Ck {α:Type} (cnt:α->Nat) (l:List α):l.length<=E6 cnt l:=Nat.le_add_right _ _
theorem Iz {α:Type} (f:α->Nat) (l:List α) (k:Nat) (h:k<l.length):((l.take (k+1)).map f).sum=((l.take k).map f).sum+f l[k]:=by
 rw [Cn l k h,List.map_append,List.sum_append];simp
theorem Yh {α:Type} (f:α->Nat) (l:List α) (k:Nat):((l.take k).map f).sum<=(l.map f).sum:=by
 conv=>rhs;rw [<-List.take_append_drop k l,List.map_append,List.sum_append]
 omega
theorem Fn {α:Type} {cnt:α->Nat} (h:∀ x,cnt x=0):∀ l:List α,E6 cnt l=l.length
 | []=>rfl
 | x :: l=>by
  have:=Fn h l
  unfold E6 at *
  simp only [List.length_cons,List.map_cons,List.sum_cons,h x] at *
  omega
def wfL {α:Type} (wf:α->Prop) (l:List α):Prop:=l.length<=9223372036854775807 /\ ∀ x∈l,wf x
def En {α:Type} (num:α->Nat) (l:List α):Nat:=(l.map num).sum
theorem J8 {α:Type} {num cnt:α->Nat} {K:Nat} (h:∀ x,num x<=K * (cnt x+1)):∀ l:List α,En num l<=K * E6 cnt l
 | []=>by simp [En]
 | x :: l=>by
  have h1:=J8 h l;have h2:=h x;unfold En E6 at *
  simp only [List.length_cons,List.map_cons,List.sum_cons];rw [Nat.mul_add] at h1 h2 ⊢;rw [Nat.mul_succ,Nat.mul_add];omega
theorem Kn {α:Type} (num:α->Nat) (l:List α) (k:Nat):En num (l.take k)<=En num l:=Yh num l k
def mkL {α:Type} (mk:Int->α->α) (num:α->Nat):Int->List α->List α
 | _,[]=>[]
 | k,x :: l=>mk k x :: mkL mk num (k+num x) l
section
variable {α:Type} (mk:Int->α->α) (num:α->Nat)
theorem Hb:∀ (k:Int) (l:List α),(mkL mk num k l).length=l.length
 | _,[]=>rfl
 | k,x :: l=>by simp [mkL,Hb _ l]
theorem Yi:∀ (k:Int) (l:List α) (x:α),mkL mk num k (l ++ [x])=mkL mk num k l ++ [mk (k+En num l) x]
 | k,[],x=>by simp [mkL,En]
 | k,y :: l,x=>by
  simp only [mkL,List.cons_append];rw [Yi _ l x];have e:k+(num y:Int)+(En num l:Nat)=k+(En num (y :: l):Nat):=by
   simp only [En,List.map_cons,List.sum_cons];push_cast;omega
  rw [e]
theorem Sm (k:Int) (l:List α) (j:Nat) (h:j<l.length) (h':j<(mkL mk num k l).length):(mkL mk num k l)[j]=mk (k+En num (l.take j)) l[j]:=by
 induction l generalizing k j with
 | nil=>exact absurd h Bn
 | cons y l ih =>
  cases j with
  | zero=>simp [mkL,En]
  | succ j =>
   simp only [mkL,List.getElem_cons_succ,List.take_succ_cons];rw [ih (k+num y) j (by simpa using h)];congr 1;simp only [En,List.map_cons,List.sum_cons];push_cast;omega
theorem Abs (k:Int) (l:List α) (j:Nat) (h:j<l.length):(mkL mk num k (l.take j) ++ l.drop j).set j (mk (k+En num (l.take j)) l[j])=mkL mk num k (l.take (j+1)) ++ l.drop (j+1):=by
 have hl:(mkL mk num k (l.take j)).length=j:=by rw [Hb,Az,Nat.min_eq_left (Nat.le_of_lt h)]
 rw [List.set_append_right _ _ Bl,hl,Nat.sub_self,Cn l j h,Yi,List.append_assoc,<-List.getElem_cons_drop h,List.set_cons_zero,List.singleton_append]
theorem Yj (k:Int) (l:List α) (j:Nat) (h:j<l.length) {h':j<(mkL mk num k (l.take j) ++ l.drop j).length} : (mkL mk num k (l.take j) ++ l.drop j)[j]=l[j]:=by
 have hl:(mkL mk num k (l.take j)).length=j:=by rw [Hb,Az,Nat.min_eq_left (Nat.le_of_lt h)]
 rw [List.getElem_append_right Bl];simp [hl]
end
theorem Qh (p:Plan) (ve:Value) (w:World) (h:Rd Gd w w ve p.edges) (hm:Eg p=true) :
  Calls Am 164 #[Ge p ve] w fun e w'=>e = .returned (J U (Co p))/\Below w w w':=by
 have Hm:=Bq hm;obtain ⟨t1,t2⟩:=Dw hm;have aJ:=Ez hm;have hlen2:p.edges.length<=2000000:=Bl;have hlI:¬ (30:Int)<(p.edges.length:Int):=Bl;have hlB:decide ((30:Int)<(p.edges.length:Int))=false:=by simpa using hlI
 obtain ⟨A,c,rfl,-⟩:=id h;have bZ:=h.cap;unfold Ge;simp only [Eg,Bool.and_eq_true] at hm;obtain ⟨⟨⟨⟨h1,-⟩,h3⟩,h4⟩,h5⟩:=hm;go_enter Tryz.func164,Tryz.ntmps164;go_wp2_with (go_at_call 58;refine (Cl _ _ _ _).mono ?_;rintro e w' ⟨rfl,rfl⟩)
 go_loopw [40] (fun i wr=>∃ k:Nat,k<=p.edges.length/\i = J U k/\Hid (∀ j (hj:j<p.edges.length),j<k->Iu p.tasks p.edges[j]=true)/\Below (Dx 43 p (Aa A p.edges.length c) w) (Dx 43 p (Aa A p.edges.length c) w) wr) (fun i _=>p.edges.length - (intOf i).toNat);case atStart=>exact ⟨0,Ag _,rfl,fun j hj h0=>absurd h0 Bl,Br _ _⟩
 case round =>
  obtain ⟨k,hk,rfl,bE,hb⟩:=hrel;obtain ⟨x0,x1,x2,x3,x4,hs,bQ⟩:=E9 hb;have bL:w.heap.size<wr.heap.size:=Bl;by_cases aA:k<p.edges.length
  ·obtain ⟨b,o,rfl,aH,c0,c1⟩:=(h.below bQ).edge aA;have hba:=hb.alloc hb.size (.cells #[J U p.edges[k].fr,J U p.edges[k].to] 199);have hbwa:=bQ.alloc bQ.size (.cells #[J U p.edges[k].fr,J U p.edges[k].to] 199);have bad:Iu p.tasks p.edges[k]=false->Hid (Co p=2):=fun hf=>M9 Hm.out (fun cE=>by
    rw [cE _ (Aw aA)] at hf;cases hf)
   cases g1:inB p.edges[k].fr 0 (p.tasks - 1)
   ·have H:=bad (by simp [Iu,g1]);clear bad;go_wp2_with (go_at_call 58;refine (Cl _ _ _ _).mono ?_;rintro e w' ⟨rfl,rfl⟩)
    go_ret;exact ⟨Dc H.out.symm,hbwa⟩
   cases g2:inB p.edges[k].to 0 (p.tasks - 1)
   ·have H:=bad (by simp [Iu,g2]);clear bad;go_wp2_with (go_at_call 58;refine (Cl _ _ _ _).mono ?_;rintro e w' ⟨rfl,rfl⟩)
    go_ret;exact ⟨Dc H.out.symm,hbwa⟩
   ·have S:Hid (∀ j (hj:j<p.edges.length),j<k+1->Iu p.tasks p.edges[j]=true):=by
     intro j hj fK;by_cases e:j=k
     ·subst e;simp [Iu,g1,g2]
     ·exact bE.out j hj Bl
    clear bad;go_wp2_with (go_at_call 58;refine (Cl _ _ _ _).mono ?_;rintro e w' ⟨rfl,rfl⟩)
    exact ⟨⟨k+1,Bl,by go_num,S,hba⟩,by simp [intOf];omega⟩
  ·have cE:Hid (Gr p):=fun e he=>by
    obtain ⟨j,hj,rfl⟩:=List.getElem_of_mem he;exact bE.out j hj Bl
   clear bE hk;go_wp2;go_loopw [64] (fun i wr=>∃ k:Nat,k<=p.edges.length/\i = J U k/\Hid ((p.edges.take k).Nodup)/\Below (Dx 43 p (Aa A p.edges.length c) w) (Dx 43 p (Aa A p.edges.length c) w) wr) (fun i _=>p.edges.length - (intOf i).toNat);case atStart=>exact ⟨0,Ag _,rfl,by show (p.edges.take 0).Nodup;simp,hb⟩
   case round =>
    clear hb x0 x1 x2 x3 x4 hs bQ bL;obtain ⟨k,hk,rfl,bE,hb⟩:=hrel;obtain ⟨x0,x1,x2,x3,x4,hs,bQ⟩:=E9 hb;have bL:w.heap.size<wr.heap.size:=Bl;have mW:k<=c:=Bl;by_cases aA:k<p.edges.length
    ·obtain ⟨b,o,rfl,aH,c0,c1⟩:=(h.below bQ).edge aA;have hba:=hb.alloc hb.size (.cells #[J U p.edges[k].fr,J U p.edges[k].to] 199);have hbwa:=bQ.alloc bQ.size (.cells #[J U p.edges[k].fr,J U p.edges[k].to] 199);have n0:(wr.alloc (.cells #[J U p.edges[k].fr,J U p.edges[k].to] 199)).cell? ⟨wr,0,Ab⟩=Ac (J U p.edges[k].fr):=by go_simp
     have n1:(wr.alloc (.cells #[J U p.edges[k].fr,J U p.edges[k].to] 199)).cell? ⟨wr,1,Ab⟩=Ac (J U p.edges[k].to):=by go_simp
     have x4':(wr.alloc (.cells #[J U p.edges[k].fr,J U p.edges[k].to] 199)).cell? ⟨w,4,Ab⟩=Ac (Aa (Ac ⟨b,o,Ab⟩) p.edges.length c):=by
      rw [World.cell?_alloc_lt _ _ _ (by simp;omega)];exact x4
     have z1:wr.heap.size<(wr.alloc (.cells #[J U p.edges[k].fr,J U p.edges[k].to] 199)).heap.size:=Bn;have z2:w.heap.size<(wr.alloc (.cells #[J U p.edges[k].fr,J U p.edges[k].to] 199)).heap.size:=by simp;omega
     have gB:=(Rd.take (k:=k) (c':=c) (h.below bQ) Bl mW)
     have aY:Below w w (wr.alloc (.cells #[J U p.edges[k].fr,J U p.edges[k].to] 199)):=hbwa;have hrd2:Rd Gd (wr.alloc (.cells #[J U p.edges[k].fr,J U p.edges[k].to] 199)) w (Aa (Ac ⟨b,o,Ab⟩) k c) (p.edges.take k):=Rd.take (h.below aY) Bl c mW;have aW:(p.edges.take k).length<=2000000:=by simp;omega
     clear gB;by_cases gN:p.edges[k]∈p.edges.take k
     ·have H:Hid (Co p=3):=Mw Hm.out cE.out (fun bN=>by
       have h1:(p.edges.take (k+1)).Nodup:=bN.sublist (List.take_sublist _ _);rw [Cn _ k aA] at h1;exact (Mi.1 h1).2 gN)
      have hmb:decide (p.edges[k]∈p.edges.take k)=true:=by simpa using gN
      clear gN;go_wp2;generalize wr.alloc (.cells #[J U p.edges[k].fr,J U p.edges[k].to] 199)=W2 at *
      have aR:=C7 W2;refine Bw Bm Bm ?_;repeat (go_big_quiet_step ((go_at_call 224;rename_i x;have h1:=L9 _ (p.edges.take k) p.edges[k] x.1 aW ((hrd2.below (x.2.mono aY.size)).more (Ah aY.size x.2.size));rw [hmb] at h1;exact Ey h1)))
      refine Ak ?_;rintro _ ⟨⟨w1,aN⟩,rfl⟩;clear aR;go_wp2;go_ret;exact ⟨Dc H.out.symm,Bt aY aN⟩
     ·have S:Hid ((p.edges.take (k+1)).Nodup):=by
       show (p.edges.take (k+1)).Nodup;rw [Cn _ k aA];exact Mi.2 ⟨bE.out,gN⟩
      have hmb:decide (p.edges[k]∈p.edges.take k)=false:=by simpa using gN
      clear gN;go_wp2;generalize wr.alloc (.cells #[J U p.edges[k].fr,J U p.edges[k].to] 199)=W2 at *
      have aR:=C7 W2;refine Bw Bm Bm ?_;repeat (go_big_quiet_step ((go_at_call 224;rename_i x;have h1:=L9 _ (p.edges.take k) p.edges[k] x.1 aW ((hrd2.below (x.2.mono aY.size)).more (Ah aY.size x.2.size));rw [hmb] at h1;exact Ey h1)))
      refine Ak ?_;rintro _ ⟨⟨w1,aN⟩,rfl⟩;clear aR;go_wp2;exact ⟨⟨k+1,Bl,by go_num,S,hba.trans (aN.mono hba.size)⟩,by simp [intOf];omega⟩
    ·have bN:Hid p.edges.Nodup:=by
      have h1:=bE.out;rw [Bg Bl] at h1;exact h1
     clear bE hk mW;go_wp2_with fail
     refine (Acc p (Aa A p.edges.length c) _ Hm.out cE.out ((h.below bQ).more bQ.size)).mono ?_;rintro e w1 ⟨v1,rfl,o1,aN⟩;have hbw1:=Bt bQ aN;obtain ⟨T,hT⟩:=Ap (show 0<=p.tasks by omega);have HT:=Bq hT;have mR:p.tasks.toNat=T:=Bl;rw [mR] at o1;have tJ:1<=T:=Bl;have qX:T<=12:=Bl;have nD:=Pg.Aem (Dn p) T (by rw [<-mR];exact (Lh cE.out).1) (by rw [<-mR];exact (Lh cE.out).2);have jU:(Pg.Kk (Dn p) T (List.replicate T 0)).length=T:=by rw [Pg.K2,List.length_replicate]
     have sX:=Bq (show Qf p ↔ ∃ t,t<T/\Pg.Reach (Dn p) t t by unfold Qf;rw [mR]);have rX:∀ x∈Pg.Kk (Dn p) T (List.replicate T 0),x<2 ^ T:=Pg.Aaf T _ _ (by rw [<-mR];exact (Lh cE.out).2) (fun x hx=>by
      have:=List.eq_of_mem_replicate hx
      subst this;exact Nat.two_pow_pos T) T
     generalize Pg.Kk (Dn p) T (List.replicate T 0)=O at *
     have Hiff:=Bq nD;have HOl:=Bq jU;clear nD hT mR;rcases o1.form with ⟨_,e0⟩ | ⟨g,cap,rfl,_,rJ,_,_,_,_⟩
     ·exfalso;rw [e0] at jU;simp at jU;omega
     rw [jU] at o1;rw [jU];clear jU;go_wp2;go_loop [79] (fun i=>∃ k:Nat,k<=T/\i = J U k/\Hid (∀ j,j<k->(O.getD j 0).testBit j=false)) (fun i=>T - (intOf i).toNat);case atStart=>exact ⟨0,Ag _,rfl,fun j hj=>absurd hj Bl⟩
     case round =>
      obtain ⟨k,hk,rfl,bE⟩:=hrel;by_cases aW:k<T
      ·have ck:=o1.nat (k:=k) (by rw [HOl.out];exact aW);have sZ:k<O.length:=by rw [HOl.out];exact aW
       have hx:O[k]<9223372036854775808:=Ai (rX _ (Aw sZ)) (Ah (Nat.pow_le_pow_right Bl qX) Bp);have hbt:=Adh O[k] k hx;have hg:Hid (O.getD k 0=O[k]):=by unfold Hid;rw [List.getD_eq_getElem?_getD,List.getElem?_eq_getElem sZ];rfl
       cases aF:O[k].testBit k
       ·rw [aF] at hbt;have S:Hid (∀ j,j<k+1->(O.getD j 0).testBit j=false):=by
         intro j hj;by_cases e:j=k
         ·subst e;rw [hg.out];exact aF
         ·exact bE.out j Bl
        go_wp2;exact ⟨⟨k+1,Bl,by go_num,S⟩,by simp [intOf];omega⟩
       ·rw [aF] at hbt;have H:Hid (Co p=4):=Mx Hm.out cE.out bN.out (sX.out.2 ⟨k,aW,(Hiff.out k k).1 (by rw [hg.out];exact aF)⟩);go_wp2;go_ret;exact ⟨Dc H.out.symm,hbw1⟩
      ·have H:Hid (Co p=0):=C9.2 ⟨Hm.out,cE.out,bN.out,fun hc=>by
        obtain ⟨t,ht,hr⟩:=sX.out.1 hc;have h1:=(Hiff.out t t).2 hr;rw [bE.out t Bl] at h1;cases h1⟩
       go_wp2;go_ret;exact ⟨Dc H.out.symm,hbw1⟩
theorem Gv (p:Plan) (ve:Value) (w:World) (hl:p.edges.length<=2000000) (h:Rd Gd w w ve p.edges) :
  Calls Am 164 #[Ge p ve] w fun e w'=>e = .returned (J U (Co p))/\Below w w w':=by
 cases hm:Eg p
 ·exact Ox p ve w hl h hm
 ·exact Qh p ve w h hm
theorem Wq (p:Plan) (ve:Value) (w:World) (hl:p.edges.length<=2000000) (h:Rd Gd w w ve p.edges) :
  Calls Am 184 #[Ge p ve] w (Ou p w):=by
 obtain ⟨A,c,rfl,-⟩:=id h;obtain ⟨i0,aL,aS,aP,aQ⟩:=info_parts Vq;have cW:∀ W,Below w w W->Rd Gd W W (.slice A p.edges.length c) p.edges:=fun W hW=>(h.below hW).more hW.size;unfold Ge;go_enter Tryz.func184,Tryz.ntmps184;go_wp2_with (at_builtin;refine By _ Gd Bp rfl (.const (.slice Ab 0 0)) (.tmp 4) rfl Tryz.underlying41 aL aS aP aQ rfl (v:=.slice Ab 0 0) (l:=[]) rfl (Ow.nil Gd 199 _ (w.heap.size+2)) rfl (cW _ (((Br _ _).alloc Bo _).alloc Bo _)) Bn Bl Bp Bn ?_;intro v1 w1 o1 g1 _;rw [List.nil_append] at o1;obtain ⟨A1,c1,rfl,-⟩:=id (Rd.of_own o1);have aN:=(Br (w.heap.size+2) _).grown g1 Bo (fun k hk=>by simp [Value.ownBlock] at hk<;>omega);clear g1;have q1:∀ b o,b<w.heap.size+2->w1.cell? ⟨b,o,Ab⟩=_:=fun b o h=>aN.cell (p:=⟨b,o,Ab⟩) h;have q2:∀ b o,b<w.heap.size+2->w1.frozen? ⟨b,o,Ab⟩=_:=fun b o h=>aN.frozen (p:=⟨b,o,Ab⟩) h;have hs:=aN.size;simp only [Bj] at hs)
 have hW:Below w w w1:=Below.trans (((Br _ _).alloc Bo _).alloc Bo _) (aN.mono Bl);refine bodyPost_ret (v:=Ge p (.slice A1 p.edges.length c1)) ?_ rfl ?_
 ·simp [Ge,results,Tryz.results184,go_sem,q1]
 ·refine ⟨.slice A1 p.edges.length c1,rfl,?_,?_⟩
  ·refine Ow.more (base:=w.heap.size+2) ?_ Bl;unfold Ow at o1 ⊢;repeat (first | (with_reducible exact o1) | refine ownsRow_setCell_below ?_ Bo _)
  ·repeat (first | (with_reducible exact hW) | refine Ad ?_ Bo _)
theorem Wr (p:Plan) (ve:Value) (w:World) (hl:p.edges.length<=2000000) (h:Rd Gd w w ve p.edges) :
  Calls Am 157 #[Ge p ve] w (Ou p w):=by
 obtain ⟨A,c,rfl,-⟩:=id h;obtain ⟨i0,aL,aS,aP,aQ⟩:=info_parts Vq;have cW:∀ W,Below w w W->Rd Gd W W (.slice A p.edges.length c) p.edges:=fun W hW=>(h.below hW).more hW.size;unfold Ge;go_enter Tryz.func157,Tryz.ntmps157;go_wp2_with (at_builtin;refine By _ Gd Bp rfl (.tmp 3) (.tmp 5) rfl Tryz.underlying41 aL aS aP aQ rfl (v:=.slice (Ac ⟨w.heap.size+1+1,0,Ab⟩) 0 0) (l:=[]) rfl ((Ow.empty Gd 199 _ Bn).more (base':=w.heap.size+2) Bl) rfl (cW _ ((((Br _ _).alloc Bo _).alloc Bo _).alloc Bo _)) Bn Bl Bp Bn ?_;intro v1 w1 o1 g1 _;rw [List.nil_append] at o1;obtain ⟨A1,c1,rfl,-⟩:=id (Rd.of_own o1);have aN:=((Br (w.heap.size+2) _).alloc Bo _).grown g1 Bo (fun k hk=>by simp [Value.ownBlock] at hk<;>omega);clear g1;have q1:∀ b o,b<w.heap.size+2->w1.cell? ⟨b,o,Ab⟩=_:=fun b o h=>aN.cell (p:=⟨b,o,Ab⟩) h;have q2:∀ b o,b<w.heap.size+2->w1.frozen? ⟨b,o,Ab⟩=_:=fun b o h=>aN.frozen (p:=⟨b,o,Ab⟩) h;have hs:=aN.size;simp only [Bj] at hs)
 have hW:Below w w w1:=Below.trans (((Br _ _).alloc Bo _).alloc Bo _) (aN.mono Bl);refine bodyPost_ret (v:=Ge p (.slice A1 p.edges.length c1)) ?_ rfl ?_
 ·simp [Ge,results,Tryz.results157,go_sem,q1]
 ·refine ⟨.slice A1 p.edges.length c1,rfl,?_,?_⟩
  ·refine Ow.more (base:=w.heap.size+2) ?_ Bl;unfold Ow at o1 ⊢;repeat (first | (with_reducible exact o1) | refine ownsRow_setCell_below ?_ Bo _)
  ·repeat (first | (with_reducible exact hW) | refine Ad ?_ Bo _)
theorem Q5 (p:Plan) (ve:Value) (w:World) (hl:p.edges.length<=2000000) (h:Rd Gd w w ve p.edges) :
  Calls Am 235 #[Ge p ve] w fun e w'=>e = .returned (.bool (!Eg p))/\Below w w w':=by
 obtain ⟨A,c,rfl,-⟩:=id h;unfold Ge;cases h1:inB p.tasks 1 12
 ·have H:=Bq (show (!Eg p)=true by simp [Eg,h1]);go_enter Tryz.func235,Tryz.ntmps235;go_wp2_with (go_at_call 155;refine (Ce _ _ _ _).mono ?_;rintro e w' ⟨rfl,rfl⟩)
  go_ret;exact ⟨Bv H.out.symm,(Br _ _).alloc (Bs _) _⟩
 by_cases h2:30<p.edges.length
 ·have H:=Bq (show (!Eg p)=true by simp [Eg,show ¬ p.edges.length<=30 by omega]);have h2':decide ((30:Int)<(p.edges.length:Int))=true:=by simp;omega
  have h2'':(30:Int)<(p.edges.length:Int):=Bl;go_enter Tryz.func235,Tryz.ntmps235;go_wp2_with (go_at_call 155;refine (Ce _ _ _ _).mono ?_;rintro e w' ⟨rfl,rfl⟩)
  go_ret;exact ⟨Bv H.out.symm,(Br _ _).alloc (Bs _) _⟩
 have h2':decide ((30:Int)<(p.edges.length:Int))=false:=by simp;omega
 have h2'':¬ (30:Int)<(p.edges.length:Int):=Bl;cases h3:inB p.prio 0 9
 ·have H:=Bq (show (!Eg p)=true by simp [Eg,h3]);go_enter Tryz.func235,Tryz.ntmps235;go_wp2_with (go_at_call 155;refine (Ce _ _ _ _).mono ?_;rintro e w' ⟨rfl,rfl⟩)
  go_ret;exact ⟨Bv H.out.symm,(Br _ _).alloc (Bs _) _⟩
 cases h4:inB p.most 1 5
 ·have H:=Bq (show (!Eg p)=true by simp [Eg,h4]);go_enter Tryz.func235,Tryz.ntmps235;go_wp2_with (go_at_call 155;refine (Ce _ _ _ _).mono ?_;rintro e w' ⟨rfl,rfl⟩)
  go_ret;exact ⟨Bv H.out.symm,(Br _ _).alloc (Bs _) _⟩
 have H:Hid ((!inB p.wait 1 20) = !Eg p):=by
  show (!inB p.wait 1 20) = !Eg p;simp [Eg,h1,h3,h4,show p.edges.length<=30 by omega]
 go_enter Tryz.func235,Tryz.ntmps235;go_wp2_with (go_at_call 155;refine (Ce _ _ _ _).mono ?_;rintro e w' ⟨rfl,rfl⟩)
 go_ret;exact ⟨Bv H.out,(Br _ _).alloc (Bs _) _⟩
theorem Jg (p:Plan) (ve:Value) (w:World) (hl:p.edges.length<=2000000) (h:Rd Gd w w ve p.edges) :
  Calls Am 199 #[Ge p ve] w fun e w'=>e = .returned (J U (Co p))/\Below w w w':=by
 obtain ⟨A,c,rfl,-⟩:=id h;have bS:=J7 43 p (Aa A p.edges.length c) w;cases hm:Eg p
 ·have H:=Bq (M8 hm);unfold Ge;go_enter Tryz.func199,Tryz.ntmps199;go_wp2_with fail
  refine (Q5 p (Aa A p.edges.length c) _ hl ((h.below bS).more bS.size)).mono ?_;rintro e w1 ⟨rfl,aN⟩;rw [hm];go_wp2;go_ret;exact ⟨Dc H.out.symm,Bt bS aN⟩
 ·have Hm:=Bq hm;obtain ⟨t1,t2⟩:=Dw hm;have aJ:=Ez hm;unfold Ge;go_enter Tryz.func199,Tryz.ntmps199;go_wp2_with fail
  refine (Q5 p (Aa A p.edges.length c) _ hl ((h.below bS).more bS.size)).mono ?_;rintro e w1 ⟨rfl,aN⟩;rw [hm];clear hm;go_wp2;go_loopw [3] (fun i wr=>∃ k:Nat,k<=p.edges.length/\i = J U k/\Hid (∀ j (hj:j<p.edges.length),j<k->Iu p.tasks p.edges[j]=true)/\Below (Dx 43 p (Aa A p.edges.length c) w) (Dx 43 p (Aa A p.edges.length c) w) wr) (fun i _=>p.edges.length - (intOf i).toNat);case atStart=>exact ⟨0,Ag _,rfl,fun j hj h0=>absurd h0 Bl,aN⟩
  case round =>
   obtain ⟨k,hk,rfl,bE,hb⟩:=hrel;obtain ⟨x0,x1,x2,x3,x4,hs,bQ⟩:=E9 hb;by_cases aA:k<p.edges.length
   ·obtain ⟨b,o,rfl,aH,c0,c1⟩:=(h.below bQ).edge aA;have aB:(k:Int)<(p.edges.length:Int):=Bl;have aR:=C7 wr;have bL:w.heap.size<wr.heap.size:=Bl;have hbb1:b<wr:=Bl;have e1:U.wrap (p.tasks - 1)=p.tasks - 1:=IntWalk.i64_in _ Bl;have bad:Iu p.tasks p.edges[k]=false->Hid (Co p=2):=fun hf=>M9 Hm.out (fun cE=>by
     rw [cE _ (Aw aA)] at hf;cases hf)
    cases g1:inB p.edges[k].fr 0 (p.tasks - 1)
    ·have H:=bad (by simp [Iu,g1]);clear bad;go_wp2;refine Bw Bm Bm ?_;repeat (go_big_quiet_step ((go_at_call 155;exact Dk (fun u=>Ce _ _ _ u.1))))
     refine Ak ?_;rintro _ ⟨⟨w2,aF⟩,rfl⟩;clear aR;go_wp2;go_ret;exact ⟨Dc H.out.symm,Bt bQ aF⟩
    cases g2:inB p.edges[k].to 0 (p.tasks - 1)
    ·have H:=bad (by simp [Iu,g2]);clear bad;go_wp2;refine Bw Bm Bm ?_;repeat (go_big_quiet_step ((go_at_call 155;exact Dk (fun u=>Ce _ _ _ u.1))))
     refine Ak ?_;rintro _ ⟨⟨w2,aF⟩,rfl⟩;clear aR;go_wp2;go_ret;exact ⟨Dc H.out.symm,Bt bQ aF⟩
    ·have S:Hid (∀ j (hj:j<p.edges.length),j<k+1->Iu p.tasks p.edges[j]=true):=by
      intro j hj fK;by_cases e:j=k
      ·subst e;simp [Iu,g1,g2]
      ·exact bE.out j hj Bl
     clear bad;go_wp2;refine Bw Bm Bm ?_;repeat (go_big_quiet_step ((go_at_call 155;exact Dk (fun u=>Ce _ _ _ u.1))))
     refine Ak ?_;rintro _ ⟨⟨w2,aF⟩,rfl⟩;clear aR;go_wp2;exact ⟨⟨k+1,Bl,by go_num,S,hb.trans (aF.mono hb.size)⟩,by simp [intOf];omega⟩
   ·have cE:Hid (Gr p):=fun e he=>by
     obtain ⟨j,hj,rfl⟩:=List.getElem_of_mem he;exact bE.out j hj Bl
    have aB:¬ (k:Int)<(p.edges.length:Int):=Bl;have bL:w.heap.size<wr.heap.size:=Bl;clear bE hk aN;go_wp2;clear aA aB;go_loopw [4] (fun i wr=>∃ k:Nat,k<=p.edges.length/\i = J U k/\Hid ((p.edges.take k).Nodup)/\Below (Dx 43 p (Aa A p.edges.length c) w) (Dx 43 p (Aa A p.edges.length c) w) wr) (fun i _=>p.edges.length - (intOf i).toNat);case atStart=>exact ⟨0,Ag _,rfl,by show (p.edges.take 0).Nodup;simp,hb⟩
    case round =>
     clear hb x0 x1 x2 x3 x4 hs bQ bL;obtain ⟨k,hk,rfl,bE,hb⟩:=hrel;obtain ⟨x0,x1,x2,x3,x4,hs,bQ⟩:=E9 hb;by_cases aA:k<p.edges.length
     ·have aB:(k:Int)<(p.edges.length:Int):=Bl;obtain ⟨b,o,rfl,-,-,-⟩:=(h.below bQ).edge aA;obtain ⟨wo,rfl⟩:∃ wo:World,wo=wr:=⟨_,rfl⟩
      go_wp2;go_loopw [5] (fun i wr=>∃ m:Nat,m<=k/\i = J U m/\Hid (∀ j (hj:j<p.edges.length),j<m -> ¬ p.edges[k]=p.edges[j])/\Below (Dx 43 p (Aa (Ac ⟨b,o,Ab⟩) p.edges.length c) w) (Dx 43 p (Aa (Ac ⟨b,o,Ab⟩) p.edges.length c) w) wr) (fun i _=>k - (intOf i).toNat);case atStart=>exact ⟨0,Ag _,rfl,fun j hj h0=>absurd h0 Bl,hb⟩
      case round =>
       clear hb x0 x1 x2 x3 x4 hs bQ;obtain ⟨m,hm,rfl,dI,hb⟩:=hrel;obtain ⟨x0,x1,x2,x3,x4,hs,bQ⟩:=E9 hb;by_cases mN:m<k
       ·have pM:(m:Int)<(k:Int):=Bl;have hml:m<p.edges.length:=Bl;have hmlI:(m:Int)<(p.edges.length:Int):=Bl;obtain ⟨b1,o1,he1,-,c0,c1⟩:=(h.below bQ).edge aA;obtain ⟨b2,o2,he2,-,d0,d1⟩:=(h.below bQ).edge hml;simp only [Option.some.injEq,Addr.mk.injEq,and_true] at he1 he2;obtain ⟨rfl,rfl⟩:=he1;obtain ⟨rfl,rfl⟩:=he2;by_cases hx:p.edges[k]=p.edges[m]
        ·have H:Hid (Co p=3):=Mw Hm.out cE.out (fun bN=>by
          have h1:(p.edges.take (k+1)).Nodup:=bN.sublist (List.take_sublist _ _);rw [Cn _ k aA] at h1;refine (Mi.1 h1).2 ?_;rw [hx];have:(p.edges.take k)[m]'(by simp;omega)=p.edges[m]:=List.getElem_take;rw [<-this];exact Aw _)
         have e0:p.edges[m].fr=p.edges[k].fr:=by rw [hx]
         have e1:p.edges[m].to=p.edges[k].to:=by rw [hx]
         rw [e0] at d0;rw [e1] at d1;clear hx e0 e1;go_wp2;go_quiet (fail);go_wp2;go_ret;exact ⟨Dc H.out.symm,Cj bQ _⟩
        ·have S:Hid (∀ j (hj:j<p.edges.length),j<m+1 -> ¬ p.edges[k]=p.edges[j]):=by
          intro j hj hjm;by_cases e:j=m
          ·subst e;exact hx
          ·exact dI.out j hj Bl
         have eH:¬ (p.edges[k].fr=p.edges[m].fr/\p.edges[k].to=p.edges[m].to):=fun ⟨e0,e1⟩=>hx (by cases hlk:p.edges[k];cases hlm:p.edges[m];simp_all);clear hx;by_cases e0:p.edges[k].fr=p.edges[m].fr
         ·have e1:¬ p.edges[k].to=p.edges[m].to:=fun e=>eH ⟨e0,e⟩;have e1':(p.edges[k].to == p.edges[m].to)=false:=beq_eq_false_iff_ne.2 e1;rw [<-e0] at d0;clear eH e0;go_wp2;go_quiet (fail);go_wp2;exact ⟨⟨m+1,Bl,by go_num,S,Cj hb _⟩,by simp [intOf];omega⟩
         ·have e0':(p.edges[k].fr == p.edges[m].fr)=false:=beq_eq_false_iff_ne.2 e0;clear eH;go_wp2;go_quiet (fail);go_wp2;exact ⟨⟨m+1,Bl,by go_num,S,Cj hb _⟩,by simp [intOf];omega⟩
       ·have pM:¬ (m:Int)<(k:Int):=Bl;have S:Hid ((p.edges.take (k+1)).Nodup):=by
         show (p.edges.take (k+1)).Nodup;rw [Cn _ k aA];refine Mi.2 ⟨bE.out,fun gN=>?_⟩;obtain ⟨j,hj,hje⟩:=List.getElem_of_mem gN;rw [List.getElem_take] at hje;simp at hj;exact dI.out j Bl Bl hje.symm
        go_wp2;exact ⟨⟨k+1,Bl,by go_num,S,hb⟩,by simp [intOf];omega⟩
     ·have aB:¬ (k:Int)<(p.edges.length:Int):=Bl;have bN:Hid p.edges.Nodup:=by
       have h1:=bE.out;rw [Bg Bl] at h1;exact h1
      clear bE hk;go_wp2;clear aA aB;go_loopw [6] (fun i wr=>∃ k:Nat,(k:Int)<=p.tasks/\i = J U k/\Hid (∀ j,j<k -> ¬ Pg.Reach (Dn p) j j)/\Below (Dx 43 p (Aa A p.edges.length c) w) (Dx 43 p (Aa A p.edges.length c) w) wr) (fun i _=>p.tasks.toNat - (intOf i).toNat);case atStart=>exact ⟨0,Bl,rfl,fun j hj=>absurd hj Bl,hb⟩
      case round =>
       clear hb x0 x1 x2 x3 x4 hs bQ;obtain ⟨k,hk,rfl,bE,hb⟩:=hrel;obtain ⟨x0,x1,x2,x3,x4,hs,bQ⟩:=E9 hb;by_cases aA:(k:Int)<p.tasks
       ·go_wp2_with fail
        refine (Adj p (Aa A p.edges.length c) k _ Hm.out cE.out aA ((h.below bQ).more bQ.size)).mono ?_;rintro e w2 ⟨v,O,rfl,o1,aF,jU,nD⟩;have sZ:k<O.length:=Bl;have hlen0:=Bq jU;rcases o1.form with ⟨_,e0⟩ | ⟨g,cap,rfl,_,rJ,_,_,_,_⟩
        ·exfalso;subst e0;simp at sZ
        have ck:=o1.bool sZ;have hg:Hid (O.getD k false=O[k]):=by unfold Hid;rw [List.getD_eq_getElem?_getD,List.getElem?_eq_getElem sZ];rfl
        have Hiff:=Bq nD;have hkOI:(k:Int)<(O.length:Int):=Bl;clear jU nD;cases hO:O[k]
        ·rw [hO] at ck;have S:Hid (∀ j,j<k+1 -> ¬ Pg.Reach (Dn p) j j):=by
          intro j hj;by_cases e:j=k
          ·subst e;intro hr
           have:=(Hiff.out j).2 hr
           rw [hg.out,hO] at this;cases this
          ·exact bE.out j Bl
         clear hO;go_wp2;exact ⟨⟨k+1,Bl,by go_num,S,hb.trans (aF.mono hb.size)⟩,by simp [intOf];omega⟩
        ·rw [hO] at ck;have H:Hid (Co p=4):=Mx Hm.out cE.out bN.out ⟨k,Bl,(Hiff.out k).1 (by rw [hg.out,hO])⟩;clear hO;go_wp2;go_ret;exact ⟨Dc H.out.symm,Bt bQ aF⟩
       ·have H:Hid (Co p=0):=C9.2 ⟨Hm.out,cE.out,bN.out,fun ⟨t,ht,hr⟩=>bE.out t Bl hr⟩;go_wp2;go_ret;exact ⟨Dc H.out.symm,bQ⟩
end Go.Proofs.YtonlnjdempbfoaaGreat
