/-
  l06From of the reference: the search by a list. append of a whole slice that reads as a list, nil or not, onto a slice of the call's own. PlanFault of the progr
-/
import Derived.Test.YtonlnjdempbfoabGreatZFd0
import Derived.Maps.AppendAt
import Derived.RegionTactic
import Derived.OwnWalk
import Derived.Deep.RegionWith
namespace Go.Proofs.YtonlnjdempbfoabGreat
open Go.RowKit
set_option maxRecDepth 100000
set_option maxHeartbeats 4000000
set_option linter.unusedVariables false
set_option linter.unusedSimpArgs false
open Value renaming int->J,slice->Aa
open IntKind renaming i64->U
open Option renaming none->Ab,some->Ac
open Below renaming setCell->Ad
open Nat renaming zero_le->Ag,le_trans->Ah,lt_of_lt_of_le->Ai
open Go renaming wpQuiet_nil->Ak
open Go.Proofs.Tryz renaming prog->Am
open Int renaming eq_ofNat_of_zero_le->Ap
open List renaming length_map->Ar,mem_singleton->Au,getElem_mem->Aw,nodup_append->Ax,length_take->Az,mem_append_right->Be,mem_append_left->Bf,take_of_length_le->Bg,length_set->Bh,mem_append->Bi
open World renaming size_alloc->Bj
open Go.Proofs.Tryz
theorem Aeo:(Am.info? 4).map (fun i=>(i.zero,i.size,i.bytes))=Ac (Ac (.bool false),1,1):=Bm
def Afx (p:Plan) (t:Nat) (w:World) (e:Ending) (w':World):Prop :=
 ∃ v O,e = .returned v/\Ow T8 4 w' w v O/\Below w w w'/\O.length=p.tasks.toNat /\ ∀ y,O.getD y false=true ↔ Pg.Reach (D4 p) t y
theorem Afy (p:Plan) (ve:Value) (t:Nat) (w:World) (hm:Ew p=true) (he:Hg p) (ht:(t:Int)<p.tasks) (h:Rd G6 w w ve p.edges) :
  Calls Am 259 #[Gw p ve,.int .i64 (t:Int)] w (Afx p t w):=by
 obtain ⟨A,c,rfl,-⟩:=id h;obtain ⟨t1,t2⟩:=Eh hm;have aF:=Fh hm;obtain ⟨T,hT⟩:=Ap (show 0<=p.tasks by omega);have HT:=Bq hT;have fI:T<=12:=Bl;have htT:t<T:=Bl;obtain ⟨i0,aR,aX,aW,aU⟩:=info_parts Aeo;obtain ⟨j0,cJ,jz0,jz1,jz2⟩:=info_parts K0;have kE:∀ w:World,(Instr.makeSlice 262 (.int .i64 p.tasks) (.int .i64 p.tasks)).run Am w = .ok (.slice (Ac ⟨w,0,Ab⟩) T T) (w.alloc (.cells (madeCells #[.bool false] (T * 1)) 4)):=by
  intro w
  have:=run_make (P:=Am) w 262 4 i0 _ underlying262 aR aX .i64 .i64 T T Bl Bl (by rw [aU];omega) Bl
  rw [aW] at this;rw [hT];simpa [Value.cells] using this
 have sK:(∀ e∈D4 p,e.1<T)/\(∀ e∈D4 p,e.2<T):=by
  have:=Mb he
  rw [hT] at this;simpa using this
 clear hT;unfold Gw;go_enter func259,ntmps259;go_wp2;go_loopw [6,7] (fun vl i wr=>∃ (k:Nat) (s:List Bool×List Nat),Hid (Pg.Bat (D4 p) T t k s)/\i = .int .i64 k/\Ow T8 4 wr (w+1) (.slice (Ac ⟨w+1,0,Ab⟩) T T) s.1/\Ow Eu 3 wr (w+1) vl s.2 /\
   Below (Ei 36 p (.slice A p.edges.length c) w) (Ei 36 p (.slice A p.edges.length c) w) wr) (fun _ i _=>T+2 - (intOf i).toNat)
 case atStart =>
  refine ⟨0,_,Pg.Bat.start (D4 p) T t,rfl,?_,?_,?_⟩
  ·have:=Ow.made T8 4 (Ei 36 p (.slice A p.edges.length c) w) false T Bp (by simp [maxLen];omega) (z:=#[.bool false]) rfl (m:=T) (by simp [T8])
   rw [Fi] at this;exact this.below (Bt)
  ·have:=World.ownsRow_lit (base:=w+1) (e:=3) (size:=1) ((Ei 36 p (.slice A p.edges.length c) w).alloc (.cells (madeCells #[.bool false] T) 4)) #[.int .i64 (t:Int)] 1 (by simp [Fi]) (by simp [maxLen]) rfl
   simp only [Bj,Fi] at this;exact this
  ·exact (Bt).alloc Bn _
 case round =>
  obtain ⟨k,s,kG,rfl,ho,hl,hb⟩:=hrel;obtain ⟨x0,x1,x2,x3,x4,hs,bW⟩:=Fn hb;have bS:w.heap.size<wr.heap.size:=Bl;have hkT:=kG.out.inv.lt;have kU:=kG.out.le;have nK:=Bq kG.out.inv.size;rcases hl.form with ⟨_,e0⟩ | ⟨gl,cap,rfl,hgl0,sC,aQ,qI,hlf,hlcell⟩
  ·exfalso;obtain ⟨l,hh,_⟩:=kG.out.inv.head;rw [hh] at e0;cases e0
  clear hlcell hlf;by_cases aA:k<s.2.length
  ·have aB:(k:Int)<(s.2.length:Int):=Bl;obtain ⟨wo,rfl⟩:∃ wo:World,wo=wr:=⟨_,rfl⟩
   have kJ:s.2[k]? = Ac s.2[k]:=List.getElem?_eq_getElem aA;have gI:=Bq (kG.out.next sK.2 kJ);clear kJ;go_wp2;go_loopw [6,8] (fun vl i wr=>∃ (j:Nat),j<=p.edges.length/\i = .int .i64 j/\Ow T8 4 wr (w+1) (.slice (Ac ⟨w+1,0,Ab⟩) T T) (Pg.N2 (esL (p.edges.take j)) s.2[k] s).1/\Ow Eu 3 wr (w+1) vl (Pg.N2 (esL (p.edges.take j)) s.2[k] s).2 /\
    Below (Ei 36 p (.slice A p.edges.length c) w) (Ei 36 p (.slice A p.edges.length c) w) wr) (fun _ i _=>p.edges.length - (intOf i).toNat)
   case atStart=>exact ⟨0,Ag _,rfl,ho,hl,hb⟩
   case round =>
    clear ho hl hb x0 x1 x2 x3 x4 hs bW bS hgl0 sC aQ qI;obtain ⟨j,hj,rfl,ho,hl,hb⟩:=hrel;obtain ⟨x0,x1,x2,x3,x4,hs,bW⟩:=Fn hb;have bS:w.heap.size<wr.heap.size:=Bl;by_cases dM:j<p.edges.length
    ·have gS:(j:Int)<(p.edges.length:Int):=Bl;obtain ⟨b,o,rfl,aK,c0,c1⟩:=(h.below bW).edge dM;obtain ⟨f1,f2,f3,f4⟩:=H8 he dM;rw [HT.out] at f2 f4;have dC:=Bq (show esL (p.edges.take (j+1))=esL (p.edges.take j) ++ [(p.edges[j].fr.toNat,p.edges[j].to.toNat)] by unfold esL;rw [Cp _ j dM,List.map_append];rfl);generalize p.edges[j].fr=fx at *
     generalize p.edges[j].to=tx at *
     obtain ⟨a,rfl⟩:=Ap f1;obtain ⟨d,rfl⟩:=Ap f3;have aE:Hid (Pg.N2 (esL (p.edges.take (j+1))) s.2[k] s=Pg.Mr s.2[k] (Pg.N2 (esL (p.edges.take j)) s.2[k] s) (a,d)):=by
      show Pg.N2 _ _ _=_;rw [dC.out];simp only [Int.toNat_natCast];unfold Pg.N2;rw [List.foldl_append];rfl
     have mP:=Pg.Agj (esL (p.edges.take j)) s.2[k] s;rw [nK.out] at mP;obtain ⟨r,hr⟩:=Pg.Aek (esL (p.edges.take j)) s.2[k] s;have hgk:(Pg.N2 (esL (p.edges.take j)) s.2[k] s).2[k]? = Ac s.2[k]:=by rw [hr,List.getElem?_append_left aA,List.getElem?_eq_getElem aA]
     have hlen2:s.2.length<=(Pg.N2 (esL (p.edges.take j)) s.2[k] s).2.length:=by rw [hr];simp
     clear hr dC;generalize hS:Pg.N2 (esL (p.edges.take j)) s.2[k] s=S at *
     have HS:=Bq hS;clear hS;generalize hx:s.2[k]=x at *
     have HX:=Bq hx;clear hx;rcases hl.form with ⟨_,e0⟩ | ⟨gl',cap',rfl,hgl0,sC,aQ,qI,hlf,hlcell⟩
     ·exfalso
      have:=congrArg List.length e0
      simp only [List.length_nil] at this;omega
     have hkS:k<S.2.length:=Bl;have hSk:Hid (S.2[k]=x):=by
      rw [List.getElem?_eq_getElem hkS] at hgk;exact Option.some.inj hgk
     have cx:=hl.nat hkS;rw [hSk.out] at cx;have hHbl:=Bq mP;have hdO:d<S.1.length:=by rw [mP];omega
     have cO:=ho.bool hdO;have hgO:=ho.blk.2;have hkSI:(k:Int)<(S.2.length:Int):=Bl;clear mP hgk hlcell;by_cases hax:a=x
     ·subst hax;have dJ:S.1.getD d true=S.1[d]:=by rw [List.getD_eq_getElem?_getD,List.getElem?_eq_getElem hdO];rfl
      have mF:((a:Int) == (a:Int))=true:=Bn;cases hO:S.1[d]
      ·rw [hO] at cO;have gZ:Hid (Pg.N2 (esL (p.edges.take (j+1))) a s=(S.1.set d true,S.2 ++ [d])):=by
        show Pg.N2 _ _ _=_;rw [aE.out];unfold Pg.Mr;rw [if_pos ⟨rfl,by rw [dJ,hO]⟩]
       clear dJ hO aE;have e1:(wr.alloc (.cells #[.int .i64 (a:Int),.int .i64 (d:Int)] 187)).cell? ⟨wr,1,Ab⟩=Ac (.int .i64 (d:Int)):=by go_simp
       go_wp2;go_quiet (fail);have hW:=Cm ((Br wr wr).alloc (Bs _) (.cells #[.int .i64 (a:Int),.int .i64 (d:Int)] 187)) nq;have aG:=Cm (hb.alloc hb.size (.cells #[.int .i64 (a:Int),.int .i64 (d:Int)] 187)) nq;have e2:((wr.alloc (.cells #[.int .i64 (a:Int),.int .i64 (d:Int)] 187)).drewN nq).cell? ⟨wr,1,Ab⟩=Ac (.int .i64 (d:Int)):=e1;have hwn:wr.heap.size<((wr.alloc (.cells #[.int .i64 (a:Int),.int .i64 (d:Int)] 187)).drewN nq).heap.size:=Bn;clear e1 c0 c1 cx cO;generalize (wr.alloc (.cells #[.int .i64 (a:Int),.int .i64 (d:Int)] 187)).drewN nq=W2 at *
       have jQ:=ho.below hW;have fH:=hl.below hW;have cO2:=jQ.bool hdO;have hof:=jQ.free;have cR:=Ow.put jQ (n:=T) (by rw [hHbl.out]) d Bl true;simp only [T8,Nat.mul_one] at cR;have qJ:Ow Eu 3 (W2.setCell ⟨w+1,d,Ab⟩ (.bool true)) (w+1) (.slice (Ac ⟨gl',0,Ab⟩) S.2.length cap') S.2:=fH.grown cR.2 (by
        have:=fH.ne_ jQ Bp
        simpa [Value.ownBlock] using this)
       have hkp:=Fi 36 p (.slice (Ac ⟨b,o,Ab⟩) p.edges.length c) w;have cD:=aG.grown cR.2 aG.size (fun g hg=>by rw [Fi];simp at hg;omega);have uX:=cR.1;have hl4:=qJ.below ((Br _ _).alloc (Bs _) (.cells #[.int .i64 (d:Int)] 3));have hwz:w.heap.size+1<=W2.heap.size:=Bl;have bY:=cD.alloc cD.size (.cells #[.int .i64 (d:Int)] 3);clear cR;have hSl:S.2.length<=3000000:=by
        have:=(Pg.Ael (x:=a) (esL (p.edges.take j)) kG.out.inv (by rw [<-HX.out];exact Aw aA) (fun e he'=>by
         simp only [esL,List.mem_map] at he';obtain ⟨y,hy,rfl⟩:=he';simp only [D4,esL,List.mem_map];exact ⟨y,List.mem_of_mem_take hy,rfl⟩) (fun e he'=>by
         simp only [esL,List.mem_map] at he';obtain ⟨y,hy,rfl⟩:=he';exact sK.2 _ (by simp only [D4,esL,List.mem_map];exact ⟨y,List.mem_of_mem_take hy,rfl⟩))).lt
        rw [HS.out] at this;omega
       go_wp2_with (at_builtin;refine Kz (v:=.slice (Ac ⟨gl',0,Ab⟩) S.2.length cap') Eu Bp rfl (.tmp 52) (.tmp 55) rfl underlying32 cJ jz0 jz1 jz2 rfl d rfl hl4 ⟨W2,0,Ab⟩ 1 rfl (Qg _ #[.int .i64 (d:Int)] _ Bn) hSl Bp (by simp;omega) ?_;intro v' w3 hown3 hgrow3)
       have dN:=uX.below ((Br _ _).alloc (Bs _) (.cells #[.int .i64 (d:Int)] 3));have ho5:=dN.grown hgrow3 (dN.ne_ hl4 Bp);have eX:=bY.grown hgrow3 bY.size (fun g hg=>by
        have hgg:gl'=g:=by simpa [Value.ownBlock] using hg
        have hgl1:=fH.blk.1;omega)
       exact ⟨⟨j+1,Bl,by go_num,by rw [gZ.out];exact ho5,by rw [gZ.out];exact hown3,eX⟩,by simp [intOf];omega⟩
      ·rw [hO] at cO;have bK:Hid (Pg.N2 (esL (p.edges.take (j+1))) a s=S):=by
        show Pg.N2 _ _ _=_;rw [aE.out];unfold Pg.Mr;rw [if_neg (fun h=>by rw [dJ,hO] at h;exact absurd h.2 Bn)]
       clear dJ hO;go_wp2;go_quiet (fail);go_wp2;exact ⟨⟨j+1,Bl,by go_num,by rw [bK.out];exact (ho.below (Cm ((Br wr wr).alloc (Bs _) _) _)),by rw [bK.out];exact (hl.below (Cm ((Br wr wr).alloc (Bs _) _) _)),Cm (hb.alloc hb.size _) _⟩,by simp [intOf];omega⟩
     ·have mF:((a:Int) == (x:Int))=false:=beq_eq_false_iff_ne.2 Bl;have bK:Hid (Pg.N2 (esL (p.edges.take (j+1))) x s=S):=by
       show Pg.N2 _ _ _=_;rw [aE.out];unfold Pg.Mr;rw [if_neg (fun h=>hax h.1)]
      clear hax;go_wp2;go_quiet (fail);go_wp2;exact ⟨⟨j+1,Bl,by go_num,by rw [bK.out];exact (ho.below (Cm ((Br wr wr).alloc (Bs _) _) _)),by rw [bK.out];exact (hl.below (Cm ((Br wr wr).alloc (Bs _) _) _)),Cm (hb.alloc hb.size _) _⟩,by simp [intOf];omega⟩
    ·have gS:¬ (j:Int)<(p.edges.length:Int):=Bl;have hj':j=p.edges.length:=Bl;subst hj';rw [List.take_length] at ho hl;go_wp2;refine ⟨⟨k+1,_,gI.out,by go_num,ho,hl,hb⟩,by simp [intOf];omega⟩
  ·have aB:¬ (k:Int)<(s.2.length:Int):=Bl;have bF:k=s.2.length:=Bl;go_wp2;go_ret;refine ⟨_,s.1,rfl,ho.more Bl,bW,?_,fun y=>?_⟩
   ·rw [nK.out,HT.out];rfl
   ·exact Pg.Bat.iff (by rw [<-bF];exact kG.out) y
section
variable {P:Program} (w:World)
theorem Pz (base:Nat) (t ty e:TypeId) (i:TypeInfo) (size:Nat) (ht:P.underlying t=Ac (.slice e)) (hi:P.info? e=Ac i)
  (v:Value) (n:Nat) (xs:List Value) (hown:w.ownsRow base e size v n xs) (c:Nat):(Builtin.append_ #[t,t] ty #[v,Aa Ab 0 c]).run P w = .ok v w:=by
 rcases hown.2 with ⟨rfl,rfl⟩ | ⟨g,cap,cur,rfl,_,_,hnc,_⟩
 ·simp [Builtin.append_,run_underlying ht,sizeOf,typeInfo,hi,Builtin.lenOf,Builtin.firstCells]
 ·simp [Builtin.append_,run_underlying ht,sizeOf,typeInfo,hi,Builtin.lenOf,Builtin.firstCells,hnc,storeCells]
theorem Ad3 {α:Type} {e:Enc α} (bM:0<e.sz) {w:World} {B:Nat} {A:Option Addr} {m c:Nat} {ys:List α} (hr:Rd e w B (Aa A m c) ys):m=ys.length/\(0<m -> ∃ ad,A=Ac ad /\ ∀ j u,(ys.flatMap e.cells)[j]? = Ac u->w.cell? (ad.add j)=Ac u):=by
 obtain ⟨A',c',hv,_,hA⟩:=hr;simp only [Value.slice.injEq] at hv;obtain ⟨rfl,rfl,rfl⟩:=hv;refine ⟨rfl,fun hm=>?_⟩;obtain ⟨b,o,rfl,hb,hc⟩:=hA hm;refine ⟨⟨b,o,Ab⟩,rfl,fun j u hu=>?_⟩;have aA:=(List.getElem?_eq_some_iff.1 hu).1;rw [e.flat_length] at aA;have hk:j / e.sz<ys.length:=Nat.div_lt_of_lt_mul (by rw [Nat.mul_comm];exact aA);have hj:j % e.sz<e.sz:=Nat.mod_lt _ bM;have rJ:j / e.sz * e.sz+j % e.sz=j:=by rw [Nat.mul_comm];exact Nat.div_add_mod _ _
 have h1:=e.flat_get hj ys (j / e.sz) hk;rw [rJ] at h1;have h2:=hc (j / e.sz) hk (j % e.sz) u (by rw [<-h1];exact hu);have ea:(⟨b,o,Ab⟩:Addr).add j=⟨b,o+j / e.sz * e.sz+j % e.sz,Ab⟩:=by
  rw [Nat.add_assoc,rJ];unfold Addr.add;split<;>simp_all
 rw [ea];exact h2
theorem We {α:Type} (e:Enc α) (bM:0<e.sz) (base:Nat) (t ty E:TypeId) (i:TypeInfo) (z:Value) (bytes:Nat) (ht:P.underlying t=Ac (.slice E)) (hi:P.info? E=Ac i) (hz:i.zero=Ac z)
  (cH:i.size=e.sz) (cF:i.bytes=bytes) (hzs:z.cells.size=e.sz)
  (v:Value) (l:List α) (hown:Ow e E w base v l)
  (B:Nat) (A:Option Addr) (m c:Nat) (ys:List α) (hr:Rd e w B (Aa A m c) ys)
  (hn:l.length<=3000000) (hm:ys.length<=3000000) (hbytes:bytes<=10000) (bE:base<=w.heap.size) :
  ∃ v' w',(Builtin.append_ #[t,t] ty #[v,Aa A m c]).run P w = .ok v' w'/\Ow e E w' base v' (l ++ ys)/\w.grownBy w' v.ownBlock /\
   (v'.ownBlock=v.ownBlock\/v'.ownBlock=Ac w.heap.size):=by
 obtain ⟨rfl,hA⟩:=Ad3 bM hr;have h0:∀ ad:Addr,A=Ac ad -> ∀ j u,(ys.flatMap e.cells)[j]? = Ac u->w.cell? (ad.add j)=Ac u:=by
  intro ad hAd j u hu;rcases Nat.eq_zero_or_pos ys.length with aX | hpos
  ·have:ys=[]:=List.eq_nil_of_length_eq_zero aX;subst this;simp at hu
  ·obtain ⟨ad',cC,hc⟩:=hA hpos;rw [cC] at hAd;injection hAd with hAd
   subst hAd;exact hc j u hu
 rcases A with _ | ad
 ·have eP:ys=[]:=by
   rcases Nat.eq_zero_or_pos ys.length with h1 | h1
   ·exact List.eq_nil_of_length_eq_zero h1
   ·obtain ⟨_,h2,_⟩:=hA h1;cases h2
  subst eP;exact ⟨v,w,Pz w base t ty E i e.sz ht hi v l.length (l.flatMap e.cells) hown c,by simpa using hown,World.grownBy.refl w _,.inl rfl⟩
 ·have h1:∀ u∈ys.flatMap e.cells,u.oneCell'=true:=by
   intro u hu;obtain ⟨y,_,hy⟩:=List.mem_flatMap.1 hu;exact e.one y u hy
  have aG:(l.length+ys.length) * bytes<=6000000 * 10000:=Nat.mul_le_mul Bl hbytes;obtain ⟨v',w',eU,h2,h3,_,h5⟩:=run_append_own_at (P:=P) w base t ty E i z e.sz bytes ht hi hz cH cF hzs bM v l.length (l.flatMap e.cells) hown ad ys.length c (ys.flatMap e.cells) (e.flat_length ys) (h0 ad rfl) h1 (by simp [maxLen];omega) Bl bE;refine ⟨v',w',eU,?_,h3,h5⟩;unfold Ow;rw [List.length_append,List.flatMap_append];exact h2
theorem E1 {α:Type} {o:Oper} {a:Act} {K:Act->World->Prop} {Q:Exit->Act->World->Prop} (e:Enc α) (bM:0<e.sz) (s x:Operand) (t:TypeId)
  (ho:o.op = .call { callee:=.builtin .append,args:=#[s,x],argTypes:=#[t,t] })
  (base:Nat) (E:TypeId) (i:TypeInfo) (z:Value) (bytes:Nat) (ht:P.underlying t=Ac (.slice E)) (hi:P.info? E=Ac i) (hz:i.zero=Ac z)
  (cH:i.size=e.sz) (cF:i.bytes=bytes) (hzs:z.cells.size=e.sz)
  (v:Value) (l:List α) (hs:a.eval s=v) (hown:Ow e E w base v l)
  (B:Nat) (A:Option Addr) (m c:Nat) (ys:List α) (hx:a.eval x = .slice A m c) (hr:Rd e w B (.slice A m c) ys)
  (hn:l.length<=3000000) (hm:ys.length<=3000000) (hbytes:bytes<=10000) (bE:base<=w.heap.size)
  (h:∀ v' w',Ow e E w' base v' (l ++ ys)->w.grownBy w' v.ownBlock->(v'.ownBlock=v.ownBlock\/v'.ownBlock=Ac w.heap.size)->K (a.put o.dst v') w'):o.wp P a w K Q:=by
 obtain ⟨v',w',eU,h2,h3,h4⟩:=We (P:=P) w e bM base t o.type E i z bytes ht hi hz cH cF hzs v l hown B A m c ys hr hn hm hbytes bE;unfold Oper.wp execOp;simp only [ho,resolve,invoke,builtin,Sem.run_bind,Sem.run_pure,Result.andThen_ok,List.map_toArray,List.map_cons,List.map_nil,hs,hx,eU];exact h v' w' h2 h3 h4
theorem Ch {α:Type} {ops:Array Oper} {rest:List Oper} {o:Oper} {a:Act} {Q:Exit->Act->World->Prop} (e:Enc α) (bM:0<e.sz) (dJ:o.guard=Ab) (s x:Operand) {t:TypeId}
  (ho:o.op = .call { callee:=.builtin .append,args:=#[s,x],argTypes:=#[t,t] })
  {base:Nat} {E:TypeId} {i:TypeInfo} {z:Value} {bytes:Nat} (ht:P.underlying t=Ac (.slice E)) (hi:P.info? E=Ac i) (hz:i.zero=Ac z)
  (cH:i.size=e.sz) (cF:i.bytes=bytes) (hzs:z.cells.size=e.sz)
  {v:Value} {l:List α} (hs:a.eval s=v) (hown:Ow e E w base v l)
  {B:Nat} {A:Option Addr} {m c:Nat} {ys:List α} (hx:a.eval x = .slice A m c) (hr:Rd e w B (.slice A m c) ys)
  (hn:l.length<=3000000) (hm:ys.length<=3000000) (hbytes:bytes<=10000) (bE:base<=w.heap.size)
  (h:∀ v' w',Ow e E w' base v' (l ++ ys)->w.grownBy w' v.ownBlock->(v'.ownBlock=v.ownBlock\/v'.ownBlock=Ac w.heap.size)->wpList P ops Q rest (a.put o.dst v') w'):wpList P ops Q (o :: rest) a w :=
 wpList_plain dJ fun _ hK=>E1 w e bM s x t ho base E i z bytes ht hi hz cH cF hzs v l hs hown B A m c ys hx hr hn hm hbytes bE fun v' w' h2 h3 h4=>hK _ _ (h v' w' h2 h3 h4)
theorem Gj {α:Type} {ops:Array Oper} {o:Oper} {a:Act} {K:Act->World->Prop} {Q:Exit->Act->World->Prop} {EE:Prop} (e:Enc α) (bM:0<e.sz) (dJ:o.guard=Ab) (s x:Operand) {t:TypeId}
  (ho:o.op = .call { callee:=.builtin .append,args:=#[s,x],argTypes:=#[t,t] })
  {base:Nat} {E:TypeId} {i:TypeInfo} {z:Value} {bytes:Nat} (ht:P.underlying t=Ac (.slice E)) (hi:P.info? E=Ac i) (hz:i.zero=Ac z)
  (cH:i.size=e.sz) (cF:i.bytes=bytes) (hzs:z.cells.size=e.sz)
  {v:Value} {l:List α} (hs:a.eval s=v) (hown:Ow e E w base v l)
  {B:Nat} {A:Option Addr} {m c:Nat} {ys:List α} (hx:a.eval x = .slice A m c) (hr:Rd e w B (.slice A m c) ys)
  (hn:l.length<=3000000) (hm:ys.length<=3000000) (hbytes:bytes<=10000) (bE:base<=w.heap.size)
  (h:∀ v' w',Ow e E w' base v' (l ++ ys)->w.grownBy w' v.ownBlock->(v'.ownBlock=v.ownBlock\/v'.ownBlock=Ac w.heap.size)->K (a.put o.dst v') w') :
  if Region.wanted o (yielded ops a.tmps)=true then Oper.wp P o a w K Q else EE:=by
 have hw:Region.wanted o (yielded ops a.tmps)=true:=by simp [Region.wanted,dJ]
 rw [if_pos hw];exact E1 w e bM s x t ho base E i z bytes ht hi hz cH cF hzs v l hs hown B A m c ys hx hr hn hm hbytes bE h
end
theorem Rd.one {α:Type} (e:Enc α) (w:World) (T:TypeId) (x:α) {g:Nat} (hg:g=w) {cs:Array Value} (gN:cs=(e.cells x).toArray) (c:Nat) (hc:1<=c) {B:Nat} (hB:g<B):Rd e (w.alloc (.cells cs T)) B (Aa (Ac ⟨g,0,Ab⟩) 1 c) [x]:=by
 refine ⟨_,c,rfl,by simpa using hc,fun _=>⟨g,0,rfl,hB,fun k hk j u hu=>?_⟩⟩;have cL:k=0:=by simpa using hk
 subst cL;simp only [List.getElem_cons_zero] at hu
 have:=Qg w cs T hg j u (by rw [gN];simpa using hu)
 have ea:(⟨g,0,Ab⟩:Addr).add j=⟨g,0+0 * e.sz+j,Ab⟩:=by
  unfold Addr.add;split<;>simp_all
 rw [ea] at this;exact this
theorem Ow.empty {α:Type} (e:Enc α) (E:TypeId) (w:World) {g:Nat} (hg:g=w):Ow e E (w.alloc (.cells #[] E)) g (Aa (Ac ⟨g,0,Ab⟩) 0 0) []:=by
 subst hg;exact World.ownsRow_lit (base:=w) (e:=E) (size:=e.sz) w #[] 0 (Bs _) (by simp [maxLen]) Bn
theorem Wg (v:Value) (l:List Edge) (x:Edge) (w:World) (hl:l.length<=2000000) (h:Rd G6 w w v l) :
  Calls Am 277 #[v,Z3 x] w fun e w'=>e = .returned (J U (Hj (fun y=>decide (x=y)) l))/\Below w w w':=by
 obtain ⟨A,c,rfl,-⟩:=id h;unfold Z3;go_enter func277,ntmps277;go_wp2;go_loopw [8] (fun i wr=>∃ k:Nat,k<=l.length/\i = J U k/\Hid (∀ j (hj:j<k) (hj':j<l.length),decide (x=l[j])=false)/\Below (w.alloc (.cells #[J U x.fr,J U x.to] 187)) (w.alloc (.cells #[J U x.fr,J U x.to] 187)) wr) (fun i _=>l.length - (intOf i).toNat);case atStart=>exact ⟨0,Ag _,rfl,fun j hj=>absurd hj Bl,Br _ _⟩
 case round =>
  obtain ⟨k,hk,rfl,dX,hb⟩:=hrel;have aL:Below w w (w.alloc (.cells #[J U x.fr,J U x.to] 187)):=Bt;have bW:=Bu aL hb;by_cases aA:k<l.length
  ·obtain ⟨b,o,rfl,aK,c0,c1⟩:=(h.below bW).edge aA;have n0:wr.cell? ⟨w,0,Ab⟩=Ac (J U x.fr):=(hb.cell (p:=⟨w,0,Ab⟩) Bn).trans (by go_simp);have n1:wr.cell? ⟨w,1,Ab⟩=Ac (J U x.to):=(hb.cell (p:=⟨w,1,Ab⟩) Bn).trans (by go_simp);by_cases hx:x=l[k]
   ·have H:=Bq (Jp (p:=fun y=>decide (x=y)) aA (fun j hj=>dX.out j hj Bl) (show decide (x=l[k])=true by simp [hx]));have e0:l[k].fr=x.fr:=by rw [hx]
    have e1:l[k].to=x.to:=by rw [hx]
    rw [e0] at c0;rw [e1] at c1;clear hx e0 e1;go_wp2;go_quiet (fail);go_wp2;go_ret;exact ⟨C8 (by rw [H.out]),Cm bW _⟩
   ·have S:Hid (∀ j (hj:j<k+1) (hj':j<l.length),decide (x=l[j])=false):=by
     intro j hj hj';by_cases e:j=k
     ·subst e;simpa using hx
     ·exact dX.out j Bl hj'
    have dV:¬ (x.fr=l[k].fr/\x.to=l[k].to):=fun ⟨e0,e1⟩=>hx (by cases x;cases hlk:l[k];simp_all);clear hx;by_cases e0:x.fr=l[k].fr
    ·have e1:¬ x.to=l[k].to:=fun e=>dV ⟨e0,e⟩;have e1':(x.to == l[k].to)=false:=by simpa using e1
     rw [<-e0] at c0;clear dV e0;go_wp2;go_quiet (fail);go_wp2;exact ⟨⟨k+1,Bl,by go_num,S,Cm hb _⟩,by simp [intOf];omega⟩
    ·have e0':(x.fr == l[k].fr)=false:=by simpa using e0
     clear dV;go_wp2;go_quiet (fail);go_wp2;exact ⟨⟨k+1,Bl,by go_num,S,Cm hb _⟩,by simp [intOf];omega⟩
  ·have H:=Bq (Kd (p:=fun y=>decide (x=y)) (l:=l) (fun j hj=>dX.out j Bl hj));go_wp2;go_ret;exact ⟨C8 (by rw [H.out]),bW⟩
theorem Aep {l:List Edge} {x:Edge} : (0<=Hj (fun y=>decide (x=y)) l) ↔ x∈l:=by
 unfold Hj;cases h:l.findIdx? (fun y=>decide (x=y)) with
 | none =>
  rw [List.findIdx?_eq_none_iff] at h;simp only;refine ⟨fun h=>absurd h Bl,fun hx=>?_⟩
  have:=h x hx
  simp at this
 | some i =>
  rw [List.findIdx?_eq_some_iff_getElem] at h;obtain ⟨hi,hp,_⟩:=h;simp only [decide_eq_true_eq] at hp;simp only;exact ⟨fun _=>by rw [hp];exact Aw hi,fun _=>Bl⟩
theorem Mu (v:Value) (l:List Edge) (x:Edge) (w:World) (hl:l.length<=2000000) (h:Rd G6 w w v l) :
  Calls Am 247 #[v,Z3 x] w fun e w'=>e = .returned (.bool (decide (x∈l)))/\Below w w w':=by
 have aL:Below w w (w.alloc (.cells #[J U x.fr,J U x.to] 187)):=Bt;have H:=Bq (show decide (0<=Hj (fun y=>decide (x=y)) l)=decide (x∈l) from decide_eq_decide.2 Aep);unfold Z3;go_enter func247,ntmps247;go_wp2_with fail
 refine (Wg v l x _ hl ((h.below aL).more aL.size)).mono ?_;rintro e w1 ⟨rfl,aJ⟩;go_wp2_with fail
 go_ret;exact ⟨Bw (by rw [<-H.out]),Bu aL aJ⟩
theorem N3 {p:Plan} (h:Ew p=false):Cs p=1:=by unfold Cs;rw [if_pos h]
theorem N4 {p:Plan} (h:Ew p=true) (h2:¬ Hg p):Cs p=2:=by unfold Cs;rw [if_neg (by rw [h];simp),if_pos h2]
theorem Nt {p:Plan} (h:Ew p=true) (h2:Hg p) (h3:¬ p.edges.Nodup):Cs p=3:=by
 unfold Cs;rw [if_neg (by rw [h];simp),if_neg (by simpa using h2),if_pos h3]
theorem Nu {p:Plan} (h:Ew p=true) (h2:Hg p) (h3:p.edges.Nodup) (h4:Rf p):Cs p=4:=by
 unfold Cs;rw [if_neg (by rw [h];simp),if_neg (by simpa using h2),if_neg (by simpa using h3),if_pos h4]
theorem Nb {α:Type} {l:List α} {x:α} : (l ++ [x]).Nodup ↔ l.Nodup/\x∉l:=by
 rw [Ax];constructor
 ·rintro ⟨h1,_,h2⟩;exact ⟨h1,fun hx=>h2 x hx x Bn rfl⟩
 ·rintro ⟨h1,h2⟩;refine ⟨h1,Bn,fun a ha b hb e=>?_⟩;simp only [Au] at hb;subst hb;subst e;exact h2 ha
theorem P4 (p:Plan) (ve:Value) (w:World) (hl:p.edges.length<=2000000) (h:Rd G6 w w ve p.edges) (hm:Ew p=false) :
  Calls Am 176 #[Gw p ve] w fun e w'=>e = .returned (J U (Cs p))/\Below w w w':=by
 have H:=Bq (N3 hm);obtain ⟨A,c,rfl,-⟩:=id h;unfold Gw;cases h1:inB p.tasks 1 12
 ·clear hm;go_enter func176,ntmps176;go_wp2_with (go_at_call 56;refine (Co _ _ _ _).mono ?_;rintro e w' ⟨rfl,rfl⟩)
  go_ret;exact ⟨C8 H.out.symm,Bt⟩
 by_cases h2:30<p.edges.length
 ·have h2':(30:Int)<(p.edges.length:Int):=Bl;clear hm;go_enter func176,ntmps176;go_wp2_with (go_at_call 56;refine (Co _ _ _ _).mono ?_;rintro e w' ⟨rfl,rfl⟩)
  go_ret;exact ⟨C8 H.out.symm,Bt⟩
 have h2':¬ (30:Int)<(p.edges.length:Int):=Bl;cases h3:inB p.prio 0 9
 ·clear hm;go_enter func176,ntmps176;go_wp2_with (go_at_call 56;refine (Co _ _ _ _).mono ?_;rintro e w' ⟨rfl,rfl⟩)
  go_ret;exact ⟨C8 H.out.symm,Bt⟩
 cases h4:inB p.most 1 5
 ·clear hm;go_enter func176,ntmps176;go_wp2_with (go_at_call 56;refine (Co _ _ _ _).mono ?_;rintro e w' ⟨rfl,rfl⟩)
  go_ret;exact ⟨C8 H.out.symm,Bt⟩
 cases h5:inB p.wait 1 20
 ·clear hm;go_enter func176,ntmps176;go_wp2_with (go_at_call 56;refine (Co _ _ _ _).mono ?_;rintro e w' ⟨rfl,rfl⟩)
  go_ret;exact ⟨C8 H.out.symm,Bt⟩
 ·exfalso;have:Ew p=true:=by simp [Ew,h1,h3,h4,h5];omega
  rw [this] at hm;cases hm
structure Sl where
 a:Option Addr
 n:Nat
 c:Nat
abbrev Sl.v (s:Sl):Value:=.slice s.a s.n s.c
structure Chg (F:List Nat) (w w':World):Prop where
 os:w'.os=w.os
 tape:w'.tape=w.tape
 output:w'.output=w.output
 size:w.heap.size<=w'.heap.size
 block:∀ b,b<w.heap.size->b∉F->w'.heap[b]? = w.heap[b]?
theorem Chg.refl (F:List Nat) (w:World):Chg F w w:=⟨rfl,rfl,rfl,Bs _,fun _ _ _=>rfl⟩
theorem Chg.trans {F:List Nat} {a b c:World} (h:Chg F a b) (k:Chg F b c):Chg F a c :=
 ⟨k.os.trans h.os,k.tape.trans h.tape,k.output.trans h.output,Ah h.size k.size,fun i hi hn=>(k.block i (Ai hi h.size) hn).trans (h.block i hi hn)⟩
theorem Chg.mono {F G:List Nat} {a b:World} (h:Chg F a b) (hs:∀ x∈F,x∈G):Chg G a b:=⟨h.os,h.tape,h.output,h.size,fun i hi hn=>h.block i hi (fun hx=>hn (hs i hx))⟩
theorem Chg.of_below {a b:World} (F:List Nat) (h:Below a a b):Chg F a b:=⟨h.os,h.tape,h.output,h.size,fun i hi _=>h.block i hi⟩
theorem Chg.below {F:List Nat} {a b:World} (h:Chg F a b) {base:Nat} (hb:base<=a.heap.size) (hF:∀ x∈F,base<=x):Below base a b :=
 ⟨h.os,h.tape,h.output,h.size,fun i hi=>h.block i Bl (fun hx=>by have:=hF i hx;omega)⟩
theorem Chg.setCell (w:World) (b o:Nat) (u:Value):Chg [b] w (w.setCell ⟨b,o,Ab⟩ u) :=
 ⟨rfl,rfl,rfl,by simp [World.setCell],fun i _ hn=>Below.heap_setCell w ⟨b,o,Ab⟩ u i (by simpa using hn)⟩
theorem Chg.cell {F:List Nat} {w w':World} (h:Chg F w w') {p:Addr} (hp:p.block<w.heap.size) (hn:p.block∉F):w'.cell? p=w.cell? p:=World.cell?_of_block (h.block _ hp hn)
theorem Chg.frozen {F:List Nat} {w w':World} (h:Chg F w w') {p:Addr} (hp:p.block<w.heap.size) (hn:p.block∉F):w'.frozen? p=w.frozen? p:=World.frozen?_of_block (h.block _ hp hn)
section
variable {α:Type} {e:Enc α} {w w':World} {B B':Nat} {v:Value} {l:List α} {F G:List Nat}
def Ek (v:Value) (n:Nat):List Nat:=if n=0 then [] else v.ownBlock.toList
theorem Jw (v:Value) (n:Nat):(Ek v n).Nodup:=by
 unfold Ek;split
 ·exact List.nodup_nil
 ·cases v.ownBlock<;>simp
def Hw (e:Enc α) (w:World) (F:List Nat) (v:Value) (l:List α):Prop:=Rd e w w v l/\F=Ek v l.length /\ ∀ g∈F,∀ j,w.frozen? ⟨g,j,Ab⟩=false
theorem Rd.block_lt {A:Option Addr} {n c:Nat} (h:Rd e w B (Aa A n c) l):∀ b∈Ek (Aa A n c) l.length,b<B:=by
 intro b hb;obtain ⟨A',c',hv,_,hA⟩:=h;simp only [Value.slice.injEq] at hv;obtain ⟨rfl,rfl,rfl⟩:=hv;unfold Ek at hb;split at hb
 ·cases hb
 ·obtain ⟨b',o',rfl,aA,_⟩:=hA Bl;simp [Value.ownBlock] at hb;omega
theorem Rd.keepF (h:Rd e w B v l) (hB:B<=B') (hk:∀ b∈Ek v l.length,∀ o,w'.cell? ⟨b,o,Ab⟩=w.cell? ⟨b,o,Ab⟩):Rd e w' B' v l:=by
 obtain ⟨A,c,rfl,cI,hA⟩:=h;refine ⟨A,c,rfl,cI,fun hl=>?_⟩;obtain ⟨b,o,rfl,aA,hc⟩:=hA hl;refine ⟨b,o,rfl,Bl,fun k bF j u hu=>?_⟩;rw [hk b (by unfold Ek;rw [if_neg Bl];simp [Value.ownBlock])];exact hc k bF j u hu
theorem Hw.lt (h:Hw e w F v l):∀ b∈F,b<w:=by
 obtain ⟨hr,rfl,_⟩:=h;obtain ⟨A,c,rfl,_⟩:=id hr;exact hr.block_lt
theorem Hw.nodup (h:Hw e w F v l):F.Nodup:=by
 obtain ⟨_,rfl,_⟩:=h;exact Jw _ _
theorem Hw.keep (h:Hw e w F v l) (hs:w.heap.size<=w'.heap.size) (hk:∀ b∈F,w'.heap[b]? = w.heap[b]?):Hw e w' F v l:=by
 obtain ⟨hr,rfl,hf⟩:=h;refine ⟨hr.keepF hs (fun b hb o=>World.cell?_of_block (hk b hb)),rfl,fun g hg j=>?_⟩;rw [World.frozen?_of_block (w:=w) (hk g hg)];exact hf g hg j
theorem Hw.chg (h:Hw e w F v l) (hc:Chg G w w') (hd:∀ b∈F,b∉G):Hw e w' F v l:=h.keep hc.size fun b hb=>hc.block b (h.lt b hb) (hd b hb)
theorem Hw.below (h:Hw e w F v l) (hb:Below w w w'):Hw e w' F v l:=h.keep hb.size fun b hF=>hb.block b (h.lt b hF)
theorem Hw.rd (h:Hw e w F v l):Rd e w w v l:=h.1
theorem Hw.of_ow {E:TypeId} {base:Nat} (h:Ow e E w base v l):Hw e w (Ek v l.length) v l /\ ∀ b∈Ek v l.length,base<=b:=by
 have hr:=Rd.of_own h;rcases h.form with ⟨rfl,rfl⟩ | ⟨g,cap,rfl,h1,h2,_,_,hf,_⟩
 ·exact ⟨⟨hr,rfl,fun g hg=>by simp [Ek] at hg⟩,fun b hb=>by simp [Ek] at hb⟩
 ·have hb:∀ b∈Ek (Aa (Ac ⟨g,0,Ab⟩) l.length cap) l.length,b=g:=by
   intro b hb;unfold Ek at hb;split at hb
   ·cases hb
   ·simpa [Value.ownBlock] using hb
  exact ⟨⟨hr,rfl,fun b aV j=>by rw [hb b aV];exact hf j⟩,fun b aV=>by rw [hb b aV];exact h1⟩
theorem Hw.nil (e:Enc α) (w:World) (A:Option Addr) (c:Nat):Hw e w [] (Aa A 0 c) [] :=
 ⟨⟨A,c,rfl,Ag _,fun h=>absurd h Bn⟩,by simp [Ek],fun _ h=>by cases h⟩
theorem Hw.at_ {A:Option Addr} {n c:Nat} (h:Hw e w F (Aa A n c) l) (hp:0<l.length):∃ b o,A=Ac ⟨b,o,Ab⟩/\F=[b]/\b<w.heap.size/\(∀ j,w.frozen? ⟨b,j,Ab⟩=false):=by
 obtain ⟨hr,hF,hf⟩:=h;obtain ⟨A',c',hv,_,hA⟩:=id hr;simp only [Value.slice.injEq] at hv;obtain ⟨rfl,rfl,rfl⟩:=hv;obtain ⟨b,o,rfl,aA,_⟩:=hA hp;have hFb:F=[b]:=by
  rw [hF];unfold Ek;rw [if_neg Bl];rfl
 exact ⟨b,o,rfl,hFb,aA,fun j=>hf b (by rw [hFb];simp) j⟩
end
theorem Iv:∀ (us:List Value) (w:World) (b i:Nat),Chg [b] w (Hz w b i us)
 | [],w,b,_=>Chg.refl [b] w
 | u :: us,w,b,i=>(Chg.setCell w b i u).trans (Iv us _ b (i+1))
theorem Jq:∀ (us:List Value) (w:World) (b i:Nat),(Hz w b i us).heap.size=w.heap.size
 | [],_,_,_=>rfl
 | u :: us,w,b,i=>by
  rw [Hz,Jq us];simp [World.setCell]
theorem Nc (w:World) (b o i:Nat) (u u0:Value) (h0:w.cell? ⟨b,o,Ab⟩=Ac u0) (hi:∃ x,w.cell? ⟨b,i,Ab⟩=Ac x) :
  (w.setCell ⟨b,i,Ab⟩ u).cell? ⟨b,o,Ab⟩=Ac (if o=i then u else u0):=by
 by_cases h:o=i
 ·subst h;rw [if_pos rfl];obtain ⟨x,hx⟩:=hi;simp [go_sem,hx]
 ·rw [if_neg h]
  have:=h0
  simp [go_sem,this]
theorem Rg:∀ (us:List Value) (w:World) (b i o:Nat) (u0:Value),(∀ j,j<us.length -> ∃ x,w.cell? ⟨b,i+j,Ab⟩=Ac x)->w.cell? ⟨b,o,Ab⟩=Ac u0 ->
  (Hz w b i us).cell? ⟨b,o,Ab⟩=Ac (if h:i<=o/\o<i+us.length then us[o - i]' Bl else u0)
 | [],w,b,i,o,u0,_,h0=>by
  rw [Hz,h0,dif_neg Bn]
 | u :: us,w,b,i,o,u0,hx,h0=>by
  have h1:=Nc w b o i u u0 h0 (by simpa using hx 0 Bn);have h2:=Rg us (w.setCell ⟨b,i,Ab⟩ u) b (i+1) o _ (fun j hj=>by
   obtain ⟨x,dV⟩:=hx (j+1) (by simpa using hj);exact ⟨_,Nc w b (i+1+j) i u x (by rw [show i+1+j=i+(j+1) from by omega];exact dV) (by simpa using hx 0 Bn)⟩) h1
  rw [Hz,h2];congr 1;by_cases ho:o=i
  ·subst ho;rw [dif_neg Bl,if_pos rfl,dif_pos Bn];simp
  ·by_cases cP:i+1<=o/\o<i+1+us.length
   ·rw [dif_pos cP,dif_pos (by simp only [List.length_cons];omega)];have:o - i=(o - (i+1))+1:=Bl;simp only [this,List.getElem_cons_succ]
   ·rw [dif_neg cP,if_neg ho,dif_neg (by simp only [List.length_cons];omega)]
theorem Jx (w:World) (a:Addr) (u:Value) (p:Addr):(w.setCell a u).frozen? p=w.frozen? p:=by simp [go_sem]
theorem Iw:∀ (us:List Value) (w:World) (b i:Nat) (p:Addr),(Hz w b i us).frozen? p=w.frozen? p
 | [],_,_,_,_=>rfl
 | u :: us,w,b,i,p=>by rw [Hz,Iw us,Jx]
theorem Rd.part {α:Type} {e:Enc α} {w:World} {B b o n c:Nat} {l:List α} (h:Rd e w B (Aa (Ac ⟨b,o,Ab⟩) n c) l) (k:Nat) (hk:k<l.length) (y:α) (off:Nat) (us:List Value) (hoff:off+us.length<=e.sz)
  (cP:∀ j (hj:j<us.length),(e.cells y)[off+j]? = Ac us[j]) (fN:∀ j,j<e.sz->(j<off\/off+us.length<=j)->(e.cells y)[j]? = (e.cells l[k])[j]?) :
  Rd e (Hz w b (o+k * e.sz+off) us) B (Aa (Ac ⟨b,o,Ab⟩) n c) (l.set k y):=by
 obtain ⟨A',c',hv,cI,hA⟩:=h;simp only [Value.slice.injEq] at hv;obtain ⟨rfl,rfl,rfl⟩:=hv;refine ⟨_,c,by rw [Bh],by rw [Bh];exact cI,fun _=>?_⟩;obtain ⟨b',o',he,aA,hc⟩:=hA Bl;simp only [Option.some.injEq,Addr.mk.injEq,and_true] at he;obtain ⟨rfl,rfl⟩:=he;refine ⟨b,o,rfl,aA,fun i aR j u hu=>?_⟩;have hi:i<l.length:=by rw [Bh] at aR;exact aR
 have hj:j<e.sz:=by
  have:=(List.getElem?_eq_some_iff.1 hu).1
  rw [e.len] at this;exact this
 have sX:∀ j',j'<us.length -> ∃ x,w.cell? ⟨b,o+k * e.sz+off+j',Ab⟩=Ac x:=fun j' hj'=>by
  have cA:off+j'<(e.cells l[k]).length:=by rw [e.len];omega
  exact ⟨_,by rw [Nat.add_assoc];exact hc k hk (off+j') _ (List.getElem?_eq_getElem cA)⟩
 by_cases hik:i=k
 ·subst hik;rw [List.getElem_set_self] at hu;have uA:j<(e.cells l[i]).length:=by rw [e.len];exact hj
  have h0:=hc i hi j _ (List.getElem?_eq_getElem uA);have h1:=Rg us w b (o+i * e.sz+off) (o+i * e.sz+j) _ sX h0;rw [h1];by_cases hr:off<=j/\j<off+us.length
  ·rw [dif_pos Bl];have h2:=cP (j - off) Bl;rw [show off+(j - off)=j from Bl,hu] at h2;have h3:o+i * e.sz+j - (o+i * e.sz+off)=j - off:=Bl;simp only [h3];exact h2.symm
  ·rw [dif_neg Bl];have h2:=fN j hj Bl;rw [hu,List.getElem?_eq_getElem uA] at h2;exact h2.symm
 ·rw [List.getElem_set_ne Bl] at hu;have h0:=hc i hi j u hu;have h1:=Rg us w b (o+k * e.sz+off) (o+i * e.sz+j) _ sX h0;rw [h1,dif_neg];intro hh;rcases Nat.lt_or_gt_of_ne hik with h | h
  ·have:(i+1) * e.sz<=k * e.sz:=Nat.mul_le_mul_right _ h;rw [Nat.succ_mul] at this;omega
  ·have:(k+1) * e.sz<=i * e.sz:=Nat.mul_le_mul_right _ h;rw [Nat.succ_mul] at this;omega
theorem Rd.same {α:Type} {e:Enc α} {w:World} {B:Nat} {v:Value} {l:List α} (h:Rd e w B v l) (k:Nat) (hk:k<l.length) (y:α) (hy:e.cells y=e.cells l[k]):Rd e w B v (l.set k y):=by
 obtain ⟨A,c,rfl,cI,hA⟩:=h;refine ⟨A,c,by rw [Bh],by rw [Bh];exact cI,fun hl=>?_⟩;rw [Bh] at hl;obtain ⟨b,o,hb,aA,hc⟩:=hA hl;refine ⟨b,o,hb,aA,fun i aR j u hu=>?_⟩;have hi:i<l.length:=by rw [Bh] at aR;exact aR
 refine hc i hi j u ?_;by_cases hik:k=i
 ·subst hik;rw [List.getElem_set_self,hy] at hu;exact hu
 ·rw [List.getElem_set_ne hik] at hu;exact hu
structure Dt (α:Type) where
 S:Type
 enc:Enc (α×S)
 rd:World->Nat->α->S->Prop
 ow:World->List Nat->α->S->Prop
 rd_keep:∀ {w w':World} {B B':Nat} {x:α} {s:S},rd w B x s->B<=B'->(∀ p:Addr,p.block<B->w'.cell? p=w.cell? p)->rd w' B' x s
 ow_keep:∀ {w w':World} {F:List Nat} {x:α} {s:S},ow w F x s->w.heap.size<=w'.heap.size->(∀ b∈F,w'.heap[b]? = w.heap[b]?)->ow w' F x s
 ow_lt:∀ {w:World} {F:List Nat} {x:α} {s:S},ow w F x s -> ∀ b∈F,b<w
 ow_rd:∀ {w:World} {F:List Nat} {x:α} {s:S},ow w F x s->rd w w x s
 ow_nodup:∀ {w:World} {F:List Nat} {x:α} {s:S},ow w F x s->F.Nodup
section
variable {α:Type} {d:Dt α} {w w':World} {B B':Nat} {v:Value} {l:List α} {F G:List Nat}
def RdL (d:Dt α) (w:World) (B:Nat) (v:Value) (l:List α):Prop:=∃ rs:List (α×d.S),rs.map (·.1)=l/\Rd d.enc w B v rs /\ ∀ r∈rs,d.rd w B r.1 r.2
theorem RdL.keep (h:RdL d w B v l) (hB:B<=B') (hk:∀ p:Addr,p.block<B->w'.cell? p=w.cell? p):RdL d w' B' v l:=by
 obtain ⟨rs,hm,hr,ha⟩:=h;exact ⟨rs,hm,(hr.keep hk).more hB,fun r hx=>d.rd_keep (ha r hx) hB hk⟩
theorem RdL.below (h:RdL d w B v l) (hb:Below B w w'):RdL d w' B v l:=h.keep (Bs _) fun _ hp=>hb.cell hp
theorem RdL.more (h:RdL d w B v l) (hB:B<=B'):RdL d w B' v l:=h.keep hB fun _ _=>rfl
theorem RdL.form (h:RdL d w B v l):∃ A c,v = Aa A l.length c/\l.length<=c:=by
 obtain ⟨rs,rfl,⟨A,c,hv,hc,_⟩,_⟩:=h;exact ⟨A,c,by rw [Ar];exact hv,by rw [Ar];exact hc⟩
theorem RdL.at_ {A:Option Addr} {n c:Nat} (h:RdL d w B (Aa A n c) l) (k:Nat) (hk:k<l.length):∃ b o s,A=Ac ⟨b,o,Ab⟩/\b<B /\
  (∀ j u,(d.enc.cells (l[k],s))[j]? = Ac u->w.cell? ⟨b,o+k * d.enc.sz+j,Ab⟩=Ac u)/\d.rd w B l[k] s:=by
 obtain ⟨rs,rfl,⟨A',c',hv,_,hA⟩,ha⟩:=h;simp only [Value.slice.injEq] at hv;obtain ⟨rfl,_,_⟩:=hv;rw [Ar] at hk;obtain ⟨b,o,cC,hb,hc⟩:=hA Bl;have e:(rs.map (·.1))[k]'(by rw [Ar];exact hk)=rs[k].1:=by rw [List.getElem_map]
 refine ⟨b,o,rs[k].2,cC,hb,fun j u hu=>?_,?_⟩
 ·rw [e] at hu;exact hc k hk j u hu
 ·rw [e];exact ha _ (Aw hk)
inductive Ows (d:Dt α) (w:World):List Nat->List (α×d.S)->Prop
 | nil:Ows d w [] []
 | cons {F G:List Nat} {r:α×d.S} {rs:List (α×d.S)} : d.ow w F r.1 r.2->Ows d w G rs->Ows d w (F ++ G) (r :: rs)
theorem Ows.keep {rs:List (α×d.S)} (h:Ows d w F rs) (hs:w.heap.size<=w'.heap.size) (hk:∀ b∈F,w'.heap[b]? = w.heap[b]?):Ows d w' F rs:=by
 induction h with
 | nil=>exact .nil
 | cons h1 _ ih=>exact .cons (d.ow_keep h1 hs fun b hb=>hk b (Bf _ hb)) (ih fun b hb=>hk b (Be _ hb))
theorem Ows.lt {rs:List (α×d.S)} (h:Ows d w F rs):∀ b∈F,b<w:=by
 induction h with
 | nil=>intro b hb;cases hb
 | cons h1 _ ih =>
  intro b hb;rcases Bi.1 hb with hb | hb
  ·exact d.ow_lt h1 b hb
  ·exact ih b hb
theorem Ows.rd {rs:List (α×d.S)} (h:Ows d w F rs):∀ r∈rs,d.rd w w r.1 r.2:=by
 induction h with
 | nil=>intro r hr;cases hr
 | cons h1 _ ih =>
  intro r hr;rcases List.mem_cons.1 hr with rfl | hr
  ·exact d.ow_rd h1
  ·exact ih r hr
theorem Ows.append {rs ts:List (α×d.S)} (h:Ows d w F rs) (k:Ows d w G ts):Ows d w (F ++ G) (rs ++ ts):=by
 induction h with
 | nil=>exact k
 | cons h1 _ ih =>
  rw [List.append_assoc];exact .cons h1 ih
theorem Ows.one {r:α×d.S} (h:d.ow w F r.1 r.2):Ows d w F [r]:=by
 have:=Ows.cons h (Ows.nil (d:=d) (w:=w))
 rwa [List.append_nil] at this
theorem Ows.split {rs:List (α×d.S)} (h:Ows d w F rs) (k:Nat) (hk:k<=rs.length):∃ F1 F2,F=F1 ++ F2/\Ows d w F1 (rs.take k)/\Ows d w F2 (rs.drop k):=by
 induction h generalizing k with
 | nil=>exact ⟨[],[],rfl,by simpa using Ows.nil,by simpa using Ows.nil⟩
 | @cons F G r rs h1 h2 ih =>
  cases k with
  | zero=>exact ⟨[],F ++ G,rfl,by simpa using Ows.nil,by simpa using Ows.cons h1 h2⟩
  | succ k =>
   obtain ⟨F1,F2,rfl,h3,h4⟩:=ih k (by simpa using hk);exact ⟨F ++ F1,F2,by rw [List.append_assoc],by simpa using Ows.cons h1 h3,by simpa using h4⟩
theorem Ows.head {r:α×d.S} {rs:List (α×d.S)} (h:Ows d w F (r :: rs)):∃ F1 F2,F=F1 ++ F2/\d.ow w F1 r.1 r.2/\Ows d w F2 rs:=by
 cases h with
 | cons h1 h2=>exact ⟨_,_,rfl,h1,h2⟩
def OwL (d:Dt α) (w:World) (F:List Nat) (v:Value) (l:List α):Prop :=
 ∃ (rs:List (α×d.S)) (H G:List Nat),rs.map (·.1)=l/\Hw d.enc w H v rs/\Ows d w G rs/\F=H ++ G/\F.Nodup
theorem OwL.keep (h:OwL d w F v l) (hs:w.heap.size<=w'.heap.size) (hk:∀ b∈F,w'.heap[b]? = w.heap[b]?):OwL d w' F v l:=by
 obtain ⟨rs,H,G,hm,hh,ho,rfl,hn⟩:=h;exact ⟨rs,H,G,hm,hh.keep hs fun b hb=>hk b (Bf _ hb),ho.keep hs fun b hb=>hk b (Be _ hb),rfl,hn⟩
theorem OwL.lt (h:OwL d w F v l):∀ b∈F,b<w:=by
 obtain ⟨rs,H,G,hm,hh,ho,rfl,hn⟩:=h;intro b hb;rcases Bi.1 hb with hb | hb
 ·exact hh.lt b hb
 ·exact ho.lt b hb
theorem OwL.nodup (h:OwL d w F v l):F.Nodup:=by
 obtain ⟨rs,H,G,hm,hh,ho,rfl,hn⟩:=h;exact hn
theorem OwL.rd (h:OwL d w F v l):RdL d w w v l:=by
 obtain ⟨rs,H,G,hm,hh,ho,rfl,hn⟩:=h;exact ⟨rs,hm,hh.rd,ho.rd⟩
theorem OwL.chg (h:OwL d w F v l) (hc:Chg G w w') (hd:∀ b∈F,b∉G):OwL d w' F v l:=h.keep hc.size fun b hb=>hc.block b (h.lt b hb) (hd b hb)
theorem OwL.below (h:OwL d w F v l) (hb:Below w w w'):OwL d w' F v l:=h.keep hb.size fun b hF=>hb.block b (h.lt b hF)
theorem OwL.nil (d:Dt α) (w:World) (A:Option Addr) (c:Nat):OwL d w [] (Aa A 0 c) []:=⟨[],[],[],rfl,Hw.nil _ _ _ _,.nil,rfl,List.nodup_nil⟩
theorem OwL.form (h:OwL d w F v l):∃ A c,v = Aa A l.length c/\l.length<=c:=h.rd.form
@[reducible] def Dt.list (d:Dt α):Dt (List α) where
 S:=Sl
 enc:={ cells:=fun p=>[p.2.v],sz:=1,len:=fun _=>rfl,one:=fun p u hu=>by simp at hu;subst hu;rfl }
 rd w B l s:=RdL d w B s.v l
 ow w F l s:=OwL d w F s.v l
 rd_keep h hB hk:=h.keep hB hk
 ow_keep h hs hk:=h.keep hs hk
 ow_lt h:=h.lt
 ow_rd h:=h.rd
 ow_nodup h:=h.nodup
@[reducible] def Dt.flats (e:Enc α):Dt (List α) where
 S:=Sl
 enc:={ cells:=fun p=>[p.2.v],sz:=1,len:=fun _=>rfl,one:=fun p u hu=>by simp at hu;subst hu;rfl }
 rd w B l s:=Rd e w B s.v l
 ow w F l s:=Hw e w F s.v l
 rd_keep h hB hk:=(h.keep hk).more hB
 ow_keep h hs hk:=h.keep hs hk
 ow_lt h:=h.lt
 ow_rd h:=h.rd
 ow_nodup h:=h.nodup
@[reducible] def Dt.flat {β:Type} (cells:β×Unit->List Value) (sz:Nat) (len:∀ x,(cells x).length=sz) (one:∀ x,∀ u∈cells x,u.oneCell'=true):Dt β where
 S:=Unit
 enc:={ cells:=cells,sz:=sz,len:=len,one:=one }
 rd _ _ _ _:=True
 ow _ F _ _:=F=[]
 rd_keep _ _ _:=trivial
 ow_keep h _ _:=h
 ow_lt h:=by subst h;intro b hb;cases hb
 ow_rd _:=trivial
 ow_nodup h:=by subst h;exact List.nodup_nil
@[reducible] def Dt.via {β:Type} (d:Dt α) (f:β->α) (cells:β×d.S->List Value) (sz:Nat) (len:∀ x,(cells x).length=sz) (one:∀ x,∀ u∈cells x,u.oneCell'=true):Dt β where
 S:=d.S
 enc:={ cells:=cells,sz:=sz,len:=len,one:=one }
 rd w B x s:=d.rd w B (f x) s
 ow w F x s:=d.ow w F (f x) s
 rd_keep h hB hk:=d.rd_keep h hB hk
 ow_keep h hs hk:=d.ow_keep h hs hk
 ow_lt h:=d.ow_lt h
 ow_rd h:=d.ow_rd h
 ow_nodup h:=d.ow_nodup h
@[reducible] def Dt.two {β γ:Type} (d:Dt α) (d':Dt γ) (f:β->α) (g:β->γ) (cells:β×(d.S×d'.S)->List Value) (sz:Nat) (len:∀ x,(cells x).length=sz) (one:∀ x,∀ u∈cells x,u.oneCell'=true):Dt β where
 S:=d.S×d'.S
 enc:={ cells:=cells,sz:=sz,len:=len,one:=one }
 rd w B x s:=d.rd w B (f x) s.1/\d'.rd w B (g x) s.2
 ow w F x s:=∃ F1 F2,F=F1 ++ F2/\F.Nodup/\d.ow w F1 (f x) s.1/\d'.ow w F2 (g x) s.2
 rd_keep h hB hk:=⟨d.rd_keep h.1 hB hk,d'.rd_keep h.2 hB hk⟩
 ow_keep:=fun ⟨F1,F2,hF,hn,h1,h2⟩ hs hk=>⟨F1,F2,hF,hn,d.ow_keep h1 hs fun b hb=>hk b (by rw [hF];exact Bf _ hb),d'.ow_keep h2 hs fun b hb=>hk b (by rw [hF];exact Be _ hb)⟩
 ow_lt:=fun ⟨F1,F2,hF,hn,h1,h2⟩ b hb=>by
  rw [hF] at hb
  rcases Bi.1 hb with hb | hb
  ·exact d.ow_lt h1 b hb
  ·exact d'.ow_lt h2 b hb
 ow_rd:=fun ⟨F1,F2,hF,hn,h1,h2⟩=>⟨d.ow_rd h1,d'.ow_rd h2⟩
 ow_nodup:=fun ⟨F1,F2,hF,hn,h1,h2⟩=>hn
theorem Dt.ow_chg (d:Dt α) {x:α} {s:d.S} (h:d.ow w F x s) (hc:Chg G w w') (hd:∀ b∈F,b∉G):d.ow w' F x s:=d.ow_keep h hc.size fun b hb=>hc.block b (d.ow_lt h b hb) (hd b hb)
theorem Dt.ow_below (d:Dt α) {x:α} {s:d.S} (h:d.ow w F x s) (hb:Below w w w'):d.ow w' F x s:=d.ow_keep h hb.size fun b hF=>hb.block b (d.ow_lt h b hF)
theorem Dt.rd_below (d:Dt α) {x:α} {s:d.S} (h:d.rd w B x s) (hb:Below B w w'):d.rd w' B x s:=d.rd_keep h (Bs _) fun _ hp=>hb.cell hp
theorem Dt.rd_more (d:Dt α) {x:α} {s:d.S} (h:d.rd w B x s) (hB:B<=B'):d.rd w B' x s:=d.rd_keep h hB fun _ _=>rfl
def Df (d:Dt α) (val:α->d.S->Value) (x:α) (w:World) (e:Ending) (w':World):Prop :=
 ∃ s F,e = .returned (val x s)/\d.ow w' F x s/\(∀ b∈F,w<=b)/\Below w w w'
end
section
variable {α:Type} {d:Dt α} {w w':World} {v:Value} {l:List α} {F G:List Nat}
theorem Dt.ow_set (d:Dt α) {x:α} {s:d.S} (h:d.ow w F x s) {a:Addr} (ha:a.block∉F) (u:Value):d.ow (w.setCell a u) F x s :=
 d.ow_keep h (by simp [World.setCell]) fun b hb=>Below.heap_setCell w a u b (fun e=>ha (by rw [<-e];exact hb))
theorem OwL.set (h:OwL d w F v l) {a:Addr} (ha:a.block∉F) (u:Value):OwL d (w.setCell a u) F v l :=
 h.keep (by simp [World.setCell]) fun b hb=>Below.heap_setCell w a u b (fun e=>ha (by rw [<-e];exact hb))
theorem Hw.set {e:Enc α} (h:Hw e w F v l) {a:Addr} (ha:a.block∉F) (u:Value):Hw e (w.setCell a u) F v l :=
 h.keep (by simp [World.setCell]) fun b hb=>Below.heap_setCell w a u b (fun e=>ha (by rw [<-e];exact hb))
theorem Ows.bel {rs:List (α×d.S)} (h:Ows d w F rs) (hb:Below w w w'):Ows d w' F rs:=h.keep hb.size fun b hF=>hb.block b (h.lt b hF)
theorem Ows.chg {rs:List (α×d.S)} (h:Ows d w F rs) (hc:Chg G w w') (hd:∀ b∈F,b∉G):Ows d w' F rs:=h.keep hc.size fun b hb=>hc.block b (h.lt b hb) (hd b hb)
end
theorem Ht (v:Value) (n:Nat):∀ b∈Ek v n,v.ownBlock=Ac b:=by
 intro b hb;unfold Ek at hb;split at hb
 ·cases hb
 ·cases h:v.ownBlock with
  | none=>rw [h] at hb;cases hb
  | some g =>
   rw [h] at hb;simp at hb;rw [hb]
section
variable {α:Type} {d:Dt α} {E:TypeId} {w w1 w':World} {base:Nat} {v:Value} {rs:List (α×d.S)}
def Bld (d:Dt α) (E:TypeId) (w:World) (base:Nat) (v:Value) (rs:List (α×d.S)):Prop :=
 ∃ G,Ow d.enc E w base v rs/\Ows d w G rs/\G.Nodup /\ ∀ b∈G,base<=b/\v.ownBlock≠Ac b
theorem Bld.nil (d:Dt α) (E:TypeId) (w:World) (base:Nat):Bld d E w base (Aa Ab 0 0) []:=⟨[],Ow.nil _ _ _ _,.nil,List.nodup_nil,fun _ h=>by cases h⟩
theorem Bld.of_empty {v:Value} (h:Ow d.enc E w base v []):Bld d E w base v []:=⟨[],h,.nil,List.nodup_nil,fun _ h=>by cases h⟩
theorem Bld.below (h:Bld d E w base v rs) (hb:Below w w w'):Bld d E w' base v rs:=by
 obtain ⟨G,h1,h2,h3,h4⟩:=h;exact ⟨G,h1.below hb,h2.bel hb,h3,h4⟩
theorem Bld.ow (h:Bld d E w base v rs):Ow d.enc E w base v rs:=by
 obtain ⟨G,h1,_⟩:=h;exact h1
theorem Bld.rd (h:Bld d E w base v rs):RdL d w w v (rs.map (·.1)):=by
 obtain ⟨G,h1,h2,_⟩:=h;exact ⟨rs,rfl,Rd.of_own h1,h2.rd⟩
theorem Bld.push {v3:Value} {w3:World} {ts:List (α×d.S)} {F:List Nat} (h:Bld d E w base v rs) (hb:Below w w w1) (ht:Ows d w1 F ts) (hF:∀ b∈F,w<=b) (hn:F.Nodup) (bE:base<=w.heap.size)
  (ho:Ow d.enc E w3 base v3 (rs ++ ts)) (hg:w1.grownBy w3 v.ownBlock) (hv:v3.ownBlock=v.ownBlock \/ ∃ g,v3.ownBlock=Ac g/\w1.heap.size<=g):Bld d E w3 base v3 (rs ++ ts):=by
 obtain ⟨G,h1,h2,h3,h4⟩:=h;have hG:∀ b∈G,b<w:=h2.lt;have cE:∀ b∈F,b<w1:=ht.lt;have uB:∀ b∈F,v.ownBlock≠Ac b:=fun b hb he=>by
  rcases h1.form with ⟨rfl,_⟩ | ⟨g,cap,rfl,_,aA,_⟩
  ·simp [Value.ownBlock] at he
  ·have:g=b:=by simpa [Value.ownBlock] using he
   have:=hF b hb
   omega
 have hs:=hb.size;refine ⟨G ++ F,ho,?_,?_,?_⟩
 ·refine Ows.append ((h2.bel hb).keep hg.size fun b hbG=>hg.block b (by have:=hG b hbG;omega) ?_) (ht.keep hg.size fun b dA=>hg.block b (cE b dA) ?_)
  ·exact fun e=>(h4 b hbG).2 e.symm
  ·exact fun e=>uB b dA e.symm
 ·rw [Ax];refine ⟨h3,hn,fun a ha b aV e=>?_⟩
  have:=hG a ha
  have:=hF b aV
  omega
 ·intro b hbm;rcases Bi.1 hbm with hbm | hbm
  ·refine ⟨(h4 b hbm).1,?_⟩;rcases hv with hv | ⟨g,hv,aA⟩
   ·rw [hv];exact (h4 b hbm).2
   ·rw [hv];intro e
    have:=hG b hbm
    injection e with e
    omega
  ·refine ⟨by have:=hF b hbm;omega,?_⟩;rcases hv with hv | ⟨g,hv,aA⟩
   ·rw [hv];exact uB b hbm
   ·rw [hv];intro e
    have:=cE b hbm
    injection e with e
    omega
theorem Bld.owl (h:Bld d E w base v rs) {l:List α} (hl:rs.map (·.1)=l):∃ F,OwL d w F v l /\ ∀ b∈F,base<=b:=by
 obtain ⟨G,h1,h2,h3,h4⟩:=h;obtain ⟨h5,h6⟩:=Hw.of_ow h1;refine ⟨_,⟨rs,_,G,hl,h5,h2,rfl,?_⟩,?_⟩
 ·rw [Ax];refine ⟨Jw _ _,h3,fun a ha b hb e=>?_⟩;subst e;exact (h4 a hb).2 (Ht _ _ _ ha)
 ·intro b hb;rcases Bi.1 hb with hb | hb
  ·exact h6 b hb
  ·exact (h4 b hb).1
theorem Bld.lay {g:Nat} {rs:List (α×d.S)} {w2:World} {F G:List Nat} {r:α×d.S} (h1:Ows d w G rs) (h3:G.Nodup) (h4:∀ b∈G,g<b) (hb:Below w w w1) (hr:d.ow w1 F r.1 r.2) (hF:∀ b∈F,w<=b) (hg:g<w)
  (qB:w1.grownBy w2 (Ac g)):Ows d w2 (G ++ F) (rs ++ [r])/\(G ++ F).Nodup /\ ∀ b∈G ++ F,g<b:=by
 have hG:∀ b∈G,b<w:=h1.lt;have hs:=hb.size;refine ⟨Ows.append ((h1.bel hb).keep qB.size fun b hbG=>qB.block b (by have:=hG b hbG;omega) ?_) ((Ows.one hr).keep qB.size fun b dA=>qB.block b (d.ow_lt hr b dA) ?_),?_,?_⟩
 ·intro e
  have:=h4 b hbG
  injection e with e
  omega
 ·intro e
  have:=hF b dA
  injection e with e
  omega
 ·rw [Ax];refine ⟨h3,d.ow_nodup hr,fun a ha b aV e=>?_⟩
  have:=hG a ha
  have:=hF b aV
  omega
 ·intro b hbm;rcases Bi.1 hbm with hbm | hbm
  ·exact h4 b hbm
  ·have:=hF b hbm
   omega
end
theorem Jy {F G:List Nat} {a b c d:Nat} (h:∀ x∈F,a<=x/\x<b) (k:∀ x∈G,c<=x/\x<d) (aC:b<=c\/d<=a):∀ x∈F,x∉G:=by
 intro x hx hy
 have:=h x hx
 have:=k x hy
 omega
theorem J9 {F:List Nat} {a b:Nat} (h:∀ x∈F,a<=x) (k:∀ x∈F,x<b):∀ x∈F,a<=x/\x<b:=fun x hx=>⟨h x hx,k x hx⟩
abbrev slV {α:Type} (_:α) (s:Sl):Value:=.slice s.a s.n s.c
section
variable {α:Type} {d:Dt α} {w w':World} {b o n c j:Nat} {rs:List (α×d.S)} {G1 Fx G2:List Nat} {x y:α} {s:d.S}
structure Foc (d:Dt α) (w:World) (b o n c:Nat) (rs:List (α×d.S)) (j:Nat) (G1 Fx G2:List Nat) (x:α) (s:d.S):Prop where
 rd:Rd d.enc w w (.slice (some ⟨b,o,none⟩) n c) (rs.set j (x,s))
 free:∀ i,w.frozen? ⟨b,i,none⟩=false
 left:Ows d w G1 (rs.take j)
 here:d.ow w Fx x s
 right:Ows d w G2 (rs.drop (j+1))
 lt:j<rs.length
 nodup:([b] ++ (G1 ++ (Fx ++ G2))).Nodup
 blk:b<w
theorem Foc.apart (h:Foc d w b o n c rs j G1 Fx G2 x s):(b∉G1/\b∉Fx/\b∉G2)/\(∀ a∈G1,a∉Fx)/\(∀ a∈G2,a∉Fx):=by
 have h1:=h.nodup;simp only [List.cons_append,List.nil_append,List.nodup_cons,Bi,not_or,Ax] at h1;obtain ⟨⟨a1,a2,a3⟩,_,⟨_,_,a4⟩,a5⟩:=h1;exact ⟨⟨a1,a2,a3⟩,fun a ha hx=>a5 a ha a (.inl hx) rfl,fun a ha hx=>a4 a hx a ha rfl⟩
theorem Foc.cells (h:Foc d w b o n c rs j G1 Fx G2 x s):∀ i u,(d.enc.cells (x,s))[i]? = Ac u->w.cell? ⟨b,o+j * d.enc.sz+i,Ab⟩=Ac u:=by
 intro i u hu;obtain ⟨A',c',hv,_,hA⟩:=h.rd;simp only [Value.slice.injEq] at hv;obtain ⟨rfl,_,_⟩:=hv;have hl:j<(rs.set j (x,s)).length:=by rw [Bh];exact h.lt
 obtain ⟨b',o',he,_,hc⟩:=hA Bl;simp only [Option.some.injEq,Addr.mk.injEq,and_true] at he;obtain ⟨rfl,rfl⟩:=he;exact hc j hl i u (by rw [List.getElem_set_self];exact hu)
theorem Foc.put (h:Foc d w b o n c rs j G1 Fx G2 x s) (y:α) (off:Nat) (us:List Value) (hoff:off+us.length<=d.enc.sz)
  (cP:∀ i (hi:i<us.length),(d.enc.cells (y,s))[off+i]? = Ac us[i]) (fN:∀ i,i<d.enc.sz->(i<off\/off+us.length<=i)->(d.enc.cells (y,s))[i]? = (d.enc.cells (x,s))[i]?)
  (hy:∀ W,d.ow W Fx x s->d.ow W Fx y s):Foc d (Hz w b (o+j * d.enc.sz+off) us) b o n c rs j G1 Fx G2 y s/\Chg [b] w (Hz w b (o+j * d.enc.sz+off) us):=by
 have hc:=Iv us w b (o+j * d.enc.sz+off);obtain ⟨⟨a1,a2,a3⟩,_,_⟩:=h.apart;refine ⟨⟨?_,fun i=>by rw [Iw];exact h.free i,h.left.chg hc ?_,hy _ (Dt.ow_chg d h.here hc ?_),h.right.chg hc ?_,h.lt,h.nodup,by rw [Jq];exact h.blk⟩,hc⟩
 ·have hl:j<(rs.set j (x,s)).length:=by rw [Bh];exact h.lt
  have:=h.rd.part j hl (y,s) off us hoff cP (by rw [List.getElem_set_self];exact fN)
  rw [List.set_set] at this;rw [Jq];exact this
 all_goals
  intro x hx hb;simp only [Au] at hb;subst hb;first | exact a1 hx | exact a2 hx | exact a3 hx
theorem Foc.sub (h:Foc d w b o n c rs j G1 Fx G2 x s) (hc:Chg Fx w w') (hy:d.ow w' Fx y s) (hcells:d.enc.cells (y,s)=d.enc.cells (x,s)):Foc d w' b o n c rs j G1 Fx G2 y s:=by
 obtain ⟨⟨a1,a2,a3⟩,a4,a5⟩:=h.apart;refine ⟨?_,fun i=>by rw [hc.frozen (p:=⟨b,i,Ab⟩) h.blk a2];exact h.free i,h.left.chg hc a4,hy,h.right.chg hc a5,h.lt,h.nodup,Ai h.blk hc.size⟩;have hl:j<(rs.set j (x,s)).length:=by rw [Bh];exact h.lt
 have h1:=h.rd.keepF (w':=w') hc.size (fun b' aV i=>by
  have:=Ht _ _ _ aV
  have:b=b':=by simpa [Value.ownBlock] using this
  subst this;exact hc.cell (p:=⟨b,i,Ab⟩) h.blk a2)
 have h2:=h1.same j hl (y,s) (by rw [List.getElem_set_self];exact hcells);rwa [List.set_set] at h2
theorem Foc.start {F1 F2:List Nat} (hr:Rd d.enc w w (Aa (Ac ⟨b,o,Ab⟩) n c) rs) (hf:∀ i,w.frozen? ⟨b,i,Ab⟩=false) (h1:Ows d w F1 (rs.take j)) (h2:Ows d w F2 (rs.drop j)) (hj:j<rs.length) (hn:([b] ++ (F1 ++ F2)).Nodup) (hb:b<w) :
  ∃ Fx G2,F2=Fx ++ G2/\Foc d w b o n c rs j F1 Fx G2 rs[j].1 rs[j].2:=by
 rw [<-List.getElem_cons_drop hj] at h2;obtain ⟨Fx,G2,rfl,h3,h4⟩:=h2.head;refine ⟨Fx,G2,rfl,⟨?_,hf,h1,h3,h4,hj,hn,hb⟩⟩;have:rs.set j (rs[j].1,rs[j].2)=rs:=List.set_getElem_self hj;rw [this];exact hr
end
theorem OwL.foc {α:Type} {d:Dt α} {w:World} {F:List Nat} {A:Option Addr} {n c:Nat} {l:List α} (h:OwL d w F (Aa A n c) l) {j:Nat} (hj:j<l.length) :
  ∃ (b o:Nat) (rs:List (α×d.S)) (s:d.S) (G1 Fx G2:List Nat),A=Ac ⟨b,o,Ab⟩/\F=[b] ++ (G1 ++ (Fx ++ G2))/\rs.map (·.1)=l/\Foc d w b o n c rs j G1 Fx G2 l[j] s:=by
 obtain ⟨rs,H,G,hm,hh,ho,rfl,hn⟩:=h;subst hm;rw [Ar] at hj;obtain ⟨b,o,rfl,rfl,hb,hf⟩:=hh.at_ Bl;obtain ⟨F1,F2,rfl,h1,h2⟩:=ho.split j (Nat.le_of_lt hj);obtain ⟨Fx,G2,rfl,h3⟩:=Foc.start hh.rd hf h1 h2 hj hn hb;refine ⟨b,o,rs,rs[j].2,F1,Fx,G2,rfl,rfl,rfl,?_⟩;rw [List.getElem_map];exact h3
theorem Foc.owl {α:Type} {d:Dt α} {w:World} {b o n c j:Nat} {rs:List (α×d.S)} {G1 Fx G2:List Nat} {x:α} {s:d.S} {l:List α} (h:Foc d w b o n c rs j G1 Fx G2 x s) (hm:rs.map (·.1)=l) :
  OwL d w ([b] ++ (G1 ++ (Fx ++ G2))) (Aa (Ac ⟨b,o,Ab⟩) n c) (l.set j x):=by
 refine ⟨rs.set j (x,s),[b],G1 ++ (Fx ++ G2),by rw [List.map_set,hm],⟨h.rd,?_,?_⟩,?_,rfl,h.nodup⟩
 ·unfold Ek;rw [if_neg (by rw [Bh];have:=h.lt;omega)];rfl
 ·intro g hg i;have:g=b:=by simpa using hg
  subst this;exact h.free i
 ·have e:rs.set j (x,s)=rs.take j ++ (x,s) :: rs.drop (j+1):=by rw [List.set_eq_take_append_cons_drop,if_pos h.lt]
  rw [e];exact h.left.append (.cons h.here h.right)
theorem Nd {b x:Nat} {G:List Nat} (h:x∈[b]):x∈[b] ++ G:=Bf _ h
theorem Ql {b x:Nat} {G1 Fx G2:List Nat} (h:x∈Fx):x∈[b] ++ (G1 ++ (Fx ++ G2)):=Be _ (Be _ (Bf _ h))
theorem N5 {F G:List Nat} (h:(F ++ G).Nodup):(∀ x∈F,x∉G)/\(∀ x∈G,x∉F):=by
 rw [Ax] at h;exact ⟨fun x hx hy=>h.2.2 x hx x hy rfl,fun x hx hy=>h.2.2 x hy x hx rfl⟩
theorem Mv {α:Type} (rs:List α) (z:α) (k n:Nat) {y:α} (h:rs.length=k) (aA:k<n):(rs ++ List.replicate (n - k) z).set k y=(rs ++ [y]) ++ List.replicate (n - (k+1)) z:=by
 rw [List.set_append_right _ _ Bl,h,Nat.sub_self,show n - k=(n - (k+1))+1 from Bl,List.replicate_succ,List.set_cons_zero,List.append_assoc,List.singleton_append]
def N6 {α:Type} (d:Dt α) (F:List Nat) (y:α) (s:d.S) (r:Int) (w:World) (en:Ending) (w':World):Prop:=en = .returned (J U r)/\d.ow w' F y s/\Chg F w w'
def D8 {α:Type} (cnt:α->Nat) (l:List α):Nat:=l.length+(l.map cnt).sum
theorem C9 {α:Type} {cnt:α->Nat} : ∀ {l:List α} {x:α},x∈l->cnt x+1<=D8 cnt l
 | y :: l,x,h=>by
  unfold D8;simp only [List.length_cons,List.map_cons,List.sum_cons];rcases List.mem_cons.1 h with rfl | h
  ·omega
  ·have:=C9 (cnt:=cnt) h
   unfold D8 at this;omega
theorem Cj {α:Type} (cnt:α->Nat) (l:List α):l.length<=D8 cnt l:=Nat.le_add_right _ _
theorem Em {α:Type} (f:α->Nat) (l:List α) (k:Nat) (h:k<l.length):((l.take (k+1)).map f).sum=((l.take k).map f).sum+f l[k]:=by
 rw [Cp l k h,List.map_append,List.sum_append];simp
theorem Z8 {α:Type} (f:α->Nat) (l:List α) (k:Nat):((l.take k).map f).sum<=(l.map f).sum:=by
 conv=>rhs;rw [<-List.take_append_drop k l,List.map_append,List.sum_append]
 omega
theorem Ge {α:Type} {cnt:α->Nat} (h:∀ x,cnt x=0):∀ l:List α,D8 cnt l=l.length
 | []=>rfl
 | x :: l=>by
  have:=Ge h l
  unfold D8 at *
  simp only [List.length_cons,List.map_cons,List.sum_cons,h x] at *
  omega
def wfL {α:Type} (wf:α->Prop) (l:List α):Prop:=l.length<=9223372036854775807 /\ ∀ x∈l,wf x
def Cx {α:Type} (num:α->Nat) (l:List α):Nat:=(l.map num).sum
theorem Et {α:Type} {num cnt:α->Nat} {K:Nat} (h:∀ x,num x<=K * (cnt x+1)):∀ l:List α,Cx num l<=K * D8 cnt l
 | []=>by simp [Cx]
 | x :: l=>by
  have h1:=Et h l;have h2:=h x;unfold Cx D8 at *
  simp only [List.length_cons,List.map_cons,List.sum_cons];rw [Nat.mul_add] at h1 h2 ⊢;rw [Nat.mul_succ,Nat.mul_add];omega
theorem Fo {α:Type} (num:α->Nat) (l:List α) (k:Nat):Cx num (l.take k)<=Cx num l:=Z8 num l k
def mkL {α:Type} (mk:Int->α->α) (num:α->Nat):Int->List α->List α
 | _,[]=>[]
 | k,x :: l=>mk k x :: mkL mk num (k+num x) l
section
variable {α:Type} (mk:Int->α->α) (num:α->Nat)
theorem Ep:∀ (k:Int) (l:List α),(mkL mk num k l).length=l.length
 | _,[]=>rfl
 | k,x :: l=>by simp [mkL,Ep _ l]
theorem Z9:∀ (k:Int) (l:List α) (x:α),mkL mk num k (l ++ [x])=mkL mk num k l ++ [mk (k+Cx num l) x]
 | k,[],x=>by simp [mkL,Cx]
 | k,y :: l,x=>by
  simp only [mkL,List.cons_append];rw [Z9 _ l x];have e:k+(num y:Int)+(Cx num l:Nat)=k+(Cx num (y :: l):Nat):=by
   simp only [Cx,List.map_cons,List.sum_cons];push_cast;omega
  rw [e]
theorem Kw (k:Int) (l:List α) (j:Nat) (h:j<l.length) (h':j<(mkL mk num k l).length):(mkL mk num k l)[j]=mk (k+Cx num (l.take j)) l[j]:=by
 induction l generalizing k j with
 | nil=>exact absurd h Bn
 | cons y l ih =>
  cases j with
  | zero=>simp [mkL,Cx]
  | succ j =>
   simp only [mkL,List.getElem_cons_succ,List.take_succ_cons];rw [ih (k+num y) j (by simpa using h)];congr 1;simp only [Cx,List.map_cons,List.sum_cons];push_cast;omega
theorem Ol (k:Int) (l:List α) (j:Nat) (h:j<l.length):(mkL mk num k (l.take j) ++ l.drop j).set j (mk (k+Cx num (l.take j)) l[j])=mkL mk num k (l.take (j+1)) ++ l.drop (j+1):=by
 have hl:(mkL mk num k (l.take j)).length=j:=by rw [Ep,Az,Nat.min_eq_left (Nat.le_of_lt h)]
 rw [List.set_append_right _ _ Bl,hl,Nat.sub_self,Cp l j h,Z9,List.append_assoc,<-List.getElem_cons_drop h,List.set_cons_zero,List.singleton_append]
theorem Mw (k:Int) (l:List α) (j:Nat) (h:j<l.length) {h':j<(mkL mk num k (l.take j) ++ l.drop j).length} : (mkL mk num k (l.take j) ++ l.drop j)[j]=l[j]:=by
 have hl:(mkL mk num k (l.take j)).length=j:=by rw [Ep,Az,Nat.min_eq_left (Nat.le_of_lt h)]
 rw [List.getElem_append_right Bl];simp [hl]
end
theorem Rh (p:Plan) (ve:Value) (w:World) (h:Rd G6 w w ve p.edges) (hm:Ew p=true) :
  Calls Am 176 #[Gw p ve] w fun e w'=>e = .returned (J U (Cs p))/\Below w w w':=by
 have Hm:=Bq hm;obtain ⟨t1,t2⟩:=Eh hm;have aF:=Fh hm;have hlen2:p.edges.length<=2000000:=Bl;have hlI:¬ (30:Int)<(p.edges.length:Int):=Bl;have hlB:decide ((30:Int)<(p.edges.length:Int))=false:=by simpa using hlI
 obtain ⟨A,c,rfl,-⟩:=id h;have cI:=h.cap;unfold Gw;simp only [Ew,Bool.and_eq_true] at hm;obtain ⟨⟨⟨⟨h1,-⟩,h3⟩,h4⟩,h5⟩:=hm;go_enter func176,ntmps176;go_wp2_with (go_at_call 56;refine (Co _ _ _ _).mono ?_;rintro e w' ⟨rfl,rfl⟩)
 go_loopw [40] (fun i wr=>∃ k:Nat,k<=p.edges.length/\i = J U k/\Hid (∀ j (hj:j<p.edges.length),j<k->Jb p.tasks p.edges[j]=true)/\Below (Ei 36 p (Aa A p.edges.length c) w) (Ei 36 p (Aa A p.edges.length c) w) wr) (fun i _=>p.edges.length - (intOf i).toNat);case atStart=>exact ⟨0,Ag _,rfl,fun j hj h0=>absurd h0 Bl,Br _ _⟩
 case round =>
  obtain ⟨k,hk,rfl,bL,hb⟩:=hrel;obtain ⟨x0,x1,x2,x3,x4,hs,bW⟩:=Fn hb;have bS:w.heap.size<wr.heap.size:=Bl;by_cases aA:k<p.edges.length
  ·obtain ⟨b,o,rfl,aK,c0,c1⟩:=(h.below bW).edge aA;have hba:=hb.alloc hb.size (.cells #[J U p.edges[k].fr,J U p.edges[k].to] 187);have hbwa:=bW.alloc bW.size (.cells #[J U p.edges[k].fr,J U p.edges[k].to] 187);have bad:Jb p.tasks p.edges[k]=false->Hid (Cs p=2):=fun hf=>N4 Hm.out (fun cP=>by
    rw [cP _ (Aw aA)] at hf;cases hf)
   cases g1:inB p.edges[k].fr 0 (p.tasks - 1)
   ·have H:=bad (by simp [Jb,g1]);clear bad;go_wp2_with (go_at_call 56;refine (Co _ _ _ _).mono ?_;rintro e w' ⟨rfl,rfl⟩)
    go_ret;exact ⟨C8 H.out.symm,hbwa⟩
   cases g2:inB p.edges[k].to 0 (p.tasks - 1)
   ·have H:=bad (by simp [Jb,g2]);clear bad;go_wp2_with (go_at_call 56;refine (Co _ _ _ _).mono ?_;rintro e w' ⟨rfl,rfl⟩)
    go_ret;exact ⟨C8 H.out.symm,hbwa⟩
   ·have S:Hid (∀ j (hj:j<p.edges.length),j<k+1->Jb p.tasks p.edges[j]=true):=by
     intro j hj fS;by_cases e:j=k
     ·subst e;simp [Jb,g1,g2]
     ·exact bL.out j hj Bl
    clear bad;go_wp2_with (go_at_call 56;refine (Co _ _ _ _).mono ?_;rintro e w' ⟨rfl,rfl⟩)
    exact ⟨⟨k+1,Bl,by go_num,S,hba⟩,by simp [intOf];omega⟩
  ·have cP:Hid (Hg p):=fun e he=>by
    obtain ⟨j,hj,rfl⟩:=List.getElem_of_mem he;exact bL.out j hj Bl
   clear bL hk;go_wp2;go_loopw [64] (fun i wr=>∃ k:Nat,k<=p.edges.length/\i = J U k/\Hid ((p.edges.take k).Nodup)/\Below (Ei 36 p (Aa A p.edges.length c) w) (Ei 36 p (Aa A p.edges.length c) w) wr) (fun i _=>p.edges.length - (intOf i).toNat);case atStart=>exact ⟨0,Ag _,rfl,by show (p.edges.take 0).Nodup;simp,hb⟩
   case round =>
    clear hb x0 x1 x2 x3 x4 hs bW bS;obtain ⟨k,hk,rfl,bL,hb⟩:=hrel;obtain ⟨x0,x1,x2,x3,x4,hs,bW⟩:=Fn hb;have bS:w.heap.size<wr.heap.size:=Bl;have nE:k<=c:=Bl;by_cases aA:k<p.edges.length
    ·obtain ⟨b,o,rfl,aK,c0,c1⟩:=(h.below bW).edge aA;have hba:=hb.alloc hb.size (.cells #[J U p.edges[k].fr,J U p.edges[k].to] 187);have hbwa:=bW.alloc bW.size (.cells #[J U p.edges[k].fr,J U p.edges[k].to] 187);have n0:(wr.alloc (.cells #[J U p.edges[k].fr,J U p.edges[k].to] 187)).cell? ⟨wr,0,Ab⟩=Ac (J U p.edges[k].fr):=by go_simp
     have n1:(wr.alloc (.cells #[J U p.edges[k].fr,J U p.edges[k].to] 187)).cell? ⟨wr,1,Ab⟩=Ac (J U p.edges[k].to):=by go_simp
     have x4':(wr.alloc (.cells #[J U p.edges[k].fr,J U p.edges[k].to] 187)).cell? ⟨w,4,Ab⟩=Ac (Aa (Ac ⟨b,o,Ab⟩) p.edges.length c):=by
      rw [World.cell?_alloc_lt _ _ _ (by simp;omega)];exact x4
     have z1:wr.heap.size<(wr.alloc (.cells #[J U p.edges[k].fr,J U p.edges[k].to] 187)).heap.size:=Bn;have z2:w.heap.size<(wr.alloc (.cells #[J U p.edges[k].fr,J U p.edges[k].to] 187)).heap.size:=by simp;omega
     have gR:=(Rd.take (k:=k) (c':=c) (h.below bW) Bl nE)
     have bE:Below w w (wr.alloc (.cells #[J U p.edges[k].fr,J U p.edges[k].to] 187)):=hbwa;have hrd2:Rd G6 (wr.alloc (.cells #[J U p.edges[k].fr,J U p.edges[k].to] 187)) w (Aa (Ac ⟨b,o,Ab⟩) k c) (p.edges.take k):=Rd.take (h.below bE) Bl c nE;have aZ:(p.edges.take k).length<=2000000:=by simp;omega
     clear gR;by_cases jF:p.edges[k]∈p.edges.take k
     ·have H:Hid (Cs p=3):=Nt Hm.out cP.out (fun bT=>by
       have h1:(p.edges.take (k+1)).Nodup:=bT.sublist (List.take_sublist _ _);rw [Cp _ k aA] at h1;exact (Nb.1 h1).2 jF)
      have hmb:decide (p.edges[k]∈p.edges.take k)=true:=by simpa using jF
      clear jF;go_wp2;generalize wr.alloc (.cells #[J U p.edges[k].fr,J U p.edges[k].to] 187)=W2 at *
      have aQ:=Di W2;refine Bz Bm Bm ?_;repeat (go_big_quiet_step ((go_at_call 247;rename_i x;have h1:=Mu _ (p.edges.take k) p.edges[k] x.1 aZ ((hrd2.below (x.2.mono bE.size)).more (Ah bE.size x.2.size));rw [hmb] at h1;exact Fg h1)))
      refine Ak ?_;rintro _ ⟨⟨w1,aJ⟩,rfl⟩;clear aQ;go_wp2;go_ret;exact ⟨C8 H.out.symm,Bu bE aJ⟩
     ·have S:Hid ((p.edges.take (k+1)).Nodup):=by
       show (p.edges.take (k+1)).Nodup;rw [Cp _ k aA];exact Nb.2 ⟨bL.out,jF⟩
      have hmb:decide (p.edges[k]∈p.edges.take k)=false:=by simpa using jF
      clear jF;go_wp2;generalize wr.alloc (.cells #[J U p.edges[k].fr,J U p.edges[k].to] 187)=W2 at *
      have aQ:=Di W2;refine Bz Bm Bm ?_;repeat (go_big_quiet_step ((go_at_call 247;rename_i x;have h1:=Mu _ (p.edges.take k) p.edges[k] x.1 aZ ((hrd2.below (x.2.mono bE.size)).more (Ah bE.size x.2.size));rw [hmb] at h1;exact Fg h1)))
      refine Ak ?_;rintro _ ⟨⟨w1,aJ⟩,rfl⟩;clear aQ;go_wp2;exact ⟨⟨k+1,Bl,by go_num,S,hba.trans (aJ.mono hba.size)⟩,by simp [intOf];omega⟩
    ·have bT:Hid p.edges.Nodup:=by
      have h1:=bL.out;rw [Bg Bl] at h1;exact h1
     clear bL hk nE;go_wp2_with fail
     refine (Aen p (Aa A p.edges.length c) _ Hm.out cP.out ((h.below bW).more bW.size)).mono ?_;rintro e w1 ⟨v1,rfl,o1,aJ⟩;have hbw1:=Bu bW aJ;obtain ⟨T,hT⟩:=Ap (show 0<=p.tasks by omega);have HT:=Bq hT;have mN:p.tasks.toNat=T:=Bl;rw [mN] at o1;have tI:1<=T:=Bl;have rI:T<=12:=Bl;have pI:=Pg.Ag0 (D4 p) T (by rw [<-mN];exact (Mb cP.out).1) (by rw [<-mN];exact (Mb cP.out).2);have kB:(Pg.K9 (D4 p) T (List.replicate T 0)).length=T:=by rw [Pg.Lp,List.length_replicate]
     have sU:=Bq (show Rf p ↔ ∃ t,t<T/\Pg.Reach (D4 p) t t by unfold Rf;rw [mN]);have sE:∀ x∈Pg.K9 (D4 p) T (List.replicate T 0),x<2 ^ T:=Pg.Acd T _ _ (by rw [<-mN];exact (Mb cP.out).2) (fun x hx=>by
      have:=List.eq_of_mem_replicate hx
      subst this;exact Nat.two_pow_pos T) T
     generalize Pg.K9 (D4 p) T (List.replicate T 0)=O at *
     have Hiff:=Bq pI;have HOl:=Bq kB;clear pI hT mN;rcases o1.form with ⟨_,e0⟩ | ⟨g,cap,rfl,_,sC,_,_,_,_⟩
     ·exfalso;rw [e0] at kB;simp at kB;omega
     rw [kB] at o1;rw [kB];clear kB;go_wp2;go_loop [79] (fun i=>∃ k:Nat,k<=T/\i = J U k/\Hid (∀ j,j<k->(O.getD j 0).testBit j=false)) (fun i=>T - (intOf i).toNat);case atStart=>exact ⟨0,Ag _,rfl,fun j hj=>absurd hj Bl⟩
     case round =>
      obtain ⟨k,hk,rfl,bL⟩:=hrel;by_cases aZ:k<T
      ·have ck:=o1.nat (k:=k) (by rw [HOl.out];exact aZ);have sW:k<O.length:=by rw [HOl.out];exact aZ
       have hx:O[k]<9223372036854775808:=Ai (sE _ (Aw sW)) (Ah (Nat.pow_le_pow_right Bl rI) Bp);have hbt:=Afw O[k] k hx;have hg:Hid (O.getD k 0=O[k]):=by unfold Hid;rw [List.getD_eq_getElem?_getD,List.getElem?_eq_getElem sW];rfl
       cases aG:O[k].testBit k
       ·rw [aG] at hbt;have S:Hid (∀ j,j<k+1->(O.getD j 0).testBit j=false):=by
         intro j hj;by_cases e:j=k
         ·subst e;rw [hg.out];exact aG
         ·exact bL.out j Bl
        go_wp2;exact ⟨⟨k+1,Bl,by go_num,S⟩,by simp [intOf];omega⟩
       ·rw [aG] at hbt;have H:Hid (Cs p=4):=Nu Hm.out cP.out bT.out (sU.out.2 ⟨k,aZ,(Hiff.out k k).1 (by rw [hg.out];exact aG)⟩);go_wp2;go_ret;exact ⟨C8 H.out.symm,hbw1⟩
      ·have H:Hid (Cs p=0):=Dj.2 ⟨Hm.out,cP.out,bT.out,fun hc=>by
        obtain ⟨t,ht,hr⟩:=sU.out.1 hc;have h1:=(Hiff.out t t).2 hr;rw [bL.out t Bl] at h1;cases h1⟩
       go_wp2;go_ret;exact ⟨C8 H.out.symm,hbw1⟩
theorem Ho (p:Plan) (ve:Value) (w:World) (hl:p.edges.length<=2000000) (h:Rd G6 w w ve p.edges) :
  Calls Am 176 #[Gw p ve] w fun e w'=>e = .returned (J U (Cs p))/\Below w w w':=by
 cases hm:Ew p
 ·exact P4 p ve w hl h hm
 ·exact Rh p ve w h hm
theorem Yf (p:Plan) (ve:Value) (w:World) (hl:p.edges.length<=2000000) (h:Rd G6 w w ve p.edges) :
  Calls Am 144 #[Gw p ve] w (Py p w):=by
 obtain ⟨A,c,rfl,-⟩:=id h;obtain ⟨i0,aR,aX,aW,aU⟩:=info_parts W8;have aY:∀ W,Below w w W->Rd G6 W W (Aa A p.edges.length c) p.edges:=fun W hW=>(h.below hW).more hW.size;unfold Gw;go_enter func144,ntmps144;go_wp2_with (at_builtin;refine Ch _ G6 Bp rfl (.const (Aa Ab 0 0)) (.tmp 4) rfl underlying34 aR aX aW aU rfl (v:=Aa Ab 0 0) (l:=[]) rfl (Ow.nil G6 187 _ (w+2)) rfl (aY _ (((Br _ _).alloc Bo _).alloc Bo _)) Bn Bl Bp Bn ?_;intro v1 w1 o1 g1 _;rw [List.nil_append] at o1;obtain ⟨A1,c1,rfl,-⟩:=id (Rd.of_own o1);have aJ:=(Br (w+2) _).grown g1 Bo (fun k hk=>by simp [Value.ownBlock] at hk<;>omega);clear g1;have q1:∀ b o,b<w.heap.size+2->w1.cell? ⟨b,o,Ab⟩=_:=fun b o h=>aJ.cell (p:=⟨b,o,Ab⟩) h;have q2:∀ b o,b<w.heap.size+2->w1.frozen? ⟨b,o,Ab⟩=_:=fun b o h=>aJ.frozen (p:=⟨b,o,Ab⟩) h;have hs:=aJ.size;simp only [Bj] at hs)
 have hW:Below w w w1:=Below.trans (((Br _ _).alloc Bo _).alloc Bo _) (aJ.mono Bl);refine bodyPost_ret (v:=Gw p (Aa A1 p.edges.length c1)) ?_ rfl ?_
 ·simp [Gw,results,results144,go_sem,q1]
 ·refine ⟨Aa A1 p.edges.length c1,rfl,?_,?_⟩
  ·refine Ow.more (base:=w+2) ?_ Bl;unfold Ow at o1 ⊢;repeat (first | (with_reducible exact o1) | refine ownsRow_setCell_below ?_ Bo _)
  ·repeat (first | (with_reducible exact hW) | refine Ad ?_ Bo _)
theorem Yg (p:Plan) (ve:Value) (w:World) (hl:p.edges.length<=2000000) (h:Rd G6 w w ve p.edges) :
  Calls Am 146 #[Gw p ve] w (Py p w):=by
 obtain ⟨A,c,rfl,-⟩:=id h;obtain ⟨i0,aR,aX,aW,aU⟩:=info_parts W8;have aY:∀ W,Below w w W->Rd G6 W W (Aa A p.edges.length c) p.edges:=fun W hW=>(h.below hW).more hW.size;unfold Gw;go_enter func146,ntmps146;go_wp2_with (at_builtin;refine Ch _ G6 Bp rfl (.tmp 3) (.tmp 5) rfl underlying34 aR aX aW aU rfl (v:=Aa (Ac ⟨w+1+1,0,Ab⟩) 0 0) (l:=[]) rfl ((Ow.empty G6 187 _ Bn).more (base':=w.heap.size+2) Bl) rfl (aY _ ((((Br _ _).alloc Bo _).alloc Bo _).alloc Bo _)) Bn Bl Bp Bn ?_;intro v1 w1 o1 g1 _;rw [List.nil_append] at o1;obtain ⟨A1,c1,rfl,-⟩:=id (Rd.of_own o1);have aJ:=((Br (w+2) _).alloc Bo _).grown g1 Bo (fun k hk=>by simp [Value.ownBlock] at hk<;>omega);clear g1;have q1:∀ b o,b<w.heap.size+2->w1.cell? ⟨b,o,Ab⟩=_:=fun b o h=>aJ.cell (p:=⟨b,o,Ab⟩) h;have q2:∀ b o,b<w.heap.size+2->w1.frozen? ⟨b,o,Ab⟩=_:=fun b o h=>aJ.frozen (p:=⟨b,o,Ab⟩) h;have hs:=aJ.size;simp only [Bj] at hs)
 have hW:Below w w w1:=Below.trans (((Br _ _).alloc Bo _).alloc Bo _) (aJ.mono Bl);refine bodyPost_ret (v:=Gw p (Aa A1 p.edges.length c1)) ?_ rfl ?_
 ·simp [Gw,results,results146,go_sem,q1]
 ·refine ⟨Aa A1 p.edges.length c1,rfl,?_,?_⟩
  ·refine Ow.more (base:=w+2) ?_ Bl;unfold Ow at o1 ⊢;repeat (first | (with_reducible exact o1) | refine ownsRow_setCell_below ?_ Bo _)
  ·repeat (first | (with_reducible exact hW) | refine Ad ?_ Bo _)
theorem R8 (p:Plan) (ve:Value) (w:World) (hl:p.edges.length<=2000000) (h:Rd G6 w w ve p.edges) :
  Calls Am 258 #[Gw p ve] w fun e w'=>e = .returned (.bool (!Ew p))/\Below w w w':=by
 obtain ⟨A,c,rfl,-⟩:=id h;unfold Gw;cases h1:inB p.tasks 1 12
 ·have H:=Bq (show (!Ew p)=true by simp [Ew,h1]);go_enter func258,ntmps258;go_wp2_with (go_at_call 63;refine (Cg _ _ _ _).mono ?_;rintro e w' ⟨rfl,rfl⟩)
  go_ret;exact ⟨Bw H.out.symm,Bt⟩
 by_cases h2:30<p.edges.length
 ·have H:=Bq (show (!Ew p)=true by simp [Ew,show ¬ p.edges.length<=30 by omega]);have h2':decide ((30:Int)<(p.edges.length:Int))=true:=by simp;omega
  have h2'':(30:Int)<(p.edges.length:Int):=Bl;go_enter func258,ntmps258;go_wp2_with (go_at_call 63;refine (Cg _ _ _ _).mono ?_;rintro e w' ⟨rfl,rfl⟩)
  go_ret;exact ⟨Bw H.out.symm,Bt⟩
 have h2':decide ((30:Int)<(p.edges.length:Int))=false:=by simp;omega
 have h2'':¬ (30:Int)<(p.edges.length:Int):=Bl;cases h3:inB p.prio 0 9
 ·have H:=Bq (show (!Ew p)=true by simp [Ew,h3]);go_enter func258,ntmps258;go_wp2_with (go_at_call 63;refine (Cg _ _ _ _).mono ?_;rintro e w' ⟨rfl,rfl⟩)
  go_ret;exact ⟨Bw H.out.symm,Bt⟩
 cases h4:inB p.most 1 5
 ·have H:=Bq (show (!Ew p)=true by simp [Ew,h4]);go_enter func258,ntmps258;go_wp2_with (go_at_call 63;refine (Cg _ _ _ _).mono ?_;rintro e w' ⟨rfl,rfl⟩)
  go_ret;exact ⟨Bw H.out.symm,Bt⟩
 have H:Hid ((!inB p.wait 1 20) = !Ew p):=by
  show (!inB p.wait 1 20) = !Ew p;simp [Ew,h1,h3,h4,show p.edges.length<=30 by omega]
 go_enter func258,ntmps258;go_wp2_with (go_at_call 63;refine (Cg _ _ _ _).mono ?_;rintro e w' ⟨rfl,rfl⟩)
 go_ret;exact ⟨Bw H.out,Bt⟩
theorem Jz (p:Plan) (ve:Value) (w:World) (hl:p.edges.length<=2000000) (h:Rd G6 w w ve p.edges) :
  Calls Am 201 #[Gw p ve] w fun e w'=>e = .returned (J U (Cs p))/\Below w w w':=by
 obtain ⟨A,c,rfl,-⟩:=id h;have aL:=Kv 36 p (Aa A p.edges.length c) w;cases hm:Ew p
 ·have H:=Bq (N3 hm);unfold Gw;go_enter func201,ntmps201;go_wp2_with fail
  refine (R8 p (Aa A p.edges.length c) _ hl ((h.below aL).more aL.size)).mono ?_;rintro e w1 ⟨rfl,aJ⟩;rw [hm];go_wp2;go_ret;exact ⟨C8 H.out.symm,Bu aL aJ⟩
 ·have Hm:=Bq hm;obtain ⟨t1,t2⟩:=Eh hm;have aF:=Fh hm;unfold Gw;go_enter func201,ntmps201;go_wp2_with fail
  refine (R8 p (Aa A p.edges.length c) _ hl ((h.below aL).more aL.size)).mono ?_;rintro e w1 ⟨rfl,aJ⟩;rw [hm];clear hm;go_wp2;go_loopw [3] (fun i wr=>∃ k:Nat,k<=p.edges.length/\i = J U k/\Hid (∀ j (hj:j<p.edges.length),j<k->Jb p.tasks p.edges[j]=true)/\Below (Ei 36 p (Aa A p.edges.length c) w) (Ei 36 p (Aa A p.edges.length c) w) wr) (fun i _=>p.edges.length - (intOf i).toNat);case atStart=>exact ⟨0,Ag _,rfl,fun j hj h0=>absurd h0 Bl,aJ⟩
  case round =>
   obtain ⟨k,hk,rfl,bL,hb⟩:=hrel;obtain ⟨x0,x1,x2,x3,x4,hs,bW⟩:=Fn hb;by_cases aA:k<p.edges.length
   ·obtain ⟨b,o,rfl,aK,c0,c1⟩:=(h.below bW).edge aA;have aB:(k:Int)<(p.edges.length:Int):=Bl;have aQ:=Di wr;have bS:w.heap.size<wr.heap.size:=Bl;have hbb1:b<wr:=Bl;have e1:U.wrap (p.tasks - 1)=p.tasks - 1:=IntWalk.i64_in _ Bl;have bad:Jb p.tasks p.edges[k]=false->Hid (Cs p=2):=fun hf=>N4 Hm.out (fun cP=>by
     rw [cP _ (Aw aA)] at hf;cases hf)
    cases g1:inB p.edges[k].fr 0 (p.tasks - 1)
    ·have H:=bad (by simp [Jb,g1]);clear bad;go_wp2;refine Bz Bm Bm ?_;repeat (go_big_quiet_step ((go_at_call 63;exact Ds (fun u=>Cg _ _ _ u.1))))
     refine Ak ?_;rintro _ ⟨⟨w2,aG⟩,rfl⟩;clear aQ;go_wp2;go_ret;exact ⟨C8 H.out.symm,Bu bW aG⟩
    cases g2:inB p.edges[k].to 0 (p.tasks - 1)
    ·have H:=bad (by simp [Jb,g2]);clear bad;go_wp2;refine Bz Bm Bm ?_;repeat (go_big_quiet_step ((go_at_call 63;exact Ds (fun u=>Cg _ _ _ u.1))))
     refine Ak ?_;rintro _ ⟨⟨w2,aG⟩,rfl⟩;clear aQ;go_wp2;go_ret;exact ⟨C8 H.out.symm,Bu bW aG⟩
    ·have S:Hid (∀ j (hj:j<p.edges.length),j<k+1->Jb p.tasks p.edges[j]=true):=by
      intro j hj fS;by_cases e:j=k
      ·subst e;simp [Jb,g1,g2]
      ·exact bL.out j hj Bl
     clear bad;go_wp2;refine Bz Bm Bm ?_;repeat (go_big_quiet_step ((go_at_call 63;exact Ds (fun u=>Cg _ _ _ u.1))))
     refine Ak ?_;rintro _ ⟨⟨w2,aG⟩,rfl⟩;clear aQ;go_wp2;exact ⟨⟨k+1,Bl,by go_num,S,hb.trans (aG.mono hb.size)⟩,by simp [intOf];omega⟩
   ·have cP:Hid (Hg p):=fun e he=>by
     obtain ⟨j,hj,rfl⟩:=List.getElem_of_mem he;exact bL.out j hj Bl
    have aB:¬ (k:Int)<(p.edges.length:Int):=Bl;have bS:w.heap.size<wr.heap.size:=Bl;clear bL hk aJ;go_wp2;clear aA aB;go_loopw [4] (fun i wr=>∃ k:Nat,k<=p.edges.length/\i = J U k/\Hid ((p.edges.take k).Nodup)/\Below (Ei 36 p (Aa A p.edges.length c) w) (Ei 36 p (Aa A p.edges.length c) w) wr) (fun i _=>p.edges.length - (intOf i).toNat);case atStart=>exact ⟨0,Ag _,rfl,by show (p.edges.take 0).Nodup;simp,hb⟩
    case round =>
     clear hb x0 x1 x2 x3 x4 hs bW bS;obtain ⟨k,hk,rfl,bL,hb⟩:=hrel;obtain ⟨x0,x1,x2,x3,x4,hs,bW⟩:=Fn hb;by_cases aA:k<p.edges.length
     ·have aB:(k:Int)<(p.edges.length:Int):=Bl;obtain ⟨b,o,rfl,-,-,-⟩:=(h.below bW).edge aA;obtain ⟨wo,rfl⟩:∃ wo:World,wo=wr:=⟨_,rfl⟩
      go_wp2;go_loopw [5] (fun i wr=>∃ m:Nat,m<=k/\i = J U m/\Hid (∀ j (hj:j<p.edges.length),j<m -> ¬ p.edges[k]=p.edges[j])/\Below (Ei 36 p (Aa (Ac ⟨b,o,Ab⟩) p.edges.length c) w) (Ei 36 p (Aa (Ac ⟨b,o,Ab⟩) p.edges.length c) w) wr) (fun i _=>k - (intOf i).toNat);case atStart=>exact ⟨0,Ag _,rfl,fun j hj h0=>absurd h0 Bl,hb⟩
      case round =>
       clear hb x0 x1 x2 x3 x4 hs bW;obtain ⟨m,hm,rfl,dX,hb⟩:=hrel;obtain ⟨x0,x1,x2,x3,x4,hs,bW⟩:=Fn hb;by_cases kE:m<k
       ·have pR:(m:Int)<(k:Int):=Bl;have hml:m<p.edges.length:=Bl;have hmlI:(m:Int)<(p.edges.length:Int):=Bl;obtain ⟨b1,o1,he1,-,c0,c1⟩:=(h.below bW).edge aA;obtain ⟨b2,o2,he2,-,d0,d1⟩:=(h.below bW).edge hml;simp only [Option.some.injEq,Addr.mk.injEq,and_true] at he1 he2;obtain ⟨rfl,rfl⟩:=he1;obtain ⟨rfl,rfl⟩:=he2;by_cases hx:p.edges[k]=p.edges[m]
        ·have H:Hid (Cs p=3):=Nt Hm.out cP.out (fun bT=>by
          have h1:(p.edges.take (k+1)).Nodup:=bT.sublist (List.take_sublist _ _);rw [Cp _ k aA] at h1;refine (Nb.1 h1).2 ?_;rw [hx];have:(p.edges.take k)[m]'(by simp;omega)=p.edges[m]:=List.getElem_take;rw [<-this];exact Aw _)
         have e0:p.edges[m].fr=p.edges[k].fr:=by rw [hx]
         have e1:p.edges[m].to=p.edges[k].to:=by rw [hx]
         rw [e0] at d0;rw [e1] at d1;clear hx e0 e1;go_wp2;go_quiet (fail);go_wp2;go_ret;exact ⟨C8 H.out.symm,Cm bW _⟩
        ·have S:Hid (∀ j (hj:j<p.edges.length),j<m+1 -> ¬ p.edges[k]=p.edges[j]):=by
          intro j hj hjm;by_cases e:j=m
          ·subst e;exact hx
          ·exact dX.out j hj Bl
         have dV:¬ (p.edges[k].fr=p.edges[m].fr/\p.edges[k].to=p.edges[m].to):=fun ⟨e0,e1⟩=>hx (by cases hlk:p.edges[k];cases hlm:p.edges[m];simp_all);clear hx;by_cases e0:p.edges[k].fr=p.edges[m].fr
         ·have e1:¬ p.edges[k].to=p.edges[m].to:=fun e=>dV ⟨e0,e⟩;have e1':(p.edges[k].to == p.edges[m].to)=false:=beq_eq_false_iff_ne.2 e1;rw [<-e0] at d0;clear dV e0;go_wp2;go_quiet (fail);go_wp2;exact ⟨⟨m+1,Bl,by go_num,S,Cm hb _⟩,by simp [intOf];omega⟩
         ·have e0':(p.edges[k].fr == p.edges[m].fr)=false:=beq_eq_false_iff_ne.2 e0;clear dV;go_wp2;go_quiet (fail);go_wp2;exact ⟨⟨m+1,Bl,by go_num,S,Cm hb _⟩,by simp [intOf];omega⟩
       ·have pR:¬ (m:Int)<(k:Int):=Bl;have S:Hid ((p.edges.take (k+1)).Nodup):=by
         show (p.edges.take (k+1)).Nodup;rw [Cp _ k aA];refine Nb.2 ⟨bL.out,fun jF=>?_⟩;obtain ⟨j,hj,hje⟩:=List.getElem_of_mem jF;rw [List.getElem_take] at hje;simp at hj;exact dX.out j Bl Bl hje.symm
        go_wp2;exact ⟨⟨k+1,Bl,by go_num,S,hb⟩,by simp [intOf];omega⟩
     ·have aB:¬ (k:Int)<(p.edges.length:Int):=Bl;have bT:Hid p.edges.Nodup:=by
       have h1:=bL.out;rw [Bg Bl] at h1;exact h1
      clear bL hk;go_wp2;clear aA aB;go_loopw [6] (fun i wr=>∃ k:Nat,(k:Int)<=p.tasks/\i = J U k/\Hid (∀ j,j<k -> ¬ Pg.Reach (D4 p) j j)/\Below (Ei 36 p (Aa A p.edges.length c) w) (Ei 36 p (Aa A p.edges.length c) w) wr) (fun i _=>p.tasks.toNat - (intOf i).toNat);case atStart=>exact ⟨0,Bl,rfl,fun j hj=>absurd hj Bl,hb⟩
      case round =>
       clear hb x0 x1 x2 x3 x4 hs bW;obtain ⟨k,hk,rfl,bL,hb⟩:=hrel;obtain ⟨x0,x1,x2,x3,x4,hs,bW⟩:=Fn hb;by_cases aA:(k:Int)<p.tasks
       ·go_wp2_with fail
        refine (Afy p (Aa A p.edges.length c) k _ Hm.out cP.out aA ((h.below bW).more bW.size)).mono ?_;rintro e w2 ⟨v,O,rfl,o1,aG,kB,pI⟩;have sW:k<O.length:=Bl;have hlen0:=Bq kB;rcases o1.form with ⟨_,e0⟩ | ⟨g,cap,rfl,_,sC,_,_,_,_⟩
        ·exfalso;subst e0;simp at sW
        have ck:=o1.bool sW;have hg:Hid (O.getD k false=O[k]):=by unfold Hid;rw [List.getD_eq_getElem?_getD,List.getElem?_eq_getElem sW];rfl
        have Hiff:=Bq pI;have hkOI:(k:Int)<(O.length:Int):=Bl;clear kB pI;cases hO:O[k]
        ·rw [hO] at ck;have S:Hid (∀ j,j<k+1 -> ¬ Pg.Reach (D4 p) j j):=by
          intro j hj;by_cases e:j=k
          ·subst e;intro hr
           have:=(Hiff.out j).2 hr
           rw [hg.out,hO] at this;cases this
          ·exact bL.out j Bl
         clear hO;go_wp2;exact ⟨⟨k+1,Bl,by go_num,S,hb.trans (aG.mono hb.size)⟩,by simp [intOf];omega⟩
        ·rw [hO] at ck;have H:Hid (Cs p=4):=Nu Hm.out cP.out bT.out ⟨k,Bl,(Hiff.out k).1 (by rw [hg.out,hO])⟩;clear hO;go_wp2;go_ret;exact ⟨C8 H.out.symm,Bu bW aG⟩
       ·have H:Hid (Cs p=0):=Dj.2 ⟨Hm.out,cP.out,bT.out,fun ⟨t,ht,hr⟩=>bL.out t Bl hr⟩;go_wp2;go_ret;exact ⟨C8 H.out.symm,bW⟩
end Go.Proofs.YtonlnjdempbfoabGreat
