/-
  l06From of the reference: the search by a list. append of a whole slice that reads as a list, nil or not, onto a slice of the call's own. PlanFault of the progr
-/
import Derived.Test.YtonlnjdempbfoaaGreatZOv0
import Derived.Maps.AppendAt
import Derived.RegionTactic
import Derived.OwnWalk
import Derived.Deep.RegionWith
import Derived.Laws.CopyRow
import Derived.Laws.CopyOwn
import Derived.Lib.AppendZerosOnto
import Derived.Lib.Overlaps
import Derived.Lib.SliceRun
namespace Go.Proofs.YtonlnjdempbfoaaGreat
open Go.RowKit
set_option maxRecDepth 100000
set_option maxHeartbeats 4000000
set_option linter.unusedVariables false
set_option linter.unusedSimpArgs false
theorem Z6:(Tryz.prog.info? 4).map (fun i=>(i.zero,i.size,i.bytes))=some (some (.bool false),1,1):=by kernel_rfl
def Aa8 (p:Plan) (t:Nat) (w:World) (e:Ending) (w':World):Prop :=
 ∃ v O,e = .returned v/\Ow Qt 4 w' w.heap.size v O/\Below w.heap.size w w'/\O.length=p.tasks.toNat /\ ∀ y,O.getD y false=true ↔ Pg.Reach (Ca p) t y
theorem Aa9 (p:Plan) (ve:Value) (t:Nat) (w:World) (hm:Cu p=true) (he:Eu p) (ht:(t:Int)<p.tasks) (h:Rd Ei w w.heap.size ve p.edges) :
  Calls Tryz.prog 236 #[Ee p ve,.int .i64 (t:Int)] w (Aa8 p t w):=by
 obtain ⟨A,c,rfl,-⟩:=id h
 obtain ⟨t1,t2⟩:=Ch hm
 have aJ:=Dh hm
 obtain ⟨T,hT⟩:=Int.eq_ofNat_of_zero_le (show 0<=p.tasks by omega)
 have HT:=Lib.hid hT
 have eU:T<=12:=by omega
 have htT:t<T:=by omega
 obtain ⟨i0,aP,aX,aV,aQ⟩:=info_parts Z6
 obtain ⟨j0,bX,jz0,jz1,jz2⟩:=info_parts Iv
 have mH:∀ w:World,(Instr.makeSlice 248 (.int .i64 p.tasks) (.int .i64 p.tasks)).run Tryz.prog w = .ok (.slice (some ⟨w.heap.size,0,none⟩) T T) (w.alloc (.cells (madeCells #[.bool false] (T * 1)) 4)):=by
  intro w
  have:=run_make (P:=Tryz.prog) w 248 4 i0 _ Tryz.underlying248 aP aX .i64 .i64 T T (by omega) (by omega) (by rw [aQ];omega) (by omega)
  rw [aV] at this
  rw [hT]
  simpa [Value.cells] using this
 have rX:(∀ e∈Ca p,e.1<T)/\(∀ e∈Ca p,e.2<T):=by
  have:=Ju he
  rw [hT] at this
  simpa using this
 clear hT
 unfold Ee
 go_enter Tryz.func236,Tryz.ntmps236
 go_wp2
 go_loopw [6,7] (fun vl i wr=>∃ (k:Nat) (s:List Bool×List Nat),Hid (Pg.Bat (Ca p) T t k s)/\i = .int .i64 k/\Ow Qt 4 wr (w.heap.size+1) (.slice (some ⟨w.heap.size+1,0,none⟩) T T) s.1/\Ow Cs 3 wr (w.heap.size+1) vl s.2 /\
   Below (Ci 43 p (.slice A p.edges.length c) w).heap.size (Ci 43 p (.slice A p.edges.length c) w) wr) (fun _ i _=>T+2 - (intOf i).toNat)
 case atStart =>
  refine ⟨0,_,Pg.Bat.start (Ca p) T t,rfl,?_,?_,?_⟩
  ·have:=Ow.made Qt 4 (Ci 43 p (.slice A p.edges.length c) w) false T (by decide) (by simp [maxLen];omega) (z:=#[.bool false]) rfl (m:=T) (by simp [Qt])
   rw [Di] at this
   exact this.below ((Below.refl _ _).alloc (Nat.le_refl _) _)
  ·have:=World.ownsRow_lit (base:=w.heap.size+1) (e:=3) (size:=1) ((Ci 43 p (.slice A p.edges.length c) w).alloc (.cells (madeCells #[.bool false] T) 4)) #[.int .i64 (t:Int)] 1 (by simp [Di]) (by simp [maxLen]) rfl
   simp only [World.size_alloc,Di] at this
   exact this
  ·exact ((Below.refl _ _).alloc (Nat.le_refl _) _).alloc (by simp) _
 case round =>
  obtain ⟨k,s,gY,rfl,ho,hl,hb⟩:=hrel
  obtain ⟨x0,x1,x2,x3,x4,hs,bN⟩:=Dn hb
  have bJ:w.heap.size<wr.heap.size:=by omega
  have hkT:=gY.out.inv.lt
  have kB:=gY.out.le
  have nQ:=Lib.hid gY.out.inv.size
  rcases hl.form with ⟨_,e0⟩ | ⟨gl,cap,rfl,hgl0,rH,aN,pW,hlf,hlcell⟩
  ·exfalso
   obtain ⟨l,hh,_⟩:=gY.out.inv.head
   rw [hh] at e0
   cases e0
  clear hlcell hlf
  by_cases aA:k<s.2.length
  ·have aB:(k:Int)<(s.2.length:Int):=by omega
   obtain ⟨wo,rfl⟩:∃ wo:World,wo=wr:=⟨_,rfl⟩
   have jZ:s.2[k]? = some s.2[k]:=List.getElem?_eq_getElem aA
   have fT:=Lib.hid (gY.out.next rX.2 jZ)
   clear jZ
   go_wp2
   go_loopw [6,8] (fun vl i wr=>∃ (j:Nat),j<=p.edges.length/\i = .int .i64 j/\Ow Qt 4 wr (w.heap.size+1) (.slice (some ⟨w.heap.size+1,0,none⟩) T T) (Pg.La (esL (p.edges.take j)) s.2[k] s).1/\Ow Cs 3 wr (w.heap.size+1) vl (Pg.La (esL (p.edges.take j)) s.2[k] s).2 /\
    Below (Ci 43 p (.slice A p.edges.length c) w).heap.size (Ci 43 p (.slice A p.edges.length c) w) wr) (fun _ i _=>p.edges.length - (intOf i).toNat)
   case atStart=>exact ⟨0,Nat.zero_le _,rfl,ho,hl,hb⟩
   case round =>
    clear ho hl hb x0 x1 x2 x3 x4 hs bN bJ hgl0 rH aN pW
    obtain ⟨j,hj,rfl,ho,hl,hb⟩:=hrel
    obtain ⟨x0,x1,x2,x3,x4,hs,bN⟩:=Dn hb
    have bJ:w.heap.size<wr.heap.size:=by omega
    by_cases cZ:j<p.edges.length
    ·have fU:(j:Int)<(p.edges.length:Int):=by omega
     obtain ⟨b,o,rfl,aH,c0,c1⟩:=(h.below bN).edge cZ
     obtain ⟨f1,f2,f3,f4⟩:=Fa he cZ
     rw [HT.out] at f2 f4
     have cR:=Lib.hid (show esL (p.edges.take (j+1))=esL (p.edges.take j) ++ [(p.edges[j].fr.toNat,p.edges[j].to.toNat)] by unfold esL;rw [Ay _ j cZ,List.map_append];rfl)
     generalize p.edges[j].fr=fx at *
     generalize p.edges[j].to=tx at *
     obtain ⟨a,rfl⟩:=Int.eq_ofNat_of_zero_le f1
     obtain ⟨d,rfl⟩:=Int.eq_ofNat_of_zero_le f3
     have aE:Hid (Pg.La (esL (p.edges.take (j+1))) s.2[k] s=Pg.J8 s.2[k] (Pg.La (esL (p.edges.take j)) s.2[k] s) (a,d)):=by
      show Pg.La _ _ _=_
      rw [cR.out]
      simp only [Int.toNat_natCast]
      unfold Pg.La
      rw [List.foldl_append]
      rfl
     have mE:=Pg.Abt (esL (p.edges.take j)) s.2[k] s
     rw [nQ.out] at mE
     obtain ⟨r,hr⟩:=Pg.Zy (esL (p.edges.take j)) s.2[k] s
     have hgk:(Pg.La (esL (p.edges.take j)) s.2[k] s).2[k]? = some s.2[k]:=by rw [hr,List.getElem?_append_left aA,List.getElem?_eq_getElem aA]
     have hlen2:s.2.length<=(Pg.La (esL (p.edges.take j)) s.2[k] s).2.length:=by rw [hr];simp
     clear hr cR
     generalize hS:Pg.La (esL (p.edges.take j)) s.2[k] s=S at *
     have HS:=Lib.hid hS
     clear hS
     generalize hx:s.2[k]=x at *
     have HX:=Lib.hid hx
     clear hx
     rcases hl.form with ⟨_,e0⟩ | ⟨gl',cap',rfl,hgl0,rH,aN,pW,hlf,hlcell⟩
     ·exfalso
      have:=congrArg List.length e0
      simp only [List.length_nil] at this
      omega
     have hkS:k<S.2.length:=by omega
     have hSk:Hid (S.2[k]=x):=by
      rw [List.getElem?_eq_getElem hkS] at hgk
      exact Option.some.inj hgk
     have cx:=hl.nat hkS
     rw [hSk.out] at cx
     have hHbl:=Lib.hid mE
     have hdO:d<S.1.length:=by rw [mE];omega
     have cO:=ho.bool hdO
     have hgO:=ho.blk.2
     have hkSI:(k:Int)<(S.2.length:Int):=by omega
     clear mE hgk hlcell
     by_cases hax:a=x
     ·subst hax
      have cV:S.1.getD d true=S.1[d]:=by rw [List.getD_eq_getElem?_getD,List.getElem?_eq_getElem hdO];rfl
      have kR:((a:Int) == (a:Int))=true:=by simp
      cases hO:S.1[d]
      ·rw [hO] at cO
       have gN:Hid (Pg.La (esL (p.edges.take (j+1))) a s=(S.1.set d true,S.2 ++ [d])):=by
        show Pg.La _ _ _=_
        rw [aE.out];unfold Pg.J8;rw [if_pos ⟨rfl,by rw [cV,hO]⟩]
       clear cV hO aE
       have e1:(wr.alloc (.cells #[.int .i64 (a:Int),.int .i64 (d:Int)] 199)).cell? ⟨wr.heap.size,1,none⟩=some (.int .i64 (d:Int)):=by go_simp
       go_wp2
       go_quiet (fail)
       have hW:=Ao ((Below.refl wr.heap.size wr).alloc (Nat.le_refl _) (.cells #[.int .i64 (a:Int),.int .i64 (d:Int)] 199)) nq
       have aF:=Ao (hb.alloc hb.size (.cells #[.int .i64 (a:Int),.int .i64 (d:Int)] 199)) nq
       have e2:((wr.alloc (.cells #[.int .i64 (a:Int),.int .i64 (d:Int)] 199)).drewN nq).cell? ⟨wr.heap.size,1,none⟩=some (.int .i64 (d:Int)):=e1
       have hwn:wr.heap.size<((wr.alloc (.cells #[.int .i64 (a:Int),.int .i64 (d:Int)] 199)).drewN nq).heap.size:=by simp
       clear e1 c0 c1 cx cO
       generalize (wr.alloc (.cells #[.int .i64 (a:Int),.int .i64 (d:Int)] 199)).drewN nq=W2 at *
       have gU:=ho.below hW
       have eV:=hl.below hW
       have cO2:=gU.bool hdO
       have hof:=gU.free
       have cG:=Ow.put gU (n:=T) (by rw [hHbl.out]) d (by omega) true
       simp only [Qt,Nat.mul_one] at cG
       have pZ:Ow Cs 3 (W2.setCell ⟨w.heap.size+1,d,none⟩ (.bool true)) (w.heap.size+1) (.slice (some ⟨gl',0,none⟩) S.2.length cap') S.2:=eV.grown cG.2 (by
        have:=eV.ne_ gU (by decide)
        simpa [Value.ownBlock] using this)
       have hkp:=Di 43 p (.slice (some ⟨b,o,none⟩) p.edges.length c) w
       have bZ:=aF.grown cG.2 aF.size (fun g hg=>by rw [Di];simp at hg;omega)
       have sV:=cG.1
       have hl4:=pZ.below ((Below.refl _ _).alloc (Nat.le_refl _) (.cells #[.int .i64 (d:Int)] 3))
       have hwz:w.heap.size+1<=W2.heap.size:=by omega
       have bQ:=bZ.alloc bZ.size (.cells #[.int .i64 (d:Int)] 3)
       clear cG
       have hSl:S.2.length<=3000000:=by
        have:=(Pg.Zz (x:=a) (esL (p.edges.take j)) gY.out.inv (by rw [<-HX.out];exact List.getElem_mem aA) (fun e he'=>by
         simp only [esL,List.mem_map] at he'
         obtain ⟨y,hy,rfl⟩:=he'
         simp only [Ca,esL,List.mem_map]
         exact ⟨y,List.mem_of_mem_take hy,rfl⟩) (fun e he'=>by
         simp only [esL,List.mem_map] at he'
         obtain ⟨y,hy,rfl⟩:=he'
         exact rX.2 _ (by simp only [Ca,esL,List.mem_map];exact ⟨y,List.mem_of_mem_take hy,rfl⟩))).lt
        rw [HS.out] at this
        omega
       go_wp2_with (at_builtin;refine Iu (v:=.slice (some ⟨gl',0,none⟩) S.2.length cap') Cs (by decide) rfl (.tmp 52) (.tmp 55) rfl Tryz.underlying26 bX jz0 jz1 jz2 rfl d rfl hl4 ⟨W2.heap.size,0,none⟩ 1 rfl (Nd _ #[.int .i64 (d:Int)] _ (by simp)) hSl (by decide) (by simp;omega) ?_;intro v' w3 hown3 hgrow3)
       have dA:=sV.below ((Below.refl _ _).alloc (Nat.le_refl _) (.cells #[.int .i64 (d:Int)] 3))
       have ho5:=dA.grown hgrow3 (dA.ne_ hl4 (by decide))
       have eH:=bQ.grown hgrow3 bQ.size (fun g hg=>by
        have hgg:gl'=g:=by simpa [Value.ownBlock] using hg
        have hgl1:=eV.blk.1
        omega)
       exact ⟨⟨j+1,by omega,by go_num,by rw [gN.out];exact ho5,by rw [gN.out];exact hown3,eH⟩,by simp [intOf];omega⟩
      ·rw [hO] at cO
       have aZ:Hid (Pg.La (esL (p.edges.take (j+1))) a s=S):=by
        show Pg.La _ _ _=_
        rw [aE.out];unfold Pg.J8;rw [if_neg (fun h=>by rw [cV,hO] at h;exact absurd h.2 (by simp))]
       clear cV hO
       go_wp2
       go_quiet (fail)
       go_wp2
       exact ⟨⟨j+1,by omega,by go_num,by rw [aZ.out];exact (ho.below (Ao ((Below.refl wr.heap.size wr).alloc (Nat.le_refl _) _) _)),by rw [aZ.out];exact (hl.below (Ao ((Below.refl wr.heap.size wr).alloc (Nat.le_refl _) _) _)),Ao (hb.alloc hb.size _) _⟩,by simp [intOf];omega⟩
     ·have kR:((a:Int) == (x:Int))=false:=beq_eq_false_iff_ne.2 (by omega)
      have aZ:Hid (Pg.La (esL (p.edges.take (j+1))) x s=S):=by
       show Pg.La _ _ _=_
       rw [aE.out];unfold Pg.J8;rw [if_neg (fun h=>hax h.1)]
      clear hax
      go_wp2
      go_quiet (fail)
      go_wp2
      exact ⟨⟨j+1,by omega,by go_num,by rw [aZ.out];exact (ho.below (Ao ((Below.refl wr.heap.size wr).alloc (Nat.le_refl _) _) _)),by rw [aZ.out];exact (hl.below (Ao ((Below.refl wr.heap.size wr).alloc (Nat.le_refl _) _) _)),Ao (hb.alloc hb.size _) _⟩,by simp [intOf];omega⟩
    ·have fU:¬ (j:Int)<(p.edges.length:Int):=by omega
     have hj':j=p.edges.length:=by omega
     subst hj'
     rw [List.take_length] at ho hl
     go_wp2
     refine ⟨⟨k+1,_,fT.out,by go_num,ho,hl,hb⟩,by simp [intOf];omega⟩
  ·have aB:¬ (k:Int)<(s.2.length:Int):=by omega
   have bH:k=s.2.length:=by omega
   go_wp2
   go_ret
   refine ⟨_,s.1,rfl,ho.more (by omega),bN,?_,fun y=>?_⟩
   ·rw [nQ.out,HT.out];rfl
   ·exact Pg.Bat.iff (by rw [<-bH];exact gY.out) y
section
variable {P:Program} (w:World)
theorem M3 (base:Nat) (t ty e:TypeId) (i:TypeInfo) (size:Nat) (ht:P.underlying t=some (.slice e)) (hi:P.info? e=some i)
  (v:Value) (n:Nat) (xs:List Value) (hown:w.ownsRow base e size v n xs) (c:Nat):(Builtin.append_ #[t,t] ty #[v,.slice none 0 c]).run P w = .ok v w:=by
 rcases hown.2 with ⟨rfl,rfl⟩ | ⟨g,cap,cur,rfl,_,_,hnc,_⟩
 ·simp [Builtin.append_,run_underlying ht,sizeOf,typeInfo,hi,Builtin.lenOf,Builtin.firstCells]
 ·simp [Builtin.append_,run_underlying ht,sizeOf,typeInfo,hi,Builtin.lenOf,Builtin.firstCells,hnc,storeCells]
theorem Zh {α:Type} {e:Enc α} (bE:0<e.sz) {w:World} {B:Nat} {A:Option Addr} {m c:Nat} {ys:List α} (hr:Rd e w B (.slice A m c) ys):m=ys.length/\(0<m -> ∃ ad,A=some ad /\ ∀ j u,(ys.flatMap e.cells)[j]? = some u->w.cell? (ad.add j)=some u):=by
 obtain ⟨A',c',hv,_,hA⟩:=hr
 simp only [Value.slice.injEq] at hv
 obtain ⟨rfl,rfl,rfl⟩:=hv
 refine ⟨rfl,fun hm=>?_⟩
 obtain ⟨b,o,rfl,hb,hc⟩:=hA hm
 refine ⟨⟨b,o,none⟩,rfl,fun j u hu=>?_⟩
 have aA:=(List.getElem?_eq_some_iff.1 hu).1
 rw [e.flat_length] at aA
 have hk:j / e.sz<ys.length:=Nat.div_lt_of_lt_mul (by rw [Nat.mul_comm];exact aA)
 have hj:j % e.sz<e.sz:=Nat.mod_lt _ bE
 have qK:j / e.sz * e.sz+j % e.sz=j:=by rw [Nat.mul_comm];exact Nat.div_add_mod _ _
 have h1:=e.flat_get hj ys (j / e.sz) hk
 rw [qK] at h1
 have h2:=hc (j / e.sz) hk (j % e.sz) u (by rw [<-h1];exact hu)
 have ea:(⟨b,o,none⟩:Addr).add j=⟨b,o+j / e.sz * e.sz+j % e.sz,none⟩:=by
  rw [Nat.add_assoc,qK]
  unfold Addr.add
  split<;>simp_all
 rw [ea]
 exact h2
theorem S8 {α:Type} (e:Enc α) (bE:0<e.sz) (base:Nat) (t ty E:TypeId) (i:TypeInfo) (z:Value) (bytes:Nat) (ht:P.underlying t=some (.slice E)) (hi:P.info? E=some i) (hz:i.zero=some z)
  (bW:i.size=e.sz) (cK:i.bytes=bytes) (hzs:z.cells.size=e.sz)
  (v:Value) (l:List α) (hown:Ow e E w base v l)
  (B:Nat) (A:Option Addr) (m c:Nat) (ys:List α) (hr:Rd e w B (.slice A m c) ys)
  (hn:l.length<=3000000) (hm:ys.length<=3000000) (hbytes:bytes<=10000) (aS:base<=w.heap.size) :
  ∃ v' w',(Builtin.append_ #[t,t] ty #[v,.slice A m c]).run P w = .ok v' w'/\Ow e E w' base v' (l ++ ys)/\w.grownBy w' v.ownBlock /\
   (v'.ownBlock=v.ownBlock\/v'.ownBlock=some w.heap.size):=by
 obtain ⟨rfl,hA⟩:=Zh bE hr
 have h0:∀ ad:Addr,A=some ad -> ∀ j u,(ys.flatMap e.cells)[j]? = some u->w.cell? (ad.add j)=some u:=by
  intro ad hAd j u hu
  rcases Nat.eq_zero_or_pos ys.length with aX | hpos
  ·have:ys=[]:=List.eq_nil_of_length_eq_zero aX
   subst this
   simp at hu
  ·obtain ⟨ad',bS,hc⟩:=hA hpos
   rw [bS] at hAd
   injection hAd with hAd
   subst hAd
   exact hc j u hu
 rcases A with _ | ad
 ·have kJ:ys=[]:=by
   rcases Nat.eq_zero_or_pos ys.length with h1 | h1
   ·exact List.eq_nil_of_length_eq_zero h1
   ·obtain ⟨_,h2,_⟩:=hA h1
    cases h2
  subst kJ
  exact ⟨v,w,M3 w base t ty E i e.sz ht hi v l.length (l.flatMap e.cells) hown c,by simpa using hown,World.grownBy.refl w _,.inl rfl⟩
 ·have h1:∀ u∈ys.flatMap e.cells,u.oneCell'=true:=by
   intro u hu
   obtain ⟨y,_,hy⟩:=List.mem_flatMap.1 hu
   exact e.one y u hy
  have aF:(l.length+ys.length) * bytes<=6000000 * 10000:=Nat.mul_le_mul (by omega) hbytes
  obtain ⟨v',w',eB,h2,h3,_,h5⟩:=run_append_own_at (P:=P) w base t ty E i z e.sz bytes ht hi hz bW cK hzs bE v l.length (l.flatMap e.cells) hown ad ys.length c (ys.flatMap e.cells) (e.flat_length ys) (h0 ad rfl) h1 (by simp [maxLen];omega) (by omega) aS
  refine ⟨v',w',eB,?_,h3,h5⟩
  unfold Ow
  rw [List.length_append,List.flatMap_append]
  exact h2
theorem C7 {α:Type} {o:Oper} {a:Act} {K:Act->World->Prop} {Q:Exit->Act->World->Prop} (e:Enc α) (bE:0<e.sz) (s x:Operand) (t:TypeId)
  (ho:o.op = .call { callee:=.builtin .append,args:=#[s,x],argTypes:=#[t,t] })
  (base:Nat) (E:TypeId) (i:TypeInfo) (z:Value) (bytes:Nat) (ht:P.underlying t=some (.slice E)) (hi:P.info? E=some i) (hz:i.zero=some z)
  (bW:i.size=e.sz) (cK:i.bytes=bytes) (hzs:z.cells.size=e.sz)
  (v:Value) (l:List α) (hs:a.eval s=v) (hown:Ow e E w base v l)
  (B:Nat) (A:Option Addr) (m c:Nat) (ys:List α) (hx:a.eval x = .slice A m c) (hr:Rd e w B (.slice A m c) ys)
  (hn:l.length<=3000000) (hm:ys.length<=3000000) (hbytes:bytes<=10000) (aS:base<=w.heap.size)
  (h:∀ v' w',Ow e E w' base v' (l ++ ys)->w.grownBy w' v.ownBlock->(v'.ownBlock=v.ownBlock\/v'.ownBlock=some w.heap.size)->K (a.put o.dst v') w'):o.wp P a w K Q:=by
 obtain ⟨v',w',eB,h2,h3,h4⟩:=S8 (P:=P) w e bE base t o.type E i z bytes ht hi hz bW cK hzs v l hown B A m c ys hr hn hm hbytes aS
 unfold Oper.wp execOp
 simp only [ho,resolve,invoke,builtin,Sem.run_bind,Sem.run_pure,Result.andThen_ok,List.map_toArray,List.map_cons,List.map_nil,hs,hx,eB]
 exact h v' w' h2 h3 h4
theorem Ak {α:Type} {ops:Array Oper} {rest:List Oper} {o:Oper} {a:Act} {Q:Exit->Act->World->Prop} (e:Enc α) (bE:0<e.sz) (cV:o.guard=none) (s x:Operand) {t:TypeId}
  (ho:o.op = .call { callee:=.builtin .append,args:=#[s,x],argTypes:=#[t,t] })
  {base:Nat} {E:TypeId} {i:TypeInfo} {z:Value} {bytes:Nat} (ht:P.underlying t=some (.slice E)) (hi:P.info? E=some i) (hz:i.zero=some z)
  (bW:i.size=e.sz) (cK:i.bytes=bytes) (hzs:z.cells.size=e.sz)
  {v:Value} {l:List α} (hs:a.eval s=v) (hown:Ow e E w base v l)
  {B:Nat} {A:Option Addr} {m c:Nat} {ys:List α} (hx:a.eval x = .slice A m c) (hr:Rd e w B (.slice A m c) ys)
  (hn:l.length<=3000000) (hm:ys.length<=3000000) (hbytes:bytes<=10000) (aS:base<=w.heap.size)
  (h:∀ v' w',Ow e E w' base v' (l ++ ys)->w.grownBy w' v.ownBlock->(v'.ownBlock=v.ownBlock\/v'.ownBlock=some w.heap.size)->wpList P ops Q rest (a.put o.dst v') w'):wpList P ops Q (o :: rest) a w :=
 wpList_plain cV fun _ hK=>C7 w e bE s x t ho base E i z bytes ht hi hz bW cK hzs v l hs hown B A m c ys hx hr hn hm hbytes aS fun v' w' h2 h3 h4=>hK _ _ (h v' w' h2 h3 h4)
theorem Dx {α:Type} {ops:Array Oper} {o:Oper} {a:Act} {K:Act->World->Prop} {Q:Exit->Act->World->Prop} {EE:Prop} (e:Enc α) (bE:0<e.sz) (cV:o.guard=none) (s x:Operand) {t:TypeId}
  (ho:o.op = .call { callee:=.builtin .append,args:=#[s,x],argTypes:=#[t,t] })
  {base:Nat} {E:TypeId} {i:TypeInfo} {z:Value} {bytes:Nat} (ht:P.underlying t=some (.slice E)) (hi:P.info? E=some i) (hz:i.zero=some z)
  (bW:i.size=e.sz) (cK:i.bytes=bytes) (hzs:z.cells.size=e.sz)
  {v:Value} {l:List α} (hs:a.eval s=v) (hown:Ow e E w base v l)
  {B:Nat} {A:Option Addr} {m c:Nat} {ys:List α} (hx:a.eval x = .slice A m c) (hr:Rd e w B (.slice A m c) ys)
  (hn:l.length<=3000000) (hm:ys.length<=3000000) (hbytes:bytes<=10000) (aS:base<=w.heap.size)
  (h:∀ v' w',Ow e E w' base v' (l ++ ys)->w.grownBy w' v.ownBlock->(v'.ownBlock=v.ownBlock\/v'.ownBlock=some w.heap.size)->K (a.put o.dst v') w') :
  if Region.wanted o (yielded ops a.tmps)=true then Oper.wp P o a w K Q else EE:=by
 have hw:Region.wanted o (yielded ops a.tmps)=true:=by simp [Region.wanted,cV]
 rw [if_pos hw]
 exact C7 w e bE s x t ho base E i z bytes ht hi hz bW cK hzs v l hs hown B A m c ys hx hr hn hm hbytes aS h
end
theorem Rd.one {α:Type} (e:Enc α) (w:World) (T:TypeId) (x:α) {g:Nat} (hg:g=w.heap.size) {cs:Array Value} (rW:cs=(e.cells x).toArray) (c:Nat) (hc:1<=c) {B:Nat} (hB:g<B):Rd e (w.alloc (.cells cs T)) B (.slice (some ⟨g,0,none⟩) 1 c) [x]:=by
 refine ⟨_,c,rfl,by simpa using hc,fun _=>⟨g,0,rfl,hB,fun k hk j u hu=>?_⟩⟩
 have dG:k=0:=by simpa using hk
 subst dG
 simp only [List.getElem_cons_zero] at hu
 have:=Nd w cs T hg j u (by rw [rW];simpa using hu)
 have ea:(⟨g,0,none⟩:Addr).add j=⟨g,0+0 * e.sz+j,none⟩:=by
  unfold Addr.add
  split<;>simp_all
 rw [ea] at this
 exact this
theorem Ow.empty {α:Type} (e:Enc α) (E:TypeId) (w:World) {g:Nat} (hg:g=w.heap.size):Ow e E (w.alloc (.cells #[] E)) g (.slice (some ⟨g,0,none⟩) 0 0) []:=by
 subst hg
 exact World.ownsRow_lit (base:=w.heap.size) (e:=E) (size:=e.sz) w #[] 0 (Nat.le_refl _) (by simp [maxLen]) (by simp)
theorem S9 (v:Value) (l:List Edge) (x:Edge) (w:World) (hl:l.length<=2000000) (h:Rd Ei w w.heap.size v l) :
  Calls Tryz.prog 250 #[v,Vz x] w fun e w'=>e = .returned (.int .i64 (Eo (fun y=>decide (x=y)) l))/\Below w.heap.size w w':=by
 obtain ⟨A,c,rfl,-⟩:=id h
 unfold Vz
 go_enter Tryz.func250,Tryz.ntmps250
 go_wp2
 go_loopw [8] (fun i wr=>∃ k:Nat,k<=l.length/\i = .int .i64 k/\Hid (∀ j (hj:j<k) (hj':j<l.length),decide (x=l[j])=false)/\Below (w.alloc (.cells #[.int .i64 x.fr,.int .i64 x.to] 199)).heap.size (w.alloc (.cells #[.int .i64 x.fr,.int .i64 x.to] 199)) wr) (fun i _=>l.length - (intOf i).toNat)
 case atStart=>exact ⟨0,Nat.zero_le _,rfl,fun j hj=>absurd hj (by omega),Below.refl _ _⟩
 case round =>
  obtain ⟨k,hk,rfl,cI,hb⟩:=hrel
  have bU:Below w.heap.size w (w.alloc (.cells #[.int .i64 x.fr,.int .i64 x.to] 199)):=(Below.refl _ _).alloc (Nat.le_refl _) _
  have bN:=Aa bU hb
  by_cases aA:k<l.length
  ·obtain ⟨b,o,rfl,aH,c0,c1⟩:=(h.below bN).edge aA
   have n0:wr.cell? ⟨w.heap.size,0,none⟩=some (.int .i64 x.fr):=(hb.cell (p:=⟨w.heap.size,0,none⟩) (by simp)).trans (by go_simp)
   have n1:wr.cell? ⟨w.heap.size,1,none⟩=some (.int .i64 x.to):=(hb.cell (p:=⟨w.heap.size,1,none⟩) (by simp)).trans (by go_simp)
   by_cases hx:x=l[k]
   ·have H:=Lib.hid (Gi (p:=fun y=>decide (x=y)) aA (fun j hj=>cI.out j hj (by omega)) (show decide (x=l[k])=true by simp [hx]))
    have e0:l[k].fr=x.fr:=by rw [hx]
    have e1:l[k].to=x.to:=by rw [hx]
    rw [e0] at c0
    rw [e1] at c1
    clear hx e0 e1
    go_wp2
    go_quiet (fail)
    go_wp2
    go_ret
    exact ⟨Bw (by rw [H.out]),Ao bN _⟩
   ·have S:Hid (∀ j (hj:j<k+1) (hj':j<l.length),decide (x=l[j])=false):=by
     intro j hj hj'
     by_cases e:j=k
     ·subst e;simpa using hx
     ·exact cI.out j (by omega) hj'
    have eE:¬ (x.fr=l[k].fr/\x.to=l[k].to):=fun ⟨e0,e1⟩=>hx (by cases x;cases hlk:l[k];simp_all)
    clear hx
    by_cases e0:x.fr=l[k].fr
    ·have e1:¬ x.to=l[k].to:=fun e=>eE ⟨e0,e⟩
     have e1':(x.to == l[k].to)=false:=by simpa using e1
     rw [<-e0] at c0
     clear eE e0
     go_wp2
     go_quiet (fail)
     go_wp2
     exact ⟨⟨k+1,by omega,by go_num,S,Ao hb _⟩,by simp [intOf];omega⟩
    ·have e0':(x.fr == l[k].fr)=false:=by simpa using e0
     clear eE
     go_wp2
     go_quiet (fail)
     go_wp2
     exact ⟨⟨k+1,by omega,by go_num,S,Ao hb _⟩,by simp [intOf];omega⟩
  ·have H:=Lib.hid (Hc (p:=fun y=>decide (x=y)) (l:=l) (fun j hj=>cI.out j (by omega) hj))
   go_wp2
   go_ret
   exact ⟨Bw (by rw [H.out]),bN⟩
theorem Z7 {l:List Edge} {x:Edge} : (0<=Eo (fun y=>decide (x=y)) l) ↔ x∈l:=by
 unfold Eo
 cases h:l.findIdx? (fun y=>decide (x=y)) with
 | none =>
  rw [List.findIdx?_eq_none_iff] at h
  simp only
  refine ⟨fun h=>absurd h (by omega),fun hx=>?_⟩
  have:=h x hx
  simp at this
 | some i =>
  rw [List.findIdx?_eq_some_iff_getElem] at h
  obtain ⟨hi,hp,_⟩:=h
  simp only [decide_eq_true_eq] at hp
  simp only
  exact ⟨fun _=>by rw [hp];exact List.getElem_mem hi,fun _=>by omega⟩
theorem Kc (v:Value) (l:List Edge) (x:Edge) (w:World) (hl:l.length<=2000000) (h:Rd Ei w w.heap.size v l) :
  Calls Tryz.prog 224 #[v,Vz x] w fun e w'=>e = .returned (.bool (decide (x∈l)))/\Below w.heap.size w w':=by
 have bU:Below w.heap.size w (w.alloc (.cells #[.int .i64 x.fr,.int .i64 x.to] 199)):=(Below.refl _ _).alloc (Nat.le_refl _) _
 have H:=Lib.hid (show decide (0<=Eo (fun y=>decide (x=y)) l)=decide (x∈l) from decide_eq_decide.2 Z7)
 unfold Vz
 go_enter Tryz.func224,Tryz.ntmps224
 go_wp2_with fail
 refine (S9 v l x _ hl ((h.below bU).more bU.size)).mono ?_
 rintro e w1 ⟨rfl,aL⟩
 go_wp2_with fail
 go_ret
 exact ⟨Ac (by rw [<-H.out]),Aa bU aL⟩
theorem Lb {p:Plan} (h:Cu p=false):Aq p=1:=by unfold Aq;rw [if_pos h]
theorem Lc {p:Plan} (h:Cu p=true) (h2:¬ Eu p):Aq p=2:=by unfold Aq;rw [if_neg (by rw [h];simp),if_pos h2]
theorem K1 {p:Plan} (h:Cu p=true) (h2:Eu p) (h3:¬ p.edges.Nodup):Aq p=3:=by
 unfold Aq;rw [if_neg (by rw [h];simp),if_neg (by simpa using h2),if_pos h3]
theorem K2 {p:Plan} (h:Cu p=true) (h2:Eu p) (h3:p.edges.Nodup) (h4:N8 p):Aq p=4:=by
 unfold Aq;rw [if_neg (by rw [h];simp),if_neg (by simpa using h2),if_neg (by simpa using h3),if_pos h4]
theorem Kn {α:Type} {l:List α} {x:α} : (l ++ [x]).Nodup ↔ l.Nodup/\x∉l:=by
 rw [List.nodup_append]
 constructor
 ·rintro ⟨h1,_,h2⟩
  exact ⟨h1,fun hx=>h2 x hx x (by simp) rfl⟩
 ·rintro ⟨h1,h2⟩
  refine ⟨h1,by simp,fun a ha b hb e=>?_⟩
  simp only [List.mem_singleton] at hb
  subst hb;subst e
  exact h2 ha
theorem M4 (p:Plan) (ve:Value) (w:World) (hl:p.edges.length<=2000000) (h:Rd Ei w w.heap.size ve p.edges) (hm:Cu p=false) :
  Calls Tryz.prog 164 #[Ee p ve] w fun e w'=>e = .returned (.int .i64 (Aq p))/\Below w.heap.size w w':=by
 have H:=Lib.hid (Lb hm)
 obtain ⟨A,c,rfl,-⟩:=id h
 unfold Ee
 cases h1:inB p.tasks 1 12
 ·clear hm
  go_enter Tryz.func164,Tryz.ntmps164
  go_wp2_with (go_at_call 58;refine (Ap _ _ _ _).mono ?_;rintro e w' ⟨rfl,rfl⟩)
  go_ret
  exact ⟨Bw H.out.symm,(Below.refl _ _).alloc (Nat.le_refl _) _⟩
 by_cases h2:30<p.edges.length
 ·have h2':(30:Int)<(p.edges.length:Int):=by omega
  clear hm
  go_enter Tryz.func164,Tryz.ntmps164
  go_wp2_with (go_at_call 58;refine (Ap _ _ _ _).mono ?_;rintro e w' ⟨rfl,rfl⟩)
  go_ret
  exact ⟨Bw H.out.symm,(Below.refl _ _).alloc (Nat.le_refl _) _⟩
 have h2':¬ (30:Int)<(p.edges.length:Int):=by omega
 cases h3:inB p.prio 0 9
 ·clear hm
  go_enter Tryz.func164,Tryz.ntmps164
  go_wp2_with (go_at_call 58;refine (Ap _ _ _ _).mono ?_;rintro e w' ⟨rfl,rfl⟩)
  go_ret
  exact ⟨Bw H.out.symm,(Below.refl _ _).alloc (Nat.le_refl _) _⟩
 cases h4:inB p.most 1 5
 ·clear hm
  go_enter Tryz.func164,Tryz.ntmps164
  go_wp2_with (go_at_call 58;refine (Ap _ _ _ _).mono ?_;rintro e w' ⟨rfl,rfl⟩)
  go_ret
  exact ⟨Bw H.out.symm,(Below.refl _ _).alloc (Nat.le_refl _) _⟩
 cases h5:inB p.wait 1 20
 ·clear hm
  go_enter Tryz.func164,Tryz.ntmps164
  go_wp2_with (go_at_call 58;refine (Ap _ _ _ _).mono ?_;rintro e w' ⟨rfl,rfl⟩)
  go_ret
  exact ⟨Bw H.out.symm,(Below.refl _ _).alloc (Nat.le_refl _) _⟩
 ·exfalso
  have:Cu p=true:=by simp [Cu,h1,h3,h4,h5];omega
  rw [this] at hm
  cases hm
structure Sl where
 a:Option Addr
 n:Nat
 c:Nat
abbrev Sl.v (s:Sl):Value:=.slice s.a s.n s.c
structure Chg (F:List Nat) (w w':World):Prop where
 os:w'.os=w.os
 tape:w'.tape=w.tape
 output:w'.output=w.output
 size:w.heap.size<=w'.heap.size
 block:∀ b,b<w.heap.size->b∉F->w'.heap[b]? = w.heap[b]?
theorem Chg.refl (F:List Nat) (w:World):Chg F w w:=⟨rfl,rfl,rfl,Nat.le_refl _,fun _ _ _=>rfl⟩
theorem Chg.trans {F:List Nat} {a b c:World} (h:Chg F a b) (k:Chg F b c):Chg F a c :=
 ⟨k.os.trans h.os,k.tape.trans h.tape,k.output.trans h.output,Nat.le_trans h.size k.size,fun i hi hn=>(k.block i (Nat.lt_of_lt_of_le hi h.size) hn).trans (h.block i hi hn)⟩
theorem Chg.mono {F G:List Nat} {a b:World} (h:Chg F a b) (hs:∀ x∈F,x∈G):Chg G a b:=⟨h.os,h.tape,h.output,h.size,fun i hi hn=>h.block i hi (fun hx=>hn (hs i hx))⟩
theorem Chg.of_below {a b:World} (F:List Nat) (h:Below a.heap.size a b):Chg F a b:=⟨h.os,h.tape,h.output,h.size,fun i hi _=>h.block i hi⟩
theorem Chg.below {F:List Nat} {a b:World} (h:Chg F a b) {base:Nat} (hb:base<=a.heap.size) (hF:∀ x∈F,base<=x):Below base a b :=
 ⟨h.os,h.tape,h.output,h.size,fun i hi=>h.block i (by omega) (fun hx=>by have:=hF i hx;omega)⟩
theorem Chg.setCell (w:World) (b o:Nat) (u:Value):Chg [b] w (w.setCell ⟨b,o,none⟩ u) :=
 ⟨rfl,rfl,rfl,by simp [World.setCell],fun i _ hn=>Below.heap_setCell w ⟨b,o,none⟩ u i (by simpa using hn)⟩
theorem Chg.cell {F:List Nat} {w w':World} (h:Chg F w w') {p:Addr} (hp:p.block<w.heap.size) (hn:p.block∉F):w'.cell? p=w.cell? p:=World.cell?_of_block (h.block _ hp hn)
theorem Chg.frozen {F:List Nat} {w w':World} (h:Chg F w w') {p:Addr} (hp:p.block<w.heap.size) (hn:p.block∉F):w'.frozen? p=w.frozen? p:=World.frozen?_of_block (h.block _ hp hn)
section
variable {α:Type} {e:Enc α} {w w':World} {B B':Nat} {v:Value} {l:List α} {F G:List Nat}
def Cm (v:Value) (n:Nat):List Nat:=if n=0 then [] else v.ownBlock.toList
theorem Hr (v:Value) (n:Nat):(Cm v n).Nodup:=by
 unfold Cm
 split
 ·exact List.nodup_nil
 ·cases v.ownBlock<;>simp
def Hw (e:Enc α) (w:World) (F:List Nat) (v:Value) (l:List α):Prop:=Rd e w w.heap.size v l/\F=Cm v l.length /\ ∀ g∈F,∀ j,w.frozen? ⟨g,j,none⟩=false
theorem Rd.block_lt {A:Option Addr} {n c:Nat} (h:Rd e w B (.slice A n c) l):∀ b∈Cm (.slice A n c) l.length,b<B:=by
 intro b hb
 obtain ⟨A',c',hv,_,hA⟩:=h
 simp only [Value.slice.injEq] at hv
 obtain ⟨rfl,rfl,rfl⟩:=hv
 unfold Cm at hb
 split at hb
 ·cases hb
 ·obtain ⟨b',o',rfl,aA,_⟩:=hA (by omega)
  simp [Value.ownBlock] at hb
  omega
theorem Rd.keepF (h:Rd e w B v l) (hB:B<=B') (hk:∀ b∈Cm v l.length,∀ o,w'.cell? ⟨b,o,none⟩=w.cell? ⟨b,o,none⟩):Rd e w' B' v l:=by
 obtain ⟨A,c,rfl,bY,hA⟩:=h
 refine ⟨A,c,rfl,bY,fun hl=>?_⟩
 obtain ⟨b,o,rfl,aA,hc⟩:=hA hl
 refine ⟨b,o,rfl,by omega,fun k bH j u hu=>?_⟩
 rw [hk b (by unfold Cm;rw [if_neg (by omega)];simp [Value.ownBlock])]
 exact hc k bH j u hu
theorem Hw.lt (h:Hw e w F v l):∀ b∈F,b<w.heap.size:=by
 obtain ⟨hr,rfl,_⟩:=h
 obtain ⟨A,c,rfl,_⟩:=id hr
 exact hr.block_lt
theorem Hw.nodup (h:Hw e w F v l):F.Nodup:=by
 obtain ⟨_,rfl,_⟩:=h
 exact Hr _ _
theorem Hw.keep (h:Hw e w F v l) (hs:w.heap.size<=w'.heap.size) (hk:∀ b∈F,w'.heap[b]? = w.heap[b]?):Hw e w' F v l:=by
 obtain ⟨hr,rfl,hf⟩:=h
 refine ⟨hr.keepF hs (fun b hb o=>World.cell?_of_block (hk b hb)),rfl,fun g hg j=>?_⟩
 rw [World.frozen?_of_block (w:=w) (hk g hg)]
 exact hf g hg j
theorem Hw.chg (h:Hw e w F v l) (hc:Chg G w w') (hd:∀ b∈F,b∉G):Hw e w' F v l:=h.keep hc.size fun b hb=>hc.block b (h.lt b hb) (hd b hb)
theorem Hw.below (h:Hw e w F v l) (hb:Below w.heap.size w w'):Hw e w' F v l:=h.keep hb.size fun b hF=>hb.block b (h.lt b hF)
theorem Hw.rd (h:Hw e w F v l):Rd e w w.heap.size v l:=h.1
theorem Hw.of_ow {E:TypeId} {base:Nat} (h:Ow e E w base v l):Hw e w (Cm v l.length) v l /\ ∀ b∈Cm v l.length,base<=b:=by
 have hr:=Rd.of_own h
 rcases h.form with ⟨rfl,rfl⟩ | ⟨g,cap,rfl,h1,h2,_,_,hf,_⟩
 ·exact ⟨⟨hr,rfl,fun g hg=>by simp [Cm] at hg⟩,fun b hb=>by simp [Cm] at hb⟩
 ·have hb:∀ b∈Cm (.slice (some ⟨g,0,none⟩) l.length cap) l.length,b=g:=by
   intro b hb
   unfold Cm at hb
   split at hb
   ·cases hb
   ·simpa [Value.ownBlock] using hb
  exact ⟨⟨hr,rfl,fun b bG j=>by rw [hb b bG];exact hf j⟩,fun b bG=>by rw [hb b bG];exact h1⟩
theorem Hw.nil (e:Enc α) (w:World) (A:Option Addr) (c:Nat):Hw e w [] (.slice A 0 c) [] :=
 ⟨⟨A,c,rfl,Nat.zero_le _,fun h=>absurd h (by simp)⟩,by simp [Cm],fun _ h=>by cases h⟩
theorem Hw.at_ {A:Option Addr} {n c:Nat} (h:Hw e w F (.slice A n c) l) (hp:0<l.length):∃ b o,A=some ⟨b,o,none⟩/\F=[b]/\b<w.heap.size/\(∀ j,w.frozen? ⟨b,j,none⟩=false):=by
 obtain ⟨hr,hF,hf⟩:=h
 obtain ⟨A',c',hv,_,hA⟩:=id hr
 simp only [Value.slice.injEq] at hv
 obtain ⟨rfl,rfl,rfl⟩:=hv
 obtain ⟨b,o,rfl,aA,_⟩:=hA hp
 have hFb:F=[b]:=by
  rw [hF]
  unfold Cm
  rw [if_neg (by omega)]
  rfl
 exact ⟨b,o,rfl,hFb,aA,fun j=>hf b (by rw [hFb];simp) j⟩
end
theorem Gk:∀ (us:List Value) (w:World) (b i:Nat),Chg [b] w (E9 w b i us)
 | [],w,b,_=>Chg.refl [b] w
 | u :: us,w,b,i=>(Chg.setCell w b i u).trans (Gk us _ b (i+1))
theorem Hg:∀ (us:List Value) (w:World) (b i:Nat),(E9 w b i us).heap.size=w.heap.size
 | [],_,_,_=>rfl
 | u :: us,w,b,i=>by
  rw [E9,Hg us]
  simp [World.setCell]
theorem Ko (w:World) (b o i:Nat) (u u0:Value) (h0:w.cell? ⟨b,o,none⟩=some u0) (hi:∃ x,w.cell? ⟨b,i,none⟩=some x) :
  (w.setCell ⟨b,i,none⟩ u).cell? ⟨b,o,none⟩=some (if o=i then u else u0):=by
 by_cases h:o=i
 ·subst h
  rw [if_pos rfl]
  obtain ⟨x,hx⟩:=hi
  simp [go_sem,hx]
 ·rw [if_neg h]
  have:=h0
  simp [go_sem,this]
theorem N9:∀ (us:List Value) (w:World) (b i o:Nat) (u0:Value),(∀ j,j<us.length -> ∃ x,w.cell? ⟨b,i+j,none⟩=some x)->w.cell? ⟨b,o,none⟩=some u0 ->
  (E9 w b i us).cell? ⟨b,o,none⟩=some (if h:i<=o/\o<i+us.length then us[o - i]'(by omega) else u0)
 | [],w,b,i,o,u0,_,h0=>by
  rw [E9,h0,dif_neg (by simp)]
 | u :: us,w,b,i,o,u0,hx,h0=>by
  have h1:=Ko w b o i u u0 h0 (by simpa using hx 0 (by simp))
  have h2:=N9 us (w.setCell ⟨b,i,none⟩ u) b (i+1) o _ (fun j hj=>by
   obtain ⟨x,eE⟩:=hx (j+1) (by simpa using hj)
   exact ⟨_,Ko w b (i+1+j) i u x (by rw [show i+1+j=i+(j+1) from by omega];exact eE) (by simpa using hx 0 (by simp))⟩) h1
  rw [E9,h2]
  congr 1
  by_cases ho:o=i
  ·subst ho
   rw [dif_neg (by omega),if_pos rfl,dif_pos (by simp)]
   simp
  ·by_cases cC:i+1<=o/\o<i+1+us.length
   ·rw [dif_pos cC,dif_pos (by simp only [List.length_cons];omega)]
    have:o - i=(o - (i+1))+1:=by omega
    simp only [this,List.getElem_cons_succ]
   ·rw [dif_neg cC,if_neg ho,dif_neg (by simp only [List.length_cons];omega)]
theorem Hs (w:World) (a:Addr) (u:Value) (p:Addr):(w.setCell a u).frozen? p=w.frozen? p:=by simp [go_sem]
theorem Gl:∀ (us:List Value) (w:World) (b i:Nat) (p:Addr),(E9 w b i us).frozen? p=w.frozen? p
 | [],_,_,_,_=>rfl
 | u :: us,w,b,i,p=>by rw [E9,Gl us,Hs]
theorem Rd.part {α:Type} {e:Enc α} {w:World} {B b o n c:Nat} {l:List α} (h:Rd e w B (.slice (some ⟨b,o,none⟩) n c) l) (k:Nat) (hk:k<l.length) (y:α) (off:Nat) (us:List Value) (hoff:off+us.length<=e.sz)
  (cC:∀ j (hj:j<us.length),(e.cells y)[off+j]? = some us[j]) (eX:∀ j,j<e.sz->(j<off\/off+us.length<=j)->(e.cells y)[j]? = (e.cells l[k])[j]?) :
  Rd e (E9 w b (o+k * e.sz+off) us) B (.slice (some ⟨b,o,none⟩) n c) (l.set k y):=by
 obtain ⟨A',c',hv,bY,hA⟩:=h
 simp only [Value.slice.injEq] at hv
 obtain ⟨rfl,rfl,rfl⟩:=hv
 refine ⟨_,c,by rw [List.length_set],by rw [List.length_set];exact bY,fun _=>?_⟩
 obtain ⟨b',o',he,aA,hc⟩:=hA (by omega)
 simp only [Option.some.injEq,Addr.mk.injEq,and_true] at he
 obtain ⟨rfl,rfl⟩:=he
 refine ⟨b,o,rfl,aA,fun i aP j u hu=>?_⟩
 have hi:i<l.length:=by rw [List.length_set] at aP;exact aP
 have hj:j<e.sz:=by
  have:=(List.getElem?_eq_some_iff.1 hu).1
  rw [e.len] at this
  exact this
 have sN:∀ j',j'<us.length -> ∃ x,w.cell? ⟨b,o+k * e.sz+off+j',none⟩=some x:=fun j' hj'=>by
  have eJ:off+j'<(e.cells l[k]).length:=by rw [e.len];omega
  exact ⟨_,by rw [Nat.add_assoc];exact hc k hk (off+j') _ (List.getElem?_eq_getElem eJ)⟩
 by_cases hik:i=k
 ·subst hik
  rw [List.getElem_set_self] at hu
  have tL:j<(e.cells l[i]).length:=by rw [e.len];exact hj
  have h0:=hc i hi j _ (List.getElem?_eq_getElem tL)
  have h1:=N9 us w b (o+i * e.sz+off) (o+i * e.sz+j) _ sN h0
  rw [h1]
  by_cases hr:off<=j/\j<off+us.length
  ·rw [dif_pos (by omega)]
   have h2:=cC (j - off) (by omega)
   rw [show off+(j - off)=j from by omega,hu] at h2
   have h3:o+i * e.sz+j - (o+i * e.sz+off)=j - off:=by omega
   simp only [h3]
   exact h2.symm
  ·rw [dif_neg (by omega)]
   have h2:=eX j hj (by omega)
   rw [hu,List.getElem?_eq_getElem tL] at h2
   exact h2.symm
 ·rw [List.getElem_set_ne (by omega)] at hu
  have h0:=hc i hi j u hu
  have h1:=N9 us w b (o+k * e.sz+off) (o+i * e.sz+j) _ sN h0
  rw [h1,dif_neg]
  intro hh
  rcases Nat.lt_or_gt_of_ne hik with h | h
  ·have:(i+1) * e.sz<=k * e.sz:=Nat.mul_le_mul_right _ h
   rw [Nat.succ_mul] at this
   omega
  ·have:(k+1) * e.sz<=i * e.sz:=Nat.mul_le_mul_right _ h
   rw [Nat.succ_mul] at this
   omega
theorem Rd.same {α:Type} {e:Enc α} {w:World} {B:Nat} {v:Value} {l:List α} (h:Rd e w B v l) (k:Nat) (hk:k<l.length) (y:α) (hy:e.cells y=e.cells l[k]):Rd e w B v (l.set k y):=by
 obtain ⟨A,c,rfl,bY,hA⟩:=h
 refine ⟨A,c,by rw [List.length_set],by rw [List.length_set];exact bY,fun hl=>?_⟩
 rw [List.length_set] at hl
 obtain ⟨b,o,hb,aA,hc⟩:=hA hl
 refine ⟨b,o,hb,aA,fun i aP j u hu=>?_⟩
 have hi:i<l.length:=by rw [List.length_set] at aP;exact aP
 refine hc i hi j u ?_
 by_cases hik:k=i
 ·subst hik
  rw [List.getElem_set_self,hy] at hu
  exact hu
 ·rw [List.getElem_set_ne hik] at hu
  exact hu
structure Dt (α:Type) where
 S:Type
 enc:Enc (α×S)
 rd:World->Nat->α->S->Prop
 ow:World->List Nat->α->S->Prop
 rd_keep:∀ {w w':World} {B B':Nat} {x:α} {s:S},rd w B x s->B<=B'->(∀ p:Addr,p.block<B->w'.cell? p=w.cell? p)->rd w' B' x s
 ow_keep:∀ {w w':World} {F:List Nat} {x:α} {s:S},ow w F x s->w.heap.size<=w'.heap.size->(∀ b∈F,w'.heap[b]? = w.heap[b]?)->ow w' F x s
 ow_lt:∀ {w:World} {F:List Nat} {x:α} {s:S},ow w F x s -> ∀ b∈F,b<w.heap.size
 ow_rd:∀ {w:World} {F:List Nat} {x:α} {s:S},ow w F x s->rd w w.heap.size x s
 ow_nodup:∀ {w:World} {F:List Nat} {x:α} {s:S},ow w F x s->F.Nodup
section
variable {α:Type} {d:Dt α} {w w':World} {B B':Nat} {v:Value} {l:List α} {F G:List Nat}
def RdL (d:Dt α) (w:World) (B:Nat) (v:Value) (l:List α):Prop:=∃ rs:List (α×d.S),rs.map (·.1)=l/\Rd d.enc w B v rs /\ ∀ r∈rs,d.rd w B r.1 r.2
theorem RdL.keep (h:RdL d w B v l) (hB:B<=B') (hk:∀ p:Addr,p.block<B->w'.cell? p=w.cell? p):RdL d w' B' v l:=by
 obtain ⟨rs,hm,hr,ha⟩:=h
 exact ⟨rs,hm,(hr.keep hk).more hB,fun r hx=>d.rd_keep (ha r hx) hB hk⟩
theorem RdL.below (h:RdL d w B v l) (hb:Below B w w'):RdL d w' B v l:=h.keep (Nat.le_refl _) fun _ hp=>hb.cell hp
theorem RdL.more (h:RdL d w B v l) (hB:B<=B'):RdL d w B' v l:=h.keep hB fun _ _=>rfl
theorem RdL.form (h:RdL d w B v l):∃ A c,v = .slice A l.length c/\l.length<=c:=by
 obtain ⟨rs,rfl,⟨A,c,hv,hc,_⟩,_⟩:=h
 exact ⟨A,c,by rw [List.length_map];exact hv,by rw [List.length_map];exact hc⟩
theorem RdL.at_ {A:Option Addr} {n c:Nat} (h:RdL d w B (.slice A n c) l) (k:Nat) (hk:k<l.length):∃ b o s,A=some ⟨b,o,none⟩/\b<B /\
  (∀ j u,(d.enc.cells (l[k],s))[j]? = some u->w.cell? ⟨b,o+k * d.enc.sz+j,none⟩=some u)/\d.rd w B l[k] s:=by
 obtain ⟨rs,rfl,⟨A',c',hv,_,hA⟩,ha⟩:=h
 simp only [Value.slice.injEq] at hv
 obtain ⟨rfl,_,_⟩:=hv
 rw [List.length_map] at hk
 obtain ⟨b,o,bS,hb,hc⟩:=hA (by omega)
 have e:(rs.map (·.1))[k]'(by rw [List.length_map];exact hk)=rs[k].1:=by rw [List.getElem_map]
 refine ⟨b,o,rs[k].2,bS,hb,fun j u hu=>?_,?_⟩
 ·rw [e] at hu
  exact hc k hk j u hu
 ·rw [e]
  exact ha _ (List.getElem_mem hk)
inductive Ows (d:Dt α) (w:World):List Nat->List (α×d.S)->Prop
 | nil:Ows d w [] []
 | cons {F G:List Nat} {r:α×d.S} {rs:List (α×d.S)} : d.ow w F r.1 r.2->Ows d w G rs->Ows d w (F ++ G) (r :: rs)
theorem Ows.keep {rs:List (α×d.S)} (h:Ows d w F rs) (hs:w.heap.size<=w'.heap.size) (hk:∀ b∈F,w'.heap[b]? = w.heap[b]?):Ows d w' F rs:=by
 induction h with
 | nil=>exact .nil
 | cons h1 _ ih=>exact .cons (d.ow_keep h1 hs fun b hb=>hk b (List.mem_append_left _ hb)) (ih fun b hb=>hk b (List.mem_append_right _ hb))
theorem Ows.lt {rs:List (α×d.S)} (h:Ows d w F rs):∀ b∈F,b<w.heap.size:=by
 induction h with
 | nil=>intro b hb;cases hb
 | cons h1 _ ih =>
  intro b hb
  rcases List.mem_append.1 hb with hb | hb
  ·exact d.ow_lt h1 b hb
  ·exact ih b hb
theorem Ows.rd {rs:List (α×d.S)} (h:Ows d w F rs):∀ r∈rs,d.rd w w.heap.size r.1 r.2:=by
 induction h with
 | nil=>intro r hr;cases hr
 | cons h1 _ ih =>
  intro r hr
  rcases List.mem_cons.1 hr with rfl | hr
  ·exact d.ow_rd h1
  ·exact ih r hr
theorem Ows.append {rs ts:List (α×d.S)} (h:Ows d w F rs) (k:Ows d w G ts):Ows d w (F ++ G) (rs ++ ts):=by
 induction h with
 | nil=>exact k
 | cons h1 _ ih =>
  rw [List.append_assoc]
  exact .cons h1 ih
theorem Ows.one {r:α×d.S} (h:d.ow w F r.1 r.2):Ows d w F [r]:=by
 have:=Ows.cons h (Ows.nil (d:=d) (w:=w))
 rwa [List.append_nil] at this
theorem Ows.split {rs:List (α×d.S)} (h:Ows d w F rs) (k:Nat) (hk:k<=rs.length):∃ F1 F2,F=F1 ++ F2/\Ows d w F1 (rs.take k)/\Ows d w F2 (rs.drop k):=by
 induction h generalizing k with
 | nil=>exact ⟨[],[],rfl,by simpa using Ows.nil,by simpa using Ows.nil⟩
 | @cons F G r rs h1 h2 ih =>
  cases k with
  | zero=>exact ⟨[],F ++ G,rfl,by simpa using Ows.nil,by simpa using Ows.cons h1 h2⟩
  | succ k =>
   obtain ⟨F1,F2,rfl,h3,h4⟩:=ih k (by simpa using hk)
   exact ⟨F ++ F1,F2,by rw [List.append_assoc],by simpa using Ows.cons h1 h3,by simpa using h4⟩
theorem Ows.head {r:α×d.S} {rs:List (α×d.S)} (h:Ows d w F (r :: rs)):∃ F1 F2,F=F1 ++ F2/\d.ow w F1 r.1 r.2/\Ows d w F2 rs:=by
 cases h with
 | cons h1 h2=>exact ⟨_,_,rfl,h1,h2⟩
def OwL (d:Dt α) (w:World) (F:List Nat) (v:Value) (l:List α):Prop :=
 ∃ (rs:List (α×d.S)) (H G:List Nat),rs.map (·.1)=l/\Hw d.enc w H v rs/\Ows d w G rs/\F=H ++ G/\F.Nodup
theorem OwL.keep (h:OwL d w F v l) (hs:w.heap.size<=w'.heap.size) (hk:∀ b∈F,w'.heap[b]? = w.heap[b]?):OwL d w' F v l:=by
 obtain ⟨rs,H,G,hm,hh,ho,rfl,hn⟩:=h
 exact ⟨rs,H,G,hm,hh.keep hs fun b hb=>hk b (List.mem_append_left _ hb),ho.keep hs fun b hb=>hk b (List.mem_append_right _ hb),rfl,hn⟩
theorem OwL.lt (h:OwL d w F v l):∀ b∈F,b<w.heap.size:=by
 obtain ⟨rs,H,G,hm,hh,ho,rfl,hn⟩:=h
 intro b hb
 rcases List.mem_append.1 hb with hb | hb
 ·exact hh.lt b hb
 ·exact ho.lt b hb
theorem OwL.nodup (h:OwL d w F v l):F.Nodup:=by
 obtain ⟨rs,H,G,hm,hh,ho,rfl,hn⟩:=h
 exact hn
theorem OwL.rd (h:OwL d w F v l):RdL d w w.heap.size v l:=by
 obtain ⟨rs,H,G,hm,hh,ho,rfl,hn⟩:=h
 exact ⟨rs,hm,hh.rd,ho.rd⟩
theorem OwL.chg (h:OwL d w F v l) (hc:Chg G w w') (hd:∀ b∈F,b∉G):OwL d w' F v l:=h.keep hc.size fun b hb=>hc.block b (h.lt b hb) (hd b hb)
theorem OwL.below (h:OwL d w F v l) (hb:Below w.heap.size w w'):OwL d w' F v l:=h.keep hb.size fun b hF=>hb.block b (h.lt b hF)
theorem OwL.nil (d:Dt α) (w:World) (A:Option Addr) (c:Nat):OwL d w [] (.slice A 0 c) []:=⟨[],[],[],rfl,Hw.nil _ _ _ _,.nil,rfl,List.nodup_nil⟩
theorem OwL.form (h:OwL d w F v l):∃ A c,v = .slice A l.length c/\l.length<=c:=h.rd.form
@[reducible] def Dt.list (d:Dt α):Dt (List α) where
 S:=Sl
 enc:={ cells:=fun p=>[p.2.v],sz:=1,len:=fun _=>rfl,one:=fun p u hu=>by simp at hu;subst hu;rfl }
 rd w B l s:=RdL d w B s.v l
 ow w F l s:=OwL d w F s.v l
 rd_keep h hB hk:=h.keep hB hk
 ow_keep h hs hk:=h.keep hs hk
 ow_lt h:=h.lt
 ow_rd h:=h.rd
 ow_nodup h:=h.nodup
@[reducible] def Dt.flats (e:Enc α):Dt (List α) where
 S:=Sl
 enc:={ cells:=fun p=>[p.2.v],sz:=1,len:=fun _=>rfl,one:=fun p u hu=>by simp at hu;subst hu;rfl }
 rd w B l s:=Rd e w B s.v l
 ow w F l s:=Hw e w F s.v l
 rd_keep h hB hk:=(h.keep hk).more hB
 ow_keep h hs hk:=h.keep hs hk
 ow_lt h:=h.lt
 ow_rd h:=h.rd
 ow_nodup h:=h.nodup
@[reducible] def Dt.flat {β:Type} (cells:β×Unit->List Value) (sz:Nat) (len:∀ x,(cells x).length=sz) (one:∀ x,∀ u∈cells x,u.oneCell'=true):Dt β where
 S:=Unit
 enc:={ cells:=cells,sz:=sz,len:=len,one:=one }
 rd _ _ _ _:=True
 ow _ F _ _:=F=[]
 rd_keep _ _ _:=trivial
 ow_keep h _ _:=h
 ow_lt h:=by subst h;intro b hb;cases hb
 ow_rd _:=trivial
 ow_nodup h:=by subst h;exact List.nodup_nil
@[reducible] def Dt.via {β:Type} (d:Dt α) (f:β->α) (cells:β×d.S->List Value) (sz:Nat) (len:∀ x,(cells x).length=sz) (one:∀ x,∀ u∈cells x,u.oneCell'=true):Dt β where
 S:=d.S
 enc:={ cells:=cells,sz:=sz,len:=len,one:=one }
 rd w B x s:=d.rd w B (f x) s
 ow w F x s:=d.ow w F (f x) s
 rd_keep h hB hk:=d.rd_keep h hB hk
 ow_keep h hs hk:=d.ow_keep h hs hk
 ow_lt h:=d.ow_lt h
 ow_rd h:=d.ow_rd h
 ow_nodup h:=d.ow_nodup h
@[reducible] def Dt.two {β γ:Type} (d:Dt α) (d':Dt γ) (f:β->α) (g:β->γ) (cells:β×(d.S×d'.S)->List Value) (sz:Nat) (len:∀ x,(cells x).length=sz) (one:∀ x,∀ u∈cells x,u.oneCell'=true):Dt β where
 S:=d.S×d'.S
 enc:={ cells:=cells,sz:=sz,len:=len,one:=one }
 rd w B x s:=d.rd w B (f x) s.1/\d'.rd w B (g x) s.2
 ow w F x s:=∃ F1 F2,F=F1 ++ F2/\F.Nodup/\d.ow w F1 (f x) s.1/\d'.ow w F2 (g x) s.2
 rd_keep h hB hk:=⟨d.rd_keep h.1 hB hk,d'.rd_keep h.2 hB hk⟩
 ow_keep:=fun ⟨F1,F2,hF,hn,h1,h2⟩ hs hk=>⟨F1,F2,hF,hn,d.ow_keep h1 hs fun b hb=>hk b (by rw [hF];exact List.mem_append_left _ hb),d'.ow_keep h2 hs fun b hb=>hk b (by rw [hF];exact List.mem_append_right _ hb)⟩
 ow_lt:=fun ⟨F1,F2,hF,hn,h1,h2⟩ b hb=>by
  rw [hF] at hb
  rcases List.mem_append.1 hb with hb | hb
  ·exact d.ow_lt h1 b hb
  ·exact d'.ow_lt h2 b hb
 ow_rd:=fun ⟨F1,F2,hF,hn,h1,h2⟩=>⟨d.ow_rd h1,d'.ow_rd h2⟩
 ow_nodup:=fun ⟨F1,F2,hF,hn,h1,h2⟩=>hn
theorem Dt.ow_chg (d:Dt α) {x:α} {s:d.S} (h:d.ow w F x s) (hc:Chg G w w') (hd:∀ b∈F,b∉G):d.ow w' F x s:=d.ow_keep h hc.size fun b hb=>hc.block b (d.ow_lt h b hb) (hd b hb)
theorem Dt.ow_below (d:Dt α) {x:α} {s:d.S} (h:d.ow w F x s) (hb:Below w.heap.size w w'):d.ow w' F x s:=d.ow_keep h hb.size fun b hF=>hb.block b (d.ow_lt h b hF)
theorem Dt.rd_below (d:Dt α) {x:α} {s:d.S} (h:d.rd w B x s) (hb:Below B w w'):d.rd w' B x s:=d.rd_keep h (Nat.le_refl _) fun _ hp=>hb.cell hp
theorem Dt.rd_more (d:Dt α) {x:α} {s:d.S} (h:d.rd w B x s) (hB:B<=B'):d.rd w B' x s:=d.rd_keep h hB fun _ _=>rfl
def Cj (d:Dt α) (val:α->d.S->Value) (x:α) (w:World) (e:Ending) (w':World):Prop :=
 ∃ s F,e = .returned (val x s)/\d.ow w' F x s/\(∀ b∈F,w.heap.size<=b)/\Below w.heap.size w w'
end
section
variable {α:Type} {d:Dt α} {w w':World} {v:Value} {l:List α} {F G:List Nat}
theorem Dt.ow_set (d:Dt α) {x:α} {s:d.S} (h:d.ow w F x s) {a:Addr} (ha:a.block∉F) (u:Value):d.ow (w.setCell a u) F x s :=
 d.ow_keep h (by simp [World.setCell]) fun b hb=>Below.heap_setCell w a u b (fun e=>ha (by rw [<-e];exact hb))
theorem OwL.set (h:OwL d w F v l) {a:Addr} (ha:a.block∉F) (u:Value):OwL d (w.setCell a u) F v l :=
 h.keep (by simp [World.setCell]) fun b hb=>Below.heap_setCell w a u b (fun e=>ha (by rw [<-e];exact hb))
theorem Hw.set {e:Enc α} (h:Hw e w F v l) {a:Addr} (ha:a.block∉F) (u:Value):Hw e (w.setCell a u) F v l :=
 h.keep (by simp [World.setCell]) fun b hb=>Below.heap_setCell w a u b (fun e=>ha (by rw [<-e];exact hb))
theorem Ows.bel {rs:List (α×d.S)} (h:Ows d w F rs) (hb:Below w.heap.size w w'):Ows d w' F rs:=h.keep hb.size fun b hF=>hb.block b (h.lt b hF)
theorem Ows.chg {rs:List (α×d.S)} (h:Ows d w F rs) (hc:Chg G w w') (hd:∀ b∈F,b∉G):Ows d w' F rs:=h.keep hc.size fun b hb=>hc.block b (h.lt b hb) (hd b hb)
end
theorem E6 (v:Value) (n:Nat):∀ b∈Cm v n,v.ownBlock=some b:=by
 intro b hb
 unfold Cm at hb
 split at hb
 ·cases hb
 ·cases h:v.ownBlock with
  | none=>rw [h] at hb;cases hb
  | some g =>
   rw [h] at hb
   simp at hb
   rw [hb]
section
variable {α:Type} {d:Dt α} {E:TypeId} {w w1 w':World} {base:Nat} {v:Value} {rs:List (α×d.S)}
def Bld (d:Dt α) (E:TypeId) (w:World) (base:Nat) (v:Value) (rs:List (α×d.S)):Prop :=
 ∃ G,Ow d.enc E w base v rs/\Ows d w G rs/\G.Nodup /\ ∀ b∈G,base<=b/\v.ownBlock≠some b
theorem Bld.nil (d:Dt α) (E:TypeId) (w:World) (base:Nat):Bld d E w base (.slice none 0 0) []:=⟨[],Ow.nil _ _ _ _,.nil,List.nodup_nil,fun _ h=>by cases h⟩
theorem Bld.of_empty {v:Value} (h:Ow d.enc E w base v []):Bld d E w base v []:=⟨[],h,.nil,List.nodup_nil,fun _ h=>by cases h⟩
theorem Bld.below (h:Bld d E w base v rs) (hb:Below w.heap.size w w'):Bld d E w' base v rs:=by
 obtain ⟨G,h1,h2,h3,h4⟩:=h
 exact ⟨G,h1.below hb,h2.bel hb,h3,h4⟩
theorem Bld.ow (h:Bld d E w base v rs):Ow d.enc E w base v rs:=by
 obtain ⟨G,h1,_⟩:=h
 exact h1
theorem Bld.rd (h:Bld d E w base v rs):RdL d w w.heap.size v (rs.map (·.1)):=by
 obtain ⟨G,h1,h2,_⟩:=h
 exact ⟨rs,rfl,Rd.of_own h1,h2.rd⟩
theorem Bld.push {v3:Value} {w3:World} {ts:List (α×d.S)} {F:List Nat} (h:Bld d E w base v rs) (hb:Below w.heap.size w w1) (ht:Ows d w1 F ts) (hF:∀ b∈F,w.heap.size<=b) (hn:F.Nodup) (aS:base<=w.heap.size)
  (ho:Ow d.enc E w3 base v3 (rs ++ ts)) (hg:w1.grownBy w3 v.ownBlock) (hv:v3.ownBlock=v.ownBlock \/ ∃ g,v3.ownBlock=some g/\w1.heap.size<=g):Bld d E w3 base v3 (rs ++ ts):=by
 obtain ⟨G,h1,h2,h3,h4⟩:=h
 have hG:∀ b∈G,b<w.heap.size:=h2.lt
 have cH:∀ b∈F,b<w1.heap.size:=ht.lt
 have uF:∀ b∈F,v.ownBlock≠some b:=fun b hb he=>by
  rcases h1.form with ⟨rfl,_⟩ | ⟨g,cap,rfl,_,aA,_⟩
  ·simp [Value.ownBlock] at he
  ·have:g=b:=by simpa [Value.ownBlock] using he
   have:=hF b hb
   omega
 have hs:=hb.size
 refine ⟨G ++ F,ho,?_,?_,?_⟩
 ·refine Ows.append ((h2.bel hb).keep hg.size fun b hbG=>hg.block b (by have:=hG b hbG;omega) ?_) (ht.keep hg.size fun b cP=>hg.block b (cH b cP) ?_)
  ·exact fun e=>(h4 b hbG).2 e.symm
  ·exact fun e=>uF b cP e.symm
 ·rw [List.nodup_append]
  refine ⟨h3,hn,fun a ha b bG e=>?_⟩
  have:=hG a ha
  have:=hF b bG
  omega
 ·intro b hbm
  rcases List.mem_append.1 hbm with hbm | hbm
  ·refine ⟨(h4 b hbm).1,?_⟩
   rcases hv with hv | ⟨g,hv,aA⟩
   ·rw [hv];exact (h4 b hbm).2
   ·rw [hv]
    intro e
    have:=hG b hbm
    injection e with e
    omega
  ·refine ⟨by have:=hF b hbm;omega,?_⟩
   rcases hv with hv | ⟨g,hv,aA⟩
   ·rw [hv];exact uF b hbm
   ·rw [hv]
    intro e
    have:=cH b hbm
    injection e with e
    omega
theorem Bld.owl (h:Bld d E w base v rs) {l:List α} (hl:rs.map (·.1)=l):∃ F,OwL d w F v l /\ ∀ b∈F,base<=b:=by
 obtain ⟨G,h1,h2,h3,h4⟩:=h
 obtain ⟨h5,h6⟩:=Hw.of_ow h1
 refine ⟨_,⟨rs,_,G,hl,h5,h2,rfl,?_⟩,?_⟩
 ·rw [List.nodup_append]
  refine ⟨Hr _ _,h3,fun a ha b hb e=>?_⟩
  subst e
  exact (h4 a hb).2 (E6 _ _ _ ha)
 ·intro b hb
  rcases List.mem_append.1 hb with hb | hb
  ·exact h6 b hb
  ·exact (h4 b hb).1
theorem Bld.lay {g:Nat} {rs:List (α×d.S)} {w2:World} {F G:List Nat} {r:α×d.S} (h1:Ows d w G rs) (h3:G.Nodup) (h4:∀ b∈G,g<b) (hb:Below w.heap.size w w1) (hr:d.ow w1 F r.1 r.2) (hF:∀ b∈F,w.heap.size<=b) (hg:g<w.heap.size)
  (mI:w1.grownBy w2 (some g)):Ows d w2 (G ++ F) (rs ++ [r])/\(G ++ F).Nodup /\ ∀ b∈G ++ F,g<b:=by
 have hG:∀ b∈G,b<w.heap.size:=h1.lt
 have hs:=hb.size
 refine ⟨Ows.append ((h1.bel hb).keep mI.size fun b hbG=>mI.block b (by have:=hG b hbG;omega) ?_) ((Ows.one hr).keep mI.size fun b cP=>mI.block b (d.ow_lt hr b cP) ?_),?_,?_⟩
 ·intro e
  have:=h4 b hbG
  injection e with e
  omega
 ·intro e
  have:=hF b cP
  injection e with e
  omega
 ·rw [List.nodup_append]
  refine ⟨h3,d.ow_nodup hr,fun a ha b bG e=>?_⟩
  have:=hG a ha
  have:=hF b bG
  omega
 ·intro b hbm
  rcases List.mem_append.1 hbm with hbm | hbm
  ·exact h4 b hbm
  ·have:=hF b hbm
   omega
end
abbrev slV {α:Type} (_:α) (s:Sl):Value:=.slice s.a s.n s.c
section
variable {α:Type} {d:Dt α} {w w':World} {b o n c j:Nat} {rs:List (α×d.S)} {G1 Fx G2:List Nat} {x y:α} {s:d.S}
structure Foc (d:Dt α) (w:World) (b o n c:Nat) (rs:List (α×d.S)) (j:Nat) (G1 Fx G2:List Nat) (x:α) (s:d.S):Prop where
 rd:Rd d.enc w w.heap.size (.slice (some ⟨b,o,none⟩) n c) (rs.set j (x,s))
 free:∀ i,w.frozen? ⟨b,i,none⟩=false
 left:Ows d w G1 (rs.take j)
 here:d.ow w Fx x s
 right:Ows d w G2 (rs.drop (j+1))
 lt:j<rs.length
 nodup:([b] ++ (G1 ++ (Fx ++ G2))).Nodup
 blk:b<w.heap.size
theorem Foc.apart (h:Foc d w b o n c rs j G1 Fx G2 x s):(b∉G1/\b∉Fx/\b∉G2)/\(∀ a∈G1,a∉Fx)/\(∀ a∈G2,a∉Fx):=by
 have h1:=h.nodup
 simp only [List.cons_append,List.nil_append,List.nodup_cons,List.mem_append,not_or,List.nodup_append] at h1
 obtain ⟨⟨a1,a2,a3⟩,_,⟨_,_,a4⟩,a5⟩:=h1
 exact ⟨⟨a1,a2,a3⟩,fun a ha hx=>a5 a ha a (.inl hx) rfl,fun a ha hx=>a4 a hx a ha rfl⟩
theorem Foc.cells (h:Foc d w b o n c rs j G1 Fx G2 x s):∀ i u,(d.enc.cells (x,s))[i]? = some u->w.cell? ⟨b,o+j * d.enc.sz+i,none⟩=some u:=by
 intro i u hu
 obtain ⟨A',c',hv,_,hA⟩:=h.rd
 simp only [Value.slice.injEq] at hv
 obtain ⟨rfl,_,_⟩:=hv
 have hl:j<(rs.set j (x,s)).length:=by rw [List.length_set];exact h.lt
 obtain ⟨b',o',he,_,hc⟩:=hA (by omega)
 simp only [Option.some.injEq,Addr.mk.injEq,and_true] at he
 obtain ⟨rfl,rfl⟩:=he
 exact hc j hl i u (by rw [List.getElem_set_self];exact hu)
theorem Foc.put (h:Foc d w b o n c rs j G1 Fx G2 x s) (y:α) (off:Nat) (us:List Value) (hoff:off+us.length<=d.enc.sz)
  (cC:∀ i (hi:i<us.length),(d.enc.cells (y,s))[off+i]? = some us[i]) (eX:∀ i,i<d.enc.sz->(i<off\/off+us.length<=i)->(d.enc.cells (y,s))[i]? = (d.enc.cells (x,s))[i]?)
  (hy:∀ W,d.ow W Fx x s->d.ow W Fx y s):Foc d (E9 w b (o+j * d.enc.sz+off) us) b o n c rs j G1 Fx G2 y s/\Chg [b] w (E9 w b (o+j * d.enc.sz+off) us):=by
 have hc:=Gk us w b (o+j * d.enc.sz+off)
 obtain ⟨⟨a1,a2,a3⟩,_,_⟩:=h.apart
 refine ⟨⟨?_,fun i=>by rw [Gl];exact h.free i,h.left.chg hc ?_,hy _ (Dt.ow_chg d h.here hc ?_),h.right.chg hc ?_,h.lt,h.nodup,by rw [Hg];exact h.blk⟩,hc⟩
 ·have hl:j<(rs.set j (x,s)).length:=by rw [List.length_set];exact h.lt
  have:=h.rd.part j hl (y,s) off us hoff cC (by rw [List.getElem_set_self];exact eX)
  rw [List.set_set] at this
  rw [Hg]
  exact this
 all_goals
  intro x hx hb
  simp only [List.mem_singleton] at hb
  subst hb
  first | exact a1 hx | exact a2 hx | exact a3 hx
theorem Foc.sub (h:Foc d w b o n c rs j G1 Fx G2 x s) (hc:Chg Fx w w') (hy:d.ow w' Fx y s) (hcells:d.enc.cells (y,s)=d.enc.cells (x,s)):Foc d w' b o n c rs j G1 Fx G2 y s:=by
 obtain ⟨⟨a1,a2,a3⟩,a4,a5⟩:=h.apart
 refine ⟨?_,fun i=>by rw [hc.frozen (p:=⟨b,i,none⟩) h.blk a2];exact h.free i,h.left.chg hc a4,hy,h.right.chg hc a5,h.lt,h.nodup,Nat.lt_of_lt_of_le h.blk hc.size⟩
 have hl:j<(rs.set j (x,s)).length:=by rw [List.length_set];exact h.lt
 have h1:=h.rd.keepF (w':=w') hc.size (fun b' bG i=>by
  have:=E6 _ _ _ bG
  have:b=b':=by simpa [Value.ownBlock] using this
  subst this
  exact hc.cell (p:=⟨b,i,none⟩) h.blk a2)
 have h2:=h1.same j hl (y,s) (by rw [List.getElem_set_self];exact hcells)
 rwa [List.set_set] at h2
theorem Foc.start {F1 F2:List Nat} (hr:Rd d.enc w w.heap.size (.slice (some ⟨b,o,none⟩) n c) rs) (hf:∀ i,w.frozen? ⟨b,i,none⟩=false) (h1:Ows d w F1 (rs.take j)) (h2:Ows d w F2 (rs.drop j)) (hj:j<rs.length) (hn:([b] ++ (F1 ++ F2)).Nodup) (hb:b<w.heap.size) :
  ∃ Fx G2,F2=Fx ++ G2/\Foc d w b o n c rs j F1 Fx G2 rs[j].1 rs[j].2:=by
 rw [<-List.getElem_cons_drop hj] at h2
 obtain ⟨Fx,G2,rfl,h3,h4⟩:=h2.head
 refine ⟨Fx,G2,rfl,⟨?_,hf,h1,h3,h4,hj,hn,hb⟩⟩
 have:rs.set j (rs[j].1,rs[j].2)=rs:=List.set_getElem_self hj
 rw [this]
 exact hr
end
theorem OwL.foc {α:Type} {d:Dt α} {w:World} {F:List Nat} {A:Option Addr} {n c:Nat} {l:List α} (h:OwL d w F (.slice A n c) l) {j:Nat} (hj:j<l.length) :
  ∃ (b o:Nat) (rs:List (α×d.S)) (s:d.S) (G1 Fx G2:List Nat),A=some ⟨b,o,none⟩/\F=[b] ++ (G1 ++ (Fx ++ G2))/\rs.map (·.1)=l/\Foc d w b o n c rs j G1 Fx G2 l[j] s:=by
 obtain ⟨rs,H,G,hm,hh,ho,rfl,hn⟩:=h
 subst hm
 rw [List.length_map] at hj
 obtain ⟨b,o,rfl,rfl,hb,hf⟩:=hh.at_ (by omega)
 obtain ⟨F1,F2,rfl,h1,h2⟩:=ho.split j (Nat.le_of_lt hj)
 obtain ⟨Fx,G2,rfl,h3⟩:=Foc.start hh.rd hf h1 h2 hj hn hb
 refine ⟨b,o,rs,rs[j].2,F1,Fx,G2,rfl,rfl,rfl,?_⟩
 rw [List.getElem_map]
 exact h3
theorem Foc.owl {α:Type} {d:Dt α} {w:World} {b o n c j:Nat} {rs:List (α×d.S)} {G1 Fx G2:List Nat} {x:α} {s:d.S} {l:List α} (h:Foc d w b o n c rs j G1 Fx G2 x s) (hm:rs.map (·.1)=l) :
  OwL d w ([b] ++ (G1 ++ (Fx ++ G2))) (.slice (some ⟨b,o,none⟩) n c) (l.set j x):=by
 refine ⟨rs.set j (x,s),[b],G1 ++ (Fx ++ G2),by rw [List.map_set,hm],⟨h.rd,?_,?_⟩,?_,rfl,h.nodup⟩
 ·unfold Cm
  rw [if_neg (by rw [List.length_set];have:=h.lt;omega)]
  rfl
 ·intro g hg i
  have:g=b:=by simpa using hg
  subst this
  exact h.free i
 ·have e:rs.set j (x,s)=rs.take j ++ (x,s) :: rs.drop (j+1):=by rw [List.set_eq_take_append_cons_drop,if_pos h.lt]
  rw [e]
  exact h.left.append (.cons h.here h.right)
theorem V2 {α:Type} (rs:List α) (z:α) (k n:Nat) {y:α} (h:rs.length=k) (aA:k<n):(rs ++ List.replicate (n - k) z).set k y=(rs ++ [y]) ++ List.replicate (n - (k+1)) z:=by
 rw [List.set_append_right _ _ (by omega),h,Nat.sub_self,show n - k=(n - (k+1))+1 from by omega,List.replicate_succ,List.set_cons_zero,List.append_assoc,List.singleton_append]
def Gd {α:Type} (cnt:α->Nat) (l:List α):Nat:=l.length+(l.map cnt).sum
theorem Cq {α:Type} {cnt:α->Nat} : ∀ {l:List α} {x:α},x∈l->cnt x+1<=Gd cnt l
 | y :: l,x,h=>by
  unfold Gd
  simp only [List.length_cons,List.map_cons,List.sum_cons]
  rcases List.mem_cons.1 h with rfl | h
  ·omega
  ·have:=Cq (cnt:=cnt) h
   unfold Gd at this
   omega
theorem Ar {α:Type} (cnt:α->Nat) (l:List α):l.length<=Gd cnt l:=Nat.le_add_right _ _
theorem Ta {α:Type} (f:α->Nat) (l:List α) (k:Nat) (h:k<l.length):((l.take (k+1)).map f).sum=((l.take k).map f).sum+f l[k]:=by
 rw [Ay l k h,List.map_append,List.sum_append]
 simp
theorem El {α:Type} {cnt:α->Nat} (h:∀ x,cnt x=0):∀ l:List α,Gd cnt l=l.length
 | []=>rfl
 | x :: l=>by
  have:=El h l
  unfold Gd at *
  simp only [List.length_cons,List.map_cons,List.sum_cons,h x] at *
  omega
def wfL {α:Type} (wf:α->Prop) (l:List α):Prop:=l.length<=9223372036854775807 /\ ∀ x∈l,wf x
section
variable {α:Type} (mk:Int->α->α) (num:α->Nat)
end
theorem Oa (p:Plan) (ve:Value) (w:World) (h:Rd Ei w w.heap.size ve p.edges) (hm:Cu p=true) :
  Calls Tryz.prog 164 #[Ee p ve] w fun e w'=>e = .returned (.int .i64 (Aq p))/\Below w.heap.size w w':=by
 have Hm:=Lib.hid hm
 obtain ⟨t1,t2⟩:=Ch hm
 have aJ:=Dh hm
 have hlen2:p.edges.length<=2000000:=by omega
 have hlI:¬ (30:Int)<(p.edges.length:Int):=by omega
 have hlB:decide ((30:Int)<(p.edges.length:Int))=false:=by simpa using hlI
 obtain ⟨A,c,rfl,-⟩:=id h
 have bY:=h.cap
 unfold Ee
 simp only [Cu,Bool.and_eq_true] at hm
 obtain ⟨⟨⟨⟨h1,-⟩,h3⟩,h4⟩,h5⟩:=hm
 go_enter Tryz.func164,Tryz.ntmps164
 go_wp2_with (go_at_call 58;refine (Ap _ _ _ _).mono ?_;rintro e w' ⟨rfl,rfl⟩)
 go_loopw [40] (fun i wr=>∃ k:Nat,k<=p.edges.length/\i = .int .i64 k/\Hid (∀ j (hj:j<p.edges.length),j<k->Gy p.tasks p.edges[j]=true)/\Below (Ci 43 p (.slice A p.edges.length c) w).heap.size (Ci 43 p (.slice A p.edges.length c) w) wr) (fun i _=>p.edges.length - (intOf i).toNat)
 case atStart=>exact ⟨0,Nat.zero_le _,rfl,fun j hj h0=>absurd h0 (by omega),Below.refl _ _⟩
 case round =>
  obtain ⟨k,hk,rfl,aW,hb⟩:=hrel
  obtain ⟨x0,x1,x2,x3,x4,hs,bN⟩:=Dn hb
  have bJ:w.heap.size<wr.heap.size:=by omega
  by_cases aA:k<p.edges.length
  ·obtain ⟨b,o,rfl,aH,c0,c1⟩:=(h.below bN).edge aA
   have hba:=hb.alloc hb.size (.cells #[.int .i64 p.edges[k].fr,.int .i64 p.edges[k].to] 199)
   have hbwa:=bN.alloc bN.size (.cells #[.int .i64 p.edges[k].fr,.int .i64 p.edges[k].to] 199)
   have bad:Gy p.tasks p.edges[k]=false->Hid (Aq p=2):=fun hf=>Lc Hm.out (fun cC=>by
    rw [cC _ (List.getElem_mem aA)] at hf;cases hf)
   cases g1:inB p.edges[k].fr 0 (p.tasks - 1)
   ·have H:=bad (by simp [Gy,g1])
    clear bad
    go_wp2_with (go_at_call 58;refine (Ap _ _ _ _).mono ?_;rintro e w' ⟨rfl,rfl⟩)
    go_ret
    exact ⟨Bw H.out.symm,hbwa⟩
   cases g2:inB p.edges[k].to 0 (p.tasks - 1)
   ·have H:=bad (by simp [Gy,g2])
    clear bad
    go_wp2_with (go_at_call 58;refine (Ap _ _ _ _).mono ?_;rintro e w' ⟨rfl,rfl⟩)
    go_ret
    exact ⟨Bw H.out.symm,hbwa⟩
   ·have S:Hid (∀ j (hj:j<p.edges.length),j<k+1->Gy p.tasks p.edges[j]=true):=by
     intro j hj fD
     by_cases e:j=k
     ·subst e;simp [Gy,g1,g2]
     ·exact aW.out j hj (by omega)
    clear bad
    go_wp2_with (go_at_call 58;refine (Ap _ _ _ _).mono ?_;rintro e w' ⟨rfl,rfl⟩)
    exact ⟨⟨k+1,by omega,by go_num,S,hba⟩,by simp [intOf];omega⟩
  ·have cC:Hid (Eu p):=fun e he=>by
    obtain ⟨j,hj,rfl⟩:=List.getElem_of_mem he
    exact aW.out j hj (by omega)
   clear aW hk
   go_wp2
   go_loopw [64] (fun i wr=>∃ k:Nat,k<=p.edges.length/\i = .int .i64 k/\Hid ((p.edges.take k).Nodup)/\Below (Ci 43 p (.slice A p.edges.length c) w).heap.size (Ci 43 p (.slice A p.edges.length c) w) wr) (fun i _=>p.edges.length - (intOf i).toNat)
   case atStart=>exact ⟨0,Nat.zero_le _,rfl,by show (p.edges.take 0).Nodup;simp,hb⟩
   case round =>
    clear hb x0 x1 x2 x3 x4 hs bN bJ
    obtain ⟨k,hk,rfl,aW,hb⟩:=hrel
    obtain ⟨x0,x1,x2,x3,x4,hs,bN⟩:=Dn hb
    have bJ:w.heap.size<wr.heap.size:=by omega
    have mY:k<=c:=by omega
    by_cases aA:k<p.edges.length
    ·obtain ⟨b,o,rfl,aH,c0,c1⟩:=(h.below bN).edge aA
     have hba:=hb.alloc hb.size (.cells #[.int .i64 p.edges[k].fr,.int .i64 p.edges[k].to] 199)
     have hbwa:=bN.alloc bN.size (.cells #[.int .i64 p.edges[k].fr,.int .i64 p.edges[k].to] 199)
     have n0:(wr.alloc (.cells #[.int .i64 p.edges[k].fr,.int .i64 p.edges[k].to] 199)).cell? ⟨wr.heap.size,0,none⟩=some (.int .i64 p.edges[k].fr):=by go_simp
     have n1:(wr.alloc (.cells #[.int .i64 p.edges[k].fr,.int .i64 p.edges[k].to] 199)).cell? ⟨wr.heap.size,1,none⟩=some (.int .i64 p.edges[k].to):=by go_simp
     have x4':(wr.alloc (.cells #[.int .i64 p.edges[k].fr,.int .i64 p.edges[k].to] 199)).cell? ⟨w.heap.size,4,none⟩=some (.slice (some ⟨b,o,none⟩) p.edges.length c):=by
      rw [World.cell?_alloc_lt _ _ _ (by simp;omega)];exact x4
     have z1:wr.heap.size<(wr.alloc (.cells #[.int .i64 p.edges[k].fr,.int .i64 p.edges[k].to] 199)).heap.size:=by simp
     have z2:w.heap.size<(wr.alloc (.cells #[.int .i64 p.edges[k].fr,.int .i64 p.edges[k].to] 199)).heap.size:=by simp;omega
     have pI:=(Rd.take (k:=k) (c':=c) (h.below bN) (by omega) mY)
     have aS:Below w.heap.size w (wr.alloc (.cells #[.int .i64 p.edges[k].fr,.int .i64 p.edges[k].to] 199)):=hbwa
     have hrd2:Rd Ei (wr.alloc (.cells #[.int .i64 p.edges[k].fr,.int .i64 p.edges[k].to] 199)) w.heap.size (.slice (some ⟨b,o,none⟩) k c) (p.edges.take k):=Rd.take (h.below aS) (by omega) c mY
     have aR:(p.edges.take k).length<=2000000:=by simp;omega
     clear pI
     by_cases gH:p.edges[k]∈p.edges.take k
     ·have H:Hid (Aq p=3):=K1 Hm.out cC.out (fun bK=>by
       have h1:(p.edges.take (k+1)).Nodup:=bK.sublist (List.take_sublist _ _)
       rw [Ay _ k aA] at h1
       exact (Kn.1 h1).2 gH)
      have hmb:decide (p.edges[k]∈p.edges.take k)=true:=by simpa using gH
      clear gH
      go_wp2
      generalize wr.alloc (.cells #[.int .i64 p.edges[k].fr,.int .i64 p.edges[k].to] 199)=W2 at *
      have aN:=Bk W2
      refine Ad (by kernel_rfl) (by kernel_rfl) ?_
      repeat (go_big_quiet_step ((go_at_call 224;rename_i x;have h1:=Kc _ (p.edges.take k) p.edges[k] x.1 aR ((hrd2.below (x.2.mono aS.size)).more (Nat.le_trans aS.size x.2.size));rw [hmb] at h1;exact Dg h1)))
      refine wpQuiet_nil ?_
      rintro _ ⟨⟨w1,aL⟩,rfl⟩
      clear aN
      go_wp2
      go_ret
      exact ⟨Bw H.out.symm,Aa aS aL⟩
     ·have S:Hid ((p.edges.take (k+1)).Nodup):=by
       show (p.edges.take (k+1)).Nodup
       rw [Ay _ k aA]
       exact Kn.2 ⟨aW.out,gH⟩
      have hmb:decide (p.edges[k]∈p.edges.take k)=false:=by simpa using gH
      clear gH
      go_wp2
      generalize wr.alloc (.cells #[.int .i64 p.edges[k].fr,.int .i64 p.edges[k].to] 199)=W2 at *
      have aN:=Bk W2
      refine Ad (by kernel_rfl) (by kernel_rfl) ?_
      repeat (go_big_quiet_step ((go_at_call 224;rename_i x;have h1:=Kc _ (p.edges.take k) p.edges[k] x.1 aR ((hrd2.below (x.2.mono aS.size)).more (Nat.le_trans aS.size x.2.size));rw [hmb] at h1;exact Dg h1)))
      refine wpQuiet_nil ?_
      rintro _ ⟨⟨w1,aL⟩,rfl⟩
      clear aN
      go_wp2
      exact ⟨⟨k+1,by omega,by go_num,S,hba.trans (aL.mono hba.size)⟩,by simp [intOf];omega⟩
    ·have bK:Hid p.edges.Nodup:=by
      have h1:=aW.out
      rw [List.take_of_length_le (by omega)] at h1
      exact h1
     clear aW hk mY
     go_wp2_with fail
     refine (Z3 p (.slice A p.edges.length c) _ Hm.out cC.out ((h.below bN).more bN.size)).mono ?_
     rintro e w1 ⟨v1,rfl,o1,aL⟩
     have hbw1:=Aa bN aL
     obtain ⟨T,hT⟩:=Int.eq_ofNat_of_zero_le (show 0<=p.tasks by omega)
     have HT:=Lib.hid hT
     have kY:p.tasks.toNat=T:=by omega
     rw [kY] at o1
     have sD:1<=T:=by omega
     have qG:T<=12:=by omega
     have nC:=Pg.Ab8 (Ca p) T (by rw [<-kY];exact (Ju cC.out).1) (by rw [<-kY];exact (Ju cC.out).2)
     have jI:(Pg.I2 (Ca p) T (List.replicate T 0)).length=T:=by rw [Pg.Jj,List.length_replicate]
     have qM:=Lib.hid (show N8 p ↔ ∃ t,t<T/\Pg.Reach (Ca p) t t by unfold N8;rw [kY])
     have rL:∀ x∈Pg.I2 (Ca p) T (List.replicate T 0),x<2 ^ T:=Pg.Xv T _ _ (by rw [<-kY];exact (Ju cC.out).2) (fun x hx=>by
      have:=List.eq_of_mem_replicate hx
      subst this
      exact Nat.two_pow_pos T) T
     generalize Pg.I2 (Ca p) T (List.replicate T 0)=O at *
     have Hiff:=Lib.hid nC
     have HOl:=Lib.hid jI
     clear nC hT kY
     rcases o1.form with ⟨_,e0⟩ | ⟨g,cap,rfl,_,rH,_,_,_,_⟩
     ·exfalso
      rw [e0] at jI
      simp at jI
      omega
     rw [jI] at o1
     rw [jI]
     clear jI
     go_wp2
     go_loop [79] (fun i=>∃ k:Nat,k<=T/\i = .int .i64 k/\Hid (∀ j,j<k->(O.getD j 0).testBit j=false)) (fun i=>T - (intOf i).toNat)
     case atStart=>exact ⟨0,Nat.zero_le _,rfl,fun j hj=>absurd hj (by omega)⟩
     case round =>
      obtain ⟨k,hk,rfl,aW⟩:=hrel
      by_cases aR:k<T
      ·have ck:=o1.nat (k:=k) (by rw [HOl.out];exact aR)
       have sI:k<O.length:=by rw [HOl.out];exact aR
       have hx:O[k]<9223372036854775808:=Nat.lt_of_lt_of_le (rL _ (List.getElem_mem sI)) (Nat.le_trans (Nat.pow_le_pow_right (by omega) qG) (by decide))
       have hbt:=Aa7 O[k] k hx
       have hg:Hid (O.getD k 0=O[k]):=by unfold Hid;rw [List.getD_eq_getElem?_getD,List.getElem?_eq_getElem sI];rfl
       cases aF:O[k].testBit k
       ·rw [aF] at hbt
        have S:Hid (∀ j,j<k+1->(O.getD j 0).testBit j=false):=by
         intro j hj
         by_cases e:j=k
         ·subst e;rw [hg.out];exact aF
         ·exact aW.out j (by omega)
        go_wp2
        exact ⟨⟨k+1,by omega,by go_num,S⟩,by simp [intOf];omega⟩
       ·rw [aF] at hbt
        have H:Hid (Aq p=4):=K2 Hm.out cC.out bK.out (qM.out.2 ⟨k,aR,(Hiff.out k k).1 (by rw [hg.out];exact aF)⟩)
        go_wp2
        go_ret
        exact ⟨Bw H.out.symm,hbw1⟩
      ·have H:Hid (Aq p=0):=Bn.2 ⟨Hm.out,cC.out,bK.out,fun hc=>by
        obtain ⟨t,ht,hr⟩:=qM.out.1 hc
        have h1:=(Hiff.out t t).2 hr
        rw [aW.out t (by omega)] at h1
        cases h1⟩
       go_wp2
       go_ret
       exact ⟨Bw H.out.symm,hbw1⟩
theorem Ex (p:Plan) (ve:Value) (w:World) (hl:p.edges.length<=2000000) (h:Rd Ei w w.heap.size ve p.edges) :
  Calls Tryz.prog 164 #[Ee p ve] w fun e w'=>e = .returned (.int .i64 (Aq p))/\Below w.heap.size w w':=by
 cases hm:Cu p
 ·exact M4 p ve w hl h hm
 ·exact Oa p ve w h hm
theorem Us (p:Plan) (ve:Value) (w:World) (hl:p.edges.length<=2000000) (h:Rd Ei w w.heap.size ve p.edges) :
  Calls Tryz.prog 184 #[Ee p ve] w (M0 p w):=by
 obtain ⟨A,c,rfl,-⟩:=id h
 obtain ⟨i0,aP,aX,aV,aQ⟩:=info_parts To
 have cX:∀ W,Below w.heap.size w W->Rd Ei W W.heap.size (.slice A p.edges.length c) p.edges:=fun W hW=>(h.below hW).more hW.size
 unfold Ee
 go_enter Tryz.func184,Tryz.ntmps184
 go_wp2_with (at_builtin;refine Ak _ Ei (by decide) rfl (.const (.slice none 0 0)) (.tmp 4) rfl Tryz.underlying41 aP aX aV aQ rfl (v:=.slice none 0 0) (l:=[]) rfl (Ow.nil Ei 199 _ (w.heap.size+2)) rfl (cX _ (((Below.refl _ _).alloc (by simp<;>omega) _).alloc (by simp<;>omega) _)) (by simp) (by omega) (by decide) (by simp) ?_;intro v1 w1 o1 g1 _;rw [List.nil_append] at o1;obtain ⟨A1,c1,rfl,-⟩:=id (Rd.of_own o1);have aL:=(Below.refl (w.heap.size+2) _).grown g1 (by simp<;>omega) (fun k hk=>by simp [Value.ownBlock] at hk<;>omega);clear g1;have q1:∀ b o,b<w.heap.size+2->w1.cell? ⟨b,o,none⟩=_:=fun b o h=>aL.cell (p:=⟨b,o,none⟩) h;have q2:∀ b o,b<w.heap.size+2->w1.frozen? ⟨b,o,none⟩=_:=fun b o h=>aL.frozen (p:=⟨b,o,none⟩) h;have hs:=aL.size;simp only [World.size_alloc] at hs)
 have hW:Below w.heap.size w w1:=Below.trans (((Below.refl _ _).alloc (by simp<;>omega) _).alloc (by simp<;>omega) _) (aL.mono (by omega))
 refine bodyPost_ret (v:=Ee p (.slice A1 p.edges.length c1)) ?_ rfl ?_
 ·simp [Ee,results,Tryz.results184,go_sem,q1]
 ·refine ⟨.slice A1 p.edges.length c1,rfl,?_,?_⟩
  ·refine Ow.more (base:=w.heap.size+2) ?_ (by omega)
   unfold Ow at o1 ⊢
   repeat (first | (with_reducible exact o1) | refine ownsRow_setCell_below ?_ (by simp<;>omega) _)
  ·repeat (first | (with_reducible exact hW) | refine Below.setCell ?_ (by simp<;>omega) _)
theorem Ut (p:Plan) (ve:Value) (w:World) (hl:p.edges.length<=2000000) (h:Rd Ei w w.heap.size ve p.edges) :
  Calls Tryz.prog 157 #[Ee p ve] w (M0 p w):=by
 obtain ⟨A,c,rfl,-⟩:=id h
 obtain ⟨i0,aP,aX,aV,aQ⟩:=info_parts To
 have cX:∀ W,Below w.heap.size w W->Rd Ei W W.heap.size (.slice A p.edges.length c) p.edges:=fun W hW=>(h.below hW).more hW.size
 unfold Ee
 go_enter Tryz.func157,Tryz.ntmps157
 go_wp2_with (at_builtin;refine Ak _ Ei (by decide) rfl (.tmp 3) (.tmp 5) rfl Tryz.underlying41 aP aX aV aQ rfl (v:=.slice (some ⟨w.heap.size+1+1,0,none⟩) 0 0) (l:=[]) rfl ((Ow.empty Ei 199 _ (by simp)).more (base':=w.heap.size+2) (by omega)) rfl (cX _ ((((Below.refl _ _).alloc (by simp<;>omega) _).alloc (by simp<;>omega) _).alloc (by simp<;>omega) _)) (by simp) (by omega) (by decide) (by simp) ?_;intro v1 w1 o1 g1 _;rw [List.nil_append] at o1;obtain ⟨A1,c1,rfl,-⟩:=id (Rd.of_own o1);have aL:=((Below.refl (w.heap.size+2) _).alloc (by simp<;>omega) _).grown g1 (by simp<;>omega) (fun k hk=>by simp [Value.ownBlock] at hk<;>omega);clear g1;have q1:∀ b o,b<w.heap.size+2->w1.cell? ⟨b,o,none⟩=_:=fun b o h=>aL.cell (p:=⟨b,o,none⟩) h;have q2:∀ b o,b<w.heap.size+2->w1.frozen? ⟨b,o,none⟩=_:=fun b o h=>aL.frozen (p:=⟨b,o,none⟩) h;have hs:=aL.size;simp only [World.size_alloc] at hs)
 have hW:Below w.heap.size w w1:=Below.trans (((Below.refl _ _).alloc (by simp<;>omega) _).alloc (by simp<;>omega) _) (aL.mono (by omega))
 refine bodyPost_ret (v:=Ee p (.slice A1 p.edges.length c1)) ?_ rfl ?_
 ·simp [Ee,results,Tryz.results157,go_sem,q1]
 ·refine ⟨.slice A1 p.edges.length c1,rfl,?_,?_⟩
  ·refine Ow.more (base:=w.heap.size+2) ?_ (by omega)
   unfold Ow at o1 ⊢
   repeat (first | (with_reducible exact o1) | refine ownsRow_setCell_below ?_ (by simp<;>omega) _)
  ·repeat (first | (with_reducible exact hW) | refine Below.setCell ?_ (by simp<;>omega) _)
theorem Ox (p:Plan) (ve:Value) (w:World) (hl:p.edges.length<=2000000) (h:Rd Ei w w.heap.size ve p.edges) :
  Calls Tryz.prog 235 #[Ee p ve] w fun e w'=>e = .returned (.bool (!Cu p))/\Below w.heap.size w w':=by
 obtain ⟨A,c,rfl,-⟩:=id h
 unfold Ee
 cases h1:inB p.tasks 1 12
 ·have H:=Lib.hid (show (!Cu p)=true by simp [Cu,h1])
  go_enter Tryz.func235,Tryz.ntmps235
  go_wp2_with (go_at_call 155;refine (Aj _ _ _ _).mono ?_;rintro e w' ⟨rfl,rfl⟩)
  go_ret
  exact ⟨Ac H.out.symm,(Below.refl _ _).alloc (Nat.le_refl _) _⟩
 by_cases h2:30<p.edges.length
 ·have H:=Lib.hid (show (!Cu p)=true by simp [Cu,show ¬ p.edges.length<=30 by omega])
  have h2':decide ((30:Int)<(p.edges.length:Int))=true:=by simp;omega
  have h2'':(30:Int)<(p.edges.length:Int):=by omega
  go_enter Tryz.func235,Tryz.ntmps235
  go_wp2_with (go_at_call 155;refine (Aj _ _ _ _).mono ?_;rintro e w' ⟨rfl,rfl⟩)
  go_ret
  exact ⟨Ac H.out.symm,(Below.refl _ _).alloc (Nat.le_refl _) _⟩
 have h2':decide ((30:Int)<(p.edges.length:Int))=false:=by simp;omega
 have h2'':¬ (30:Int)<(p.edges.length:Int):=by omega
 cases h3:inB p.prio 0 9
 ·have H:=Lib.hid (show (!Cu p)=true by simp [Cu,h3])
  go_enter Tryz.func235,Tryz.ntmps235
  go_wp2_with (go_at_call 155;refine (Aj _ _ _ _).mono ?_;rintro e w' ⟨rfl,rfl⟩)
  go_ret
  exact ⟨Ac H.out.symm,(Below.refl _ _).alloc (Nat.le_refl _) _⟩
 cases h4:inB p.most 1 5
 ·have H:=Lib.hid (show (!Cu p)=true by simp [Cu,h4])
  go_enter Tryz.func235,Tryz.ntmps235
  go_wp2_with (go_at_call 155;refine (Aj _ _ _ _).mono ?_;rintro e w' ⟨rfl,rfl⟩)
  go_ret
  exact ⟨Ac H.out.symm,(Below.refl _ _).alloc (Nat.le_refl _) _⟩
 have H:Hid ((!inB p.wait 1 20) = !Cu p):=by
  show (!inB p.wait 1 20) = !Cu p
  simp [Cu,h1,h3,h4,show p.edges.length<=30 by omega]
 go_enter Tryz.func235,Tryz.ntmps235
 go_wp2_with (go_at_call 155;refine (Aj _ _ _ _).mono ?_;rintro e w' ⟨rfl,rfl⟩)
 go_ret
 exact ⟨Ac H.out,(Below.refl _ _).alloc (Nat.le_refl _) _⟩
theorem Ht (p:Plan) (ve:Value) (w:World) (hl:p.edges.length<=2000000) (h:Rd Ei w w.heap.size ve p.edges) :
  Calls Tryz.prog 199 #[Ee p ve] w fun e w'=>e = .returned (.int .i64 (Aq p))/\Below w.heap.size w w':=by
 obtain ⟨A,c,rfl,-⟩:=id h
 have bU:=Ir 43 p (.slice A p.edges.length c) w
 cases hm:Cu p
 ·have H:=Lib.hid (Lb hm)
  unfold Ee
  go_enter Tryz.func199,Tryz.ntmps199
  go_wp2_with fail
  refine (Ox p (.slice A p.edges.length c) _ hl ((h.below bU).more bU.size)).mono ?_
  rintro e w1 ⟨rfl,aL⟩
  rw [hm]
  go_wp2
  go_ret
  exact ⟨Bw H.out.symm,Aa bU aL⟩
 ·have Hm:=Lib.hid hm
  obtain ⟨t1,t2⟩:=Ch hm
  have aJ:=Dh hm
  unfold Ee
  go_enter Tryz.func199,Tryz.ntmps199
  go_wp2_with fail
  refine (Ox p (.slice A p.edges.length c) _ hl ((h.below bU).more bU.size)).mono ?_
  rintro e w1 ⟨rfl,aL⟩
  rw [hm]
  clear hm
  go_wp2
  go_loopw [3] (fun i wr=>∃ k:Nat,k<=p.edges.length/\i = .int .i64 k/\Hid (∀ j (hj:j<p.edges.length),j<k->Gy p.tasks p.edges[j]=true)/\Below (Ci 43 p (.slice A p.edges.length c) w).heap.size (Ci 43 p (.slice A p.edges.length c) w) wr) (fun i _=>p.edges.length - (intOf i).toNat)
  case atStart=>exact ⟨0,Nat.zero_le _,rfl,fun j hj h0=>absurd h0 (by omega),aL⟩
  case round =>
   obtain ⟨k,hk,rfl,aW,hb⟩:=hrel
   obtain ⟨x0,x1,x2,x3,x4,hs,bN⟩:=Dn hb
   by_cases aA:k<p.edges.length
   ·obtain ⟨b,o,rfl,aH,c0,c1⟩:=(h.below bN).edge aA
    have aB:(k:Int)<(p.edges.length:Int):=by omega
    have aN:=Bk wr
    have bJ:w.heap.size<wr.heap.size:=by omega
    have hbb1:b<wr.heap.size:=by omega
    have e1:IntKind.i64.wrap (p.tasks - 1)=p.tasks - 1:=IntWalk.i64_in _ (by omega)
    have bad:Gy p.tasks p.edges[k]=false->Hid (Aq p=2):=fun hf=>Lc Hm.out (fun cC=>by
     rw [cC _ (List.getElem_mem aA)] at hf;cases hf)
    cases g1:inB p.edges[k].fr 0 (p.tasks - 1)
    ·have H:=bad (by simp [Gy,g1])
     clear bad
     go_wp2
     refine Ad (by kernel_rfl) (by kernel_rfl) ?_
     repeat (go_big_quiet_step ((go_at_call 155;exact Bv (fun u=>Aj _ _ _ u.1))))
     refine wpQuiet_nil ?_
     rintro _ ⟨⟨w2,aF⟩,rfl⟩
     clear aN
     go_wp2
     go_ret
     exact ⟨Bw H.out.symm,Aa bN aF⟩
    cases g2:inB p.edges[k].to 0 (p.tasks - 1)
    ·have H:=bad (by simp [Gy,g2])
     clear bad
     go_wp2
     refine Ad (by kernel_rfl) (by kernel_rfl) ?_
     repeat (go_big_quiet_step ((go_at_call 155;exact Bv (fun u=>Aj _ _ _ u.1))))
     refine wpQuiet_nil ?_
     rintro _ ⟨⟨w2,aF⟩,rfl⟩
     clear aN
     go_wp2
     go_ret
     exact ⟨Bw H.out.symm,Aa bN aF⟩
    ·have S:Hid (∀ j (hj:j<p.edges.length),j<k+1->Gy p.tasks p.edges[j]=true):=by
      intro j hj fD
      by_cases e:j=k
      ·subst e;simp [Gy,g1,g2]
      ·exact aW.out j hj (by omega)
     clear bad
     go_wp2
     refine Ad (by kernel_rfl) (by kernel_rfl) ?_
     repeat (go_big_quiet_step ((go_at_call 155;exact Bv (fun u=>Aj _ _ _ u.1))))
     refine wpQuiet_nil ?_
     rintro _ ⟨⟨w2,aF⟩,rfl⟩
     clear aN
     go_wp2
     exact ⟨⟨k+1,by omega,by go_num,S,hb.trans (aF.mono hb.size)⟩,by simp [intOf];omega⟩
   ·have cC:Hid (Eu p):=fun e he=>by
     obtain ⟨j,hj,rfl⟩:=List.getElem_of_mem he
     exact aW.out j hj (by omega)
    have aB:¬ (k:Int)<(p.edges.length:Int):=by omega
    have bJ:w.heap.size<wr.heap.size:=by omega
    clear aW hk aL
    go_wp2
    clear aA aB
    go_loopw [4] (fun i wr=>∃ k:Nat,k<=p.edges.length/\i = .int .i64 k/\Hid ((p.edges.take k).Nodup)/\Below (Ci 43 p (.slice A p.edges.length c) w).heap.size (Ci 43 p (.slice A p.edges.length c) w) wr) (fun i _=>p.edges.length - (intOf i).toNat)
    case atStart=>exact ⟨0,Nat.zero_le _,rfl,by show (p.edges.take 0).Nodup;simp,hb⟩
    case round =>
     clear hb x0 x1 x2 x3 x4 hs bN bJ
     obtain ⟨k,hk,rfl,aW,hb⟩:=hrel
     obtain ⟨x0,x1,x2,x3,x4,hs,bN⟩:=Dn hb
     by_cases aA:k<p.edges.length
     ·have aB:(k:Int)<(p.edges.length:Int):=by omega
      obtain ⟨b,o,rfl,-,-,-⟩:=(h.below bN).edge aA
      obtain ⟨wo,rfl⟩:∃ wo:World,wo=wr:=⟨_,rfl⟩
      go_wp2
      go_loopw [5] (fun i wr=>∃ m:Nat,m<=k/\i = .int .i64 m/\Hid (∀ j (hj:j<p.edges.length),j<m -> ¬ p.edges[k]=p.edges[j])/\Below (Ci 43 p (.slice (some ⟨b,o,none⟩) p.edges.length c) w).heap.size (Ci 43 p (.slice (some ⟨b,o,none⟩) p.edges.length c) w) wr) (fun i _=>k - (intOf i).toNat)
      case atStart=>exact ⟨0,Nat.zero_le _,rfl,fun j hj h0=>absurd h0 (by omega),hb⟩
      case round =>
       clear hb x0 x1 x2 x3 x4 hs bN
       obtain ⟨m,hm,rfl,cI,hb⟩:=hrel
       obtain ⟨x0,x1,x2,x3,x4,hs,bN⟩:=Dn hb
       by_cases mH:m<k
       ·have pH:(m:Int)<(k:Int):=by omega
        have hml:m<p.edges.length:=by omega
        have hmlI:(m:Int)<(p.edges.length:Int):=by omega
        obtain ⟨b1,o1,he1,-,c0,c1⟩:=(h.below bN).edge aA
        obtain ⟨b2,o2,he2,-,d0,d1⟩:=(h.below bN).edge hml
        simp only [Option.some.injEq,Addr.mk.injEq,and_true] at he1 he2
        obtain ⟨rfl,rfl⟩:=he1
        obtain ⟨rfl,rfl⟩:=he2
        by_cases hx:p.edges[k]=p.edges[m]
        ·have H:Hid (Aq p=3):=K1 Hm.out cC.out (fun bK=>by
          have h1:(p.edges.take (k+1)).Nodup:=bK.sublist (List.take_sublist _ _)
          rw [Ay _ k aA] at h1
          refine (Kn.1 h1).2 ?_
          rw [hx]
          have:(p.edges.take k)[m]'(by simp;omega)=p.edges[m]:=List.getElem_take
          rw [<-this]
          exact List.getElem_mem _)
         have e0:p.edges[m].fr=p.edges[k].fr:=by rw [hx]
         have e1:p.edges[m].to=p.edges[k].to:=by rw [hx]
         rw [e0] at d0
         rw [e1] at d1
         clear hx e0 e1
         go_wp2
         go_quiet (fail)
         go_wp2
         go_ret
         exact ⟨Bw H.out.symm,Ao bN _⟩
        ·have S:Hid (∀ j (hj:j<p.edges.length),j<m+1 -> ¬ p.edges[k]=p.edges[j]):=by
          intro j hj hjm
          by_cases e:j=m
          ·subst e;exact hx
          ·exact cI.out j hj (by omega)
         have eE:¬ (p.edges[k].fr=p.edges[m].fr/\p.edges[k].to=p.edges[m].to):=fun ⟨e0,e1⟩=>hx (by cases hlk:p.edges[k];cases hlm:p.edges[m];simp_all)
         clear hx
         by_cases e0:p.edges[k].fr=p.edges[m].fr
         ·have e1:¬ p.edges[k].to=p.edges[m].to:=fun e=>eE ⟨e0,e⟩
          have e1':(p.edges[k].to == p.edges[m].to)=false:=beq_eq_false_iff_ne.2 e1
          rw [<-e0] at d0
          clear eE e0
          go_wp2
          go_quiet (fail)
          go_wp2
          exact ⟨⟨m+1,by omega,by go_num,S,Ao hb _⟩,by simp [intOf];omega⟩
         ·have e0':(p.edges[k].fr == p.edges[m].fr)=false:=beq_eq_false_iff_ne.2 e0
          clear eE
          go_wp2
          go_quiet (fail)
          go_wp2
          exact ⟨⟨m+1,by omega,by go_num,S,Ao hb _⟩,by simp [intOf];omega⟩
       ·have pH:¬ (m:Int)<(k:Int):=by omega
        have S:Hid ((p.edges.take (k+1)).Nodup):=by
         show (p.edges.take (k+1)).Nodup
         rw [Ay _ k aA]
         refine Kn.2 ⟨aW.out,fun gH=>?_⟩
         obtain ⟨j,hj,hje⟩:=List.getElem_of_mem gH
         rw [List.getElem_take] at hje
         simp at hj
         exact cI.out j (by omega) (by omega) hje.symm
        go_wp2
        exact ⟨⟨k+1,by omega,by go_num,S,hb⟩,by simp [intOf];omega⟩
     ·have aB:¬ (k:Int)<(p.edges.length:Int):=by omega
      have bK:Hid p.edges.Nodup:=by
       have h1:=aW.out
       rw [List.take_of_length_le (by omega)] at h1
       exact h1
      clear aW hk
      go_wp2
      clear aA aB
      go_loopw [6] (fun i wr=>∃ k:Nat,(k:Int)<=p.tasks/\i = .int .i64 k/\Hid (∀ j,j<k -> ¬ Pg.Reach (Ca p) j j)/\Below (Ci 43 p (.slice A p.edges.length c) w).heap.size (Ci 43 p (.slice A p.edges.length c) w) wr) (fun i _=>p.tasks.toNat - (intOf i).toNat)
      case atStart=>exact ⟨0,by omega,rfl,fun j hj=>absurd hj (by omega),hb⟩
      case round =>
       clear hb x0 x1 x2 x3 x4 hs bN
       obtain ⟨k,hk,rfl,aW,hb⟩:=hrel
       obtain ⟨x0,x1,x2,x3,x4,hs,bN⟩:=Dn hb
       by_cases aA:(k:Int)<p.tasks
       ·go_wp2_with fail
        refine (Aa9 p (.slice A p.edges.length c) k _ Hm.out cC.out aA ((h.below bN).more bN.size)).mono ?_
        rintro e w2 ⟨v,O,rfl,o1,aF,jI,nC⟩
        have sI:k<O.length:=by omega
        have hlen0:=Lib.hid jI
        rcases o1.form with ⟨_,e0⟩ | ⟨g,cap,rfl,_,rH,_,_,_,_⟩
        ·exfalso
         subst e0
         simp at sI
        have ck:=o1.bool sI
        have hg:Hid (O.getD k false=O[k]):=by unfold Hid;rw [List.getD_eq_getElem?_getD,List.getElem?_eq_getElem sI];rfl
        have Hiff:=Lib.hid nC
        have hkOI:(k:Int)<(O.length:Int):=by omega
        clear jI nC
        cases hO:O[k]
        ·rw [hO] at ck
         have S:Hid (∀ j,j<k+1 -> ¬ Pg.Reach (Ca p) j j):=by
          intro j hj
          by_cases e:j=k
          ·subst e
           intro hr
           have:=(Hiff.out j).2 hr
           rw [hg.out,hO] at this
           cases this
          ·exact aW.out j (by omega)
         clear hO
         go_wp2
         exact ⟨⟨k+1,by omega,by go_num,S,hb.trans (aF.mono hb.size)⟩,by simp [intOf];omega⟩
        ·rw [hO] at ck
         have H:Hid (Aq p=4):=K2 Hm.out cC.out bK.out ⟨k,by omega,(Hiff.out k).1 (by rw [hg.out,hO])⟩
         clear hO
         go_wp2
         go_ret
         exact ⟨Bw H.out.symm,Aa bN aF⟩
       ·have H:Hid (Aq p=0):=Bn.2 ⟨Hm.out,cC.out,bK.out,fun ⟨t,ht,hr⟩=>aW.out t (by omega) hr⟩
        go_wp2
        go_ret
        exact ⟨Bw H.out.symm,bN⟩
section
variable {P:Program}
theorem V3 (w:World) (dT sT ty elem:TypeId) (g o dLen dCap:Nat) (a:Addr) (sLen sCap k:Nat) (cur:Array Value) (t:TypeId) (cs:List Value)
  (hu:P.underlying dT=some (.slice elem)) (hs:(P.info? elem).map (·.size)=some k)
  (hg:w.heap[g]? = some (.cells cur t (0,0))) (hn:cs.length=Nat.min sLen dLen * k)
  (hsrc:∀ j v,cs[j]? = some v->w.cell? (a.add j)=some v) (hfit:o+cs.length<=cur.size) (h1:∀ v∈cs,v.oneCell'=true) :
  (Builtin.copy_ #[dT,sT] ty #[.slice (some ⟨g,o,none⟩) dLen dCap,.slice (some a) sLen sCap]).run P w =
   .ok (goInt (Nat.min sLen dLen)) (w.setRow g (cur.toList.take o ++ cs ++ cur.toList.drop (o+cs.length)).toArray):=by
 have hl:=run_loadCells_list (P:=P) w a cs hsrc
 have cF:=run_storeCells_at P g o t cs 0 cur w hg (by simpa using hfit) h1
 cases hq:P.info? elem with
 | none=>simp [hq] at hs
 | some i =>
  have hi:i.size=k:=by simpa [hq] using hs
  rw [hn] at hl
  simp [Builtin.copy_,run_underlying hu,Builtin.lenOf,Builtin.firstCells,sizeOf,typeInfo,hq,hi,hl,cF]
theorem Uu (w:World) (g:Nat) (cs:Array Value):w.grownBy (w.setRow g cs) (some g) :=
 ⟨rfl,rfl,rfl,by simp [World.setRow],fun k _ aC=>setRow_other w g k cs (fun e=>aC (by rw [e]))⟩
theorem Qw (w:World) {o:Oper} {a:Act} {K:Act->World->Prop} {Q:Exit->Act->World->Prop} (d s:Operand) (dT sT:TypeId)
  (ho:o.op = .call { callee:=.builtin .copy,args:=#[d,s],argTypes:=#[dT,sT] }) (elem:TypeId) (k:Nat) (hu:P.underlying dT=some (.slice elem)) (bE:(P.info? elem).map (·.size)=some k)
  (g off dLen dCap:Nat) (ad:Addr) (sLen sCap:Nat) (hd:a.eval d = .slice (some ⟨g,off,none⟩) dLen dCap) (hs:a.eval s = .slice (some ad) sLen sCap)
  (cur:List Value) (t:TypeId) (hg:w.heap[g]? = some (.cells cur.toArray t (0,0))) (cs:List Value) (hn:cs.length=Nat.min sLen dLen * k)
  (hsrc:∀ j v,cs[j]? = some v->w.cell? (ad.add j)=some v) (hfit:off+cs.length<=cur.length) (h1:∀ v∈cs,v.oneCell'=true)
  (h:∀ w',Hid (w'.heap[g]? = some (.cells (splice cur off cs).toArray t (0,0)))->w.grownBy w' (some g)->K (a.put o.dst (goInt (Nat.min sLen dLen))) w'):o.wp P a w K Q:=by
 have eB:=V3 (P:=P) w dT sT o.type elem g off dLen dCap ad sLen sCap k cur.toArray t cs hu bE hg hn hsrc (by simpa using hfit) h1
 have h2:Hid ((w.setRow g (cur.toArray.toList.take off ++ cs ++ cur.toArray.toList.drop (off+cs.length)).toArray).heap[g]? = some (.cells (splice cur off cs).toArray t (0,0))):=show _=_ by simpa [splice] using setRow_heap w g _ _ t _ hg
 have h3:=h _ h2 (Uu w g _)
 unfold Oper.wp execOp
 simp only [ho,resolve,invoke,builtin,Sem.run_bind,Sem.run_pure,Result.andThen_ok,List.map_toArray,List.map_cons,List.map_nil,hd,hs,eB]
 exact h3
theorem Ld (w:World) {ops:Array Oper} {rest:List Oper} {o:Oper} {a:Act} {Q:Exit->Act->World->Prop} (cV:o.guard=none) (d s:Operand) (dT sT:TypeId)
  (ho:o.op = .call { callee:=.builtin .copy,args:=#[d,s],argTypes:=#[dT,sT] }) (elem:TypeId) (k:Nat) (hu:P.underlying dT=some (.slice elem)) (bE:(P.info? elem).map (·.size)=some k)
  (g off dLen dCap:Nat) (ad:Addr) (sLen sCap:Nat) (hd:a.eval d = .slice (some ⟨g,off,none⟩) dLen dCap) (hs:a.eval s = .slice (some ad) sLen sCap)
  (cur:List Value) (t:TypeId) (hg:w.heap[g]? = some (.cells cur.toArray t (0,0))) (cs:List Value) (hn:cs.length=Nat.min sLen dLen * k)
  (hsrc:∀ j v,cs[j]? = some v->w.cell? (ad.add j)=some v) (hfit:off+cs.length<=cur.length) (h1:∀ v∈cs,v.oneCell'=true)
  (h:∀ w',Hid (w'.heap[g]? = some (.cells (splice cur off cs).toArray t (0,0)))->w.grownBy w' (some g)->wpList P ops Q rest (a.put o.dst (goInt (Nat.min sLen dLen))) w'):wpList P ops Q (o :: rest) a w :=
 wpList_plain cV fun _ hK=>Qw w d s dT sT ho elem k hu bE g off dLen dCap ad sLen sCap hd hs cur t hg cs hn hsrc hfit h1 fun w' h2 h3=>hK _ _ (h w' h2 h3)
theorem Nj (w:World) {ops:Array Oper} {o:Oper} {a:Act} {K:Act->World->Prop} {Q:Exit->Act->World->Prop} {EE:Prop} (cV:o.guard=none) (d s:Operand) (dT sT:TypeId)
  (ho:o.op = .call { callee:=.builtin .copy,args:=#[d,s],argTypes:=#[dT,sT] }) (elem:TypeId) (k:Nat) (hu:P.underlying dT=some (.slice elem)) (bE:(P.info? elem).map (·.size)=some k)
  (g off dLen dCap:Nat) (ad:Addr) (sLen sCap:Nat) (hd:a.eval d = .slice (some ⟨g,off,none⟩) dLen dCap) (hs:a.eval s = .slice (some ad) sLen sCap)
  (cur:List Value) (t:TypeId) (hg:w.heap[g]? = some (.cells cur.toArray t (0,0))) (cs:List Value) (hn:cs.length=Nat.min sLen dLen * k)
  (hsrc:∀ j v,cs[j]? = some v->w.cell? (ad.add j)=some v) (hfit:off+cs.length<=cur.length) (h1:∀ v∈cs,v.oneCell'=true)
  (h:∀ w',Hid (w'.heap[g]? = some (.cells (splice cur off cs).toArray t (0,0)))->w.grownBy w' (some g)->K (a.put o.dst (goInt (Nat.min sLen dLen))) w') :
  if Region.wanted o (yielded ops a.tmps)=true then Oper.wp P o a w K Q else EE:=by
 have hw:Region.wanted o (yielded ops a.tmps)=true:=by simp [Region.wanted,cV]
 rw [if_pos hw]
 exact Qw w d s dT sT ho elem k hu bE g off dLen dCap ad sLen sCap hd hs cur t hg cs hn hsrc hfit h1 h
end
section
variable {α:Type} {e:Enc α} {E:TypeId} {w:World} {base g n cap:Nat} {l:List α}
theorem Ow.row (h:Ow e E w base (.slice (some ⟨g,0,none⟩) n cap) l) :
  l.length=n/\base<=g/\n<=cap/\cap<=maxLen /\ ∃ cur:List Value,w.heap[g]? = some (.cells cur.toArray E (0,0))/\cur.length=cap * e.sz/\cur.take (n * e.sz)=l.flatMap e.cells:=by
 rcases h.2 with ⟨h1,_⟩ | ⟨g',cap',cur,hv,hg,hh,hc,hm,hs,ht⟩
 ·simp at h1
 ·simp only [Value.slice.injEq,Option.some.injEq,Addr.mk.injEq,and_true] at hv
  obtain ⟨rfl,rfl,rfl⟩:=hv
  exact ⟨rfl,hg,hc,hm,cur.toList,by simpa using hh,by simpa using hs,ht⟩
theorem Ow.of_row {cur:List Value} (hg:w.heap[g]? = some (.cells cur.toArray E (0,0))) (hc:cur.length=cap * e.sz) (ht:cur.take (l.length * e.sz)=l.flatMap e.cells) (hb:base<=g) (hn:l.length<=cap) (hm:cap<=maxLen) :
  Ow e E w base (.slice (some ⟨g,0,none⟩) l.length cap) l :=
 ⟨e.flat_length l,.inr ⟨g,cap,cur.toArray,rfl,hb,hg,hn,hm,by simpa using hc,by simpa using ht⟩⟩
end
theorem X8 {α:Type} (R X Y:List α) (a:Nat) (h:a+X.length+Y.length<=R.length):(splice (splice R a X) (a+X.length) Y).take (a+X.length+Y.length)=R.take a ++ X ++ Y:=by
 have h0:(R.take a).length=a:=by rw [List.length_take];omega
 have h1:(splice R a X).take (a+X.length)=R.take a ++ X:=by
  unfold splice
  rw [<-List.append_assoc,List.take_left' (by rw [List.length_append,h0])]
 unfold splice at h1 ⊢
 rw [h1,<-List.append_assoc,List.take_left' (by rw [List.length_append,List.length_append,h0])]
theorem V4 {α:Type} (C X Y:List α) (a:Nat) (h:a+X.length+Y.length<=C.length):(splice (splice C (a+X.length) Y) a X).take (a+X.length+Y.length)=C.take a ++ X ++ Y:=by
 have h0:(C.take a).length=a:=by rw [List.length_take];omega
 have h1:(splice C (a+X.length) Y).take a=C.take a:=by
  unfold splice
  rw [List.take_append_of_le_length (by rw [List.length_take];omega),List.take_take]
  congr 1
  omega
 have h2:(splice C (a+X.length) Y).drop (a+X.length)=Y ++ C.drop (a+X.length+Y.length):=by
  unfold splice
  rw [List.drop_left' (by rw [List.length_take];omega)]
 show ((splice C (a+X.length) Y).take a ++ (X ++ (splice C (a+X.length) Y).drop (a+X.length))).take _=_
 rw [h1,h2,<-List.append_assoc,<-List.append_assoc,List.take_left' (by rw [List.length_append,List.length_append,h0])]
theorem Le {α:Type} (e:Enc α) (l:List α) (i:Nat) (hi:i<=l.length) (x:α) :
  (l.take i ++ x :: l.drop i).flatMap e.cells=(l.flatMap e.cells).take (i * e.sz) ++ e.cells x ++ (l.flatMap e.cells).drop (i * e.sz):=by
 have hl:l.flatMap e.cells=(l.take i).flatMap e.cells ++ (l.drop i).flatMap e.cells:=by rw [<-List.flatMap_append,List.take_append_drop]
 have h0:((l.take i).flatMap e.cells).length=i * e.sz:=by rw [e.flat_length,List.length_take,Nat.min_eq_left hi]
 rw [List.flatMap_append,List.flatMap_cons,hl,List.take_left' h0,List.drop_left' h0,List.append_assoc]
section
variable {P:Program}
theorem Me (w:World) {ops:Array Oper} {rest:List Oper} {o:Oper} {a:Act} {Q:Exit->Act->World->Prop} (cV:o.guard=none) (s x:Operand) (t tn:TypeId)
  (ho:o.op = .call { callee:=.builtin .append,args:=#[s,x],argTypes:=#[t,tn] }) (E:TypeId) (i:TypeInfo) (z:Value) (sz bytes:Nat) (kn kq:IntKind)
  (ht:P.underlying t=some (.slice E)) (htn:P.underlying tn=some (.int kn)) (hi:P.info? E=some i) (hz:i.zero=some z) (bW:i.size=sz) (cK:i.bytes=bytes) (hzs:z.cells.size=sz) (bE:0<sz)
  (ad:Addr) (n cap:Nat) (olds:List Value) (hs:a.eval s = .slice (some ad) n cap) (k:Nat) (m:Int) (hm:m=k) (hx:a.eval x = .int kq m)
  (nQ:olds.length=n * sz) (hold:∀ j u,olds[j]? = some u->w.cell? (ad.add j)=some u) (h0:0<k) (hg:cap<n+k) (h1:n+k<=3000000) (hb:bytes<=10000) (N:Nat) (hN:N=n+k)
  (h:∀ (w':World) (c:Nat) (R:List Value),Hid (w'.heap[w.heap.size]? = some (.cells R.toArray E (0,0)))->Hid (R.length=c * sz)->Hid (R.take (n * sz)=olds)->N<=c->c<=9223372036854775807->w.grownBy w' none->w.heap.size<w'.heap.size ->
   wpList P ops Q rest (a.put o.dst (.slice (some ⟨w.heap.size,0,none⟩) N c)) w'):wpList P ops Q (o :: rest) a w:=by
 subst hm
 subst hN
 have aH:(n+k) * bytes<=3000000 * 10000:=Nat.mul_le_mul h1 hb
 have hkb:k * bytes<=(n+k) * bytes:=Nat.mul_le_mul_right _ (by omega)
 have eB:=Lib.run_append_grow_zeros (P:=P) w t tn o.type E i z kq kn ht htn hi hz (some ad) n cap olds
  (run_firstCells_some w.drew i.size n ad n cap olds (by rw [bW];exact nQ) (fun j u hu=>hold j u hu)) k h0 (by omega) hg (by omega) (by rw [cK];omega) (by rw [cK];exact growslice_fits hg (by omega))
 have tQ:=grownCap_ge w (n+k) cap E
 have pW:grownCap w (n+k) cap E<=maxLen:=grownCap_le_maxLen w (n+k) cap E (by simp [maxLen];omega)
 simp only [maxLen] at pW
 have h2:=h (w.drew.alloc (.cells (olds.toArray ++ Builtin.zeroCells z.cells k ++ Builtin.zeroCells z.cells (grownCap w (n+k) cap E - (n+k))) E)) (grownCap w (n+k) cap E) (olds ++ (Builtin.zeroCells z.cells k).toList ++ (Builtin.zeroCells z.cells (grownCap w (n+k) cap E - (n+k))).toList)
  (by
   unfold Hid
   have:=heap_alloc_new w.drew (.cells (olds.toArray ++ Builtin.zeroCells z.cells k ++ Builtin.zeroCells z.cells (grownCap w (n+k) cap E - (n+k))) E)
   have e:(olds ++ (Builtin.zeroCells z.cells k).toList ++ (Builtin.zeroCells z.cells (grownCap w (n+k) cap E - (n+k))).toList).toArray=olds.toArray ++ Builtin.zeroCells z.cells k ++ Builtin.zeroCells z.cells (grownCap w (n+k) cap E - (n+k)):=by simp
   rw [e]
   exact this)
  (by
   unfold Hid
   simp only [List.length_append,Array.length_toList,size_zeroCells,nQ,hzs]
   rw [<-Nat.add_mul,<-Nat.add_mul]
   congr 1
   omega)
  (by unfold Hid;rw [List.append_assoc,<-nQ,List.take_left]) tQ pW
  ⟨rfl,rfl,rfl,by simp,fun _ bH _=>Below.heap_alloc w.drew _ _ bH⟩ (by simp)
 refine wpList_plain cV fun _ hK=>?_
 unfold Oper.wp execOp
 simp only [ho,resolve,invoke,builtin,Sem.run_bind,Sem.run_pure,Result.andThen_ok,List.map_toArray,List.map_cons,List.map_nil,hs,hx,eB]
 exact hK _ _ h2
end
theorem Ya {w w':World} (h:w.grownBy w' none) (row:Option Nat):w.grownBy w' row:=⟨h.os,h.tape,h.output,h.size,fun k hk _=>h.block k hk (by simp)⟩
theorem Tp {w w1 w2:World} {row:Option Nat} {G:Nat} (h:w.grownBy w1 row) (h2:w1.grownBy w2 (some G)) (hG:w.heap.size<=G):w.grownBy w2 row :=
 ⟨h2.os.trans h.os,h2.tape.trans h.tape,h2.output.trans h.output,Nat.le_trans h.size h2.size,fun k hk aC=>(h2.block k (Nat.lt_of_lt_of_le hk h.size) (fun e=>by injection e with e;omega)).trans (h.block k hk aC)⟩
theorem Qx {w w':World} {row:Option Nat} (h:w.drew.grownBy w' row):w.grownBy w' row:=⟨h.os,h.tape,h.output,h.size,h.block⟩
theorem V5 {w w':World} {row:Option Nat} (hg:w.grownBy w' row) {g:Nat} {o:Obj} (h:w.heap[g]? = some o) (aC:some g≠row):w'.heap[g]? = some o :=
 (hg.block g (Array.getElem?_eq_some_iff.1 h).1 aC).trans h
theorem Kd {w:World} {g:Nat} {R:List Value} {E:TypeId} {o:Nat} (h:w.heap[g]? = some (.cells R.toArray E (0,0))) (xs:List Value) (hx:∀ j u,xs[j]? = some u->R[o+j]? = some u) :
  ∀ j u,xs[j]? = some u->w.cell? ((⟨g,o,none⟩:Addr).add j)=some u:=by
 intro j u hu
 have e:((⟨g,o,none⟩:Addr).add j)=⟨g,o+j,none⟩:=by unfold Addr.add;split<;>simp_all
 rw [e,cell_of_row _ _ (o+j) _ _ (0,0) h]
 simpa using hx j u hu
theorem Ej {α:Type} (C X:List α) (a:Nat) (h:a+X.length<=C.length):(splice C a X).length=C.length:=by
 unfold splice
 simp only [List.length_append,List.length_take,List.length_drop]
 omega
section
variable {α:Type} (e:Enc α) (l:List α) (i:Nat) (hi:i<=l.length) (x:α)
include hi
theorem Ic:(l.take i ++ x :: l.drop i).length=l.length+1:=by simp;omega
omit hi in
theorem Pq:((l.flatMap e.cells).drop (i * e.sz)).length=(l.length - i) * e.sz:=by rw [List.length_drop,e.flat_length,Nat.sub_mul]
theorem Qy:i * e.sz+(e.cells x).length+((l.flatMap e.cells).drop (i * e.sz)).length=(l.length+1) * e.sz:=by
 rw [Pq e l i,e.len,<-Nat.succ_mul,<-Nat.add_mul]
 congr 1
 omega
theorem V6 (C:List Value) (hC:C.take (l.length * e.sz)=l.flatMap e.cells) (hl:(l.length+1) * e.sz<=C.length) :
  (splice (splice C ((i+1) * e.sz) ((l.flatMap e.cells).drop (i * e.sz))) (i * e.sz) (e.cells x)).take ((l.length+1) * e.sz)=(l.take i ++ x :: l.drop i).flatMap e.cells /\
  (splice (splice C ((i+1) * e.sz) ((l.flatMap e.cells).drop (i * e.sz))) (i * e.sz) (e.cells x)).length=C.length:=by
 have hs:=Qy e l i hi x
 have h1:(i+1) * e.sz=i * e.sz+(e.cells x).length:=by rw [e.len,Nat.succ_mul]
 have h2:C.take (i * e.sz)=(l.flatMap e.cells).take (i * e.sz):=by
  rw [<-hC,List.take_take]
  congr 1
  exact (Nat.min_eq_left (Nat.mul_le_mul_right _ hi)).symm
 constructor
 ·rw [h1,<-hs,V4 _ _ _ _ (by omega),Le e l i hi x,h2]
 ·rw [Ej,Ej]
  ·rw [h1];omega
  ·rw [Ej _ _ _ (by rw [h1];omega)];omega
theorem Yb (R:List Value) (hR:R.take (i * e.sz)=(l.flatMap e.cells).take (i * e.sz)) (hl:(l.length+1) * e.sz<=R.length) :
  (splice (splice R (i * e.sz) (e.cells x)) ((i+1) * e.sz) ((l.flatMap e.cells).drop (i * e.sz))).take ((l.length+1) * e.sz)=(l.take i ++ x :: l.drop i).flatMap e.cells /\
  (splice (splice R (i * e.sz) (e.cells x)) ((i+1) * e.sz) ((l.flatMap e.cells).drop (i * e.sz))).length=R.length:=by
 have hs:=Qy e l i hi x
 have h1:(i+1) * e.sz=i * e.sz+(e.cells x).length:=by rw [e.len,Nat.succ_mul]
 constructor
 ·rw [h1,<-hs,X8 _ _ _ _ (by omega),Le e l i hi x,hR]
 ·rw [Ej,Ej]
  ·omega
  ·rw [Ej _ _ _ (by omega),h1];omega
end
structure Entry where
 prio:Int
 seq:Int
 run:Int
 task:Int
deriving DecidableEq,Inhabited
@[go_sem] abbrev Fb (x:Entry) (_s:Unit):Value:=.agg #[.int .i64 x.prio,.int .i64 x.seq,.int .i64 x.run,.int .i64 x.task]
abbrev Af:Dt Entry:=Dt.flat (fun q=>[.int .i64 q.1.prio,.int .i64 q.1.seq,.int .i64 q.1.run,.int .i64 q.1.task]) 4 (fun _=>rfl) (fun q u hu=>by simp at hu;rcases hu with rfl | rfl | rfl | rfl<;>rfl)
def Hu (_:Entry):Nat:=0
theorem RdL.entry {w:World} {B:Nat} {A:Option Addr} {n c:Nat} {l:List (Entry)} (h:RdL Af w B (.slice A n c) l) {k:Nat} (hk:k<l.length) :
  ∃ b o,∃ _s:Unit,A=some ⟨b,o,none⟩/\b<B/\Af.rd w B l[k] _s/\w.cell? ⟨b,o+k * 4,none⟩=some (.int .i64 l[k].prio)/\w.cell? ⟨b,o+k * 4+1,none⟩=some (.int .i64 l[k].seq)/\w.cell? ⟨b,o+k * 4+2,none⟩=some (.int .i64 l[k].run)/\w.cell? ⟨b,o+k * 4+3,none⟩=some (.int .i64 l[k].task):=by
 obtain ⟨b,o,s,rfl,hb,hc,hr⟩:=h.at_ k hk
 exact ⟨b,o,s,rfl,hb,hr,hc 0 _ rfl,hc 1 _ rfl,hc 2 _ rfl,hc 3 _ rfl⟩
def Bl (x:List Entry):Nat:=Gd Hu x
theorem RdL.entryS {w:World} {B:Nat} {A:Option Addr} {n c:Nat} {l:List (List Entry)} (h:RdL (Dt.list Af) w B (.slice A n c) l) {k:Nat} (hk:k<l.length) :
  ∃ b o,∃ s:Sl,A=some ⟨b,o,none⟩/\b<B/\(Dt.list Af).rd w B l[k] s/\w.cell? ⟨b,o+k,none⟩=some (.slice s.a s.n s.c):=by
 obtain ⟨b,o,s,rfl,hb,hc,hr⟩:=h.at_ k hk
 exact ⟨b,o,s,rfl,hb,hr,(by have hh:=hc 0 _ rfl;rw [show k * (Dt.list Af).enc.sz=k from Nat.mul_one k] at hh;exact hh)⟩
theorem I5:(Tryz.prog.info? 96).map (fun i=>(i.zero,i.size,i.bytes))=some (some (.slice none 0 0),1,24):=by kernel_rfl
end Go.Proofs.YtonlnjdempbfoaaGreat
