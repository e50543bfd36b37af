/-
  slices.Sort on a slice of the call's own; BeforeOf and BehindOf of the program. Numbers as bytes: VarText of both. A plan that is drawn. RunAt of the reference 
-/
import Derived.Test.YtonlnjdempbfoabGreatZFd0
import Derived.Test.YtonlnjdempbfoabGreatZFd1
import Derived.Test.YtonlnjdempbfoabGreatZFd2
import Derived.Test.YtonlnjdempbfoabGreatZFd3
import Derived.Sort.OwnSortedInts
import Derived.Deep.RegionHeld3
namespace Go.Proofs.YtonlnjdempbfoabGreat
open Go.RowKit
set_option maxRecDepth 100000
set_option maxHeartbeats 4000000
set_option linter.unusedVariables false
set_option linter.unusedSimpArgs false
open Value renaming int->J,slice->Aa
open IntKind renaming i64->U
open Option renaming none->Ab,some->Ac
open Below renaming setCell->Ad,alloc->Ae
open Nat renaming zero_le->Ag,le_trans->Ah
open Go renaming bodyPost_ret->Aj
open Go.Proofs.Tryz renaming prog->Am
open Int renaming toNat_natCast->Ao,eq_ofNat_of_zero_le->Ap
open List renaming length_map->Ar,length_take->Az,length_append->Bd,mem_append_right->Be,mem_append_left->Bf,take_of_length_le->Bg
open World renaming size_alloc->Bj,size_setCell->Bk
open Go.Proofs.Tryz
theorem Xf (l:List Nat):l.flatMap Eu.cells=(l.map fun (x:Nat)=>(x:Int)).map (Value.int .i64):=by
 induction l with
 | nil=>rfl
 | cons a l ih=>rw [List.flatMap_cons,ih];rfl
theorem Ac7 {l l':List Nat} (hp:l'.Perm l) (hs:l'.Pairwise (· <= ·)):((l.map fun (x:Nat)=>(x:Int)).mergeSort fun x y=>decide (x<=y))=l'.map fun (x:Nat)=>(x:Int):=by
 have h1:=List.mergeSort_perm (l.map fun (x:Nat)=>(x:Int)) (fun x y=>decide (x<=y));have h2:=List.pairwise_mergeSort (le:=fun x y:Int=>decide (x<=y)) (fun a b c h1 h2=>by simp at *;omega) (fun a b=>by simp;omega) (l.map fun (x:Nat)=>(x:Int));have h3:(l'.map fun (x:Nat)=>(x:Int)).Pairwise (fun x y=>decide (x<=y)=true):=by
  rw [List.pairwise_map];exact hs.imp (fun h=>by simpa using h)
 refine List.Perm.eq_of_pairwise (le:=fun x y=>decide (x<=y)=true) ?_ h2 h3 (h1.trans (hp.symm.map _));intro a b _ _ h h';simp at h h';omega
theorem R9 (v:Value) (l l':List Nat) (base:Nat) (w:World) (hl:l.length<=2000000) (hp:l'.Perm l) (hs:l'.Pairwise (· <= ·)) (ho:Ow Eu 3 w base v l) :
  Calls Am 278 #[v] w fun e w'=>e = .returned (.tuple #[])/\Ow Eu 3 w' base v l'/\w.grownBy w' v.ownBlock:=by
 rcases ho.2 with ⟨rfl,hn⟩ | ⟨g,cap,cur,rfl,hg,hh,hc,hm,bM,ht⟩
 ·have uA:l=[]:=List.eq_nil_of_length_eq_zero hn;subst uA;have:l'=[]:=List.Perm.eq_nil hp;subst this;refine (Tryz.slices_Sort_int_none Ab 0 w).mono ?_;rintro e w' ⟨he,rfl⟩;exact ⟨he,ho,World.grownBy.refl _ _⟩
 ·have bZ:(l.map fun (x:Nat)=>(x:Int)).length=l.length:=Ar _;have kM:cur.toList.take (l.map fun (x:Nat)=>(x:Int)).length=(l.map fun (x:Nat)=>(x:Int)).map (Value.int .i64):=by
   rw [bZ,<-Xf,<-ht];simp [Eu]
  have hH:=holds_of_blockI hh kM;have sC:g<w:=(Array.getElem?_eq_some_iff.1 hh).1;have h:=Tryz.slices_Sort_int g 0 cap (l.map fun (x:Nat)=>(x:Int)) w hH sC (by rw [bZ];omega);rw [bZ] at h;refine h.mono ?_;rintro e w' ⟨he,n,os,rfl⟩;rw [Ac7 hp hs];refine ⟨he,?_,grownBy_sortedI _⟩;have aF:l'.length=l.length:=hp.length_eq
  have:=ownsRow_sortedI (n:=n) (os:=os) (ss:=l.map fun (x:Nat)=>(x:Int)) (ts:=l'.map fun (x:Nat)=>(x:Int)) (by simp [aF]) hg hh (by rw [bZ];exact hc) hm bM
  unfold Ow;rw [aF,Xf];rw [bZ] at this;exact this
theorem Uo (es:List (Nat×Nat)) (T t:Nat):(D9 es T t).Pairwise (· <= ·):=(List.pairwise_lt_range.imp (fun h=>Nat.le_of_lt h)).filter _
theorem Up (es:List (Nat×Nat)) (T t:Nat):(Fq es T t).Pairwise (· <= ·):=(List.pairwise_lt_range.imp (fun h=>Nat.le_of_lt h)).filter _
def I0 (es:List (Nat×Nat)) (t:Nat):List Nat:=(es.filter fun e=>decide (e.2=t)).map (·.1)
def Ob (es:List (Nat×Nat)) (t:Nat):List Nat:=(es.filter fun e=>decide (e.1=t)).map (·.2)
theorem Uq (es:List (Nat×Nat)) (t:Nat):(I0 es t).length<=es.length:=by
 simp only [I0,Ar];exact List.length_filter_le _ _
theorem Aaq (es:List (Nat×Nat)) (t:Nat):(Ob es t).length<=es.length:=by
 simp only [Ob,Ar];exact List.length_filter_le _ _
theorem Ac8 {l l':List (Nat×Nat)} {a d:Nat} (h:l'=l ++ [(a,d)]):I0 l' d=I0 l d ++ [a]:=by
 subst h;simp [I0,List.filter_append]
theorem Afz {l l':List (Nat×Nat)} {a d:Nat} (h:l'=l ++ [(a,d)]):Ob l' a=Ob l a ++ [d]:=by
 subst h;simp [Ob,List.filter_append]
theorem Aet {l l':List (Nat×Nat)} {a d t:Nat} (h:l'=l ++ [(a,d)]) (hx:¬ d=t):I0 l' t=I0 l t:=by
 subst h;simp [I0,List.filter_append,hx]
theorem Ago {l l':List (Nat×Nat)} {a d t:Nat} (h:l'=l ++ [(a,d)]) (hx:¬ a=t):Ob l' t=Ob l t:=by
 subst h;simp [Ob,List.filter_append,hx]
theorem Ur {p:Plan} (he:Hg p) (hn:p.edges.Nodup):(D4 p).Nodup:=by
 unfold D4 esL;show List.Pairwise _ _;rw [List.pairwise_map];refine List.Pairwise.imp_of_mem ?_ hn;intro x y hx hy aC e;have h1:=he x hx;have h2:=he y hy;simp only [Jb,Bool.and_eq_true,Cw] at h1 h2;simp only [Prod.mk.injEq] at e;apply aC;cases x;cases y;simp only [Edge.mk.injEq] at *
 omega
theorem Aar {p:Plan} (he:Hg p) (hn:p.edges.Nodup) (t:Nat):(D9 (D4 p) p.tasks.toNat t).Perm (I0 (D4 p) t):=by
 refine (List.perm_ext_iff_of_nodup (List.nodup_range.filter _) ?_).2 ?_
 ·unfold I0;show List.Pairwise _ _;rw [List.pairwise_map];refine List.Pairwise.imp_of_mem ?_ ((Ur he hn).filter _);intro x y hx hy aC e;simp only [List.mem_filter,decide_eq_true_eq] at hx hy;exact aC (Prod.ext e (hx.2.trans hy.2.symm))
 ·intro x;simp only [I0,List.mem_filter,List.mem_range,decide_eq_true_eq,List.mem_map,Prod.exists];constructor
  ·rintro ⟨_,h⟩;exact ⟨x,t,⟨h,rfl⟩,rfl⟩
  ·rintro ⟨a,b,⟨h,rfl⟩,rfl⟩;exact ⟨(Mb he).1 _ h,h⟩
theorem Aeu {p:Plan} (he:Hg p) (hn:p.edges.Nodup) (t:Nat):(Fq (D4 p) p.tasks.toNat t).Perm (Ob (D4 p) t):=by
 refine (List.perm_ext_iff_of_nodup (List.nodup_range.filter _) ?_).2 ?_
 ·unfold Ob;show List.Pairwise _ _;rw [List.pairwise_map];refine List.Pairwise.imp_of_mem ?_ ((Ur he hn).filter _);intro x y hx hy aC e;simp only [List.mem_filter,decide_eq_true_eq] at hx hy;exact aC (Prod.ext (hx.2.trans hy.2.symm) e)
 ·intro x;simp only [Ob,List.mem_filter,List.mem_range,decide_eq_true_eq,List.mem_map,Prod.exists];constructor
  ·rintro ⟨_,h⟩;exact ⟨t,x,⟨h,rfl⟩,rfl⟩
  ·rintro ⟨a,b,⟨h,rfl⟩,rfl⟩;exact ⟨(Mb he).2 _ h,h⟩
theorem Oc (p:Plan) (ve:Value) (t:Nat) (w:World) (hf:Cs p=0) (h:Rd G6 w w ve p.edges) :
  Calls Am 249 #[Gw p ve,J U (t:Int)] w fun e w'=>∃ v,e = .returned v/\Ow Eu 3 w' w v (D9 (D4 p) p.tasks.toNat t)/\Below w w w':=by
 obtain ⟨A,c,rfl,-⟩:=id h;have G:=Bq (Dj.1 hf);have aF:=Fh G.out.1;have hl:p.edges.length<=2000000:=Bl;have hfb:(Cs p != 0)=false:=by simp [hf]
 clear hf;obtain ⟨j0,cJ,jz0,jz1,jz2⟩:=info_parts K0;have aL:=Kv 36 p (Aa A p.edges.length c) w;have D0:=BoxAt.new 36 p (Aa A p.edges.length c) w;have mV:=Fi 36 p (Aa A p.edges.length c) w;have Hw0:=Bq mV;clear mV;unfold Gw;go_enter func249,ntmps249;go_wp2_with fail
 refine (Ho p _ _ hl ((h.below aL).more aL.size)).mono ?_;rintro e w1 ⟨rfl,aJ⟩;have D:=D0.below aJ;have hb:=Bu aL aJ;obtain ⟨x0,x1,x2,x3,x4,xs⟩:=D.cells;go_wp2;clear x0 x1 x2 x3 x4;go_loopw [5,14] (fun vl i wr=>∃ k:Nat,k<=p.edges.length/\i = J U k/\Ow Eu 3 wr (w+1) vl (I0 (esL (p.edges.take k)) t)/\Below w w wr/\w.heap.size<wr.heap.size) (fun _ i _=>p.edges.length - (intOf i).toNat);case atStart=>exact ⟨0,Ag _,rfl,by simpa [I0,esL] using Ow.nil Eu 3 w1 (w.heap.size+1),hb,xs⟩
 case round =>
  clear D hb aJ D0 xs;obtain ⟨k,hk,rfl,ho,hb,bM⟩:=hrel;by_cases aA:k<p.edges.length
  ·have aB:(k:Int)<(p.edges.length:Int):=Bl;obtain ⟨b,o,rfl,aK,c0,c1⟩:=(h.below hb).edge aA;obtain ⟨f1,f2,f3,f4⟩:=H8 G.out.2.1 aA;have dC:=Bq (show esL (p.edges.take (k+1))=esL (p.edges.take k) ++ [(p.edges[k].fr.toNat,p.edges[k].to.toNat)] by unfold esL;rw [Cp _ k aA,List.map_append];rfl);generalize p.edges[k].fr=fx at *
   generalize p.edges[k].to=tx at *
   obtain ⟨a,rfl⟩:=Ap f1;obtain ⟨d,rfl⟩:=Ap f3;simp only [Ao] at dC;by_cases hx:d=t
   ·subst hx;have S:=Bq (Ac8 (l:=esL (p.edges.take k)) dC.out);have Hl:=Bq (show (I0 (esL (p.edges.take k)) d).length<=3000000 by
     have h1:=Uq (esL (p.edges.take k)) d;rw [Na,Az] at h1;omega)
    have mF:((d:Int) == (d:Int))=true:=Bn;have ha:Hid (∀ w:World,Below w w ((w.alloc (.cells #[J U (a:Int),J U (d:Int)] 187)).alloc (.cells #[J U (a:Int)] 3))):=fun w=>(Bt).alloc Bn _;go_wp2_with (at_builtin;refine Ch _ Eu Bp rfl (.tmp 22) (.tmp 25) rfl underlying32 cJ jz0 jz1 jz2 rfl (l:=I0 (esL (p.edges.take k)) d) rfl (ho.below (ha.out wr)) rfl (Rd.one Eu _ _ a Bn rfl 1 (Bs _) (Nat.lt_succ_self _)) Hl.out Bn Bp (by simp;omega) ?_;intro v5 w5 o5 g5 _)
    have aV:=Bu hb (ha.out wr);have W5:=aV.grown g5 aV.size (fun g hg=>by have:=ho.within _ hg;omega);have tG:=g5.size;simp only [Bj] at tG;refine ⟨⟨k+1,Bl,by go_num,?_,W5,Bl⟩,by simp [intOf];omega⟩;rw [S.out];exact o5
   ·have S:=Bq (Aet (l:=esL (p.edges.take k)) (t:=t) dC.out hx);have mF:((d:Int) == (t:Int))=false:=beq_eq_false_iff_ne.2 Bl;have ha:Hid (∀ w:World,Below w w (w.alloc (.cells #[J U (a:Int),J U (d:Int)] 187))):=fun w=>Bt;clear hx;go_wp2;refine ⟨⟨k+1,Bl,by go_num,?_,Bu hb (ha.out wr),by simp;omega⟩,by simp [intOf];omega⟩;rw [S.out];exact ho.below (ha.out wr)
  ·have aB:¬ (k:Int)<(p.edges.length:Int):=Bl;have bF:k=p.edges.length:=Bl;subst bF;rw [List.take_length] at ho;go_wp2_with fail
   have hL:(I0 (D4 p) t).length<=2000000:=by
    have h1:=Uq (D4 p) t;unfold D4 at h1 ⊢;rw [Na] at h1;omega
   refine (R9 _ (I0 (D4 p) t) (D9 (D4 p) p.tasks.toNat t) _ _ hL (Aar G.out.2.1 G.out.2.2.1 t) (Uo _ _ _) ho).mono ?_;rintro e w2 ⟨rfl,o2,g2⟩;have aG:=hb.grown g2 hb.size (fun g hg=>by have:=ho.within _ hg;omega);go_wp2;go_ret;exact ⟨_,rfl,o2.more Bl,aG⟩
theorem Us (p:Plan) (ve:Value) (t:Nat) (w:World) (hf:Cs p=0) (h:Rd G6 w w ve p.edges) :
  Calls Am 254 #[Gw p ve,J U (t:Int)] w fun e w'=>∃ v,e = .returned v/\Ow Eu 3 w' w v (Fq (D4 p) p.tasks.toNat t)/\Below w w w':=by
 obtain ⟨A,c,rfl,-⟩:=id h;have G:=Bq (Dj.1 hf);have aF:=Fh G.out.1;have hl:p.edges.length<=2000000:=Bl;have hfb:(Cs p != 0)=false:=by simp [hf]
 clear hf;obtain ⟨j0,cJ,jz0,jz1,jz2⟩:=info_parts K0;have aL:=Kv 36 p (Aa A p.edges.length c) w;have D0:=BoxAt.new 36 p (Aa A p.edges.length c) w;have mV:=Fi 36 p (Aa A p.edges.length c) w;have Hw0:=Bq mV;clear mV;unfold Gw;go_enter func254,ntmps254;go_wp2_with fail
 refine (Ho p _ _ hl ((h.below aL).more aL.size)).mono ?_;rintro e w1 ⟨rfl,aJ⟩;have D:=D0.below aJ;have hb:=Bu aL aJ;obtain ⟨x0,x1,x2,x3,x4,xs⟩:=D.cells;go_wp2;clear x0 x1 x2 x3 x4;go_loopw [5,14] (fun vl i wr=>∃ k:Nat,k<=p.edges.length/\i = J U k/\Ow Eu 3 wr (w+1) vl (Ob (esL (p.edges.take k)) t)/\Below w w wr/\w.heap.size<wr.heap.size) (fun _ i _=>p.edges.length - (intOf i).toNat);case atStart=>exact ⟨0,Ag _,rfl,by simpa [Ob,esL] using Ow.nil Eu 3 w1 (w.heap.size+1),hb,xs⟩
 case round =>
  clear D hb aJ D0 xs;obtain ⟨k,hk,rfl,ho,hb,bM⟩:=hrel;by_cases aA:k<p.edges.length
  ·have aB:(k:Int)<(p.edges.length:Int):=Bl;obtain ⟨b,o,rfl,aK,c0,c1⟩:=(h.below hb).edge aA;obtain ⟨f1,f2,f3,f4⟩:=H8 G.out.2.1 aA;have dC:=Bq (show esL (p.edges.take (k+1))=esL (p.edges.take k) ++ [(p.edges[k].fr.toNat,p.edges[k].to.toNat)] by unfold esL;rw [Cp _ k aA,List.map_append];rfl);generalize p.edges[k].fr=fx at *
   generalize p.edges[k].to=tx at *
   obtain ⟨a,rfl⟩:=Ap f1;obtain ⟨d,rfl⟩:=Ap f3;simp only [Ao] at dC;by_cases hx:a=t
   ·subst hx;have S:=Bq (Afz (l:=esL (p.edges.take k)) dC.out);have Hl:=Bq (show (Ob (esL (p.edges.take k)) a).length<=3000000 by
     have h1:=Aaq (esL (p.edges.take k)) a;rw [Na,Az] at h1;omega)
    have mF:((a:Int) == (a:Int))=true:=Bn;have ha:Hid (∀ w:World,Below w w ((w.alloc (.cells #[J U (a:Int),J U (d:Int)] 187)).alloc (.cells #[J U (d:Int)] 3))):=fun w=>(Bt).alloc Bn _;go_wp2_with (at_builtin;refine Ch _ Eu Bp rfl (.tmp 22) (.tmp 25) rfl underlying32 cJ jz0 jz1 jz2 rfl (l:=Ob (esL (p.edges.take k)) a) rfl (ho.below (ha.out wr)) rfl (Rd.one Eu _ _ d Bn rfl 1 (Bs _) (Nat.lt_succ_self _)) Hl.out Bn Bp (by simp;omega) ?_;intro v5 w5 o5 g5 _)
    have aV:=Bu hb (ha.out wr);have W5:=aV.grown g5 aV.size (fun g hg=>by have:=ho.within _ hg;omega);have tG:=g5.size;simp only [Bj] at tG;refine ⟨⟨k+1,Bl,by go_num,?_,W5,Bl⟩,by simp [intOf];omega⟩;rw [S.out];exact o5
   ·have S:=Bq (Ago (l:=esL (p.edges.take k)) (t:=t) dC.out hx);have mF:((a:Int) == (t:Int))=false:=beq_eq_false_iff_ne.2 Bl;have ha:Hid (∀ w:World,Below w w (w.alloc (.cells #[J U (a:Int),J U (d:Int)] 187))):=fun w=>Bt;clear hx;go_wp2;refine ⟨⟨k+1,Bl,by go_num,?_,Bu hb (ha.out wr),by simp;omega⟩,by simp [intOf];omega⟩;rw [S.out];exact ho.below (ha.out wr)
  ·have aB:¬ (k:Int)<(p.edges.length:Int):=Bl;have bF:k=p.edges.length:=Bl;subst bF;rw [List.take_length] at ho;go_wp2_with fail
   have hL:(Ob (D4 p) t).length<=2000000:=by
    have h1:=Aaq (D4 p) t;unfold D4 at h1 ⊢;rw [Na] at h1;omega
   refine (R9 _ (Ob (D4 p) t) (Fq (D4 p) p.tasks.toNat t) _ _ hL (Aeu G.out.2.1 G.out.2.2.1 t) (Up _ _ _) ho).mono ?_;rintro e w2 ⟨rfl,o2,g2⟩;have aG:=hb.grown g2 hb.size (fun g hg=>by have:=ho.within _ hg;omega);go_wp2;go_ret;exact ⟨_,rfl,o2.more Bl,aG⟩
abbrev Agp (l:List UInt8):Value:=.string ⟨l.toArray⟩
def Ng (n:Nat):List UInt8:=if h:n<128 then [UInt8.ofNat n] else UInt8.ofNat (n % 128+128) :: Ng (n / 128)
termination_by n
decreasing_by omega
def En (n:Int):List UInt8:=if inB n 0 1000000000 then Ng n.toNat else []
theorem Af0 (n k:Nat) (h:n<128 ^ (k+1)):(Ng n).length<=k+1:=by
 induction k generalizing n with
 | zero=>rw [Ng,dif_pos (by simpa using h)];simp
 | succ k ih =>
  rw [Ng];split
  ·simp
  ·rw [List.length_cons]
   have:=ih (n / 128) (by rw [Nat.div_lt_iff_lt_mul Bp];rw [Nat.pow_succ] at h;exact h)
   omega
theorem Sa (n:Int):(En n).length<=5:=by
 unfold En;split
 ·rename_i h;refine Af0 _ 4 ?_;simp [inB] at h;omega
 ·simp
theorem Xg:(Am.info? 5).map (fun i=>(i.zero,i.size,i.bytes))=Ac (Ac (.int .u8 0),1,1):=Bm
def Ad5 (l:List UInt8) (w:World) (e:Ending) (w':World):Prop:=e = .returned (Agp l)/\Below w w w'
theorem Qp {base n c:Nat} {A:Option Addr} {l:List UInt8} {w:World} (h:Ow Pd 5 w base (Aa A n c) l) :
  (convert 22 9 (Aa A n c)).run Am w = .ok (Agp l) w:=by
 rcases h.form with ⟨h1,rfl⟩ | ⟨g,cap,h1,_,_,_,_,_,hc⟩
 ·simp only [Value.slice.injEq] at h1;obtain ⟨rfl,rfl,rfl⟩:=h1;rw [run_convert_bytes_string w _ _ 5 Ab 0 0 underlying22 underlying5 underlying9];rfl
 ·simp only [Value.slice.injEq] at h1;obtain ⟨rfl,rfl,rfl⟩:=h1;exact run_convert_bytes_back (P:=Am) w 22 9 5 ⟨g,0,Ab⟩ c l underlying22 underlying5 underlying9 (fun j hj=>by
   have:=hc j hj 0 _ rfl
   have e:(⟨g,0,Ab⟩:Addr).add j=⟨g,j,Ab⟩:=by unfold Addr.add;split<;>simp_all
   rw [e];simpa [Pd] using this)
theorem Om (w:World) (n:Int) (x:UInt8) (h:(x.toNat:Int)=n) (T:TypeId):∀ (j:Nat) (u:Value),(Pd.cells x)[j]? = Ac u->(w.alloc (.cells #[.int .u8 n] T)).cell? ((⟨w,0,Ab⟩:Addr).add j)=Ac u:=by
 subst h;exact Qg _ #[_] _ Bn
theorem Sy (n:Int) (w:World) :
  Calls Am 268 #[J U n] w (Ad5 (En n) w):=by
 by_cases hi:inB n 0 1000000000=true;case neg =>
  have hif:inB n 0 1000000000=false:=by simpa using hi
  have H:=Bq (show En n=[] by unfold En;rw [if_neg hi]);go_enter func268,ntmps268;go_wp2_with (go_at_call 56;refine (Co _ _ _ _).mono ?_;rintro e w3 ⟨rfl,rfl⟩)
  go_ret;exact ⟨by rw [H.out];rfl,Br _ _⟩
 obtain ⟨i0,aR,aX,aW,aU⟩:=info_parts Xg;have hV:=Bq (show En n=Ng n.toNat by unfold En;rw [if_pos hi]);have uV:0<=n/\n<=1000000000:=by simpa [inB] using hi
 go_enter func268,ntmps268;go_wp2_with (go_at_call 56;refine (Co _ _ _ _).mono ?_;rintro e w3 ⟨rfl,rfl⟩)
 go_loopw [0,3] (fun q x wr=>∃ (m:Nat) (l:List UInt8) (v:Value),Hid (l ++ Ng m=Ng n.toNat)/\Hid (∃ k,m<128 ^ k/\l.length+k=5)/\m<=1000000000/\q = J U m/\v=x/\Hid (Ow Pd 5 wr w v l)/\Below w w wr) (fun q _ _=>(intOf q).toNat);case atStart=>exact ⟨n.toNat,[],_,rfl,⟨5,Bl,rfl⟩,Bl,by rw [Int.toNat_of_nonneg Bl],rfl,Ow.nil _ _ _ _,Br _ _⟩
 case round =>
  obtain ⟨m,l,v,hl,aF,hm,rfl,rfl,hO,hb⟩:=hrel;have bZ:l.length<=5:=by obtain ⟨k,_,hk⟩:=aF.out;omega
  by_cases h8:m<128
  ·have h8':¬ (128:Int)<=(m:Int):=Bl;have hv:((UInt8.ofNat m).toNat:Int)=(m:Int):=by simp;omega
   have H:=Bq (show En n=l ++ [UInt8.ofNat m] by rw [hV.out,<-hl.out,Ng,dif_pos h8]);go_wp2_with (at_builtin;refine Kz (v:=v) Pd Bp rfl (.tmp 18) (.tmp 21) rfl underlying22 aR aX aW aU rfl (UInt8.ofNat m) rfl (hO.out.below ((Br wr wr).alloc Bn _)) ⟨wr,0,Ab⟩ 1 rfl (Om _ _ _ hv _) Bl Bp (by have:=hb.size;simp;omega) ?_;intro v5 w5 o5 g5;obtain ⟨A9,c9,rfl,-⟩:=id (Rd.of_own o5);simp only [Bd,List.length_singleton] at o5;have cv:=Qp o5;have eX:=(hb.alloc hb.size (.cells #[.int .u8 ((m:Int))] 5)).grown g5 (by have:=hb.size;simp;omega) (fun g hg=>(hO.out.within g hg).1))
   go_ret;exact ⟨by rw [H.out];rfl,eX⟩
  ·have h8':(128:Int)<=(m:Int):=Bl;have fH:=Bq (show ∃ k,m / 128<128 ^ k/\(l ++ [UInt8.ofNat (m % 128+128)]).length+k=5 by
    obtain ⟨k,hk,bF⟩:=aF.out;obtain ⟨k,rfl⟩:∃ k',k=k'+1:=by
     cases k with
     | zero=>simp at hk;omega
     | succ k=>exact ⟨k,rfl⟩
    refine ⟨k,?_,?_⟩
    ·rw [Nat.div_lt_iff_lt_mul Bp,<-Nat.pow_succ];exact hk
    ·rw [Bd,List.length_singleton];omega)
   have hv:((UInt8.ofNat (m % 128+128)).toNat:Int)=(m:Int) % 128+128:=by simp;omega
   have S:Hid ((l ++ [UInt8.ofNat (m % 128+128)]) ++ Ng (m / 128)=Ng n.toNat):=by
    show _=_;rw [<-hl.out,List.append_assoc];conv=>rhs;rw [Ng,dif_neg h8]
    rfl
   go_wp2_with (at_builtin;refine Kz (v:=v) Pd Bp rfl (.tmp 9) (.tmp 14) rfl underlying22 aR aX aW aU rfl (UInt8.ofNat (m % 128+128)) rfl (hO.out.below ((Br wr wr).alloc Bn _)) ⟨wr,0,Ab⟩ 1 rfl (Om _ _ _ hv _) Bl Bp (by have:=hb.size;simp;omega) ?_;intro v5 w5 o5 g5;obtain ⟨A9,c9,rfl,-⟩:=id (Rd.of_own o5);simp only [Bd,List.length_singleton] at o5;have cv:=Qp o5;have eX:=(hb.alloc hb.size (.cells #[.int .u8 ((m:Int) % 128+128)] 5)).grown g5 (by have:=hb.size;simp;omega) (fun g hg=>(hO.out.within g hg).1))
   exact ⟨⟨m / 128,_,_,S,fH,Bl,by go_num,rfl,o5,eX⟩,by simp [intOf];omega⟩
theorem Sz (n:Int) (w:World) :
  Calls Am 281 #[J U n] w (Ad5 (En n) w):=by
 by_cases hi:inB n 0 1000000000=true;case neg =>
  have hif:inB n 0 1000000000=false:=by simpa using hi
  have H:=Bq (show En n=[] by unfold En;rw [if_neg hi]);go_enter func281,ntmps281;go_wp2_with (go_at_call 63;refine (Cg _ _ _ _).mono ?_;rintro e w3 ⟨rfl,rfl⟩)
  go_ret;exact ⟨by rw [H.out];rfl,Br _ _⟩
 obtain ⟨i0,aR,aX,aW,aU⟩:=info_parts Xg;have hV:=Bq (show En n=Ng n.toNat by unfold En;rw [if_pos hi]);have uV:0<=n/\n<=1000000000:=by simpa [inB] using hi
 go_enter func281,ntmps281;go_wp2_with (go_at_call 63;refine (Cg _ _ _ _).mono ?_;rintro e w3 ⟨rfl,rfl⟩)
 go_loopw [0,3] (fun q x wr=>∃ (m:Nat) (l:List UInt8) (v:Value),Hid (l ++ Ng m=Ng n.toNat)/\Hid (∃ k,m<128 ^ k/\l.length+k=5)/\m<=1000000000/\q = J U m/\v=x/\Hid (Ow Pd 5 wr w v l)/\Below w w wr) (fun q _ _=>(intOf q).toNat);case atStart=>exact ⟨n.toNat,[],_,rfl,⟨5,Bl,rfl⟩,Bl,by rw [Int.toNat_of_nonneg Bl],rfl,Ow.empty Pd 5 w (g:=w) Bn,Bt⟩
 case round =>
  obtain ⟨m,l,v,hl,aF,hm,rfl,rfl,hO,hb⟩:=hrel;have bZ:l.length<=5:=by obtain ⟨k,_,hk⟩:=aF.out;omega
  by_cases h8:m<128
  ·have h8':¬ (127:Int)<(m:Int):=Bl;have hv:((UInt8.ofNat m).toNat:Int)=(m:Int):=by simp;omega
   have H:=Bq (show En n=l ++ [UInt8.ofNat m] by rw [hV.out,<-hl.out,Ng,dif_pos h8]);go_wp2_with (at_builtin;refine Kz (v:=v) Pd Bp rfl (.tmp 19) (.tmp 22) rfl underlying22 aR aX aW aU rfl (UInt8.ofNat m) rfl (hO.out.below ((Br wr wr).alloc Bn _)) ⟨wr,0,Ab⟩ 1 rfl (Om _ _ _ hv _) Bl Bp (by have:=hb.size;simp;omega) ?_;intro v5 w5 o5 g5;obtain ⟨A9,c9,rfl,-⟩:=id (Rd.of_own o5);simp only [Bd,List.length_singleton] at o5;have cv:=Qp o5;have eX:=(hb.alloc hb.size (.cells #[.int .u8 ((m:Int))] 5)).grown g5 (by have:=hb.size;simp;omega) (fun g hg=>(hO.out.within g hg).1))
   go_ret;exact ⟨by rw [H.out];rfl,eX⟩
  ·have h8':(127:Int)<(m:Int):=Bl;have fH:=Bq (show ∃ k,m / 128<128 ^ k/\(l ++ [UInt8.ofNat (m % 128+128)]).length+k=5 by
    obtain ⟨k,hk,bF⟩:=aF.out;obtain ⟨k,rfl⟩:∃ k',k=k'+1:=by
     cases k with
     | zero=>simp at hk;omega
     | succ k=>exact ⟨k,rfl⟩
    refine ⟨k,?_,?_⟩
    ·rw [Nat.div_lt_iff_lt_mul Bp,<-Nat.pow_succ];exact hk
    ·rw [Bd,List.length_singleton];omega)
   have hv:((UInt8.ofNat (m % 128+128)).toNat:Int)=128+(m:Int) % 128:=by simp;omega
   have S:Hid ((l ++ [UInt8.ofNat (m % 128+128)]) ++ Ng (m / 128)=Ng n.toNat):=by
    show _=_;rw [<-hl.out,List.append_assoc];conv=>rhs;rw [Ng,dif_neg h8]
    rfl
   go_wp2_with (at_builtin;refine Kz (v:=v) Pd Bp rfl (.tmp 10) (.tmp 15) rfl underlying22 aR aX aW aU rfl (UInt8.ofNat (m % 128+128)) rfl (hO.out.below ((Br wr wr).alloc Bn _)) ⟨wr,0,Ab⟩ 1 rfl (Om _ _ _ hv _) Bl Bp (by have:=hb.size;simp;omega) ?_;intro v5 w5 o5 g5;obtain ⟨A9,c9,rfl,-⟩:=id (Rd.of_own o5);simp only [Bd,List.length_singleton] at o5;have cv:=Qp o5;have eX:=(hb.alloc hb.size (.cells #[.int .u8 (128+(m:Int) % 128)] 5)).grown g5 (by have:=hb.size;simp;omega) (fun g hg=>(hO.out.within g hg).1))
   exact ⟨⟨m / 128,_,_,S,fH,Bl,by go_num,rfl,o5,eX⟩,by simp [intOf];omega⟩
theorem Chg.toGrown {b:Nat} {w w':World} (h:Chg [b] w w'):w.grownBy w' (Ac b) :=
 ⟨h.os,h.tape,h.output,h.size,fun k hk hn=>h.block k hk (fun hm=>hn (by simp only [List.mem_singleton] at hm;rw [hm]))⟩
theorem Ow.setLow {α:Type} {e:Enc α} {E:TypeId} {w:World} {base:Nat} {v:Value} {l:List α} (h:Ow e E w base v l) {a:Addr} (ha:a.block<base) (u:Value):Ow e E (w.setCell a u) base v l :=
 h.setOther (fun e'=>by have:=h.within _ e';omega) u
def Mz (id:Int) (r:Run):Bool:=r.id == id
def Dk (y:Yard) (id:Int):Int:=if y.runs.length<=8 then Hj (Mz id) y.runs else -1
theorem Rj {y:Yard} {id:Int} (h:¬ y.runs.length<=8):Dk y id = -1:=by unfold Dk;rw [if_neg h]
theorem Lh {y:Yard} {id:Int} (h:y.runs.length<=8):Dk y id=Hj (Mz id) y.runs:=by unfold Dk;rw [if_pos h]
theorem Me {α:Type} (p:α->Bool) (l:List α):Hj p l = -1 \/ ∃ k:Nat,k<l.length/\Hj p l=k:=by
 unfold Hj;cases h:l.findIdx? p with
 | none=>exact .inl rfl
 | some i=>exact .inr ⟨i,(List.findIdx?_eq_some_iff_getElem.1 h).1,rfl⟩
theorem Ez (y:Yard) (id:Int):Dk y id = -1 \/ ∃ k:Nat,k<y.runs.length/\Dk y id=k:=by
 by_cases h:y.runs.length<=8
 ·rw [Lh h];exact Me _ _
 ·exact .inl (Rj h)
theorem E8 (y:Yard) (s:Sl×Sl) (id:Int) (w:World) (hl:Ca y<=2000000) (h:Bv.rd w w y s) :
  Calls Am 153 #[Dm y s,J U id] w fun e w'=>e = .returned (J U (Dk y id))/\Below w w w':=by
 obtain ⟨s1,⟨A,n,c⟩⟩:=s;have h1:RdL Ce w w (Sl.v ⟨A,n,c⟩) y.runs:=h.2;obtain ⟨A',c',hv,-⟩:=h1.form;simp only [Sl.v,Value.slice.injEq] at hv;obtain ⟨rfl,rfl,rfl⟩:=hv;have bZ:y.runs.length<=2000000:=Ah (Cj Cn _) (by unfold Ca at hl;omega);have D:=DBox.new 27 [J U y.now,J U y.seq,Aa (s1,(⟨A,y.runs.length,c⟩:Sl)).1.a (s1,(⟨A,y.runs.length,c⟩:Sl)).1.n (s1,(⟨A,y.runs.length,c⟩:Sl)).1.c,Aa (s1,(⟨A,y.runs.length,c⟩:Sl)).2.a (s1,(⟨A,y.runs.length,c⟩:Sl)).2.n (s1,(⟨A,y.runs.length,c⟩:Sl)).2.c] w rfl;have aL:Below w w (w.alloc (.cells #[J U y.now,J U y.seq,Aa (s1,(⟨A,y.runs.length,c⟩:Sl)).1.a (s1,(⟨A,y.runs.length,c⟩:Sl)).1.n (s1,(⟨A,y.runs.length,c⟩:Sl)).1.c,Aa (s1,(⟨A,y.runs.length,c⟩:Sl)).2.a (s1,(⟨A,y.runs.length,c⟩:Sl)).2.n (s1,(⟨A,y.runs.length,c⟩:Sl)).2.c] 27)):=Bt;go_enter func153,ntmps153;go_wp2_with fail
 generalize (w.alloc (.cells #[J U y.now,J U y.seq,Aa (s1,(⟨A,y.runs.length,c⟩:Sl)).1.a (s1,(⟨A,y.runs.length,c⟩:Sl)).1.n (s1,(⟨A,y.runs.length,c⟩:Sl)).1.c,Aa (s1,(⟨A,y.runs.length,c⟩:Sl)).2.a (s1,(⟨A,y.runs.length,c⟩:Sl)).2.n (s1,(⟨A,y.runs.length,c⟩:Sl)).2.c] 27))=W at *
 have k3:W.cell? ⟨w,3,Ab⟩=Ac (Aa A y.runs.length c):=D.cell 3 _ rfl;have h2:=h1.below aL;go_wp2;go_loop [5] (fun i=>∃ k:Nat,k<=y.runs.length/\i = J U k/\Hid (∀ j (hj:j<y.runs.length),j<k->Mz id y.runs[j]=false)) (fun i=>y.runs.length - (intOf i).toNat);case atStart=>exact ⟨0,Ag _,rfl,fun j hj h0=>absurd h0 Bl⟩
 case round =>
  obtain ⟨k,hk,rfl,dX⟩:=hrel;by_cases h8:y.runs.length<=8
  ·by_cases aA:k<y.runs.length
   ·obtain ⟨b,o,s',rfl,aK,hr,c0,-⟩:=h2.run aA;have aB:(k:Int)<(y.runs.length:Int):=Bl;cases hp:Mz id y.runs[k]
    ·have t0:(y.runs[k].id == id)=false:=hp;have S:Hid (∀ j (hj:j<y.runs.length),j<k+1->Mz id y.runs[j]=false):=by
      intro j hj h0;by_cases e:j=k
      ·subst e;exact hp
      ·exact dX.out j hj Bl
     clear hp;go_wp2;exact ⟨⟨k+1,Bl,by go_num,S⟩,by simp [intOf];omega⟩
    ·have t0:(y.runs[k].id == id)=true:=hp;have H:=Bq (show Dk y id=k by rw [Lh h8];exact Jp aA (fun j hj=>dX.out j Bl hj) hp);clear hp;go_wp2;go_ret;exact ⟨C8 H.out.symm,aL⟩
   ·have H:=Bq (show Dk y id = -1 by rw [Lh h8];exact Kd (fun j hj=>dX.out j hj Bl));have aB:¬ ((k:Int)<(y.runs.length:Int)):=Bl;go_wp2;go_ret;exact ⟨C8 H.out.symm,aL⟩
  ·have H:=Bq (Rj (id:=id) h8);by_cases aA:k<y.runs.length
   ·have aB:(k:Int)<(y.runs.length:Int):=Bl;go_wp2;go_ret;exact ⟨C8 H.out.symm,aL⟩
   ·have aB:¬ ((k:Int)<(y.runs.length:Int)):=Bl;go_wp2;go_ret;exact ⟨C8 H.out.symm,aL⟩
theorem Ut (r:Run) (s:Sl×Sl) (id:Int) (p:Nat) (w:World) (hp:w.cell? ⟨p,0,Ab⟩=Ac (J U id)) (hp':p<w) :
  Calls Am 221 #[Gt r s,.pointer (Ac ⟨p,0,Ab⟩)] w fun e w'=>e = .returned (.bool (Mz id r))/\Below w w w':=by
 unfold Mz;cases t1:(r.id == id)
 all_goals
  go_enter func221,ntmps221;go_wp2;go_ret;exact ⟨rfl,by repeat (first | exact Br _ _ | refine Ae ?_ Bo _)⟩
theorem Yq (l:List Run) (s:Sl) (id:Int) (p:Nat) (w:World) (hl:l.length<=2000000) (h:RdL Ce w w s.v l) (hp:w.cell? ⟨p,0,Ab⟩=Ac (J U id)) (hp':p<w) :
  Calls Am 220 #[Aa s.a s.n s.c,.func (.func 221) #[] #[.pointer (Ac ⟨p,0,Ab⟩)]] w
   fun e w'=>e = .returned (J U (Hj (Mz id) l))/\Below w w w':=by
 obtain ⟨A,n,c⟩:=s;obtain ⟨A',c',hv,-⟩:=h.form;simp only [Sl.v,Value.slice.injEq] at hv;obtain ⟨rfl,rfl,rfl⟩:=hv;go_enter func220,ntmps220;go_wp2;go_loopw [8] (fun i wr=>∃ k:Nat,k<=l.length/\i = J U k/\Hid (∀ j (hj:j<k) (hj':j<l.length),Mz id l[j]=false)/\Below w w wr) (fun i _=>l.length - (intOf i).toNat);case atStart=>exact ⟨0,Ag _,rfl,fun j hj=>absurd hj Bl,Br _ _⟩
 case round =>
  obtain ⟨k,hk,rfl,dX,hb⟩:=hrel;by_cases aA:k<l.length
  ·obtain ⟨b,o,s',rfl,aK,hr,c0,c1,c2,c3,c4,c5,c6,c7⟩:=(h.below hb).run aA;have hp1:=(hb.cell (p:=⟨p,0,Ab⟩) hp').trans hp;have hs:=hb.size;cases t1:Mz id l[k]
   ·have S:Hid (∀ j (hj:j<k+1) (hj':j<l.length),Mz id l[j]=false):=by
     intro j hj hj';by_cases e:j=k
     ·subst e;exact t1
     ·exact dX.out j Bl hj'
    go_wp2_with (go_at_call 221;refine (Ut l[k] s' id p _ hp1 Bl).mono ?_;rintro e w1 ⟨rfl,aJ⟩;simp only [t1])
    exact ⟨⟨k+1,Bl,by go_num,S,hb.trans (aJ.mono hb.size)⟩,by simp [intOf];omega⟩
   ·have H:=Bq (Jp aA (fun j hj=>dX.out j hj Bl) t1);go_wp2_with (go_at_call 221;refine (Ut l[k] s' id p _ hp1 Bl).mono ?_;rintro e w1 ⟨rfl,aJ⟩;simp only [t1])
    go_ret;exact ⟨C8 (by rw [H.out]),hb.trans (aJ.mono hb.size)⟩
  ·have H:=Bq (Kd (p:=Mz id) (l:=l) (fun j hj=>dX.out j Bl hj));go_wp2;go_ret;exact ⟨C8 (by rw [H.out]),hb⟩
theorem E9 (y:Yard) (s:Sl×Sl) (id:Int) (w:World) (hl:Ca y<=2000000) (h:Bv.rd w w y s) :
  Calls Am 136 #[Dm y s,J U id] w fun e w'=>e = .returned (J U (Dk y id))/\Below w w w':=by
 obtain ⟨s1,⟨A,n,c⟩⟩:=s;have h1:RdL Ce w w (Sl.v ⟨A,n,c⟩) y.runs:=h.2;obtain ⟨A',c',hv,-⟩:=h1.form;simp only [Sl.v,Value.slice.injEq] at hv;obtain ⟨rfl,rfl,rfl⟩:=hv;have bZ:y.runs.length<=2000000:=Ah (Cj Cn _) (by unfold Ca at hl;omega);have D0:=DBox.new 27 [J U y.now,J U y.seq,Aa (s1,(⟨A,y.runs.length,c⟩:Sl)).1.a (s1,(⟨A,y.runs.length,c⟩:Sl)).1.n (s1,(⟨A,y.runs.length,c⟩:Sl)).1.c,Aa (s1,(⟨A,y.runs.length,c⟩:Sl)).2.a (s1,(⟨A,y.runs.length,c⟩:Sl)).2.n (s1,(⟨A,y.runs.length,c⟩:Sl)).2.c] w rfl;have D:=D0.below ((Br _ _).alloc (Bs _) (.cells #[J U id] 3));have E:=DBox.new 3 [J U id] (w.alloc (.cells #[J U y.now,J U y.seq,Aa (s1,(⟨A,y.runs.length,c⟩:Sl)).1.a (s1,(⟨A,y.runs.length,c⟩:Sl)).1.n (s1,(⟨A,y.runs.length,c⟩:Sl)).1.c,Aa (s1,(⟨A,y.runs.length,c⟩:Sl)).2.a (s1,(⟨A,y.runs.length,c⟩:Sl)).2.n (s1,(⟨A,y.runs.length,c⟩:Sl)).2.c] 27)) (b:=w+1) Bn;have aL:Below w w ((w.alloc (.cells #[J U y.now,J U y.seq,Aa (s1,(⟨A,y.runs.length,c⟩:Sl)).1.a (s1,(⟨A,y.runs.length,c⟩:Sl)).1.n (s1,(⟨A,y.runs.length,c⟩:Sl)).1.c,Aa (s1,(⟨A,y.runs.length,c⟩:Sl)).2.a (s1,(⟨A,y.runs.length,c⟩:Sl)).2.n (s1,(⟨A,y.runs.length,c⟩:Sl)).2.c] 27)).alloc (.cells #[J U id] 3)):=by repeat (first | exact Br _ _ | refine Ae ?_ Bo _)
 clear D0;by_cases h8:y.runs.length<=8;case neg =>
  have H:=Bq (Rj (id:=id) h8);go_enter func136,ntmps136;go_wp2;go_ret;exact ⟨C8 H.out.symm,aL⟩
 have H:=Bq (Lh (id:=id) h8);go_enter func136,ntmps136;go_wp2_with fail
 generalize ((w.alloc (.cells #[J U y.now,J U y.seq,Aa (s1,(⟨A,y.runs.length,c⟩:Sl)).1.a (s1,(⟨A,y.runs.length,c⟩:Sl)).1.n (s1,(⟨A,y.runs.length,c⟩:Sl)).1.c,Aa (s1,(⟨A,y.runs.length,c⟩:Sl)).2.a (s1,(⟨A,y.runs.length,c⟩:Sl)).2.n (s1,(⟨A,y.runs.length,c⟩:Sl)).2.c] 27)).alloc (.cells #[J U id] 3))=W at *
 have e0:W.cell? ⟨w+1,0,Ab⟩=Ac (J U id):=E.cell 0 _ rfl;have el:=E.lt;refine (Yq y.runs ⟨A,y.runs.length,c⟩ id (w+1) _ bZ ((h1.below aL).more aL.size) e0 el).mono ?_;rintro e w1 ⟨rfl,aJ⟩;go_wp2;go_ret;exact ⟨C8 H.out.symm,Bu aL aJ⟩
structure Seg where
 fr:Int
 notes:List Note
deriving DecidableEq,Inhabited
theorem On (a b:Nat) (ha:a<9223372036854775808) (hb:b<9223372036854775808):bits .xor .i64 (a:Int) (b:Int)=((a ^^^ b:Nat):Int):=by
 have hx:a ^^^ b<2 ^ 63:=Nat.xor_lt_two_pow Bl Bl;have h1:(BitVec.ofInt 64 (a:Int)).toNat=a:=by
  rw [BitVec.ofInt_natCast,BitVec.toNat_ofNat];exact Nat.mod_eq_of_lt Bl
 have h2:(BitVec.ofInt 64 (b:Int)).toNat=b:=by
  rw [BitVec.ofInt_natCast,BitVec.toNat_ofNat];exact Nat.mod_eq_of_lt Bl
 show U.wrap ((BitVec.ofInt 64 (a:Int) ^^^ BitVec.ofInt 64 (b:Int)).toNat:Int)=_;rw [BitVec.toNat_xor,h1,h2,IntKind.wrap_i64];generalize a ^^^ b=y at *
 have hy:y<9223372036854775808:=hx;clear h1 h2 hx;rw [Int.emod_eq_of_lt Bl Bl,Int.add_sub_cancel]
def J2 (x:Nat):Nat:=if x % 2=1 then (x / 2) ^^^ 3988292384 else x / 2
def Hb:Nat->Nat->Nat
 | 0,x=>x
 | k+1,x=>J2 (Hb k x)
def Kx (x:Nat) (b:UInt8):Nat:=Hb 8 (x ^^^ b.toNat)
def K8 (l:List UInt8):Int:=((l.foldl Kx 4294967295 ^^^ 4294967295:Nat):Int)
theorem Ac9 {x:Nat} (h:x<4294967296):J2 x<4294967296:=by
 unfold J2;split
 ·exact Nat.xor_lt_two_pow (n:=32) Bl Bl
 ·omega
theorem Aas (k:Nat) {x:Nat} (h:x<4294967296):Hb k x<4294967296:=by
 induction k with
 | zero=>exact h
 | succ k ih=>exact Ac9 ih
theorem Ada {x:Nat} (h:x<4294967296) (b:UInt8):Kx x b<4294967296:=by
 have hb:b.toNat<256:=b.toNat_lt;exact Aas 8 (Nat.xor_lt_two_pow (n:=32) h Bl)
theorem Adb (l:List UInt8):∀ {x:Nat},x<4294967296->l.foldl Kx x<4294967296:=by
 induction l with
 | nil=>intro x h;exact h
 | cons b l ih=>intro x h;exact ih (Ada h b)
theorem Aat (l:List UInt8):0<=K8 l/\K8 l<=4294967295:=by
 have h:l.foldl Kx 4294967295 ^^^ 4294967295<4294967296:=Nat.xor_lt_two_pow (n:=32) (Adb l Bl) Bl;unfold K8;omega
theorem Wo (l:List UInt8) (w:World) (hl:l.length<=2000000) :
  Calls Am 270 #[Agp l] w fun e w'=>e = .returned (J U (K8 l))/\Below w w w':=by
 have bM:(⟨l.toArray⟩:ByteArray).size=l.length:=by simp [ByteArray.size]
 go_enter func270,ntmps270;go_wp2;go_loopw [3,4] (fun s i wr=>∃ (x k:Nat),k<=l.length/\x<4294967296/\s = J U x/\i = J U k/\Hid ((l.take k).foldl Kx 4294967295=x)/\Below w w wr) (fun _ i _=>l.length - (intOf i).toNat);case atStart=>exact ⟨4294967295,0,Ag _,Bp,rfl,rfl,by rw [List.take_zero];rfl,Br _ _⟩
 case round =>
  obtain ⟨x,k,hk,hx,rfl,rfl,hF,hb⟩:=hrel;by_cases aA:k<l.length
  ·have aB:(k:Int)<(l.length:Int):=Bl;have hc:l[k].toNat<256:=l[k].toNat_lt;have ex:=On x l[k].toNat Bl Bl;have hX0:x ^^^ l[k].toNat<4294967296:=Nat.xor_lt_two_pow (n:=32) hx Bl;have sX:bits .xor .i64 (x:Int) (wrap64 (((⟨l.toArray⟩:ByteArray)[k]'(by rw [bM];exact aA)).toNat:Int))=((x ^^^ l[k].toNat:Nat):Int):=by
    rw [<-ex];congr 1;show wrap64 (l[k].toNat:Int)=_;generalize l[k].toNat=q at *
    unfold wrap64;omega
   have HF:=Bq (show (l.take (k+1)).foldl Kx 4294967295=Hb 8 (x ^^^ l[k].toNat) by
    rw [List.take_succ_eq_append_getElem aA,List.foldl_append,hF.out];rfl)
   clear hF;go_wp2;generalize x ^^^ l[k].toNat=z at *
   go_loopw [3,5] (fun s q wr=>∃ (y j:Nat),j<=8/\y<4294967296/\s = J U y/\q = J U j/\Hid (Hb j z=y)/\Below w w wr) (fun _ q _=>8 - (intOf q).toNat);case atStart=>exact ⟨z,0,Bl,hX0,by first | rfl | rw [sX],rfl,rfl,hb⟩
   case round =>
    clear hb;obtain ⟨y,j,hj,hy,rfl,rfl,hC,hb⟩:=hrel;by_cases hj8:j<8
    ·have hj8I:(j:Int)<8:=Bl;have eo:bits .xor .i64 ((y:Int) / 2) 3988292384=((y / 2 ^^^ 3988292384:Nat):Int):=by
      have:=On (y / 2) 3988292384 Bl Bl
      rw [<-this];congr 1<;>omega
     have aZ:y / 2 ^^^ 3988292384<4294967296:=Nat.xor_lt_two_pow (n:=32) Bl Bl;by_cases ho:y % 2=1
     ·have hoI:(y:Int) % 2=1:=Bl;have HC:=Bq (show Hb (j+1) z=y / 2 ^^^ 3988292384 by
       show J2 (Hb j z)=_;rw [hC.out];unfold J2;rw [if_pos ho])
      clear ho hC;go_wp2;exact ⟨⟨_,j+1,Bl,aZ,rfl,by go_num,HC,hb⟩,by simp [intOf];omega⟩
     ·have hoI:(y:Int) % 2=0:=Bl;have HC:=Bq (show Hb (j+1) z=y / 2 by
       show J2 (Hb j z)=_;rw [hC.out];unfold J2;rw [if_neg ho])
      clear ho hC;go_wp2;exact ⟨⟨y / 2,j+1,Bl,Bl,by go_num,by go_num,HC,hb⟩,by simp [intOf];omega⟩
    ·have HE:=Bq (show (l.take (k+1)).foldl Kx 4294967295=y by
      rw [HF.out,<-hC.out,show j=8 by omega])
     have hj8I:¬ (j:Int)<8:=Bl;clear hC HF;go_wp2;exact ⟨⟨y,k+1,Bl,hy,rfl,by go_num,HE,hb⟩,by simp [intOf];omega⟩
  ·have H:=Bq (show K8 l=((x ^^^ 4294967295:Nat):Int) by
    have:=hF.out
    rw [Bg Bl] at this;unfold K8;rw [this])
   have ex:bits .xor .i64 (x:Int) 4294967295=((x ^^^ 4294967295:Nat):Int):=On x 4294967295 Bl Bl;go_wp2;go_ret;exact ⟨by rw [H.out];rfl,hb⟩
theorem Wp (l:List UInt8) (w:World) (hl:l.length<=2000000) :
  Calls Am 282 #[Agp l] w fun e w'=>e = .returned (J U (K8 l))/\Below w w w':=by
 have bM:(⟨l.toArray⟩:ByteArray).size=l.length:=by simp [ByteArray.size]
 go_enter func282,ntmps282;go_wp2;go_loopw [3,4] (fun s i wr=>∃ (x k:Nat),k<=l.length/\x<4294967296/\s = J U x/\i = J U k/\Hid ((l.take k).foldl Kx 4294967295=x)/\Below w w wr) (fun _ i _=>l.length - (intOf i).toNat);case atStart=>exact ⟨4294967295,0,Ag _,Bp,rfl,rfl,by rw [List.take_zero];rfl,Br _ _⟩
 case round =>
  obtain ⟨x,k,hk,hx,rfl,rfl,hF,hb⟩:=hrel;by_cases aA:k<l.length
  ·have aB:(k:Int)<(l.length:Int):=Bl;have hc:l[k].toNat<256:=l[k].toNat_lt;have ex:=On x l[k].toNat Bl Bl;have hX0:x ^^^ l[k].toNat<4294967296:=Nat.xor_lt_two_pow (n:=32) hx Bl;have sX:bits .xor .i64 (x:Int) (wrap64 (((⟨l.toArray⟩:ByteArray)[k]'(by rw [bM];exact aA)).toNat:Int))=((x ^^^ l[k].toNat:Nat):Int):=by
    rw [<-ex];congr 1;show wrap64 (l[k].toNat:Int)=_;generalize l[k].toNat=q at *
    unfold wrap64;omega
   have HF:=Bq (show (l.take (k+1)).foldl Kx 4294967295=Hb 8 (x ^^^ l[k].toNat) by
    rw [List.take_succ_eq_append_getElem aA,List.foldl_append,hF.out];rfl)
   clear hF;go_wp2;generalize x ^^^ l[k].toNat=z at *
   go_loopw [3,5] (fun s q wr=>∃ (y j:Nat),j<=8/\y<4294967296/\s = J U y/\q = J U j/\Hid (Hb j z=y)/\Below w w wr) (fun _ q _=>8 - (intOf q).toNat);case atStart=>exact ⟨z,0,Bl,hX0,by first | rfl | rw [sX],rfl,rfl,hb⟩
   case round =>
    clear hb;obtain ⟨y,j,hj,hy,rfl,rfl,hC,hb⟩:=hrel;by_cases hj8:j<8
    ·have hj8I:(j:Int)<8:=Bl;have eo:bits .xor .i64 ((y:Int) / 2) 3988292384=((y / 2 ^^^ 3988292384:Nat):Int):=by
      have:=On (y / 2) 3988292384 Bl Bl
      rw [<-this];congr 1<;>omega
     have aZ:y / 2 ^^^ 3988292384<4294967296:=Nat.xor_lt_two_pow (n:=32) Bl Bl;by_cases ho:y % 2=1
     ·have hoI:(y:Int) % 2=1:=Bl;have HC:=Bq (show Hb (j+1) z=y / 2 ^^^ 3988292384 by
       show J2 (Hb j z)=_;rw [hC.out];unfold J2;rw [if_pos ho])
      clear ho hC;go_wp2;exact ⟨⟨_,j+1,Bl,aZ,rfl,by go_num,HC,hb⟩,by simp [intOf];omega⟩
     ·have hoI:(y:Int) % 2=0:=Bl;have HC:=Bq (show Hb (j+1) z=y / 2 by
       show J2 (Hb j z)=_;rw [hC.out];unfold J2;rw [if_neg ho])
      clear ho hC;go_wp2;exact ⟨⟨y / 2,j+1,Bl,Bl,by go_num,by go_num,HC,hb⟩,by simp [intOf];omega⟩
    ·have HE:=Bq (show (l.take (k+1)).foldl Kx 4294967295=y by
      rw [HF.out,<-hC.out,show j=8 by omega])
     have hj8I:¬ (j:Int)<8:=Bl;clear hC HF;go_wp2;exact ⟨⟨y,k+1,Bl,hy,rfl,by go_num,HE,hb⟩,by simp [intOf];omega⟩
  ·have H:=Bq (show K8 l=((x ^^^ 4294967295:Nat):Int) by
    have:=hF.out
    rw [Bg Bl] at this;unfold K8;rw [this])
   have ex:bits .xor .i64 (x:Int) 4294967295=((x ^^^ 4294967295:Nat):Int):=On x 4294967295 Bl Bl;go_wp2;go_ret;exact ⟨by rw [H.out];rfl,hb⟩
theorem Wq (l l':List Edge) (s s':Sl) (w:World) (hl:l.length<=2000000) (hl':l'.length<=2000000) (h:RdL Eg w w s.v l) (h':RdL Eg w w s'.v l') :
  Calls Am 246 #[Aa s.a s.n s.c,Aa s'.a s'.n s'.c] w fun e w'=>e = .returned (.bool (decide (l=l')))/\Below w w w':=by
 obtain ⟨A,n,c⟩:=s;obtain ⟨A',n',c'⟩:=s';obtain ⟨A1,e1,hv,-⟩:=h.form;obtain ⟨A2,e2,sH,-⟩:=h'.form;simp only [Sl.v,Value.slice.injEq] at hv sH;obtain ⟨rfl,rfl,rfl⟩:=hv;obtain ⟨rfl,rfl,rfl⟩:=sH;by_cases aC:l.length=l'.length
 ·have aL:((l.length:Int) != (l'.length:Int))=false:=by simp [aC]
  have Hne:=Bq aC;clear aC;go_enter func246,ntmps246;go_wp2;go_loopw [13] (fun i wr=>∃ k:Nat,k<=l.length/\i = J U k/\Hid (l.take k=l'.take k)/\Below w w wr) (fun i _=>l.length - (intOf i).toNat);case atStart=>exact ⟨0,Ag _,rfl,rfl,Br _ _⟩
  case round =>
   obtain ⟨k,hk,rfl,eS,hb⟩:=hrel;by_cases aA:k<l.length
   ·have cA:k<l'.length:=by rw [<-Hne.out];exact aA
    obtain ⟨b,o,_,rfl,aK,_,c0,c1⟩:=(h.below hb).edge aA;obtain ⟨b',o',_,rfl,bI,_,d0,d1⟩:=(h'.below hb).edge cA;have i1:(k:Int)<(l.length:Int):=Bl;have i2:(k:Int)<(l'.length:Int):=Bl;have no:l[k]≠l'[k]->Hid (decide (l=l')=false):=fun hx=>by
     show decide (l=l')=false;simp only [decide_eq_false_iff_not];intro e;subst e;exact hx rfl
    by_cases h0:l[k].fr=l'[k].fr;case neg =>
     have t0:(l[k].fr == l'[k].fr)=false:=beq_eq_false_iff_ne.2 h0;have H:=no (fun e=>h0 (by rw [e]));clear h0 no;go_wp2;go_quiet (fail);go_wp2;go_ret;exact ⟨Bw H.out.symm,Cm hb _⟩
    rw [<-h0] at d0;have H0:=Bq h0;clear h0;by_cases h1:l[k].to=l'[k].to;case neg =>
     have t1:(l[k].to == l'[k].to)=false:=beq_eq_false_iff_ne.2 h1;have H:=no (fun e=>h1 (by rw [e]));clear h1 no;go_wp2;go_quiet (fail);go_wp2;go_ret;exact ⟨Bw H.out.symm,Cm hb _⟩
    rw [<-h1] at d1;have H1:=Bq h1;clear h1;have S:Hid (l.take (k+1)=l'.take (k+1)):=by
     show l.take (k+1)=l'.take (k+1);have hx:l[k]=l'[k]:=by
      have g0:=H0.out ;have g1:=H1.out;revert g0 g1;cases l[k];cases l'[k];simp only;rintro rfl;rintro rfl;rfl
     rw [Cp l k aA,Cp l' k cA,eS.out,hx]
    clear no;go_wp2;go_quiet (fail);go_wp2;exact ⟨⟨k+1,Bl,by go_num,S,Cm hb _⟩,by simp [intOf];omega⟩
   ·go_wp2;go_ret;refine ⟨Bw ?_,hb⟩;have h1:=eS.out;rw [Bg Bl,Bg (by rw [<-Hne.out];omega)] at h1;simp [h1]
 ·have aL:((l.length:Int) != (l'.length:Int))=true:=by simp;omega
  go_enter func246,ntmps246;go_wp2;go_ret;refine ⟨Bw ?_,Br _ _⟩;simp only [Bool.false_eq,decide_eq_false_iff_not];intro e;exact aC (by rw [e])
theorem Yr (x y:Plan) (s r:Sl) (w:World) (hl:Ed x<=2000000) (hl':Ed y<=2000000) (h:Cd.rd w w x s) (h':Cd.rd w w y r) :
  Calls Am 175 #[Jr x s,Jr y r] w fun e w'=>e = .returned (.bool (decide (x=y)))/\Below w w w':=by
 have aY:∀ W,Below w w W->Cd.rd W W x s:=fun W hW=>Cd.rd_more (Cd.rd_below h hW) hW.size;have cF:∀ W,Below w w W->Cd.rd W W y r:=fun W hW=>Cd.rd_more (Cd.rd_below h' hW) hW.size;have no:∀ {P:Prop},(x=y->P) -> ¬ P->Hid (decide (x=y)=false):=fun f g=>decide_eq_false (fun e=>g (f e));have a1:Below w w (w.alloc (.cells #[J U x.prio,J U x.most,J U x.wait,J U x.tasks,Aa s.a s.n s.c] 36)):=Bt;have a2:Below (w.alloc (.cells #[J U x.prio,J U x.most,J U x.wait,J U x.tasks,Aa s.a s.n s.c] 36)) (w.alloc (.cells #[J U x.prio,J U x.most,J U x.wait,J U x.tasks,Aa s.a s.n s.c] 36)) ((w.alloc (.cells #[J U x.prio,J U x.most,J U x.wait,J U x.tasks,Aa s.a s.n s.c] 36)).alloc (.cells #[J U y.prio,J U y.most,J U y.wait,J U y.tasks,Aa r.a r.n r.c] 36)):=Bt;have X:=(DBox.new 36 [J U x.prio,J U x.most,J U x.wait,J U x.tasks,Aa s.a s.n s.c] w rfl).below a2;have Y:=DBox.new 36 [J U y.prio,J U y.most,J U y.wait,J U y.tasks,Aa r.a r.n r.c] (w.alloc (.cells #[J U x.prio,J U x.most,J U x.wait,J U x.tasks,Aa s.a s.n s.c] 36)) (b:=w+1) Bn;have B0:=Bu a1 a2;clear a1 a2;by_cases h0:x.prio=y.prio;case neg =>
  have t0:(x.prio == y.prio)=false:=beq_eq_false_iff_ne.2 h0;have H:=no (fun e=>by rw [e]) h0;clear h0 no aY cF;go_enter func175,ntmps175;go_wp2;go_ret;exact ⟨Bw H.out.symm,B0⟩
 have t0:(x.prio == y.prio)=true:=by simp [h0]
 have H0:=Bq h0;clear h0;by_cases h1:x.most=y.most;case neg =>
  have t1:(x.most == y.most)=false:=beq_eq_false_iff_ne.2 h1;have H:=no (fun e=>by rw [e]) h1;clear h1 no aY cF;go_enter func175,ntmps175;go_wp2;go_ret;exact ⟨Bw H.out.symm,B0⟩
 have t1:(x.most == y.most)=true:=by simp [h1]
 have H1:=Bq h1;clear h1;by_cases h2:x.wait=y.wait;case neg =>
  have t2:(x.wait == y.wait)=false:=beq_eq_false_iff_ne.2 h2;have H:=no (fun e=>by rw [e]) h2;clear h2 no aY cF;go_enter func175,ntmps175;go_wp2;go_ret;exact ⟨Bw H.out.symm,B0⟩
 have t2:(x.wait == y.wait)=true:=by simp [h2]
 have H2:=Bq h2;clear h2;by_cases h3:x.tasks=y.tasks;case neg =>
  have t3:(x.tasks == y.tasks)=false:=beq_eq_false_iff_ne.2 h3;have H:=no (fun e=>by rw [e]) h3;clear h3 no aY cF;go_enter func175,ntmps175;go_wp2;go_ret;exact ⟨Bw H.out.symm,B0⟩
 have t3:(x.tasks == y.tasks)=true:=by simp [h3]
 have H3:=Bq h3;clear h3;go_enter func175,ntmps175;go_wp2_with fail
 generalize ((w.alloc (.cells #[J U x.prio,J U x.most,J U x.wait,J U x.tasks,Aa s.a s.n s.c] 36)).alloc (.cells #[J U y.prio,J U y.most,J U y.wait,J U y.tasks,Aa r.a r.n r.c] 36))=w0 at *
 refine (Wq x.edges y.edges s r _ (Ah (Cj Eb _) (by unfold Ed at hl;omega)) (Ah (Cj Eb _) (by unfold Ed at hl';omega)) (aY _ B0) (cF _ B0)).mono ?_;rintro e w1 ⟨rfl,b1⟩;replace X:=X.below b1;replace Y:=Y.below b1;replace B0:=Bu B0 b1;have u0:=X.cell 0 _ rfl;have v0:=Y.cell 0 _ rfl;have u1:=X.cell 1 _ rfl;have v1:=Y.cell 1 _ rfl;have u2:=X.cell 2 _ rfl;have v2:=Y.cell 2 _ rfl;have u3:=X.cell 3 _ rfl;have v3:=Y.cell 3 _ rfl;have u4:=X.cell 4 _ rfl;have v4:=Y.cell 4 _ rfl;have us:=X.lt;have vs:=Y.lt;by_cases h4:x.edges=y.edges;case neg =>
  have t4:decide (x.edges=y.edges)=false:=decide_eq_false h4;have H:=no (fun e=>by rw [e]) h4;rw [t4];clear h4 no aY cF t4;go_wp2;go_ret;exact ⟨Bw H.out.symm,B0⟩
 have t4:decide (x.edges=y.edges)=true:=decide_eq_true h4;rw [t4];have H4:=Bq h4;clear h4 t4 b1;have H:Hid (decide (x=y)=true):=decide_eq_true (by
  have e0:=H0.out ;have e1:=H1.out ;have e2:=H2.out ;have e3:=H3.out ;have e4:=H4.out;cases x;cases y;simp only at e0 e1 e2 e3 e4;subst e0 e1 e2 e3 e4;rfl)
 clear no aY cF;go_wp2;go_ret;exact ⟨Bw H.out.symm,B0⟩
structure Follower where
 yard:Yard
 seq:Int
deriving DecidableEq,Inhabited
@[go_sem] abbrev Gf (x:Follower) (s:(Sl×Sl)):Value:=.agg #[.int .i64 x.yard.now,.int .i64 x.yard.seq,.slice s.1.a s.1.n s.1.c,.slice s.2.a s.2.n s.2.c,.int .i64 x.seq]
abbrev By:Dt Follower:=Dt.via Bv (·.yard) (fun q=>[.int .i64 q.1.yard.now,.int .i64 q.1.yard.seq,.slice q.2.1.a q.2.1.n q.2.1.c,.slice q.2.2.a q.2.2.n q.2.2.c,.int .i64 q.1.seq]) 5 (fun _=>rfl) (fun q u hu=>by simp at hu;rcases hu with rfl | rfl | rfl | rfl | rfl<;>rfl)
def Dy (x:Follower):Nat:=Ca x.yard
def Kg (x:Follower):Prop:=Ac0 x.yard/\Wf x.seq
theorem J3 (x:Follower) (s:(Sl×Sl)) (w:World) (hl:Dy x<=2000000) (h:By.rd w w x s) :
  Calls Am 33 #[Gf x s] w (Df By Gf x w):=by
 have aY:∀ W,Below w w W->By.rd W W x s:=fun W hW=>By.rd_more (By.rd_below h hW) hW.size;go_enter func33,ntmps33;go_wp2_with fail
 refine (Ac1 x.yard s _ (by unfold Dy at hl;omega) ((aY _ (by repeat (first | exact Br _ _ | refine Ae ?_ Bo _))))).mono ?_;rintro e w0 ⟨s0,F0,rfl,o0,n0,aL⟩;obtain ⟨q0,p0⟩:=Gl aL;have z0:=aL.size;simp only [Bj,Bk] at z0 n0;have B0:Below w w w0:=Bu (by repeat (first | exact Br _ _ | refine Ae ?_ Bo _)) aL;go_wp2;refine Aj (v:=Gf x s0) ?_ rfl ?_
 ·simp [Gf,results,results33,go_sem,q0]
 ·refine ⟨s0,F0,rfl,?_,?_,?_⟩
  ·repeat (first | (with_reducible exact o0) | refine Dt.ow_set Bv ?_ (by intro hm;have:=n0 _ hm;(try simp only [Bj,Bk] at this);omega) _)
  ·intro b hb
   have:=n0 b hb
   omega
  ·repeat (first | (with_reducible exact B0) | (with_reducible exact Br _ _) | refine Ad ?_ Bo _ | refine Ae ?_ Bo _)
theorem J4 (x y:Follower) (s r:(Sl×Sl)) (w:World) (hl:Dy x<=2000000) (hl':Dy y<=2000000) (h:By.rd w w x s) (h':By.rd w w y r) :
  Calls Am 36 #[Gf x s,Gf y r] w fun e w'=>e = .returned (.bool (decide (x=y)))/\Below w w w':=by
 have aY:∀ W,Below w w W->By.rd W W x s:=fun W hW=>By.rd_more (By.rd_below h hW) hW.size;have cF:∀ W,Below w w W->By.rd W W y r:=fun W hW=>By.rd_more (By.rd_below h' hW) hW.size;go_enter func36,ntmps36;go_wp2_with fail
 refine (Ac2 x.yard y.yard s r _ (by unfold Dy at hl;omega) (by unfold Dy at hl';omega) ((aY _ (by repeat (first | exact Br _ _ | refine Ae ?_ Bo _)))) ((cF _ (by repeat (first | exact Br _ _ | refine Ae ?_ Bo _))))).mono ?_;rintro e w0 ⟨rfl,aL⟩;have B0:Below w w w0:=Bu (by repeat (first | exact Br _ _ | refine Ae ?_ Bo _)) aL;obtain ⟨q0,p0⟩:=Gl aL;by_cases h0:x.yard=y.yard;case neg =>
  have H:=Bq (show decide (x=y)=false by simp only [decide_eq_false_iff_not];intro e;exact h0 (by rw [e]));rw [decide_eq_false h0];clear h0;go_wp2;go_ret;exact ⟨Bw (by first | exact H.out.symm | rfl),by exact B0⟩
 rw [decide_eq_true h0];have H0:=Bq h0;clear h0;by_cases h1:x.seq=y.seq;case neg =>
  have t1:(x.seq != y.seq)=true:=by rw [bne_iff_ne];exact h1
  have H:=Bq (show decide (x=y)=false by simp only [decide_eq_false_iff_not];intro e;exact h1 (by rw [e]));clear h1;go_wp2;go_ret;exact ⟨Bw (by first | exact H.out.symm | rfl),by exact B0⟩
 have t1:(x.seq != y.seq)=false:=by simp [h1]
 have H1:=Bq h1;clear h1;have H:=Bq (show decide (x=y)=true by
  simp only [decide_eq_true_eq];have hh:=And.intro H0.out H1.out;obtain ⟨e0,e1⟩:=hh;cases x;cases y;simp only at e0 e1;subst e0 e1;rfl)
 go_wp2;go_ret;exact ⟨Bw (by first | exact H.out.symm | rfl),by exact B0⟩
theorem Uu (x:Follower) (s:(Sl×Sl)) (left:Int) (w:World) (h0:0<=left) (h1:left<=2000000) (hw:Kg x) (h:By.rd w w x s) :
  Calls Am 30 #[Gf x s,J U left] w (K4 left (Dy x) w):=by
 have aY:∀ W,Below w w W->By.rd W W x s:=fun W hW=>By.rd_more (By.rd_below h hW) hW.size;go_enter func30,ntmps30;go_wp2_with fail
 refine (Ac3 x.yard s left _ Bl Bl hw.1 ((aY _ (by repeat (first | exact Br _ _ | refine Ae ?_ Bo _))))).mono ?_;rintro e w0 ⟨r0,rfl,gE,aL⟩;have B0:Below w w w0:=Bu (by repeat (first | exact Br _ _ | refine Ae ?_ Bo _)) aL;obtain ⟨q0,p0⟩:=Gl aL;rcases gE with rfl | ⟨y0,z0⟩
 ·go_wp2;go_ret;exact ⟨-1,rfl,.inl rfl,B0⟩
 go_wp2;go_ret;exact ⟨_,rfl,.inr ⟨Bl,by unfold Dy;omega⟩,B0⟩
def Ea:List Note->Int->List Note
 | [],_=>[]
 | x :: l,q=>if x.seq<=q then Ea l q else if x.seq - 1=q then x :: Ea l x.seq else []
noncomputable def tf (p:Prop):Bool:=@decide p (Classical.propDecidable p)
theorem Dp {p:Prop} (h:p):tf p=true:=by unfold tf;exact @decide_eq_true p (Classical.propDecidable p) h
theorem Ci {p:Prop} (h:¬ p):tf p=false:=by unfold tf;exact @decide_eq_false p (Classical.propDecidable p) h
theorem Mj {p:Prop} : tf p=true ↔ p:=by
 constructor
 ·intro h;by_cases hp:p
  ·exact hp
  ·rw [Ci hp] at h;cases h
 ·exact Dp
theorem Af1 {p q:Prop} (h:p ↔ q):tf p=tf q:=by
 by_cases hp:p
 ·rw [Dp hp,Dp (h.1 hp)]
 ·rw [Ci hp,Ci (fun hq=>hp (h.2 hq))]
def E7 (a b:Entry):Bool:=decide (b.prio<a.prio) || ((a.prio == b.prio) && decide (a.seq<b.seq))
def H9 (l:List Entry):Prop:=l.length<=80 /\ ∀ i (h:i+1<l.length),E7 l[i] l[i+1]=true
def Cv (r:Run) (k:Nat):Task:=r.tasks.getD k ⟨0,0,0,0⟩
theorem Cu {r:Run} {k:Nat} (h:k<r.tasks.length):Cv r k=r.tasks[k]:=by unfold Cv;rw [List.getD_eq_getElem?_getD,List.getElem?_eq_getElem h];rfl
def Ia (r:Run) (l:List Nat):Nat:=(l.filter fun b=>(Cv r b).state != 4).length
def Iq (r:Run) (t:Nat):Nat:=Ia r (D9 (D4 r.plan) r.plan.tasks.toNat t)
theorem Oo (r:Run) (l:List Nat):Ia r l<=l.length:=List.length_filter_le _ _
theorem Uv {r:Run} {l:List Nat} {k:Nat} (hk:k<l.length) (h:(Cv r l[k]).state≠4):Ia r (l.take (k+1))=Ia r (l.take k)+1:=by
 unfold Ia;rw [Cp l k hk,List.filter_append,Bd,List.filter_cons,if_pos (by simpa using h)];rfl
theorem Xh {r:Run} {l:List Nat} {k:Nat} (hk:k<l.length) (h:(Cv r l[k]).state=4):Ia r (l.take (k+1))=Ia r (l.take k):=by
 unfold Ia;rw [Cp l k hk,List.filter_append,Bd,List.filter_cons,if_neg (by simp [h])];rfl
def Od (x:Task) (N:Nat) (most:Int):Prop :=
 (1<=x.state/\x.state<=6)/\x.need=N/\(0<=x.try_/\x.try_<=most)/\(x.state=3->1<=x.until_/\x.until_<=1000000000)/\(x.state≠3->x.until_=0) /\
 (x.state=1->0<x.need)/\(x.state=2->x.need=0/\x.try_<most)/\(x.state=3\/x.state=4\/x.state=5->x.need=0/\1<=x.try_)
def Hk (r:Run) (t:Nat):Prop:=Od (Cv r t) (Iq r t) r.plan.most
def Dv (l:List Task) (s:Int):Nat:=(l.filter fun x=>x.state == s).length
theorem Op (l:List Task) (s:Int):Dv l s<=l.length:=List.length_filter_le _ _
theorem Xi (l:List Task) (x:Task) (s:Int):Dv (l ++ [x]) s=Dv l s+if x.state=s then 1 else 0:=by
 unfold Dv;rw [List.filter_append,Bd];congr 1;by_cases h:x.state=s<;>simp [h]
theorem Aau {l:List Task} {s:Int} {k:Nat} (hk:k<l.length) (h:l[k].state=s):Dv (l.take (k+1)) s=Dv (l.take k) s+1:=by
 rw [Cp l k hk,Xi,if_pos h]
theorem Ad6 {l:List Task} {s:Int} {k:Nat} (hk:k<l.length) (h:¬ l[k].state=s):Dv (l.take (k+1)) s=Dv (l.take k) s:=by
 rw [Cp l k hk,Xi,if_neg h,Nat.add_zero]
def K6 (l:List Task):Nat:=Dv l 1+Dv l 2+Dv l 3
theorem Af2 {l:List Task} (h:∀ x∈l,1<=x.state/\x.state<=6):K6 l+Dv l 4+Dv l 5+Dv l 6=l.length:=by
 unfold K6;induction l with
 | nil=>rfl
 | cons x l ih =>
  have h1:=ih (fun y hy=>h y (List.mem_cons_of_mem _ hy));have hx:=h x (List.mem_cons_self ..);have hc:∀ s,Dv (x :: l) s=(if x.state=s then 1 else 0)+Dv l s:=by
   intro s;unfold Dv;by_cases h:x.state=s<;>simp [h];omega
  simp only [hc,List.length_cons];rcases (show x.state=1\/x.state=2\/x.state=3\/x.state=4\/x.state=5\/x.state=6 by omega) with e | e | e | e | e | e<;>simp [e]<;>omega
def stL (l:List Task):Int :=
 if Dv l 4=l.length then 2 else if Dv l 5=1/\K6 l=0 then 3 else if Dv l 5=0/\0<Dv l 6/\K6 l=0 then 4 else if Dv l 5=0/\Dv l 6=0 then 1 else 0
def Hd (r:Run):Prop :=
 (1<=r.id/\r.id<=9999)/\Cs r.plan=0/\(r.tasks.length:Int)=r.plan.tasks/\(∀ t,t<r.tasks.length->Hk r t)/\r.state=stL r.tasks/\r.state≠0
def Cf (y:Yard):List Entry:=y.shelf.flatten
def Kh (y:Yard) (id:Int):Run:=y.runs.getD (Dk y id).toNat ⟨0,⟨0,0,0,0,[]⟩,0,[]⟩
theorem Gy {y:Yard} {id:Int} {k:Nat} (hk:k<y.runs.length) (h:Dk y id=k):Kh y id=y.runs[k]:=by
 unfold Kh;rw [h,Ao,List.getD_eq_getElem?_getD,List.getElem?_eq_getElem hk];rfl
def Uw (y:Yard) (e:Entry):Prop:=0<=Dk y e.run/\(0<=e.task/\e.task<(Kh y e.run).tasks.length)/\(Cv (Kh y e.run) e.task.toNat).state=2
noncomputable def E0 (y:Yard) (e:Entry):Bool:=tf (Uw y e)
def He (l:List Run):Nat:=((l.filter fun r=>r.state == 1).map fun r=>r.tasks.length).sum
noncomputable def Gm (y:Yard) (l:List Entry):Nat:=(l.filter fun e=>!E0 y e).length
noncomputable def Gp (y:Yard):Nat:=He y.runs+Gm y (Cf y)
def Ka (id:Int) (t:Nat) (e:Entry):Bool:=(e.run == id) && (e.task == (t:Int))
def Jh (id:Int) (t:Nat) (l:List Entry):Nat:=(l.filter (Ka id t)).length
def Pe (now:Int) (r:Run) (es:List Entry) (t:Nat):Prop :=
 ((Cv r t).state=2->(∀ e∈es,Ka r.id t e=true->e.prio=r.plan.prio)/\Jh r.id t es=1)/\((Cv r t).state=3->now+1<=(Cv r t).until_/\(Cv r t).until_<=now+r.plan.wait)
def Ki (now:Int) (r:Run) (es:List Entry):Prop:=∀ t,t<r.tasks.length->Pe now r es t
def Dh (y:Yard):Prop :=
 (0<=y.now/\y.now<=999999980)/\(1<=y.seq/\y.seq<=1000000000)/\y.shelf.length=4/\(∀ l∈y.shelf,H9 l)/\(∀ e∈Cf y,1<=e.seq/\e.seq<=y.seq - 1)/\((Cf y).map (·.seq)).Nodup /\
 y.runs.length<=8/\(∀ k (h:k<y.runs.length),Hd y.runs[k]/\Dk y y.runs[k].id=k)/\(∀ r∈y.runs,Ki y.now r (Cf y))/\Gp y<=40
theorem Ux {y:Yard} {l:List Entry} {k:Nat} (hk:k<l.length) (h:E0 y l[k]=false):Gm y (l.take (k+1))=Gm y (l.take k)+1:=by
 unfold Gm;rw [Cp l k hk,List.filter_append,Bd,List.filter_cons,if_pos (by simp [h])];rfl
theorem Xj {y:Yard} {l:List Entry} {k:Nat} (hk:k<l.length) (h:E0 y l[k]=true):Gm y (l.take (k+1))=Gm y (l.take k):=by
 unfold Gm;rw [Cp l k hk,List.filter_append,Bd,List.filter_cons,if_neg (by simp [h])];rfl
theorem Oq (y:Yard) (l:List Entry):Gm y l<=l.length:=List.length_filter_le _ _
theorem Pf (y:Yard) (l l':List Entry):Gm y (l ++ l')=Gm y l+Gm y l':=by
 unfold Gm;rw [List.filter_append,Bd]
theorem Xk {id:Int} {t:Nat} {l:List Entry} {k:Nat} (hk:k<l.length) (h:Ka id t l[k]=true):Jh id t (l.take (k+1))=Jh id t (l.take k)+1:=by
 unfold Jh;rw [Cp l k hk,List.filter_append,Bd,List.filter_cons,if_pos h];rfl
theorem Aav {id:Int} {t:Nat} {l:List Entry} {k:Nat} (hk:k<l.length) (h:Ka id t l[k]=false):Jh id t (l.take (k+1))=Jh id t (l.take k):=by
 unfold Jh;rw [Cp l k hk,List.filter_append,Bd,List.filter_cons,if_neg (by simp [h])];rfl
theorem Aaw (id:Int) (t:Nat) (l:List Entry):Jh id t l<=l.length:=List.length_filter_le _ _
theorem Uy {l:List Run} {k:Nat} (hk:k<l.length) (h:l[k].state=1):He (l.take (k+1))=He (l.take k)+l[k].tasks.length:=by
 unfold He;rw [Cp l k hk,List.filter_append,List.map_append,List.sum_append,List.filter_cons,if_pos (by simp [h])];simp
theorem Xl {l:List Run} {k:Nat} (hk:k<l.length) (h:¬ l[k].state=1):He (l.take (k+1))=He (l.take k):=by
 unfold He;rw [Cp l k hk,List.filter_append,List.map_append,List.sum_append,List.filter_cons,if_neg (by simp [h])];simp
theorem Aev (l:List Run):He l<=(l.map fun r=>r.tasks.length).sum:=by
 unfold He;induction l with
 | nil=>simp
 | cons r l ih =>
  rw [List.filter_cons];split
  ·simp only [List.map_cons,List.sum_cons];omega
  ·simp only [List.map_cons,List.sum_cons];omega
theorem Ir {w:World} {B:Nat} {v:Value} {l:List Edge} (h:RdL Eg w B v l):Rd G6 w B v l:=by
 obtain ⟨rs,rfl,⟨A,c,rfl,hc,hA⟩,_⟩:=h;refine ⟨A,c,by rw [Ar],by rw [Ar];exact hc,fun hl=>?_⟩;rw [Ar] at hl;obtain ⟨b,o,h1,h2,h3⟩:=hA hl;refine ⟨b,o,h1,h2,fun k hk j u hu=>?_⟩;rw [List.getElem_map] at hu;exact h3 k (by rw [Ar] at hk;exact hk) j u hu
theorem Aax (w:World):∀ l:List Edge,Ows Eg w [] (l.map fun x=>(x,()))
 | []=>.nil
 | x :: l=>by
  have:=Ows.cons (d:=Eg) (w:=w) (F:=[]) (r:=(x,())) rfl (Aax w l)
  exact this
theorem Agq {w:World} {E:TypeId} {base:Nat} {v:Value} {l:List Edge} (h:Ow G6 E w base v l):∃ (s:Sl) (F:List Nat),v = Aa s.a s.n s.c/\OwL Eg w F s.v l /\ ∀ b∈F,base<=b:=by
 obtain ⟨h1,h2⟩:=Hw.of_ow h;obtain ⟨⟨A,c,hv,hc,hA⟩,hF,hf⟩:=id h1;subst hv;refine ⟨⟨A,l.length,c⟩,_,rfl,⟨l.map fun x=>(x,()),Ek (Aa A l.length c) l.length,[],by rw [List.map_map];exact List.map_id _,⟨⟨A,c,by rw [Ar],by rw [Ar];exact hc,fun hl=>?_⟩,by rw [Ar],hf⟩,Aax w l,(List.append_nil _).symm,h1.nodup⟩,h2⟩;rw [Ar] at hl;obtain ⟨b,o,h3,h4,h5⟩:=hA hl;refine ⟨b,o,h3,h4,fun k hk j u hu=>?_⟩;rw [List.getElem_map] at hu;exact h5 k (by rw [Ar] at hk;exact hk) j u hu
theorem Sb {x:Plan} {w:World} {e:Ending} {w':World} (h:Py x w e w'):Df Cd Jr x w e w':=by
 obtain ⟨v,rfl,h1,h2⟩:=h;obtain ⟨s,F,rfl,h3,h4⟩:=Agq h1;exact ⟨s,F,rfl,h3,h4,h2⟩
theorem Kj (x:Plan) (s:Sl) (w:World) (hl:Ed x<=2000000) (h:Cd.rd w w x s) :
  Calls Am 144 #[Jr x s] w (Df Cd Jr x w) :=
 (Yf x s.v w (Ah (Cj _ _) hl) (Ir h)).mono fun _ _=>Sb
theorem Kk (x:Plan) (s:Sl) (w:World) (hl:Ed x<=2000000) (h:Cd.rd w w x s) :
  Calls Am 146 #[Jr x s] w (Df Cd Jr x w) :=
 (Yg x s.v w (Ah (Cj _ _) hl) (Ir h)).mono fun _ _=>Sb
theorem Rk (x:Deed) (s:Sl) (w:World) (hl:Fu x<=2000000) (h:Ec.rd w w x s) :
  Calls Am 76 #[De x s] w (Df Ec De x w):=by
 have aY:∀ W,Below w w W->Ec.rd W W x s:=fun W hW=>Ec.rd_more (Ec.rd_below h hW) hW.size;go_enter func76,ntmps76;go_wp2_with fail
 refine (Kj x.plan s _ (by unfold Fu at hl;omega) (aY _ (by repeat (first | exact Br _ _ | refine Ae ?_ Bo _)))).mono ?_;rintro e w0 ⟨s0,F0,rfl,o0,n0,aL⟩;obtain ⟨q0,p0⟩:=Gl aL;have z0:=aL.size;simp only [Bj,Bk] at z0 n0;have B0:Below w w w0:=Bu (by repeat (first | exact Br _ _ | refine Ae ?_ Bo _)) aL;have k0:w0.cell? ⟨w,0,Ab⟩=Ac (J U x.kind):=by rw [q0 _ _ Bo];simp [go_sem]
 have k1:w0.cell? ⟨w,1,Ab⟩=Ac (J U x.run):=by rw [q0 _ _ Bo];simp [go_sem]
 have k2:w0.cell? ⟨w,2,Ab⟩=Ac (J U x.plan.prio):=by rw [q0 _ _ Bo];simp [go_sem]
 have k3:w0.cell? ⟨w,3,Ab⟩=Ac (J U x.plan.most):=by rw [q0 _ _ Bo];simp [go_sem]
 have k4:w0.cell? ⟨w,4,Ab⟩=Ac (J U x.plan.wait):=by rw [q0 _ _ Bo];simp [go_sem]
 have k5:w0.cell? ⟨w,5,Ab⟩=Ac (J U x.plan.tasks):=by rw [q0 _ _ Bo];simp [go_sem]
 have k6:w0.cell? ⟨w,6,Ab⟩=Ac (Aa s.a s.n s.c):=by rw [q0 _ _ Bo];simp [go_sem]
 have k7:w0.cell? ⟨w,7,Ab⟩=Ac (J U x.task):=by rw [q0 _ _ Bo];simp [go_sem]
 have k8:w0.cell? ⟨w,8,Ab⟩=Ac (J U x.try_):=by rw [q0 _ _ Bo];simp [go_sem]
 have k9:w0.cell? ⟨w,9,Ab⟩=Ac (J U x.worker):=by rw [q0 _ _ Bo];simp [go_sem]
 have k10:w0.cell? ⟨w,10,Ab⟩=Ac (J U x.draw):=by rw [q0 _ _ Bo];simp [go_sem]
 go_wp2;refine Aj (v:=De x s0) ?_ rfl ?_
 ·simp [De,results,results76,go_sem,q0]
 ·refine ⟨s0,F0,rfl,?_,?_,?_⟩
  ·repeat (first | (with_reducible exact o0) | refine Dt.ow_set Cd ?_ (by intro hm;have:=n0 _ hm;(try simp only [Bj,Bk] at this);omega) _)
  ·intro b hb
   have:=n0 b hb
   omega
  ·repeat (first | (with_reducible exact B0) | (with_reducible exact Br _ _) | refine Ad ?_ Bo _ | refine Ae ?_ Bo _)
theorem Ys (x:Note) (s:Sl) (w:World) (hl:Cz x<=2000000) (h:Ct.rd w w x s) :
  Calls Am 157 #[Ls x s] w (Df Ct Ls x w):=by
 have aY:∀ W,Below w w W->Ct.rd W W x s:=fun W hW=>Ct.rd_more (Ct.rd_below h hW) hW.size;go_enter func157,ntmps157;go_wp2_with fail
 refine (Kk x.deed.plan s _ (by unfold Cz Fu at hl;omega) (aY _ (by repeat (first | exact Br _ _ | refine Ae ?_ Bo _)))).mono ?_;rintro e w0 ⟨s0,F0,rfl,o0,n0,aL⟩;obtain ⟨q0,p0⟩:=Gl aL;have z0:=aL.size;simp only [Bj,Bk] at z0 n0;have B0:Below w w w0:=Bu (by repeat (first | exact Br _ _ | refine Ae ?_ Bo _)) aL;have k0:w0.cell? ⟨w,0,Ab⟩=Ac (J U x.seq):=by rw [q0 _ _ Bo];simp [go_sem]
 have k1:w0.cell? ⟨w,1,Ab⟩=Ac (J U x.deed.kind):=by rw [q0 _ _ Bo];simp [go_sem]
 have k2:w0.cell? ⟨w,2,Ab⟩=Ac (J U x.deed.run):=by rw [q0 _ _ Bo];simp [go_sem]
 have k3:w0.cell? ⟨w,3,Ab⟩=Ac (J U x.deed.plan.prio):=by rw [q0 _ _ Bo];simp [go_sem]
 have k4:w0.cell? ⟨w,4,Ab⟩=Ac (J U x.deed.plan.most):=by rw [q0 _ _ Bo];simp [go_sem]
 have k5:w0.cell? ⟨w,5,Ab⟩=Ac (J U x.deed.plan.wait):=by rw [q0 _ _ Bo];simp [go_sem]
 have k6:w0.cell? ⟨w,6,Ab⟩=Ac (J U x.deed.plan.tasks):=by rw [q0 _ _ Bo];simp [go_sem]
 have k7:w0.cell? ⟨w,7,Ab⟩=Ac (Aa s.a s.n s.c):=by rw [q0 _ _ Bo];simp [go_sem]
 have k8:w0.cell? ⟨w,8,Ab⟩=Ac (J U x.deed.task):=by rw [q0 _ _ Bo];simp [go_sem]
 have k9:w0.cell? ⟨w,9,Ab⟩=Ac (J U x.deed.try_):=by rw [q0 _ _ Bo];simp [go_sem]
 have k10:w0.cell? ⟨w,10,Ab⟩=Ac (J U x.deed.worker):=by rw [q0 _ _ Bo];simp [go_sem]
 have k11:w0.cell? ⟨w,11,Ab⟩=Ac (J U x.deed.draw):=by rw [q0 _ _ Bo];simp [go_sem]
 go_wp2;refine Aj (v:=Ls x s0) ?_ rfl ?_
 ·simp [Ls,results,results157,go_sem,q0]
 ·refine ⟨s0,F0,rfl,?_,?_,?_⟩
  ·repeat (first | (with_reducible exact o0) | refine Dt.ow_set Cd ?_ (by intro hm;have:=n0 _ hm;(try simp only [Bj,Bk] at this);omega) _)
  ·intro b hb
   have:=n0 b hb
   omega
  ·repeat (first | (with_reducible exact B0) | (with_reducible exact Br _ _) | refine Ad ?_ Bo _ | refine Ae ?_ Bo _)
theorem Bld.push1 {α:Type} {d:Dt α} {E:TypeId} {w w1 w2 w5:World} {base:Nat} {v v5:Value} {rs:List (α×d.S)} {x:α} {s:d.S} {F:List Nat} (h:Bld d E w base v rs) (hb:Below w w w1) (o1:d.ow w1 F x s) (n1:∀ b∈F,w<=b)
  (bE:base<=w.heap.size) (aG:Below w1 w1 w2) (o5:Ow d.enc E w5 base v5 (rs ++ [(x,s)])) (g5:w2.grownBy w5 v.ownBlock) (f5:v5.ownBlock=v.ownBlock\/v5.ownBlock=Ac w2.heap.size):Bld d E w5 base v5 (rs ++ [(x,s)]):=by
 refine Bld.push h (Bu hb aG) (Ows.one (r:=(x,s)) (d.ow_below o1 aG)) n1 (d.ow_nodup o1) bE o5 g5 ?_;rcases f5 with f5 | f5
 ·exact .inl f5
 ·exact .inr ⟨_,f5,Bs _⟩
def Bls {α:Type} (d:Dt α) (E:TypeId) (w:World) (base:Nat) (v:Value) (l:List α):Prop:=∃ rs,rs.map (·.1)=l/\Bld d E w base v rs
theorem Bls.own {α:Type} {d:Dt α} {E:TypeId} {w w':World} {v:Value} {l:List α} (h:Bls d E w' w v l) (hb:Below w w w'):Df (Dt.list d) slV l w (.returned v) w':=by
 obtain ⟨rs,hm,hB⟩:=h;obtain ⟨F,h1,h2⟩:=hB.owl hm;obtain ⟨A,c,rfl,_⟩:=h1.form;exact ⟨⟨A,l.length,c⟩,F,rfl,h1,h2,hb⟩
theorem Yt (x y:Deed) (s r:Sl) (w:World) (hl:Fu x<=2000000) (hl':Fu y<=2000000) (h:Ec.rd w w x s) (h':Ec.rd w w y r) :
  Calls Am 108 #[De x s,De y r] w fun e w'=>e = .returned (.bool (decide (x=y)))/\Below w w w':=by
 have aY:∀ W,Below w w W->Ec.rd W W x s:=fun W hW=>Ec.rd_more (Ec.rd_below h hW) hW.size;have cF:∀ W,Below w w W->Ec.rd W W y r:=fun W hW=>Ec.rd_more (Ec.rd_below h' hW) hW.size;have no:∀ {P:Prop},(x=y->P) -> ¬ P->Hid (decide (x=y)=false):=fun f g=>decide_eq_false (fun e=>g (f e));have a1:Below w w (w.alloc (.cells #[J U x.kind,J U x.run,J U x.plan.prio,J U x.plan.most,J U x.plan.wait,J U x.plan.tasks,Aa s.a s.n s.c,J U x.task,J U x.try_,J U x.worker,J U x.draw] 38)):=Bt;have a2:Below (w.alloc (.cells #[J U x.kind,J U x.run,J U x.plan.prio,J U x.plan.most,J U x.plan.wait,J U x.plan.tasks,Aa s.a s.n s.c,J U x.task,J U x.try_,J U x.worker,J U x.draw] 38)) (w.alloc (.cells #[J U x.kind,J U x.run,J U x.plan.prio,J U x.plan.most,J U x.plan.wait,J U x.plan.tasks,Aa s.a s.n s.c,J U x.task,J U x.try_,J U x.worker,J U x.draw] 38)) ((w.alloc (.cells #[J U x.kind,J U x.run,J U x.plan.prio,J U x.plan.most,J U x.plan.wait,J U x.plan.tasks,Aa s.a s.n s.c,J U x.task,J U x.try_,J U x.worker,J U x.draw] 38)).alloc (.cells #[J U y.kind,J U y.run,J U y.plan.prio,J U y.plan.most,J U y.plan.wait,J U y.plan.tasks,Aa r.a r.n r.c,J U y.task,J U y.try_,J U y.worker,J U y.draw] 38)):=Bt;have X:=(DBox.new 38 [J U x.kind,J U x.run,J U x.plan.prio,J U x.plan.most,J U x.plan.wait,J U x.plan.tasks,Aa s.a s.n s.c,J U x.task,J U x.try_,J U x.worker,J U x.draw] w rfl).below a2;have Y:=DBox.new 38 [J U y.kind,J U y.run,J U y.plan.prio,J U y.plan.most,J U y.plan.wait,J U y.plan.tasks,Aa r.a r.n r.c,J U y.task,J U y.try_,J U y.worker,J U y.draw] (w.alloc (.cells #[J U x.kind,J U x.run,J U x.plan.prio,J U x.plan.most,J U x.plan.wait,J U x.plan.tasks,Aa s.a s.n s.c,J U x.task,J U x.try_,J U x.worker,J U x.draw] 38)) (b:=w+1) Bn;have B0:=Bu a1 a2;clear a1 a2;by_cases h0:x.kind=y.kind;case neg =>
  have t0:(x.kind == y.kind)=false:=beq_eq_false_iff_ne.2 h0;have H:=no (fun e=>by rw [e]) h0;clear h0 no aY cF;go_enter func108,ntmps108;go_wp2;go_ret;exact ⟨Bw H.out.symm,B0⟩
 have t0:(x.kind == y.kind)=true:=by simp [h0]
 have H0:=Bq h0;clear h0;by_cases h1:x.run=y.run;case neg =>
  have t1:(x.run == y.run)=false:=beq_eq_false_iff_ne.2 h1;have H:=no (fun e=>by rw [e]) h1;clear h1 no aY cF;go_enter func108,ntmps108;go_wp2;go_ret;exact ⟨Bw H.out.symm,B0⟩
 have t1:(x.run == y.run)=true:=by simp [h1]
 have H1:=Bq h1;clear h1;go_enter func108,ntmps108;go_wp2_with fail
 generalize ((w.alloc (.cells #[J U x.kind,J U x.run,J U x.plan.prio,J U x.plan.most,J U x.plan.wait,J U x.plan.tasks,Aa s.a s.n s.c,J U x.task,J U x.try_,J U x.worker,J U x.draw] 38)).alloc (.cells #[J U y.kind,J U y.run,J U y.plan.prio,J U y.plan.most,J U y.plan.wait,J U y.plan.tasks,Aa r.a r.n r.c,J U y.task,J U y.try_,J U y.worker,J U y.draw] 38))=w0 at *
 refine (Yr x.plan y.plan s r _ (by unfold Fu at hl;omega) (by unfold Fu at hl';omega) (aY _ B0) (cF _ B0)).mono ?_;rintro e w1 ⟨rfl,b1⟩;replace X:=X.below b1;replace Y:=Y.below b1;replace B0:=Bu B0 b1;have u0:=X.cell 0 _ rfl;have v0:=Y.cell 0 _ rfl;have u1:=X.cell 1 _ rfl;have v1:=Y.cell 1 _ rfl;have u2:=X.cell 2 _ rfl;have v2:=Y.cell 2 _ rfl;have u3:=X.cell 3 _ rfl;have v3:=Y.cell 3 _ rfl;have u4:=X.cell 4 _ rfl;have v4:=Y.cell 4 _ rfl;have u5:=X.cell 5 _ rfl;have v5:=Y.cell 5 _ rfl;have u6:=X.cell 6 _ rfl;have v6:=Y.cell 6 _ rfl;have u7:=X.cell 7 _ rfl;have v7:=Y.cell 7 _ rfl;have u8:=X.cell 8 _ rfl;have v8:=Y.cell 8 _ rfl;have u9:=X.cell 9 _ rfl;have v9:=Y.cell 9 _ rfl;have u10:=X.cell 10 _ rfl;have v10:=Y.cell 10 _ rfl;have us:=X.lt;have vs:=Y.lt;by_cases h2:x.plan=y.plan;case neg =>
  have t2:decide (x.plan=y.plan)=false:=decide_eq_false h2;have H:=no (fun e=>by rw [e]) h2;rw [t2];clear h2 no aY cF t2;go_wp2;go_ret;exact ⟨Bw H.out.symm,B0⟩
 have t2:decide (x.plan=y.plan)=true:=decide_eq_true h2;rw [t2];have H2:=Bq h2;clear h2 t2 b1;by_cases h3:x.task=y.task;case neg =>
  have t3:(x.task == y.task)=false:=beq_eq_false_iff_ne.2 h3;have H:=no (fun e=>by rw [e]) h3;clear h3 no aY cF;go_wp2;go_ret;exact ⟨Bw H.out.symm,B0⟩
 have t3:(x.task == y.task)=true:=by simp [h3]
 have H3:=Bq h3;clear h3;by_cases h4:x.try_=y.try_;case neg =>
  have t4:(x.try_ == y.try_)=false:=beq_eq_false_iff_ne.2 h4;have H:=no (fun e=>by rw [e]) h4;clear h4 no aY cF;go_wp2;go_ret;exact ⟨Bw H.out.symm,B0⟩
 have t4:(x.try_ == y.try_)=true:=by simp [h4]
 have H4:=Bq h4;clear h4;by_cases h5:x.worker=y.worker;case neg =>
  have t5:(x.worker == y.worker)=false:=beq_eq_false_iff_ne.2 h5;have H:=no (fun e=>by rw [e]) h5;clear h5 no aY cF;go_wp2;go_ret;exact ⟨Bw H.out.symm,B0⟩
 have t5:(x.worker == y.worker)=true:=by simp [h5]
 have H5:=Bq h5;clear h5;by_cases h6:x.draw=y.draw;case neg =>
  have t6:(x.draw == y.draw)=false:=beq_eq_false_iff_ne.2 h6;have H:=no (fun e=>by rw [e]) h6;clear h6 no aY cF;go_wp2;go_ret;exact ⟨Bw H.out.symm,B0⟩
 have t6:(x.draw == y.draw)=true:=by simp [h6]
 have H6:=Bq h6;clear h6;have H:Hid (decide (x=y)=true):=decide_eq_true (by
  have e0:=H0.out ;have e1:=H1.out ;have e2:=H2.out ;have e3:=H3.out ;have e4:=H4.out ;have e5:=H5.out ;have e6:=H6.out;cases x;cases y;simp only at e0 e1 e2 e3 e4 e5 e6;subst e0 e1 e2 e3 e4 e5 e6;rfl)
 clear no aY cF;go_wp2;go_ret;exact ⟨Bw H.out.symm,B0⟩
def Nh (x:Yard):Nat:=Cx Da x.shelf+Cx E5 x.runs
def Yu (k:Int) (x:Yard):Yard:=⟨x.now,x.seq,(mkL Jg Da k x.shelf),(mkL Pc E5 (k+(Cx Da x.shelf:Nat)) x.runs)⟩
theorem Rl (x:Yard):Nh x<=13 * Ca x:=by
 have h0:=Et (num:=Da) (cnt:=Cl) (K:=13) J1 x.shelf;have h1:=Et (num:=E5) (cnt:=Cn) (K:=13) My x.runs;unfold Nh Ca;omega
theorem Yv (x:Yard) (s:Sl×Sl) (F:List Nat) (k:Int) (w:World) (hl:Ca x<=2000000) (cL:0<=k) (fJ:k<=100000000) (h:Bv.ow w F x s) :
  Calls Am 92 #[Dm x s,J U k] w (N6 Bv F (Yu k x) s (k+(Nh x:Nat)) w):=by
 have hF:=Bv.ow_lt h;have D:=DBox.new 27 [J U x.now,J U x.seq,Aa s.1.a s.1.n s.1.c,Aa s.2.a s.2.n s.2.c] w rfl;have B0:Below w w (w.alloc (.cells #[J U x.now,J U x.seq,Aa s.1.a s.1.n s.1.c,Aa s.2.a s.2.n s.2.c] 27)):=Bt;have n0:Cx Da x.shelf<=13 * (D8 Cl x.shelf):=Et (num:=Da) (cnt:=Cl) (K:=13) J1 x.shelf;have n1:Cx E5 x.runs<=13 * (D8 Cn x.runs):=Et (num:=E5) (cnt:=Cn) (K:=13) My x.runs;have gN:D8 Cl x.shelf<=2000000/\D8 Cn x.runs<=2000000:=by unfold Ca at hl;omega
 go_enter func92,ntmps92;go_wp2_with fail
 generalize (w.alloc (.cells #[J U x.now,J U x.seq,Aa s.1.a s.1.n s.1.c,Aa s.2.a s.2.n s.2.c] 27))=w0 at *
 have C0:=Chg.of_below F B0;obtain ⟨F1,F2,rfl,hn,o1,o2⟩:=h;have hap:=N5 hn;have o1:=OwL.below o1 B0;have o2:=OwL.below o2 B0;refine (Sw x.shelf s.1 F1 k w0 gN.1 Bl Bl o1).mono ?_;rintro e w1 ⟨rfl,m1,g1⟩;replace D:=D.chg g1 (fun hx=>by have:=hF _ (Bf _ hx);omega);replace o2:=OwL.chg o2 g1 hap.2;have c0:w1.cell? ⟨w,0,Ab⟩=Ac (J U x.now):=D.cell 0 _ rfl;have c1:w1.cell? ⟨w,1,Ab⟩=Ac (J U x.seq):=D.cell 1 _ rfl;have c2:w1.cell? ⟨w,2,Ab⟩=Ac (Aa s.1.a s.1.n s.1.c):=D.cell 2 _ rfl;have c3:w1.cell? ⟨w,3,Ab⟩=Ac (Aa s.2.a s.2.n s.2.c):=D.cell 3 _ rfl;go_wp2_with fail
 refine (Yn x.runs s.2 F2 (k+(Cx Da x.shelf:Nat)) w1 gN.2 Bl Bl o2).mono ?_;rintro e w2 ⟨rfl,m2,g2⟩;replace D:=D.chg g2 (fun hx=>by have:=hF _ (Be _ hx);omega);replace m1:=OwL.chg m1 g2 hap.1;go_wp2;go_ret;refine ⟨C8 (by unfold Nh;push_cast;omega),?_,?_⟩
 ·exact ⟨F1,F2,rfl,hn,m1,m2⟩
 ·exact (C0.trans (g1.mono (fun x hx=>Bf _ hx))).trans (g2.mono (fun x hx=>Be _ hx))
theorem Yw (x:Yard) (s:Sl×Sl) (k:Int) (w:World) (hl:Ca x<=2000000) (cL:0<=k) (fJ:k<=100000000) (h:Bv.rd w w (Yu k x) s) :
  Calls Am 94 #[Dm x s,J U k] w fun e w'=>e = .returned (J U (k+(Nh x:Nat)))/\Below w w w':=by
 have aY:∀ W,Below w w W->Bv.rd W W (Yu k x) s:=fun W hW=>Bv.rd_more (Bv.rd_below h hW) hW.size;have D:=DBox.new 27 [J U x.now,J U x.seq,Aa s.1.a s.1.n s.1.c,Aa s.2.a s.2.n s.2.c] w rfl;have B0:Below w w (w.alloc (.cells #[J U x.now,J U x.seq,Aa s.1.a s.1.n s.1.c,Aa s.2.a s.2.n s.2.c] 27)):=Bt;have n0:Cx Da x.shelf<=13 * (D8 Cl x.shelf):=Et (num:=Da) (cnt:=Cl) (K:=13) J1 x.shelf;have n1:Cx E5 x.runs<=13 * (D8 Cn x.runs):=Et (num:=E5) (cnt:=Cn) (K:=13) My x.runs;have gN:D8 Cl x.shelf<=2000000/\D8 Cn x.runs<=2000000:=by unfold Ca at hl;omega
 go_enter func94,ntmps94;go_wp2_with fail
 generalize (w.alloc (.cells #[J U x.now,J U x.seq,Aa s.1.a s.1.n s.1.c,Aa s.2.a s.2.n s.2.c] 27))=w0 at *
 refine (Sx x.shelf s.1 k w0 gN.1 Bl Bl ((aY _ B0).1)).mono ?_;rintro e w1 ⟨rfl,bw1⟩;replace D:=D.below bw1;replace B0:=Bu B0 bw1;have c0:w1.cell? ⟨w,0,Ab⟩=Ac (J U x.now):=D.cell 0 _ rfl;have c1:w1.cell? ⟨w,1,Ab⟩=Ac (J U x.seq):=D.cell 1 _ rfl;have c2:w1.cell? ⟨w,2,Ab⟩=Ac (Aa s.1.a s.1.n s.1.c):=D.cell 2 _ rfl;have c3:w1.cell? ⟨w,3,Ab⟩=Ac (Aa s.2.a s.2.n s.2.c):=D.cell 3 _ rfl;go_wp2_with fail
 refine (Yo x.runs s.2 (k+(Cx Da x.shelf:Nat)) w1 gN.2 Bl Bl ((aY _ B0).2)).mono ?_;rintro e w2 ⟨rfl,bw2⟩;replace D:=D.below bw2;replace B0:=Bu B0 bw2;go_wp2;go_ret;exact ⟨C8 (by unfold Nh;push_cast;omega),B0⟩
def I1 (x:Follower):Nat:=Nh x.yard
def Lt (k:Int) (x:Follower):Follower:=⟨(Yu k x.yard),x.seq⟩
theorem Ph (x:Follower):I1 x<=13 * Dy x:=by
 have h0:=Rl x.yard;unfold I1 Dy;omega
theorem M0 (x:Follower) (s:(Sl×Sl)) (F:List Nat) (k:Int) (w:World) (hl:Dy x<=2000000) (cL:0<=k) (fJ:k<=100000000) (h:By.ow w F x s) :
  Calls Am 38 #[Gf x s,J U k] w (N6 By F (Lt k x) s (k+(I1 x:Nat)) w):=by
 have hF:=By.ow_lt h;have D:=DBox.new 73 [J U x.yard.now,J U x.yard.seq,Aa s.1.a s.1.n s.1.c,Aa s.2.a s.2.n s.2.c,J U x.seq] w rfl;have B0:Below w w (w.alloc (.cells #[J U x.yard.now,J U x.yard.seq,Aa s.1.a s.1.n s.1.c,Aa s.2.a s.2.n s.2.c,J U x.seq] 73)):=Bt;have n0:Nh x.yard<=13 * (Ca x.yard):=Rl x.yard;have gN:Ca x.yard<=2000000:=by unfold Dy at hl;exact hl
 go_enter func38,ntmps38;go_wp2_with fail
 generalize (w.alloc (.cells #[J U x.yard.now,J U x.yard.seq,Aa s.1.a s.1.n s.1.c,Aa s.2.a s.2.n s.2.c,J U x.seq] 73))=w0 at *
 have C0:=Chg.of_below F B0;have o1:=Bv.ow_below (show _ from h) B0;refine (Yv x.yard s F k w0 gN Bl Bl o1).mono ?_;rintro e w1 ⟨rfl,m1,g1⟩;replace D:=D.chg g1 (fun hx=>by have:=hF _ hx;omega);go_wp2;go_ret;refine ⟨C8 (by unfold I1;push_cast;omega),?_,?_⟩
 ·exact m1
 ·exact C0.trans g1
theorem M3 (x:Follower) (s:(Sl×Sl)) (k:Int) (w:World) (hl:Dy x<=2000000) (cL:0<=k) (fJ:k<=100000000) (h:By.rd w w (Lt k x) s) :
  Calls Am 40 #[Gf x s,J U k] w fun e w'=>e = .returned (J U (k+(I1 x:Nat)))/\Below w w w':=by
 have aY:∀ W,Below w w W->By.rd W W (Lt k x) s:=fun W hW=>By.rd_more (By.rd_below h hW) hW.size;have D:=DBox.new 73 [J U x.yard.now,J U x.yard.seq,Aa s.1.a s.1.n s.1.c,Aa s.2.a s.2.n s.2.c,J U x.seq] w rfl;have B0:Below w w (w.alloc (.cells #[J U x.yard.now,J U x.yard.seq,Aa s.1.a s.1.n s.1.c,Aa s.2.a s.2.n s.2.c,J U x.seq] 73)):=Bt;have n0:Nh x.yard<=13 * (Ca x.yard):=Rl x.yard;have gN:Ca x.yard<=2000000:=by unfold Dy at hl;exact hl
 go_enter func40,ntmps40;go_wp2_with fail
 generalize (w.alloc (.cells #[J U x.yard.now,J U x.yard.seq,Aa s.1.a s.1.n s.1.c,Aa s.2.a s.2.n s.2.c,J U x.seq] 73))=w0 at *
 refine (Yw x.yard s k w0 gN Bl Bl (aY _ B0)).mono ?_;rintro e w1 ⟨rfl,bw1⟩;replace D:=D.below bw1;replace B0:=Bu B0 bw1;go_wp2;go_ret;exact ⟨C8 (by unfold I1;push_cast;omega),B0⟩
instance:Inhabited Seg:=⟨⟨0,[]⟩⟩
open Go.ChangeShapes Go.WideShapes Go.ChangeAt Go.RowKit Go.Deep
theorem I8:Am.cellsOf 3=1:=Bm
section
variable {H:Type} {enc:TypeId×Value->H} {w:World} {spare:Nat->Bool} {held:Bool} {fuel:Nat} {cs:List Value} {x:DataW H×List MemPlace}
theorem Adc:Am.cellsOf 253=2:=Bm
theorem Aew (h:DataW.trod enc Am w 0 spare held fuel 253 cs=Ac x):∃ (p:Edge) (_s:Unit),cs=[.int .i64 p.fr,.int .i64 p.to]/\Eg.rd w w p _s/\Ug p:=by
 obtain ⟨xs,n',_,_,aF,dW,hf⟩:=DataW.trod_struct underlying253 h;rw [Adc] at aF;have g0:=hf 0 _ rfl;have g1:=hf 1 _ rfl;match xs,dW,cs,aF with
 | [y0,y1],_,[c0,c1],_ =>
  obtain ⟨a0,e0,_,w0⟩:=DataW.trod_int underlying3 g0;obtain ⟨a1,e1,_,w1⟩:=DataW.trod_int underlying3 g1;simp [I8] at e0 e1;exact ⟨⟨a0,a1⟩,(),by simp [e0,e1],trivial,⟨H7 w0,H7 w1⟩⟩
theorem Aay:Am.cellsOf 86=1:=Bm
theorem Ade (h:DataW.trod enc Am w 0 spare held fuel 86 cs=Ac x):∃ (s:Sl) (l:List (Edge)),cs=[.slice s.a s.n s.c]/\RdL Eg w w s.v l/\wfL Ug l:=by
 haveI:Inhabited ((Edge)×Eg.S):=⟨(⟨0,0⟩,())⟩
 obtain ⟨v,rs,h1,h2,h3,h4⟩:=Kc Eg.enc (fun z:(Edge)×Unit=>Eg.rd w w z.1 z.2/\Ug z.1) underlying86 Bm Bp (fun n cs' y hy=>by
  obtain ⟨p0,s0,e0,h0,k0⟩:=Aew hy;exact ⟨(p0,s0),e0,h0,k0⟩) h
 obtain ⟨A,c,hv,hc,hr⟩:=id h2;refine ⟨⟨A,rs.length,c⟩,rs.map (·.1),by rw [h1,hv],⟨rs,rfl,by rw [hv] at h2;exact h2,fun r hr=>(h3 r hr).1⟩,by rw [Ar];simpa [maxLen] using h4,fun z hz=>?_⟩;obtain ⟨r,hr,rfl⟩:=List.mem_map.1 hz;exact (h3 r hr).2
theorem P7:Am.cellsOf 88=5:=Bm
theorem Xm (h:DataW.trod enc Am w 0 spare held fuel 88 cs=Ac x):∃ (p:Plan) (s:Sl),cs=[.int .i64 p.prio,.int .i64 p.most,.int .i64 p.wait,.int .i64 p.tasks,.slice s.a s.n s.c]/\Cd.rd w w p s/\Ym p:=by
 obtain ⟨xs,n',_,_,aF,dW,hf⟩:=DataW.trod_struct underlying88 h;rw [P7] at aF;have g0:=hf 0 _ rfl;have g1:=hf 1 _ rfl;have g2:=hf 2 _ rfl;have g3:=hf 3 _ rfl;have g4:=hf 4 _ rfl;match xs,dW,cs,aF with
 | [y0,y1,y2,y3,y4],_,[c0,c1,c2,c3,c4],_ =>
  obtain ⟨a0,e0,_,w0⟩:=DataW.trod_int underlying3 g0;obtain ⟨a1,e1,_,w1⟩:=DataW.trod_int underlying3 g1;obtain ⟨a2,e2,_,w2⟩:=DataW.trod_int underlying3 g2;obtain ⟨a3,e3,_,w3⟩:=DataW.trod_int underlying3 g3;obtain ⟨s4,a4,e4,r4,w4⟩:=Ade g4;simp [I8,Aay] at e0 e1 e2 e3 e4;exact ⟨⟨a0,a1,a2,a3,a4⟩,s4,by simp [e0,e1,e2,e3,e4],r4,⟨H7 w0,H7 w1,H7 w2,H7 w3,w4⟩⟩
theorem Uz:Am.cellsOf 90=11:=Bm
theorem Aex (h:DataW.trod enc Am w 0 spare held fuel 90 cs=Ac x):∃ (p:Deed) (s:Sl),cs=[.int .i64 p.kind,.int .i64 p.run,.int .i64 p.plan.prio,.int .i64 p.plan.most,.int .i64 p.plan.wait,.int .i64 p.plan.tasks,.slice s.a s.n s.c,.int .i64 p.task,.int .i64 p.try_,.int .i64 p.worker,.int .i64 p.draw]/\Ec.rd w w p s/\Acw p:=by
 obtain ⟨xs,n',_,_,aF,dW,hf⟩:=DataW.trod_struct underlying90 h;rw [Uz] at aF;have g0:=hf 0 _ rfl;have g1:=hf 1 _ rfl;have g2:=hf 2 _ rfl;have g3:=hf 3 _ rfl;have g4:=hf 4 _ rfl;have g5:=hf 5 _ rfl;have g6:=hf 6 _ rfl;match xs,dW,cs,aF with
 | [y0,y1,y2,y3,y4,y5,y6],_,[c0,c1,c2,c3,c4,c5,c6,c7,c8,c9,c10],_ =>
  obtain ⟨a0,e0,_,w0⟩:=DataW.trod_int underlying3 g0;obtain ⟨a1,e1,_,w1⟩:=DataW.trod_int underlying3 g1;obtain ⟨a2,s2,e2,r2,w2⟩:=Xm g2;obtain ⟨a3,e3,_,w3⟩:=DataW.trod_int underlying3 g3;obtain ⟨a4,e4,_,w4⟩:=DataW.trod_int underlying3 g4;obtain ⟨a5,e5,_,w5⟩:=DataW.trod_int underlying3 g5;obtain ⟨a6,e6,_,w6⟩:=DataW.trod_int underlying3 g6;simp [I8,P7] at e0 e1 e2 e3 e4 e5 e6;exact ⟨⟨a0,a1,a2,a3,a4,a5,a6⟩,s2,by simp [e0,e1,e2,e3,e4,e5,e6],r2,⟨H7 w0,H7 w1,w2,H7 w3,H7 w4,H7 w5,H7 w6⟩⟩
theorem Adf:Am.cellsOf 130=12:=Bm
theorem Aey (h:DataW.trod enc Am w 0 spare held fuel 130 cs=Ac x):∃ (p:Note) (s:Sl),cs=[.int .i64 p.seq,.int .i64 p.deed.kind,.int .i64 p.deed.run,.int .i64 p.deed.plan.prio,.int .i64 p.deed.plan.most,.int .i64 p.deed.plan.wait,.int .i64 p.deed.plan.tasks,.slice s.a s.n s.c,.int .i64 p.deed.task,.int .i64 p.deed.try_,.int .i64 p.deed.worker,.int .i64 p.deed.draw]/\Ct.rd w w p s/\Mi p:=by
 obtain ⟨xs,n',_,_,aF,dW,hf⟩:=DataW.trod_struct underlying130 h;rw [Adf] at aF;have g0:=hf 0 _ rfl;have g1:=hf 1 _ rfl;match xs,dW,cs,aF with
 | [y0,y1],_,[c0,c1,c2,c3,c4,c5,c6,c7,c8,c9,c10,c11],_ =>
  obtain ⟨a0,e0,_,w0⟩:=DataW.trod_int underlying3 g0;obtain ⟨a1,s1,e1,r1,w1⟩:=Aex g1;simp [I8,Uz] at e0 e1;exact ⟨⟨a0,a1⟩,s1,by simp [e0,e1],r1,⟨H7 w0,w1⟩⟩
theorem Adg (h:DataW.trod enc Am w 0 spare held fuel 69 cs=Ac x):∃ (s:Sl) (l:List (Note)),cs=[.slice s.a s.n s.c]/\RdL Ct w w s.v l/\wfL Mi l:=by
 haveI:Inhabited ((Note)×Ct.S):=⟨(⟨0,⟨0,0,⟨0,0,0,0,[]⟩,0,0,0,0⟩⟩,⟨Ab,0,0⟩)⟩
 obtain ⟨v,rs,h1,h2,h3,h4⟩:=Kc Ct.enc (fun z:(Note)×Sl=>Ct.rd w w z.1 z.2/\Mi z.1) underlying69 Bm Bp (fun n cs' y hy=>by
  obtain ⟨p0,s0,e0,h0,k0⟩:=Aey hy;exact ⟨(p0,s0),e0,h0,k0⟩) h
 obtain ⟨A,c,hv,hc,hr⟩:=id h2;refine ⟨⟨A,rs.length,c⟩,rs.map (·.1),by rw [h1,hv],⟨rs,rfl,by rw [hv] at h2;exact h2,fun r hr=>(h3 r hr).1⟩,by rw [Ar];simpa [maxLen] using h4,fun z hz=>?_⟩;obtain ⟨r,hr,rfl⟩:=List.mem_map.1 hz;exact (h3 r hr).2
theorem Aaz:Am.cellsOf 269=4:=Bm
theorem Adh (h:DataW.trod enc Am w 0 spare held fuel 269 cs=Ac x):∃ (p:Entry) (_s:Unit),cs=[.int .i64 p.prio,.int .i64 p.seq,.int .i64 p.run,.int .i64 p.task]/\Bx.rd w w p _s/\Qn p:=by
 obtain ⟨xs,n',_,_,aF,dW,hf⟩:=DataW.trod_struct underlying269 h;rw [Aaz] at aF;have g0:=hf 0 _ rfl;have g1:=hf 1 _ rfl;have g2:=hf 2 _ rfl;have g3:=hf 3 _ rfl;match xs,dW,cs,aF with
 | [y0,y1,y2,y3],_,[c0,c1,c2,c3],_ =>
  obtain ⟨a0,e0,_,w0⟩:=DataW.trod_int underlying3 g0;obtain ⟨a1,e1,_,w1⟩:=DataW.trod_int underlying3 g1;obtain ⟨a2,e2,_,w2⟩:=DataW.trod_int underlying3 g2;obtain ⟨a3,e3,_,w3⟩:=DataW.trod_int underlying3 g3;simp [I8] at e0 e1 e2 e3;exact ⟨⟨a0,a1,a2,a3⟩,(),by simp [e0,e1,e2,e3],trivial,⟨H7 w0,H7 w1,H7 w2,H7 w3⟩⟩
theorem Aa0 (h:DataW.trod enc Am w 0 spare held fuel 241 cs=Ac x):∃ (s:Sl) (l:List (Entry)),cs=[.slice s.a s.n s.c]/\RdL Bx w w s.v l/\wfL Qn l:=by
 haveI:Inhabited ((Entry)×Bx.S):=⟨(⟨0,0,0,0⟩,())⟩
 obtain ⟨v,rs,h1,h2,h3,h4⟩:=Kc Bx.enc (fun z:(Entry)×Unit=>Bx.rd w w z.1 z.2/\Qn z.1) underlying241 Bm Bp (fun n cs' y hy=>by
  obtain ⟨p0,s0,e0,h0,k0⟩:=Adh hy;exact ⟨(p0,s0),e0,h0,k0⟩) h
 obtain ⟨A,c,hv,hc,hr⟩:=id h2;refine ⟨⟨A,rs.length,c⟩,rs.map (·.1),by rw [h1,hv],⟨rs,rfl,by rw [hv] at h2;exact h2,fun r hr=>(h3 r hr).1⟩,by rw [Ar];simpa [maxLen] using h4,fun z hz=>?_⟩;obtain ⟨r,hr,rfl⟩:=List.mem_map.1 hz;exact (h3 r hr).2
theorem Adi:Am.cellsOf 275=4:=Bm
theorem Aez (h:DataW.trod enc Am w 0 spare held fuel 275 cs=Ac x):∃ (p:Task) (_s:Unit),cs=[.int .i64 p.state,.int .i64 p.need,.int .i64 p.try_,.int .i64 p.until_]/\C7.rd w w p _s/\Uh p:=by
 obtain ⟨xs,n',_,_,aF,dW,hf⟩:=DataW.trod_struct underlying275 h;rw [Adi] at aF;have g0:=hf 0 _ rfl;have g1:=hf 1 _ rfl;have g2:=hf 2 _ rfl;have g3:=hf 3 _ rfl;match xs,dW,cs,aF with
 | [y0,y1,y2,y3],_,[c0,c1,c2,c3],_ =>
  obtain ⟨a0,e0,_,w0⟩:=DataW.trod_int underlying3 g0;obtain ⟨a1,e1,_,w1⟩:=DataW.trod_int underlying3 g1;obtain ⟨a2,e2,_,w2⟩:=DataW.trod_int underlying3 g2;obtain ⟨a3,e3,_,w3⟩:=DataW.trod_int underlying3 g3;simp [I8] at e0 e1 e2 e3;exact ⟨⟨a0,a1,a2,a3⟩,(),by simp [e0,e1,e2,e3],trivial,⟨H7 w0,H7 w1,H7 w2,H7 w3⟩⟩
theorem Aa1:Am.cellsOf 243=1:=Bm
theorem Adj (h:DataW.trod enc Am w 0 spare held fuel 243 cs=Ac x):∃ (s:Sl) (l:List (Task)),cs=[.slice s.a s.n s.c]/\RdL C7 w w s.v l/\wfL Uh l:=by
 haveI:Inhabited ((Task)×C7.S):=⟨(⟨0,0,0,0⟩,())⟩
 obtain ⟨v,rs,h1,h2,h3,h4⟩:=Kc C7.enc (fun z:(Task)×Unit=>C7.rd w w z.1 z.2/\Uh z.1) underlying243 Bm Bp (fun n cs' y hy=>by
  obtain ⟨p0,s0,e0,h0,k0⟩:=Aez hy;exact ⟨(p0,s0),e0,h0,k0⟩) h
 obtain ⟨A,c,hv,hc,hr⟩:=id h2;refine ⟨⟨A,rs.length,c⟩,rs.map (·.1),by rw [h1,hv],⟨rs,rfl,by rw [hv] at h2;exact h2,fun r hr=>(h3 r hr).1⟩,by rw [Ar];simpa [maxLen] using h4,fun z hz=>?_⟩;obtain ⟨r,hr,rfl⟩:=List.mem_map.1 hz;exact (h3 r hr).2
theorem Ae0:Am.cellsOf 245=8:=Bm
theorem Af3 (h:DataW.trod enc Am w 0 spare held fuel 245 cs=Ac x):∃ (p:Run) (s:Sl×Sl),cs=[.int .i64 p.id,.int .i64 p.plan.prio,.int .i64 p.plan.most,.int .i64 p.plan.wait,.int .i64 p.plan.tasks,.slice s.1.a s.1.n s.1.c,.int .i64 p.state,.slice s.2.a s.2.n s.2.c]/\Ce.rd w w p s/\Um p:=by
 obtain ⟨xs,n',_,_,aF,dW,hf⟩:=DataW.trod_struct underlying245 h;rw [Ae0] at aF;have g0:=hf 0 _ rfl;have g1:=hf 1 _ rfl;have g2:=hf 2 _ rfl;have g3:=hf 3 _ rfl;match xs,dW,cs,aF with
 | [y0,y1,y2,y3],_,[c0,c1,c2,c3,c4,c5,c6,c7],_ =>
  obtain ⟨a0,e0,_,w0⟩:=DataW.trod_int underlying3 g0;obtain ⟨a1,s1,e1,r1,w1⟩:=Xm g1;obtain ⟨a2,e2,_,w2⟩:=DataW.trod_int underlying3 g2;obtain ⟨s3,a3,e3,r3,w3⟩:=Adj g3;simp [I8,P7,Aa1] at e0 e1 e2 e3;exact ⟨⟨a0,a1,a2,a3⟩,(s1,s3),by simp [e0,e1,e2,e3],⟨r1,r3⟩,⟨H7 w0,w1,H7 w2,w3⟩⟩
theorem Adk:Am.cellsOf 64=1:=Bm
theorem Ae1 (h:DataW.trod enc Am w 0 spare held fuel 64 cs=Ac x):∃ (s:Sl) (l:List (Run)),cs=[.slice s.a s.n s.c]/\RdL Ce w w s.v l/\wfL Um l:=by
 haveI:Inhabited ((Run)×Ce.S):=⟨(⟨0,⟨0,0,0,0,[]⟩,0,[]⟩,(⟨Ab,0,0⟩,⟨Ab,0,0⟩))⟩
 obtain ⟨v,rs,h1,h2,h3,h4⟩:=Kc Ce.enc (fun z:(Run)×Sl×Sl=>Ce.rd w w z.1 z.2/\Um z.1) underlying64 Bm Bp (fun n cs' y hy=>by
  obtain ⟨p0,s0,e0,h0,k0⟩:=Af3 hy;exact ⟨(p0,s0),e0,h0,k0⟩) h
 obtain ⟨A,c,hv,hc,hr⟩:=id h2;refine ⟨⟨A,rs.length,c⟩,rs.map (·.1),by rw [h1,hv],⟨rs,rfl,by rw [hv] at h2;exact h2,fun r hr=>(h3 r hr).1⟩,by rw [Ar];simpa [maxLen] using h4,fun z hz=>?_⟩;obtain ⟨r,hr,rfl⟩:=List.mem_map.1 hz;exact (h3 r hr).2
theorem Wr:Am.cellsOf 63=1:=Bm
theorem Yx (h:DataW.trod enc Am w 0 spare held fuel 63 cs=Ac x):∃ (s:Sl) (l:List (List Entry)),cs=[.slice s.a s.n s.c]/\RdL (Dt.list Bx) w w s.v l/\wfL N9 l:=by
 haveI:Inhabited ((List Entry)×(Dt.list Bx).S):=⟨([],⟨Ab,0,0⟩)⟩
 obtain ⟨v,rs,h1,h2,h3,h4⟩:=Kc (Dt.list Bx).enc (fun z:(List Entry)×Sl=>(Dt.list Bx).rd w w.heap.size z.1 z.2/\N9 z.1) underlying63 Bm Bp (fun n cs' y hy=>by
  obtain ⟨s0,p0,e0,h0,k0⟩:=Aa0 hy;exact ⟨(p0,s0),e0,h0,k0⟩) h
 obtain ⟨A,c,hv,hc,hr⟩:=id h2;refine ⟨⟨A,rs.length,c⟩,rs.map (·.1),by rw [h1,hv],⟨rs,rfl,by rw [hv] at h2;exact h2,fun r hr=>(h3 r hr).1⟩,by rw [Ar];simpa [maxLen] using h4,fun z hz=>?_⟩;obtain ⟨r,hr,rfl⟩:=List.mem_map.1 hz;exact (h3 r hr).2
theorem U0:Am.cellsOf 66=4:=Bm
theorem Ae2 (h:DataW.trod enc Am w 0 spare held fuel 66 cs=Ac x):∃ (p:Yard) (s:Sl×Sl),cs=[.int .i64 p.now,.int .i64 p.seq,.slice s.1.a s.1.n s.1.c,.slice s.2.a s.2.n s.2.c]/\Bv.rd w w p s/\Ac0 p:=by
 obtain ⟨xs,n',_,_,aF,dW,hf⟩:=DataW.trod_struct underlying66 h;rw [U0] at aF;have g0:=hf 0 _ rfl;have g1:=hf 1 _ rfl;have g2:=hf 2 _ rfl;have g3:=hf 3 _ rfl;match xs,dW,cs,aF with
 | [y0,y1,y2,y3],_,[c0,c1,c2,c3],_ =>
  obtain ⟨a0,e0,_,w0⟩:=DataW.trod_int underlying3 g0;obtain ⟨a1,e1,_,w1⟩:=DataW.trod_int underlying3 g1;obtain ⟨s2,a2,e2,r2,w2⟩:=Yx g2;obtain ⟨s3,a3,e3,r3,w3⟩:=Ae1 g3;simp [I8,Wr,Adk] at e0 e1 e2 e3;exact ⟨⟨a0,a1,a2,a3⟩,(s2,s3),by simp [e0,e1,e2,e3],⟨r2,r3⟩,⟨H7 w0,H7 w1,w2,w3⟩⟩
theorem U1:Am.cellsOf 68=5:=Bm
theorem Ws (h:DataW.trod enc Am w 0 spare held fuel 68 cs=Ac x):∃ (p:Follower) (s:(Sl×Sl)),cs=[.int .i64 p.yard.now,.int .i64 p.yard.seq,.slice s.1.a s.1.n s.1.c,.slice s.2.a s.2.n s.2.c,.int .i64 p.seq]/\By.rd w w p s/\Kg p:=by
 obtain ⟨xs,n',_,_,aF,dW,hf⟩:=DataW.trod_struct underlying68 h;rw [U1] at aF;have g0:=hf 0 _ rfl;have g1:=hf 1 _ rfl;match xs,dW,cs,aF with
 | [y0,y1],_,[c0,c1,c2,c3,c4],_ =>
  obtain ⟨a0,s0,e0,r0,w0⟩:=Ae2 g0;obtain ⟨a1,e1,_,w1⟩:=DataW.trod_int underlying3 g1;simp [U0,I8] at e0 e1;exact ⟨⟨a0,a1⟩,s0,by simp [e0,e1],r0,⟨w0,H7 w1⟩⟩
end
end Go.Proofs.YtonlnjdempbfoabGreat
