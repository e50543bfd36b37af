/-
  Copies of deeds, notes and lists of them, in memory of the call's own. Shelves, runs and yards that are right: the plain words. FenceFor of the program, beside 
-/
import Derived.Test.YtonlnjdempbfoaaGreatZFe0
import Derived.Test.YtonlnjdempbfoaaGreatZFe1
import Derived.Test.YtonlnjdempbfoaaGreatZFe2
import Derived.Test.YtonlnjdempbfoaaGreatZFe3
import Derived.Deep.RegionHeld3
import Derived.IntWalk
namespace Go.Proofs.YtonlnjdempbfoaaGreat
open Go.RowKit
set_option maxRecDepth 100000
set_option maxHeartbeats 4000000
set_option linter.unusedVariables false
set_option linter.unusedSimpArgs false
open Value renaming int->J,slice->Aa
open IntKind renaming i64->U
open Option renaming none->Ab,some->Ac
open Below renaming setCell->Ad,alloc->Ae
open Nat renaming zero_le->Ag,le_trans->Ah,lt_of_lt_of_le->Ai
open Go renaming bodyPost_ret->Aj,wpQuiet_nil->Ak
open Go.Proofs.Tryz renaming prog->An
open Int renaming toNat_natCast->Ap,eq_ofNat_of_zero_le->Aq
open IntWalk renaming i64_in->Ar
open List renaming length_map->Au,getElem_mem->Aw,length_take->Az,length_append->A0
open World renaming size_alloc->Bi
theorem Ju {w:World} {B:Nat} {v:Value} {l:List Edge} (h:RdL Lz w B v l):Rd Gc w B v l:=by
 obtain ⟨rs,rfl,⟨A,c,rfl,hc,hA⟩,_⟩:=h;refine ⟨A,c,by rw [Au],by rw [Au];exact hc,fun hl=>?_⟩;rw [Au] at hl;obtain ⟨b,o,h1,h2,h3⟩:=hA hl;refine ⟨b,o,h1,h2,fun k hk j u hu=>?_⟩;rw [List.getElem_map] at hu;exact h3 k (by rw [Au] at hk;exact hk) j u hu
theorem Zf (w:World):∀ l:List Edge,Ows Lz w [] (l.map fun x=>(x,()))
 | []=>.nil
 | x :: l=>by
  have:=Ows.cons (d:=Lz) (w:=w) (F:=[]) (r:=(x,())) rfl (Zf w l)
  exact this
theorem Aci {w:World} {E:TypeId} {base:Nat} {v:Value} {l:List Edge} (h:Ow Gc E w base v l):∃ (s:Sl) (F:List Nat),v = Aa s.a s.n s.c/\OwL Lz w F s.v l /\ ∀ b∈F,base<=b:=by
 obtain ⟨h1,h2⟩:=Hw.of_ow h;obtain ⟨⟨A,c,hv,hc,hA⟩,hF,hf⟩:=id h1;subst hv;refine ⟨⟨A,l.length,c⟩,_,rfl,⟨l.map fun x=>(x,()),Eh (Aa A l.length c) l.length,[],by rw [List.map_map];exact List.map_id _,⟨⟨A,c,by rw [Au],by rw [Au];exact hc,fun hl=>?_⟩,by rw [Au],hf⟩,Zf w l,(List.append_nil _).symm,h1.nodup⟩,h2⟩;rw [Au] at hl;obtain ⟨b,o,h3,h4,h5⟩:=hA hl;refine ⟨b,o,h3,h4,fun k hk j u hu=>?_⟩;rw [List.getElem_map] at hu;exact h5 k (by rw [Au] at hk;exact hk) j u hu
theorem Sa {x:Plan} {w:World} {e:Ending} {w':World} (h:O9 x w e w'):Fc Cm Qc x w e w':=by
 obtain ⟨v,rfl,h1,h2⟩:=h;obtain ⟨s,F,rfl,h3,h4⟩:=Aci h1;exact ⟨s,F,rfl,h3,h4,h2⟩
theorem Q9 (x:Plan) (s:Sl) (w:World) (hl:Js x<=2000000) (h:Cm.rd w w x s) :
  Calls An 184 #[Qc x s] w (Fc Cm Qc x w) :=
 (Xr x s.v w (Ah (Ct _ _) hl) (Ju h)).mono fun _ _=>Sa
theorem L7 (x:Plan) (s:Sl) (w:World) (hl:Js x<=2000000) (h:Cm.rd w w x s) :
  Calls An 157 #[Qc x s] w (Fc Cm Qc x w) :=
 (Xs x s.v w (Ah (Ct _ _) hl) (Ju h)).mono fun _ _=>Sa
theorem Bld.push1 {α:Type} {d:Dt α} {E:TypeId} {w w1 w2 w5:World} {base:Nat} {v v5:Value} {rs:List (α×d.S)} {x:α} {s:d.S} {F:List Nat} (h:Bld d E w base v rs) (hb:Below w w w1) (o1:d.ow w1 F x s) (n1:∀ b∈F,w<=b)
  (aV:base<=w.heap.size) (aF:Below w1 w1 w2) (o5:Ow d.enc E w5 base v5 (rs ++ [(x,s)])) (g5:w2.grownBy w5 v.ownBlock) (f5:v5.ownBlock=v.ownBlock\/v5.ownBlock=Ac w2.heap.size):Bld d E w5 base v5 (rs ++ [(x,s)]):=by
 refine Bld.push h (Bs hb aF) (Ows.one (r:=(x,s)) (d.ow_below o1 aF)) n1 (d.ow_nodup o1) aV o5 g5 ?_;rcases f5 with f5 | f5
 ·exact .inl f5
 ·exact .inr ⟨_,f5,Br _⟩
def Bls {α:Type} (d:Dt α) (E:TypeId) (w:World) (base:Nat) (v:Value) (l:List α):Prop:=∃ rs,rs.map (·.1)=l/\Bld d E w base v rs
noncomputable def tf (p:Prop):Bool:=@decide p (Classical.propDecidable p)
theorem D6 {p:Prop} (h:p):tf p=true:=by unfold tf;exact @decide_eq_true p (Classical.propDecidable p) h
theorem Ck {p:Prop} (h:¬ p):tf p=false:=by unfold tf;exact @decide_eq_false p (Classical.propDecidable p) h
theorem Kw {p:Prop} : tf p=true ↔ p:=by
 constructor
 ·intro h;by_cases hp:p
  ·exact hp
  ·rw [Ck hp] at h;cases h
 ·exact D6
theorem Aec {p q:Prop} (h:p ↔ q):tf p=tf q:=by
 by_cases hp:p
 ·rw [D6 hp,D6 (h.1 hp)]
 ·rw [Ck hp,Ck (fun hq=>hp (h.2 hq))]
def Dm (a b:Entry):Bool:=decide (b.prio<a.prio) || ((a.prio == b.prio) && decide (a.seq<b.seq))
def Hk (l:List Entry):Prop:=l.length<=80 /\ ∀ i (h:i+1<l.length),Dm l[i] l[i+1]=true
def Bx (r:Run) (k:Nat):Task:=r.tasks.getD k ⟨0,0,0,0⟩
theorem Cn {r:Run} {k:Nat} (h:k<r.tasks.length):Bx r k=r.tasks[k]:=by unfold Bx;rw [List.getD_eq_getElem?_getD,List.getElem?_eq_getElem h];rfl
def Fi (r:Run) (l:List Nat):Nat:=(l.filter fun b=>(Bx r b).state != 4).length
def Fu (r:Run) (t:Nat):Nat:=Fi r (Dl (Dq r.plan) r.plan.tasks.toNat t)
theorem Rf (r:Run) (l:List Nat):Fi r l<=l.length:=List.length_filter_le _ _
theorem Uz {r:Run} {l:List Nat} {k:Nat} (hk:k<l.length) (h:(Bx r l[k]).state≠4):Fi r (l.take (k+1))=Fi r (l.take k)+1:=by
 unfold Fi;rw [Dc l k hk,List.filter_append,A0,List.filter_cons,if_pos (by simpa using h)];rfl
theorem Wv {r:Run} {l:List Nat} {k:Nat} (hk:k<l.length) (h:(Bx r l[k]).state=4):Fi r (l.take (k+1))=Fi r (l.take k):=by
 unfold Fi;rw [Dc l k hk,List.filter_append,A0,List.filter_cons,if_neg (by simp [h])];rfl
def Lh (x:Task) (N:Nat) (most:Int):Prop :=
 (1<=x.state/\x.state<=6)/\x.need=N/\(0<=x.try_/\x.try_<=most)/\(x.state=3->1<=x.until_/\x.until_<=1000000000)/\(x.state≠3->x.until_=0) /\
 (x.state=1->0<x.need)/\(x.state=2->x.need=0/\x.try_<most)/\(x.state=3\/x.state=4\/x.state=5->x.need=0/\1<=x.try_)
def Gl (r:Run) (t:Nat):Prop:=Lh (Bx r t) (Fu r t) r.plan.most
def Dd (l:List Task) (s:Int):Nat:=(l.filter fun x=>x.state == s).length
theorem Kh (l:List Task) (s:Int):Dd l s<=l.length:=List.length_filter_le _ _
theorem Ww (l:List Task) (x:Task) (s:Int):Dd (l ++ [x]) s=Dd l s+if x.state=s then 1 else 0:=by
 unfold Dd;rw [List.filter_append,A0];congr 1;by_cases h:x.state=s<;>simp [h]
theorem U0 {l:List Task} {s:Int} {k:Nat} (hk:k<l.length) (h:l[k].state=s):Dd (l.take (k+1)) s=Dd (l.take k) s+1:=by
 rw [Dc l k hk,Ww,if_pos h]
theorem Yb {l:List Task} {s:Int} {k:Nat} (hk:k<l.length) (h:¬ l[k].state=s):Dd (l.take (k+1)) s=Dd (l.take k) s:=by
 rw [Dc l k hk,Ww,if_neg h,Nat.add_zero]
def Ja (l:List Task):Nat:=Dd l 1+Dd l 2+Dd l 3
theorem U1 {l:List Task} (h:∀ x∈l,1<=x.state/\x.state<=6):Ja l+Dd l 4+Dd l 5+Dd l 6=l.length:=by
 unfold Ja;induction l with
 | nil=>rfl
 | cons x l ih =>
  have h1:=ih (fun y hy=>h y (List.mem_cons_of_mem _ hy));have hx:=h x (List.mem_cons_self ..);have hc:∀ s,Dd (x :: l) s=(if x.state=s then 1 else 0)+Dd l s:=by
   intro s;unfold Dd;by_cases h:x.state=s<;>simp [h];omega
  simp only [hc,List.length_cons];rcases (show x.state=1\/x.state=2\/x.state=3\/x.state=4\/x.state=5\/x.state=6 by omega) with e | e | e | e | e | e<;>simp [e]<;>omega
def stL (l:List Task):Int :=
 if Dd l 4=l.length then 2 else if Dd l 5=1/\Ja l=0 then 3 else if Dd l 5=0/\0<Dd l 6/\Ja l=0 then 4 else if Dd l 5=0/\Dd l 6=0 then 1 else 0
def Gg (r:Run):Prop :=
 (1<=r.id/\r.id<=9999)/\Cr r.plan=0/\(r.tasks.length:Int)=r.plan.tasks/\(∀ t,t<r.tasks.length->Gl r t)/\r.state=stL r.tasks/\r.state≠0
def Ce (y:Yard):List Entry:=y.shelf.flatten
def Ip (y:Yard) (id:Int):Run:=y.runs.getD (Dh y id).toNat ⟨0,⟨0,0,0,0,[]⟩,0,[]⟩
theorem Gq {y:Yard} {id:Int} {k:Nat} (hk:k<y.runs.length) (h:Dh y id=k):Ip y id=y.runs[k]:=by
 unfold Ip;rw [h,Ap,List.getD_eq_getElem?_getD,List.getElem?_eq_getElem hk];rfl
def Pi (y:Yard) (e:Entry):Prop:=0<=Dh y e.run/\(0<=e.task/\e.task<(Ip y e.run).tasks.length)/\(Bx (Ip y e.run) e.task.toNat).state=2
noncomputable def Dx (y:Yard) (e:Entry):Bool:=tf (Pi y e)
def Fe (l:List Run):Nat:=((l.filter fun r=>r.state == 1).map fun r=>r.tasks.length).sum
noncomputable def Fj (y:Yard) (l:List Entry):Nat:=(l.filter fun e=>!Dx y e).length
noncomputable def Gt (y:Yard):Nat:=Fe y.runs+Fj y (Ce y)
def Fn (id:Int) (t:Nat) (e:Entry):Bool:=(e.run == id) && (e.task == (t:Int))
def Dy (id:Int) (t:Nat) (l:List Entry):Nat:=(l.filter (Fn id t)).length
def On (now:Int) (r:Run) (es:List Entry) (t:Nat):Prop :=
 ((Bx r t).state=2->(∀ e∈es,Fn r.id t e=true->e.prio=r.plan.prio)/\Dy r.id t es=1)/\((Bx r t).state=3->now+1<=(Bx r t).until_/\(Bx r t).until_<=now+r.plan.wait)
def Jk (now:Int) (r:Run) (es:List Entry):Prop:=∀ t,t<r.tasks.length->On now r es t
def Dn (y:Yard):Prop :=
 (0<=y.now/\y.now<=999999980)/\(1<=y.seq/\y.seq<=1000000000)/\y.shelf.length=4/\(∀ l∈y.shelf,Hk l)/\(∀ e∈Ce y,1<=e.seq/\e.seq<=y.seq - 1)/\((Ce y).map (·.seq)).Nodup /\
 y.runs.length<=8/\(∀ k (h:k<y.runs.length),Gg y.runs[k]/\Dh y y.runs[k].id=k)/\(∀ r∈y.runs,Jk y.now r (Ce y))/\Gt y<=40
theorem U2 {y:Yard} {l:List Entry} {k:Nat} (hk:k<l.length) (h:Dx y l[k]=false):Fj y (l.take (k+1))=Fj y (l.take k)+1:=by
 unfold Fj;rw [Dc l k hk,List.filter_append,A0,List.filter_cons,if_pos (by simp [h])];rfl
theorem Wx {y:Yard} {l:List Entry} {k:Nat} (hk:k<l.length) (h:Dx y l[k]=true):Fj y (l.take (k+1))=Fj y (l.take k):=by
 unfold Fj;rw [Dc l k hk,List.filter_append,A0,List.filter_cons,if_neg (by simp [h])];rfl
theorem N4 (y:Yard) (l:List Entry):Fj y l<=l.length:=List.length_filter_le _ _
theorem Oo (y:Yard) (l l':List Entry):Fj y (l ++ l')=Fj y l+Fj y l':=by
 unfold Fj;rw [List.filter_append,A0]
theorem Wy {id:Int} {t:Nat} {l:List Entry} {k:Nat} (hk:k<l.length) (h:Fn id t l[k]=true):Dy id t (l.take (k+1))=Dy id t (l.take k)+1:=by
 unfold Dy;rw [Dc l k hk,List.filter_append,A0,List.filter_cons,if_pos h];rfl
theorem Zg {id:Int} {t:Nat} {l:List Entry} {k:Nat} (hk:k<l.length) (h:Fn id t l[k]=false):Dy id t (l.take (k+1))=Dy id t (l.take k):=by
 unfold Dy;rw [Dc l k hk,List.filter_append,A0,List.filter_cons,if_neg (by simp [h])];rfl
theorem Zh (id:Int) (t:Nat) (l:List Entry):Dy id t l<=l.length:=List.length_filter_le _ _
theorem U3 {l:List Run} {k:Nat} (hk:k<l.length) (h:l[k].state=1):Fe (l.take (k+1))=Fe (l.take k)+l[k].tasks.length:=by
 unfold Fe;rw [Dc l k hk,List.filter_append,List.map_append,List.sum_append,List.filter_cons,if_pos (by simp [h])];simp
theorem Wz {l:List Run} {k:Nat} (hk:k<l.length) (h:¬ l[k].state=1):Fe (l.take (k+1))=Fe (l.take k):=by
 unfold Fe;rw [Dc l k hk,List.filter_append,List.map_append,List.sum_append,List.filter_cons,if_neg (by simp [h])];simp
theorem Adc (l:List Run):Fe l<=(l.map fun r=>r.tasks.length).sum:=by
 unfold Fe;induction l with
 | nil=>simp
 | cons r l ih =>
  rw [List.filter_cons];split
  ·simp only [List.map_cons,List.sum_cons];omega
  ·simp only [List.map_cons,List.sum_cons];omega
@[go_sem] abbrev Mq (x:Fence) (_s:Unit):Value:=.agg #[.int .i64 x.run,.int .i64 x.task,.int .i64 x.try_,.string x.text]
def Nn (y:Yard) (k:Int):Run:=y.runs.getD k.toNat ⟨0,⟨0,0,0,0,[]⟩,0,[]⟩
def Qi (r:Run) (k:Int):Task:=r.tasks.getD k.toNat ⟨0,0,0,0⟩
theorem U4 {y:Yard} {k:Nat} (h:k<y.runs.length):Nn y k=y.runs[k]:=by
 unfold Nn;rw [List.getD_eq_getElem?_getD,Ap,List.getElem?_eq_getElem h];rfl
theorem Np {r:Run} {k:Nat} (h:k<r.tasks.length):Qi r k=r.tasks[k]:=by
 unfold Qi;rw [List.getD_eq_getElem?_getD,Ap,List.getElem?_eq_getElem h];rfl
def Sb (y:Yard) (id task:Int):Bool:=decide (0<=Dh y id) && inB task 0 ((Nn y (Dh y id)).tasks.length - 1) && decide ((Qi (Nn y (Dh y id)) task).state=3)
def Ex (y:Yard) (id task:Int) (text:ByteArray):Fence×Bool:=if Sb y id task=true then (⟨id,task,(Qi (Nn y (Dh y id)) task).try_,text⟩,true) else (⟨0,0,0,⟨#[]⟩⟩,false)
theorem Rg (y:Yard) (s:Sl×Sl) (id task:Int) (text:ByteArray) (w:World) (hl:Ci y<=2000000) (h:Bu.rd w w y s) :
  Calls An 27 #[Du y s,J U id,J U task,.string text] w fun e w'=>e = .returned (.tuple #[Mq (Ex y id task text).1 (),.bool (Ex y id task text).2])/\Below w w w':=by
 have hC0:∀ W,Below w w W->Calls An 75 #[Du y s,J U id] W fun e w'=>e = .returned (J U (Dh y id))/\Below W W w':=fun W hW=>Jt y s id W hl (Bu.rd_more (Bu.rd_below h hW) hW.size);obtain ⟨s1,⟨A,n,c⟩⟩:=s;have h1:RdL Co w w (Sl.v ⟨A,n,c⟩) y.runs:=h.2;obtain ⟨A',c',hv,-⟩:=h1.form;simp only [Sl.v,Value.slice.injEq] at hv;obtain ⟨rfl,rfl,rfl⟩:=hv;have eD:y.runs.length<=2000000:=Ah (Ct C9 _) (by unfold Ci at hl;omega);have hcc:∀ k (hk:k<y.runs.length),y.runs[k].tasks.length<=2000000:=fun k hk=>by
  have h1:=Fk (cnt:=C9) (Aw hk);have h2:=Ct G8 y.runs[k].tasks;have h3:Jx G8 y.runs[k].tasks<=C9 y.runs[k]:=Nat.le_add_left _ _;unfold Ci at hl;omega
 have D0:=DBox.new 31 [J U y.now,J U y.seq,Aa (s1,(⟨A,y.runs.length,c⟩:Sl)).1.a (s1,(⟨A,y.runs.length,c⟩:Sl)).1.n (s1,(⟨A,y.runs.length,c⟩:Sl)).1.c,Aa (s1,(⟨A,y.runs.length,c⟩:Sl)).2.a (s1,(⟨A,y.runs.length,c⟩:Sl)).2.n (s1,(⟨A,y.runs.length,c⟩:Sl)).2.c] w rfl;have D:=D0.below ((Bq _ _).alloc (Br _) (.cells #[J U 0,J U 0,J U 0,.string ⟨#[]⟩] 65));have Z:=DBox.new 65 [J U 0,J U 0,J U 0,.string ⟨#[]⟩] (w.alloc (.cells #[J U y.now,J U y.seq,Aa (s1,(⟨A,y.runs.length,c⟩:Sl)).1.a (s1,(⟨A,y.runs.length,c⟩:Sl)).1.n (s1,(⟨A,y.runs.length,c⟩:Sl)).1.c,Aa (s1,(⟨A,y.runs.length,c⟩:Sl)).2.a (s1,(⟨A,y.runs.length,c⟩:Sl)).2.n (s1,(⟨A,y.runs.length,c⟩:Sl)).2.c] 31)) (b:=w.heap.size+1) Bm;have B1:Below w w ((w.alloc (.cells #[J U y.now,J U y.seq,Aa (s1,(⟨A,y.runs.length,c⟩:Sl)).1.a (s1,(⟨A,y.runs.length,c⟩:Sl)).1.n (s1,(⟨A,y.runs.length,c⟩:Sl)).1.c,Aa (s1,(⟨A,y.runs.length,c⟩:Sl)).2.a (s1,(⟨A,y.runs.length,c⟩:Sl)).2.n (s1,(⟨A,y.runs.length,c⟩:Sl)).2.c] 31)).alloc (.cells #[J U 0,J U 0,J U 0,.string ⟨#[]⟩] 65)):=by repeat (first | exact Bq _ _ | refine Ae ?_ Bn _)
 clear D0 hl;rcases Eu y id with eB | ⟨k,hk,eB⟩
 ·have H:=Bp (show Ex y id task text=(⟨0,0,0,⟨#[]⟩⟩,false) by simp [Ex,Sb,eB]);have hC:=hC0;rw [eB] at hC;clear eB hC0;go_enter Tryz.func27,Tryz.ntmps27;go_wp2_with fail
  generalize ((w.alloc (.cells #[J U y.now,J U y.seq,Aa (s1,(⟨A,y.runs.length,c⟩:Sl)).1.a (s1,(⟨A,y.runs.length,c⟩:Sl)).1.n (s1,(⟨A,y.runs.length,c⟩:Sl)).1.c,Aa (s1,(⟨A,y.runs.length,c⟩:Sl)).2.a (s1,(⟨A,y.runs.length,c⟩:Sl)).2.n (s1,(⟨A,y.runs.length,c⟩:Sl)).2.c] 31)).alloc (.cells #[J U 0,J U 0,J U 0,.string ⟨#[]⟩] 65))=W at *
  refine (hC _ B1).mono ?_;rintro e w2 ⟨rfl,b2⟩;have D2:=D.below b2;have Z2:=Z.below b2;have B2:=Bs B1 b2;have k3:w2.cell? ⟨w,3,Ab⟩=Ac (Aa A y.runs.length c):=D2.cell 3 _ rfl;have z0:w2.cell? ⟨w.heap.size+1,0,Ab⟩=Ac (J U 0):=Z2.cell 0 _ rfl;have z1:w2.cell? ⟨w.heap.size+1,1,Ab⟩=Ac (J U 0):=Z2.cell 1 _ rfl;have z2:w2.cell? ⟨w.heap.size+1,2,Ab⟩=Ac (J U 0):=Z2.cell 2 _ rfl;have z3:w2.cell? ⟨w.heap.size+1,3,Ab⟩=Ac (.string ⟨#[]⟩):=Z2.cell 3 _ rfl;have zf:=Z2.free;have zl:=Z2.lt;go_wp2_with (go_at_call 58;refine (Cs _ _ _ _).mono ?_;rintro e w3 ⟨rfl,rfl⟩)
  refine Aj (v:=.tuple #[Mq (Ex y id task text).1 (),.bool (Ex y id task text).2]) ?_ rfl ⟨rfl,?_⟩
  ·rw [H.out];simp [Mq,results,Tryz.results27,go_sem,z0,z1,z2,z3]
  ·repeat (first | (with_reducible exact B2) | refine Ad ?_ Bn _)
 ·have hrg:=Bp (show Nn y (Dh y id)=y.runs[k] by rw [eB];exact U4 hk);have rL:(0:Int)<=(k:Int):=Bk;have Hra:=Bp eB;have hC:=hC0;rw [eB] at hC;clear eB hC0;cases t1:inB task 0 (y.runs[k].tasks.length - 1)
  ·have H:=Bp (show Ex y id task text=(⟨0,0,0,⟨#[]⟩⟩,false) by unfold Ex Sb;rw [hrg.out,t1];simp);go_enter Tryz.func27,Tryz.ntmps27;go_wp2_with fail
   generalize ((w.alloc (.cells #[J U y.now,J U y.seq,Aa (s1,(⟨A,y.runs.length,c⟩:Sl)).1.a (s1,(⟨A,y.runs.length,c⟩:Sl)).1.n (s1,(⟨A,y.runs.length,c⟩:Sl)).1.c,Aa (s1,(⟨A,y.runs.length,c⟩:Sl)).2.a (s1,(⟨A,y.runs.length,c⟩:Sl)).2.n (s1,(⟨A,y.runs.length,c⟩:Sl)).2.c] 31)).alloc (.cells #[J U 0,J U 0,J U 0,.string ⟨#[]⟩] 65))=W at *
   refine (hC _ B1).mono ?_;rintro e w2 ⟨rfl,b2⟩;have D2:=D.below b2;have Z2:=Z.below b2;have B2:=Bs B1 b2;have k3:w2.cell? ⟨w,3,Ab⟩=Ac (Aa A y.runs.length c):=D2.cell 3 _ rfl;have z0:w2.cell? ⟨w.heap.size+1,0,Ab⟩=Ac (J U 0):=Z2.cell 0 _ rfl;have z1:w2.cell? ⟨w.heap.size+1,1,Ab⟩=Ac (J U 0):=Z2.cell 1 _ rfl;have z2:w2.cell? ⟨w.heap.size+1,2,Ab⟩=Ac (J U 0):=Z2.cell 2 _ rfl;have z3:w2.cell? ⟨w.heap.size+1,3,Ab⟩=Ac (.string ⟨#[]⟩):=Z2.cell 3 _ rfl;have zf:=Z2.free;have zl:=Z2.lt;obtain ⟨b,o,⟨s3,⟨A4,n4,c4⟩⟩,rfl,aG,hr,c0,c1,c2,c3,c4',c5,c6,c7⟩:=(h1.below B2).run hk;have kA:RdL Eo w2 w (Sl.v ⟨A4,n4,c4⟩) y.runs[k].tasks:=hr.2;obtain ⟨_,_,kB,-⟩:=kA.form;simp only [Sl.v,Value.slice.injEq] at kB;obtain ⟨rfl,rfl,rfl⟩:=kB;have eC:(k:Int)<(y.runs.length:Int):=Bk;have hct:=hcc k hk;go_wp2_with (go_at_call 58;refine (Cs _ _ _ _).mono ?_;rintro e w3 ⟨rfl,rfl⟩)
   refine Aj (v:=.tuple #[Mq (Ex y id task text).1 (),.bool (Ex y id task text).2]) ?_ rfl ⟨rfl,?_⟩
   ·rw [H.out];simp [Mq,results,Tryz.results27,go_sem,z0,z1,z2,z3]
   ·repeat (first | (with_reducible exact B2) | refine Ad ?_ Bn _)
  ·obtain ⟨tn,qW⟩:∃ tn:Nat,task=(tn:Int):=⟨task.toNat,by simp only [inB,Bool.and_eq_true,decide_eq_true_eq] at t1;omega⟩
   subst qW;have cU:tn<y.runs[k].tasks.length:=by simp only [inB,Bool.and_eq_true,decide_eq_true_eq] at t1;omega
   have jU:(tn:Int)<(y.runs[k].tasks.length:Int):=Bk;have htg:=Bp (show Qi (Nn y (Dh y id)) (tn:Int)=y.runs[k].tasks[tn] by rw [hrg.out];exact Np cU);have hps:=Bp (show decide (0<=Dh y id)=true by rw [Hra.out];simp);by_cases bV:y.runs[k].tasks[tn].state=3
   ·have t2:(y.runs[k].tasks[tn].state != 3)=false:=by simp [bV]
    have H:=Bp (show Ex y id (tn:Int) text=(⟨id,tn,y.runs[k].tasks[tn].try_,text⟩,true) by unfold Ex Sb;rw [htg.out,hrg.out,t1,hps.out,bV];simp);clear bV;go_enter Tryz.func27,Tryz.ntmps27;go_wp2_with fail
    generalize ((w.alloc (.cells #[J U y.now,J U y.seq,Aa (s1,(⟨A,y.runs.length,c⟩:Sl)).1.a (s1,(⟨A,y.runs.length,c⟩:Sl)).1.n (s1,(⟨A,y.runs.length,c⟩:Sl)).1.c,Aa (s1,(⟨A,y.runs.length,c⟩:Sl)).2.a (s1,(⟨A,y.runs.length,c⟩:Sl)).2.n (s1,(⟨A,y.runs.length,c⟩:Sl)).2.c] 31)).alloc (.cells #[J U 0,J U 0,J U 0,.string ⟨#[]⟩] 65))=W at *
    refine (hC _ B1).mono ?_;rintro e w2 ⟨rfl,b2⟩;have D2:=D.below b2;have Z2:=Z.below b2;have B2:=Bs B1 b2;have k3:w2.cell? ⟨w,3,Ab⟩=Ac (Aa A y.runs.length c):=D2.cell 3 _ rfl;have z0:w2.cell? ⟨w.heap.size+1,0,Ab⟩=Ac (J U 0):=Z2.cell 0 _ rfl;have z1:w2.cell? ⟨w.heap.size+1,1,Ab⟩=Ac (J U 0):=Z2.cell 1 _ rfl;have z2:w2.cell? ⟨w.heap.size+1,2,Ab⟩=Ac (J U 0):=Z2.cell 2 _ rfl;have z3:w2.cell? ⟨w.heap.size+1,3,Ab⟩=Ac (.string ⟨#[]⟩):=Z2.cell 3 _ rfl;have zf:=Z2.free;have zl:=Z2.lt;obtain ⟨b,o,⟨s3,⟨A4,n4,c4⟩⟩,rfl,aG,hr,c0,c1,c2,c3,c4',c5,c6,c7⟩:=(h1.below B2).run hk;have kA:RdL Eo w2 w (Sl.v ⟨A4,n4,c4⟩) y.runs[k].tasks:=hr.2;obtain ⟨_,_,kB,-⟩:=kA.form;simp only [Sl.v,Value.slice.injEq] at kB;obtain ⟨rfl,rfl,rfl⟩:=kB;have eC:(k:Int)<(y.runs.length:Int):=Bk;have hct:=hcc k hk;obtain ⟨b5,o5,s5,rfl,hbb5,_,d0,d1,d2,d3⟩:=kA.task cU;go_wp2_with (go_at_call 58;refine (Cs _ _ _ _).mono ?_;rintro e w3 ⟨rfl,rfl⟩)
    refine Aj (v:=.tuple #[Mq (Ex y id (tn:Int) text).1 (),.bool (Ex y id (tn:Int) text).2]) ?_ rfl ⟨rfl,?_⟩
    ·rw [H.out];simp [Mq,results,Tryz.results27,go_sem,z0,z1,z2,z3]
    ·repeat (first | (with_reducible exact B2) | refine Ad ?_ Bn _)
   ·have t2:(y.runs[k].tasks[tn].state != 3)=true:=by rw [bne_iff_ne];exact bV
    have H:=Bp (show Ex y id (tn:Int) text=(⟨0,0,0,⟨#[]⟩⟩,false) by unfold Ex Sb;rw [htg.out];simp [bV]);clear bV;go_enter Tryz.func27,Tryz.ntmps27;go_wp2_with fail
    generalize ((w.alloc (.cells #[J U y.now,J U y.seq,Aa (s1,(⟨A,y.runs.length,c⟩:Sl)).1.a (s1,(⟨A,y.runs.length,c⟩:Sl)).1.n (s1,(⟨A,y.runs.length,c⟩:Sl)).1.c,Aa (s1,(⟨A,y.runs.length,c⟩:Sl)).2.a (s1,(⟨A,y.runs.length,c⟩:Sl)).2.n (s1,(⟨A,y.runs.length,c⟩:Sl)).2.c] 31)).alloc (.cells #[J U 0,J U 0,J U 0,.string ⟨#[]⟩] 65))=W at *
    refine (hC _ B1).mono ?_;rintro e w2 ⟨rfl,b2⟩;have D2:=D.below b2;have Z2:=Z.below b2;have B2:=Bs B1 b2;have k3:w2.cell? ⟨w,3,Ab⟩=Ac (Aa A y.runs.length c):=D2.cell 3 _ rfl;have z0:w2.cell? ⟨w.heap.size+1,0,Ab⟩=Ac (J U 0):=Z2.cell 0 _ rfl;have z1:w2.cell? ⟨w.heap.size+1,1,Ab⟩=Ac (J U 0):=Z2.cell 1 _ rfl;have z2:w2.cell? ⟨w.heap.size+1,2,Ab⟩=Ac (J U 0):=Z2.cell 2 _ rfl;have z3:w2.cell? ⟨w.heap.size+1,3,Ab⟩=Ac (.string ⟨#[]⟩):=Z2.cell 3 _ rfl;have zf:=Z2.free;have zl:=Z2.lt;obtain ⟨b,o,⟨s3,⟨A4,n4,c4⟩⟩,rfl,aG,hr,c0,c1,c2,c3,c4',c5,c6,c7⟩:=(h1.below B2).run hk;have kA:RdL Eo w2 w (Sl.v ⟨A4,n4,c4⟩) y.runs[k].tasks:=hr.2;obtain ⟨_,_,kB,-⟩:=kA.form;simp only [Sl.v,Value.slice.injEq] at kB;obtain ⟨rfl,rfl,rfl⟩:=kB;have eC:(k:Int)<(y.runs.length:Int):=Bk;have hct:=hcc k hk;obtain ⟨b5,o5,s5,rfl,hbb5,_,d0,d1,d2,d3⟩:=kA.task cU;go_wp2_with (go_at_call 58;refine (Cs _ _ _ _).mono ?_;rintro e w3 ⟨rfl,rfl⟩)
    refine Aj (v:=.tuple #[Mq (Ex y id (tn:Int) text).1 (),.bool (Ex y id (tn:Int) text).2]) ?_ rfl ⟨rfl,?_⟩
    ·rw [H.out];simp [Mq,results,Tryz.results27,go_sem,z0,z1,z2,z3]
    ·repeat (first | (with_reducible exact B2) | refine Ad ?_ Bn _)
def Af1 (t:Int) (a b:Nat):Edge:=⟨(a:Int),(b:Int)+t⟩
def Aed (t:Int) (B:List Nat) (a:Nat):List Edge:=B.map (Af1 t a)
def Af2 (t:Int) (A B:List Nat):List Edge:=A.flatMap (Aed t B)
noncomputable def Af6 (p q:Plan):List Edge:=Af2 p.tasks (Afd p) (Adb q)
theorem DBox.set {b:Nat} {cs:List Value} {w:World} (h:DBox b cs w) (j:Nat) (hj:j<cs.length) (u:Value):DBox b (cs.set j u) (w.setCell ⟨b,j,Ab⟩ u):=by
 refine ⟨fun i x hx=>?_,fun i=>by rw [Hz];exact h.free i,by simpa [World.setCell] using h.lt⟩;have hi:i<cs.length:=by
  have:=(List.getElem?_eq_some_iff.1 hx).1
  simpa using this
 rw [Ke w b i j u cs[i] (h.cell i _ (List.getElem?_eq_getElem hi)) ⟨_,h.cell j _ (List.getElem?_eq_getElem hj)⟩];by_cases e:i=j
 ·subst e;rw [List.getElem?_set_self hi] at hx;rw [if_pos rfl];exact hx
 ·rw [List.getElem?_set_ne (Ne.symm e),List.getElem?_eq_getElem hi] at hx;rw [if_neg e];exact hx
theorem DBox.off {b:Nat} {cs:List Value} {w w':World} {row:Option Nat} (h:DBox b cs w) (hg:w.grownBy w' row) (aC:Ac b≠row):DBox b cs w' :=
 h.keep hg.size (fun j=>hg.cell_far ⟨b,j,Ab⟩ h.lt aC) (fun j=>hg.frozen_far ⟨b,j,Ab⟩ h.lt aC)
theorem DBox.setOther {b:Nat} {cs:List Value} {w:World} (h:DBox b cs w) {a:Addr} (aC:b≠a.block) (u:Value):DBox b cs (w.setCell a u) :=
 h.off (Om w a u) (fun e=>aC (Option.some.inj e))
theorem Bld.setOther {α:Type} {d:Dt α} {E:TypeId} {w:World} {base:Nat} {v:Value} {rs:List (α×d.S)} (h:Bld d E w base v rs) {a:Addr} (ha:a.block<base) (u:Value):Bld d E (w.setCell a u) base v rs:=by
 obtain ⟨G,h1,h2,h3,h4⟩:=h;refine ⟨G,h1.setOther (fun e=>by have:=h1.within _ e;omega) u,h2.keep (by simp [World.setCell]) (fun b hb=>Below.heap_setCell w a u b (fun e=>by have:=(h4 b hb).1;omega)),h3,h4⟩
theorem Ln (a b:Entry) (w:World) :
  Calls An 181 #[H7 a (),H7 b ()] w fun e w'=>e = .returned (.bool (Dm a b))/\Below w w w':=by
 cases t1:decide (b.prio<a.prio)<;>cases t2:(a.prio == b.prio)<;>cases t3:decide (a.seq<b.seq);all_goals
  have H:=Bp (show (decide (b.prio<a.prio) || ((a.prio == b.prio) && decide (a.seq<b.seq)))=Dm a b from rfl);go_enter Tryz.func181,Tryz.ntmps181;go_wp2;go_ret;exact ⟨Bw (by rw [<-H.out,t1,t2,t3];rfl),by repeat (first | exact Bq _ _ | refine Ae ?_ Bn _)⟩
theorem Jv (a b:Entry) (w:World) :
  Calls An 255 #[H7 a (),H7 b ()] w fun e w'=>e = .returned (.bool (Dm a b))/\Below w w w':=by
 cases t1:decide (b.prio<a.prio)<;>cases t2:(a.prio == b.prio)<;>cases t3:decide (a.seq<b.seq);all_goals
  have H:=Bp (show (decide (b.prio<a.prio) || ((a.prio == b.prio) && decide (a.seq<b.seq)))=Dm a b from rfl);go_enter Tryz.func255,Tryz.ntmps255;go_wp2;go_ret;exact ⟨Bw (by rw [<-H.out,t1,t2,t3];rfl),by repeat (first | exact Bq _ _ | refine Ae ?_ Bn _)⟩
theorem U5 {l:List Entry} {k:Nat} (pM:1<=k) (aA:k<l.length) (h:∀ j (hj:j+1<l.length),j+1<k->Dm l[j] l[j+1]=true) (t:Dm l[k - 1] l[k]=true) :
  ∀ j (hj:j+1<l.length),j+1<k+1->Dm l[j] l[j+1]=true:=by
 intro j hj dN;by_cases e:j+1=k
 ·subst e;simpa using t
 ·exact h j hj Bk
theorem W0 {l:List Entry} {k:Nat} (pM:1<=k) (aA:k<l.length) (t:Dm l[k - 1] l[k]=false):¬ Hk l:=by
 rintro ⟨_,h⟩
 have:=h (k - 1) Bk
 have e:k - 1+1=k:=Bk;simp only [e] at this;rw [t] at this;cases this
theorem Td (l:List Entry) (s:Sl) (w:World) (hl:l.length<=2000000) (h:RdL Cg w w s.v l) :
  Calls An 116 #[Aa s.a s.n s.c] w fun e w'=>e = .returned (.bool (tf (Hk l)))/\Below w w w':=by
 obtain ⟨A,n,c⟩:=s;obtain rfl:n=l.length:=RdL.at1 (s:=⟨A,n,c⟩) h;go_enter Tryz.func116,Tryz.ntmps116;go_wp2;go_loopw [3] (fun i wr=>∃ k:Nat,1<=k/\(k<=l.length\/k=1)/\i = J U k/\Hid (∀ j (hj:j+1<l.length),j+1<k->Dm l[j] l[j+1]=true)/\Below w w wr) (fun i _=>l.length - (intOf i).toNat);case atStart=>exact ⟨1,Br _,.inr rfl,rfl,fun j hj h0=>absurd h0 Bk,Bq _ _⟩
 case round =>
  obtain ⟨k,pM,hk,rfl,aU,hb⟩:=hrel;have nH:(0:Int)<(k:Int):=Bk;by_cases aA:k<l.length
  ·have aB:(k:Int)<(l.length:Int):=Bk;obtain ⟨b,o,_,rfl,aG,_,c0,c1,c2,c3⟩:=(h.below hb).entry aA;obtain ⟨b',o',_,he,_,_,d0,d1,d2,d3⟩:=(h.below hb).entry (k:=k - 1) Bk;simp only [Option.some.injEq,Addr.mk.injEq,and_true] at he;obtain ⟨rfl,rfl⟩:=he;have hs:b<wr:=Ai aG hb.size;have aJ:=Cy wr;cases t2:Dm l[k - 1] l[k]
   ·have H:=Bp (Ck (W0 pM aA t2));go_wp2;refine Bv Bl Bl ?_;repeat (go_big_quiet_step ((go_at_call 181;rename_i x;have h1:=Ln l[k - 1] l[k] x.1;exact Ea h1)))
    refine Ak ?_;rintro _ ⟨⟨w1,aQ⟩,rfl⟩;clear aJ;go_wp2;go_ret;exact ⟨Bw H.out.symm,Bs hb aQ⟩
   ·have S:=Bp (U5 pM aA aU.out t2);go_wp2;refine Bv Bl Bl ?_;repeat (go_big_quiet_step ((go_at_call 181;rename_i x;have h1:=Ln l[k - 1] l[k] x.1;exact Ea h1)))
    refine Ak ?_;rintro _ ⟨⟨w1,aQ⟩,rfl⟩;clear aJ;go_wp2;exact ⟨⟨k+1,Bk,Bk,by go_num,S,Bs hb aQ⟩,by simp [intOf];omega⟩
  ·have aB:¬ (k:Int)<(l.length:Int):=Bk;by_cases h8:l.length<=80
   ·have H:=Bp (D6 (show Hk l from ⟨h8,fun j hj=>aU.out j hj Bk⟩));go_wp2;go_ret;exact ⟨Bw (by rw [H.out];exact decide_eq_true Bk),hb⟩
   ·have H:=Bp (Ck (show ¬ Hk l from fun h=>h8 h.1));have h8i:¬ (l.length:Int)<=80:=Bk;go_wp2;go_ret;exact ⟨Bw (by rw [H.out]),hb⟩
theorem Te (l:List Entry) (s:Sl) (w:World) (hl:l.length<=2000000) (h:RdL Cg w w s.v l) :
  Calls An 245 #[Aa s.a s.n s.c] w fun e w'=>e = .returned (.bool (tf (Hk l)))/\Below w w w':=by
 obtain ⟨A,n,c⟩:=s;obtain rfl:n=l.length:=RdL.at1 (s:=⟨A,n,c⟩) h;by_cases h8:80<l.length
 ·have H:=Bp (Ck (show ¬ Hk l from fun h=>by have:=h.1;omega));have h8i:(80:Int)<(l.length:Int):=Bk;go_enter Tryz.func245,Tryz.ntmps245;go_wp2;go_ret;exact ⟨Bw H.out.symm,Bq _ _⟩
 have h8i:¬ (80:Int)<(l.length:Int):=Bk;go_enter Tryz.func245,Tryz.ntmps245;go_wp2;go_loopw [3] (fun i wr=>∃ k:Nat,1<=k/\(k<=l.length\/k=1)/\i = J U k/\Hid (∀ j (hj:j+1<l.length),j+1<k->Dm l[j] l[j+1]=true)/\Below w w wr) (fun i _=>l.length - (intOf i).toNat);case atStart=>exact ⟨1,Br _,.inr rfl,rfl,fun j hj h0=>absurd h0 Bk,Bq _ _⟩
 case round =>
  obtain ⟨k,pM,hk,rfl,aU,hb⟩:=hrel;have nH:(0:Int)<(k:Int):=Bk;by_cases aA:k<l.length
  ·have aB:(k:Int)<(l.length:Int):=Bk;obtain ⟨b,o,_,rfl,aG,_,c0,c1,c2,c3⟩:=(h.below hb).entry aA;obtain ⟨b',o',_,he,_,_,d0,d1,d2,d3⟩:=(h.below hb).entry (k:=k - 1) Bk;simp only [Option.some.injEq,Addr.mk.injEq,and_true] at he;obtain ⟨rfl,rfl⟩:=he;have hs:b<wr:=Ai aG hb.size;have aJ:=Cy wr;cases t2:Dm l[k - 1] l[k]
   ·have H:=Bp (Ck (W0 pM aA t2));go_wp2;refine Bv Bl Bl ?_;repeat (go_big_quiet_step ((go_at_call 255;rename_i x;have h1:=Jv l[k - 1] l[k] x.1;exact Ea h1)))
    refine Ak ?_;rintro _ ⟨⟨w1,aQ⟩,rfl⟩;clear aJ;go_wp2;go_ret;exact ⟨Bw H.out.symm,Bs hb aQ⟩
   ·have S:=Bp (U5 pM aA aU.out t2);go_wp2;refine Bv Bl Bl ?_;repeat (go_big_quiet_step ((go_at_call 255;rename_i x;have h1:=Jv l[k - 1] l[k] x.1;exact Ea h1)))
    refine Ak ?_;rintro _ ⟨⟨w1,aQ⟩,rfl⟩;clear aJ;go_wp2;exact ⟨⟨k+1,Bk,Bk,by go_num,S,Bs hb aQ⟩,by simp [intOf];omega⟩
  ·have aB:¬ (k:Int)<(l.length:Int):=Bk;have H:=Bp (D6 (show Hk l from ⟨Bk,fun j hj=>aU.out j hj Bk⟩));go_wp2;go_ret;exact ⟨Bw H.out.symm,hb⟩
def Ev (l:List Task) (s:Int) (k:Nat):List Nat:=(List.range k).filter fun t=>(l.getD t ⟨0,0,0,0⟩).state == s
def Dk (l:List Task) (s:Int):List Nat:=Ev l s l.length
theorem Kx (l:List Task) (s:Int) (k:Nat) (hk:k<l.length):Ev l s (k+1)=Ev l s k ++ (if l[k].state=s then [k] else []):=by
 unfold Ev;rw [List.range_succ,List.filter_append];congr 1;have:l.getD k ⟨0,0,0,0⟩=l[k]:=by rw [List.getD_eq_getElem?_getD,List.getElem?_eq_getElem hk];rfl
 by_cases h:l[k].state=s
 ·simp [h,this,hk]
 ·simp [h,this,hk]
theorem Op (l:List Task) (s:Int):∀ (k:Nat),k<=l.length->(Ev l s k).length=Dd (l.take k) s
 | 0,_=>by simp [Ev,Dd]
 | k+1,hk=>by
  rw [Kx l s k Bk,A0,Op l s k Bk];by_cases h:l[k].state=s
  ·rw [U0 Bk h,if_pos h];rfl
  ·rw [Yb Bk h,if_neg h];rfl
theorem Zi (l:List Task) (s:Int):(Dk l s).length=Dd l s:=by
 unfold Dk;rw [Op l s _ (Br _),List.take_length]
theorem Mr (l:List Task) (s:Int) (k:Nat):(Ev l s k).length<=k:=by
 unfold Ev;exact Ah (List.length_filter_le _ _) Bm
theorem Tf (r:Run) (s:Sl×Sl) (st:Int) (w:World) (hl:r.tasks.length<=2000000) (h:Co.rd w w r s) :
  Calls An 84 #[Hc r s,.int .i64 st] w fun e w'=>∃ v,e = .returned v/\Ow Em 3 w' w v (Dk r.tasks st)/\Below w w w':=by
 obtain ⟨⟨A1,n1,c1⟩,⟨A2,n2,c2⟩⟩:=s;obtain rfl:n2=r.tasks.length:=RdL.at1 (s:=⟨A2,n2,c2⟩) h.2;have h2:RdL Eo w w (.slice A2 r.tasks.length c2) r.tasks:=h.2;obtain ⟨W,aH,X,B0⟩:=bx1 w 89 [.int .i64 r.id,.int .i64 r.plan.prio,.int .i64 r.plan.most,.int .i64 r.plan.wait,.int .i64 r.plan.tasks,.slice A1 n1 c1,.int .i64 r.state,.slice A2 r.tasks.length c2];obtain ⟨j0,bS,jz0,jz1,jz2⟩:=info_parts Kt;go_enter Tryz.func84,Tryz.ntmps84;go_wp2;rw [<-aH.out];clear aH;go_loopw [5,11] (fun vl i wr=>∃ k:Nat,k<=r.tasks.length/\i = .int .i64 k/\Ow Em 3 wr (w.heap.size+1) vl (Ev r.tasks st k)/\Below w w wr/\w.heap.size<wr.heap.size) (fun _ i _=>r.tasks.length - (intOf i).toNat);case atStart=>exact ⟨0,Ag _,rfl,by simpa [Ev] using Ow.nil Em 3 W (w.heap.size+1),B0,X.lt⟩
 case round =>
  clear X B0;obtain ⟨k,hk,rfl,ho,hb,bG⟩:=hrel;by_cases aA:k<r.tasks.length
  ·have aB:(k:Int)<(r.tasks.length:Int):=Bk;obtain ⟨b,o,_,rfl,aG,_,d0,d1,d2,d3⟩:=(h2.below hb).task aA;have hS:=Kx r.tasks st k aA;have Hl:=Bp (show (Ev r.tasks st k).length<=3000000 by have:=Mr r.tasks st k;omega);by_cases hx:r.tasks[k].state=st
   ·rw [if_pos hx] at hS;have S:=Bp hS;have t1:(r.tasks[k].state == st)=true:=beq_iff_eq.2 hx;clear hS hx;have ha:Hid (∀ w:World,Below w w ((w.alloc (.cells #[.int .i64 r.tasks[k].state,.int .i64 r.tasks[k].need,.int .i64 r.tasks[k].try_,.int .i64 r.tasks[k].until_] 138)).alloc (.cells #[.int .i64 (k:Int)] 3))):=fun w=>((Bq _ _).alloc (Br _) _).alloc Bm _;go_wp2_with (at_builtin;refine Bz _ Em Bo rfl (.tmp 20) (.tmp 22) rfl Tryz.underlying26 bS jz0 jz1 jz2 rfl (l:=Ev r.tasks st k) rfl (ho.below (ha.out wr)) rfl (Rd.one Em _ _ k Bm rfl 1 (Br _) (Nat.lt_succ_self _)) Hl.out Bm Bo (by simp;omega) ?_;intro v5 w5 o5 g5 _)
    have bE:=Bs hb (ha.out wr);have W5:=bE.grown g5 bE.size (fun g hg=>by have:=ho.within _ hg;omega);have rS:=g5.size;simp only [Bi] at rS;refine ⟨⟨k+1,Bk,by go_num,?_,W5,Bk⟩,by simp [intOf];omega⟩;rw [S.out];exact o5
   ·rw [if_neg hx,List.append_nil] at hS;have S:=Bp hS;have t1:(r.tasks[k].state == st)=false:=beq_eq_false_iff_ne.2 hx;clear hS hx;have ha:Hid (∀ w:World,Below w w (w.alloc (.cells #[.int .i64 r.tasks[k].state,.int .i64 r.tasks[k].need,.int .i64 r.tasks[k].try_,.int .i64 r.tasks[k].until_] 138))):=fun w=>(Bq _ _).alloc (Br _) _;go_wp2;refine ⟨⟨k+1,Bk,by go_num,?_,Bs hb (ha.out wr),by simp;omega⟩,by simp [intOf];omega⟩;rw [S.out];exact ho.below (ha.out wr)
  ·have aB:¬ (k:Int)<(r.tasks.length:Int):=Bk;have aZ:k=r.tasks.length:=Bk;subst aZ;go_wp2;go_ret;exact ⟨_,rfl,ho.more Bk,hb⟩
theorem Pj {es:List (Nat×Nat)} {T t x:Nat} (h:x∈Dl es T t):x<T:=by
 unfold Dl at h;exact List.mem_range.1 (List.mem_filter.1 h).1
theorem U6 (r:Run) (s:Sl×Sl) (t:Nat) (w:World) (hf:Cr r.plan=0) (hT:(r.tasks.length:Int)=r.plan.tasks) (h:Co.rd w w r s) :
  Calls An 230 #[Hc r s,J U (t:Int)] w fun e w'=>e = .returned (J U (Fu r t:Nat))/\Below w w w':=by
 obtain ⟨⟨A1,n1,c1⟩,⟨A2,n2,c2⟩⟩:=s;obtain rfl:n2=r.tasks.length:=RdL.at1 (s:=⟨A2,n2,c2⟩) h.2;have h2:RdL Eo w w (Aa A2 r.tasks.length c2) r.tasks:=h.2;have h1:Rd Gc w w (Aa A1 n1 c1) r.plan.edges:=Ju h.1;have hl:r.tasks.length<=12:=by have:=Ee (C8.1 hf).1;omega
 have HL:=Bp (show ∀ x∈Dl (Dq r.plan) r.plan.tasks.toNat t,x<r.tasks.length from fun x hx=>by have:=Pj hx;omega);have HN:=Bp (show (Dl (Dq r.plan) r.plan.tasks.toNat t).length<=12 by have:=Jz (Dq r.plan) r.plan.tasks.toNat t;omega);have HD:=Bp (show Fu r t=Fi r (Dl (Dq r.plan) r.plan.tasks.toNat t) from rfl);clear hT;obtain ⟨W,aH,X,B0⟩:=bx1 w 89 [J U r.id,J U r.plan.prio,J U r.plan.most,J U r.plan.wait,J U r.plan.tasks,Aa A1 n1 c1,J U r.state,Aa A2 r.tasks.length c2];go_enter Tryz.func230,Tryz.ntmps230;go_wp2_with fail
 rw [<-aH.out];clear aH;refine (Uu r.plan (Aa A1 n1 c1) t _ hf ((h1.below B0).more B0.size)).mono ?_;rintro e w1 ⟨v,rfl,o1,b1⟩;generalize Dl (Dq r.plan) r.plan.tasks.toNat t=L at *
 obtain ⟨A3,c3,rfl,-⟩:=id (Rd.of_own o1);replace B0:=Bs B0 b1;replace X:=X.below b1;have X_:=X.g8;have eD:=HN.out;go_wp2;go_loop [5,13] (fun n i=>∃ k:Nat,k<=L.length/\i = J U k/\n = J U (Fi r (L.take k):Nat)) (fun _ i=>L.length - (intOf i).toNat);case atStart=>exact ⟨0,Ag _,rfl,rfl⟩
 case round =>
  obtain ⟨k,hk,rfl,rfl⟩:=hrel;have ol:=Rf r (L.take k);rw [Az] at ol;by_cases aA:k<L.length
  ·have aB:(k:Int)<(L.length:Int):=Bk;have hx:=HL.out _ (Aw aA);obtain ⟨b3,o3,rfl,bY,e0⟩:=(Rd.of_own o1).nat aA;obtain ⟨b,o,_,rfl,aG,_,d0,d1,d2,d3⟩:=(h2.below B0).task hx;have hxI:(L[k]:Int)<(r.tasks.length:Int):=Bk;have ht:=Bp (Cn hx);by_cases h4:r.tasks[L[k]].state=4
   ·have S:=Bp (Wv (r:=r) aA (by rw [ht.out];exact h4));have t4:(r.tasks[L[k]].state != 4)=false:=by simp [h4]
    clear h4;go_wp2;exact ⟨⟨k+1,Bk,by go_num,by rw [S.out]⟩,by simp [intOf];omega⟩
   ·have S:=Bp (Uz (r:=r) aA (by rw [ht.out];exact h4));have t4:(r.tasks[L[k]].state != 4)=true:=by simp [h4]
    clear h4;go_wp2;exact ⟨⟨k+1,Bk,by go_num,by rw [S.out];go_num⟩,by simp [intOf];omega⟩
  ·have aB:¬ (k:Int)<(L.length:Int):=Bk;have aZ:k=L.length:=Bk;subst aZ;go_wp2;go_ret;exact ⟨Dg (by rw [HD.out]),B0⟩
def Cu:Enc Entry:={ cells:=fun x=>[J U x.prio,J U x.seq,J U x.run,J U x.task],sz:=4,len:=fun _=>rfl,one:=fun _ u hu=>by simp at hu;rcases hu with rfl | rfl | rfl | rfl<;>rfl }
theorem Iv {w:World} {B:Nat} {v:Value} {l:List Entry} (h:RdL Cg w B v l):Rd Cu w B v l:=by
 obtain ⟨rs,rfl,⟨A,c,rfl,bT,hA⟩,_⟩:=h;refine ⟨A,c,by rw [Au],by rw [Au];exact bT,fun hl=>?_⟩;rw [Au] at hl;obtain ⟨b,o,hb,aA,hc⟩:=hA hl;refine ⟨b,o,hb,aA,fun k hk j u hu=>?_⟩;rw [Au] at hk;rw [List.getElem_map] at hu;exact hc k hk j u hu
theorem Ki {w:World} {B:Nat} {v:Value} {l:List Entry} (h:Rd Cu w B v l):RdL Cg w B v l:=by
 obtain ⟨A,c,rfl,bT,hA⟩:=h;refine ⟨l.map fun x=>(x,()),by rw [List.map_map];exact List.map_id' l,⟨A,c,by rw [Au],by rw [Au];exact bT,fun hl=>?_⟩,fun _ _=>trivial⟩;rw [Au] at hl;obtain ⟨b,o,hb,aA,hc⟩:=hA hl;refine ⟨b,o,hb,aA,fun k hk j u hu=>?_⟩;rw [Au] at hk;rw [List.getElem_map] at hu;exact hc k hk j u hu
theorem Fw:(An.info? 93).map (fun i=>(i.zero,i.size,i.bytes))=Ac (Ac (.agg #[J U 0,J U 0,J U 0,J U 0]),4,32):=Bl
theorem Ky {α:Type} (l:List (List α)) (k:Nat) (hk:k<l.length):(l.take (k+1)).flatten=(l.take k).flatten ++ l[k]:=by
 rw [Dc l k hk,List.flatten_append];simp
theorem Hn (l:List (List Entry)) (k:Nat):(l.take k).flatten.length<=Jx De l:=by
 induction l generalizing k with
 | nil=>simp
 | cons x l ih =>
  cases k with
  | zero=>simp
  | succ k =>
   have:=ih k
   rw [List.take_succ_cons,List.flatten_cons,A0];unfold Jx at *
   have hx:x.length<=De x:=Ct I6 x;simp only [List.length_cons,List.map_cons,List.sum_cons];omega
theorem M4 (y:Yard) (s:Sl×Sl) (w:World) (hl:Ci y<=2000000) (h:Bu.rd w w y s) :
  Calls An 117 #[Du y s] w fun e w'=>∃ v,e = .returned v/\Ow Cu 93 w' w v (Ce y)/\Below w w w':=by
 obtain ⟨⟨A1,n1,c1⟩,⟨A2,n2,c2⟩⟩:=s;obtain rfl:n1=y.shelf.length:=RdL.at1 (s:=⟨A1,n1,c1⟩) h.1;have h1:RdL (Dt.list Cg) w w (.slice A1 y.shelf.length c1) y.shelf:=h.1;have eD:y.shelf.length<=2000000:=Ah (Ct De _) (by unfold Ci at hl;omega);have HL:=Bp (show ∀ k,(y.shelf.take k).flatten.length<=2000000 from fun k=>Ah (Hn y.shelf k) (by unfold Ci at hl;omega));have HE:=Bp (show ∀ k (hk:k<y.shelf.length),y.shelf[k].length<=2000000 from fun k hk=>by
  have:=Fk (cnt:=De) (Aw hk)
  have h2:y.shelf[k].length<=De y.shelf[k]:=Ct I6 _;unfold Ci at hl;omega)
 clear hl h;have X:=DBox.new 31 [.int .i64 y.now,.int .i64 y.seq,.slice A1 y.shelf.length c1,.slice A2 n2 c2] w (b:=w.heap.size) rfl;have B0:Below w w (w.alloc (.cells #[.int .i64 y.now,.int .i64 y.seq,.slice A1 y.shelf.length c1,.slice A2 n2 c2] 31)):=by repeat (first | exact Bq _ _ | refine Ae ?_ Bn _)
 obtain ⟨j0,bS,jz0,jz1,jz2⟩:=info_parts Fw;go_enter Tryz.func117,Tryz.ntmps117;go_wp2;generalize (w.alloc (.cells #[.int .i64 y.now,.int .i64 y.seq,.slice A1 y.shelf.length c1,.slice A2 n2 c2] 31))=W at *
 go_loopw [3,9] (fun vl i wr=>∃ k:Nat,k<=y.shelf.length/\i = .int .i64 k/\Ow Cu 93 wr (w.heap.size+1) vl (y.shelf.take k).flatten/\Below w w wr/\w.heap.size<wr.heap.size) (fun _ i _=>y.shelf.length - (intOf i).toNat);case atStart=>exact ⟨0,Ag _,rfl,by simpa using Ow.nil Cu 93 W (w.heap.size+1),B0,X.lt⟩
 case round =>
  clear X B0;obtain ⟨k,hk,rfl,ho,hb,bG⟩:=hrel;by_cases aA:k<y.shelf.length
  ·have aB:(k:Int)<(y.shelf.length:Int):=Bk;obtain ⟨b,o,⟨As,ns,cs⟩,rfl,aG,hr,d0⟩:=(h1.below hb).entryS aA;obtain rfl:ns=y.shelf[k].length:=RdL.at1 (s:=⟨As,ns,cs⟩) hr;have cE:=(Iv hr).more hb.size;have S:=Bp (Ky y.shelf k aA);have HLk:=Bp (HL.out k);have HEk:=Bp (HE.out k aA);go_wp2_with (at_builtin;refine Bz _ Cu Bo rfl (.tmp 13) (.tmp 14) rfl Tryz.underlying96 bS jz0 jz1 jz2 rfl (l:=(y.shelf.take k).flatten) rfl ho rfl cE (Ah HLk.out Bk) (Ah HEk.out Bk) Bo Bk ?_;intro v5 w5 o5 g5 _)
   have W5:=hb.grown g5 hb.size (fun g hg=>by have:=ho.within _ hg;omega);have rS:=g5.size;refine ⟨⟨v5,_,.int .i64 ((k:Int)+1),⟨k+1,Bk,by go_num,?_,W5,Bk⟩,rfl,rfl,rfl⟩,by simp [intOf];omega⟩;rw [S.out];exact o5
  ·have aB:¬ (k:Int)<(y.shelf.length:Int):=Bk;have aZ:k=y.shelf.length:=Bk;subst aZ;rw [List.take_length] at ho;go_wp2;go_ret;exact ⟨_,rfl,ho.more Bk,hb⟩
theorem M5 (y:Yard) (s:Sl×Sl) (w:World) (hl:Ci y<=2000000) (h:Bu.rd w w y s) :
  Calls An 86 #[Du y s] w fun e w'=>∃ v,e = .returned v/\Ow Cu 93 w' w v (Ce y)/\Below w w w':=by
 obtain ⟨⟨A1,n1,c1⟩,⟨A2,n2,c2⟩⟩:=s;obtain rfl:n1=y.shelf.length:=RdL.at1 (s:=⟨A1,n1,c1⟩) h.1;have h1:RdL (Dt.list Cg) w w (.slice A1 y.shelf.length c1) y.shelf:=h.1;have eD:y.shelf.length<=2000000:=Ah (Ct De _) (by unfold Ci at hl;omega);have HL:=Bp (show ∀ k,(y.shelf.take k).flatten.length<=2000000 from fun k=>Ah (Hn y.shelf k) (by unfold Ci at hl;omega));have HE:=Bp (show ∀ k (hk:k<y.shelf.length),y.shelf[k].length<=2000000 from fun k hk=>by
  have:=Fk (cnt:=De) (Aw hk)
  have h2:y.shelf[k].length<=De y.shelf[k]:=Ct I6 _;unfold Ci at hl;omega)
 clear hl h;have X:=(DBox.new 31 [.int .i64 y.now,.int .i64 y.seq,.slice A1 y.shelf.length c1,.slice A2 n2 c2] w (b:=w.heap.size) rfl).below ((Bq _ _).alloc (Br _) (.cells #[] 93));have E:=DBox.new 93 [] (w.alloc (.cells #[.int .i64 y.now,.int .i64 y.seq,.slice A1 y.shelf.length c1,.slice A2 n2 c2] 31)) (b:=w.heap.size+1) Bm;have B0:Below w w ((w.alloc (.cells #[.int .i64 y.now,.int .i64 y.seq,.slice A1 y.shelf.length c1,.slice A2 n2 c2] 31)).alloc (.cells #[] 93)):=by repeat (first | exact Bq _ _ | refine Ae ?_ Bn _)
 have O0:=Ow.empty Cu 93 (w.alloc (.cells #[.int .i64 y.now,.int .i64 y.seq,.slice A1 y.shelf.length c1,.slice A2 n2 c2] 31)) (g:=w.heap.size+1) Bm;obtain ⟨j0,bS,jz0,jz1,jz2⟩:=info_parts Fw;clear E;go_enter Tryz.func86,Tryz.ntmps86;go_wp2;generalize ((w.alloc (.cells #[.int .i64 y.now,.int .i64 y.seq,.slice A1 y.shelf.length c1,.slice A2 n2 c2] 31)).alloc (.cells #[] 93))=W at *
 go_loopw [3,4] (fun vl i wr=>∃ k:Nat,k<=y.shelf.length/\i = .int .i64 k/\Ow Cu 93 wr (w.heap.size+1) vl (y.shelf.take k).flatten/\DBox w [.int .i64 y.now,.int .i64 y.seq,.slice A1 y.shelf.length c1,.slice A2 n2 c2] wr/\Below w w wr) (fun _ i _=>y.shelf.length - (intOf i).toNat);case atStart=>exact ⟨0,Ag _,rfl,by simpa using O0,X,B0⟩
 case round =>
  clear X B0 O0;obtain ⟨k,hk,rfl,ho,X,hb⟩:=hrel;obtain ⟨X_0,X_1,X_2,X_3,X_l⟩:=X.g4;by_cases aA:k<y.shelf.length
  ·have aB:(k:Int)<(y.shelf.length:Int):=Bk;obtain ⟨b,o,⟨As,ns,cs⟩,rfl,aG,hr,d0⟩:=(h1.below hb).entryS aA;obtain rfl:ns=y.shelf[k].length:=RdL.at1 (s:=⟨As,ns,cs⟩) hr;have cE:=(Iv hr).more hb.size;have S:=Bp (Ky y.shelf k aA);have HLk:=Bp (HL.out k);have HEk:=Bp (HE.out k aA);go_wp2_with (at_builtin;refine Bz _ Cu Bo rfl (.tmp 13) (.tmp 18) rfl Tryz.underlying96 bS jz0 jz1 jz2 rfl (l:=(y.shelf.take k).flatten) rfl ho rfl cE (Ah HLk.out Bk) (Ah HEk.out Bk) Bo Bk ?_;intro v5 w5 o5 g5 _)
   have W5:=hb.grown g5 hb.size (fun g hg=>by have:=ho.within _ hg;omega);have X5:=X.off g5 (fun e=>by have:=ho.within _ e.symm;omega);refine ⟨⟨k+1,Bk,by go_num,?_,X5,W5⟩,by simp [intOf];omega⟩;rw [S.out];exact o5
  ·have aB:¬ (k:Int)<(y.shelf.length:Int):=Bk;have aZ:k=y.shelf.length:=Bk;subst aZ;rw [List.take_length] at ho;go_wp2;go_ret;exact ⟨_,rfl,ho.more Bk,hb⟩
def N5 (x:Task) (most:Int):Bool :=
 (if x.state=3 then inB x.until_ 1 1000000000 else (x.until_ == 0)) && (if x.state=1 then decide (0<x.need) else if x.state=2 then (x.need == 0) && decide (x.try_<most) else if x.state=6 then true else (x.need == 0) && decide (1<=x.try_))
theorem W6 {x:Task} {N:Nat} {most:Int} (h1:1<=x.state/\x.state<=6) (h2:x.need=N) (h3:0<=x.try_/\x.try_<=most):tf (Lh x N most)=N5 x most:=by
 rw [Bool.eq_iff_iff,Kw];obtain ⟨st,nd,tr,un⟩:=x;unfold Lh N5;simp only at *
 rcases (show st=1\/st=2\/st=3\/st=4\/st=5\/st=6 by omega) with rfl | rfl | rfl | rfl | rfl | rfl<;>simp [inB]<;>omega
theorem Afr {a b:Int} (h:(a != b)=true):¬ a=b:=by simpa using h
theorem Afs {a b:Int} (h:(a != b)=false):a=b:=by simpa using h
theorem Aft {a b:Int} (h:(a == b)=true):a=b:=by simpa using h
theorem Afu {a b:Int} (h:(a == b)=false):¬ a=b:=by simpa using h
theorem U7 (r:Run) (s:Sl×Sl) (t:Nat) (w:World) (hf:Cr r.plan=0) (hT:(r.tasks.length:Int)=r.plan.tasks) (ht:t<r.tasks.length) (h:Co.rd w w r s) :
  Calls An 183 #[Hc r s,J U (t:Int)] w fun e w'=>e = .returned (.bool (tf (Gl r t)))/\Below w w w':=by
 have HC:=Bp (show ∀ W,Below w w W->Calls An 230 #[Hc r s,J U (t:Int)] W fun e w'=>e = .returned (J U (Fu r t:Nat))/\Below W W w' from
  fun W hW=>U6 r s t W hf hT (Co.rd_more (Co.rd_below h hW) hW.size))
 obtain ⟨⟨A1,n1,c1⟩,⟨A2,n2,c2⟩⟩:=s;obtain rfl:n2=r.tasks.length:=RdL.at1 (s:=⟨A2,n2,c2⟩) h.2;have h2:RdL Eo w w (Aa A2 r.tasks.length c2) r.tasks:=h.2;have hl:r.tasks.length<=12:=by have:=Ee (C8.1 hf).1;omega
 have HQ:=Bp (show tf (Gl r t)=tf (Lh r.tasks[t] (Fu r t) r.plan.most) by unfold Gl;rw [Cn ht]);have jU:(t:Int)<(r.tasks.length:Int):=Bk;clear hT hf h;obtain ⟨b,o,_,hA,aG,_,d0,d1,d2,d3⟩:=h2.task ht;subst hA;generalize Fu r t=N at *
 generalize r.tasks[t]=x at *
 obtain ⟨W,aH,X,T,B0⟩:=bx2 w 89 [J U r.id,J U r.plan.prio,J U r.plan.most,J U r.plan.wait,J U r.plan.tasks,Aa A1 n1 c1,J U r.state,Aa (Ac ⟨b,o,Ab⟩) r.tasks.length c2] 138 [J U x.state,J U x.need,J U x.try_,J U x.until_];go_enter Tryz.func183,Tryz.ntmps183;go_wp2;rw [<-aH.out];clear aH;clear d0 d1 d2 d3;have X_:=X.g8;have T_:=T.g4;have aJ:=Cy W;have HC2:=Bp (show ∀ u:Ix W,Calls An 230 #[Hc r (⟨A1,n1,c1⟩,⟨Ac ⟨b,o,Ab⟩,r.tasks.length,c2⟩),J U (t:Int)] u.1 fun e w'=>e = .returned (J U (N:Nat))/\Below u.1 u.1 w' from fun u=>HC.out u.1 (Bs B0 u.2));clear HC;cases a1:inB x.state 1 6;case false =>
  have H:=Bp (show tf (Gl r t)=false by rw [HQ.out];exact Ck (fun h=>by have:=Cp.2 h.1;rw [a1] at this;cases this));refine Bv Bl Bl ?_;repeat (go_big_quiet_step ((go_at_call 58;exact Ed (fun u=>Cs _ _ _ u.1))))
  refine Ak ?_;rintro _ ⟨⟨w1,b1⟩,rfl⟩;go_wp2;go_ret;exact ⟨Bw H.out.symm,Bs B0 b1⟩
 cases a2:(x.need == (N:Int))
 case false =>
  have a2':(x.need != (N:Int))=true:=by simp [bne,a2]
  have H:=Bp (show tf (Gl r t)=false by rw [HQ.out];exact Ck (fun h=>by have:=beq_iff_eq.2 h.2.1;rw [a2] at this;cases this));refine Bv Bl Bl ?_;repeat (go_big_quiet_step ((first
   | (go_at_call 58;exact Ed (fun u=>Cs _ _ _ u.1))
   | (go_at_call 230;(with_reducible exact Hv HC2.out)))))
  refine Ak ?_;rintro _ ⟨⟨w1,b1⟩,rfl⟩;go_wp2;go_ret;exact ⟨Bw H.out.symm,Bs B0 b1⟩
 have a2':(x.need != (N:Int))=false:=by simp [bne,a2]
 cases a3:inB x.try_ 0 r.plan.most;case false =>
  have H:=Bp (show tf (Gl r t)=false by rw [HQ.out];exact Ck (fun h=>by have:=Cp.2 h.2.2.1;rw [a3] at this;cases this));refine Bv Bl Bl ?_;repeat (go_big_quiet_step ((first
   | (go_at_call 58;exact Ed (fun u=>Cs _ _ _ u.1))
   | (go_at_call 230;(with_reducible exact Hv HC2.out)))))
  refine Ak ?_;rintro _ ⟨⟨w1,b1⟩,rfl⟩;go_wp2;go_ret;exact ⟨Bw H.out.symm,Bs B0 b1⟩
 have H:=Bp (show tf (Gl r t)=N5 x r.plan.most by rw [HQ.out];exact W6 (Cp.1 a1) (beq_iff_eq.1 a2) (Cp.1 a3));have a1':=Cp.1 a1;refine Bv Bl Bl ?_;repeat (go_big_quiet_step ((first
  | (go_at_call 58;exact Ed (fun u=>Cs _ _ _ u.1))
  | (go_at_call 230;(with_reducible exact Hv HC2.out)))))
 refine Ak ?_;rintro _ ⟨⟨w1,b1⟩,rfl⟩;clear a1 a2 a2' a3 aJ HC2;replace X:=X.below b1;clear X_;have X_:=X.g8;replace T:=T.below b1;clear T_;have T_:=T.g4;replace B0:=Bs B0 b1;obtain ⟨st,nd,tr,un⟩:=x;simp only at *
 have S:=(show st=1\/st=2\/st=3\/st=4\/st=5\/st=6 by omega)
 clear a1';rcases S with rfl | rfl | rfl | rfl | rfl | rfl
 all_goals
  go_wp2_with (go_at_call 58;refine (Cs _ _ _ _).mono ?_;rintro e w' ⟨rfl,rfl⟩)
  all_goals
   go_ret;exact ⟨Bw (by
    rw [H.out];unfold N5;try have e1:=Afr ‹(un != 0)=true›
    try have e1:=Afs ‹(un != 0)=false›
    try have e3:=Aft ‹(nd == 0)=true›
    try have e3:=Afu ‹(nd == 0)=false›
    simp [*]),B0⟩
def Jb:Yard:=⟨0,1,[[],[],[],[]],[]⟩
theorem Tg (w:World):Calls An 78 #[] w (Fc Bu Du Jb w):=by
 obtain ⟨i0,aL,aR,aS,aP⟩:=info_parts Mn;have D0:=DBox.new 31 [.int .i64 0,.int .i64 0,.slice Ab 0 0,.slice Ab 0 0] w rfl;have D1:=D0.below ((Bq _ _).alloc (Br _) (.cells #[.int .i64 0,.int .i64 1,.slice Ab 0 0,.slice Ab 0 0] 31));have E1:=DBox.new 31 [.int .i64 0,.int .i64 1,.slice Ab 0 0,.slice Ab 0 0] (w.alloc (.cells #[.int .i64 0,.int .i64 0,.slice Ab 0 0,.slice Ab 0 0] 31)) (b:=w.heap.size+1) Bm;have B0:Below w w ((w.alloc (.cells #[.int .i64 0,.int .i64 0,.slice Ab 0 0,.slice Ab 0 0] 31)).alloc (.cells #[.int .i64 0,.int .i64 1,.slice Ab 0 0,.slice Ab 0 0] 31)):=by repeat (first | exact Bq _ _ | refine Ae ?_ Bn _)
 have S0:w.heap.size+2<=((w.alloc (.cells #[.int .i64 0,.int .i64 0,.slice Ab 0 0,.slice Ab 0 0] 31)).alloc (.cells #[.int .i64 0,.int .i64 1,.slice Ab 0 0,.slice Ab 0 0] 31)).heap.size:=Bm;clear D0;go_enter Tryz.func78,Tryz.ntmps78;go_wp2;generalize ((w.alloc (.cells #[.int .i64 0,.int .i64 0,.slice Ab 0 0,.slice Ab 0 0] 31)).alloc (.cells #[.int .i64 0,.int .i64 1,.slice Ab 0 0,.slice Ab 0 0] 31))=W at *
 go_loopw [2] (fun i wr=>∃ (k:Nat) (v:Value),k<=4/\i = .int .i64 k/\Hid (Bls (Dt.list Cg) 96 wr (w.heap.size+2) v (List.replicate k []))/\DBox w [.int .i64 0,.int .i64 0,.slice Ab 0 0,.slice Ab 0 0] wr/\DBox (w.heap.size+1) [.int .i64 0,.int .i64 1,v,.slice Ab 0 0] wr/\Below w w wr/\w.heap.size+2<=wr.heap.size) (fun i _=>4 - (intOf i).toNat);case atStart=>exact ⟨0,_,Ag _,rfl,⟨[],rfl,Bld.nil _ _ _ _⟩,D1,E1,B0,S0⟩
 case round =>
  clear D1 E1 B0 S0;obtain ⟨k,v,hk,rfl,fQ,D,E,hb,bG⟩:=hrel;have e0:wr.cell? ⟨w.heap.size+1,0,Ab⟩=Ac (.int .i64 0):=E.cell 0 _ rfl;have e1:wr.cell? ⟨w.heap.size+1,1,Ab⟩=Ac (.int .i64 1):=E.cell 1 _ rfl;have e2:wr.cell? ⟨w.heap.size+1,2,Ab⟩=Ac v:=E.cell 2 _ rfl;have e3:wr.cell? ⟨w.heap.size+1,3,Ab⟩=Ac (.slice Ab 0 0):=E.cell 3 _ rfl;have ef:=E.free;have el:=E.lt;by_cases aA:k<4
  ·obtain ⟨rs,hm,hB⟩:=fQ.out;have cA:rs.length=k:=by have:=congrArg List.length hm;simpa using this
   have hO:=hB.ow;have aC:v.ownBlock≠Ac (w.heap.size+1):=fun e=>by have:=hO.within _ e;omega
   have gE:v.ownBlock≠Ac w.heap.size:=fun e=>by have:=hO.within _ e;omega
   have B1:=(Bq wr wr).alloc (Br _) (.cells #[] 93);go_wp2_with (at_builtin;refine Bz _ (Dt.list Cg).enc Bo rfl (.tmp 9) (.tmp 11) rfl Tryz.underlying28 aL aR aS aP rfl (v:=v) (l:=rs) rfl (hO.below (B1.alloc Bm _)) rfl (Rd.one (Dt.list Cg).enc _ _ (([]:List Entry),(⟨Ac ⟨wr,0,Ab⟩,0,0⟩:Sl)) Bm rfl 1 (Br _) (Nat.lt_succ_self _)) Bk Bm Bo (by simp;omega) ?_;intro v5 w5 o5 g5 f5;obtain ⟨A5,c5,rfl,-⟩:=id (Rd.of_own o5);have E5:=((E.below B1).below ((Bq _ _).alloc (Br _) _)).off g5 (fun e=>aC e.symm);have D5:=((D.below B1).below ((Bq _ _).alloc (Br _) _)).off g5 (fun e=>gE e.symm);have m2:w5.cell? ⟨w.heap.size+1,2,Ab⟩=Ac v:=E5.cell 2 _ rfl;have mf:=E5.free;have ml:=E5.lt)
   have hP:=Bld.push1 (d:=Dt.list Cg) (x:=[]) (s:=⟨Ac ⟨wr,0,Ab⟩,0,0⟩) hB B1 (OwL.nil Cg _ _ _) (fun b bE=>by cases bE) bG ((Bq _ _).alloc (Br _) _) o5 g5 f5;have aK:(rs ++ [(([]:List Entry),(⟨Ac ⟨wr,0,Ab⟩,0,0⟩:Sl))]).length=k+1:=by simp [cA]
   rw [aK] at hP;have g5s:=g5.size;simp only [Bi] at g5s;refine ⟨⟨k+1,_,Bk,by go_num,⟨rs ++ [([],⟨Ac ⟨wr,0,Ab⟩,0,0⟩)],by rw [List.map_append,hm,List.replicate_succ'];rfl,hP.setOther (a:=⟨w.heap.size+1,2,Ab⟩) (by show w.heap.size+1<_;omega) _⟩,D5.setOther (a:=⟨w.heap.size+1,2,Ab⟩) (by show w.heap.size≠w.heap.size+1;omega) _,E5.set 2 Bm _,?_,by simp [World.setCell];omega⟩,by simp [intOf];omega⟩;exact Ad ((((hb.trans (B1.mono hb.size)).alloc (by simp;omega) _).grown g5 (by simp;omega) (fun g hg=>by have:=hO.within g hg;omega))) (by first | (simp;done) | (simp;omega)) _
  ·have rI:k=4:=Bk;subst rI;have d0:wr.cell? ⟨w,0,Ab⟩=Ac (.int .i64 0):=D.cell 0 _ rfl;have d1:wr.cell? ⟨w,1,Ab⟩=Ac (.int .i64 0):=D.cell 1 _ rfl;have d2:wr.cell? ⟨w,2,Ab⟩=Ac (.slice Ab 0 0):=D.cell 2 _ rfl;have d3:wr.cell? ⟨w,3,Ab⟩=Ac (.slice Ab 0 0):=D.cell 3 _ rfl;have df:=D.free;have dl:=D.lt;obtain ⟨rs,hm,hB⟩:=fQ.out;obtain ⟨F,h1,h2⟩:=hB.owl hm;obtain ⟨A9,c9,rfl,-⟩:=h1.form;simp only [List.length_replicate] at e2 h1;go_wp2;refine Aj (v:=Du Jb (⟨A9,4,c9⟩,⟨Ab,0,0⟩)) ?_ rfl ?_
   ·simp [Du,Jb,results,Tryz.results78,go_sem,d0,d1,d2,d3]
   ·refine ⟨(⟨A9,4,c9⟩,⟨Ab,0,0⟩),F,rfl,⟨F,[],(List.append_nil F).symm,h1.nodup,?_,OwL.nil _ _ _ _⟩,fun b hb=>by have:=h2 b hb;omega,?_⟩
    ·have hn:w.heap.size∉F:=fun hm=>by have:=h2 _ hm;omega
     have h1:OwL (Dt.list Cg) wr F (.slice A9 4 c9) [[],[],[],[]]:=h1;show OwL (Dt.list Cg) _ F (.slice A9 4 c9) [[],[],[],[]];repeat (first | (with_reducible exact h1) | refine OwL.set ?_ hn _)
    ·repeat (first | (with_reducible exact hb) | refine Ad ?_ Bn _)
theorem Zj {y:Yard} {e:Entry} (h:Dh y e.run = -1):Dx y e=false:=Ck (fun hh=>by have:=hh.1;omega)
theorem W7 {y:Yard} {e:Entry} {k:Nat} (hk:k<y.runs.length) (h:Dh y e.run=k) (hq:inB e.task 0 ((y.runs[k].tasks.length:Int) - 1)=false):Dx y e=false :=
 Ck (fun hh=>by
  have h2:=hh.2.1;rw [Gq hk h] at h2
  have:=Cp.2 (show 0<=e.task/\e.task<=(y.runs[k].tasks.length:Int) - 1 by omega)
  rw [hq] at this;cases this)
theorem Zl {y:Yard} {e:Entry} {k t:Nat} (hk:k<y.runs.length) (h:Dh y e.run=k) (ht:t<y.runs[k].tasks.length) (he:e.task=t):Dx y e=(y.runs[k].tasks[t].state == 2):=by
 unfold Dx;rw [Bool.eq_iff_iff,Kw,beq_iff_eq];unfold Pi;rw [Gq hk h,he,Ap,Cn ht];constructor
 ·intro hh;exact hh.2.2
 ·intro hh;exact ⟨Bk,Bk,hh⟩
theorem Gu {y:Yard} {k:Nat} (hl:Ci y<=2000000) (hk:k<y.runs.length):y.runs[k].tasks.length<=2000000:=by
 have h1:=Fk (cnt:=C9) (Aw hk);have h2:y.runs[k].tasks.length<=Jx G8 y.runs[k].tasks:=Ct _ _;unfold Ci at hl;unfold C9 at h1;unfold C9 at hl;omega
theorem Oq (y:Yard) (s:Sl×Sl) (e:Entry) (w:World) (hl:Ci y<=2000000) (h:Bu.rd w w y s) :
  Calls An 135 #[Du y s,H7 e ()] w fun e' w'=>e' = .returned (.bool (Dx y e))/\Below w w w':=by
 have HR:=Bp (show ∀ W,Below w w W->Bu.rd W W y s from fun W hW=>Bu.rd_more (Bu.rd_below h hW) hW.size);obtain ⟨⟨A1,n1,c1⟩,⟨A2,n2,c2⟩⟩:=s;obtain rfl:n2=y.runs.length:=RdL.at1 (s:=⟨A2,n2,c2⟩) h.2;have h2:RdL Co w w (Aa A2 y.runs.length c2) y.runs:=h.2;have eD:y.runs.length<=2000000:=Ah (Ct C9 _) (by unfold Ci at hl;omega);obtain ⟨pr,sq,rn,tk⟩:=e;have X:=(DBox.new 31 [J U y.now,J U y.seq,Aa A1 n1 c1,Aa A2 y.runs.length c2] w (b:=w.heap.size) rfl).below ((Bq _ _).alloc (Br _) (.cells #[J U (⟨pr,sq,rn,tk⟩:Entry).prio,J U (⟨pr,sq,rn,tk⟩:Entry).seq,J U (⟨pr,sq,rn,tk⟩:Entry).run,J U (⟨pr,sq,rn,tk⟩:Entry).task] 93));have E:=DBox.new 93 [J U (⟨pr,sq,rn,tk⟩:Entry).prio,J U (⟨pr,sq,rn,tk⟩:Entry).seq,J U (⟨pr,sq,rn,tk⟩:Entry).run,J U (⟨pr,sq,rn,tk⟩:Entry).task] (w.alloc (.cells #[J U y.now,J U y.seq,Aa A1 n1 c1,Aa A2 y.runs.length c2] 31)) (b:=w.heap.size+1) Bm;have B0:Below w w ((w.alloc (.cells #[J U y.now,J U y.seq,Aa A1 n1 c1,Aa A2 y.runs.length c2] 31)).alloc (.cells #[J U (⟨pr,sq,rn,tk⟩:Entry).prio,J U (⟨pr,sq,rn,tk⟩:Entry).seq,J U (⟨pr,sq,rn,tk⟩:Entry).run,J U (⟨pr,sq,rn,tk⟩:Entry).task] 93)):=by repeat (first | exact Bq _ _ | refine Ae ?_ Bn _)
 have C:=Jt y (⟨A1,n1,c1⟩,⟨A2,y.runs.length,c2⟩) rn ((w.alloc (.cells #[J U y.now,J U y.seq,Aa A1 n1 c1,Aa A2 y.runs.length c2] 31)).alloc (.cells #[J U (⟨pr,sq,rn,tk⟩:Entry).prio,J U (⟨pr,sq,rn,tk⟩:Entry).seq,J U (⟨pr,sq,rn,tk⟩:Entry).run,J U (⟨pr,sq,rn,tk⟩:Entry).task] 93)) hl (HR.out _ B0);clear h;rcases Eu y rn with hr | ⟨k,hk,hr⟩
 ·have H:=Bp (Zj (e:=⟨pr,sq,rn,tk⟩) hr);rw [hr] at C;clear hr;go_enter Tryz.func135,Tryz.ntmps135;go_wp2_with fail
  generalize ((w.alloc (.cells #[J U y.now,J U y.seq,Aa A1 n1 c1,Aa A2 y.runs.length c2] 31)).alloc (.cells #[J U (⟨pr,sq,rn,tk⟩:Entry).prio,J U (⟨pr,sq,rn,tk⟩:Entry).seq,J U (⟨pr,sq,rn,tk⟩:Entry).run,J U (⟨pr,sq,rn,tk⟩:Entry).task] 93))=W at *
  refine C.mono ?_;rintro e1 w1 ⟨rfl,b1⟩;replace X:=X.below b1;replace E:=E.below b1;have X_:=X.g4;have E_:=E.g4;have aJ:=Cy w1;go_wp2;refine Bv Bl Bl ?_;repeat (go_big_quiet_step (fail))
  refine Ak ?_;rintro _ ⟨⟨w2,b2⟩,rfl⟩;clear aJ;go_wp2;go_ret;exact ⟨Bw H.out.symm,Bs (Bs B0 b1) b2⟩
 ·have kA:=Gu hl hk;have HR2:=Bp hr;rw [hr] at C;clear hr;go_enter Tryz.func135,Tryz.ntmps135;go_wp2_with fail
  generalize ((w.alloc (.cells #[J U y.now,J U y.seq,Aa A1 n1 c1,Aa A2 y.runs.length c2] 31)).alloc (.cells #[J U (⟨pr,sq,rn,tk⟩:Entry).prio,J U (⟨pr,sq,rn,tk⟩:Entry).seq,J U (⟨pr,sq,rn,tk⟩:Entry).run,J U (⟨pr,sq,rn,tk⟩:Entry).task] 93))=W at *
  refine C.mono ?_;rintro e1 w1 ⟨rfl,b1⟩;replace X:=X.below b1;replace E:=E.below b1;have X_:=X.g4;have E_:=E.g4;replace B0:=Bs B0 b1;obtain ⟨b,o,⟨s1,⟨At,nt,ct⟩⟩,dL,aG,cE,c0_,c1_,c2_,c3_,c4_,c5_,c6_,c7_⟩:=(h2.below B0).run hk;subst dL;obtain rfl:nt=y.runs[k].tasks.length:=RdL.at1 (s:=⟨At,nt,ct⟩) cE.2;have h3:RdL Eo w1 w (Aa At y.runs[k].tasks.length ct) y.runs[k].tasks:=cE.2;have eC:(k:Int)<(y.runs.length:Int):=Bk;have cS:decide ((0:Int)<=(k:Int))=true:=decide_eq_true Bk;have aJ:=Cy w1;have bL:b<w1:=Ai aG B0.size;have wr1:U.wrap ((y.runs[k].tasks.length:Int) - 1)=(y.runs[k].tasks.length:Int) - 1:=Ar _ Bk;cases q:inB tk 0 ((y.runs[k].tasks.length:Int) - 1)
  ·have H:=Bp (W7 (e:=⟨pr,sq,rn,tk⟩) hk HR2.out q);go_wp2;refine Bv Bl Bl ?_;repeat (go_big_quiet_step ((go_at_call 58;exact Ed (fun u=>Cs _ _ _ u.1))))
   refine Ak ?_;rintro _ ⟨⟨w2,b2⟩,rfl⟩;clear aJ;go_wp2;go_ret;exact ⟨Bw H.out.symm,Bs B0 b2⟩
  ·have qq:=Cp.1 q;obtain ⟨t,rfl⟩:=Aq qq.1;have ht:t<y.runs[k].tasks.length:=Bk;obtain ⟨b',o',_,rY,bN,_,d0,d1,d2,d3⟩:=h3.task ht;subst rY;have cI:b'<w1:=Ai bN B0.size;have jU:(t:Int)<(y.runs[k].tasks.length:Int):=Bk;have H:=Bp (Zl (e:=⟨pr,sq,rn,(t:Int)⟩) hk HR2.out ht rfl);clear qq;generalize y.runs[k].tasks[t].state=st at *
   cases q2:(st == 2)
   all_goals
    rw [q2] at H;go_wp2;refine Bv Bl Bl ?_;repeat (go_big_quiet_step ((go_at_call 58;exact Ed (fun u=>Cs _ _ _ u.1))))
    refine Ak ?_;rintro _ ⟨⟨w2,b2⟩,rfl⟩;clear aJ;go_wp2;go_ret;exact ⟨Bw H.out.symm,Bs B0 b2⟩
theorem Ot (y:Yard) (s:Sl×Sl) (e:Entry) (w:World) (hl:Ci y<=2000000) (h:Bu.rd w w y s) :
  Calls An 87 #[Du y s,H7 e ()] w fun e' w'=>e' = .returned (.bool (Dx y e))/\Below w w w':=by
 have HR:=Bp (show ∀ W,Below w w W->Bu.rd W W y s from fun W hW=>Bu.rd_more (Bu.rd_below h hW) hW.size);obtain ⟨⟨A1,n1,c1⟩,⟨A2,n2,c2⟩⟩:=s;obtain rfl:n2=y.runs.length:=RdL.at1 (s:=⟨A2,n2,c2⟩) h.2;have h2:RdL Co w w (Aa A2 y.runs.length c2) y.runs:=h.2;have eD:y.runs.length<=2000000:=Ah (Ct C9 _) (by unfold Ci at hl;omega);obtain ⟨pr,sq,rn,tk⟩:=e;have X:=(DBox.new 31 [J U y.now,J U y.seq,Aa A1 n1 c1,Aa A2 y.runs.length c2] w (b:=w.heap.size) rfl).below ((Bq _ _).alloc (Br _) (.cells #[J U (⟨pr,sq,rn,tk⟩:Entry).prio,J U (⟨pr,sq,rn,tk⟩:Entry).seq,J U (⟨pr,sq,rn,tk⟩:Entry).run,J U (⟨pr,sq,rn,tk⟩:Entry).task] 93));have E:=DBox.new 93 [J U (⟨pr,sq,rn,tk⟩:Entry).prio,J U (⟨pr,sq,rn,tk⟩:Entry).seq,J U (⟨pr,sq,rn,tk⟩:Entry).run,J U (⟨pr,sq,rn,tk⟩:Entry).task] (w.alloc (.cells #[J U y.now,J U y.seq,Aa A1 n1 c1,Aa A2 y.runs.length c2] 31)) (b:=w.heap.size+1) Bm;have B0:Below w w ((w.alloc (.cells #[J U y.now,J U y.seq,Aa A1 n1 c1,Aa A2 y.runs.length c2] 31)).alloc (.cells #[J U (⟨pr,sq,rn,tk⟩:Entry).prio,J U (⟨pr,sq,rn,tk⟩:Entry).seq,J U (⟨pr,sq,rn,tk⟩:Entry).run,J U (⟨pr,sq,rn,tk⟩:Entry).task] 93)):=by repeat (first | exact Bq _ _ | refine Ae ?_ Bn _)
 have C:=Ew y (⟨A1,n1,c1⟩,⟨A2,y.runs.length,c2⟩) rn ((w.alloc (.cells #[J U y.now,J U y.seq,Aa A1 n1 c1,Aa A2 y.runs.length c2] 31)).alloc (.cells #[J U (⟨pr,sq,rn,tk⟩:Entry).prio,J U (⟨pr,sq,rn,tk⟩:Entry).seq,J U (⟨pr,sq,rn,tk⟩:Entry).run,J U (⟨pr,sq,rn,tk⟩:Entry).task] 93)) hl (HR.out _ B0);clear h;rcases Eu y rn with hr | ⟨k,hk,hr⟩
 ·have H:=Bp (Zj (e:=⟨pr,sq,rn,tk⟩) hr);rw [hr] at C;clear hr;go_enter Tryz.func87,Tryz.ntmps87;go_wp2_with fail
  generalize ((w.alloc (.cells #[J U y.now,J U y.seq,Aa A1 n1 c1,Aa A2 y.runs.length c2] 31)).alloc (.cells #[J U (⟨pr,sq,rn,tk⟩:Entry).prio,J U (⟨pr,sq,rn,tk⟩:Entry).seq,J U (⟨pr,sq,rn,tk⟩:Entry).run,J U (⟨pr,sq,rn,tk⟩:Entry).task] 93))=W at *
  refine C.mono ?_;rintro e1 w1 ⟨rfl,b1⟩;replace X:=X.below b1;replace E:=E.below b1;have X_:=X.g4;have E_:=E.g4;have aJ:=Cy w1;go_wp2;refine Bv Bl Bl ?_;repeat (go_big_quiet_step (fail))
  refine Ak ?_;rintro _ ⟨⟨w2,b2⟩,rfl⟩;clear aJ;go_wp2;go_ret;exact ⟨Bw H.out.symm,Bs (Bs B0 b1) b2⟩
 ·have kA:=Gu hl hk;have HR2:=Bp hr;rw [hr] at C;clear hr;go_enter Tryz.func87,Tryz.ntmps87;go_wp2_with fail
  generalize ((w.alloc (.cells #[J U y.now,J U y.seq,Aa A1 n1 c1,Aa A2 y.runs.length c2] 31)).alloc (.cells #[J U (⟨pr,sq,rn,tk⟩:Entry).prio,J U (⟨pr,sq,rn,tk⟩:Entry).seq,J U (⟨pr,sq,rn,tk⟩:Entry).run,J U (⟨pr,sq,rn,tk⟩:Entry).task] 93))=W at *
  refine C.mono ?_;rintro e1 w1 ⟨rfl,b1⟩;replace X:=X.below b1;replace E:=E.below b1;have X_:=X.g4;have E_:=E.g4;replace B0:=Bs B0 b1;obtain ⟨b,o,⟨s1,⟨At,nt,ct⟩⟩,dL,aG,cE,c0_,c1_,c2_,c3_,c4_,c5_,c6_,c7_⟩:=(h2.below B0).run hk;subst dL;obtain rfl:nt=y.runs[k].tasks.length:=RdL.at1 (s:=⟨At,nt,ct⟩) cE.2;have h3:RdL Eo w1 w (Aa At y.runs[k].tasks.length ct) y.runs[k].tasks:=cE.2;have eC:(k:Int)<(y.runs.length:Int):=Bk;have cS:decide ((0:Int)<=(k:Int))=true:=decide_eq_true Bk;have aJ:=Cy w1;have bL:b<w1:=Ai aG B0.size;have wr1:U.wrap ((y.runs[k].tasks.length:Int) - 1)=(y.runs[k].tasks.length:Int) - 1:=Ar _ Bk;cases q:inB tk 0 ((y.runs[k].tasks.length:Int) - 1)
  ·have H:=Bp (W7 (e:=⟨pr,sq,rn,tk⟩) hk HR2.out q);go_wp2;refine Bv Bl Bl ?_;repeat (go_big_quiet_step ((go_at_call 155;exact Ed (fun u=>Cf _ _ _ u.1))))
   refine Ak ?_;rintro _ ⟨⟨w2,b2⟩,rfl⟩;clear aJ;go_wp2;go_ret;exact ⟨Bw H.out.symm,Bs B0 b2⟩
  ·have qq:=Cp.1 q;obtain ⟨t,rfl⟩:=Aq qq.1;have ht:t<y.runs[k].tasks.length:=Bk;obtain ⟨b',o',_,rY,bN,_,d0,d1,d2,d3⟩:=h3.task ht;subst rY;have cI:b'<w1:=Ai bN B0.size;have jU:(t:Int)<(y.runs[k].tasks.length:Int):=Bk;have H:=Bp (Zl (e:=⟨pr,sq,rn,(t:Int)⟩) hk HR2.out ht rfl);clear qq;generalize y.runs[k].tasks[t].state=st at *
   cases q2:(st == 2)
   all_goals
    rw [q2] at H;go_wp2;refine Bv Bl Bl ?_;repeat (go_big_quiet_step ((go_at_call 155;exact Ed (fun u=>Cf _ _ _ u.1))))
    refine Ak ?_;rintro _ ⟨⟨w2,b2⟩,rfl⟩;clear aJ;go_wp2;go_ret;exact ⟨Bw H.out.symm,Bs B0 b2⟩
theorem Yc (r:Run) (s:Sl×Sl) (t:Nat) (w:World) (hf:Cr r.plan=0) (hT:(r.tasks.length:Int)=r.plan.tasks) (ht:t<r.tasks.length) (bV:1<=r.tasks[t].state/\r.tasks[t].state<=6) (h:Co.rd w w r s) :
  Calls An 246 #[Hc r s,J U (t:Int)] w fun e w'=>e = .returned (.bool (tf (Gl r t)))/\Below w w w':=by
 obtain ⟨⟨A1,n1,c1⟩,⟨A2,n2,c2⟩⟩:=s;obtain rfl:n2=r.tasks.length:=RdL.at1 (s:=⟨A2,n2,c2⟩) h.2;have h2:RdL Eo w w (Aa A2 r.tasks.length c2) r.tasks:=h.2;have h1:Rd Gc w w (Aa A1 n1 c1) r.plan.edges:=Ju h.1;have hz:=C8.1 hf;have hl:r.tasks.length<=12:=by have:=Ee hz.1;omega
 have HQ:=Bp (show tf (Gl r t)=tf (Lh r.tasks[t] (Fu r t) r.plan.most) by unfold Gl;rw [Cn ht]);have jU:(t:Int)<(r.tasks.length:Int):=Bk;have HL:=Bp (show ∀ x∈Dl (Dq r.plan) r.plan.tasks.toNat t,x<r.tasks.length from fun x hx=>by have:=Pj hx;omega);have HN:=Bp (show (Dl (Dq r.plan) r.plan.tasks.toNat t).length<=12 by have:=Jz (Dq r.plan) r.plan.tasks.toNat t;omega);have HD:=Bp (show Fu r t=Fi r (Dl (Dq r.plan) r.plan.tasks.toNat t) from rfl);have HS:=Bp bV;have HZ:=Bp hz;clear hT hf h bV hz;obtain ⟨b,o,_,hA,aG,_,d0,d1,d2,d3⟩:=h2.task ht;subst hA;obtain ⟨W,aH,X,T,B0⟩:=bx2 w 89 [J U r.id,J U r.plan.prio,J U r.plan.most,J U r.plan.wait,J U r.plan.tasks,Aa A1 n1 c1,J U r.state,Aa (Ac ⟨b,o,Ab⟩) r.tasks.length c2] 138 [J U r.tasks[t].state,J U r.tasks[t].need,J U r.tasks[t].try_,J U r.tasks[t].until_];go_enter Tryz.func246,Tryz.ntmps246;go_wp2_with fail
 rw [<-aH.out];clear aH;clear d0 d1 d2 d3;refine (Ni r.plan (Aa A1 n1 c1) t _ HZ.out.1 HZ.out.2.1 HZ.out.2.2.1 ((h1.below B0).more B0.size)).mono ?_;rintro e w1 ⟨v,rfl,o1,b1⟩;generalize Dl (Dq r.plan) r.plan.tasks.toNat t=L at *
 generalize Fu r t=N at *
 obtain ⟨A3,c3,rfl,-⟩:=id (Rd.of_own o1);replace B0:=Bs B0 b1;replace X:=X.below b1;replace T:=T.below b1;have eD:=HN.out;go_wp2;go_loopw [6,8] (fun n i wr=>∃ k:Nat,k<=L.length/\i = J U k/\n = J U (Fi r (L.take k):Nat)/\Below w1 w1 wr) (fun _ i _=>L.length - (intOf i).toNat);case atStart=>exact ⟨0,Ag _,rfl,rfl,Bq _ _⟩
 case round =>
  obtain ⟨k,hk,rfl,rfl,hb⟩:=hrel;have ol:=Rf r (L.take k);rw [Az] at ol;by_cases aA:k<L.length
  ·have aB:(k:Int)<(L.length:Int):=Bk;have hx:=HL.out _ (Aw aA);obtain ⟨b3,o3,rfl,bY,e0⟩:=(Rd.of_own (o1.below hb)).nat aA;obtain ⟨b2,o2,_,he,jP,_,d0,d1,d2,d3⟩:=(h2.below (Bs B0 hb)).task hx;simp only [Option.some.injEq,Addr.mk.injEq,and_true] at he;obtain ⟨rfl,rfl⟩:=he;have bL:b<wr:=Ai aG (Bs B0 hb).size;have hxI:(L[k]:Int)<(r.tasks.length:Int):=Bk;have rX:=Bp (Cn hx);replace X:=X.below hb;have X_:=X.g8;by_cases h4:r.tasks[L[k]].state=4
   ·have S:=Bp (Wv (r:=r) aA (by rw [rX.out];exact h4));have t4:(r.tasks[L[k]].state != 4)=false:=by simp [h4]
    clear h4;go_wp2;go_quiet (fail);go_wp2;exact ⟨⟨k+1,Bk,by go_num,by rw [S.out],Cj hb _⟩,by simp [intOf];omega⟩
   ·have S:=Bp (Uz (r:=r) aA (by rw [rX.out];exact h4));have t4:(r.tasks[L[k]].state != 4)=true:=by simp [h4]
    clear h4;go_wp2;go_quiet (fail);go_wp2;exact ⟨⟨k+1,Bk,by go_num,by rw [S.out];go_num,Cj hb _⟩,by simp [intOf];omega⟩
  ·have aB:¬ (k:Int)<(L.length:Int):=Bk;have aZ:k=L.length:=Bk;subst aZ;replace X:=X.below hb;replace T:=T.below hb;have X_:=X.g8;have T_:=T.g4;have HN2:=Bp (show (N:Int)=(Fi r (L.take L.length):Nat) by rw [HD.out,List.take_length]);have HSt:=HS.out;have B1:=Bs B0 hb;clear hb o1 B0;generalize r.tasks[t]=x at *
   generalize (Fi r (L.take L.length):Nat)=M at *
   generalize hM:(M:Int)=m at *
   have rN:0<=m:=Bk;have dA:m<=12:=Bk;clear hM;by_cases a2:x.need=m;case neg =>
    have a2':(x.need != m)=true:=by simp [a2]
    have H:=Bp (show tf (Gl r t)=false by rw [HQ.out];exact Ck (fun h=>a2 (by rw [h.2.1,HN2.out])));clear a2;go_wp2;go_ret;exact ⟨Bw H.out.symm,B1⟩
   have a2':(x.need != m)=false:=by simp [a2]
   cases a3:inB x.try_ 0 r.plan.most;case false =>
    have H:=Bp (show tf (Gl r t)=false by rw [HQ.out];exact Ck (fun h=>by have:=Cp.2 h.2.2.1;rw [a3] at this;cases this));clear a2;go_wp2_with (go_at_call 155;refine (Cf _ _ _ _).mono ?_;rintro e w' ⟨rfl,rfl⟩)
    go_ret;exact ⟨Bw H.out.symm,B1⟩
   have H:=Bp (show tf (Gl r t)=N5 x r.plan.most by rw [HQ.out];exact W6 HSt (by rw [a2,HN2.out]) (Cp.1 a3));obtain ⟨st,nd,tr,un⟩:=x;simp only at *
   subst a2;have S:=(show st=1\/st=2\/st=3\/st=4\/st=5\/st=6 by omega)
   clear HSt;rcases S with rfl | rfl | rfl | rfl | rfl | rfl
   all_goals
    go_wp2_with (go_at_call 155;refine (Cf _ _ _ _).mono ?_;rintro e w' ⟨rfl,rfl⟩)
    all_goals
     go_ret;exact ⟨Bw (by
      rw [H.out];unfold N5;try have e1:=Afr ‹(un != 0)=true›
      try have e1:=Afs ‹(un != 0)=false›
      try have e3:=Aft ‹(nd == 0)=true›
      try have e3:=Afu ‹(nd == 0)=false›
      simp [*]),B1⟩
def stI (c1 c2 c3 c4 c5 c6 n:Int):Int:=if c4=n then 2 else if c5=1/\c1+c2+c3=0 then 3 else if c5=0/\0<c6/\c1+c2+c3=0 then 4 else if c5=0/\c6=0 then 1 else 0
theorem Acj (l:List Task):stL l=stI (Dd l 1:Nat) (Dd l 2:Nat) (Dd l 3:Nat) (Dd l 4:Nat) (Dd l 5:Nat) (Dd l 6:Nat) (l.length:Nat):=by
 unfold stL stI Ja;generalize Dd l 1=a;generalize Dd l 2=b;generalize Dd l 3=c;generalize Dd l 4=d;generalize Dd l 5=e;generalize Dd l 6=f;repeat' split
 all_goals first | rfl | (exfalso;omega)
theorem Kn {l:List Task} {k:Nat} (hk:k<l.length) {s:Int} : ((Dd (l.take (k+1)) s:Nat):Int)=(Dd (l.take k) s:Nat)+(if l[k].state=s then 1 else 0):=by
 by_cases h:l[k].state=s
 ·rw [U0 hk h,if_pos h];rfl
 ·rw [Yb hk h,if_neg h];simp
theorem Ou (r:Run) (s:Sl×Sl) (w:World) (hl:r.tasks.length<=2000000) (bV:∀ x∈r.tasks,1<=x.state/\x.state<=6) (h:Co.rd w w r s) :
  Calls An 243 #[Hc r s] w fun e w'=>e = .returned (J U (stL r.tasks))/\Below w w w':=by
 obtain ⟨⟨A1,n1,c1⟩,⟨A2,n2,c2⟩⟩:=s;obtain rfl:n2=r.tasks.length:=RdL.at1 (s:=⟨A2,n2,c2⟩) h.2;have h2:RdL Eo w w (Aa A2 r.tasks.length c2) r.tasks:=h.2;have HS:=Bp (Acj r.tasks);have HT:=Bp bV;clear h bV;obtain ⟨W,aH,X,E,B0⟩:=bx2 w 89 [J U r.id,J U r.plan.prio,J U r.plan.most,J U r.plan.wait,J U r.plan.tasks,Aa A1 n1 c1,J U r.state,Aa A2 r.tasks.length c2] 3 [J U 0,J U 0,J U 0,J U 0,J U 0,J U 0,J U 0];go_enter Tryz.func243,Tryz.ntmps243;go_wp2;rw [<-aH.out];clear aH;go_loopw [4] (fun i wr=>∃ k:Nat,k<=r.tasks.length/\i = J U k/\DBox w [J U r.id,J U r.plan.prio,J U r.plan.most,J U r.plan.wait,J U r.plan.tasks,Aa A1 n1 c1,J U r.state,Aa A2 r.tasks.length c2] wr/\DBox (w.heap.size+1) [J U 0,J U (Dd (r.tasks.take k) 1:Nat),J U (Dd (r.tasks.take k) 2:Nat),J U (Dd (r.tasks.take k) 3:Nat),J U (Dd (r.tasks.take k) 4:Nat),J U (Dd (r.tasks.take k) 5:Nat),J U (Dd (r.tasks.take k) 6:Nat)] wr/\Below w w wr) (fun i _=>r.tasks.length - (intOf i).toNat);case atStart=>exact ⟨0,Ag _,rfl,X,E,B0⟩
 case round =>
  clear X E B0;obtain ⟨k,hk,rfl,X,E,hb⟩:=hrel;have X_:=X.g8;have E_:=E.g7;have Ef:=E.free;have L1:=Kh (r.tasks.take k) 1;have L2:=Kh (r.tasks.take k) 2;have L3:=Kh (r.tasks.take k) 3;have L4:=Kh (r.tasks.take k) 4;have L5:=Kh (r.tasks.take k) 5;have L6:=Kh (r.tasks.take k) 6;rw [Az] at L1 L2 L3 L4 L5 L6;by_cases aA:k<r.tasks.length
  ·have aB:(k:Int)<(r.tasks.length:Int):=Bk;obtain ⟨b,o,_,rfl,aG,_,d0,d1,d2,d3⟩:=(h2.below hb).task aA;have hs:=hb.size;have S1:=Bp (Kn (s:=1) aA);have S2:=Bp (Kn (s:=2) aA);have S3:=Bp (Kn (s:=3) aA);have S4:=Bp (Kn (s:=4) aA);have S5:=Bp (Kn (s:=5) aA);have S6:=Bp (Kn (s:=6) aA);have bV:=HT.out _ (Aw aA);generalize r.tasks[k].state=st at *
   have S:=(show st=1\/st=2\/st=3\/st=4\/st=5\/st=6 by omega)
   clear bV;rcases S with rfl | rfl | rfl | rfl | rfl | rfl
   ·go_wp2;have E2:=E.set 1 Bm (J U ((Dd (r.tasks.take k) 1:Nat)+1));refine ⟨⟨k+1,Bk,by go_num,X.setOther Bm _,?_,Ad hb Bm _⟩,by simp [intOf];omega⟩;rw [S1.out,S2.out,S3.out,S4.out,S5.out,S6.out];simpa using E2
   ·go_wp2;have E2:=E.set 2 Bm (J U ((Dd (r.tasks.take k) 2:Nat)+1));refine ⟨⟨k+1,Bk,by go_num,X.setOther Bm _,?_,Ad hb Bm _⟩,by simp [intOf];omega⟩;rw [S1.out,S2.out,S3.out,S4.out,S5.out,S6.out];simpa using E2
   ·go_wp2;have E2:=E.set 3 Bm (J U ((Dd (r.tasks.take k) 3:Nat)+1));refine ⟨⟨k+1,Bk,by go_num,X.setOther Bm _,?_,Ad hb Bm _⟩,by simp [intOf];omega⟩;rw [S1.out,S2.out,S3.out,S4.out,S5.out,S6.out];simpa using E2
   ·go_wp2;have E2:=E.set 4 Bm (J U ((Dd (r.tasks.take k) 4:Nat)+1));refine ⟨⟨k+1,Bk,by go_num,X.setOther Bm _,?_,Ad hb Bm _⟩,by simp [intOf];omega⟩;rw [S1.out,S2.out,S3.out,S4.out,S5.out,S6.out];simpa using E2
   ·go_wp2;have E2:=E.set 5 Bm (J U ((Dd (r.tasks.take k) 5:Nat)+1));refine ⟨⟨k+1,Bk,by go_num,X.setOther Bm _,?_,Ad hb Bm _⟩,by simp [intOf];omega⟩;rw [S1.out,S2.out,S3.out,S4.out,S5.out,S6.out];simpa using E2
   ·go_wp2;have E2:=E.set 6 Bm (J U ((Dd (r.tasks.take k) 6:Nat)+1));refine ⟨⟨k+1,Bk,by go_num,X.setOther Bm _,?_,Ad hb Bm _⟩,by simp [intOf];omega⟩;rw [S1.out,S2.out,S3.out,S4.out,S5.out,S6.out];simpa using E2
  ·have aB:¬ (k:Int)<(r.tasks.length:Int):=Bk;have aZ:k=r.tasks.length:=Bk;subst aZ;rw [List.take_length] at *
   generalize eS:((Dd r.tasks 1:Nat):Int)=c1' at *
   generalize rT:((Dd r.tasks 2:Nat):Int)=c2' at *
   generalize nB:((Dd r.tasks 3:Nat):Int)=c3' at *
   generalize pL:((Dd r.tasks 4:Nat):Int)=c4' at *
   generalize nW:((Dd r.tasks 5:Nat):Int)=c5' at *
   generalize hc6:((Dd r.tasks 6:Nat):Int)=c6' at *
   have m1:0<=c1'/\c1'<=2000000:=Bk;have m2:0<=c2'/\c2'<=2000000:=Bk;have m3:0<=c3'/\c3'<=2000000:=Bk;have m4:0<=c4':=Bk;have m5:0<=c5':=Bk;have m6:0<=c6':=Bk;clear eS rT nB pL nW hc6 L1 L2 L3 L4 L5 L6;have w1':U.wrap (c1'+c2')=c1'+c2':=Ar _ Bk;have w2':U.wrap (c1'+c2'+c3')=c1'+c2'+c3':=Ar _ Bk;have aJ:=Cy wr;by_cases q1:c4'=(r.tasks.length:Int)
   ·have H:=Bp (show stL r.tasks=2 by rw [HS.out];unfold stI;rw [if_pos q1]);have q1':(c4' == (r.tasks.length:Int))=true:=beq_iff_eq.2 q1;clear q1;go_wp2;go_quiet (fail);go_wp2;go_quiet (fail);go_wp2;go_ret;exact ⟨Dg H.out.symm,by first | exact Cj hb _ | exact Cj (Cj hb _) _⟩
   have q1':(c4' == (r.tasks.length:Int))=false:=beq_eq_false_iff_ne.2 q1;by_cases q2:c1'+c2'+c3'=0;all_goals
    first
     | (have q2':(c1'+c2'+c3' == 0)=true:=beq_iff_eq.2 q2)
     | (have q2':(c1'+c2'+c3' == 0)=false:=beq_eq_false_iff_ne.2 q2)
    by_cases q3:c5'=1
    ·have q3':(c5' == 1)=true:=beq_iff_eq.2 q3;have q4':(c5' == 0)=false:=beq_eq_false_iff_ne.2 Bk;have H:=Bp (show stL r.tasks=stI c1' c2' c3' c4' c5' c6' r.tasks.length from HS.out);simp only [stI,if_neg q1,q2,q3,and_self,if_true,and_true,true_and,if_false,false_and,and_false,show ¬ ((1:Int)=0) by omega] at H;clear q1 q2 q3;go_wp2;go_quiet (fail);go_wp2;go_quiet (fail);go_wp2;go_ret;exact ⟨Dg H.out.symm,by first | exact Cj hb _ | exact Cj (Cj hb _) _⟩
    have q3':(c5' == 1)=false:=beq_eq_false_iff_ne.2 q3;by_cases q4:c5'=0
    ·have q4':(c5' == 0)=true:=beq_iff_eq.2 q4;by_cases q5:c6'=0
     ·have q5':(c6' == 0)=true:=beq_iff_eq.2 q5;have q6':decide (0<c6')=false:=decide_eq_false Bk;have H:=Bp (show stL r.tasks=stI c1' c2' c3' c4' c5' c6' r.tasks.length from HS.out);simp only [stI,if_neg q1,q2,q3,q4,q5,and_self,if_true,and_true,true_and,if_false,false_and,and_false,show ¬ ((0:Int)=1) by omega,show ¬ ((0:Int)<0) by omega] at H;clear q1 q2 q3 q4 q5;go_wp2;go_quiet (fail);go_wp2;go_quiet (fail);go_wp2;go_ret;exact ⟨Dg H.out.symm,by first | exact Cj hb _ | exact Cj (Cj hb _) _⟩
     ·have q5':(c6' == 0)=false:=beq_eq_false_iff_ne.2 q5;have q6:0<c6':=Bk;have q6':decide (0<c6')=true:=decide_eq_true q6;have H:=Bp (show stL r.tasks=stI c1' c2' c3' c4' c5' c6' r.tasks.length from HS.out);simp only [stI,if_neg q1,q2,q3,q4,q5,q6,and_self,if_true,and_true,true_and,if_false,false_and,and_false,show ¬ ((0:Int)=1) by omega] at H;clear q1 q2 q3 q4 q5 q6;go_wp2;go_quiet (fail);go_wp2;go_quiet (fail);go_wp2;go_ret;exact ⟨Dg H.out.symm,by first | exact Cj hb _ | exact Cj (Cj hb _) _⟩
    ·have q4':(c5' == 0)=false:=beq_eq_false_iff_ne.2 q4;have H:=Bp (show stL r.tasks=stI c1' c2' c3' c4' c5' c6' r.tasks.length from HS.out);simp only [stI,if_neg q1,q2,q3,q4,and_self,if_true,and_true,true_and,if_false,false_and,and_false] at H;clear q1 q2 q3 q4;go_wp2;go_quiet (fail);go_wp2;go_quiet (fail);go_wp2;go_ret;exact ⟨Dg H.out.symm,by first | exact Cj hb _ | exact Cj (Cj hb _) _⟩
end Go.Proofs.YtonlnjdempbfoaaGreat
