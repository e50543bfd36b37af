/-
  Marks of data handed on by value. Written by program (mv.py). RunAt of the reference and of the program. Written by program (cs.py). Data of the type Desk: how 
-/
import Derived.Test.YtecnbnbopcblgaaGreatZAk0
import Derived.Test.YtecnbnbopcblgaaGreatZAk1
import Derived.Test.YtecnbnbopcblgaaGreatZAk2
import Derived.Test.YtecnbnbopcblgaaGreatZAk3
import Derived.Deep.RegionHeld3
namespace Go.Proofs.YtecnbnbopcblgaaGreat
open Go.RowKit
set_option maxRecDepth 100000
set_option maxHeartbeats 4000000
set_option linter.unusedVariables false
set_option linter.unusedSimpArgs false
open Value renaming int->J,slice->Aa
open IntKind renaming i64->U
open Option renaming none->Ab,some->Ac
open Below renaming setCell->Ad,alloc->Ae
open Nat renaming zero_le->Ag,le_trans->Ah
open Go renaming bodyPost_ret->Aj
open Go.Proofs.Tryz renaming prog->Am
open List renaming length_map->Ar,length_append->Bd,mem_append_right->Be,mem_append_left->Bf,take_of_length_le->Bg
open World renaming size_alloc->Bj,size_setCell->Bk
open Go.Proofs.Tryz
theorem Aia {p:Prop} (h:p:=by
 obtain ⟨x,k,hk,hx,rfl,rfl,hF,hb⟩:=hrel;by_cases aA:k<l.length
 ·have aB:(k:Int)<(l.length:Int):=Bl;have hc:l[k].toNat<256:=l[k].toNat_lt;have ex:=Pb x l[k].toNat Bl Bl;have hX0:x ^^^ l[k].toNat<4294967296:=Nat.xor_lt_two_pow (n:=32) hx Bl;have tG:bits .xor .i64 (x:Int) (wrap64 (((⟨l.toArray⟩:ByteArray)[k]'(by rw [bL];exact aA)).toNat:Int))=((x ^^^ l[k].toNat:Nat):Int):=by
   rw [<-ex];congr 1;show wrap64 (l[k].toNat:Int)=_;generalize l[k].toNat=q at *
   unfold wrap64;omega
  have HF:=Br (show (l.take (k+1)).foldl K1 4294967295=Hk 8 (x ^^^ l[k].toNat) by
   rw [List.take_succ_eq_append_getElem aA,List.foldl_append,hF.out];rfl)
  clear hF;go_wp2;generalize x ^^^ l[k].toNat=z at *
  go_loopw [3,5] (fun s q wr=>∃ (y j:Nat),j<=8/\y<4294967296/\s = J U y/\q = J U j/\Hid (Hk j z=y)/\Below w w wr) (fun _ q _=>8 - (intOf q).toNat);case atStart=>exact ⟨z,0,Bl,hX0,by first | rfl | rw [tG],rfl,rfl,hb⟩
  case round =>
   clear hb;obtain ⟨y,j,hj,hy,rfl,rfl,hC,hb⟩:=hrel;by_cases hj8:j<8
   ·have hj8I:(j:Int)<8:=Bl;have eo:bits .xor .i64 ((y:Int) / 2) 3988292384=((y / 2 ^^^ 3988292384:Nat):Int):=by
     have:=Pb (y / 2) 3988292384 Bl Bl
     rw [<-this];congr 1<;>omega
    have aW:y / 2 ^^^ 3988292384<4294967296:=Nat.xor_lt_two_pow (n:=32) Bl Bl;by_cases ho:y % 2=1
    ·have hoI:(y:Int) % 2=1:=Bl;have HC:=Br (show Hk (j+1) z=y / 2 ^^^ 3988292384 by
      show Kc (Hk j z)=_;rw [hC.out];unfold Kc;rw [if_pos ho])
     clear ho hC;go_wp2;exact ⟨⟨_,j+1,Bl,aW,rfl,by go_num,HC,hb⟩,clM⟩
    ·have hoI:(y:Int) % 2=0:=Bl;have HC:=Br (show Hk (j+1) z=y / 2 by
      show Kc (Hk j z)=_;rw [hC.out];unfold Kc;rw [if_neg ho])
     clear ho hC;go_wp2;exact ⟨⟨y / 2,j+1,Bl,Bl,by go_num,by go_num,HC,hb⟩,clM⟩
   ·have HE:=Br (show (l.take (k+1)).foldl K1 4294967295=y by
     rw [HF.out,<-hC.out,show j=8 by omega])
    have hj8I:¬ (j:Int)<8:=Bl;clear hC HF;go_wp2;exact ⟨⟨y,k+1,Bl,hy,rfl,by go_num,HE,hb⟩,clM⟩
 ·have H:=Br (show Le l=((x ^^^ 4294967295:Nat):Int) by
   have:=hF.out
   rw [Bg Bl] at this;unfold Le;rw [this])
  have ex:bits .xor .i64 (x:Int) 4294967295=((x ^^^ 4294967295:Nat):Int):=Pb x 4294967295 Bl Bl;go_wp2;go_ret;exact ⟨by rw [H.out];rfl,hb⟩):p:=h
theorem Aic {p:Prop} (h:p:=by rw [Ar] at hl;obtain ⟨b,o,h3,h4,h5⟩:=hA hl;refine ⟨b,o,h3,h4,fun k hk j u hu=>?_⟩;rw [List.getElem_map] at hu;exact h5 k (by rw [Ar] at hk;exact hk) j u hu):p:=h
theorem Aik {p:Prop} (h:p:=by
 have g0:=hf 0 _ rfl;have g1:=hf 1 _ rfl;have g2:=hf 2 _ rfl;have g3:=hf 3 _ rfl;match xs,dG,cs,aE with
 | [y0,y1,y2,y3],_,[c0,c1,c2,c3],_ =>
  obtain ⟨a0,e0,_,w0⟩:=DataW.trod_int underlying3 g0;obtain ⟨a1,e1,_,w1⟩:=DataW.trod_int underlying3 g1;obtain ⟨a2,e2,_,w2⟩:=DataW.trod_int underlying3 g2;obtain ⟨a3,e3,_,w3⟩:=DataW.trod_int underlying3 g3;simp [Iy] at e0 e1 e2 e3;exact ⟨⟨a0,a1,a2,a3⟩,(),by simp [e0,e1,e2,e3],trivial,⟨Hj w0,Hj w1,Hj w2,Hj w3⟩⟩):p:=h
theorem Aip {p:Prop} (h:p:=by obtain ⟨rs,rfl,⟨A,c,rfl,hc,hA⟩,_⟩:=h;refine ⟨A,c,by rw [Ar],by rw [Ar];exact hc,fun hl=>?_⟩;rw [Ar] at hl;obtain ⟨b,o,h1,h2,h3⟩:=hA hl;refine ⟨b,o,h1,h2,fun k hk j u hu=>?_⟩;rw [List.getElem_map] at hu;exact h3 k (by rw [Ar] at hk;exact hk) j u hu):p:=h
theorem Aja {p:Prop} (h:p:=by go_wp2;go_ret;exact ⟨Bx H.out.symm,B0⟩):p:=h
theorem Ajn {p:Prop} (h:p:=by
 have t0:(k.memos[j].id == id)=false:=by simpa using he
 have S:Hid (∀ i (hi:i<k.memos.length),i<j+1 -> ¬ k.memos[i].id=id):=by
  intro i hi h;by_cases e:i=j
  ·subst e;exact he
  ·exact cQ.out i hi Bl
 clear he;go_wp2;exact ⟨⟨j+1,Bl,by go_num,S,by first | exact aG | exact aG.alloc hs _⟩,clM⟩):p:=h
theorem Ajv {p:Prop} (h:p:=by
 go_wp2;refine Aj (v:=.tuple #[I0 (Hr k id).1 (),.bool (Hr k id).2]) ?_ rfl ⟨rfl,?_⟩
 ·rw [e.out];simp [I0,results,results88,go_sem,z0,z1,z2,z3,dl,Nat.ne_of_lt dl]
 ·repeat (first | (with_reducible exact hb) | refine Ad ?_ Bp _ | refine Ae ?_ Bp _)):p:=h
theorem Ajw {p:Prop} (h:p:=by
 go_wp2;refine Aj (v:=.tuple #[I0 (Hr k id).1 (),.bool (Hr k id).2]) ?_ rfl ⟨rfl,?_⟩
 ·rw [e.out];simp [I0,results,results32,go_sem,z0,z1,z2,z3,dl,Nat.ne_of_lt dl]
 ·repeat (first | (with_reducible exact hb) | refine Ad ?_ Bp _ | refine Ae ?_ Bp _)):p:=h
theorem Ak1 {p:Prop} (h:p:=by rw [Cp l k hk,List.filter_append,Bd,List.filter_cons,if_neg (by simp [h])];rfl):p:=h
theorem Ak4 {p:Prop} (h:p:=by go_wp2;go_ret;exact ⟨Cy H.out.symm,aN⟩):p:=h
theorem Amk {p:Prop} (h:p:=by exact (C0.trans (g1.mono (fun x hx=>Bf _ hx))).trans (g2.mono (fun x hx=>Be _ hx))):p:=h
theorem Am5 {p:Prop} (h:p:=by
 intro j hj hj';by_cases e:j=k
 ·subst e;exact t1
 ·exact cQ.out j Bl hj'):p:=h
theorem Ana {p:Prop} (h:p:=by go_wp2;go_quiet (fail);go_wp2;go_ret;exact ⟨Bx H.out.symm,Dq hb _⟩):p:=h
theorem Anr {p:Prop} (h:p:=by go_enter func197,ntmps197;exact Aja):p:=h
def Rz (x:Plan):Nat:=C9 C6 x.edges
def Agn (k:Int) (x:Plan):Plan:=⟨x.prio,x.most,x.wait,x.tasks,(mkL Kb C6 k x.edges)⟩
theorem Xv (x:Plan):Rz x<=13 * Ec x:=by
 have h0:=Et (num:=C6) (cnt:=Ei) (K:=13) Jv x.edges;unfold Rz Ec;omega
theorem Zb (x:Plan) (s:Sl) (F:List Nat) (k:Int) (w:World) (hl:Ec x<=2000000) (cE:0<=k) (fC:k<=100000000) (h:Ce.ow w F x s) :
  Calls Am 117 #[Jo x s,J U k] w (Mu Ce F (Agn k x) s (k+(Rz x:Nat)) w):=by
 have hF:=Ce.ow_lt h;have D:=DBox.new 43 [J U x.prio,J U x.most,J U x.wait,J U x.tasks,Aa s.a s.n s.c] w rfl;have B0:Below w w (w.alloc (.cells #[J U x.prio,J U x.most,J U x.wait,J U x.tasks,Aa s.a s.n s.c] 43)):=Bu;have n0:C9 C6 x.edges<=13 * (Ek Ei x.edges):=Et (num:=C6) (cnt:=Ei) (K:=13) Jv x.edges;have fP:Ek Ei x.edges<=2000000:=by unfold Ec at hl;exact hl
 go_enter func117,ntmps117;go_wp2_with fail
 generalize (w.alloc (.cells #[J U x.prio,J U x.most,J U x.wait,J U x.tasks,Aa s.a s.n s.c] 43))=w0 at *
 have C0:=Chg.of_below F B0;have o1:=OwL.below (show _ from h) B0;refine (Ps x.edges s F k w0 fP Bl Bl o1).mono ?_;rintro e w1 ⟨rfl,m1,g1⟩;replace D:=D.chg g1 (fun hx=>by have:=hF _ hx;omega);go_wp2;go_ret;refine ⟨Cy (by unfold Rz;push_cast;omega),?_,?_⟩
 ·exact m1
 ·exact C0.trans g1
def Zc (x:Deed):Nat:=Rz x.plan
def Ago (k:Int) (x:Deed):Deed:=⟨x.kind,x.run,(Agn k x.plan),x.task,x.try_,x.worker,x.draw⟩
theorem Afe (x:Deed):Zc x<=13 * E8 x:=by
 have h0:=Xv x.plan;unfold Zc E8;omega
theorem Zd (x:Deed) (s:Sl) (F:List Nat) (k:Int) (w:World) (hl:E8 x<=2000000) (cE:0<=k) (fC:k<=100000000) (h:Cq.ow w F x s) :
  Calls Am 57 #[Dc x s,J U k] w (Mu Cq F (Ago k x) s (k+(Zc x:Nat)) w):=by
 have hF:=Cq.ow_lt h;have D:=DBox.new 45 [J U x.kind,J U x.run,J U x.plan.prio,J U x.plan.most,J U x.plan.wait,J U x.plan.tasks,Aa s.a s.n s.c,J U x.task,J U x.try_,J U x.worker,J U x.draw] w rfl;have B0:Below w w (w.alloc (.cells #[J U x.kind,J U x.run,J U x.plan.prio,J U x.plan.most,J U x.plan.wait,J U x.plan.tasks,Aa s.a s.n s.c,J U x.task,J U x.try_,J U x.worker,J U x.draw] 45)):=Bu;have n0:Rz x.plan<=13 * (Ec x.plan):=Xv x.plan;have fP:Ec x.plan<=2000000:=by unfold E8 at hl;exact hl
 go_enter func57,ntmps57;go_wp2_with fail
 generalize (w.alloc (.cells #[J U x.kind,J U x.run,J U x.plan.prio,J U x.plan.most,J U x.plan.wait,J U x.plan.tasks,Aa s.a s.n s.c,J U x.task,J U x.try_,J U x.worker,J U x.draw] 45))=w0 at *
 have C0:=Chg.of_below F B0;have o1:=Ce.ow_below (show _ from h) B0;refine (Zb x.plan s F k w0 fP Bl Bl o1).mono ?_;rintro e w1 ⟨rfl,m1,g1⟩;replace D:=D.chg g1 (fun hx=>by have:=hF _ hx;omega);go_wp2;go_ret;refine ⟨Cy (by unfold Zc;push_cast;omega),?_,?_⟩
 ·exact m1
 ·exact C0.trans g1
def Nc (id:Int) (r:Run):Bool:=r.id == id
def Dn (y:Yard) (id:Int):Int:=if y.runs.length<=8 then Hv (Nc id) y.runs else -1
theorem R0 {y:Yard} {id:Int} (h:¬ y.runs.length<=8):Dn y id = -1:=by unfold Dn;rw [if_neg h]
theorem Lp {y:Yard} {id:Int} (h:y.runs.length<=8):Dn y id=Hv (Nc id) y.runs:=by unfold Dn;rw [if_pos h]
theorem Mq {α:Type} (p:α->Bool) (l:List α):Hv p l = -1 \/ ∃ k:Nat,k<l.length/\Hv p l=k:=by
 unfold Hv;cases h:l.findIdx? p with
 | none=>exact .inl rfl
 | some i=>exact .inr ⟨i,(List.findIdx?_eq_some_iff_getElem.1 h).1,rfl⟩
theorem E9 (y:Yard) (id:Int):Dn y id = -1 \/ ∃ k:Nat,k<y.runs.length/\Dn y id=k:=by
 by_cases h:y.runs.length<=8
 ·rw [Lp h];exact Mq _ _
 ·exact .inl (R0 h)
theorem Fi (y:Yard) (s:Sl×Sl) (id:Int) (w:World) (hl:Ca y<=2000000) (h:Bw.rd w w y s) :
  Calls Am 153 #[Ds y s,J U id] w fun e w'=>e = .returned (J U (Dn y id))/\Below w w w':=by
 obtain ⟨s1,⟨A,n,c⟩⟩:=s;have h1:RdL Cf w w (Sl.v ⟨A,n,c⟩) y.runs:=h.2;obtain ⟨A',c',hv,-⟩:=h1.form;simp only [Sl.v,Value.slice.injEq] at hv;obtain ⟨rfl,rfl,rfl⟩:=hv;have bS:y.runs.length<=2000000:=Ah (Ck Co _) (by unfold Ca at hl;omega);have D:=DBox.new 31 [J U y.now,J U y.seq,Aa (s1,(⟨A,y.runs.length,c⟩:Sl)).1.a (s1,(⟨A,y.runs.length,c⟩:Sl)).1.n (s1,(⟨A,y.runs.length,c⟩:Sl)).1.c,Aa (s1,(⟨A,y.runs.length,c⟩:Sl)).2.a (s1,(⟨A,y.runs.length,c⟩:Sl)).2.n (s1,(⟨A,y.runs.length,c⟩:Sl)).2.c] w rfl;have aN:Below w w (w.alloc (.cells #[J U y.now,J U y.seq,Aa (s1,(⟨A,y.runs.length,c⟩:Sl)).1.a (s1,(⟨A,y.runs.length,c⟩:Sl)).1.n (s1,(⟨A,y.runs.length,c⟩:Sl)).1.c,Aa (s1,(⟨A,y.runs.length,c⟩:Sl)).2.a (s1,(⟨A,y.runs.length,c⟩:Sl)).2.n (s1,(⟨A,y.runs.length,c⟩:Sl)).2.c] 31)):=Bu;go_enter func153,ntmps153;go_wp2_with fail
 generalize (w.alloc (.cells #[J U y.now,J U y.seq,Aa (s1,(⟨A,y.runs.length,c⟩:Sl)).1.a (s1,(⟨A,y.runs.length,c⟩:Sl)).1.n (s1,(⟨A,y.runs.length,c⟩:Sl)).1.c,Aa (s1,(⟨A,y.runs.length,c⟩:Sl)).2.a (s1,(⟨A,y.runs.length,c⟩:Sl)).2.n (s1,(⟨A,y.runs.length,c⟩:Sl)).2.c] 31))=W at *
 have k3:W.cell? ⟨w,3,Ab⟩=Ac (Aa A y.runs.length c):=D.cell 3 _ rfl;have h2:=h1.below aN;go_wp2;go_loop [5] (fun i=>∃ k:Nat,k<=y.runs.length/\i = J U k/\Hid (∀ j (hj:j<y.runs.length),j<k->Nc id y.runs[j]=false)) (fun i=>y.runs.length - (intOf i).toNat);case atStart=>exact ⟨0,Ag _,rfl,fun j hj h0=>absurd h0 Bl⟩
 case round =>
  obtain ⟨k,hk,rfl,cQ⟩:=hrel;by_cases h8:y.runs.length<=8
  ·by_cases aA:k<y.runs.length
   ·obtain ⟨b,o,s',rfl,aJ,hr,c0,-⟩:=h2.run aA;have aB:(k:Int)<(y.runs.length:Int):=Bl;cases hp:Nc id y.runs[k]
    ·have t0:(y.runs[k].id == id)=false:=hp;have S:Hid (∀ j (hj:j<y.runs.length),j<k+1->Nc id y.runs[j]=false):=by
      intro j hj h0;by_cases e:j=k
      ·subst e;exact hp
      ·exact cQ.out j hj Bl
     clear hp;exact Ame
    ·have t0:(y.runs[k].id == id)=true:=hp;have H:=Br (show Dn y id=k by rw [Lp h8];exact Jy aA (fun j hj=>cQ.out j Bl hj) hp);clear hp;exact Ak4
   ·have H:=Br (show Dn y id = -1 by rw [Lp h8];exact Km (fun j hj=>cQ.out j hj Bl));have aB:¬ ((k:Int)<(y.runs.length:Int)):=Bl;exact Ak4
  ·have H:=Br (R0 (id:=id) h8);by_cases aA:k<y.runs.length
   ·have aB:(k:Int)<(y.runs.length:Int):=Bl;exact Ak4
   ·have aB:¬ ((k:Int)<(y.runs.length:Int)):=Bl;exact Ak4
theorem Va (r:Run) (s:Sl×Sl) (id:Int) (p:Nat) (w:World) (hp:w.cell? ⟨p,0,Ab⟩=Ac (J U id)) (hp':p<w) :
  Calls Am 151 #[G7 r s,.pointer (Ac ⟨p,0,Ab⟩)] w fun e w'=>e = .returned (.bool (Nc id r))/\Below w w w':=by
 unfold Nc;cases t1:(r.id == id)
 all_goals
  go_enter func151,ntmps151;go_wp2;go_ret;exact ⟨rfl,by repeat (first | exact Bs _ _ | refine Ae ?_ Bp _)⟩
theorem Ze (l:List Run) (s:Sl) (id:Int) (p:Nat) (w:World) (hl:l.length<=2000000) (h:RdL Cf w w s.v l) (hp:w.cell? ⟨p,0,Ab⟩=Ac (J U id)) (hp':p<w) :
  Calls Am 150 #[Aa s.a s.n s.c,.func (.func 151) #[] #[.pointer (Ac ⟨p,0,Ab⟩)]] w
   fun e w'=>e = .returned (J U (Hv (Nc id) l))/\Below w w w':=by
 obtain ⟨A,n,c⟩:=s;obtain ⟨A',c',hv,-⟩:=h.form;simp only [Sl.v,Value.slice.injEq] at hv;obtain ⟨rfl,rfl,rfl⟩:=hv;go_enter func150,ntmps150;go_wp2;go_loopw [8] (fun i wr=>∃ k:Nat,k<=l.length/\i = J U k/\Hid (∀ j (hj:j<k) (hj':j<l.length),Nc id l[j]=false)/\Below w w wr) (fun i _=>l.length - (intOf i).toNat);case atStart=>exact ⟨0,Ag _,rfl,fun j hj=>absurd hj Bl,Bs _ _⟩
 case round =>
  obtain ⟨k,hk,rfl,cQ,hb⟩:=hrel;by_cases aA:k<l.length
  ·obtain ⟨b,o,s',rfl,aJ,hr,c0,c1,c2,c3,c4,c5,c6,c7⟩:=(h.below hb).run aA;have gY:=(hb.cell (p:=⟨p,0,Ab⟩) hp').trans hp;have hs:=hb.size;cases t1:Nc id l[k]
   ·have S:Hid (∀ j (hj:j<k+1) (hj':j<l.length),Nc id l[j]=false):=Am5
    go_wp2_with (go_at_call 151;refine (Va l[k] s' id p _ gY Bl).mono ?_;rintro e w1 ⟨rfl,aG⟩;simp only [t1])
    exact ⟨⟨k+1,Bl,by go_num,S,hb.trans (aG.mono hb.size)⟩,clM⟩
   ·have H:=Br (Jy aA (fun j hj=>cQ.out j hj Bl) t1);go_wp2_with (go_at_call 151;refine (Va l[k] s' id p _ gY Bl).mono ?_;rintro e w1 ⟨rfl,aG⟩;simp only [t1])
    go_ret;exact ⟨Cy (by rw [H.out]),hb.trans (aG.mono hb.size)⟩
  ·have H:=Br (Km (p:=Nc id) (l:=l) (fun j hj=>cQ.out j Bl hj));go_wp2;go_ret;exact ⟨Cy (by rw [H.out]),hb⟩
theorem Fj (y:Yard) (s:Sl×Sl) (id:Int) (w:World) (hl:Ca y<=2000000) (h:Bw.rd w w y s) :
  Calls Am 78 #[Ds y s,J U id] w fun e w'=>e = .returned (J U (Dn y id))/\Below w w w':=by
 obtain ⟨s1,⟨A,n,c⟩⟩:=s;have h1:RdL Cf w w (Sl.v ⟨A,n,c⟩) y.runs:=h.2;obtain ⟨A',c',hv,-⟩:=h1.form;simp only [Sl.v,Value.slice.injEq] at hv;obtain ⟨rfl,rfl,rfl⟩:=hv;have bS:y.runs.length<=2000000:=Ah (Ck Co _) (by unfold Ca at hl;omega);have D0:=DBox.new 31 [J U y.now,J U y.seq,Aa (s1,(⟨A,y.runs.length,c⟩:Sl)).1.a (s1,(⟨A,y.runs.length,c⟩:Sl)).1.n (s1,(⟨A,y.runs.length,c⟩:Sl)).1.c,Aa (s1,(⟨A,y.runs.length,c⟩:Sl)).2.a (s1,(⟨A,y.runs.length,c⟩:Sl)).2.n (s1,(⟨A,y.runs.length,c⟩:Sl)).2.c] w rfl;have D:=D0.below ((Bs _ _).alloc (Bt _) (.cells #[J U id] 3));have E:=DBox.new 3 [J U id] (w.alloc (.cells #[J U y.now,J U y.seq,Aa (s1,(⟨A,y.runs.length,c⟩:Sl)).1.a (s1,(⟨A,y.runs.length,c⟩:Sl)).1.n (s1,(⟨A,y.runs.length,c⟩:Sl)).1.c,Aa (s1,(⟨A,y.runs.length,c⟩:Sl)).2.a (s1,(⟨A,y.runs.length,c⟩:Sl)).2.n (s1,(⟨A,y.runs.length,c⟩:Sl)).2.c] 31)) (b:=w+1) Bo;have aN:Below w w ((w.alloc (.cells #[J U y.now,J U y.seq,Aa (s1,(⟨A,y.runs.length,c⟩:Sl)).1.a (s1,(⟨A,y.runs.length,c⟩:Sl)).1.n (s1,(⟨A,y.runs.length,c⟩:Sl)).1.c,Aa (s1,(⟨A,y.runs.length,c⟩:Sl)).2.a (s1,(⟨A,y.runs.length,c⟩:Sl)).2.n (s1,(⟨A,y.runs.length,c⟩:Sl)).2.c] 31)).alloc (.cells #[J U id] 3)):=by repeat (first | exact Bs _ _ | refine Ae ?_ Bp _)
 clear D0;by_cases h8:y.runs.length<=8;case neg =>
  have H:=Br (R0 (id:=id) h8);go_enter func78,ntmps78;exact Ak4
 have H:=Br (Lp (id:=id) h8);go_enter func78,ntmps78;go_wp2_with fail
 generalize ((w.alloc (.cells #[J U y.now,J U y.seq,Aa (s1,(⟨A,y.runs.length,c⟩:Sl)).1.a (s1,(⟨A,y.runs.length,c⟩:Sl)).1.n (s1,(⟨A,y.runs.length,c⟩:Sl)).1.c,Aa (s1,(⟨A,y.runs.length,c⟩:Sl)).2.a (s1,(⟨A,y.runs.length,c⟩:Sl)).2.n (s1,(⟨A,y.runs.length,c⟩:Sl)).2.c] 31)).alloc (.cells #[J U id] 3))=W at *
 have e0:W.cell? ⟨w+1,0,Ab⟩=Ac (J U id):=E.cell 0 _ rfl;have el:=E.lt;refine (Ze y.runs ⟨A,y.runs.length,c⟩ id (w+1) _ bS ((h1.below aN).more aN.size) e0 el).mono ?_;rintro e w1 ⟨rfl,aG⟩;go_wp2;go_ret;exact ⟨Cy H.out.symm,Bv aN aG⟩
structure Desk where
 yard:Yard
 memos:List Memo
 fr:Int
deriving DecidableEq,Inhabited
@[go_sem] abbrev Ih (x:Desk) (s:(Sl×Sl)×Sl):Value:=.agg #[.int .i64 x.yard.now,.int .i64 x.yard.seq,.slice s.1.1.a s.1.1.n s.1.1.c,.slice s.1.2.a s.1.2.n s.1.2.c,.slice s.2.a s.2.n s.2.c,.int .i64 x.fr]
abbrev Cj:Dt Desk:=Dt.two Bw (Dt.list Ed) (·.yard) (·.memos) (fun q=>[.int .i64 q.1.yard.now,.int .i64 q.1.yard.seq,.slice q.2.1.1.a q.2.1.1.n q.2.1.1.c,.slice q.2.1.2.a q.2.1.2.n q.2.1.2.c,.slice q.2.2.a q.2.2.n q.2.2.c,.int .i64 q.1.fr]) 6 (fun _=>rfl) (fun q u hu=>by simp at hu;rcases hu with rfl | rfl | rfl | rfl | rfl | rfl<;>rfl)
def Dd (x:Desk):Nat:=Ca x.yard+Ek Ee x.memos
def Zf (x:Desk):Prop:=Adh x.yard/\wfL U3 x.memos/\Wf x.fr
theorem Nv (x:Desk) (s:(Sl×Sl)×Sl) (w:World) (hl:Dd x<=2000000) (h:Cj.rd w w x s) :
  Calls Am 51 #[Ih x s] w (Dv Cj Ih x w):=by
 have bG:∀ W,Below w w W->Cj.rd W W x s:=fun W hW=>Cj.rd_more (Cj.rd_below h hW) hW.size;go_enter func51,ntmps51;go_wp2_with fail
 refine (Adi x.yard s.1 _ (by unfold Dd at hl;omega) ((bG _ (by repeat (first | exact Bs _ _ | refine Ae ?_ Bp _))).1)).mono ?_;rintro e w0 ⟨s0,F0,rfl,o0,n0,aN⟩;obtain ⟨q0,p0⟩:=Gf aN;have z0:=aN.size;simp only [Bj,Bk] at z0 n0;have B0:Below w w w0:=Bv (by repeat (first | exact Bs _ _ | refine Ae ?_ Bp _)) aN;go_wp2_with fail
 refine (Abb x.memos s.2 _ (by unfold Dd at hl;omega) ((bG _ (by repeat (first | (with_reducible exact B0) | (with_reducible exact Bs _ _) | refine Ad ?_ Bp _ | refine Ae ?_ Bp _))).2)).mono ?_;rintro e w1 ⟨s1,F1,rfl,o1,n1,aG⟩;obtain ⟨q1,p1⟩:=Gf aG;have z1:=aG.size;simp only [Bj,Bk] at z1 n1 q1 p1;have B1:Below w w w1:=Bv (by repeat (first | (with_reducible exact B0) | (with_reducible exact Bs _ _) | refine Ad ?_ Bp _ | refine Ae ?_ Bp _)) aG;have q1a:=fun o=>q1 w o Bl;have p1a:=fun o=>p1 w o Bl;have q1b:=fun o=>q1 (w+1) o Bl;have p1b:=fun o=>p1 (w+1) o Bl;have q1c:=fun o=>q1 (w+1+1) o Bl;have p1c:=fun o=>p1 (w+1+1) o Bl;go_wp2;refine Aj (v:=Ih x (s0,s1)) ?_ rfl ?_
 ·simp [Ih,results,results51,go_sem,q0,q1,q1a,q1b,q1c]
 ·refine ⟨(s0,s1),F0 ++ F1,rfl,⟨F0,F1,rfl,?_,?_,?_⟩,?_,?_⟩
  ·rw [List.nodup_append];refine ⟨Dt.ow_nodup Bw o0,Dt.ow_nodup (Dt.list Ed) o1,fun u hu u' hu' e=>?_⟩;have h1:=Dt.ow_lt Bw o0 u hu;have h2:=n1 u' hu';omega
  ·repeat (first | (with_reducible exact o0) | refine Dt.ow_set Bw ?_ (by intro hm;have:=n0 _ hm;(try simp only [Bj,Bk] at this);omega) _ | (with_reducible refine Dt.ow_below Bw ?_ aG))
  ·repeat (first | (with_reducible exact o1) | refine Dt.ow_set (Dt.list Ed) ?_ (by intro hm;have:=n1 _ hm;(try simp only [Bj,Bk] at this);omega) _)
  ·intro u hu;rcases List.mem_append.1 hu with hu | hu
   ·have:=n0 u hu
    omega
   ·have:=n1 u hu
    omega
  ·exact Aj5
theorem Nw (x y:Desk) (s r:(Sl×Sl)×Sl) (w:World) (hl:Dd x<=2000000) (hl':Dd y<=2000000) (h:Cj.rd w w x s) (h':Cj.rd w w y r) :
  Calls Am 53 #[Ih x s,Ih y r] w fun e w'=>e = .returned (.bool (decide (x=y)))/\Below w w w':=by
 have bG:∀ W,Below w w W->Cj.rd W W x s:=fun W hW=>Cj.rd_more (Cj.rd_below h hW) hW.size;have cC:∀ W,Below w w W->Cj.rd W W y r:=fun W hW=>Cj.rd_more (Cj.rd_below h' hW) hW.size;go_enter func53,ntmps53;go_wp2_with fail
 refine (Adj x.yard y.yard s.1 r.1 _ (by unfold Dd at hl;omega) (by unfold Dd at hl';omega) ((bG _ (by repeat (first | exact Bs _ _ | refine Ae ?_ Bp _))).1) ((cC _ (by repeat (first | exact Bs _ _ | refine Ae ?_ Bp _))).1)).mono ?_;rintro e w0 ⟨rfl,aN⟩;have B0:Below w w w0:=Bv (by repeat (first | exact Bs _ _ | refine Ae ?_ Bp _)) aN;obtain ⟨q0,p0⟩:=Gf aN;have z0:=aN.size;try simp only [Bj] at z0
 by_cases h0:x.yard=y.yard;case neg =>
  have H:=Br (show decide (x=y)=false by simp only [decide_eq_false_iff_not];intro e;exact h0 (by rw [e]));rw [decide_eq_false h0];clear h0;go_wp2;go_ret;exact ⟨Bx (by first | exact H.out.symm | rfl),by exact B0⟩
 rw [decide_eq_true h0];have H0:=Br h0;clear h0;go_wp2_with fail
 refine (Aba x.memos y.memos s.2 r.2 _ (by unfold Dd at hl;omega) (by unfold Dd at hl';omega) ((bG _ (by first | exact B0 | (repeat (first | exact Bs _ _ | refine Ae ?_ Bp _)))).2) ((cC _ (by first | exact B0 | (repeat (first | exact Bs _ _ | refine Ae ?_ Bp _)))).2)).mono ?_;rintro e w1 ⟨rfl,aG⟩;have B1:Below w w w1:=Bv (by first | exact B0 | (repeat (first | exact Bs _ _ | refine Ae ?_ Bp _))) aG;obtain ⟨q1,p1⟩:=Gf aG;have z1:=aG.size;try simp only [Bj] at z1
 have q1a:=fun o=>q1 w o Bl;have q1b:=fun o=>q1 (w+1) o Bl;by_cases h1:x.memos=y.memos;case neg =>
  exact Ajc
 rw [decide_eq_true h1];have H1:=Br h1;clear h1;by_cases h2:x.fr=y.fr;case neg =>
  have t2:(x.fr != y.fr)=true:=by rw [bne_iff_ne];exact h2
  have H:=Br (show decide (x=y)=false by simp only [decide_eq_false_iff_not];intro e;exact h2 (by rw [e]));clear h2;go_wp2;go_ret;exact ⟨Bx (by first | exact H.out.symm | rfl),by exact B1⟩
 have t2:(x.fr != y.fr)=false:=by simp [h2]
 have H2:=Br h2;clear h2;have H:=Br (show decide (x=y)=true by
  simp only [decide_eq_true_eq];have hh:=And.intro H0.out (And.intro H1.out H2.out);obtain ⟨e0,e1,e2⟩:=hh;cases x;cases y;simp only at e0 e1 e2;subst e0 e1 e2;rfl)
 go_wp2;go_ret;exact ⟨Bx (by first | exact H.out.symm | rfl),by exact B1⟩
theorem Adn (x:Desk) (s:(Sl×Sl)×Sl) (left:Int) (w:World) (h0:0<=left) (h1:left<=2000000) (hw:Zf x) (h:Cj.rd w w x s) :
  Calls Am 49 #[Ih x s,J U left] w (Lv left (Dd x) w):=by
 have bG:∀ W,Below w w W->Cj.rd W W x s:=fun W hW=>Cj.rd_more (Cj.rd_below h hW) hW.size;go_enter func49,ntmps49;go_wp2_with fail
 refine (Adk x.yard s.1 left _ Bl Bl hw.1 ((bG _ (by repeat (first | exact Bs _ _ | refine Ae ?_ Bp _))).1)).mono ?_;rintro e w0 ⟨r0,rfl,jL,aN⟩;have B0:Below w w w0:=Bv (by repeat (first | exact Bs _ _ | refine Ae ?_ Bp _)) aN;obtain ⟨q0,p0⟩:=Gf aN;rcases jL with rfl | ⟨y0,z0⟩
 ·exact Akz
 go_wp2_with fail
 refine (Aa9 x.memos s.2 r0 _ Bl Bl hw.2.1 ((bG _ B0).2)).mono ?_;rintro e w1 ⟨r1,rfl,qN,aG⟩;have B1:Below w w w1:=Bv B0 aG;obtain ⟨q1,p1⟩:=Gf aG;rcases qN with rfl | ⟨y1,z1⟩
 ·exact Amq
 go_wp2;go_ret;exact ⟨_,rfl,.inr ⟨Bl,by unfold Dd;omega⟩,B1⟩
theorem Pb (a b:Nat) (ha:a<9223372036854775808) (hb:b<9223372036854775808):bits .xor .i64 (a:Int) (b:Int)=((a ^^^ b:Nat):Int):=by
 have hx:a ^^^ b<2 ^ 63:=Nat.xor_lt_two_pow Bl Bl;have h1:(BitVec.ofInt 64 (a:Int)).toNat=a:=Ajl
 have h2:(BitVec.ofInt 64 (b:Int)).toNat=b:=Ajl
 show U.wrap ((BitVec.ofInt 64 (a:Int) ^^^ BitVec.ofInt 64 (b:Int)).toNat:Int)=_;rw [BitVec.toNat_xor,h1,h2,IntKind.wrap_i64];generalize a ^^^ b=y at *
 exact Al1
def Kc (x:Nat):Nat:=if x % 2=1 then (x / 2) ^^^ 3988292384 else x / 2
def Hk:Nat->Nat->Nat
 | 0,x=>x
 | k+1,x=>Kc (Hk k x)
def K1 (x:Nat) (b:UInt8):Nat:=Hk 8 (x ^^^ b.toNat)
def Le (l:List UInt8):Int:=((l.foldl K1 4294967295 ^^^ 4294967295:Nat):Int)
theorem Ado {x:Nat} (h:x<4294967296):Kc x<4294967296:=by
 unfold Kc;split
 ·exact Nat.xor_lt_two_pow (n:=32) Bl Bl
 ·omega
theorem Abe (k:Nat) {x:Nat} (h:x<4294967296):Hk k x<4294967296:=by
 induction k with
 | zero=>exact h
 | succ k ih=>exact Ado ih
theorem Adp {x:Nat} (h:x<4294967296) (b:UInt8):K1 x b<4294967296:=by
 have hb:b.toNat<256:=b.toNat_lt;exact Abe 8 (Nat.xor_lt_two_pow (n:=32) h Bl)
theorem Adq (l:List UInt8):∀ {x:Nat},x<4294967296->l.foldl K1 x<4294967296:=by
 induction l with
 | nil=>intro x h;exact h
 | cons b l ih=>intro x h;exact ih (Adp h b)
theorem Abf (l:List UInt8):0<=Le l/\Le l<=4294967295:=by
 have h:l.foldl K1 4294967295 ^^^ 4294967295<4294967296:=Nat.xor_lt_two_pow (n:=32) (Adq l Bl) Bl;unfold Le;omega
theorem Xa (l:List UInt8) (w:World) (hl:l.length<=2000000) :
  Calls Am 123 #[Ahe l] w fun e w'=>e = .returned (J U (Le l))/\Below w w w':=by
 have bL:(⟨l.toArray⟩:ByteArray).size=l.length:=by simp [ByteArray.size]
 go_enter func123,ntmps123;go_wp2;go_loopw [3,4] (fun s i wr=>∃ (x k:Nat),k<=l.length/\x<4294967296/\s = J U x/\i = J U k/\Hid ((l.take k).foldl K1 4294967295=x)/\Below w w wr) (fun _ i _=>l.length - (intOf i).toNat);case atStart=>exact ⟨4294967295,0,Ag _,Bq,rfl,rfl,by rw [List.take_zero];rfl,Bs _ _⟩
 case round =>
  exact Aia
theorem Xb (l:List UInt8) (w:World) (hl:l.length<=2000000) :
  Calls Am 307 #[Ahe l] w fun e w'=>e = .returned (J U (Le l))/\Below w w w':=by
 have bL:(⟨l.toArray⟩:ByteArray).size=l.length:=by simp [ByteArray.size]
 go_enter func307,ntmps307;go_wp2;go_loopw [3,4] (fun s i wr=>∃ (x k:Nat),k<=l.length/\x<4294967296/\s = J U x/\i = J U k/\Hid ((l.take k).foldl K1 4294967295=x)/\Below w w wr) (fun _ i _=>l.length - (intOf i).toNat);case atStart=>exact ⟨4294967295,0,Ag _,Bq,rfl,rfl,by rw [List.take_zero];rfl,Bs _ _⟩
 case round =>
  exact Aia
theorem Xc (l l':List Edge) (s s':Sl) (w:World) (hl:l.length<=2000000) (hl':l'.length<=2000000) (h:RdL Ep w w s.v l) (h':RdL Ep w w s'.v l') :
  Calls Am 269 #[Aa s.a s.n s.c,Aa s'.a s'.n s'.c] w fun e w'=>e = .returned (.bool (decide (l=l')))/\Below w w w':=by
 obtain ⟨A,n,c⟩:=s;obtain ⟨A',n',c'⟩:=s';obtain ⟨A1,e1,hv,-⟩:=h.form;obtain ⟨A2,e2,sI,-⟩:=h'.form;simp only [Sl.v,Value.slice.injEq] at hv sI;obtain ⟨rfl,rfl,rfl⟩:=hv;obtain ⟨rfl,rfl,rfl⟩:=sI;by_cases aC:l.length=l'.length
 ·have aN:((l.length:Int) != (l'.length:Int))=false:=by simp [aC]
  have Hne:=Br aC;clear aC;go_enter func269,ntmps269;go_wp2;go_loopw [13] (fun i wr=>∃ k:Nat,k<=l.length/\i = J U k/\Hid (l.take k=l'.take k)/\Below w w wr) (fun i _=>l.length - (intOf i).toNat);case atStart=>exact ⟨0,Ag _,rfl,rfl,Bs _ _⟩
  case round =>
   obtain ⟨k,hk,rfl,fJ,hb⟩:=hrel;by_cases aA:k<l.length
   ·have bY:k<l'.length:=by rw [<-Hne.out];exact aA
    obtain ⟨b,o,_,rfl,aJ,_,c0,c1⟩:=(h.below hb).edge aA;obtain ⟨b',o',_,rfl,bF,_,d0,d1⟩:=(h'.below hb).edge bY;have i1:(k:Int)<(l.length:Int):=Bl;have i2:(k:Int)<(l'.length:Int):=Bl;have no:l[k]≠l'[k]->Hid (decide (l=l')=false):=fun hx=>by
     show decide (l=l')=false;simp only [decide_eq_false_iff_not];intro e;subst e;exact hx rfl
    by_cases h0:l[k].fr=l'[k].fr;case neg =>
     have t0:(l[k].fr == l'[k].fr)=false:=beq_eq_false_iff_ne.2 h0;have H:=no (fun e=>h0 (by rw [e]));clear h0 no;exact Ana
    rw [<-h0] at d0;have H0:=Br h0;clear h0;by_cases h1:l[k].to=l'[k].to;case neg =>
     have t1:(l[k].to == l'[k].to)=false:=beq_eq_false_iff_ne.2 h1;have H:=no (fun e=>h1 (by rw [e]));clear h1 no;exact Ana
    rw [<-h1] at d1;have H1:=Br h1;clear h1;have S:Hid (l.take (k+1)=l'.take (k+1)):=by
     show l.take (k+1)=l'.take (k+1);have hx:l[k]=l'[k]:=by
      have g0:=H0.out ;have g1:=H1.out;revert g0 g1;cases l[k];cases l'[k];simp only;rintro rfl;rintro rfl;rfl
     rw [Cp l k aA,Cp l' k bY,fJ.out,hx]
    clear no;go_wp2;go_quiet (fail);go_wp2;exact ⟨⟨k+1,Bl,by go_num,S,Dq hb _⟩,clM⟩
   ·exact Aiw
 ·have aN:((l.length:Int) != (l'.length:Int))=true:=by simp;omega
  go_enter func269,ntmps269;go_wp2;go_ret;refine ⟨Bx ?_,Bs _ _⟩;simp only [Bool.false_eq,decide_eq_false_iff_not];intro e;exact aC (by rw [e])
theorem Zg (x y:Plan) (s r:Sl) (w:World) (hl:Ec x<=2000000) (hl':Ec y<=2000000) (h:Ce.rd w w x s) (h':Ce.rd w w y r) :
  Calls Am 197 #[Jo x s,Jo y r] w fun e w'=>e = .returned (.bool (decide (x=y)))/\Below w w w':=by
 have bG:∀ W,Below w w W->Ce.rd W W x s:=fun W hW=>Ce.rd_more (Ce.rd_below h hW) hW.size;have cC:∀ W,Below w w W->Ce.rd W W y r:=fun W hW=>Ce.rd_more (Ce.rd_below h' hW) hW.size;have no:∀ {P:Prop},(x=y->P) -> ¬ P->Hid (decide (x=y)=false):=fun f g=>decide_eq_false (fun e=>g (f e));have a1:Below w w (w.alloc (.cells #[J U x.prio,J U x.most,J U x.wait,J U x.tasks,Aa s.a s.n s.c] 43)):=Bu;have a2:Below (w.alloc (.cells #[J U x.prio,J U x.most,J U x.wait,J U x.tasks,Aa s.a s.n s.c] 43)) (w.alloc (.cells #[J U x.prio,J U x.most,J U x.wait,J U x.tasks,Aa s.a s.n s.c] 43)) ((w.alloc (.cells #[J U x.prio,J U x.most,J U x.wait,J U x.tasks,Aa s.a s.n s.c] 43)).alloc (.cells #[J U y.prio,J U y.most,J U y.wait,J U y.tasks,Aa r.a r.n r.c] 43)):=Bu;have X:=(DBox.new 43 [J U x.prio,J U x.most,J U x.wait,J U x.tasks,Aa s.a s.n s.c] w rfl).below a2;have Y:=DBox.new 43 [J U y.prio,J U y.most,J U y.wait,J U y.tasks,Aa r.a r.n r.c] (w.alloc (.cells #[J U x.prio,J U x.most,J U x.wait,J U x.tasks,Aa s.a s.n s.c] 43)) (b:=w+1) Bo;have B0:=Bv a1 a2;clear a1 a2;by_cases h0:x.prio=y.prio;case neg =>
  have t0:(x.prio == y.prio)=false:=beq_eq_false_iff_ne.2 h0;have H:=no (fun e=>by rw [e]) h0;clear h0 no bG cC;exact Anr
 have t0:(x.prio == y.prio)=true:=by simp [h0]
 have H0:=Br h0;clear h0;by_cases h1:x.most=y.most;case neg =>
  have t1:(x.most == y.most)=false:=beq_eq_false_iff_ne.2 h1;have H:=no (fun e=>by rw [e]) h1;clear h1 no bG cC;exact Anr
 have t1:(x.most == y.most)=true:=by simp [h1]
 have H1:=Br h1;clear h1;by_cases h2:x.wait=y.wait;case neg =>
  have t2:(x.wait == y.wait)=false:=beq_eq_false_iff_ne.2 h2;have H:=no (fun e=>by rw [e]) h2;clear h2 no bG cC;exact Anr
 have t2:(x.wait == y.wait)=true:=by simp [h2]
 have H2:=Br h2;clear h2;by_cases h3:x.tasks=y.tasks;case neg =>
  have t3:(x.tasks == y.tasks)=false:=beq_eq_false_iff_ne.2 h3;have H:=no (fun e=>by rw [e]) h3;clear h3 no bG cC;exact Anr
 have t3:(x.tasks == y.tasks)=true:=by simp [h3]
 have H3:=Br h3;clear h3;go_enter func197,ntmps197;go_wp2_with fail
 generalize ((w.alloc (.cells #[J U x.prio,J U x.most,J U x.wait,J U x.tasks,Aa s.a s.n s.c] 43)).alloc (.cells #[J U y.prio,J U y.most,J U y.wait,J U y.tasks,Aa r.a r.n r.c] 43))=w0 at *
 refine (Xc x.edges y.edges s r _ (Ah (Ck Ei _) (by unfold Ec at hl;omega)) (Ah (Ck Ei _) (by unfold Ec at hl';omega)) (bG _ B0) (cC _ B0)).mono ?_;rintro e w1 ⟨rfl,b1⟩;replace X:=X.below b1;replace Y:=Y.below b1;replace B0:=Bv B0 b1;have u0:=X.cell 0 _ rfl;have v0:=Y.cell 0 _ rfl;have u1:=X.cell 1 _ rfl;have v1:=Y.cell 1 _ rfl;have u2:=X.cell 2 _ rfl;have v2:=Y.cell 2 _ rfl;have u3:=X.cell 3 _ rfl;have v3:=Y.cell 3 _ rfl;have u4:=X.cell 4 _ rfl;have v4:=Y.cell 4 _ rfl;have us:=X.lt;have vs:=Y.lt;by_cases h4:x.edges=y.edges;case neg =>
  have t4:decide (x.edges=y.edges)=false:=decide_eq_false h4;have H:=no (fun e=>by rw [e]) h4;rw [t4];clear h4 no bG cC t4;exact Aja
 have t4:decide (x.edges=y.edges)=true:=decide_eq_true h4;rw [t4];have H4:=Br h4;clear h4 t4 b1;have H:Hid (decide (x=y)=true):=decide_eq_true (by
  have e0:=H0.out ;have e1:=H1.out ;have e2:=H2.out ;have e3:=H3.out ;have e4:=H4.out;cases x;cases y;simp only at e0 e1 e2 e3 e4;subst e0 e1 e2 e3 e4;rfl)
 clear no bG cC;go_wp2;go_ret;exact ⟨Bx H.out.symm,B0⟩
noncomputable def tf (p:Prop):Bool:=@decide p (Classical.propDecidable p)
theorem Di {p:Prop} (h:p):tf p=true:=by unfold tf;exact @decide_eq_true p (Classical.propDecidable p) h
theorem Cg {p:Prop} (h:¬ p):tf p=false:=by unfold tf;exact @decide_eq_false p (Classical.propDecidable p) h
theorem Mv {p:Prop} : tf p=true ↔ p:=by
 constructor
 ·intro h;by_cases hp:p
  ·exact hp
  ·rw [Cg hp] at h;cases h
 ·exact Di
theorem Agp {p q:Prop} (h:p ↔ q):tf p=tf q:=by
 by_cases hp:p
 ·rw [Di hp,Di (h.1 hp)]
 ·rw [Cg hp,Cg (fun hq=>hp (h.2 hq))]
def Fg (a b:Entry):Bool:=decide (b.prio<a.prio) || ((a.prio == b.prio) && decide (a.seq<b.seq))
def Ii (l:List Entry):Prop:=l.length<=80 /\ ∀ i (h:i+1<l.length),Fg l[i] l[i+1]=true
def Cv (r:Run) (k:Nat):Task:=r.tasks.getD k ⟨0,0,0,0⟩
theorem Cu {r:Run} {k:Nat} (h:k<r.tasks.length):Cv r k=r.tasks[k]:=by unfold Cv;rw [List.getD_eq_getElem?_getD,List.getElem?_eq_getElem h];rfl
def Ij (r:Run) (l:List Nat):Nat:=(l.filter fun b=>(Cv r b).state != 4).length
def I1 (r:Run) (t:Nat):Nat:=Ij r (Eg (Ea r.plan) r.plan.tasks.toNat t)
theorem Pc (r:Run) (l:List Nat):Ij r l<=l.length:=List.length_filter_le _ _
theorem Vb {r:Run} {l:List Nat} {k:Nat} (hk:k<l.length) (h:(Cv r l[k]).state≠4):Ij r (l.take (k+1))=Ij r (l.take k)+1:=by
 unfold Ij;rw [Cp l k hk,List.filter_append,Bd,List.filter_cons,if_pos (by simpa using h)];rfl
theorem Xw {r:Run} {l:List Nat} {k:Nat} (hk:k<l.length) (h:(Cv r l[k]).state=4):Ij r (l.take (k+1))=Ij r (l.take k):=by
 unfold Ij;exact Ak1
def Oo (x:Task) (N:Nat) (most:Int):Prop :=
 (1<=x.state/\x.state<=6)/\x.need=N/\(0<=x.try_/\x.try_<=most)/\(x.state=3->1<=x.until_/\x.until_<=1000000000)/\(x.state≠3->x.until_=0) /\
 (x.state=1->0<x.need)/\(x.state=2->x.need=0/\x.try_<most)/\(x.state=3\/x.state=4\/x.state=5->x.need=0/\1<=x.try_)
def Hx (r:Run) (t:Nat):Prop:=Oo (Cv r t) (I1 r t) r.plan.most
def Dx (l:List Task) (s:Int):Nat:=(l.filter fun x=>x.state == s).length
theorem Pd (l:List Task) (s:Int):Dx l s<=l.length:=List.length_filter_le _ _
theorem Xx (l:List Task) (x:Task) (s:Int):Dx (l ++ [x]) s=Dx l s+if x.state=s then 1 else 0:=by
 unfold Dx;rw [List.filter_append,Bd];congr 1;by_cases h:x.state=s<;>simp [h]
theorem Abg {l:List Task} {s:Int} {k:Nat} (hk:k<l.length) (h:l[k].state=s):Dx (l.take (k+1)) s=Dx (l.take k) s+1:=by
 rw [Cp l k hk,Xx,if_pos h]
theorem Aeq {l:List Task} {s:Int} {k:Nat} (hk:k<l.length) (h:¬ l[k].state=s):Dx (l.take (k+1)) s=Dx (l.take k) s:=by
 rw [Cp l k hk,Xx,if_neg h,Nat.add_zero]
def La (l:List Task):Nat:=Dx l 1+Dx l 2+Dx l 3
theorem Agq {l:List Task} (h:∀ x∈l,1<=x.state/\x.state<=6):La l+Dx l 4+Dx l 5+Dx l 6=l.length:=by
 unfold La;induction l with
 | nil=>rfl
 | cons x l ih =>
  have h1:=ih (fun y hy=>h y (List.mem_cons_of_mem _ hy));have hx:=h x (List.mem_cons_self ..);have hc:∀ s,Dx (x :: l) s=(if x.state=s then 1 else 0)+Dx l s:=by
   intro s;unfold Dx;by_cases h:x.state=s<;>simp [h];omega
  simp only [hc,List.length_cons];rcases (show x.state=1\/x.state=2\/x.state=3\/x.state=4\/x.state=5\/x.state=6 by omega) with e | e | e | e | e | e<;>simp [e]<;>omega
def stL (l:List Task):Int :=
 if Dx l 4=l.length then 2 else if Dx l 5=1/\La l=0 then 3 else if Dx l 5=0/\0<Dx l 6/\La l=0 then 4 else if Dx l 5=0/\Dx l 6=0 then 1 else 0
def Hn (r:Run):Prop :=
 (1<=r.id/\r.id<=9999)/\Cr r.plan=0/\(r.tasks.length:Int)=r.plan.tasks/\(∀ t,t<r.tasks.length->Hx r t)/\r.state=stL r.tasks/\r.state≠0
def Ch (y:Yard):List Entry:=y.shelf.flatten
def Ko (y:Yard) (id:Int):Run:=y.runs.getD (Dn y id).toNat ⟨0,⟨0,0,0,0,[]⟩,0,[]⟩
theorem Ha {y:Yard} {id:Int} {k:Nat} (hk:k<y.runs.length) (h:Dn y id=k):Ko y id=y.runs[k]:=by
 unfold Ko;rw [h,Int.toNat_natCast,List.getD_eq_getElem?_getD,List.getElem?_eq_getElem hk];rfl
def Vc (y:Yard) (e:Entry):Prop:=0<=Dn y e.run/\(0<=e.task/\e.task<(Ko y e.run).tasks.length)/\(Cv (Ko y e.run) e.task.toNat).state=2
noncomputable def Fc (y:Yard) (e:Entry):Bool:=tf (Vc y e)
def Ho (l:List Run):Nat:=((l.filter fun r=>r.state == 1).map fun r=>r.tasks.length).sum
noncomputable def Gu (y:Yard) (l:List Entry):Nat:=(l.filter fun e=>!Fc y e).length
noncomputable def Gw (y:Yard):Nat:=Ho y.runs+Gu y (Ch y)
def Ki (id:Int) (t:Nat) (e:Entry):Bool:=(e.run == id) && (e.task == (t:Int))
def Jp (id:Int) (t:Nat) (l:List Entry):Nat:=(l.filter (Ki id t)).length
def Pv (now:Int) (r:Run) (es:List Entry) (t:Nat):Prop :=
 ((Cv r t).state=2->(∀ e∈es,Ki r.id t e=true->e.prio=r.plan.prio)/\Jp r.id t es=1)/\((Cv r t).state=3->now+1<=(Cv r t).until_/\(Cv r t).until_<=now+r.plan.wait)
def Kp (now:Int) (r:Run) (es:List Entry):Prop:=∀ t,t<r.tasks.length->Pv now r es t
def Dk (y:Yard):Prop :=
 (0<=y.now/\y.now<=999999980)/\(1<=y.seq/\y.seq<=1000000000)/\y.shelf.length=4/\(∀ l∈y.shelf,Ii l)/\(∀ e∈Ch y,1<=e.seq/\e.seq<=y.seq - 1)/\((Ch y).map (·.seq)).Nodup /\
 y.runs.length<=8/\(∀ k (h:k<y.runs.length),Hn y.runs[k]/\Dn y y.runs[k].id=k)/\(∀ r∈y.runs,Kp y.now r (Ch y))/\Gw y<=40
theorem Vd {y:Yard} {l:List Entry} {k:Nat} (hk:k<l.length) (h:Fc y l[k]=false):Gu y (l.take (k+1))=Gu y (l.take k)+1:=by
 unfold Gu;rw [Cp l k hk,List.filter_append,Bd,List.filter_cons,if_pos (by simp [h])];rfl
theorem Xy {y:Yard} {l:List Entry} {k:Nat} (hk:k<l.length) (h:Fc y l[k]=true):Gu y (l.take (k+1))=Gu y (l.take k):=by
 unfold Gu;exact Ak1
theorem Pe (y:Yard) (l:List Entry):Gu y l<=l.length:=List.length_filter_le _ _
theorem Pw (y:Yard) (l l':List Entry):Gu y (l ++ l')=Gu y l+Gu y l':=by
 unfold Gu;rw [List.filter_append,Bd]
theorem Xz {id:Int} {t:Nat} {l:List Entry} {k:Nat} (hk:k<l.length) (h:Ki id t l[k]=true):Jp id t (l.take (k+1))=Jp id t (l.take k)+1:=by
 unfold Jp;rw [Cp l k hk,List.filter_append,Bd,List.filter_cons,if_pos h];rfl
theorem Abh {id:Int} {t:Nat} {l:List Entry} {k:Nat} (hk:k<l.length) (h:Ki id t l[k]=false):Jp id t (l.take (k+1))=Jp id t (l.take k):=by
 unfold Jp;exact Ak1
theorem Abi (id:Int) (t:Nat) (l:List Entry):Jp id t l<=l.length:=List.length_filter_le _ _
theorem Ve {l:List Run} {k:Nat} (hk:k<l.length) (h:l[k].state=1):Ho (l.take (k+1))=Ho (l.take k)+l[k].tasks.length:=by
 unfold Ho;rw [Cp l k hk,List.filter_append,List.map_append,List.sum_append,List.filter_cons,if_pos (by simp [h])];simp
theorem X0 {l:List Run} {k:Nat} (hk:k<l.length) (h:¬ l[k].state=1):Ho (l.take (k+1))=Ho (l.take k):=by
 unfold Ho;rw [Cp l k hk,List.filter_append,List.map_append,List.sum_append,List.filter_cons,if_neg (by simp [h])];simp
theorem Aff (l:List Run):Ho l<=(l.map fun r=>r.tasks.length).sum:=by
 unfold Ho;induction l with
 | nil=>simp
 | cons r l ih =>
  rw [List.filter_cons];split
  ·simp only [List.map_cons,List.sum_cons];omega
  ·simp only [List.map_cons,List.sum_cons];omega
theorem I2 {w:World} {B:Nat} {v:Value} {l:List Edge} (h:RdL Ep w B v l):Rd He w B v l:=Aip
theorem Abj (w:World):∀ l:List Edge,Ows Ep w [] (l.map fun x=>(x,()))
 | []=>.nil
 | x :: l=>by
  have:=Ows.cons (d:=Ep) (w:=w) (F:=[]) (r:=(x,())) rfl (Abj w l)
  exact this
theorem Ahf {w:World} {E:TypeId} {base:Nat} {v:Value} {l:List Edge} (h:Ow He E w base v l):∃ (s:Sl) (F:List Nat),v = Aa s.a s.n s.c/\OwL Ep w F s.v l /\ ∀ b∈F,base<=b:=by
 obtain ⟨h1,h2⟩:=Hw.of_ow h;obtain ⟨⟨A,c,hv,hc,hA⟩,hF,hf⟩:=id h1;subst hv;refine ⟨⟨A,l.length,c⟩,_,rfl,⟨l.map fun x=>(x,()),El (Aa A l.length c) l.length,[],by rw [List.map_map];exact List.map_id _,⟨⟨A,c,by rw [Ar],by rw [Ar];exact hc,fun hl=>?_⟩,by rw [Ar],hf⟩,Abj w l,(List.append_nil _).symm,h1.nodup⟩,h2⟩;exact Aic
theorem Ss {x:Plan} {w:World} {e:Ending} {w':World} (h:Qh x w e w'):Dv Ce Jo x w e w':=by
 obtain ⟨v,rfl,h1,h2⟩:=h;obtain ⟨s,F,rfl,h3,h4⟩:=Ahf h1;exact ⟨s,F,rfl,h3,h4,h2⟩
theorem Nd (x:Plan) (s:Sl) (w:World) (hl:Ec x<=2000000) (h:Ce.rd w w x s) :
  Calls Am 176 #[Jo x s] w (Dv Ce Jo x w) :=
 (Yu x s.v w (Ah (Ck _ _) hl) (I2 h)).mono fun _ _=>Ss
theorem Nf (x:Plan) (s:Sl) (w:World) (hl:Ec x<=2000000) (h:Ce.rd w w x s) :
  Calls Am 178 #[Jo x s] w (Dv Ce Jo x w) :=
 (Yv x s.v w (Ah (Ck _ _) hl) (I2 h)).mono fun _ _=>Ss
theorem Bld.push1 {α:Type} {d:Dt α} {E:TypeId} {w w1 w2 w5:World} {base:Nat} {v v5:Value} {rs:List (α×d.S)} {x:α} {s:d.S} {F:List Nat} (h:Bld d E w base v rs) (hb:Below w w w1) (o1:d.ow w1 F x s) (n1:∀ b∈F,w<=b)
  (aV:base<=w.heap.size) (aK:Below w1 w1 w2) (o5:Ow d.enc E w5 base v5 (rs ++ [(x,s)])) (g5:w2.grownBy w5 v.ownBlock) (f5:v5.ownBlock=v.ownBlock\/v5.ownBlock=Ac w2.heap.size):Bld d E w5 base v5 (rs ++ [(x,s)]):=by
 refine Bld.push h (Bv hb aK) (Ows.one (r:=(x,s)) (d.ow_below o1 aK)) n1 (d.ow_nodup o1) aV o5 g5 ?_;rcases f5 with f5 | f5
 ·exact .inl f5
 ·exact .inr ⟨_,f5,Bt _⟩
def Bls {α:Type} (d:Dt α) (E:TypeId) (w:World) (base:Nat) (v:Value) (l:List α):Prop:=∃ rs,rs.map (·.1)=l/\Bld d E w base v rs
def Hr (k:Desk) (id:Int):Reply×Bool:=match k.memos.find? (fun m=>m.id == id) with | some m=>(m.reply,true) | none=>(⟨0,0,0,0⟩,false)
theorem Q1 {k:Desk} {id:Int} {j:Nat} (hj:j<k.memos.length) (h:∀ i (hi:i<k.memos.length),i<j -> ¬ k.memos[i].id=id) (e:k.memos[j].id=id):Hr k id=(k.memos[j].reply,true):=by
 have:k.memos.find? (fun m=>m.id == id)=Ac k.memos[j]:=by
  rw [List.find?_eq_some_iff_getElem];exact ⟨by simp [e],j,hj,rfl,fun i hi=>by simpa using h i Bl hi⟩
 simp [Hr,this]
theorem St {k:Desk} {id:Int} (h:∀ i (hi:i<k.memos.length),¬ k.memos[i].id=id):Hr k id=(⟨0,0,0,0⟩,false):=by
 have:k.memos.find? (fun m=>m.id == id)=Ab:=by
  rw [List.find?_eq_none];intro x hx;obtain ⟨i,hi,rfl⟩:=List.getElem_of_mem hx;simpa using h i hi
 simp [Hr,this]
abbrev Px (k:Desk) (s:(Sl×Sl)×Sl):List Value:=[.int .i64 k.yard.now,.int .i64 k.yard.seq,.slice s.1.1.a s.1.1.n s.1.1.c,.slice s.1.2.a s.1.2.n s.1.2.c,.slice s.2.a s.2.n s.2.c,.int .i64 k.fr]
theorem Vf (k:Desk) (s:(Sl×Sl)×Sl) (id:Int) (w:World) (cL:Dd k<=2000000) (h0:Cj.rd w w k s) :
  Calls Am 88 #[Ih k s,J U id] w fun e w'=>e = .returned (.tuple #[I0 (Hr k id).1 (),.bool (Hr k id).2])/\Below w w w':=by
 obtain ⟨s1,⟨A,n,c⟩⟩:=s;have h1:RdL Ed w w (Sl.v ⟨A,n,c⟩) k.memos:=h0.2;obtain ⟨A',c',hv,-⟩:=h1.form;simp only [Sl.v,Value.slice.injEq] at hv;obtain ⟨rfl,rfl,rfl⟩:=hv;have bS:k.memos.length<=2000000:=Ah (Ck Ee _) (by unfold Dd at cL;omega);have D0:=DBox.new 81 (Px k (s1,⟨A,k.memos.length,c⟩)) w rfl;have D1:=D0.below ((Bs _ _).alloc (Bt _) (.cells #[J U 0,J U 0,J U 0,J U 0] 84));have Z1:=DBox.new 84 [J U 0,J U 0,J U 0,J U 0] (w.alloc (.cells (Px k (s1,⟨A,k.memos.length,c⟩)).toArray 81)) (b:=w+1) Bo;have aN:Below w w ((w.alloc (.cells (Px k (s1,⟨A,k.memos.length,c⟩)).toArray 81)).alloc (.cells #[J U 0,J U 0,J U 0,J U 0] 84)):=by repeat (first | exact Bs _ _ | refine Ae ?_ Bp _)
 have tP:((w.alloc (.cells (Px k (s1,⟨A,k.memos.length,c⟩)).toArray 81)).alloc (.cells #[J U 0,J U 0,J U 0,J U 0] 84)).heap.size=w.heap.size+2:=Bo;clear cL D0;go_enter func88,ntmps88;go_wp2_with fail
 generalize ((w.alloc (.cells (Px k (s1,⟨A,k.memos.length,c⟩)).toArray 81)).alloc (.cells #[J U 0,J U 0,J U 0,J U 0] 84))=W at *
 have HsW:=Br tP;have zW:=D1.lt;have zZ:=Z1.lt;clear tP;go_wp2;go_loopw [6] (fun i wr=>∃ j:Nat,j<=k.memos.length/\i = J U j/\Hid (∀ i (hi:i<k.memos.length),i<j -> ¬ k.memos[i].id=id)/\Below W W wr) (fun i _=>k.memos.length - (intOf i).toNat);case atStart=>exact ⟨0,Ag _,rfl,fun i hi h=>absurd h Bl,Bs _ _⟩
 case round =>
  obtain ⟨j,hj,rfl,cQ,aG⟩:=hrel;have hb:Below w w wr:=aN.trans (aG.mono (by rw [HsW.out];omega));have hs:=aG.size;have dl:w.heap.size+1<wr.heap.size:=Bl;have dm:wr.cell? ⟨w,4,Ab⟩=Ac (Aa A k.memos.length c):=(D1.below aG).cell 4 _ rfl;by_cases aA:j<k.memos.length
  ·obtain ⟨b,o,s',rfl,aJ,hr,c0,c1,c2,c3,c4⟩:=(h1.below hb).memo aA;have Z2:=Z1.below aG;have z0:wr.cell? ⟨w+1,0,Ab⟩=Ac (J U 0):=Z2.cell 0 _ rfl;have z1:wr.cell? ⟨w+1,1,Ab⟩=Ac (J U 0):=Z2.cell 1 _ rfl;have z2:wr.cell? ⟨w+1,2,Ab⟩=Ac (J U 0):=Z2.cell 2 _ rfl;have z3:wr.cell? ⟨w+1,3,Ab⟩=Ac (J U 0):=Z2.cell 3 _ rfl;have zf:=Z2.free;by_cases he:k.memos[j].id=id
   ·have e:=Br (Q1 aA (fun i hi h=>cQ.out i hi h) he);have t0:(k.memos[j].id == id)=true:=by simpa using he
    clear he;exact Ajv
   ·exact Ajn
  ·have e:=Br (St (fun i hi=>cQ.out i hi Bl));have Z2:=Z1.below aG;have z0:wr.cell? ⟨w+1,0,Ab⟩=Ac (J U 0):=Z2.cell 0 _ rfl;have z1:wr.cell? ⟨w+1,1,Ab⟩=Ac (J U 0):=Z2.cell 1 _ rfl;have z2:wr.cell? ⟨w+1,2,Ab⟩=Ac (J U 0):=Z2.cell 2 _ rfl;have z3:wr.cell? ⟨w+1,3,Ab⟩=Ac (J U 0):=Z2.cell 3 _ rfl;have zf:=Z2.free;exact Ajv
theorem Vg (k:Desk) (s:(Sl×Sl)×Sl) (id:Int) (w:World) (cL:Dd k<=2000000) (h0:Cj.rd w w k s) :
  Calls Am 32 #[Ih k s,J U id] w fun e w'=>e = .returned (.tuple #[I0 (Hr k id).1 (),.bool (Hr k id).2])/\Below w w w':=by
 obtain ⟨s1,⟨A,n,c⟩⟩:=s;have h1:RdL Ed w w (Sl.v ⟨A,n,c⟩) k.memos:=h0.2;obtain ⟨A',c',hv,-⟩:=h1.form;simp only [Sl.v,Value.slice.injEq] at hv;obtain ⟨rfl,rfl,rfl⟩:=hv;have bS:k.memos.length<=2000000:=Ah (Ck Ee _) (by unfold Dd at cL;omega);have D0:=DBox.new 81 (Px k (s1,⟨A,k.memos.length,c⟩)) w rfl;have D1:=D0.below ((Bs _ _).alloc (Bt _) (.cells #[J U 0,J U 0,J U 0,J U 0] 84));have Z1:=DBox.new 84 [J U 0,J U 0,J U 0,J U 0] (w.alloc (.cells (Px k (s1,⟨A,k.memos.length,c⟩)).toArray 81)) (b:=w+1) Bo;have aN:Below w w ((w.alloc (.cells (Px k (s1,⟨A,k.memos.length,c⟩)).toArray 81)).alloc (.cells #[J U 0,J U 0,J U 0,J U 0] 84)):=by repeat (first | exact Bs _ _ | refine Ae ?_ Bp _)
 have tP:((w.alloc (.cells (Px k (s1,⟨A,k.memos.length,c⟩)).toArray 81)).alloc (.cells #[J U 0,J U 0,J U 0,J U 0] 84)).heap.size=w.heap.size+2:=Bo;clear cL D0;go_enter func32,ntmps32;go_wp2_with fail
 generalize ((w.alloc (.cells (Px k (s1,⟨A,k.memos.length,c⟩)).toArray 81)).alloc (.cells #[J U 0,J U 0,J U 0,J U 0] 84))=W at *
 have HsW:=Br tP;have zW:=D1.lt;have zZ:=Z1.lt;clear tP;go_wp2;go_loopw [11] (fun i wr=>∃ j:Nat,j<=k.memos.length/\i = J U j/\Hid (∀ i (hi:i<k.memos.length),i<j -> ¬ k.memos[i].id=id)/\Below W W wr) (fun i _=>k.memos.length - (intOf i).toNat);case atStart=>exact ⟨0,Ag _,rfl,fun i hi h=>absurd h Bl,Bs _ _⟩
 case round =>
  obtain ⟨j,hj,rfl,cQ,aG⟩:=hrel;have hb:Below w w wr:=aN.trans (aG.mono (by rw [HsW.out];omega));have hs:=aG.size;have dl:w.heap.size+1<wr.heap.size:=Bl;have dm:wr.cell? ⟨w,4,Ab⟩=Ac (Aa A k.memos.length c):=(D1.below aG).cell 4 _ rfl;by_cases aA:j<k.memos.length
  ·obtain ⟨b,o,s',rfl,aJ,hr,c0,c1,c2,c3,c4⟩:=(h1.below hb).memo aA;have Z2:=Z1.below aG;have z0:wr.cell? ⟨w+1,0,Ab⟩=Ac (J U 0):=Z2.cell 0 _ rfl;have z1:wr.cell? ⟨w+1,1,Ab⟩=Ac (J U 0):=Z2.cell 1 _ rfl;have z2:wr.cell? ⟨w+1,2,Ab⟩=Ac (J U 0):=Z2.cell 2 _ rfl;have z3:wr.cell? ⟨w+1,3,Ab⟩=Ac (J U 0):=Z2.cell 3 _ rfl;have zf:=Z2.free;by_cases he:k.memos[j].id=id
   ·have e:=Br (Q1 aA (fun i hi h=>cQ.out i hi h) he);have t0:(k.memos[j].id == id)=true:=by simpa using he
    clear he;exact Ajw
   ·exact Ajn
  ·have e:=Br (St (fun i hi=>cQ.out i hi Bl));have Z2:=Z1.below aG;have z0:wr.cell? ⟨w+1,0,Ab⟩=Ac (J U 0):=Z2.cell 0 _ rfl;have z1:wr.cell? ⟨w+1,1,Ab⟩=Ac (J U 0):=Z2.cell 1 _ rfl;have z2:wr.cell? ⟨w+1,2,Ab⟩=Ac (J U 0):=Z2.cell 2 _ rfl;have z3:wr.cell? ⟨w+1,3,Ab⟩=Ac (J U 0):=Z2.cell 3 _ rfl;have zf:=Z2.free;exact Ajw
theorem Zh (x y:Deed) (s r:Sl) (w:World) (hl:E8 x<=2000000) (hl':E8 y<=2000000) (h:Cq.rd w w x s) (h':Cq.rd w w y r) :
  Calls Am 127 #[Dc x s,Dc y r] w fun e w'=>e = .returned (.bool (decide (x=y)))/\Below w w w':=by
 have bG:∀ W,Below w w W->Cq.rd W W x s:=fun W hW=>Cq.rd_more (Cq.rd_below h hW) hW.size;have cC:∀ W,Below w w W->Cq.rd W W y r:=fun W hW=>Cq.rd_more (Cq.rd_below h' hW) hW.size;have no:∀ {P:Prop},(x=y->P) -> ¬ P->Hid (decide (x=y)=false):=fun f g=>decide_eq_false (fun e=>g (f e));have a1:Below w w (w.alloc (.cells #[J U x.kind,J U x.run,J U x.plan.prio,J U x.plan.most,J U x.plan.wait,J U x.plan.tasks,Aa s.a s.n s.c,J U x.task,J U x.try_,J U x.worker,J U x.draw] 45)):=Bu;have a2:Below (w.alloc (.cells #[J U x.kind,J U x.run,J U x.plan.prio,J U x.plan.most,J U x.plan.wait,J U x.plan.tasks,Aa s.a s.n s.c,J U x.task,J U x.try_,J U x.worker,J U x.draw] 45)) (w.alloc (.cells #[J U x.kind,J U x.run,J U x.plan.prio,J U x.plan.most,J U x.plan.wait,J U x.plan.tasks,Aa s.a s.n s.c,J U x.task,J U x.try_,J U x.worker,J U x.draw] 45)) ((w.alloc (.cells #[J U x.kind,J U x.run,J U x.plan.prio,J U x.plan.most,J U x.plan.wait,J U x.plan.tasks,Aa s.a s.n s.c,J U x.task,J U x.try_,J U x.worker,J U x.draw] 45)).alloc (.cells #[J U y.kind,J U y.run,J U y.plan.prio,J U y.plan.most,J U y.plan.wait,J U y.plan.tasks,Aa r.a r.n r.c,J U y.task,J U y.try_,J U y.worker,J U y.draw] 45)):=Bu;have X:=(DBox.new 45 [J U x.kind,J U x.run,J U x.plan.prio,J U x.plan.most,J U x.plan.wait,J U x.plan.tasks,Aa s.a s.n s.c,J U x.task,J U x.try_,J U x.worker,J U x.draw] w rfl).below a2;have Y:=DBox.new 45 [J U y.kind,J U y.run,J U y.plan.prio,J U y.plan.most,J U y.plan.wait,J U y.plan.tasks,Aa r.a r.n r.c,J U y.task,J U y.try_,J U y.worker,J U y.draw] (w.alloc (.cells #[J U x.kind,J U x.run,J U x.plan.prio,J U x.plan.most,J U x.plan.wait,J U x.plan.tasks,Aa s.a s.n s.c,J U x.task,J U x.try_,J U x.worker,J U x.draw] 45)) (b:=w+1) Bo;have B0:=Bv a1 a2;clear a1 a2;by_cases h0:x.kind=y.kind;case neg =>
  have t0:(x.kind == y.kind)=false:=beq_eq_false_iff_ne.2 h0;have H:=no (fun e=>by rw [e]) h0;clear h0 no bG cC;go_enter func127,ntmps127;exact Aja
 have t0:(x.kind == y.kind)=true:=by simp [h0]
 have H0:=Br h0;clear h0;by_cases h1:x.run=y.run;case neg =>
  have t1:(x.run == y.run)=false:=beq_eq_false_iff_ne.2 h1;have H:=no (fun e=>by rw [e]) h1;clear h1 no bG cC;go_enter func127,ntmps127;exact Aja
 have t1:(x.run == y.run)=true:=by simp [h1]
 have H1:=Br h1;clear h1;go_enter func127,ntmps127;go_wp2_with fail
 generalize ((w.alloc (.cells #[J U x.kind,J U x.run,J U x.plan.prio,J U x.plan.most,J U x.plan.wait,J U x.plan.tasks,Aa s.a s.n s.c,J U x.task,J U x.try_,J U x.worker,J U x.draw] 45)).alloc (.cells #[J U y.kind,J U y.run,J U y.plan.prio,J U y.plan.most,J U y.plan.wait,J U y.plan.tasks,Aa r.a r.n r.c,J U y.task,J U y.try_,J U y.worker,J U y.draw] 45))=w0 at *
 refine (Zg x.plan y.plan s r _ (by unfold E8 at hl;omega) (by unfold E8 at hl';omega) (bG _ B0) (cC _ B0)).mono ?_;rintro e w1 ⟨rfl,b1⟩;replace X:=X.below b1;replace Y:=Y.below b1;replace B0:=Bv B0 b1;have u0:=X.cell 0 _ rfl;have v0:=Y.cell 0 _ rfl;have u1:=X.cell 1 _ rfl;have v1:=Y.cell 1 _ rfl;have u2:=X.cell 2 _ rfl;have v2:=Y.cell 2 _ rfl;have u3:=X.cell 3 _ rfl;have v3:=Y.cell 3 _ rfl;have u4:=X.cell 4 _ rfl;have v4:=Y.cell 4 _ rfl;have u5:=X.cell 5 _ rfl;have v5:=Y.cell 5 _ rfl;have u6:=X.cell 6 _ rfl;have v6:=Y.cell 6 _ rfl;have u7:=X.cell 7 _ rfl;have v7:=Y.cell 7 _ rfl;have u8:=X.cell 8 _ rfl;have v8:=Y.cell 8 _ rfl;have u9:=X.cell 9 _ rfl;have v9:=Y.cell 9 _ rfl;have u10:=X.cell 10 _ rfl;have v10:=Y.cell 10 _ rfl;have us:=X.lt;have vs:=Y.lt;by_cases h2:x.plan=y.plan;case neg =>
  have t2:decide (x.plan=y.plan)=false:=decide_eq_false h2;have H:=no (fun e=>by rw [e]) h2;rw [t2];clear h2 no bG cC t2;exact Aja
 have t2:decide (x.plan=y.plan)=true:=decide_eq_true h2;rw [t2];have H2:=Br h2;clear h2 t2 b1;by_cases h3:x.task=y.task;case neg =>
  have t3:(x.task == y.task)=false:=beq_eq_false_iff_ne.2 h3;have H:=no (fun e=>by rw [e]) h3;clear h3 no bG cC;exact Aja
 have t3:(x.task == y.task)=true:=by simp [h3]
 have H3:=Br h3;clear h3;by_cases h4:x.try_=y.try_;case neg =>
  have t4:(x.try_ == y.try_)=false:=beq_eq_false_iff_ne.2 h4;have H:=no (fun e=>by rw [e]) h4;clear h4 no bG cC;exact Aja
 have t4:(x.try_ == y.try_)=true:=by simp [h4]
 have H4:=Br h4;clear h4;by_cases h5:x.worker=y.worker;case neg =>
  have t5:(x.worker == y.worker)=false:=beq_eq_false_iff_ne.2 h5;have H:=no (fun e=>by rw [e]) h5;clear h5 no bG cC;exact Aja
 have t5:(x.worker == y.worker)=true:=by simp [h5]
 have H5:=Br h5;clear h5;by_cases h6:x.draw=y.draw;case neg =>
  have t6:(x.draw == y.draw)=false:=beq_eq_false_iff_ne.2 h6;have H:=no (fun e=>by rw [e]) h6;clear h6 no bG cC;exact Aja
 have t6:(x.draw == y.draw)=true:=by simp [h6]
 have H6:=Br h6;clear h6;have H:Hid (decide (x=y)=true):=decide_eq_true (by
  have e0:=H0.out ;have e1:=H1.out ;have e2:=H2.out ;have e3:=H3.out ;have e4:=H4.out ;have e5:=H5.out ;have e6:=H6.out;cases x;cases y;simp only at e0 e1 e2 e3 e4 e5 e6;subst e0 e1 e2 e3 e4 e5 e6;rfl)
 clear no bG cC;go_wp2;go_ret;exact ⟨Bx H.out.symm,B0⟩
def Lb (x:Yard):Nat:=C9 Db x.shelf+C9 Fd x.runs
def Zi (k:Int) (x:Yard):Yard:=⟨x.now,x.seq,(mkL Jn Db k x.shelf),(mkL Pt Fd (k+(C9 Db x.shelf:Nat)) x.runs)⟩
theorem R7 (x:Yard):Lb x<=13 * Ca x:=by
 have h0:=Et (num:=Db) (cnt:=Cn) (K:=13) Ka x.shelf;have h1:=Et (num:=Fd) (cnt:=Co) (K:=13) Nb x.runs;unfold Lb Ca;omega
theorem Zj (x:Yard) (s:Sl×Sl) (F:List Nat) (k:Int) (w:World) (hl:Ca x<=2000000) (cE:0<=k) (fC:k<=100000000) (h:Bw.ow w F x s) :
  Calls Am 115 #[Ds x s,J U k] w (Mu Bw F (Zi k x) s (k+(Lb x:Nat)) w):=by
 have hF:=Bw.ow_lt h;have D:=DBox.new 31 [J U x.now,J U x.seq,Aa s.1.a s.1.n s.1.c,Aa s.2.a s.2.n s.2.c] w rfl;have B0:Below w w (w.alloc (.cells #[J U x.now,J U x.seq,Aa s.1.a s.1.n s.1.c,Aa s.2.a s.2.n s.2.c] 31)):=Bu;have n0:C9 Db x.shelf<=13 * (Ek Cn x.shelf):=Et (num:=Db) (cnt:=Cn) (K:=13) Ka x.shelf;have n1:C9 Fd x.runs<=13 * (Ek Co x.runs):=Et (num:=Fd) (cnt:=Co) (K:=13) Nb x.runs;have fP:Ek Cn x.shelf<=2000000/\Ek Co x.runs<=2000000:=by unfold Ca at hl;omega
 go_enter func115,ntmps115;go_wp2_with fail
 generalize (w.alloc (.cells #[J U x.now,J U x.seq,Aa s.1.a s.1.n s.1.c,Aa s.2.a s.2.n s.2.c] 31))=w0 at *
 have C0:=Chg.of_below F B0;obtain ⟨F1,F2,rfl,hn,o1,o2⟩:=h;have uF:=Mm hn;have o1:=OwL.below o1 B0;have o2:=OwL.below o2 B0;refine (Tj x.shelf s.1 F1 k w0 fP.1 Bl Bl o1).mono ?_;rintro e w1 ⟨rfl,m1,g1⟩;replace D:=D.chg g1 (fun hx=>by have:=hF _ (Bf _ hx);omega);replace o2:=OwL.chg o2 g1 uF.2;have c0:w1.cell? ⟨w,0,Ab⟩=Ac (J U x.now):=D.cell 0 _ rfl;have c1:w1.cell? ⟨w,1,Ab⟩=Ac (J U x.seq):=D.cell 1 _ rfl;have c2:w1.cell? ⟨w,2,Ab⟩=Ac (Aa s.1.a s.1.n s.1.c):=D.cell 2 _ rfl;have c3:w1.cell? ⟨w,3,Ab⟩=Ac (Aa s.2.a s.2.n s.2.c):=D.cell 3 _ rfl;go_wp2_with fail
 refine (Y5 x.runs s.2 F2 (k+(C9 Db x.shelf:Nat)) w1 fP.2 Bl Bl o2).mono ?_;rintro e w2 ⟨rfl,m2,g2⟩;replace D:=D.chg g2 (fun hx=>by have:=hF _ (Be _ hx);omega);replace m1:=OwL.chg m1 g2 uF.1;go_wp2;go_ret;refine ⟨Cy (by unfold Lb;push_cast;omega),?_,?_⟩
 ·exact ⟨F1,F2,rfl,hn,m1,m2⟩
 ·exact Amk
theorem Zl (x:Yard) (s:Sl×Sl) (k:Int) (w:World) (hl:Ca x<=2000000) (cE:0<=k) (fC:k<=100000000) (h:Bw.rd w w (Zi k x) s) :
  Calls Am 118 #[Ds x s,J U k] w fun e w'=>e = .returned (J U (k+(Lb x:Nat)))/\Below w w w':=by
 have bG:∀ W,Below w w W->Bw.rd W W (Zi k x) s:=fun W hW=>Bw.rd_more (Bw.rd_below h hW) hW.size;have D:=DBox.new 31 [J U x.now,J U x.seq,Aa s.1.a s.1.n s.1.c,Aa s.2.a s.2.n s.2.c] w rfl;have B0:Below w w (w.alloc (.cells #[J U x.now,J U x.seq,Aa s.1.a s.1.n s.1.c,Aa s.2.a s.2.n s.2.c] 31)):=Bu;have n0:C9 Db x.shelf<=13 * (Ek Cn x.shelf):=Et (num:=Db) (cnt:=Cn) (K:=13) Ka x.shelf;have n1:C9 Fd x.runs<=13 * (Ek Co x.runs):=Et (num:=Fd) (cnt:=Co) (K:=13) Nb x.runs;have fP:Ek Cn x.shelf<=2000000/\Ek Co x.runs<=2000000:=by unfold Ca at hl;omega
 go_enter func118,ntmps118;go_wp2_with fail
 generalize (w.alloc (.cells #[J U x.now,J U x.seq,Aa s.1.a s.1.n s.1.c,Aa s.2.a s.2.n s.2.c] 31))=w0 at *
 refine (Tk x.shelf s.1 k w0 fP.1 Bl Bl ((bG _ B0).1)).mono ?_;rintro e w1 ⟨rfl,bw1⟩;replace D:=D.below bw1;replace B0:=Bv B0 bw1;have c0:w1.cell? ⟨w,0,Ab⟩=Ac (J U x.now):=D.cell 0 _ rfl;have c1:w1.cell? ⟨w,1,Ab⟩=Ac (J U x.seq):=D.cell 1 _ rfl;have c2:w1.cell? ⟨w,2,Ab⟩=Ac (Aa s.1.a s.1.n s.1.c):=D.cell 2 _ rfl;have c3:w1.cell? ⟨w,3,Ab⟩=Ac (Aa s.2.a s.2.n s.2.c):=D.cell 3 _ rfl;go_wp2_with fail
 refine (Y7 x.runs s.2 (k+(C9 Db x.shelf:Nat)) w1 fP.2 Bl Bl ((bG _ B0).2)).mono ?_;rintro e w2 ⟨rfl,bw2⟩;replace D:=D.below bw2;replace B0:=Bv B0 bw2;go_wp2;go_ret;exact ⟨Cy (by unfold Lb;push_cast;omega),B0⟩
def Op (x:Desk):Nat:=Lb x.yard+C9 En x.memos
def Vh (k:Int) (x:Desk):Desk:=⟨(Zi k x.yard),(mkL Ns En (k+(Lb x.yard:Nat)) x.memos),x.fr⟩
theorem X8 (x:Desk):Op x<=13 * Dd x:=by
 have h0:=R7 x.yard;have h1:=Et (num:=En) (cnt:=Ee) (K:=13) L8 x.memos;unfold Op Dd;omega
theorem Q2 (x:Desk) (s:(Sl×Sl)×Sl) (F:List Nat) (k:Int) (w:World) (hl:Dd x<=2000000) (cE:0<=k) (fC:k<=100000000) (h:Cj.ow w F x s) :
  Calls Am 56 #[Ih x s,J U k] w (Mu Cj F (Vh k x) s (k+(Op x:Nat)) w):=by
 have hF:=Cj.ow_lt h;have D:=DBox.new 81 [J U x.yard.now,J U x.yard.seq,Aa s.1.1.a s.1.1.n s.1.1.c,Aa s.1.2.a s.1.2.n s.1.2.c,Aa s.2.a s.2.n s.2.c,J U x.fr] w rfl;have B0:Below w w (w.alloc (.cells #[J U x.yard.now,J U x.yard.seq,Aa s.1.1.a s.1.1.n s.1.1.c,Aa s.1.2.a s.1.2.n s.1.2.c,Aa s.2.a s.2.n s.2.c,J U x.fr] 81)):=Bu;have n0:Lb x.yard<=13 * (Ca x.yard):=R7 x.yard;have n1:C9 En x.memos<=13 * (Ek Ee x.memos):=Et (num:=En) (cnt:=Ee) (K:=13) L8 x.memos;have fP:Ca x.yard<=2000000/\Ek Ee x.memos<=2000000:=by unfold Dd at hl;omega
 go_enter func56,ntmps56;go_wp2_with fail
 generalize (w.alloc (.cells #[J U x.yard.now,J U x.yard.seq,Aa s.1.1.a s.1.1.n s.1.1.c,Aa s.1.2.a s.1.2.n s.1.2.c,Aa s.2.a s.2.n s.2.c,J U x.fr] 81))=w0 at *
 have C0:=Chg.of_below F B0;obtain ⟨F1,F2,rfl,hn,o1,o2⟩:=h;have uF:=Mm hn;have o1:=Bw.ow_below o1 B0;have o2:=OwL.below o2 B0;refine (Zj x.yard s.1 F1 k w0 fP.1 Bl Bl o1).mono ?_;rintro e w1 ⟨rfl,m1,g1⟩;replace D:=D.chg g1 (fun hx=>by have:=hF _ (Bf _ hx);omega);replace o2:=OwL.chg o2 g1 uF.2;have c0:w1.cell? ⟨w,0,Ab⟩=Ac (J U x.yard.now):=D.cell 0 _ rfl;have c1:w1.cell? ⟨w,1,Ab⟩=Ac (J U x.yard.seq):=D.cell 1 _ rfl;have c2:w1.cell? ⟨w,2,Ab⟩=Ac (Aa s.1.1.a s.1.1.n s.1.1.c):=D.cell 2 _ rfl;have c3:w1.cell? ⟨w,3,Ab⟩=Ac (Aa s.1.2.a s.1.2.n s.1.2.c):=D.cell 3 _ rfl;have c4:w1.cell? ⟨w,4,Ab⟩=Ac (Aa s.2.a s.2.n s.2.c):=D.cell 4 _ rfl;have c5:w1.cell? ⟨w,5,Ab⟩=Ac (J U x.fr):=D.cell 5 _ rfl;go_wp2_with fail
 refine (W8 x.memos s.2 F2 (k+(Lb x.yard:Nat)) w1 fP.2 Bl Bl o2).mono ?_;rintro e w2 ⟨rfl,m2,g2⟩;replace D:=D.chg g2 (fun hx=>by have:=hF _ (Be _ hx);omega);replace m1:=Bw.ow_chg m1 g2 uF.1;go_wp2;go_ret;refine ⟨Cy (by unfold Op;push_cast;omega),?_,?_⟩
 ·exact ⟨F1,F2,rfl,hn,m1,m2⟩
 ·exact Amk
theorem Q3 (x:Desk) (s:(Sl×Sl)×Sl) (k:Int) (w:World) (hl:Dd x<=2000000) (cE:0<=k) (fC:k<=100000000) (h:Cj.rd w w (Vh k x) s) :
  Calls Am 58 #[Ih x s,J U k] w fun e w'=>e = .returned (J U (k+(Op x:Nat)))/\Below w w w':=by
 have bG:∀ W,Below w w W->Cj.rd W W (Vh k x) s:=fun W hW=>Cj.rd_more (Cj.rd_below h hW) hW.size;have D:=DBox.new 81 [J U x.yard.now,J U x.yard.seq,Aa s.1.1.a s.1.1.n s.1.1.c,Aa s.1.2.a s.1.2.n s.1.2.c,Aa s.2.a s.2.n s.2.c,J U x.fr] w rfl;have B0:Below w w (w.alloc (.cells #[J U x.yard.now,J U x.yard.seq,Aa s.1.1.a s.1.1.n s.1.1.c,Aa s.1.2.a s.1.2.n s.1.2.c,Aa s.2.a s.2.n s.2.c,J U x.fr] 81)):=Bu;have n0:Lb x.yard<=13 * (Ca x.yard):=R7 x.yard;have n1:C9 En x.memos<=13 * (Ek Ee x.memos):=Et (num:=En) (cnt:=Ee) (K:=13) L8 x.memos;have fP:Ca x.yard<=2000000/\Ek Ee x.memos<=2000000:=by unfold Dd at hl;omega
 go_enter func58,ntmps58;go_wp2_with fail
 generalize (w.alloc (.cells #[J U x.yard.now,J U x.yard.seq,Aa s.1.1.a s.1.1.n s.1.1.c,Aa s.1.2.a s.1.2.n s.1.2.c,Aa s.2.a s.2.n s.2.c,J U x.fr] 81))=w0 at *
 refine (Zl x.yard s.1 k w0 fP.1 Bl Bl ((bG _ B0).1)).mono ?_;rintro e w1 ⟨rfl,bw1⟩;replace D:=D.below bw1;replace B0:=Bv B0 bw1;have c0:w1.cell? ⟨w,0,Ab⟩=Ac (J U x.yard.now):=D.cell 0 _ rfl;have c1:w1.cell? ⟨w,1,Ab⟩=Ac (J U x.yard.seq):=D.cell 1 _ rfl;have c2:w1.cell? ⟨w,2,Ab⟩=Ac (Aa s.1.1.a s.1.1.n s.1.1.c):=D.cell 2 _ rfl;have c3:w1.cell? ⟨w,3,Ab⟩=Ac (Aa s.1.2.a s.1.2.n s.1.2.c):=D.cell 3 _ rfl;have c4:w1.cell? ⟨w,4,Ab⟩=Ac (Aa s.2.a s.2.n s.2.c):=D.cell 4 _ rfl;have c5:w1.cell? ⟨w,5,Ab⟩=Ac (J U x.fr):=D.cell 5 _ rfl;go_wp2_with fail
 refine (W9 x.memos s.2 (k+(Lb x.yard:Nat)) w1 fP.2 Bl Bl ((bG _ B0).2)).mono ?_;rintro e w2 ⟨rfl,bw2⟩;replace D:=D.below bw2;replace B0:=Bv B0 bw2;go_wp2;go_ret;exact ⟨Cy (by unfold Op;push_cast;omega),B0⟩
open Go.ChangeShapes Go.WideShapes Go.ChangeAt Go.RowKit Go.Deep
theorem Iy:Am.cellsOf 3=1:=Bm
section
variable {H:Type} {enc:TypeId×Value->H} {w:World} {spare:Nat->Bool} {held:Bool} {fuel:Nat} {cs:List Value} {x:DataW H×List MemPlace}
theorem Adr:Am.cellsOf 283=2:=Bm
theorem Afg (h:DataW.trod enc Am w 0 spare held fuel 283 cs=Ac x):∃ (p:Edge) (_s:Unit),cs=[.int .i64 p.fr,.int .i64 p.to]/\Ep.rd w w p _s/\Ux p:=by
 obtain ⟨xs,n',_,_,aE,dG,hf⟩:=DataW.trod_struct underlying283 h;rw [Adr] at aE;have g0:=hf 0 _ rfl;have g1:=hf 1 _ rfl;match xs,dG,cs,aE with
 | [y0,y1],_,[c0,c1],_ =>
  obtain ⟨a0,e0,_,w0⟩:=DataW.trod_int underlying3 g0;obtain ⟨a1,e1,_,w1⟩:=DataW.trod_int underlying3 g1;simp [Iy] at e0 e1;exact ⟨⟨a0,a1⟩,(),by simp [e0,e1],trivial,⟨Hj w0,Hj w1⟩⟩
theorem Abk:Am.cellsOf 111=1:=Bm
theorem Ads (h:DataW.trod enc Am w 0 spare held fuel 111 cs=Ac x):∃ (s:Sl) (l:List (Edge)),cs=[.slice s.a s.n s.c]/\RdL Ep w w s.v l/\wfL Ux l:=by
 haveI:Inhabited ((Edge)×Ep.S):=⟨(⟨0,0⟩,())⟩
 obtain ⟨v,rs,h1,h2,h3,h4⟩:=Kl Ep.enc (fun z:(Edge)×Unit=>Ep.rd w w z.1 z.2/\Ux z.1) underlying111 Bm Bq (fun n cs' y hy=>by
  obtain ⟨p0,s0,e0,h0,k0⟩:=Afg hy;exact ⟨(p0,s0),e0,h0,k0⟩) h
 obtain ⟨A,c,hv,hc,hr⟩:=id h2;refine ⟨⟨A,rs.length,c⟩,rs.map (·.1),by rw [h1,hv],⟨rs,rfl,by rw [hv] at h2;exact h2,fun r hr=>(h3 r hr).1⟩,by rw [Ar];simpa [maxLen] using h4,fun z hz=>?_⟩;obtain ⟨r,hr,rfl⟩:=List.mem_map.1 hz;exact (h3 r hr).2
theorem Qk:Am.cellsOf 113=5:=Bm
theorem Ya (h:DataW.trod enc Am w 0 spare held fuel 113 cs=Ac x):∃ (p:Plan) (s:Sl),cs=[.int .i64 p.prio,.int .i64 p.most,.int .i64 p.wait,.int .i64 p.tasks,.slice s.a s.n s.c]/\Ce.rd w w p s/\Y2 p:=by
 obtain ⟨xs,n',_,_,aE,dG,hf⟩:=DataW.trod_struct underlying113 h;rw [Qk] at aE;have g0:=hf 0 _ rfl;have g1:=hf 1 _ rfl;have g2:=hf 2 _ rfl;have g3:=hf 3 _ rfl;have g4:=hf 4 _ rfl;match xs,dG,cs,aE with
 | [y0,y1,y2,y3,y4],_,[c0,c1,c2,c3,c4],_ =>
  obtain ⟨a0,e0,_,w0⟩:=DataW.trod_int underlying3 g0;obtain ⟨a1,e1,_,w1⟩:=DataW.trod_int underlying3 g1;obtain ⟨a2,e2,_,w2⟩:=DataW.trod_int underlying3 g2;obtain ⟨a3,e3,_,w3⟩:=DataW.trod_int underlying3 g3;obtain ⟨s4,a4,e4,r4,w4⟩:=Ads g4;simp [Iy,Abk] at e0 e1 e2 e3 e4;exact ⟨⟨a0,a1,a2,a3,a4⟩,s4,by simp [e0,e1,e2,e3,e4],r4,⟨Hj w0,Hj w1,Hj w2,Hj w3,w4⟩⟩
theorem Adt:Am.cellsOf 115=11:=Bm
theorem Afh (h:DataW.trod enc Am w 0 spare held fuel 115 cs=Ac x):∃ (p:Deed) (s:Sl),cs=[.int .i64 p.kind,.int .i64 p.run,.int .i64 p.plan.prio,.int .i64 p.plan.most,.int .i64 p.plan.wait,.int .i64 p.plan.tasks,.slice s.a s.n s.c,.int .i64 p.task,.int .i64 p.try_,.int .i64 p.worker,.int .i64 p.draw]/\Cq.rd w w p s/\Y8 p:=by
 obtain ⟨xs,n',_,_,aE,dG,hf⟩:=DataW.trod_struct underlying115 h;rw [Adt] at aE;have g0:=hf 0 _ rfl;have g1:=hf 1 _ rfl;have g2:=hf 2 _ rfl;have g3:=hf 3 _ rfl;have g4:=hf 4 _ rfl;have g5:=hf 5 _ rfl;have g6:=hf 6 _ rfl;match xs,dG,cs,aE with
 | [y0,y1,y2,y3,y4,y5,y6],_,[c0,c1,c2,c3,c4,c5,c6,c7,c8,c9,c10],_ =>
  obtain ⟨a0,e0,_,w0⟩:=DataW.trod_int underlying3 g0;obtain ⟨a1,e1,_,w1⟩:=DataW.trod_int underlying3 g1;obtain ⟨a2,s2,e2,r2,w2⟩:=Ya g2;obtain ⟨a3,e3,_,w3⟩:=DataW.trod_int underlying3 g3;obtain ⟨a4,e4,_,w4⟩:=DataW.trod_int underlying3 g4;obtain ⟨a5,e5,_,w5⟩:=DataW.trod_int underlying3 g5;obtain ⟨a6,e6,_,w6⟩:=DataW.trod_int underlying3 g6;simp [Iy,Qk] at e0 e1 e2 e3 e4 e5 e6;exact ⟨⟨a0,a1,a2,a3,a4,a5,a6⟩,s2,by simp [e0,e1,e2,e3,e4,e5,e6],r2,⟨Hj w0,Hj w1,w2,Hj w3,Hj w4,Hj w5,Hj w6⟩⟩
theorem Su:Am.cellsOf 223=4:=Bm
theorem Adu (h:DataW.trod enc Am w 0 spare held fuel 223 cs=Ac x):∃ (p:Reply) (_s:Unit),cs=[.int .i64 p.code,.int .i64 p.run,.int .i64 p.task,.int .i64 p.try_]/\Ib.rd w w p _s/\Aeo p:=by
 obtain ⟨xs,n',_,_,aE,dG,hf⟩:=DataW.trod_struct underlying223 h;rw [Su] at aE;exact Aik
theorem Abl:Am.cellsOf 299=4:=Bm
theorem Adv (h:DataW.trod enc Am w 0 spare held fuel 299 cs=Ac x):∃ (p:Entry) (_s:Unit),cs=[.int .i64 p.prio,.int .i64 p.seq,.int .i64 p.run,.int .i64 p.task]/\By.rd w w p _s/\Qy p:=by
 obtain ⟨xs,n',_,_,aE,dG,hf⟩:=DataW.trod_struct underlying299 h;rw [Abl] at aE;exact Aik
theorem Abm (h:DataW.trod enc Am w 0 spare held fuel 274 cs=Ac x):∃ (s:Sl) (l:List (Entry)),cs=[.slice s.a s.n s.c]/\RdL By w w s.v l/\wfL Qy l:=by
 haveI:Inhabited ((Entry)×By.S):=⟨(⟨0,0,0,0⟩,())⟩
 obtain ⟨v,rs,h1,h2,h3,h4⟩:=Kl By.enc (fun z:(Entry)×Unit=>By.rd w w z.1 z.2/\Qy z.1) underlying274 Bm Bq (fun n cs' y hy=>by
  obtain ⟨p0,s0,e0,h0,k0⟩:=Adv hy;exact ⟨(p0,s0),e0,h0,k0⟩) h
 obtain ⟨A,c,hv,hc,hr⟩:=id h2;refine ⟨⟨A,rs.length,c⟩,rs.map (·.1),by rw [h1,hv],⟨rs,rfl,by rw [hv] at h2;exact h2,fun r hr=>(h3 r hr).1⟩,by rw [Ar];simpa [maxLen] using h4,fun z hz=>?_⟩;obtain ⟨r,hr,rfl⟩:=List.mem_map.1 hz;exact (h3 r hr).2
theorem Adw:Am.cellsOf 305=4:=Bm
theorem Afi (h:DataW.trod enc Am w 0 spare held fuel 305 cs=Ac x):∃ (p:Task) (_s:Unit),cs=[.int .i64 p.state,.int .i64 p.need,.int .i64 p.try_,.int .i64 p.until_]/\C8.rd w w p _s/\Uy p:=by
 obtain ⟨xs,n',_,_,aE,dG,hf⟩:=DataW.trod_struct underlying305 h;rw [Adw] at aE;exact Aik
theorem Abn:Am.cellsOf 276=1:=Bm
theorem Adx (h:DataW.trod enc Am w 0 spare held fuel 276 cs=Ac x):∃ (s:Sl) (l:List (Task)),cs=[.slice s.a s.n s.c]/\RdL C8 w w s.v l/\wfL Uy l:=by
 haveI:Inhabited ((Task)×C8.S):=⟨(⟨0,0,0,0⟩,())⟩
 obtain ⟨v,rs,h1,h2,h3,h4⟩:=Kl C8.enc (fun z:(Task)×Unit=>C8.rd w w z.1 z.2/\Uy z.1) underlying276 Bm Bq (fun n cs' y hy=>by
  obtain ⟨p0,s0,e0,h0,k0⟩:=Afi hy;exact ⟨(p0,s0),e0,h0,k0⟩) h
 obtain ⟨A,c,hv,hc,hr⟩:=id h2;refine ⟨⟨A,rs.length,c⟩,rs.map (·.1),by rw [h1,hv],⟨rs,rfl,by rw [hv] at h2;exact h2,fun r hr=>(h3 r hr).1⟩,by rw [Ar];simpa [maxLen] using h4,fun z hz=>?_⟩;obtain ⟨r,hr,rfl⟩:=List.mem_map.1 hz;exact (h3 r hr).2
theorem Afj:Am.cellsOf 278=8:=Bm
theorem Agr (h:DataW.trod enc Am w 0 spare held fuel 278 cs=Ac x):∃ (p:Run) (s:Sl×Sl),cs=[.int .i64 p.id,.int .i64 p.plan.prio,.int .i64 p.plan.most,.int .i64 p.plan.wait,.int .i64 p.plan.tasks,.slice s.1.a s.1.n s.1.c,.int .i64 p.state,.slice s.2.a s.2.n s.2.c]/\Cf.rd w w p s/\U4 p:=by
 obtain ⟨xs,n',_,_,aE,dG,hf⟩:=DataW.trod_struct underlying278 h;rw [Afj] at aE;have g0:=hf 0 _ rfl;have g1:=hf 1 _ rfl;have g2:=hf 2 _ rfl;have g3:=hf 3 _ rfl;match xs,dG,cs,aE with
 | [y0,y1,y2,y3],_,[c0,c1,c2,c3,c4,c5,c6,c7],_ =>
  obtain ⟨a0,e0,_,w0⟩:=DataW.trod_int underlying3 g0;obtain ⟨a1,s1,e1,r1,w1⟩:=Ya g1;obtain ⟨a2,e2,_,w2⟩:=DataW.trod_int underlying3 g2;obtain ⟨s3,a3,e3,r3,w3⟩:=Adx g3;simp [Iy,Qk,Abn] at e0 e1 e2 e3;exact ⟨⟨a0,a1,a2,a3⟩,(s1,s3),by simp [e0,e1,e2,e3],⟨r1,r3⟩,⟨Hj w0,w1,Hj w2,w3⟩⟩
theorem Ady:Am.cellsOf 105=1:=Bm
theorem Afk (h:DataW.trod enc Am w 0 spare held fuel 105 cs=Ac x):∃ (s:Sl) (l:List (Run)),cs=[.slice s.a s.n s.c]/\RdL Cf w w s.v l/\wfL U4 l:=by
 haveI:Inhabited ((Run)×Cf.S):=⟨(⟨0,⟨0,0,0,0,[]⟩,0,[]⟩,(⟨Ab,0,0⟩,⟨Ab,0,0⟩))⟩
 obtain ⟨v,rs,h1,h2,h3,h4⟩:=Kl Cf.enc (fun z:(Run)×Sl×Sl=>Cf.rd w w z.1 z.2/\U4 z.1) underlying105 Bm Bq (fun n cs' y hy=>by
  obtain ⟨p0,s0,e0,h0,k0⟩:=Agr hy;exact ⟨(p0,s0),e0,h0,k0⟩) h
 obtain ⟨A,c,hv,hc,hr⟩:=id h2;refine ⟨⟨A,rs.length,c⟩,rs.map (·.1),by rw [h1,hv],⟨rs,rfl,by rw [hv] at h2;exact h2,fun r hr=>(h3 r hr).1⟩,by rw [Ar];simpa [maxLen] using h4,fun z hz=>?_⟩;obtain ⟨r,hr,rfl⟩:=List.mem_map.1 hz;exact (h3 r hr).2
theorem Xe:Am.cellsOf 104=1:=Bm
theorem Zm (h:DataW.trod enc Am w 0 spare held fuel 104 cs=Ac x):∃ (s:Sl) (l:List (List Entry)),cs=[.slice s.a s.n s.c]/\RdL (Dt.list By) w w s.v l/\wfL Ok l:=by
 haveI:Inhabited ((List Entry)×(Dt.list By).S):=⟨([],⟨Ab,0,0⟩)⟩
 obtain ⟨v,rs,h1,h2,h3,h4⟩:=Kl (Dt.list By).enc (fun z:(List Entry)×Sl=>(Dt.list By).rd w w.heap.size z.1 z.2/\Ok z.1) underlying104 Bm Bq (fun n cs' y hy=>by
  obtain ⟨s0,p0,e0,h0,k0⟩:=Abm hy;exact ⟨(p0,s0),e0,h0,k0⟩) h
 obtain ⟨A,c,hv,hc,hr⟩:=id h2;refine ⟨⟨A,rs.length,c⟩,rs.map (·.1),by rw [h1,hv],⟨rs,rfl,by rw [hv] at h2;exact h2,fun r hr=>(h3 r hr).1⟩,by rw [Ar];simpa [maxLen] using h4,fun z hz=>?_⟩;obtain ⟨r,hr,rfl⟩:=List.mem_map.1 hz;exact (h3 r hr).2
theorem Vi:Am.cellsOf 107=4:=Bm
theorem Afl (h:DataW.trod enc Am w 0 spare held fuel 107 cs=Ac x):∃ (p:Yard) (s:Sl×Sl),cs=[.int .i64 p.now,.int .i64 p.seq,.slice s.1.a s.1.n s.1.c,.slice s.2.a s.2.n s.2.c]/\Bw.rd w w p s/\Adh p:=by
 obtain ⟨xs,n',_,_,aE,dG,hf⟩:=DataW.trod_struct underlying107 h;rw [Vi] at aE;have g0:=hf 0 _ rfl;have g1:=hf 1 _ rfl;have g2:=hf 2 _ rfl;have g3:=hf 3 _ rfl;match xs,dG,cs,aE with
 | [y0,y1,y2,y3],_,[c0,c1,c2,c3],_ =>
  obtain ⟨a0,e0,_,w0⟩:=DataW.trod_int underlying3 g0;obtain ⟨a1,e1,_,w1⟩:=DataW.trod_int underlying3 g1;obtain ⟨s2,a2,e2,r2,w2⟩:=Zm g2;obtain ⟨s3,a3,e3,r3,w3⟩:=Afk g3;simp [Iy,Xe,Ady] at e0 e1 e2 e3;exact ⟨⟨a0,a1,a2,a3⟩,(s2,s3),by simp [e0,e1,e2,e3],⟨r2,r3⟩,⟨Hj w0,Hj w1,w2,w3⟩⟩
theorem Adz:Am.cellsOf 225=5:=Bm
theorem Afm (h:DataW.trod enc Am w 0 spare held fuel 225 cs=Ac x):∃ (p:Memo) (_s:Unit),cs=[.int .i64 p.id,.int .i64 p.reply.code,.int .i64 p.reply.run,.int .i64 p.reply.task,.int .i64 p.reply.try_]/\Ed.rd w w p _s/\U3 p:=by
 obtain ⟨xs,n',_,_,aE,dG,hf⟩:=DataW.trod_struct underlying225 h;rw [Adz] at aE;have g0:=hf 0 _ rfl;have g1:=hf 1 _ rfl;match xs,dG,cs,aE with
 | [y0,y1],_,[c0,c1,c2,c3,c4],_ =>
  obtain ⟨a0,e0,_,w0⟩:=DataW.trod_int underlying3 g0;obtain ⟨a1,s1,e1,r1,w1⟩:=Adu g1;simp [Iy,Su] at e0 e1;exact ⟨⟨a0,a1⟩,(),by simp [e0,e1],trivial,⟨Hj w0,w1⟩⟩
theorem Abo:Am.cellsOf 108=1:=Bm
theorem Ad0 (h:DataW.trod enc Am w 0 spare held fuel 108 cs=Ac x):∃ (s:Sl) (l:List (Memo)),cs=[.slice s.a s.n s.c]/\RdL Ed w w s.v l/\wfL U3 l:=by
 haveI:Inhabited ((Memo)×Ed.S):=⟨(⟨0,⟨0,0,0,0⟩⟩,())⟩
 obtain ⟨v,rs,h1,h2,h3,h4⟩:=Kl Ed.enc (fun z:(Memo)×Unit=>Ed.rd w w z.1 z.2/\U3 z.1) underlying108 Bm Bq (fun n cs' y hy=>by
  obtain ⟨p0,s0,e0,h0,k0⟩:=Afm hy;exact ⟨(p0,s0),e0,h0,k0⟩) h
 obtain ⟨A,c,hv,hc,hr⟩:=id h2;refine ⟨⟨A,rs.length,c⟩,rs.map (·.1),by rw [h1,hv],⟨rs,rfl,by rw [hv] at h2;exact h2,fun r hr=>(h3 r hr).1⟩,by rw [Ar];simpa [maxLen] using h4,fun z hz=>?_⟩;obtain ⟨r,hr,rfl⟩:=List.mem_map.1 hz;exact (h3 r hr).2
theorem Ad1:Am.cellsOf 110=6:=Bm
theorem Afn (h:DataW.trod enc Am w 0 spare held fuel 110 cs=Ac x):∃ (p:Desk) (s:(Sl×Sl)×Sl),cs=[.int .i64 p.yard.now,.int .i64 p.yard.seq,.slice s.1.1.a s.1.1.n s.1.1.c,.slice s.1.2.a s.1.2.n s.1.2.c,.slice s.2.a s.2.n s.2.c,.int .i64 p.fr]/\Cj.rd w w p s/\Zf p:=by
 obtain ⟨xs,n',_,_,aE,dG,hf⟩:=DataW.trod_struct underlying110 h;rw [Ad1] at aE;have g0:=hf 0 _ rfl;have g1:=hf 1 _ rfl;have g2:=hf 2 _ rfl;match xs,dG,cs,aE with
 | [y0,y1,y2],_,[c0,c1,c2,c3,c4,c5],_ =>
  obtain ⟨a0,s0,e0,r0,w0⟩:=Afl g0;obtain ⟨s1,a1,e1,r1,w1⟩:=Ad0 g1;obtain ⟨a2,e2,_,w2⟩:=DataW.trod_int underlying3 g2;simp [Vi,Abo,Iy] at e0 e1 e2;exact ⟨⟨a0,a1,a2⟩,(s0,s1),by simp [e0,e1,e2],⟨r0,r1⟩,⟨w0,w1,Hj w2⟩⟩
end
end Go.Proofs.YtecnbnbopcblgaaGreat
