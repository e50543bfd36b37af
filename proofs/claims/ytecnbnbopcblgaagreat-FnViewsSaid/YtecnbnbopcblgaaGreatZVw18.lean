/-
  What a deed leaves of a yard (plain): a run comes, goes, a task is handed out; all deeds. Plain laws of views: no live run of a right yard is stuck; which runs 
-/
import Derived.Test.YtecnbnbopcblgaaGreatZVw2
import Derived.Test.YtecnbnbopcblgaaGreatZVw8
import Derived.Test.YtecnbnbopcblgaaGreatZVw12
import Derived.Test.YtecnbnbopcblgaaGreatZVw17
import Derived.Deep.DeepCutAuto
import Derived.Deep.RegionHeld3
namespace Go.Proofs.YtecnbnbopcblgaaGreat
open Go.RowKit
set_option maxRecDepth 100000
set_option maxHeartbeats 4000000
set_option linter.unusedVariables false
set_option linter.unusedSimpArgs false
open Value renaming int->J,slice->Aa
open IntKind renaming i64->Ab
open Option renaming none->Ac
open Int renaming toNat_natCast->Ap,eq_ofNat_of_zero_le->Aq
open IntWalk renaming i64_in->Ar
open List renaming length_map->Au,getElem_mem->Ax,mem_append->Bi
open Go.Proofs.Tryz
theorem Aia {α:Type} {p:α->Bool} {l:List α} {k:Nat} (h:He p l=(k:Int)) (hk:k<l.length):p l[k]=true:=by
 unfold He at h;cases q:l.findIdx? p with
 | none=>rw [q] at h;exact absurd h Bn
 | some i =>
  rw [q] at h;have e:i=k:=Int.ofNat.inj h;subst e;exact (List.findIdx?_eq_some_iff_getElem.1 q).2.1
theorem Aib {y:Yard} (h:Sound y) (hq:1<=y.seq) (id:Int) (p:Plan):Kept2 y (I8 y id p):=by
 unfold I8;split
 ·next q =>
  unfold Jc at q;split at q
  ·cases q
  split at q
  ·cases q
  next hid =>
  split at q
  ·cases q
  next eB =>
  split at q
  ·next hf=>exact absurd q hf
  next hf =>
  split at q
  ·cases q
  next hr =>
  have hf0:Cr p=0:=Classical.not_not.1 hf;have hid':=Ct.1 (show inB id 1 9999=true by cases e:inB id 1 9999<;>simp_all);have hT:=Dx (Cs.1 hf0).1;have kC:Kr y p=true:=by cases e:Kr y p<;>simp_all
  unfold Kr at kC;simp only [Bool.and_eq_true,decide_eq_true_eq] at kC;have nR:=h.slots;have eA:∀ r∈y.runs,r.id≠id:=fun r hr he=>by
   obtain ⟨k,hk,rfl⟩:=List.getElem_of_mem hr
   have:=h.core.runAt hk
   rw [he] at this;omega
  have hC:=h.core.submit hq hid' hf0 kC.1 eA Bl;show Kept2 y ((Gt Eh (Ce id p) (Ce id p).tasks.length).foldl (fun y t=>J4 y (Ce id p) t) ⟨y.now,y.seq,y.shelf,y.runs ++ [Ce id p]⟩);obtain ⟨h1,h2,h3,h4⟩:=Ko (Ce id p) (Gt Eh (Ce id p) (Ce id p).tasks.length) ⟨y.now,y.seq,y.shelf,y.runs ++ [Ce id p]⟩;obtain ⟨h5,h6⟩:=Xy (Ce id p) (Gt Eh (Ce id p) (Ce id p).tasks.length) ⟨y.now,y.seq,y.shelf,y.runs ++ [Ce id p]⟩ h.sh (fun e he=>(h.core.seqs e he).2);have hl:=Td Eh (Ce id p) (Ce id p).tasks.length;have eS:=Hs id p;refine ⟨⟨h5,?_⟩,by rw [h1];dsimp only;omega,by rw [h4];dsimp only;omega⟩;rw [h1,h4,h2];exact hC.perm h6.symm
 ·exact Kept2.refl h
theorem Pp (p:Entry->Bool):∀ s:List (List Entry),(s.map fun l=>l.filter p).flatten=s.flatten.filter p
 | []=>rfl
 | l :: s=>by rw [List.map_cons,List.flatten_cons,List.flatten_cons,List.filter_append,Pp p s]
theorem Ag8 {y:Yard} (h:Sound y) (id:Int):Kept2 y (Im y id):=by
 unfold Im;split
 ·next q =>
  unfold Iv at q;split at q
  ·cases q
  split at q
  ·cases q
  next eB =>
  split at q
  ·cases q
  next hl =>
  rcases Ek y id with hh | ⟨k,hk,h1⟩
  ·exact absurd hh Bl
  have h2:Ij y id=y.runs[k]:=Ey hk h1;rw [h2] at hl;have hidk:y.runs[k].id=id:=by
   rw [Jq h.core.le8] at h1
   have:=Aia h1 hk
   unfold Lg at this;simpa using this
  rw [h1,Ap];have hC:=h.core.forget hk hl;rw [hidk] at hC;refine ⟨⟨⟨by simp [h.sh.four],fun l hl=>?_⟩,?_⟩,by dsimp only;omega,by dsimp only;omega⟩
  ·obtain ⟨m,hm,rfl⟩:=List.mem_map.1 hl;exact (h.sh.sort m hm).filter _
  ·show Core y.now y.seq (y.shelf.map (Dg id)).flatten _;rw [show y.shelf.map (Dg id)=y.shelf.map (fun l=>l.filter fun e=>e.run != id) from rfl,Pp];exact hC
 ·exact Kept2.refl h
theorem Us {y:Yard} (h:Sound y) {i:Nat} (hi:i<4):Sound (Cg y i):=by
 have sS:i<y.shelf.length:=by rw [h.sh.four];exact hi
 have hg:y.shelf.getD i []=y.shelf[i]:=Gf sS;obtain ⟨R,hR,hS⟩:=Pk y.shelf i sS;refine ⟨h.sh.set ((h.sh.at_ i).filter _) i,?_⟩;show Core y.now y.seq (y.shelf.set i ((y.shelf.getD i []).filter fun e=>Di y e)).flatten y.runs;rw [hg];refine Core.perm (es:=(y.shelf[i].filter fun e=>Di y e) ++ R) ?_ (hS _).symm;refine h.core.drop (d:=y.shelf[i].filter fun e=>!Di y e) ?_ (fun e he r hr t ht hm hs=>?_)
 ·refine hR.trans ?_;rw [<-List.append_assoc];exact ((List.filter_append_perm (fun e=>Di y e) y.shelf[i]).symm.trans List.perm_append_comm).append_right R
 ·obtain ⟨k,hk,rfl⟩:=List.getElem_of_mem hr;have h1:=(List.mem_filter.1 he).2;have h2:Di y e=true:=Ds ((h.core.fresh hk ht hm).2 hs);rw [h2] at h1;cases h1
theorem Abs {y:Yard} (h:Sound y) {home v:Nat} (hh:home<4) (hv:v<4) (aE:v≠home):Sound (Ed home y v):=by
 unfold Ed;split
 ·have hz:=Us h hv;generalize Cg y v=z at *
  dsimp only;have mT:v<z.shelf.length:=by rw [hz.sh.four];exact hv
  rw [Gf mT];obtain ⟨R,hR,hS⟩:=Pk z.shelf v mT;have rN:home<(z.shelf.set v (z.shelf[v].drop (C9 z.shelf[v]))).length:=by rw [List.length_set,hz.sh.four];exact hh
  have bG:Shelves (z.shelf.set v (z.shelf[v].drop (C9 z.shelf[v]))):=hz.sh.set ((hz.sh.sort _ (Ax mT)).sublist (List.drop_sublist _ _)) v;have vD:=hS (z.shelf[v].drop (C9 z.shelf[v]));have cU:Mq (z.shelf[v].take (C9 z.shelf[v])):=(hz.sh.sort _ (Ax mT)).sublist (List.take_sublist _ _);have hfew:=hz.core.few;have bI:=hz.core.nodup;have cW:(z.shelf.flatten).Perm (z.shelf[v].take (C9 z.shelf[v]) ++ (z.shelf.set v (z.shelf[v].drop (C9 z.shelf[v]))).flatten):=by
   refine hR.trans ?_;conv=>lhs;rw [<-List.take_append_drop (C9 z.shelf[v]) z.shelf[v]]
   rw [List.append_assoc];exact vD.symm.append_left _
  generalize z.shelf.set v (z.shelf[v].drop (C9 z.shelf[v]))=s1 at *
  generalize z.shelf[v].take (C9 z.shelf[v])=tk at *
  have hg1:s1.getD home []=s1[home]:=by rw [List.getD_eq_getElem?_getD,List.getElem?_eq_getElem rN];rfl
  rw [hg1];obtain ⟨R2,hR2,hS2⟩:=Pk s1 home rN;have hP:(z.shelf.flatten).Perm (s1[home] ++ tk ++ R2):=by
   refine cW.trans ?_;refine (hR2.append_left tk).trans ?_;rw [<-List.append_assoc];exact List.perm_append_comm.append_right R2
  have aK:=hP.length_eq;have hnd2:=(hP.map (·.seq)).nodup_iff.1 bI;rw [List.map_append] at hnd2;simp only [List.length_append] at aK;obtain ⟨m1,m2⟩:=Ae0 (bG.sort _ (Ax rN)) (List.nodup_append.1 hnd2).1 Bl;refine ⟨bG.set m1 home,?_⟩;exact hz.core.perm (hP.trans ((m2.symm.append_right R2).trans (hS2 _).symm))
 ·exact h
theorem Ut {home:Nat} (hh:home<4):∀ (l:List Nat) (z:Yard),Sound z->(∀ v∈l,v<4/\v≠home)->Sound (l.foldl (Ed home) z)
 | [],_,h,_=>h
 | v :: l,z,h,hl=>Ut hh l _ (Abs h hh (hl v (List.mem_cons_self ..)).1 (hl v (List.mem_cons_self ..)).2) (fun x hx=>hl x (List.mem_cons_of_mem _ hx))
theorem Ag9 {y:Yard} (h:Sound y) (worker draw:Int):Kept2 y (Ih y worker draw).1:=by
 unfold Ih;split
 ·exact Kept2.refl h
 next hp =>
 split
 ·exact Kept2.refl h
 next hw =>
 have hP:Dn y:=Classical.not_not.1 hp;have kV:=Ct.1 (show inB worker 0 99=true by cases e:inB worker 0 99<;>simp_all);obtain ⟨wk,rfl⟩:=Aq kV.1;have mL:(wk:Int) % 4=((wk % 4:Nat):Int):=Bl;have hh:=Nat.mod_lt wk (show 0<4 by decide);rw [mL,Ap];generalize wk % 4=home at *
 have hG:J5 y (home:Int) draw=(Em home draw).foldl (Ed home) (Cg y home):=by unfold J5;rw [Ap]
 have gY:∀ v∈Em home draw,v<4/\v≠home:=fun v hv=>⟨N6 v hv,by have:=N7 (home:=(home:Int)) (draw:=draw) Bl Bl v hv;omega⟩
 have hS:Sound (J5 y (home:Int) draw):=by rw [hG];exact Ut hh _ _ (Us h hh) gY
 have aP:Pol y home (J5 y (home:Int) draw):=by rw [hG];exact Pol.fold hh _ _ (Pol.start hP hh) gY
 generalize J5 y (home:Int) draw=z at *
 have gZ:home<z.shelf.length:=by rw [hS.sh.four];exact hh
 unfold Mx;have fB:=aP.fresh;rw [Gf gZ] at fB ⊢;cases hl:z.shelf[home] with
 | nil=>exact ⟨hS,by show y.now<=z.now/\_;rw [aP.now];show y.now<=y.now/\z.now<=_;rw [aP.now];omega,by show y.seq<=z.seq/\z.seq<=_;rw [aP.seq];omega⟩
 | cons e rest =>
  rw [hl] at fB;have hfe:=fB e (List.mem_cons_self ..);rw [<-Mw aP.runs] at hfe;have hfp:=Ll.1 hfe;obtain ⟨R,hR,hSt⟩:=Pk z.shelf home gZ;rw [hl] at hR;have fV:e∈z.shelf.flatten:=hR.mem_iff.2 Bn;obtain ⟨r,hr,t,ht,hm⟩:=hS.core.home e fV;obtain ⟨k,hk,rfl⟩:=List.getElem_of_mem hr;obtain ⟨m1,m2⟩:=Hg.1 hm;have h1:=hS.core.runAt hk;have h2:Ij z e.run=z.runs[k]:=Ey hk (by rw [m1];exact h1);have bL:=(hS.core.fresh hk ht hm).1 hfp;have hC:=hS.core.start (es':=rest ++ R) (by rw [aP.now];exact hP.1) (by simpa using hR) hk hm ht bL;show Kept2 y ⟨z.now,z.seq,z.shelf.set home rest,z.runs.set (Db z e.run).toNat (De (Ij z e.run) e.task.toNat z.now)⟩;rw [h2,m1,h1,m2,Ap,Ap];refine ⟨⟨hS.sh.set ?_ home,hC.perm (hSt rest).symm⟩,by show y.now<=z.now/\z.now<=_;rw [aP.now];omega,by show y.seq<=z.seq/\z.seq<=_;rw [aP.seq];omega⟩
  have:=hS.sh.sort _ (Ax gZ)
  rw [hl] at this;exact (List.pairwise_cons.1 this).2
theorem Su {y:Yard} (h:Sound y) (hq:1<=y.seq) (d:Deed):Kept2 y (doO y d).1:=by
 unfold doO;split
 ·exact Kept2.refl h
 split
 ·exact Aib h hq _ _
 ·exact Ag9 h _ _
 ·exact Ag5 h hq _ _ _
 ·exact Ag6 h hq _ _ _
 ·exact Ag3 h hq
 ·exact Ag7 h hq _
 ·exact Ag8 h _
 ·exact Ag4 h hq
theorem Aiy {r:Run} (h:Gr r) (hs:r.state=1):0<Cp r.tasks 3\/0<Cp r.tasks 2:=by
 obtain ⟨_,hp,aK,hT,bL,_⟩:=h;obtain ⟨hm,he,_,hac⟩:=Cs.1 hp;have aB:=Dx hm;obtain ⟨T,hT0⟩:=Aq (show 0<=r.plan.tasks by omega);have mV:r.plan.tasks.toNat=T:=Bl;have mJ:r.tasks.length=T:=Bl;have mG:=Lv he;rw [mV] at mG;have hac':∀ t,t<T -> ¬ Pg.Reach (Dr r.plan) t t:=fun t ht hr=>hac ⟨t,by rw [mV];exact ht,hr⟩;have h6:=fun x hx=>(hT x hx).1;have cW:=R8 (l:=r.tasks) (fun x hx=>by
  obtain ⟨k,hk,rfl⟩:=List.getElem_of_mem hx;have h1:=(hT k hk).1;rwa [Co hk] at h1)
 -- not all is done,nothing failed or left
 have hc:Cp r.tasks 4<r.tasks.length/\Cp r.tasks 5=0/\Cp r.tasks 6=0:=by
  rw [hs] at bL;unfold stL at bL;split at bL
  ·exact absurd bL Bp
  next h4 =>
  split at bL
  ·exact absurd bL Bp
  split at bL
  ·exact absurd bL Bp
  split at bL
  ·next h7=>exact ⟨Bl,h7⟩
  ·exact absurd bL Bp
 -- some task is not done: one,all of whose before are done
 have hsome:∃ t,t<T/\t∉(List.range T).filter (fun t=>(By r t).state == 4):=by
  refine Classical.byContradiction fun bY=>?_;have hall4:∀ x∈r.tasks,(x.state == 4)=true:=fun x hx=>by
   obtain ⟨k,hk,rfl⟩:=List.getElem_of_mem hx;have h1:k∈(List.range T).filter (fun t=>(By r t).state == 4):=Classical.byContradiction fun h2=>bY ⟨k,Bl,h2⟩;have h2:=(List.mem_filter.1 h1).2;rwa [Co hk] at h2
  have:Cp r.tasks 4=r.tasks.length:=by
   unfold Cp;rw [List.filter_eq_self.2 hall4]
  omega
 obtain ⟨t,_,ht,hmay⟩:=Af2 mG.1 hac' hsome;obtain ⟨bY,hbef⟩:=Tv.1 hmay;have dN:t<r.tasks.length:=Bl;have hne4:(By r t).state≠4:=fun h4=>bY (List.mem_filter.2 ⟨List.mem_range.2 ht,by simp [h4]⟩);have hneed:Ge r t=0:=by
  unfold Ge Gn;rw [List.length_eq_zero_iff,List.filter_eq_nil_iff];intro b hb hq;unfold Dv at hb;have h1:=List.mem_filter.1 hb;have h2:=hbef b (by simpa using h1.2);have h3:=(List.mem_filter.1 h2).2;simp only [beq_iff_eq] at h3;simp [h3] at hq
 have hq:=hT t dN;unfold Gz Ls at hq;rw [hneed] at hq;obtain ⟨q1,q2,_,_,_,q6,_⟩:=hq;have hne1:(By r t).state≠1:=fun h1=>by have:=q6 h1;omega
 rw [Co dN] at hne4 hne1 q1;have hz:∀ s,Cp r.tasks s=0->(r.tasks[t]).state≠s:=fun s h0 h1=>by have:=J0 dN h1;omega
 have h5:=hz 5 hc.2.1;have h6':=hz 6 hc.2.2;by_cases h3:r.tasks[t].state=3
 ·exact .inl (by have:=J0 dN h3;omega)
 ·exact .inr (by have:=J0 dN (show r.tasks[t].state=2 by omega);omega)
theorem Yg (l:List Run) (k:Nat) {r z:Run} (h:r.id=(l.getD k z).id):(l.set k r).map (·.id)=l.map (·.id):=by
 by_cases hk:k<l.length
 ·rw [List.getD_eq_getElem?_getD,List.getElem?_eq_getElem hk] at h;apply List.ext_getElem Bn;intro j h1 h2;simp only [List.getElem_map,List.getElem_set];split
  ·next e=>subst e;exact h
  ·rfl
 ·rw [List.set_eq_of_length_le Bl]
theorem Yh (y:Yard) (k:Nat) (r:Run) (h:r.id=(y.runs.getD k Eh).id):(E0 y k r).runs.map (·.id)=y.runs.map (·.id):=by
 unfold E0 Ly;rw [(Ko _ _ _).2.1];exact Yg _ _ h
theorem Tr:∀ (l:List (Nat×Nat)) (y:Yard),(Ej y l).runs.map (·.id)=y.runs.map (·.id)
 | [],_=>rfl
 | (k,t) :: l,y=>by
  show (Ej (Gh y k t) l).runs.map _=_;rw [Tr l];by_cases q:(By (Gg y k) t).state=3
  ·rw [Jm q];exact Yh y k _ (K6 _ _).1
  ·rw [Kd q]
theorem Yi (home:Nat):∀ (l:List Nat) (y:Yard),(l.foldl (Ed home) y).runs=y.runs
 | [],_=>rfl
 | v :: l,y=>by
  rw [List.foldl_cons,Yi home l];unfold Ed;split
  ·rfl
  ·rfl
theorem Aic (y:Yard) (home draw:Int):(J5 y home draw).runs=y.runs:=by
 unfold J5;rw [Yi];rfl
theorem Aac (y:Yard) (worker draw:Int):(Ih y worker draw).1.runs=y.runs \/ ∃ k t now,(Ih y worker draw).1.runs=y.runs.set k (De (y.runs.getD k Eh) t now):=by
 unfold Ih;split
 ·exact .inl rfl
 split
 ·exact .inl rfl
 unfold Mx;have hg:=Aic y (worker % 4) draw;generalize J5 y (worker % 4) draw=z at *
 cases z.shelf.getD (worker % 4).toNat [] with
 | nil=>exact .inl hg
 | cons e rest =>
  refine .inr ⟨(Db z e.run).toNat,e.task.toNat,z.now,?_⟩;show z.runs.set (Db z e.run).toNat (De (Ij z e.run) e.task.toNat z.now)=_;unfold Ij;rw [hg];rfl
theorem Aid (y:Yard) (d:Deed):∀ x∈(doO y d).1.runs.map (·.id),x∈y.runs.map (·.id)\/(d.kind=1/\x=d.run):=by
 have aM:∀ {z:Yard},z.runs.map (·.id)=y.runs.map (·.id) -> ∀ x∈z.runs.map (·.id),x∈y.runs.map (·.id)\/(d.kind=1/\x=d.run):=fun h x hx=>.inl (by rw [<-h];exact hx);unfold doO;split
 ·exact fun x hx=>.inl hx
 split
 ·next hk =>
  unfold I8;dsimp only;split
  ·unfold Ly;rw [(Ko _ _ _).2.1];intro x hx;rw [List.map_append] at hx;rcases Bi.1 hx with h | h
   ·exact .inl h
   ·exact .inr ⟨hk,by simpa [Ce] using h⟩
  ·exact fun x hx=>.inl hx
 ·refine aM ?_;rcases Aac y d.worker d.draw with h | ⟨k,t,now,h⟩
  ·rw [h]
  ·rw [h];exact Yg _ _ rfl
 ·refine aM ?_;unfold Kc;dsimp only;split
  ·exact Yh _ _ _ rfl
  ·rfl
 ·refine aM ?_;unfold Ka;dsimp only;split
  ·exact Yh _ _ _ (K6 _ _).1
  ·rfl
 ·refine aM ?_;unfold Iw Adk;dsimp only;split
  ·exact Tr _ _
  ·rfl
 ·refine aM ?_;unfold Hy;dsimp only;split
  ·exact Yg _ _ rfl
  ·rfl
 ·unfold Im;dsimp only;split
  ·intro x hx;refine .inl ?_;obtain ⟨r,hr,rfl⟩:=List.mem_map.1 hx;refine List.mem_map.2 ⟨r,?_,rfl⟩;rcases Bi.1 hr with h | h
   ·exact List.mem_of_mem_take h
   ·exact List.mem_of_mem_drop h
  ·exact fun x hx=>.inl hx
 ·refine aM ?_;unfold Kx;dsimp only;split
  ·exact Tr _ _
  ·rfl
theorem Oi {y:Yard} {id:Int} (h:∀ r∈y.runs,r.id≠id):Db y id = -1:=by
 by_cases h8:y.runs.length<=8
 ·rw [Jq h8];exact Jd (fun j hj=>by unfold Lg;simpa using h _ (Ax hj))
 ·exact Pu Bl
theorem Ad1 {p:Plan} (h:Cr p=0):Ez p=true:=by
 obtain ⟨hm,he,_,_⟩:=Cs.1 h;have ht:=Dx hm;have hl:=Es hm;unfold Eg at hm;simp only [Bool.and_eq_true,Ct] at hm;unfold Ez Fi;simp only [Bool.and_eq_true,Ct,decide_eq_true_eq,List.all_eq_true];refine ⟨⟨⟨⟨⟨Bl,Bl⟩,Bl⟩,Bl⟩,Bl⟩,fun e hx=>?_⟩;obtain ⟨k,hk,rfl⟩:=List.getElem_of_mem hx
 have:=H8 he hk
 omega
def d0 (k run worker:Int):Deed:=⟨k,run,⟨0,0,0,0,[]⟩,0,0,worker,0⟩
def Ha (p:Plan):List Deed:=[d0 5 0 0,⟨1,7,p,0,0,0,0⟩,d0 2 0 0,d0 6 7 0]
theorem Aha {p:Plan} (hp:Cr p=0):St (Ha p) 7=3/\St (Ha p) 8 = -1:=by
 have hN:Sound Fg:=Op;have e1:Dk ((Ha p).take 1)=(doO Fg (d0 5 0 0)).1:=rfl;have e2:Dk ((Ha p).take 2)=(doO (Dk ((Ha p).take 1)) ⟨1,7,p,0,0,0,0⟩).1:=rfl;have e3:Dk ((Ha p).take 3)=(doO (Dk ((Ha p).take 2)) (d0 2 0 0)).1:=rfl;have e4:Dk ((Ha p).take 4)=(doO (Dk ((Ha p).take 3)) (d0 6 7 0)).1:=rfl;have k1:=Su hN Bp (d0 5 0 0);rw [<-e1] at k1;have z1:0<=(Dk ((Ha p).take 1)).now/\(Dk ((Ha p).take 1)).now<=1:=k1.now;have q1:1<=(Dk ((Ha p).take 1)).seq/\(Dk ((Ha p).take 1)).seq<=1201:=k1.seq;have k2:=Su k1.sound q1.1 ⟨1,7,p,0,0,0,0⟩;rw [<-e2] at k2;have z2:=k2.now;have q2:=k2.seq;have k3:=Su k2.sound Bl (d0 2 0 0);rw [<-e3] at k3;have z3:=k3.now;have q3:=k3.seq;have r1:(Dk ((Ha p).take 1)).runs=[]:=by
  have h:=Aid Fg (d0 5 0 0);rw [<-e1] at h;refine List.eq_nil_iff_forall_not_mem.2 fun r hr=>?_;rcases h r.id (List.mem_map.2 ⟨r,hr,rfl⟩) with h | ⟨h,_⟩
  ·simp [Fg] at h
  ·exact absurd h Bp
 have p1:Dn (Dk ((Ha p).take 1)):=k1.sound.yardP Bl Bl;have hm:=(Cs.1 hp).1;have ht:=Dx hm;have hC:Jc (Dk ((Ha p).take 1)) 7 p=0:=by
  unfold Jc;rw [if_neg (by simpa using p1),if_neg Bp,if_neg (by rw [Oi (by rw [r1];simp)];decide),if_neg (by simpa using hp)];have dZ:Kr (Dk ((Ha p).take 1)) p=true:=by
   have hs:=k1.sound.slots;have hf:=k1.sound.core.home;have mR:(Dk ((Ha p).take 1)).shelf.flatten=[]:=List.eq_nil_iff_forall_not_mem.2 fun e he=>by
    obtain ⟨r,hr,_⟩:=hf e he;rw [r1] at hr;cases hr
   rw [r1,mR] at hs;simp [Gk,Lq] at hs;unfold Kr;rw [r1];simp [inB];omega
  rw [dZ];rfl
 have r2:(Dk ((Ha p).take 2)).runs=[Ce 7 p]:=by
  have hd:Dq ⟨1,7,p,0,0,0,0⟩=true:=by
   unfold Dq;simp [Ad1 hp,inB,Fi]
  rw [e2];unfold doO;rw [if_neg (by rw [hd];decide)];show (I8 _ 7 p).runs=_;unfold I8 Ly;rw [if_pos hC,(Ko _ _ _).2.1,r1];rfl
 have h3:∃ r,(Dk ((Ha p).take 3)).runs=[r]/\r.id=7/\r.state=1:=by
  have mS:=Aac (Dk ((Ha p).take 2)) 0 0;have e3':Dk ((Ha p).take 3)=(Ih (Dk ((Ha p).take 2)) 0 0).1:=by
   rw [e3];unfold doO;rw [if_neg Bp];rfl
  rw [<-e3',r2] at mS;rcases mS with h | ⟨k,t,now,h⟩
  ·exact ⟨_,h,rfl,rfl⟩
  ·cases k with
   | zero=>exact ⟨_,h,rfl,rfl⟩
   | succ k=>exact ⟨Ce 7 p,h,rfl,rfl⟩
 obtain ⟨r,h3,hid,bL⟩:=h3;have a3:Db (Dk ((Ha p).take 3)) 7=((0:Nat):Int):=by
  have:=Core.runAt (y:=Dk ((Ha p).take 3)) k3.sound.core (k:=0) (by rw [h3];exact Nat.zero_lt_one)
  simp only [h3,List.getElem_cons_zero] at this;rwa [hid] at this
 have g3:Ij (Dk ((Ha p).take 3)) 7=r:=by
  have:=Ey (y:=Dk ((Ha p).take 3)) (k:=0) (by rw [h3];exact Nat.zero_lt_one) a3
  simpa [h3] using this
 have p3:Dn (Dk ((Ha p).take 3)):=k3.sound.yardP Bl Bl;have h4:(Dk ((Ha p).take 4)).runs=[C8 r 4]:=by
  have hc:Il (Dk ((Ha p).take 3)) 7=0:=by
   unfold Il;rw [if_neg (by simpa using p3),if_neg (by rw [a3];decide),g3,if_neg (by simpa using bL)]
  rw [e4];unfold doO;rw [if_neg Bp];show (Hy _ 7).runs=_;unfold Hy;rw [if_pos hc,a3,g3];show (Dk ((Ha p).take 3)).runs.set _ _=_;rw [h3];rfl
 have k4:=Su k3.sound Bl (d0 6 7 0);rw [<-e4] at k4;have a4:Db (Dk ((Ha p).take 4)) 7=((0:Nat):Int):=by
  have:=Core.runAt (y:=Dk ((Ha p).take 4)) k4.sound.core (k:=0) (by rw [h4];exact Nat.zero_lt_one)
  simp only [h4,List.getElem_cons_zero] at this;rwa [show (C8 r 4).id=r.id from rfl,hid] at this
 have g4:Ij (Dk ((Ha p).take 4)) 7=C8 r 4:=by
  have:=Ey (y:=Dk ((Ha p).take 4)) (k:=0) (by rw [h4];exact Nat.zero_lt_one) a4
  simpa [h4] using this
 have a2:Db (Dk ((Ha p).take 2)) 7=((0:Nat):Int):=by
  have:=Core.runAt (y:=Dk ((Ha p).take 2)) k2.sound.core (k:=0) (by rw [r2];exact Nat.zero_lt_one)
  simp only [r2,List.getElem_cons_zero] at this;exact this
 have g2:Ij (Dk ((Ha p).take 2)) 7=Ce 7 p:=by
  have:=Ey (y:=Dk ((Ha p).take 2)) (k:=0) (by rw [r2];exact Nat.zero_lt_one) a2
  simpa [r2] using this
 have aK:(Ha p).length=4:=rfl;constructor
 ·refine Up (k:=3) (by rw [aK];decide) (by rw [aK];decide) (fun j hj=>?_) ?_
  ·match j,hj with
   | 0,_=>exact Cm fun h=>by have h1:=h.1;rw [Oi (by rw [r1];simp)] at h1;exact absurd h1 Bp
   | 1,_=>exact Cm fun h=>h.2 (by show (Ij (Dk ((Ha p).take 2)) 7).state=1;rw [g2];rfl)
   | 2,_=>exact Cm fun h=>h.2 (by show (Ij (Dk ((Ha p).take 3)) 7).state=1;rw [g3];exact bL)
  ·refine Ds ⟨?_,?_⟩
   ·show 0<=Db (Dk ((Ha p).take 4)) 7;rw [a4];decide
   ·show ¬ (Ij (Dk ((Ha p).take 4)) 7).state=1;rw [g4];show ¬ (4:Int)=1;decide
 ·have hn:∀ z:Yard,Db z 8 = -1->Oo z 8=false:=fun z hz=>Cm fun h=>by have h1:=h.1;rw [hz] at h1;exact absurd h1 Bp
  refine Yd (by rw [aK];decide) (fun j hj=>hn _ (Oi ?_));rw [aK] at hj;match j,hj with
  | 0,_=>show ∀ r∈(Dk ((Ha p).take 1)).runs,_;rw [r1];simp
  | 1,_=>show ∀ r∈(Dk ((Ha p).take 2)).runs,_;rw [r2];simp [Ce]
  | 2,_=>show ∀ r∈(Dk ((Ha p).take 3)).runs,_;rw [h3];simp [hid]
  | 3,_=>show ∀ r∈(Dk ((Ha p).take 4)).runs,_;rw [h4];simp [C8,hid]
theorem Ad2 (code:List UInt8) (y:Yard) (c:Cur):(Et code y c).1.kind=1->1<=(Et code y c).1.run/\(Et code y c).1.run<=9:=by
 have h1:=fun c=>Dz code (n:=9) c Bl;unfold Et;simp only []
 (repeat' split)<;>intro h<;>first | (simp at h;done) | (have:=h1 (Bw code 20 c).2;dsimp only;omega)
structure DrawnY (n:Nat) (y:Yard):Prop where
 sound:Sound y
 now:0<=y.now/\y.now<=n
 seq:1<=y.seq/\y.seq<=1+1200 * n
 ids:∀ r∈y.runs,1<=r.id/\r.id<=9
theorem DrawnY.step {n:Nat} {y:Yard} (h:DrawnY n y) {d:Deed} (hd:d.kind=1->1<=d.run/\d.run<=9):DrawnY (n+1) (doO y d).1:=by
 have hk:=Su h.sound h.seq.1 d;have h1:=h.now;have h2:=h.seq;have h3:=hk.now;have h4:=hk.seq;refine ⟨hk.sound,by push_cast;omega,by push_cast;omega,fun r hr=>?_⟩;rcases Aid y d r.id (List.mem_map.2 ⟨r,hr,rfl⟩) with h5 | ⟨h5,h6⟩
 ·obtain ⟨r',kC,e⟩:=List.mem_map.1 h5;rw [<-e];exact h.ids r' kC
 ·rw [h6];exact hd h5
theorem DrawnY.new:DrawnY 0 Fg:=⟨Op,Bp,Bp,fun r hr=>by simp [Fg] at hr⟩
theorem Sv (code:List UInt8) (c:Cur):∀ n,DrawnY n (Ew code c n).1.2
 | 0=>DrawnY.new
 | n+1=>(Sv code c n).step (Ad2 code _ _)
theorem Abt (code:List UInt8):DrawnY 26 (Me code):=by
 have h:=Sv code (Bw code 26 (Hj code)).2 (Bw code 26 (Hj code)).1.toNat;have hb:=Dz code (n:=26) (Hj code) Bl;refine ⟨h.sound,?_,?_,h.ids⟩
 ·have:=h.now
  show 0<=(Ew code (Bw code 26 (Hj code)).2 (Bw code 26 (Hj code)).1.toNat).1.2.now/\_;refine ⟨this.1,?_⟩;show (Ew code (Bw code 26 (Hj code)).2 (Bw code 26 (Hj code)).1.toNat).1.2.now<=_;omega
 ·have:=h.seq
  refine ⟨this.1,?_⟩;show (Ew code (Bw code 26 (Hj code)).2 (Bw code 26 (Hj code)).1.toNat).1.2.seq<=_;omega
def Nb (y:Yard) (k:Nat):Nat:=((y.runs.take k).map fun r=>r.tasks.length).sum
theorem Pq {y:Yard} {k:Nat} (hk:k<y.runs.length):Nb y (k+1)=Nb y k+y.runs[k].tasks.length:=Yp _ _ _ hk
def Ajj (v:View):Int:=v.waits+v.ready+v.runs+v.done+v.failed+v.left
theorem Uu {y:Yard} (h:∀ r∈y.runs,Gr r):∀ k,k<=y.runs.length->Ajj (Hv y k)=Nb y k
 | 0,_=>rfl
 | k+1,hk=>by
  have bE:k<y.runs.length:=Bl;have ih:=Uu h k Bl;have h1:=h _ (Ax bE);have h2:=Acf h1.2.2.2.1;rw [Lz bE,Pq bE];unfold Ajj at *
  unfold Agc Nm;dsimp only;push_cast;omega
theorem Aie {y:Yard} (h:(y.runs.map (·.id)).Nodup) {k:Nat} (hk:k<y.runs.length):decide (y.runs[k].id∈My y.runs)=decide (0<Cp y.runs[k].tasks 3):=by
 rw [decide_eq_decide];unfold My;constructor
 ·intro h1;obtain ⟨r,hr,he⟩:=List.mem_map.1 h1;obtain ⟨qQ,pV⟩:=List.mem_filter.1 hr;obtain ⟨j,hj,rfl⟩:=List.getElem_of_mem qQ;have h2:=List.getElem_inj (xs:=y.runs.map (·.id)) (h₀:=by simpa using hj) (h₁:=by simpa using hk) h;simp only [List.getElem_map] at h2
  have:=h2.1 he
  subst this;simpa [Ada] using pV
 ·intro h1;exact List.mem_map.2 ⟨_,List.mem_filter.2 ⟨Ax hk,by simpa [Ada] using h1⟩,rfl⟩
theorem Ad3 {w:World} {B:Nat} {v:Value} {l:List Edge} (h:Rd Gd w B v l):RdL Kj w B v l:=by
 obtain ⟨A,c,rfl,cA,hA⟩:=h;refine ⟨l.map fun x=>(x,()),by rw [List.map_map];exact List.map_id' l,⟨A,c,by rw [Au],by rw [Au];exact cA,fun hl=>?_⟩,fun _ _=>trivial⟩;rw [Au] at hl;obtain ⟨b,o,hb,aB,hc⟩:=hA hl;refine ⟨b,o,hb,aB,fun k hk j u hu=>?_⟩;rw [Au] at hk;rw [List.getElem_map] at hu;exact hc k hk j u hu
def RdY (y:Yard) (s:Sl×Sl) (w:World):Prop:=Bu.rd w w y s
theorem rdY {y:Yard} {s:Sl×Sl} {w w':World} (h:RdY y s w) (hb:Below w w w'):RdY y s w':=Bu.rd_more (Bu.rd_below h hb) hb.size
theorem Zb (v:Value) (code:List UInt8) (w:World) (hm:code.length<=9223372036854775807) (h:Rd Jx w w v code) :
  Calls Tryz.prog 4 #[v] w fun e w'=>e = .returned (.bool true)/\Below w w w':=by
 by_cases hbig:(1048576:Int)<(code.length:Int)
 ·go_enter func4,ntmps4;go_wp2_with fail
  refine (Afo v code w hm h).mono ?_;rintro e w1 ⟨rfl,rfl⟩;go_wp2;go_ret;exact ⟨rfl,Br _ _⟩
 have hs:code.length<=1048576:=Bl;have hbg:decide ((1048576:Int)<(code.length:Int))=false:=by simpa using hbig
 have HR:=Bq (show ∀ W,Below w w W->Rd Jx W W v code from fun W hW=>(h.below hW).more hW.size);have hYD:=Bq (fun (W:World) (hW:Below w w W)=>Abq v code W hs (HR.out W hW));unfold Ah8 at hYD;have hPD:=Bq (fun (W:World) (hW:Below w w W)=>Yy v code W hs (HR.out W hW));have hP0:=Aa1 code;have qY:=Abt code;have qC:Cf (Me code)<=2000000:=Rk ..;generalize Mb code=p at *
 generalize Me code=Y at *
 -- plain facts of the yard
 have cZ:∀ r∈Y.runs,Gr r:=fun r hr=>(qY.sound.core.run r hr).1;have h8:=qY.sound.core.le8;have kU:∀ r∈Y.runs,r.tasks.length<=12:=fun r hr=>(D4 (cZ r hr)).2;have pP:=Bq (fun k (hk:k<Y.runs.length)=>qY.sound.core.runAt hk);have hBu:=Bq (fun k (hk:k<Y.runs.length)=>Aie qY.sound.core.ids hk);have hNo:=Oi (y:=Y) (id:=5000) (fun r hr e=>by have:=qY.ids r hr;omega);have hAll:=Bq (Uu cZ Y.runs.length (Bs _));have hLe:=Bq (Q8 kU);have hTk:=Bq (fun k (hk:k<Y.runs.length)=>Pq hk);have mJ:Hid (∀ k,k<=Y.runs.length->Nb Y k<=12 * k):=fun k hk=>by
  induction k with
  | zero=>show Nb Y 0<=0;unfold Nb;simp
  | succ k ih =>
   have h1:=ih Bl;have h2:=Pq (y:=Y) (k:=k) Bl;have h3:=kU _ (Ax (show k<Y.runs.length by omega));omega
 have gG:=Bq (fun j hj=>Afq (L:=Jt Y) (Jt Y).length (Bs _) j hj hj);have dL:=Bq (show (Jt Y).length<=2000000 from Nat.le_trans (List.length_filter_le _ _) (N8 qC));have hOv:=Bq (Aha hP0);have hpe:=Es (Cs.1 hP0).1
 -- contracts
 have CC:=Bq (fun (W:World) s (hW:Bu.rd W W Y s)=>Wt Y s W qC h8 kU hW);have CV:=Bq (fun (W:World) s k hk (hW:Bu.rd W W Y s)=>Aat Y s k _ W qC hk (pP.out k hk) hW);have CN:=Bq (fun (W:World) s (hW:Bu.rd W W Y s)=>Tc Y s 5000 W qC hNo hW);have CB:=Bq (fun (W:World) s (hW:Bu.rd W W Y s)=>Abe Y s W qC hW);have CS:=Bq (fun (W:World) s (hW:Bu.rd W W Y s)=>Y5 Y s W qC (fun r hr=>Aiy (cZ r hr)) hW);have CO:=Bq (fun (W:World) s (hW:Bu.rd W W Y s)=>Xf Y s W qC hW);have CR:=Bq (fun (W:World) s (hW:Bu.rd W W Y s)=>Y2 Y s W qC hW);clear hP0 qY qC hNo;replace kU:=Bq kU;have cZ:=Bq cZ;go_enter func4,ntmps4;go_wp2_with fail
 refine (Afo v code w hm h).mono ?_;rintro e w0 ⟨rfl,rfl⟩;rw [hbg];clear hbg hbig;go_wp2_with fail
 refine (hYD.out w (Br _ _)).mono ?_;rintro e w1 ⟨⟨⟨A1,n1,c1⟩,⟨A2,n2,c2⟩⟩,rfl,y1,b1⟩;obtain rfl:n2=Y.runs.length:=RdL.at1 (s:=⟨A2,n2,c2⟩) y1.2;replace y1:RdY Y (⟨A1,n1,c1⟩,⟨A2,Y.runs.length,c2⟩) w1:=y1;obtain ⟨W1,hW1_,YB,B1⟩:=bx1 w1 31 [J Ab Y.now,J Ab Y.seq,Aa A1 n1 c1,Aa A2 Y.runs.length c2];go_upto_region 4 with fail
 rw [<-hW1_.out];clear hW1_;replace y1:=rdY y1 B1;replace b1:=Bv b1 B1;have uG:=YB.lt;clear B1;generalize w1.heap.size=yb at *
 go_wp2_with fail
 refine (hYD.out W1 b1).mono ?_;rintro e w2 ⟨⟨⟨A3,n3,c3⟩,⟨A4,n4,c4⟩⟩,rfl,y2,b2⟩;obtain rfl:n4=Y.runs.length:=RdL.at1 (s:=⟨A4,n4,c4⟩) y2.2;replace y2:RdY Y (⟨A3,n3,c3⟩,⟨A4,Y.runs.length,c4⟩) w2:=y2;replace y1:=rdY y1 b2;replace YB:=YB.below b2;replace b1:=Bv b1 b2;clear hYD b2;obtain ⟨W2,hW2_,SB,B2⟩:=bx1 w2 31 [J Ab Y.now,J Ab Y.seq,Aa A3 n3 c3,Aa A4 Y.runs.length c4];go_upto_region 5 with fail
 rw [<-hW2_.out];clear hW2_;replace y1:=rdY y1 B2;replace y2:=rdY y2 B2;replace YB:=YB.below B2;replace b1:=Bv b1 B2;clear B2;generalize w2.heap.size=sb at *
 have YB_:=YB.g4;go_wp2_with fail
 refine (CC.out W2 _ y1).mono ?_;clear YB_;rintro e w3 ⟨rfl,b3⟩;replace y1:=rdY y1 b3;replace y2:=rdY y2 b3;replace YB:=YB.below b3;replace SB:=SB.below b3;replace b1:=Bv b1 b3;clear b3 CC;have hTL:=hLe.out Y.runs.length (Bs _);generalize hTd:Hv Y Y.runs.length=T at *
 have HT:=Bq hTd;clear hTd;obtain ⟨W3,hW3_,VB,B3⟩:=bx1 w3 61 [J Ab T.state,J Ab T.waits,J Ab T.ready,J Ab T.runs,J Ab T.done,J Ab T.failed,J Ab T.left];go_upto_region 6 with fail
 rw [<-hW3_.out];clear hW3_;replace y1:=rdY y1 B3;replace y2:=rdY y2 B3;replace YB:=YB.below B3;replace SB:=SB.below B3;replace b1:=Bv b1 B3;clear B3;generalize w3.heap.size=vb at *
 have SB_:=SB.g4;obtain ⟨W4,hW4_,UB,B4⟩:=bx1 W3 61 [J Ab (Y.runs.length:Int),J Ab 0,J Ab 0,J Ab 0,J Ab 0,J Ab 0,J Ab 0];go_upto_region 7 with fail
 rw [<-hW4_.out];clear hW4_;clear SB_;replace UB:DBox W3 (Jk (Hv Y 0)) W4:=UB;have hUl:=UB.lt;have hub:W3.heap.size<=W3.heap.size:=Bs _;generalize hubd:W3.heap.size=ub at hub UB ⊢;replace hubd:=Bq hubd;go_wp2;go_loopw [7,8] (fun n i wr=>∃ k:Nat,k<=Y.runs.length/\i = J Ab k/\n = J Ab (Nb Y k:Nat)/\DBox ub (Jk (Hv Y k)) wr/\Below W3 W3 wr) (fun _ i _=>Y.runs.length - (intOf i).toNat);case atStart=>exact ⟨0,Nat.zero_le _,rfl,rfl,UB,B4⟩
 case round =>
  clear UB B4 hUl;obtain ⟨k,hk,rfl,rfl,UB,hb⟩:=hrel;have SB1_:=(SB.below hb).g4;have cJ:=hb.size;by_cases aB:k<Y.runs.length
  ·have aC:(k:Int)<(Y.runs.length:Int):=Bl;have dF:(0:Int)<=(k:Int):=Bl;obtain ⟨rb,ro,⟨⟨D1,m1,e1⟩,⟨D2,m2,e2⟩⟩,rfl,pM,bP,r0,r1,r2,r3,r4,r5,r6,r7⟩:=RdL.run (show RdL Cn W3 W3.heap.size (Aa A4 Y.runs.length c4) Y.runs from y2.2) aB;obtain rfl:m2=Y.runs[k].tasks.length:=RdL.at1 (s:=⟨D2,m2,e2⟩) bP.2;clear bP;go_upto_region 11 with fail
   have CX:=Bq (fun W (hW:Below W3 W3 W)=>CV.out W _ k aB (rdY y1 hW));go_cut [9,10] (fun x ok wx=>∃ xb:Nat,x = .pointer (some ⟨xb,0,Ac⟩)/\ok = .bool true/\DBox xb (Jk (Nm Y.runs[k])) wx/\DBox ub (Jk (Hv Y k)) wx/\xb≠ub/\ub<xb/\Below W3 W3 wx);case first =>
    refine Go.wp_region_noPanic ?_;refine wp_region_held_drew (S:=fun w'=>Below W3 W3 w') Bm (hb.drew) (fun aA=>?_);have hS:=aA;have UB:=UB.below (Br _ _).drew;generalize wr.drew=wd at *
    refine tZ 0 ?_ (hy:=by intro w' hSw;have q:=(YB.below hSw).g4;go_simp;rfl)
    (try simp only [pS])
    refine tY 1 ?_
    (try simp only [pS])
    refine tZ 2 ?_ (hy:=by intro w' hSw;have q:=(SB.below hSw).g4;go_simp;rfl)
    (try simp only [pS])
    refine tY 3 ?_
    (try simp only [pS])
    refine tY 4 ?_
    (try simp only [pS])
    refine tY 5 ?_
    (try simp only [pS])
    refine tZ 6 ?_ (hy:=by intro w' hSw;have q:=(hSw.cell (p:=⟨rb,_,Ac⟩) pM).trans r0;go_simp;rfl)
    (try simp only [pS])
    refine Vk 7 11 rfl rfl (by decide +kernel) (by rfl) (by rfl) (fun K_ hK=>?_) (fun K_ hK=>?_);focus
     (go_simp;refine (CX.out _ hS).mono ?_;rintro e wn ⟨rfl,c⟩;(try replace XB:=XB.below c);replace UB:=UB.below c;replace hS:=hS.trans (c.mono hS.size);clear c;(obtain ⟨wd,rfl⟩:∃ x,x=wn:=⟨_,rfl⟩);refine hK.out _ _ hS (fun _=>?_);clear hK K_;(try simp only [pS]);(refine tY 8 ?_;(try simp only [pS]));(refine tY 9 ?_;(try simp only [pS]));(refine tY 10 ?_;(try simp only [pS])))
     refine rC 11 (fun K_ hK=>?_)
     (go_simp;have XB:=DBox.new 61 [J Ab 0,J Ab 0,J Ab 0,J Ab 0,J Ab 0,J Ab 0,J Ab 0] wd (b:=wd) rfl;have c:Below wd wd (wd.alloc (.cells #[J Ab 0,J Ab 0,J Ab 0,J Ab 0,J Ab 0,J Ab 0,J Ab 0] 61)):=Bt;have hxu:ub<wd:=UB.lt;replace UB:=UB.below c;replace hS:=hS.trans (c.mono hS.size);clear c;generalize wd.heap.size=xb at *;generalize wd.alloc (.cells #[J Ab 0,J Ab 0,J Ab 0,J Ab 0,J Ab 0,J Ab 0,J Ab 0] 61)=wn at *;(obtain ⟨wd,rfl⟩:∃ x,x=wn:=⟨_,rfl⟩);refine hK.out _ _ hS (fun _=>?_);clear hK K_;(try simp only [pS]))
    rotate_left;focus
     (go_simp;have XB:=DBox.new 61 [J Ab 0,J Ab 0,J Ab 0,J Ab 0,J Ab 0,J Ab 0,J Ab 0] wd (b:=wd) rfl;have c:Below wd wd (wd.alloc (.cells #[J Ab 0,J Ab 0,J Ab 0,J Ab 0,J Ab 0,J Ab 0,J Ab 0] 61)):=Bt;have hxu:ub<wd:=UB.lt;replace UB:=UB.below c;replace hS:=hS.trans (c.mono hS.size);clear c;generalize wd.heap.size=xb at *;generalize wd.alloc (.cells #[J Ab 0,J Ab 0,J Ab 0,J Ab 0,J Ab 0,J Ab 0,J Ab 0] 61)=wn at *;(obtain ⟨wd,rfl⟩:∃ x,x=wn:=⟨_,rfl⟩);refine hK.out _ _ hS (fun _=>?_);clear hK K_;(try simp only [pS]))
     refine rC 7 (fun K_ hK=>?_)
     (go_simp;refine (CX.out _ hS).mono ?_;rintro e wn ⟨rfl,c⟩;(try replace XB:=XB.below c);replace UB:=UB.below c;replace hS:=hS.trans (c.mono hS.size);clear c;(obtain ⟨wd,rfl⟩:∃ x,x=wn:=⟨_,rfl⟩);refine hK.out _ _ hS (fun _=>?_);clear hK K_;(try simp only [pS]);(refine tY 8 ?_;(try simp only [pS]));(refine tY 9 ?_;(try simp only [pS]));(refine tY 10 ?_;(try simp only [pS])))
    all_goals
     generalize Nm Y.runs[k]=V at *
     have HF:Hid (∀ W,W=((((((wd.setCell ⟨xb,0,Ac⟩ (J Ab V.state)).setCell ⟨xb,1,Ac⟩ (J Ab V.waits)).setCell ⟨xb,2,Ac⟩ (J Ab V.ready)).setCell ⟨xb,3,Ac⟩ (J Ab V.runs)).setCell ⟨xb,4,Ac⟩ (J Ab V.done)).setCell ⟨xb,5,Ac⟩ (J Ab V.failed)).setCell ⟨xb,6,Ac⟩ (J Ab V.left) ->
       DBox xb (Jk V) W/\DBox ub (Jk (Hv Y k)) W/\Below W3 W3 W):=by
      have jL:W3<=xb:=by have:=hubd.out;omega
      rintro W rfl;exact ⟨((((((XB.put 0 Bn _).put 1 Bn _).put 2 Bn _).put 3 Bn _).put 4 Bn _).put 5 Bn _).put 6 Bn _,
       ((((((UB.setOther (by show ub≠xb;omega) _).setOther (by show ub≠xb;omega) _).setOther (by show ub≠xb;omega) _).setOther (by show ub≠xb;omega) _).setOther (by show ub≠xb;omega) _).setOther (by show ub≠xb;omega) _).setOther (by show ub≠xb;omega) _,
       ((((((hS.setCell jL _).setCell jL _).setCell jL _).setCell jL _).setCell jL _).setCell jL _).setCell jL _⟩
     have XB_:=XB.g7;have xf:=XB.free;refine rC 12 (fun K_ hK=>?_);go_simp;have HG:=HF.out _ rfl;refine hK.out _ _ HG.2.2 (fun _=>?_);clear hK K_
     (try simp only [pS])
     refine tY 13 ?_
     (try simp only [pS])
     refine wpAnyH_done Bm ?_ _;refine NoPanic.normal ?_;go_wp2_with fail
     go_meet;exact ⟨xb,rfl,rfl,HG.1,HG.2.1,Bl,hxu,HG.2.2⟩
   obtain ⟨xb,rfl,rfl,XB,UB1,aE,hxu,aZ⟩:=hcut;have S1:=Bq (Lz aB);have S2:=Bq (hTk.out k aB);have S3:=hBu.out k aB;have L1:=hLe.out k hk;have L2:=Wp (kU.out _ (Ax aB));have L3:=mJ.out k hk;have L4:=kU.out _ (Ax aB);clear CX UB SB1_;generalize Y.runs[k]=r at *
   unfold Lo at L1 L2;have aH:(decide (0<Cp r.tasks 3) != decide (0<Cp r.tasks 3))=false:=Bn;have bL:(r.state != r.state)=false:=Bn;go_upto_region 12 with fail
   refine Go.wp_region_noPanic ?_;refine wp_region_held_drew (S:=fun w'=>DBox xb [J Ab r.state,J Ab (Cp r.tasks 1:Nat),J Ab (Cp r.tasks 2:Nat),J Ab (Cp r.tasks 3:Nat),J Ab (Cp r.tasks 4:Nat),J Ab (Cp r.tasks 5:Nat),J Ab (Cp r.tasks 6:Nat)] w'/\Below W3 W3 w') Bm ⟨XB.below (Br _ _).drew,aZ.drew⟩ (fun aA=>?_);have hS:=aA;have UB:=UB1.below (Br _ _).drew;generalize wc.drew=wd at *
   refine tY 0 ?_
   (try simp only [pS])
   refine tY 1 ?_
   (try simp only [pS])
   refine tY 2 ?_
   (try simp only [pS])
   refine tY 3 ?_
   (try simp only [pS])
   refine tZ 4 ?_ (hy:=by intro w' hSw;have q:=hSw.1.g7;go_simp;rfl)
   (try simp only [pS])
   refine tY 5 ?_
   (try simp only [pS])
   refine tZ 6 ?_ (hy:=by intro w' hSw;have q:=(SB.below hSw.2).g4;go_simp;rfl)
   (try simp only [pS])
   refine tY 7 ?_
   (try simp only [pS])
   refine tY 8 ?_
   (try simp only [pS])
   refine tY 9 ?_
   (try simp only [pS])
   refine tZ 10 ?_ (hy:=by intro w' hSw;have q:=(hSw.2.cell (p:=⟨rb,_,Ac⟩) pM).trans r6;go_simp;rfl)
   (try simp only [pS])
   refine tY 11 ?_
   (try simp only [pS])
   refine tY 12 ?_
   (try simp only [pS])
   refine tY 13 ?_
   (try simp only [pS])
   refine tY 14 ?_
   (try simp only [pS])
   refine tZ 15 ?_ (hy:=by intro w' hSw;have q:=hSw.1.g7;go_simp;rfl)
   (try simp only [pS])
   refine tY 16 ?_
   (try simp only [pS])
   refine tZ 17 ?_ (hy:=by intro w' hSw;have q:=(YB.below hSw.2).g4;go_simp;rfl)
   (try simp only [pS])
   refine tY 19 ?_
   (try simp only [pS])
   refine tZ 20 ?_ (hy:=by intro w' hSw;have q:=(SB.below hSw.2).g4;go_simp;rfl)
   (try simp only [pS])
   refine tY 21 ?_
   (try simp only [pS])
   refine tY 22 ?_
   (try simp only [pS])
   refine tY 23 ?_
   (try simp only [pS])
   refine tZ 24 ?_ (hy:=by intro w' hSw;have q:=(hSw.2.cell (p:=⟨rb,_,Ac⟩) pM).trans r0;go_simp;rfl)
   (try simp only [pS])
   refine rC 18 (fun K_ hK=>?_);go_simp;refine (CB.out _ _ (rdY y1 hS.2)).mono ?_;rintro e wn ⟨bv,rfl,ob,c⟩;replace UB:=UB.below c;replace hS:=(⟨hS.1.below c,hS.2.trans (c.mono hS.2.size)⟩:_/\_)
   obtain ⟨A9,c9,rfl,-⟩:=id (Rd.of_own ob);refine hK.out _ _ hS (fun _=>?_);clear hK K_ c
   (try simp only [pS])
   refine rC 25 (fun K_ hK=>?_);go_simp;refine (Aep _ _ r.id wn (Nat.le_trans (Adb _) Bl) (Rd.of_own ob)).mono ?_;rintro e wm ⟨rfl,rfl⟩;rw [S3];refine hK.out _ _ hS (fun _=>?_);clear hK K_ ob
   (try simp only [pS])
   refine tY 26 ?_
   (try simp only [pS])
   refine tY 27 ?_
   (try simp only [pS])
   refine wpAnyH_done Bm ?_ _;refine NoPanic.normal ?_;obtain ⟨XB,hb⟩:=hS;clear aA aZ UB1 cJ S3 aH bL r0 r1 r2 r3 r4 r5 r6;obtain ⟨w9,rfl⟩:∃ x,x=wn:=⟨_,rfl⟩
   generalize hA:Hv Y k=A at *
   replace hA:=Bq hA;have k1:Ab.wrap (A.waits+(Cp r.tasks 1:Nat))=A.waits+(Cp r.tasks 1:Nat):=Ar _ (by have:=Ia r.tasks 1;omega);have k2:Ab.wrap (A.ready+(Cp r.tasks 2:Nat))=A.ready+(Cp r.tasks 2:Nat):=Ar _ (by have:=Ia r.tasks 2;omega);have k3:Ab.wrap (A.runs+(Cp r.tasks 3:Nat))=A.runs+(Cp r.tasks 3:Nat):=Ar _ (by have:=Ia r.tasks 3;omega);have k4:Ab.wrap (A.done+(Cp r.tasks 4:Nat))=A.done+(Cp r.tasks 4:Nat):=Ar _ (by have:=Ia r.tasks 4;omega);have k5:Ab.wrap (A.failed+(Cp r.tasks 5:Nat))=A.failed+(Cp r.tasks 5:Nat):=Ar _ (by have:=Ia r.tasks 5;omega);have k6:Ab.wrap (A.left+(Cp r.tasks 6:Nat))=A.left+(Cp r.tasks 6:Nat):=Ar _ (by have:=Ia r.tasks 6;omega);have HF:Hid (∀ W,W=((((((w9.setCell ⟨ub,1,Ac⟩ (J Ab (A.waits+(Cp r.tasks 1:Nat)))).setCell ⟨ub,2,Ac⟩ (J Ab (A.ready+(Cp r.tasks 2:Nat)))).setCell ⟨ub,3,Ac⟩ (J Ab (A.runs+(Cp r.tasks 3:Nat)))).setCell ⟨ub,4,Ac⟩ (J Ab (A.done+(Cp r.tasks 4:Nat)))).setCell ⟨ub,5,Ac⟩ (J Ab (A.failed+(Cp r.tasks 5:Nat)))).setCell ⟨ub,6,Ac⟩ (J Ab (A.left+(Cp r.tasks 6:Nat)))) ->
     DBox ub (Jk (Hv Y (k+1))) W/\Below W3 W3 W):=by
    rintro W rfl;rw [S1.out];have jL:W3<=ub:=by have:=hubd.out;omega
    exact ⟨(((((UB.put 1 Bn _).put 2 Bn _).put 3 Bn _).put 4 Bn _).put 5 Bn _).put 6 Bn _,
     (((((hb.setCell jL _).setCell jL _).setCell jL _).setCell jL _).setCell jL _).setCell jL _⟩
   have UB_:=UB.g7;have uf:=UB.free;have XB_:=XB.g7;go_upto_region 20 with fail
   have HG:=HF.out _ rfl;clear UB_ XB_ uf HF UB k1 k2 k3 k4 k5 k6 L1 L2;generalize ((((((w9.setCell ⟨ub,1,Ac⟩ (J Ab (A.waits+(Cp r.tasks 1:Nat)))).setCell ⟨ub,2,Ac⟩ (J Ab (A.ready+(Cp r.tasks 2:Nat)))).setCell ⟨ub,3,Ac⟩ (J Ab (A.runs+(Cp r.tasks 3:Nat)))).setCell ⟨ub,4,Ac⟩ (J Ab (A.done+(Cp r.tasks 4:Nat)))).setCell ⟨ub,5,Ac⟩ (J Ab (A.failed+(Cp r.tasks 5:Nat)))).setCell ⟨ub,6,Ac⟩ (J Ab (A.left+(Cp r.tasks 6:Nat))))=wz at *
   have SB1_:=(SB.below HG.2).g4;replace r7:=(HG.2.cell (p:=⟨rb,_,Ac⟩) pM).trans r7;have hrw:rb<wz:=by have:=HG.2.size;omega
   have kn:Ab.wrap ((Nb Y k:Int)+(r.tasks.length:Int))=(Nb Y k:Int)+(r.tasks.length:Int):=Ar _ Bl;go_wp2;first
    | exact ⟨⟨k+1,Bl,by go_num,by rw [S2.out];go_num,HG.1,HG.2⟩,clM⟩
    | (refine ⟨?_,clM⟩;(repeat apply Exists.intro);refine ⟨?_,clR⟩;exact ⟨k+1,Bl,by go_num,by rw [S2.out];go_num,HG.1,HG.2⟩)
  ·have aC:¬ (k:Int)<(Y.runs.length:Int):=Bl;obtain rfl:k=Y.runs.length:=Bl;rw [HT.out] at UB;have YB1_:=(YB.below hb).g4;clear CV pP hBu hTk;go_wp2_with fail
   refine (CN.out _ _ (rdY y1 hb)).mono ?_;rintro e w5 ⟨rfl,b5⟩;clear YB1_ SB1_ CN;replace UB:=UB.below b5;replace hb:=hb.trans (b5.mono hb.size);clear b5;go_upto_region 22 with fail
   have b6:Below w5 w5 (w5.alloc (.cells #[J Ab 0,J Ab 0,J Ab 0,J Ab 0,J Ab 0,J Ab 0,J Ab 0] 61)):=Bt;replace UB:=UB.below b6;replace hb:=hb.trans (b6.mono hb.size);clear b6;generalize w5.alloc (.cells #[J Ab 0,J Ab 0,J Ab 0,J Ab 0,J Ab 0,J Ab 0,J Ab 0] 61)=w6 at *
   have YB1_:=(YB.below hb).g4;go_wp2_with fail
   refine (CO.out _ _ (rdY y1 hb)).mono ?_;rintro e w7 ⟨rfl,b7⟩;clear YB1_ CO;replace UB:=UB.below b7;replace hb:=hb.trans (b7.mono hb.size);clear b7;generalize hL:Jt Y=L at *
   replace hL:=Bq hL;generalize Mt L L.length=m at *
   obtain ⟨W8,hW8_,EB,B8⟩:=bx1 w7 71 [J Ab m.prio,J Ab m.seq,J Ab m.run,J Ab m.task];go_upto_region 23 with fail
   rw [<-hW8_.out];clear hW8_;replace UB:=UB.below B8;replace hb:=hb.trans (B8.mono hb.size);clear B8;generalize w7.heap.size=eb at *
   have SB1_:=(SB.below hb).g4;go_wp2_with fail
   refine (CR.out _ _ (rdY y2 hb)).mono ?_;rintro e w9 ⟨lv,rfl,ol,b9⟩;clear SB1_ CR;replace UB:=UB.below b9;replace EB:=EB.below b9;replace hb:=hb.trans (b9.mono hb.size);clear b9;have hl:=Js (Rd.of_own ol);obtain ⟨A9,c9,rfl,-⟩:=id (Rd.of_own ol);have hRl1:=dL.out;go_wp2;go_loopw [16] (fun i wr=>∃ j:Nat,j<=L.length/\i = J Ab j/\Below w9 w9 wr) (fun i _=>L.length - (intOf i).toNat);case atStart=>exact ⟨0,Nat.zero_le _,rfl,Br _ _⟩
   case round =>
    obtain ⟨j,hj,rfl,mZ⟩:=hrel;by_cases aB:j<L.length
    ·have aC:(j:Int)<(L.length:Int):=Bl;have bZ:(0:Int)<=(j:Int):=Bl;obtain ⟨eb2,eo,_,rfl,he2,_,d0,d1,d2,d3⟩:=RdL.entry (hl.below mZ) aB;have hO:=gG.out j aB;have cE:decide (L[j].seq<m.seq)=false:=by simp;omega
     replace EB:=EB.below mZ;have EB_:=EB.g4;have he2w:eb2<wr:=by have:=mZ.size;omega
     have aN:=Df wr;clear hO;go_wp2;refine Bz Bm Bm ?_;obtain ⟨q0,q1,q2,q3,q4⟩:=EB_;repeat (go_big_quiet_step (fail))
     refine wpQuiet_nil ?_;rintro w11 ⟨⟨_,b11⟩,rfl⟩;go_wp2;first
      | exact ⟨⟨j+1,Bl,by go_num,Bv mZ b11⟩,clM⟩
      | (refine ⟨?_,clM⟩;(repeat apply Exists.intro);refine ⟨?_,clR⟩;exact ⟨j+1,Bl,by go_num,Bv mZ b11⟩)
    ·have aC:¬ (j:Int)<(L.length:Int):=Bl;replace UB:=UB.below mZ;replace hb:=hb.trans (mZ.mono hb.size);clear mZ hl ol EB gG aB;go_wp2_with fail
     refine (hPD.out _ (Bv b1 hb)).mono ?_;rintro e w10 ⟨pv,rfl,rp,b10⟩;replace UB:=UB.below b10;replace hb:=hb.trans (b10.mono hb.size);clear b10 hPD;obtain ⟨A10,c10,rfl,-⟩:=id rp;go_upto_region 31 with fail
     have b11:Below w10 w10 (w10.alloc (.cells #[J Ab p.prio,J Ab p.most,J Ab p.wait,J Ab p.tasks,Aa A10 p.edges.length c10] 43)):=Bt;replace rp:=(rp.below b11).more b11.size;replace UB:=UB.below b11;replace hb:=hb.trans (b11.mono hb.size);have hz:w10.heap.size+1=(w10.alloc (.cells #[J Ab p.prio,J Ab p.most,J Ab p.wait,J Ab p.tasks,Aa A10 p.edges.length c10] 43)).heap.size:=Bn;clear b11;generalize w10.alloc (.cells #[J Ab p.prio,J Ab p.most,J Ab p.wait,J Ab p.tasks,Aa A10 p.edges.length c10] 43)=w11 at *
     have cC:=Rd.row Fb.enc w11 45 [((d0 5 0 0,⟨Ac,0,0⟩):Deed×Sl),(⟨1,7,p,0,0,0,0⟩,⟨A10,p.edges.length,c10⟩),(d0 2 0 0,⟨Ac,0,0⟩),(d0 6 7 0,⟨Ac,0,0⟩)] (g:=w10+1) hz (cs:=#[J Ab 5,J Ab 0,J Ab 0,J Ab 0,J Ab 0,J Ab 0,Aa Ac 0 0,J Ab 0,J Ab 0,J Ab 0,J Ab 0,J Ab 1,J Ab 7,J Ab p.prio,J Ab p.most,J Ab p.wait,J Ab p.tasks,Aa A10 p.edges.length c10,J Ab 0,J Ab 0,J Ab 0,J Ab 0,J Ab 2,J Ab 0,J Ab 0,J Ab 0,J Ab 0,J Ab 0,Aa Ac 0 0,J Ab 0,J Ab 0,J Ab 0,J Ab 0,J Ab 6,J Ab 7,J Ab 0,J Ab 0,J Ab 0,J Ab 0,Aa Ac 0 0,J Ab 0,J Ab 0,J Ab 0,J Ab 0]) rfl (n:=4) rfl 4 (Bs _) (B:=(w11.alloc (.cells #[J Ab 5,J Ab 0,J Ab 0,J Ab 0,J Ab 0,J Ab 0,Aa Ac 0 0,J Ab 0,J Ab 0,J Ab 0,J Ab 0,J Ab 1,J Ab 7,J Ab p.prio,J Ab p.most,J Ab p.wait,J Ab p.tasks,Aa A10 p.edges.length c10,J Ab 0,J Ab 0,J Ab 0,J Ab 0,J Ab 2,J Ab 0,J Ab 0,J Ab 0,J Ab 0,J Ab 0,Aa Ac 0 0,J Ab 0,J Ab 0,J Ab 0,J Ab 0,J Ab 6,J Ab 7,J Ab 0,J Ab 0,J Ab 0,J Ab 0,Aa Ac 0 0,J Ab 0,J Ab 0,J Ab 0,J Ab 0] 45))) (by simp;omega);have b12:Below w11 w11 (w11.alloc (.cells #[J Ab 5,J Ab 0,J Ab 0,J Ab 0,J Ab 0,J Ab 0,Aa Ac 0 0,J Ab 0,J Ab 0,J Ab 0,J Ab 0,J Ab 1,J Ab 7,J Ab p.prio,J Ab p.most,J Ab p.wait,J Ab p.tasks,Aa A10 p.edges.length c10,J Ab 0,J Ab 0,J Ab 0,J Ab 0,J Ab 2,J Ab 0,J Ab 0,J Ab 0,J Ab 0,J Ab 0,Aa Ac 0 0,J Ab 0,J Ab 0,J Ab 0,J Ab 0,J Ab 6,J Ab 7,J Ab 0,J Ab 0,J Ab 0,J Ab 0,Aa Ac 0 0,J Ab 0,J Ab 0,J Ab 0,J Ab 0] 45)):=Bt;replace rp:=(rp.below b12).more b12.size;replace UB:=UB.below b12;replace hb:=hb.trans (b12.mono hb.size);clear b12;generalize w11.alloc (.cells #[J Ab 5,J Ab 0,J Ab 0,J Ab 0,J Ab 0,J Ab 0,Aa Ac 0 0,J Ab 0,J Ab 0,J Ab 0,J Ab 0,J Ab 1,J Ab 7,J Ab p.prio,J Ab p.most,J Ab p.wait,J Ab p.tasks,Aa A10 p.edges.length c10,J Ab 0,J Ab 0,J Ab 0,J Ab 0,J Ab 2,J Ab 0,J Ab 0,J Ab 0,J Ab 0,J Ab 0,Aa Ac 0 0,J Ab 0,J Ab 0,J Ab 0,J Ab 0,J Ab 6,J Ab 7,J Ab 0,J Ab 0,J Ab 0,J Ab 0,Aa Ac 0 0,J Ab 0,J Ab 0,J Ab 0,J Ab 0] 45)=w12 at *
     have hnil:=Ad3 (Rd.nil Gd w12 w12 0);have hD:Hid (RdL Fb w12 w12 (Aa (some ⟨w10+1,0,Ac⟩) 4 4) (Ha p)):=⟨_,rfl,cC,fun r hr=>by
      simp only [List.mem_cons,List.not_mem_nil,or_false] at hr;rcases hr with rfl | rfl | rfl | rfl
      ·exact hnil
      ·exact Ad3 rp
      ·exact hnil
      ·exact hnil⟩
     have hcD:Kv Iy (Ha p)<=2000000:=by
      have h2:∀ d:Deed,Iy d=d.plan.edges.length:=fun d=>Hz (fun _=>rfl) _;unfold Kv;simp [Ha,d0,h2];omega
     have CO:=Bq (fun W (hW:Below w12 w12 W) id=>Ye (Ha p) ⟨some ⟨w10+1,0,Ac⟩,4,4⟩ id W hcD ((hD.out.below hW).more hW.size));clear hD cC hnil rp hz hcD;generalize w10.heap.size+1=db at *
     have VB1_:=(VB.below hb).g7;have UB_:=UB.g7;have YB1_:=(YB.below hb).g4;have hT:=hAll.out;unfold Ajj at hT;have hn12:=mJ.out Y.runs.length (Bs _);have hTL':=hTL;unfold Lo at hTL';have k1:Ab.wrap (T.waits+T.ready)=T.waits+T.ready:=Ar _ Bl;have k2:Ab.wrap (T.waits+T.ready+T.runs)=T.waits+T.ready+T.runs:=Ar _ Bl;have k3:Ab.wrap (T.waits+T.ready+T.runs+T.done)=T.waits+T.ready+T.runs+T.done:=Ar _ Bl;have k4:Ab.wrap (T.waits+T.ready+T.runs+T.done+T.failed)=T.waits+T.ready+T.runs+T.done+T.failed:=Ar _ Bl;have k5:Ab.wrap (T.waits+T.ready+T.runs+T.done+T.failed+T.left)=T.waits+T.ready+T.runs+T.done+T.failed+T.left:=Ar _ Bl;have k6:(T.waits+T.ready+T.runs+T.done+T.failed+T.left == (Nb Y Y.runs.length:Int))=true:=by simpa using hT
     clear hT hTL' hn12;go_wp2_with fail
     refine (CS.out _ _ (rdY y1 hb)).mono ?_;rintro e w13 ⟨rfl,b13⟩;have CO1:=CO.out w13 b13 7;have CO2:=Bq (fun W hW=>CO.out W (Bv b13 hW) 8);rw [hOv.out.1] at CO1;rw [hOv.out.2] at CO2;replace hb:=hb.trans (b13.mono hb.size);have hbe:(decide (0<L.length) == decide (0<L.length))=true:=Bn;clear b13 CO CS;go_wp2_with fail
     refine CO1.mono ?_;rintro e w14 ⟨rfl,b14⟩;go_wp2_with fail
     refine (CO2.out _ b14).mono ?_;rintro e w15 ⟨rfl,b15⟩;go_wp2;go_ret;exact ⟨rfl,Bv (Bv (Bv b1 hb) b14) b15⟩
end Go.Proofs.YtecnbnbopcblgaaGreat
