/-
  Copies of yards, of the program and of the reference. Written by program (yy.py). slices.DeleteFunc: lists of which some are kept; builtin clear at cells of sev
-/
import Derived.Test.YtonlnjdempbfoaaGreatZOv0
import Derived.Test.YtonlnjdempbfoaaGreatZOv1
import Derived.Test.YtonlnjdempbfoaaGreatZOv2
import Derived.Test.YtonlnjdempbfoaaGreatZOv3
import Derived.Test.YtonlnjdempbfoaaGreatZOv4
import Derived.Laws.Externs
import Derived.Laws.NewBlocks
namespace Go.Proofs.YtonlnjdempbfoaaGreat
open Go.RowKit
set_option maxRecDepth 100000
set_option maxHeartbeats 4000000
set_option linter.unusedVariables false
set_option linter.unusedSimpArgs false
theorem OwL.grown {α:Type} {d:Dt α} {w w':World} {F:List Nat} {v:Value} {l:List α} {row:Option Nat} (h:OwL d w F v l) (hg:w.grownBy w' row) (hd:∀ b∈F,row≠some b):OwL d w' F v l :=
 h.keep hg.size fun b hb=>hg.block b (h.lt b hb) (fun e=>hd b hb e.symm)
def CopyYPost (y:Yard) (w:World) (e:Ending) (w':World):Prop :=
 ∃ (s1 s2:Sl) (F1:List Nat) (base:Nat),e = .returned (By y (s1,s2))/\OwL (Dt.list Af) w' F1 s1.v y.shelf/\(∀ b∈F1,w.heap.size<=b/\b<base)/\w.heap.size+1<base/\base<=w'.heap.size/\Bls Am 89 w' base s2.v y.runs/\Below w.heap.size w w'
theorem CopyYPost.own {y:Yard} {w w':World} {e:Ending} (h:CopyYPost y w e w'):Cj Ab By y w e w':=by
 obtain ⟨s1,s2,F1,base,rfl,h1,h2,h3,_,⟨rs,hm,hB⟩,h4⟩:=h
 obtain ⟨F2,h5,h6⟩:=hB.owl hm
 refine ⟨(s1,s2),F1 ++ F2,rfl,⟨F1,F2,rfl,?_,h1,h5⟩,fun b hb=>?_,h4⟩
 ·rw [List.nodup_append]
  refine ⟨h1.nodup,h5.nodup,fun u hu u' hu' e=>?_⟩
  have:=h2 u hu
  have:=h6 u' hu'
  omega
 ·rcases List.mem_append.1 hb with hb | hb
  ·exact (h2 b hb).1
  ·have:=h6 b hb;omega
theorem Bls.below {α:Type} {d:Dt α} {E:TypeId} {w w':World} {base:Nat} {v:Value} {l:List α} (h:Bls d E w base v l) (hb:Below w.heap.size w w'):Bls d E w' base v l:=by
 obtain ⟨rs,hm,hB⟩:=h
 exact ⟨rs,hm,hB.below hb⟩
theorem Bls.setOther {α:Type} {d:Dt α} {E:TypeId} {w:World} {base:Nat} {v:Value} {l:List α} (h:Bls d E w base v l) {a:Addr} (ha:a.block<base) (u:Value):Bls d E (w.setCell a u) base v l:=by
 obtain ⟨rs,hm,hB⟩:=h
 exact ⟨rs,hm,hB.setOther ha u⟩
theorem Ii (y:Yard) (s:Sl×Sl) (w:World) (hl:Ai y<=2000000) (h:Ab.rd w w.heap.size y s) :
  Calls Tryz.prog 59 #[By y s] w (CopyYPost y w):=by
 obtain ⟨⟨A1,n1,c1⟩,⟨A2,n2,c2⟩⟩:=s
 obtain rfl:n1=y.shelf.length:=RdL.at1 (s:=⟨A1,n1,c1⟩) h.1
 obtain rfl:n2=y.runs.length:=RdL.at1 (s:=⟨A2,n2,c2⟩) h.2
 have h1:RdL (Dt.list Af) w w.heap.size (.slice A1 y.shelf.length c1) y.shelf:=h.1
 have h2:RdL Am w w.heap.size (.slice A2 y.runs.length c2) y.runs:=h.2
 have dI:y.runs.length<=2000000:=Nat.le_trans (Ar Bg _) (by unfold Ai at hl;omega)
 have hls:y.shelf.length<=2000000:=Nat.le_trans (Ar Bl _) (by unfold Ai at hl;omega)
 have HE:=Lib.hid (show ∀ k (hk:k<y.shelf.length),y.shelf[k].length<=2000000 from fun k hk=>by
  have:=Cq (cnt:=Bl) (List.getElem_mem hk)
  have h2:y.shelf[k].length<=Bl y.shelf[k]:=Ar Hu _
  unfold Ai at hl
  omega)
 have HC:=Lib.hid (show ∀ k (hk:k<y.runs.length),Bg y.runs[k]<=2000000 from fun k hk=>by
  have:=Cq (cnt:=Bg) (List.getElem_mem hk)
  unfold Ai at hl
  omega)
 clear h
 obtain ⟨W,aG,X,Z,O,B0⟩:=bx3 w 31 [.int .i64 y.now,.int .i64 y.seq,.slice A1 y.shelf.length c1,.slice A2 y.runs.length c2] 31 [.int .i64 0,.int .i64 0,.slice none 0 0,.slice none 0 0] 31 [.int .i64 y.now,.int .i64 y.seq,.slice none 0 0,.slice none 0 0]
 obtain ⟨i0,aP,aX,aV,aQ⟩:=info_parts I5
 obtain ⟨e0,he0,ez0,ez1,ez2⟩:=info_parts Ds
 obtain ⟨j0,bX,jz0,jz1,jz2⟩:=info_parts Jc
 go_enter Tryz.func59,Tryz.ntmps59
 go_wp2
 rw [<-aG.out]
 clear aG
 have pM:w.heap.size+3<=W.heap.size:=O.lt
 go_loopw [16] (fun i wr=>∃ (k:Nat) (v:Value),k<=y.shelf.length/\i = .int .i64 k/\Hid (Bls (Dt.list Af) 96 wr (w.heap.size+3) v (y.shelf.take k))/\DBox w.heap.size [.int .i64 y.now,.int .i64 y.seq,.slice A1 y.shelf.length c1,.slice A2 y.runs.length c2] wr/\DBox (w.heap.size+1) [.int .i64 0,.int .i64 0,.slice none 0 0,.slice none 0 0] wr/\DBox (w.heap.size+1+1) [.int .i64 y.now,.int .i64 y.seq,v,.slice none 0 0] wr/\Below w.heap.size w wr/\w.heap.size+3<=wr.heap.size) (fun i _=>y.shelf.length - (intOf i).toNat)
 case atStart=>exact ⟨0,_,Nat.zero_le _,rfl,⟨[],rfl,Bld.nil _ _ _ _⟩,X,Z,O,B0,pM⟩
 case round =>
  clear X Z O B0 pM
  obtain ⟨k,v,hk,rfl,fS,X,Z,O,hb,bE⟩:=hrel
  obtain ⟨X_0,X_1,X_2,X_3,X_l⟩:=X.g4
  obtain ⟨O_0,O_1,O_2,O_3,O_l⟩:=O.g4
  have O_f:=O.free
  by_cases aA:k<y.shelf.length
  ·have aB:(k:Int)<(y.shelf.length:Int):=by omega
   obtain ⟨b,o,⟨As,ns,cs⟩,mA,aH,hr,d0⟩:=(h1.below hb).entryS aA
   obtain rfl:ns=y.shelf[k].length:=RdL.at1 (s:=⟨As,ns,cs⟩) hr
   subst mA
   have bJ:b<wr.heap.size:=Nat.lt_of_lt_of_le aH hb.size
   have hez:=HE.out k aA
   obtain ⟨rs,hm,hB⟩:=fS.out
   have bR:rs.length=k:=by have:=congrArg List.length hm;simpa [Nat.min_eq_left hk] using this
   have hrl':rs.length<=2000000:=by omega
   have Hrl:=Lib.hid bR
   clear bR
   have hO:=hB.ow
   have aC:v.ownBlock≠some (w.heap.size+1+1):=fun e=>by have:=hO.within _ e;omega
   have cB:=Lib.hid (show ∀ W,Below wr.heap.size wr W->RdL Af W W.heap.size (Sl.v ⟨As,y.shelf[k].length,cs⟩) y.shelf[k] from fun W hW=>RdL.more (RdL.below (RdL.more hr hb.size) hW) hW.size)
   go_wp2
   refine Bj (fun w'=>w'.cell? ⟨w.heap.size+1+1,2,none⟩=some v) 7 (by kernel_rfl) ?_ (fun hHeld=>?_)
   ·simpa [go_sem] using O_2
   refine aT 0 hHeld ?_
   try simp only [pS]
   refine aT 1 hHeld ?_
   try simp only [pS]
   refine aT 2 hHeld ?_
   try simp only [pS]
   refine oT 3 (fun K hK=>?_)
   (go_simp;refine (Gz y.shelf[k] ⟨As,y.shelf[k].length,cs⟩ _ hez (cB.out _ (Below.refl _ _).drew)).mono ?_;rintro e w2 ⟨s2,F2,rfl,o2,n2,b2⟩;(try dsimp only [slV]);have B12:=Aa ((Below.refl wr.heap.size wr).drew) b2;have z2:=B12.size;simp only [World.size_drew] at n2;have O2:=O.below B12;have X2:=X.below B12;have k0:w2.cell? ⟨w.heap.size+1+1,2,none⟩=some v:=O2.cell 2 _ rfl;have d2f:=O2.free;have d2l:=O2.lt;go_simp)
   refine hK.out _ _ (fun _=>?_) ?_
   ·exact k0
   clear hK K
   try simp only [pS]
   refine oT 4 (fun K hK=>?_)
   go_simp
   refine hK.out _ _ (fun _=>?_) ?_
   ·(first | assumption | go_keep)
   clear hK K
   try simp only [pS]
   refine oT 5 (fun K hK=>?_)
   (refine Dx _ (Dt.list Af).enc (by decide) (by rfl) (.tmp 21) (.tmp 24) (by rfl) Tryz.underlying28 aP aX aV aQ (by rfl) (v:=v) (l:=rs) (by rfl) (hO.below (B12.alloc (by omega) _)) (by rfl) (Rd.one (Dt.list Af).enc _ _ (y.shelf[k],s2) (by simp) rfl 1 (Nat.le_refl _) (Nat.lt_succ_self _)) (by omega) (by simp) (by decide) (by (try simp only [World.size_alloc]);omega) ?_;intro v5 w5 o5 g5 f5;obtain ⟨A5,c5,rfl,-⟩:=id (Rd.of_own o5);simp only [List.length_append,List.length_singleton] at o5 f5;have dJ:=(Below.refl w2.heap.size w2).alloc (Nat.le_refl _) (.cells #[.slice s2.a s2.n s2.c] 96);have O5:=(O2.below dJ).off g5 (fun e=>aC e.symm);have m0:w5.cell? ⟨w.heap.size+1+1,2,none⟩=some v:=O5.cell 2 _ rfl;have X5:=(X2.below dJ).off g5 (fun e=>by have:=hO.within _ e.symm;omega);have fO:=O5.free;have lO:=O5.lt)
   refine hK.out _ _ (fun _=>?_) ?_
   ·exact m0
   clear hK K
   try simp only [pS]
   refine oT 6 (fun K hK=>?_)
   go_simp
   refine hK.out _ _ (fun _=>?_) ?_
   ·exact m0
   clear hK K
   try simp only [pS]
   refine oT 7 (fun K hK=>?_)
   go_simp
   refine hK.out _ _ (fun aC=>absurd rfl aC) ?_
   clear hK K
   try simp only [pS]
   refine Cg (by kernel_rfl) ?_ _
   go_wp2
   have Z5:=((Z.below B12).below dJ).off g5 (fun e=>by have:=hO.within _ e.symm;omega)
   have hP:=Bld.push1 (d:=Dt.list Af) hB B12 o2 (fun b bG=>by have:=n2 b bG;omega) bE dJ o5 g5 f5
   have W5:=((hb.trans (B12.mono hb.size)).alloc (by omega) (.cells #[.slice s2.a s2.n s2.c] 96)).grown g5 (by (try simp only [World.size_alloc]);omega) (fun g hg=>by have:=hO.within g hg;omega)
   have S:Hid (Bls (Dt.list Af) 96 (w5.setCell ⟨w.heap.size+1+1,2,none⟩ (.slice A5 (rs.length+1) c5)) (w.heap.size+3) (.slice A5 (rs.length+1) c5) (y.shelf.take (k+1))):=⟨rs ++ [(y.shelf[k],s2)],by rw [List.map_append,hm,Ay y.shelf k aA];rfl,hP.setOther (a:=⟨w.heap.size+1+1,2,none⟩) (by show w.heap.size+1+1<_;omega) _⟩
   have g5s:=g5.size
   simp only [World.size_alloc] at g5s
   have SX:=X5.setOther (a:=⟨w.heap.size+1+1,2,none⟩) (by show w.heap.size≠w.heap.size+1+1;omega) (.slice A5 (rs.length+1) c5)
   have SZ:=Z5.setOther (a:=⟨w.heap.size+1+1,2,none⟩) (by show w.heap.size+1≠w.heap.size+1+1;omega) (.slice A5 (rs.length+1) c5)
   have SO:DBox (w.heap.size+1+1) [.int .i64 y.now,.int .i64 y.seq,.slice A5 (rs.length+1) c5,.slice none 0 0] (w5.setCell ⟨w.heap.size+1+1,2,none⟩ (.slice A5 (rs.length+1) c5)):=O5.set 2 (by simp) _
   have SW:Below w.heap.size w (w5.setCell ⟨w.heap.size+1+1,2,none⟩ (.slice A5 (rs.length+1) c5)):=W5.setCell (by show w.heap.size<=w.heap.size+1+1;omega) _
   have SS:w.heap.size+3<=(w5.setCell ⟨w.heap.size+1+1,2,none⟩ (.slice A5 (rs.length+1) c5)).heap.size:=by simp [World.setCell];omega
   first
    | exact ⟨⟨k+1,by omega,by simp,.slice A5 (rs.length+1) c5,S,SX,SZ,SO,SW,by simpa using SS⟩,by simp [intOf];omega⟩
    | exact ⟨⟨k+1,.slice A5 (rs.length+1) c5,by omega,by go_num,S,SX,SZ,SO,SW,SS⟩,by simp [intOf];omega⟩
    | (refine ⟨?_,by simp [intOf];omega⟩;(repeat apply Exists.intro);first | exact ⟨⟨k+1,.slice A5 (rs.length+1) c5,by omega,by go_num,S,SX,SZ,SO,SW,SS⟩,rfl⟩ | exact ⟨⟨k+1,.slice A5 (rs.length+1) c5,by omega,by go_num,S,SX,SZ,SO,SW,SS⟩,rfl,rfl⟩ | exact ⟨⟨k+1,.slice A5 (rs.length+1) c5,by omega,by go_num,S,SX,SZ,SO,SW,SS⟩,rfl,rfl,rfl⟩ | exact ⟨⟨k+1,.slice A5 (rs.length+1) c5,by omega,by go_num,S,SX,SZ,SO,SW,SS⟩,rfl,rfl,rfl,rfl⟩ | exact ⟨⟨k+1,.slice A5 (rs.length+1) c5,by omega,by go_num,S,SX,SZ,SO,SW,SS⟩,rfl,rfl,rfl,rfl,rfl⟩ | exact ⟨⟨k+1,.slice A5 (rs.length+1) c5,by omega,by go_num,S,SX,SZ,SO,SW,SS⟩,rfl,rfl,rfl,rfl,rfl,rfl⟩ | exact ⟨⟨k+1,.slice A5 (rs.length+1) c5,by omega,by go_num,S,SX,SZ,SO,SW,SS⟩,rfl,rfl,rfl,rfl,rfl,rfl,rfl⟩ | exact ⟨⟨k+1,.slice A5 (rs.length+1) c5,by omega,by go_num,S,SX,SZ,SO,SW,SS⟩,rfl,rfl,rfl,rfl,rfl,rfl,rfl,rfl⟩ | exact ⟨⟨k+1,.slice A5 (rs.length+1) c5,by omega,by go_num,S,SX,SZ,SO,SW,SS⟩,rfl,rfl,rfl,rfl,rfl,rfl,rfl,rfl,rfl⟩ | exact ⟨⟨k+1,.slice A5 (rs.length+1) c5,by omega,by go_num,S,SX,SZ,SO,SW,SS⟩,rfl,rfl,rfl,rfl,rfl,rfl,rfl,rfl,rfl,rfl⟩ | exact ⟨⟨k+1,.slice A5 (rs.length+1) c5,by omega,by go_num,S,SX,SZ,SO,SW,SS⟩,rfl,rfl,rfl,rfl,rfl,rfl,rfl,rfl,rfl,rfl,rfl⟩ | exact ⟨⟨k+1,.slice A5 (rs.length+1) c5,by omega,by go_num,S,SX,SZ,SO,SW,SS⟩,rfl,rfl,rfl,rfl,rfl,rfl,rfl,rfl,rfl,rfl,rfl,rfl⟩ | exact ⟨⟨k+1,.slice A5 (rs.length+1) c5,by omega,by go_num,S,SX,SZ,SO,SW,SS⟩,rfl,rfl,rfl,rfl,rfl,rfl,rfl,rfl,rfl,rfl,rfl,rfl,rfl⟩)
  ·have aB:¬ (k:Int)<(y.shelf.length:Int):=by omega
   have bH:k=y.shelf.length:=by omega
   obtain ⟨F1,⟨⟨A9,n9,c9⟩,rfl,OS⟩,nS⟩:∃ F1,(∃ s:Sl,v = .slice s.a s.n s.c/\OwL (Dt.list Af) wr F1 s.v y.shelf) /\ ∀ b∈F1,w.heap.size+3<=b:=by
    obtain ⟨rs,hm,hB⟩:=fS.out
    rw [bH,List.take_length] at hm
    obtain ⟨F,h1,h2⟩:=hB.owl hm
    obtain ⟨A,c,rfl,_⟩:=h1.form
    exact ⟨F,⟨⟨A,y.shelf.length,c⟩,rfl,h1⟩,h2⟩
   go_wp2
   clear X_0 X_1 X_2 X_3 X_l O_0 O_1 O_2 O_3 O_l O_f aA aB bH hk fS
   obtain ⟨ws,sU⟩:∃ ws,ws=wr:=⟨_,rfl⟩
   rw [<-sU] at hb X Z O OS bE ⊢
   clear sU
   have lS:∀ b∈F1,b<ws.heap.size:=OS.lt
   have hsw3:w.heap.size+3<=ws.heap.size:=bE
   go_loopw [31] (fun i wr=>∃ (k:Nat) (v:Value),k<=y.runs.length/\i = .int .i64 k/\Hid (Bls Am 89 wr ws.heap.size v (y.runs.take k))/\Hid (OwL (Dt.list Af) wr F1 (.slice A9 n9 c9) y.shelf)/\DBox w.heap.size [.int .i64 y.now,.int .i64 y.seq,.slice A1 y.shelf.length c1,.slice A2 y.runs.length c2] wr/\DBox (w.heap.size+1) [.int .i64 0,.int .i64 0,.slice none 0 0,.slice none 0 0] wr/\DBox (w.heap.size+1+1) [.int .i64 y.now,.int .i64 y.seq,.slice A9 n9 c9,v] wr/\Below w.heap.size w wr/\ws.heap.size<=wr.heap.size) (fun i _=>y.runs.length - (intOf i).toNat)
   case atStart=>exact ⟨0,_,Nat.zero_le _,rfl,⟨[],rfl,Bld.nil _ _ _ _⟩,OS,X,Z,O,hb,Nat.le_refl _⟩
   case round =>
    clear X Z O hb OS
    obtain ⟨k,v,hk,rfl,fS,OS,X,Z,O,hb,jC⟩:=hrel
    obtain ⟨X_0,X_1,X_2,X_3,X_l⟩:=X.g4
    obtain ⟨O_0,O_1,O_2,O_3,O_l⟩:=O.g4
    have O_f:=O.free
    by_cases aA:k<y.runs.length
    ·have aB:(k:Int)<(y.runs.length:Int):=by omega
     obtain ⟨b,o,⟨⟨A8,n8,c8⟩,⟨At,nt,ct⟩⟩,dW,aH,cB,e0,e1,e2,e3,e4,e5,e6,e7⟩:=(h2.below hb).run aA
     subst dW
     have bJ:b<wr.heap.size:=Nat.lt_of_lt_of_le aH hb.size
     have HRr:=Lib.hid (show ∀ W,Below wr.heap.size wr W->Am.rd W W.heap.size y.runs[k] (⟨A8,n8,c8⟩,⟨At,nt,ct⟩) from fun W hW=>Am.rd_more (Am.rd_below (Am.rd_more cB hb.size) hW) hW.size)
     have mF:=HC.out k aA
     obtain ⟨rs,hm,hB⟩:=fS.out
     have bR:rs.length=k:=by have:=congrArg List.length hm;simpa [Nat.min_eq_left hk] using this
     have hrl':rs.length<=2000000:=by omega
     have Hrl:=Lib.hid bR
     clear bR
     have hO:=hB.ow
     have aC:v.ownBlock≠some (w.heap.size+1+1):=fun e=>by have:=hO.within _ e;omega
     have T:=DBox.new 89 [.int .i64 y.runs[k].id,.int .i64 y.runs[k].plan.prio,.int .i64 y.runs[k].plan.most,.int .i64 y.runs[k].plan.wait,.int .i64 y.runs[k].plan.tasks,.slice A8 n8 c8,.int .i64 y.runs[k].state,.slice At nt ct] wr rfl
     have ha:=(Below.refl wr.heap.size wr).alloc (Nat.le_refl _) (.cells #[.int .i64 y.runs[k].id,.int .i64 y.runs[k].plan.prio,.int .i64 y.runs[k].plan.most,.int .i64 y.runs[k].plan.wait,.int .i64 y.runs[k].plan.tasks,.slice A8 n8 c8,.int .i64 y.runs[k].state,.slice At nt ct] 89)
     go_wp2
     generalize hW1:wr.alloc (.cells #[.int .i64 y.runs[k].id,.int .i64 y.runs[k].plan.prio,.int .i64 y.runs[k].plan.most,.int .i64 y.runs[k].plan.wait,.int .i64 y.runs[k].plan.tasks,.slice A8 n8 c8,.int .i64 y.runs[k].state,.slice At nt ct] 89)=w1 at *
     clear hW1 X_0 X_1 X_2 X_3 X_l O_0 O_1 O_2 O_3 O_l O_f e0 e1 e2 e3 e4 e5 e6 e7
     have X1:=X.below ha
     have O1:=O.below ha
     have sa:=ha.size
     have Tl:=T.lt
     refine Bj (fun w'=>w'.cell? ⟨w.heap.size+1+1,3,none⟩=some v/\w'.cell? ⟨wr.heap.size,0,none⟩=some (.int .i64 y.runs[k].id)/\w'.cell? ⟨wr.heap.size,1,none⟩=some (.int .i64 y.runs[k].plan.prio)/\w'.cell? ⟨wr.heap.size,2,none⟩=some (.int .i64 y.runs[k].plan.most)/\w'.cell? ⟨wr.heap.size,3,none⟩=some (.int .i64 y.runs[k].plan.wait)/\w'.cell? ⟨wr.heap.size,4,none⟩=some (.int .i64 y.runs[k].plan.tasks)/\w'.cell? ⟨wr.heap.size,5,none⟩=some (.slice A8 n8 c8)/\w'.cell? ⟨wr.heap.size,6,none⟩=some (.int .i64 y.runs[k].state)/\w'.cell? ⟨wr.heap.size,7,none⟩=some (.slice At nt ct)) 7 (by kernel_rfl) ?_ (fun hHeld=>?_)
     ·exact ⟨by simpa [go_sem] using O1.cell 3 _ rfl,by simpa [go_sem] using T.cell 0 _ rfl,by simpa [go_sem] using T.cell 1 _ rfl,by simpa [go_sem] using T.cell 2 _ rfl,by simpa [go_sem] using T.cell 3 _ rfl,by simpa [go_sem] using T.cell 4 _ rfl,by simpa [go_sem] using T.cell 5 _ rfl,by simpa [go_sem] using T.cell 6 _ rfl,by simpa [go_sem] using T.cell 7 _ rfl⟩
     refine aT 0 hHeld ?_
     try simp only [pS]
     refine aT 1 hHeld ?_
     try simp only [pS]
     refine aT 2 hHeld ?_
     try simp only [pS]
     refine oT 3 (fun K hK=>?_)
     (go_simp;refine (K5 y.runs[k] (⟨A8,n8,c8⟩,⟨At,nt,ct⟩) _ mF (HRr.out _ ha.drew)).mono ?_;rintro e w2 ⟨s2,F2,rfl,o2,n2,b2⟩;have B12:=Aa ha (Aa ((Below.refl w1.heap.size w1).drew) b2);have z2:=B12.size;simp only [World.size_drew] at n2;have O2:=O.below B12;have k0:w2.cell? ⟨w.heap.size+1+1,3,none⟩=some v:=O2.cell 3 _ rfl;have X2:=X.below B12;have T2:=T.below (Aa ((Below.refl w1.heap.size w1).drew) b2);have q0:w2.cell? ⟨wr.heap.size,0,none⟩=some (.int .i64 y.runs[k].id):=T2.cell 0 _ rfl;have q1:w2.cell? ⟨wr.heap.size,1,none⟩=some (.int .i64 y.runs[k].plan.prio):=T2.cell 1 _ rfl;have q2:w2.cell? ⟨wr.heap.size,2,none⟩=some (.int .i64 y.runs[k].plan.most):=T2.cell 2 _ rfl;have q3:w2.cell? ⟨wr.heap.size,3,none⟩=some (.int .i64 y.runs[k].plan.wait):=T2.cell 3 _ rfl;have q4:w2.cell? ⟨wr.heap.size,4,none⟩=some (.int .i64 y.runs[k].plan.tasks):=T2.cell 4 _ rfl;have q5:w2.cell? ⟨wr.heap.size,5,none⟩=some (.slice A8 n8 c8):=T2.cell 5 _ rfl;have q6:w2.cell? ⟨wr.heap.size,6,none⟩=some (.int .i64 y.runs[k].state):=T2.cell 6 _ rfl;have q7:w2.cell? ⟨wr.heap.size,7,none⟩=some (.slice At nt ct):=T2.cell 7 _ rfl;have d2f:=O2.free;have d2l:=O2.lt;go_simp)
     refine hK.out _ _ (fun _=>?_) ?_
     ·exact ⟨k0,q0,q1,q2,q3,q4,q5,q6,q7⟩
     clear hK K
     try simp only [pS]
     refine oT 4 (fun K hK=>?_)
     go_simp
     refine hK.out _ _ (fun _=>?_) ?_
     ·(refine ⟨?_,?_,?_,?_,?_,?_,?_,?_,?_⟩<;>first | assumption | go_keep)
     clear hK K
     try simp only [pS]
     refine oT 5 (fun K hK=>?_)
     (refine Dx _ Am.enc (by decide) (by rfl) (.tmp 36) (.tmp 39) (by rfl) Tryz.underlying29 bX jz0 jz1 jz2 (by rfl) (v:=v) (l:=rs) (by rfl) (hO.below (B12.alloc (by omega) _)) (by rfl) (Rd.one Am.enc _ _ (y.runs[k],s2) (by simp) rfl 1 (Nat.le_refl _) (Nat.lt_succ_self _)) (by omega) (by simp) (by decide) (by (try simp only [World.size_alloc]);omega) ?_;intro v5 w5 o5 g5 f5;obtain ⟨A5,c5,rfl,-⟩:=id (Rd.of_own o5);simp only [List.length_append,List.length_singleton] at o5 f5;have dJ:=(Below.refl w2.heap.size w2).alloc (Nat.le_refl _) (.cells #[.int .i64 y.runs[k].id,.int .i64 y.runs[k].plan.prio,.int .i64 y.runs[k].plan.most,.int .i64 y.runs[k].plan.wait,.int .i64 y.runs[k].plan.tasks,.slice s2.1.a s2.1.n s2.1.c,.int .i64 y.runs[k].state,.slice s2.2.a s2.2.n s2.2.c] 89);have O5:=(O2.below dJ).off g5 (fun e=>aC e.symm);have m0:w5.cell? ⟨w.heap.size+1+1,3,none⟩=some v:=O5.cell 3 _ rfl;have X5:=(X2.below dJ).off g5 (fun e=>by have:=hO.within _ e.symm;omega);have T5:=(T2.below dJ).off g5 (fun e=>by have:=hO.within _ e.symm;omega);have r0:w5.cell? ⟨wr.heap.size,0,none⟩=some (.int .i64 y.runs[k].id):=T5.cell 0 _ rfl;have r1:w5.cell? ⟨wr.heap.size,1,none⟩=some (.int .i64 y.runs[k].plan.prio):=T5.cell 1 _ rfl;have r2:w5.cell? ⟨wr.heap.size,2,none⟩=some (.int .i64 y.runs[k].plan.most):=T5.cell 2 _ rfl;have r3:w5.cell? ⟨wr.heap.size,3,none⟩=some (.int .i64 y.runs[k].plan.wait):=T5.cell 3 _ rfl;have r4:w5.cell? ⟨wr.heap.size,4,none⟩=some (.int .i64 y.runs[k].plan.tasks):=T5.cell 4 _ rfl;have r5:w5.cell? ⟨wr.heap.size,5,none⟩=some (.slice A8 n8 c8):=T5.cell 5 _ rfl;have r6:w5.cell? ⟨wr.heap.size,6,none⟩=some (.int .i64 y.runs[k].state):=T5.cell 6 _ rfl;have r7:w5.cell? ⟨wr.heap.size,7,none⟩=some (.slice At nt ct):=T5.cell 7 _ rfl;have fO:=O5.free;have lO:=O5.lt)
     refine hK.out _ _ (fun _=>?_) ?_
     ·exact ⟨m0,r0,r1,r2,r3,r4,r5,r6,r7⟩
     clear hK K
     try simp only [pS]
     refine oT 6 (fun K hK=>?_)
     go_simp
     refine hK.out _ _ (fun _=>?_) ?_
     ·exact ⟨m0,r0,r1,r2,r3,r4,r5,r6,r7⟩
     clear hK K
     try simp only [pS]
     refine oT 7 (fun K hK=>?_)
     go_simp
     refine hK.out _ _ (fun aC=>absurd rfl aC) ?_
     clear hK K
     try simp only [pS]
     refine Cg (by kernel_rfl) ?_ _
     go_wp2
     have Z5:=((Z.below B12).below dJ).off g5 (fun e=>by have:=hO.within _ e.symm;omega)
     have OS5:=((OS.out.below B12).below dJ).grown g5 (fun b bG e=>by have:=hO.within _ e;have:=lS b bG;omega)
     have hP:=Bld.push1 (d:=Am) hB B12 o2 (fun b bG=>by have:=n2 b bG;omega) jC dJ o5 g5 f5
     have W5:=((hb.trans (B12.mono hb.size)).alloc (by omega) (.cells #[.int .i64 y.runs[k].id,.int .i64 y.runs[k].plan.prio,.int .i64 y.runs[k].plan.most,.int .i64 y.runs[k].plan.wait,.int .i64 y.runs[k].plan.tasks,.slice s2.1.a s2.1.n s2.1.c,.int .i64 y.runs[k].state,.slice s2.2.a s2.2.n s2.2.c] 89)).grown g5 (by (try simp only [World.size_alloc]);omega) (fun g hg=>by have:=hO.within g hg;omega)
     have S:Hid (Bls Am 89 (w5.setCell ⟨w.heap.size+1+1,3,none⟩ (.slice A5 (rs.length+1) c5)) ws.heap.size (.slice A5 (rs.length+1) c5) (y.runs.take (k+1))):=⟨rs ++ [(y.runs[k],s2)],by rw [List.map_append,hm,Ay y.runs k aA];rfl,hP.setOther (a:=⟨w.heap.size+1+1,3,none⟩) (by show w.heap.size+1+1<_;omega) _⟩
     have S2:Hid (OwL (Dt.list Af) (w5.setCell ⟨w.heap.size+1+1,3,none⟩ (.slice A5 (rs.length+1) c5)) F1 (.slice A9 n9 c9) y.shelf):=OwL.set OS5 (fun hm=>by have:_<=w.heap.size+1+1:=nS _ hm;omega) _
     have g5s:=g5.size
     simp only [World.size_alloc] at g5s
     have SX:=X5.setOther (a:=⟨w.heap.size+1+1,3,none⟩) (by show w.heap.size≠w.heap.size+1+1;omega) (.slice A5 (rs.length+1) c5)
     have SZ:=Z5.setOther (a:=⟨w.heap.size+1+1,3,none⟩) (by show w.heap.size+1≠w.heap.size+1+1;omega) (.slice A5 (rs.length+1) c5)
     have SO:DBox (w.heap.size+1+1) [.int .i64 y.now,.int .i64 y.seq,.slice A9 n9 c9,.slice A5 (rs.length+1) c5] (w5.setCell ⟨w.heap.size+1+1,3,none⟩ (.slice A5 (rs.length+1) c5)):=O5.set 3 (by simp) _
     have SW:Below w.heap.size w (w5.setCell ⟨w.heap.size+1+1,3,none⟩ (.slice A5 (rs.length+1) c5)):=W5.setCell (by show w.heap.size<=w.heap.size+1+1;omega) _
     have SS:ws.heap.size<=(w5.setCell ⟨w.heap.size+1+1,3,none⟩ (.slice A5 (rs.length+1) c5)).heap.size:=by simp [World.setCell];omega
     first
      | exact ⟨⟨k+1,by omega,by simp,.slice A5 (rs.length+1) c5,S,S2,SX,SZ,SO,SW,by simpa using SS⟩,by simp [intOf];omega⟩
      | exact ⟨⟨k+1,.slice A5 (rs.length+1) c5,by omega,by go_num,S,S2,SX,SZ,SO,SW,SS⟩,by simp [intOf];omega⟩
      | (refine ⟨?_,by simp [intOf];omega⟩;(repeat apply Exists.intro);first | exact ⟨⟨k+1,.slice A5 (rs.length+1) c5,by omega,by go_num,S,S2,SX,SZ,SO,SW,SS⟩,rfl⟩ | exact ⟨⟨k+1,.slice A5 (rs.length+1) c5,by omega,by go_num,S,S2,SX,SZ,SO,SW,SS⟩,rfl,rfl⟩ | exact ⟨⟨k+1,.slice A5 (rs.length+1) c5,by omega,by go_num,S,S2,SX,SZ,SO,SW,SS⟩,rfl,rfl,rfl⟩ | exact ⟨⟨k+1,.slice A5 (rs.length+1) c5,by omega,by go_num,S,S2,SX,SZ,SO,SW,SS⟩,rfl,rfl,rfl,rfl⟩ | exact ⟨⟨k+1,.slice A5 (rs.length+1) c5,by omega,by go_num,S,S2,SX,SZ,SO,SW,SS⟩,rfl,rfl,rfl,rfl,rfl⟩ | exact ⟨⟨k+1,.slice A5 (rs.length+1) c5,by omega,by go_num,S,S2,SX,SZ,SO,SW,SS⟩,rfl,rfl,rfl,rfl,rfl,rfl⟩ | exact ⟨⟨k+1,.slice A5 (rs.length+1) c5,by omega,by go_num,S,S2,SX,SZ,SO,SW,SS⟩,rfl,rfl,rfl,rfl,rfl,rfl,rfl⟩ | exact ⟨⟨k+1,.slice A5 (rs.length+1) c5,by omega,by go_num,S,S2,SX,SZ,SO,SW,SS⟩,rfl,rfl,rfl,rfl,rfl,rfl,rfl,rfl⟩ | exact ⟨⟨k+1,.slice A5 (rs.length+1) c5,by omega,by go_num,S,S2,SX,SZ,SO,SW,SS⟩,rfl,rfl,rfl,rfl,rfl,rfl,rfl,rfl,rfl⟩ | exact ⟨⟨k+1,.slice A5 (rs.length+1) c5,by omega,by go_num,S,S2,SX,SZ,SO,SW,SS⟩,rfl,rfl,rfl,rfl,rfl,rfl,rfl,rfl,rfl,rfl⟩ | exact ⟨⟨k+1,.slice A5 (rs.length+1) c5,by omega,by go_num,S,S2,SX,SZ,SO,SW,SS⟩,rfl,rfl,rfl,rfl,rfl,rfl,rfl,rfl,rfl,rfl,rfl⟩ | exact ⟨⟨k+1,.slice A5 (rs.length+1) c5,by omega,by go_num,S,S2,SX,SZ,SO,SW,SS⟩,rfl,rfl,rfl,rfl,rfl,rfl,rfl,rfl,rfl,rfl,rfl,rfl⟩ | exact ⟨⟨k+1,.slice A5 (rs.length+1) c5,by omega,by go_num,S,S2,SX,SZ,SO,SW,SS⟩,rfl,rfl,rfl,rfl,rfl,rfl,rfl,rfl,rfl,rfl,rfl,rfl,rfl⟩)
    ·have aB:¬ (k:Int)<(y.runs.length:Int):=by omega
     have bH:k=y.runs.length:=by omega
     obtain ⟨⟨A10,n10,c10⟩,rfl,OR⟩:∃ s:Sl,v = .slice s.a s.n s.c/\Bls Am 89 wr ws.heap.size s.v y.runs:=by
      obtain ⟨rs,hm,hB⟩:=fS.out
      rw [bH,List.take_length] at hm
      obtain ⟨A,c,rfl,_⟩:=hB.rd.form
      exact ⟨⟨A,_,c⟩,rfl,rs,hm,hB⟩
     have hws3:=hsw3
     have Z_f:=Z.free
     obtain ⟨Z_0,Z_1,Z_2,Z_3,Z_l⟩:=Z.g4
     go_wp2
     refine bodyPost_ret (v:=By y (⟨A9,n9,c9⟩,⟨A10,n10,c10⟩)) ?_ rfl ?_
     ·simp [By,results,Tryz.results59,go_sem,Z_0,Z_1,Z_2,Z_3]
     ·have OS1:=OS.out
      refine ⟨⟨A9,n9,c9⟩,⟨A10,n10,c10⟩,F1,ws.heap.size,rfl,?_,fun b bG=>⟨by have:=nS b bG;omega,lS b bG⟩,by omega,?_,?_,?_⟩
      ·have hn:w.heap.size+1∉F1:=fun hm=>by have:=nS _ hm;omega
       show OwL (Dt.list Af) _ F1 (.slice A9 n9 c9) y.shelf
       repeat (first | (with_reducible exact OS1) | refine OwL.set ?_ hn _)
      ·simp [World.setCell];exact jC
      ·repeat (first | (with_reducible exact OR) | refine Bls.setOther ?_ (by show w.heap.size+1<ws.heap.size;omega) _)
      ·repeat (first | (with_reducible exact hb) | refine Below.setCell ?_ (by first | (simp;done) | (simp;omega)) _)
theorem Dl (y:Yard) (s:Sl×Sl) (w:World) (hl:Ai y<=2000000) (h:Ab.rd w w.heap.size y s) :
  Calls Tryz.prog 59 #[By y s] w (Cj Ab By y w):=(Ii y s w hl h).mono fun _ _ h=>h.own
theorem Kh (y:Yard) (s:Sl×Sl) (w:World) (hl:Ai y<=2000000) (h:Ab.rd w w.heap.size y s) :
  Calls Tryz.prog 142 #[By y s] w (CopyYPost y w):=by
 obtain ⟨⟨A1,n1,c1⟩,⟨A2,n2,c2⟩⟩:=s
 obtain rfl:n1=y.shelf.length:=RdL.at1 (s:=⟨A1,n1,c1⟩) h.1
 obtain rfl:n2=y.runs.length:=RdL.at1 (s:=⟨A2,n2,c2⟩) h.2
 have h1:RdL (Dt.list Af) w w.heap.size (.slice A1 y.shelf.length c1) y.shelf:=h.1
 have h2:RdL Am w w.heap.size (.slice A2 y.runs.length c2) y.runs:=h.2
 have dI:y.runs.length<=2000000:=Nat.le_trans (Ar Bg _) (by unfold Ai at hl;omega)
 have hls:y.shelf.length<=2000000:=Nat.le_trans (Ar Bl _) (by unfold Ai at hl;omega)
 have HE:=Lib.hid (show ∀ k (hk:k<y.shelf.length),y.shelf[k].length<=2000000 from fun k hk=>by
  have:=Cq (cnt:=Bl) (List.getElem_mem hk)
  have h2:y.shelf[k].length<=Bl y.shelf[k]:=Ar Hu _
  unfold Ai at hl
  omega)
 have HC:=Lib.hid (show ∀ k (hk:k<y.runs.length),Bg y.runs[k]<=2000000 from fun k hk=>by
  have:=Cq (cnt:=Bg) (List.getElem_mem hk)
  unfold Ai at hl
  omega)
 clear h
 obtain ⟨W,aG,X,Z,O,B0⟩:=bx3 w 31 [.int .i64 y.now,.int .i64 y.seq,.slice A1 y.shelf.length c1,.slice A2 y.runs.length c2] 31 [.int .i64 0,.int .i64 0,.slice none 0 0,.slice none 0 0] 31 [.int .i64 y.now,.int .i64 y.seq,.slice none 0 0,.slice none 0 0]
 obtain ⟨i0,aP,aX,aV,aQ⟩:=info_parts I5
 obtain ⟨e0,he0,ez0,ez1,ez2⟩:=info_parts Ds
 obtain ⟨j0,bX,jz0,jz1,jz2⟩:=info_parts Jc
 go_enter Tryz.func142,Tryz.ntmps142
 go_wp2
 rw [<-aG.out]
 clear aG
 have pM:w.heap.size+3<=W.heap.size:=O.lt
 go_loopw [4] (fun i wr=>∃ (k:Nat) (v:Value),k<=y.shelf.length/\i = .int .i64 k/\Hid (Bls (Dt.list Af) 96 wr (w.heap.size+3) v (y.shelf.take k))/\DBox w.heap.size [.int .i64 y.now,.int .i64 y.seq,.slice A1 y.shelf.length c1,.slice A2 y.runs.length c2] wr/\DBox (w.heap.size+1) [.int .i64 0,.int .i64 0,.slice none 0 0,.slice none 0 0] wr/\DBox (w.heap.size+1+1) [.int .i64 y.now,.int .i64 y.seq,v,.slice none 0 0] wr/\Below w.heap.size w wr/\w.heap.size+3<=wr.heap.size) (fun i _=>y.shelf.length - (intOf i).toNat)
 case atStart=>exact ⟨0,_,Nat.zero_le _,rfl,⟨[],rfl,Bld.nil _ _ _ _⟩,X,Z,O,B0,pM⟩
 case round =>
  clear X Z O B0 pM
  obtain ⟨k,v,hk,rfl,fS,X,Z,O,hb,bE⟩:=hrel
  obtain ⟨X_0,X_1,X_2,X_3,X_l⟩:=X.g4
  obtain ⟨O_0,O_1,O_2,O_3,O_l⟩:=O.g4
  have O_f:=O.free
  by_cases aA:k<y.shelf.length
  ·have aB:(k:Int)<(y.shelf.length:Int):=by omega
   obtain ⟨b,o,⟨As,ns,cs⟩,mA,aH,hr,d0⟩:=(h1.below hb).entryS aA
   obtain rfl:ns=y.shelf[k].length:=RdL.at1 (s:=⟨As,ns,cs⟩) hr
   subst mA
   have bJ:b<wr.heap.size:=Nat.lt_of_lt_of_le aH hb.size
   have hez:=HE.out k aA
   obtain ⟨rs,hm,hB⟩:=fS.out
   have bR:rs.length=k:=by have:=congrArg List.length hm;simpa [Nat.min_eq_left hk] using this
   have hrl':rs.length<=2000000:=by omega
   have Hrl:=Lib.hid bR
   clear bR
   have hO:=hB.ow
   have aC:v.ownBlock≠some (w.heap.size+1+1):=fun e=>by have:=hO.within _ e;omega
   have cB:=Lib.hid (show ∀ W,Below wr.heap.size wr W->RdL Af W W.heap.size (Sl.v ⟨As,y.shelf[k].length,cs⟩) y.shelf[k] from fun W hW=>RdL.more (RdL.below (RdL.more hr hb.size) hW) hW.size)
   go_wp2
   refine Bj (fun w'=>w'.cell? ⟨w.heap.size+1+1,2,none⟩=some v/\w'.cell? ⟨w.heap.size,2,none⟩=some (.slice (some ⟨b,o,none⟩) y.shelf.length c1)/\w'.cell? ⟨b,o+k,none⟩=some (.slice As y.shelf[k].length cs)) 12 (by kernel_rfl) ?_ (fun hHeld=>?_)
   ·exact ⟨by simpa [go_sem] using O_2,by simpa [go_sem] using X_2,by simpa [go_sem] using d0⟩
   refine aT 0 hHeld ?_
   try simp only [pS]
   refine aT 1 hHeld ?_
   try simp only [pS]
   refine aT 3 hHeld ?_
   try simp only [pS]
   refine aT 4 hHeld ?_
   try simp only [pS]
   refine aT 5 hHeld ?_
   try simp only [pS]
   refine aT 6 hHeld ?_
   try simp only [pS]
   refine aT 7 hHeld ?_
   try simp only [pS]
   refine oT 2 (fun K hK=>?_)
   go_simp
   refine hK.out _ _ (fun _=>?_) ?_
   ·(refine ⟨?_,?_,?_⟩<;>first | assumption | go_keep)
   clear hK K
   try simp only [pS]
   refine oT 8 (fun K hK=>?_)
   (refine Dx _ Az (by decide) (by rfl) (.tmp 20) (.tmp 25) (by rfl) Tryz.underlying96 he0 ez0 ez1 ez2 (by rfl) (v:=.slice (some ⟨wr.heap.size,0,none⟩) 0 0) (l:=[]) (by rfl) (Ow.empty Az 93 wr.drew (g:=wr.heap.size) (by simp)) (by rfl) (Hd (cB.out _ ((Below.refl wr.heap.size wr).drew.alloc (by simp) _))) (by simp) (by omega) (by decide) (by simp) ?_;intro v2 w2 o2' g2 f2;rw [List.nil_append] at o2';have B12:Below wr.heap.size wr w2:=(((Below.refl wr.heap.size wr).drew.alloc (by simp) _).grown g2 (by simp) (fun g hg=>by simp [Value.ownBlock] at hg;omega));obtain ⟨s2,F2,rfl,o2,n2⟩:=Ez o2';have O2:=O.below B12;have X2:=X.below B12;have k0:w2.cell? ⟨w.heap.size+1+1,2,none⟩=some v:=O2.cell 2 _ rfl;have k1:w2.cell? ⟨w.heap.size,2,none⟩=some (.slice (some ⟨b,o,none⟩) y.shelf.length c1):=X2.cell 2 _ rfl;have k2:w2.cell? ⟨b,o+k,none⟩=some (.slice As y.shelf[k].length cs):=(B12.cell (p:=⟨b,o+k,none⟩) bJ).trans d0;have z2:=B12.size;have d2f:=O2.free;have d2l:=O2.lt)
   refine hK.out _ _ (fun _=>?_) ?_
   ·exact ⟨k0,k1,k2⟩
   clear hK K
   try simp only [pS]
   refine oT 9 (fun K hK=>?_)
   go_simp
   refine hK.out _ _ (fun _=>?_) ?_
   ·(refine ⟨?_,?_,?_⟩<;>first | assumption | go_keep)
   clear hK K
   try simp only [pS]
   refine oT 10 (fun K hK=>?_)
   (refine Dx _ (Dt.list Af).enc (by decide) (by rfl) (.tmp 19) (.tmp 27) (by rfl) Tryz.underlying28 aP aX aV aQ (by rfl) (v:=v) (l:=rs) (by rfl) (hO.below (B12.alloc (by omega) _)) (by rfl) (Rd.one (Dt.list Af).enc _ _ (y.shelf[k],s2) (by simp) rfl 1 (Nat.le_refl _) (Nat.lt_succ_self _)) (by omega) (by simp) (by decide) (by (try simp only [World.size_alloc]);omega) ?_;intro v5 w5 o5 g5 f5;obtain ⟨A5,c5,rfl,-⟩:=id (Rd.of_own o5);simp only [List.length_append,List.length_singleton] at o5 f5;have dJ:=(Below.refl w2.heap.size w2).alloc (Nat.le_refl _) (.cells #[.slice s2.a s2.n s2.c] 96);have O5:=(O2.below dJ).off g5 (fun e=>aC e.symm);have m0:w5.cell? ⟨w.heap.size+1+1,2,none⟩=some v:=O5.cell 2 _ rfl;have X5:=(X2.below dJ).off g5 (fun e=>by have:=hO.within _ e.symm;omega);have m1:w5.cell? ⟨w.heap.size,2,none⟩=some (.slice (some ⟨b,o,none⟩) y.shelf.length c1):=X5.cell 2 _ rfl;have m2:w5.cell? ⟨b,o+k,none⟩=some (.slice As y.shelf[k].length cs):=(g5.cell_far ⟨b,o+k,none⟩ (by simp;omega) (fun e=>by have:_<=b/\b<_:=hO.within _ e.symm;omega)).trans ((dJ.cell (p:=⟨b,o+k,none⟩) (by show b<_;omega)).trans k2);have fO:=O5.free;have lO:=O5.lt)
   refine hK.out _ _ (fun _=>?_) ?_
   ·exact ⟨m0,m1,m2⟩
   clear hK K
   try simp only [pS]
   refine oT 11 (fun K hK=>?_)
   go_simp
   refine hK.out _ _ (fun _=>?_) ?_
   ·exact ⟨m0,m1,m2⟩
   clear hK K
   try simp only [pS]
   refine oT 12 (fun K hK=>?_)
   go_simp
   refine hK.out _ _ (fun aC=>absurd rfl aC) ?_
   clear hK K
   try simp only [pS]
   refine Cg (by kernel_rfl) ?_ _
   go_wp2
   have Z5:=((Z.below B12).below dJ).off g5 (fun e=>by have:=hO.within _ e.symm;omega)
   have hP:=Bld.push1 (d:=Dt.list Af) hB B12 o2 (fun b bG=>by have:=n2 b bG;omega) bE dJ o5 g5 f5
   have W5:=((hb.trans (B12.mono hb.size)).alloc (by omega) (.cells #[.slice s2.a s2.n s2.c] 96)).grown g5 (by (try simp only [World.size_alloc]);omega) (fun g hg=>by have:=hO.within g hg;omega)
   have S:Hid (Bls (Dt.list Af) 96 (w5.setCell ⟨w.heap.size+1+1,2,none⟩ (.slice A5 (rs.length+1) c5)) (w.heap.size+3) (.slice A5 (rs.length+1) c5) (y.shelf.take (k+1))):=⟨rs ++ [(y.shelf[k],s2)],by rw [List.map_append,hm,Ay y.shelf k aA];rfl,hP.setOther (a:=⟨w.heap.size+1+1,2,none⟩) (by show w.heap.size+1+1<_;omega) _⟩
   have g5s:=g5.size
   simp only [World.size_alloc] at g5s
   have SX:=X5.setOther (a:=⟨w.heap.size+1+1,2,none⟩) (by show w.heap.size≠w.heap.size+1+1;omega) (.slice A5 (rs.length+1) c5)
   have SZ:=Z5.setOther (a:=⟨w.heap.size+1+1,2,none⟩) (by show w.heap.size+1≠w.heap.size+1+1;omega) (.slice A5 (rs.length+1) c5)
   have SO:DBox (w.heap.size+1+1) [.int .i64 y.now,.int .i64 y.seq,.slice A5 (rs.length+1) c5,.slice none 0 0] (w5.setCell ⟨w.heap.size+1+1,2,none⟩ (.slice A5 (rs.length+1) c5)):=O5.set 2 (by simp) _
   have SW:Below w.heap.size w (w5.setCell ⟨w.heap.size+1+1,2,none⟩ (.slice A5 (rs.length+1) c5)):=W5.setCell (by show w.heap.size<=w.heap.size+1+1;omega) _
   have SS:w.heap.size+3<=(w5.setCell ⟨w.heap.size+1+1,2,none⟩ (.slice A5 (rs.length+1) c5)).heap.size:=by simp [World.setCell];omega
   first
    | exact ⟨⟨k+1,by omega,by simp,.slice A5 (rs.length+1) c5,S,SX,SZ,SO,SW,by simpa using SS⟩,by simp [intOf];omega⟩
    | exact ⟨⟨k+1,.slice A5 (rs.length+1) c5,by omega,by go_num,S,SX,SZ,SO,SW,SS⟩,by simp [intOf];omega⟩
    | (refine ⟨?_,by simp [intOf];omega⟩;(repeat apply Exists.intro);first | exact ⟨⟨k+1,.slice A5 (rs.length+1) c5,by omega,by go_num,S,SX,SZ,SO,SW,SS⟩,rfl⟩ | exact ⟨⟨k+1,.slice A5 (rs.length+1) c5,by omega,by go_num,S,SX,SZ,SO,SW,SS⟩,rfl,rfl⟩ | exact ⟨⟨k+1,.slice A5 (rs.length+1) c5,by omega,by go_num,S,SX,SZ,SO,SW,SS⟩,rfl,rfl,rfl⟩ | exact ⟨⟨k+1,.slice A5 (rs.length+1) c5,by omega,by go_num,S,SX,SZ,SO,SW,SS⟩,rfl,rfl,rfl,rfl⟩ | exact ⟨⟨k+1,.slice A5 (rs.length+1) c5,by omega,by go_num,S,SX,SZ,SO,SW,SS⟩,rfl,rfl,rfl,rfl,rfl⟩ | exact ⟨⟨k+1,.slice A5 (rs.length+1) c5,by omega,by go_num,S,SX,SZ,SO,SW,SS⟩,rfl,rfl,rfl,rfl,rfl,rfl⟩ | exact ⟨⟨k+1,.slice A5 (rs.length+1) c5,by omega,by go_num,S,SX,SZ,SO,SW,SS⟩,rfl,rfl,rfl,rfl,rfl,rfl,rfl⟩ | exact ⟨⟨k+1,.slice A5 (rs.length+1) c5,by omega,by go_num,S,SX,SZ,SO,SW,SS⟩,rfl,rfl,rfl,rfl,rfl,rfl,rfl,rfl⟩ | exact ⟨⟨k+1,.slice A5 (rs.length+1) c5,by omega,by go_num,S,SX,SZ,SO,SW,SS⟩,rfl,rfl,rfl,rfl,rfl,rfl,rfl,rfl,rfl⟩ | exact ⟨⟨k+1,.slice A5 (rs.length+1) c5,by omega,by go_num,S,SX,SZ,SO,SW,SS⟩,rfl,rfl,rfl,rfl,rfl,rfl,rfl,rfl,rfl,rfl⟩ | exact ⟨⟨k+1,.slice A5 (rs.length+1) c5,by omega,by go_num,S,SX,SZ,SO,SW,SS⟩,rfl,rfl,rfl,rfl,rfl,rfl,rfl,rfl,rfl,rfl,rfl⟩ | exact ⟨⟨k+1,.slice A5 (rs.length+1) c5,by omega,by go_num,S,SX,SZ,SO,SW,SS⟩,rfl,rfl,rfl,rfl,rfl,rfl,rfl,rfl,rfl,rfl,rfl,rfl⟩ | exact ⟨⟨k+1,.slice A5 (rs.length+1) c5,by omega,by go_num,S,SX,SZ,SO,SW,SS⟩,rfl,rfl,rfl,rfl,rfl,rfl,rfl,rfl,rfl,rfl,rfl,rfl,rfl⟩)
  ·have aB:¬ (k:Int)<(y.shelf.length:Int):=by omega
   have bH:k=y.shelf.length:=by omega
   obtain ⟨F1,⟨⟨A9,n9,c9⟩,rfl,OS⟩,nS⟩:∃ F1,(∃ s:Sl,v = .slice s.a s.n s.c/\OwL (Dt.list Af) wr F1 s.v y.shelf) /\ ∀ b∈F1,w.heap.size+3<=b:=by
    obtain ⟨rs,hm,hB⟩:=fS.out
    rw [bH,List.take_length] at hm
    obtain ⟨F,h1,h2⟩:=hB.owl hm
    obtain ⟨A,c,rfl,_⟩:=h1.form
    exact ⟨F,⟨⟨A,y.shelf.length,c⟩,rfl,h1⟩,h2⟩
   go_wp2
   clear X_0 X_1 X_2 X_3 X_l O_0 O_1 O_2 O_3 O_l O_f aA aB bH hk fS
   obtain ⟨ws,sU⟩:∃ ws,ws=wr:=⟨_,rfl⟩
   rw [<-sU] at hb X Z O OS bE ⊢
   clear sU
   have lS:∀ b∈F1,b<ws.heap.size:=OS.lt
   have hsw3:w.heap.size+3<=ws.heap.size:=bE
   go_loopw [5] (fun i wr=>∃ (k:Nat) (v:Value),k<=y.runs.length/\i = .int .i64 k/\Hid (Bls Am 89 wr ws.heap.size v (y.runs.take k))/\Hid (OwL (Dt.list Af) wr F1 (.slice A9 n9 c9) y.shelf)/\DBox w.heap.size [.int .i64 y.now,.int .i64 y.seq,.slice A1 y.shelf.length c1,.slice A2 y.runs.length c2] wr/\DBox (w.heap.size+1) [.int .i64 0,.int .i64 0,.slice none 0 0,.slice none 0 0] wr/\DBox (w.heap.size+1+1) [.int .i64 y.now,.int .i64 y.seq,.slice A9 n9 c9,v] wr/\Below w.heap.size w wr/\ws.heap.size<=wr.heap.size) (fun i _=>y.runs.length - (intOf i).toNat)
   case atStart=>exact ⟨0,_,Nat.zero_le _,rfl,⟨[],rfl,Bld.nil _ _ _ _⟩,OS,X,Z,O,hb,Nat.le_refl _⟩
   case round =>
    clear X Z O hb OS
    obtain ⟨k,v,hk,rfl,fS,OS,X,Z,O,hb,jC⟩:=hrel
    obtain ⟨X_0,X_1,X_2,X_3,X_l⟩:=X.g4
    obtain ⟨O_0,O_1,O_2,O_3,O_l⟩:=O.g4
    have O_f:=O.free
    by_cases aA:k<y.runs.length
    ·have aB:(k:Int)<(y.runs.length:Int):=by omega
     obtain ⟨b,o,⟨⟨A8,n8,c8⟩,⟨At,nt,ct⟩⟩,dW,aH,cB,e0,e1,e2,e3,e4,e5,e6,e7⟩:=(h2.below hb).run aA
     subst dW
     have bJ:b<wr.heap.size:=Nat.lt_of_lt_of_le aH hb.size
     have HRr:=Lib.hid (show ∀ W,Below wr.heap.size wr W->Am.rd W W.heap.size y.runs[k] (⟨A8,n8,c8⟩,⟨At,nt,ct⟩) from fun W hW=>Am.rd_more (Am.rd_below (Am.rd_more cB hb.size) hW) hW.size)
     have mF:=HC.out k aA
     obtain ⟨rs,hm,hB⟩:=fS.out
     have bR:rs.length=k:=by have:=congrArg List.length hm;simpa [Nat.min_eq_left hk] using this
     have hrl':rs.length<=2000000:=by omega
     have Hrl:=Lib.hid bR
     clear bR
     have hO:=hB.ow
     have aC:v.ownBlock≠some (w.heap.size+1+1):=fun e=>by have:=hO.within _ e;omega
     go_wp2
     refine Bj (fun w'=>w'.cell? ⟨w.heap.size+1+1,3,none⟩=some v/\w'.cell? ⟨w.heap.size,3,none⟩=some (.slice (some ⟨b,o,none⟩) y.runs.length c2)/\w'.cell? ⟨b,o+k * 8,none⟩=some (.int .i64 y.runs[k].id)/\w'.cell? ⟨b,o+k * 8+1,none⟩=some (.int .i64 y.runs[k].plan.prio)/\w'.cell? ⟨b,o+k * 8+2,none⟩=some (.int .i64 y.runs[k].plan.most)/\w'.cell? ⟨b,o+k * 8+3,none⟩=some (.int .i64 y.runs[k].plan.wait)/\w'.cell? ⟨b,o+k * 8+4,none⟩=some (.int .i64 y.runs[k].plan.tasks)/\w'.cell? ⟨b,o+k * 8+5,none⟩=some (.slice A8 n8 c8)/\w'.cell? ⟨b,o+k * 8+6,none⟩=some (.int .i64 y.runs[k].state)/\w'.cell? ⟨b,o+k * 8+7,none⟩=some (.slice At nt ct)) 11 (by kernel_rfl) ?_ (fun hHeld=>?_)
     ·exact ⟨by simpa [go_sem] using O_3,by simpa [go_sem] using X_3,by simpa [go_sem] using e0,by simpa [go_sem] using e1,by simpa [go_sem] using e2,by simpa [go_sem] using e3,by simpa [go_sem] using e4,by simpa [go_sem] using e5,by simpa [go_sem] using e6,by simpa [go_sem] using e7⟩
     refine aT 0 hHeld ?_
     try simp only [pS]
     refine aT 1 hHeld ?_
     try simp only [pS]
     refine aT 2 hHeld ?_
     try simp only [pS]
     refine aT 3 hHeld ?_
     try simp only [pS]
     refine aT 4 hHeld ?_
     try simp only [pS]
     refine aT 5 hHeld ?_
     try simp only [pS]
     refine aT 6 hHeld ?_
     try simp only [pS]
     refine oT 7 (fun K hK=>?_)
     (go_simp;refine (Fj y.runs[k] (⟨A8,n8,c8⟩,⟨At,nt,ct⟩) _ mF (HRr.out _ (Below.refl _ _).drew)).mono ?_;rintro e w2 ⟨s2,F2,rfl,o2,n2,b2⟩;have B12:=Aa ((Below.refl wr.heap.size wr).drew) b2;have z2:=B12.size;simp only [World.size_drew] at n2;have O2:=O.below B12;have k0:w2.cell? ⟨w.heap.size+1+1,3,none⟩=some v:=O2.cell 3 _ rfl;have X2:=X.below B12;have k1:w2.cell? ⟨w.heap.size,3,none⟩=some (.slice (some ⟨b,o,none⟩) y.runs.length c2):=X2.cell 3 _ rfl;have q0:w2.cell? ⟨b,o+k * 8,none⟩=some (.int .i64 y.runs[k].id):=(B12.cell (p:=⟨b,o+k * 8,none⟩) bJ).trans e0;have q1:w2.cell? ⟨b,o+k * 8+1,none⟩=some (.int .i64 y.runs[k].plan.prio):=(B12.cell (p:=⟨b,o+k * 8+1,none⟩) bJ).trans e1;have q2:w2.cell? ⟨b,o+k * 8+2,none⟩=some (.int .i64 y.runs[k].plan.most):=(B12.cell (p:=⟨b,o+k * 8+2,none⟩) bJ).trans e2;have q3:w2.cell? ⟨b,o+k * 8+3,none⟩=some (.int .i64 y.runs[k].plan.wait):=(B12.cell (p:=⟨b,o+k * 8+3,none⟩) bJ).trans e3;have q4:w2.cell? ⟨b,o+k * 8+4,none⟩=some (.int .i64 y.runs[k].plan.tasks):=(B12.cell (p:=⟨b,o+k * 8+4,none⟩) bJ).trans e4;have q5:w2.cell? ⟨b,o+k * 8+5,none⟩=some (.slice A8 n8 c8):=(B12.cell (p:=⟨b,o+k * 8+5,none⟩) bJ).trans e5;have q6:w2.cell? ⟨b,o+k * 8+6,none⟩=some (.int .i64 y.runs[k].state):=(B12.cell (p:=⟨b,o+k * 8+6,none⟩) bJ).trans e6;have q7:w2.cell? ⟨b,o+k * 8+7,none⟩=some (.slice At nt ct):=(B12.cell (p:=⟨b,o+k * 8+7,none⟩) bJ).trans e7;have d2f:=O2.free;have d2l:=O2.lt;go_simp)
     refine hK.out _ _ (fun _=>?_) ?_
     ·exact ⟨k0,k1,q0,q1,q2,q3,q4,q5,q6,q7⟩
     clear hK K
     try simp only [pS]
     refine oT 8 (fun K hK=>?_)
     go_simp
     refine hK.out _ _ (fun _=>?_) ?_
     ·(refine ⟨?_,?_,?_,?_,?_,?_,?_,?_,?_,?_⟩<;>first | assumption | go_keep)
     clear hK K
     try simp only [pS]
     refine oT 9 (fun K hK=>?_)
     (refine Dx _ Am.enc (by decide) (by rfl) (.tmp 38) (.tmp 45) (by rfl) Tryz.underlying29 bX jz0 jz1 jz2 (by rfl) (v:=v) (l:=rs) (by rfl) (hO.below (B12.alloc (by omega) _)) (by rfl) (Rd.one Am.enc _ _ (y.runs[k],s2) (by simp) rfl 1 (Nat.le_refl _) (Nat.lt_succ_self _)) (by omega) (by simp) (by decide) (by (try simp only [World.size_alloc]);omega) ?_;intro v5 w5 o5 g5 f5;obtain ⟨A5,c5,rfl,-⟩:=id (Rd.of_own o5);simp only [List.length_append,List.length_singleton] at o5 f5;have dJ:=(Below.refl w2.heap.size w2).alloc (Nat.le_refl _) (.cells #[.int .i64 y.runs[k].id,.int .i64 y.runs[k].plan.prio,.int .i64 y.runs[k].plan.most,.int .i64 y.runs[k].plan.wait,.int .i64 y.runs[k].plan.tasks,.slice s2.1.a s2.1.n s2.1.c,.int .i64 y.runs[k].state,.slice s2.2.a s2.2.n s2.2.c] 89);have O5:=(O2.below dJ).off g5 (fun e=>aC e.symm);have m0:w5.cell? ⟨w.heap.size+1+1,3,none⟩=some v:=O5.cell 3 _ rfl;have X5:=(X2.below dJ).off g5 (fun e=>by have:=hO.within _ e.symm;omega);have m1:w5.cell? ⟨w.heap.size,3,none⟩=some (.slice (some ⟨b,o,none⟩) y.runs.length c2):=X5.cell 3 _ rfl;have r0:w5.cell? ⟨b,o+k * 8,none⟩=some (.int .i64 y.runs[k].id):=(g5.cell_far ⟨b,o+k * 8,none⟩ (by simp;omega) (fun e=>by have:_<=b/\b<_:=hO.within _ e.symm;omega)).trans ((dJ.cell (p:=⟨b,o+k * 8,none⟩) (by show b<_;omega)).trans q0);have r1:w5.cell? ⟨b,o+k * 8+1,none⟩=some (.int .i64 y.runs[k].plan.prio):=(g5.cell_far ⟨b,o+k * 8+1,none⟩ (by simp;omega) (fun e=>by have:_<=b/\b<_:=hO.within _ e.symm;omega)).trans ((dJ.cell (p:=⟨b,o+k * 8+1,none⟩) (by show b<_;omega)).trans q1);have r2:w5.cell? ⟨b,o+k * 8+2,none⟩=some (.int .i64 y.runs[k].plan.most):=(g5.cell_far ⟨b,o+k * 8+2,none⟩ (by simp;omega) (fun e=>by have:_<=b/\b<_:=hO.within _ e.symm;omega)).trans ((dJ.cell (p:=⟨b,o+k * 8+2,none⟩) (by show b<_;omega)).trans q2);have r3:w5.cell? ⟨b,o+k * 8+3,none⟩=some (.int .i64 y.runs[k].plan.wait):=(g5.cell_far ⟨b,o+k * 8+3,none⟩ (by simp;omega) (fun e=>by have:_<=b/\b<_:=hO.within _ e.symm;omega)).trans ((dJ.cell (p:=⟨b,o+k * 8+3,none⟩) (by show b<_;omega)).trans q3);have r4:w5.cell? ⟨b,o+k * 8+4,none⟩=some (.int .i64 y.runs[k].plan.tasks):=(g5.cell_far ⟨b,o+k * 8+4,none⟩ (by simp;omega) (fun e=>by have:_<=b/\b<_:=hO.within _ e.symm;omega)).trans ((dJ.cell (p:=⟨b,o+k * 8+4,none⟩) (by show b<_;omega)).trans q4);have r5:w5.cell? ⟨b,o+k * 8+5,none⟩=some (.slice A8 n8 c8):=(g5.cell_far ⟨b,o+k * 8+5,none⟩ (by simp;omega) (fun e=>by have:_<=b/\b<_:=hO.within _ e.symm;omega)).trans ((dJ.cell (p:=⟨b,o+k * 8+5,none⟩) (by show b<_;omega)).trans q5);have r6:w5.cell? ⟨b,o+k * 8+6,none⟩=some (.int .i64 y.runs[k].state):=(g5.cell_far ⟨b,o+k * 8+6,none⟩ (by simp;omega) (fun e=>by have:_<=b/\b<_:=hO.within _ e.symm;omega)).trans ((dJ.cell (p:=⟨b,o+k * 8+6,none⟩) (by show b<_;omega)).trans q6);have r7:w5.cell? ⟨b,o+k * 8+7,none⟩=some (.slice At nt ct):=(g5.cell_far ⟨b,o+k * 8+7,none⟩ (by simp;omega) (fun e=>by have:_<=b/\b<_:=hO.within _ e.symm;omega)).trans ((dJ.cell (p:=⟨b,o+k * 8+7,none⟩) (by show b<_;omega)).trans q7);have fO:=O5.free;have lO:=O5.lt)
     refine hK.out _ _ (fun _=>?_) ?_
     ·exact ⟨m0,m1,r0,r1,r2,r3,r4,r5,r6,r7⟩
     clear hK K
     try simp only [pS]
     refine oT 10 (fun K hK=>?_)
     go_simp
     refine hK.out _ _ (fun _=>?_) ?_
     ·exact ⟨m0,m1,r0,r1,r2,r3,r4,r5,r6,r7⟩
     clear hK K
     try simp only [pS]
     refine oT 11 (fun K hK=>?_)
     go_simp
     refine hK.out _ _ (fun aC=>absurd rfl aC) ?_
     clear hK K
     try simp only [pS]
     refine Cg (by kernel_rfl) ?_ _
     go_wp2
     have Z5:=((Z.below B12).below dJ).off g5 (fun e=>by have:=hO.within _ e.symm;omega)
     have OS5:=((OS.out.below B12).below dJ).grown g5 (fun b bG e=>by have:=hO.within _ e;have:=lS b bG;omega)
     have hP:=Bld.push1 (d:=Am) hB B12 o2 (fun b bG=>by have:=n2 b bG;omega) jC dJ o5 g5 f5
     have W5:=((hb.trans (B12.mono hb.size)).alloc (by omega) (.cells #[.int .i64 y.runs[k].id,.int .i64 y.runs[k].plan.prio,.int .i64 y.runs[k].plan.most,.int .i64 y.runs[k].plan.wait,.int .i64 y.runs[k].plan.tasks,.slice s2.1.a s2.1.n s2.1.c,.int .i64 y.runs[k].state,.slice s2.2.a s2.2.n s2.2.c] 89)).grown g5 (by (try simp only [World.size_alloc]);omega) (fun g hg=>by have:=hO.within g hg;omega)
     have S:Hid (Bls Am 89 (w5.setCell ⟨w.heap.size+1+1,3,none⟩ (.slice A5 (rs.length+1) c5)) ws.heap.size (.slice A5 (rs.length+1) c5) (y.runs.take (k+1))):=⟨rs ++ [(y.runs[k],s2)],by rw [List.map_append,hm,Ay y.runs k aA];rfl,hP.setOther (a:=⟨w.heap.size+1+1,3,none⟩) (by show w.heap.size+1+1<_;omega) _⟩
     have S2:Hid (OwL (Dt.list Af) (w5.setCell ⟨w.heap.size+1+1,3,none⟩ (.slice A5 (rs.length+1) c5)) F1 (.slice A9 n9 c9) y.shelf):=OwL.set OS5 (fun hm=>by have:_<=w.heap.size+1+1:=nS _ hm;omega) _
     have g5s:=g5.size
     simp only [World.size_alloc] at g5s
     have SX:=X5.setOther (a:=⟨w.heap.size+1+1,3,none⟩) (by show w.heap.size≠w.heap.size+1+1;omega) (.slice A5 (rs.length+1) c5)
     have SZ:=Z5.setOther (a:=⟨w.heap.size+1+1,3,none⟩) (by show w.heap.size+1≠w.heap.size+1+1;omega) (.slice A5 (rs.length+1) c5)
     have SO:DBox (w.heap.size+1+1) [.int .i64 y.now,.int .i64 y.seq,.slice A9 n9 c9,.slice A5 (rs.length+1) c5] (w5.setCell ⟨w.heap.size+1+1,3,none⟩ (.slice A5 (rs.length+1) c5)):=O5.set 3 (by simp) _
     have SW:Below w.heap.size w (w5.setCell ⟨w.heap.size+1+1,3,none⟩ (.slice A5 (rs.length+1) c5)):=W5.setCell (by show w.heap.size<=w.heap.size+1+1;omega) _
     have SS:ws.heap.size<=(w5.setCell ⟨w.heap.size+1+1,3,none⟩ (.slice A5 (rs.length+1) c5)).heap.size:=by simp [World.setCell];omega
     first
      | exact ⟨⟨k+1,by omega,by simp,.slice A5 (rs.length+1) c5,S,S2,SX,SZ,SO,SW,by simpa using SS⟩,by simp [intOf];omega⟩
      | exact ⟨⟨k+1,.slice A5 (rs.length+1) c5,by omega,by go_num,S,S2,SX,SZ,SO,SW,SS⟩,by simp [intOf];omega⟩
      | (refine ⟨?_,by simp [intOf];omega⟩;(repeat apply Exists.intro);first | exact ⟨⟨k+1,.slice A5 (rs.length+1) c5,by omega,by go_num,S,S2,SX,SZ,SO,SW,SS⟩,rfl⟩ | exact ⟨⟨k+1,.slice A5 (rs.length+1) c5,by omega,by go_num,S,S2,SX,SZ,SO,SW,SS⟩,rfl,rfl⟩ | exact ⟨⟨k+1,.slice A5 (rs.length+1) c5,by omega,by go_num,S,S2,SX,SZ,SO,SW,SS⟩,rfl,rfl,rfl⟩ | exact ⟨⟨k+1,.slice A5 (rs.length+1) c5,by omega,by go_num,S,S2,SX,SZ,SO,SW,SS⟩,rfl,rfl,rfl,rfl⟩ | exact ⟨⟨k+1,.slice A5 (rs.length+1) c5,by omega,by go_num,S,S2,SX,SZ,SO,SW,SS⟩,rfl,rfl,rfl,rfl,rfl⟩ | exact ⟨⟨k+1,.slice A5 (rs.length+1) c5,by omega,by go_num,S,S2,SX,SZ,SO,SW,SS⟩,rfl,rfl,rfl,rfl,rfl,rfl⟩ | exact ⟨⟨k+1,.slice A5 (rs.length+1) c5,by omega,by go_num,S,S2,SX,SZ,SO,SW,SS⟩,rfl,rfl,rfl,rfl,rfl,rfl,rfl⟩ | exact ⟨⟨k+1,.slice A5 (rs.length+1) c5,by omega,by go_num,S,S2,SX,SZ,SO,SW,SS⟩,rfl,rfl,rfl,rfl,rfl,rfl,rfl,rfl⟩ | exact ⟨⟨k+1,.slice A5 (rs.length+1) c5,by omega,by go_num,S,S2,SX,SZ,SO,SW,SS⟩,rfl,rfl,rfl,rfl,rfl,rfl,rfl,rfl,rfl⟩ | exact ⟨⟨k+1,.slice A5 (rs.length+1) c5,by omega,by go_num,S,S2,SX,SZ,SO,SW,SS⟩,rfl,rfl,rfl,rfl,rfl,rfl,rfl,rfl,rfl,rfl⟩ | exact ⟨⟨k+1,.slice A5 (rs.length+1) c5,by omega,by go_num,S,S2,SX,SZ,SO,SW,SS⟩,rfl,rfl,rfl,rfl,rfl,rfl,rfl,rfl,rfl,rfl,rfl⟩ | exact ⟨⟨k+1,.slice A5 (rs.length+1) c5,by omega,by go_num,S,S2,SX,SZ,SO,SW,SS⟩,rfl,rfl,rfl,rfl,rfl,rfl,rfl,rfl,rfl,rfl,rfl,rfl⟩ | exact ⟨⟨k+1,.slice A5 (rs.length+1) c5,by omega,by go_num,S,S2,SX,SZ,SO,SW,SS⟩,rfl,rfl,rfl,rfl,rfl,rfl,rfl,rfl,rfl,rfl,rfl,rfl,rfl⟩)
    ·have aB:¬ (k:Int)<(y.runs.length:Int):=by omega
     have bH:k=y.runs.length:=by omega
     obtain ⟨⟨A10,n10,c10⟩,rfl,OR⟩:∃ s:Sl,v = .slice s.a s.n s.c/\Bls Am 89 wr ws.heap.size s.v y.runs:=by
      obtain ⟨rs,hm,hB⟩:=fS.out
      rw [bH,List.take_length] at hm
      obtain ⟨A,c,rfl,_⟩:=hB.rd.form
      exact ⟨⟨A,_,c⟩,rfl,rs,hm,hB⟩
     have hws3:=hsw3
     have Z_f:=Z.free
     obtain ⟨Z_0,Z_1,Z_2,Z_3,Z_l⟩:=Z.g4
     go_wp2
     refine bodyPost_ret (v:=By y (⟨A9,n9,c9⟩,⟨A10,n10,c10⟩)) ?_ rfl ?_
     ·simp [By,results,Tryz.results142,go_sem,Z_0,Z_1,Z_2,Z_3]
     ·have OS1:=OS.out
      refine ⟨⟨A9,n9,c9⟩,⟨A10,n10,c10⟩,F1,ws.heap.size,rfl,?_,fun b bG=>⟨by have:=nS b bG;omega,lS b bG⟩,by omega,?_,?_,?_⟩
      ·have hn:w.heap.size+1∉F1:=fun hm=>by have:=nS _ hm;omega
       show OwL (Dt.list Af) _ F1 (.slice A9 n9 c9) y.shelf
       repeat (first | (with_reducible exact OS1) | refine OwL.set ?_ hn _)
      ·simp [World.setCell];exact jC
      ·repeat (first | (with_reducible exact OR) | refine Bls.setOther ?_ (by show w.heap.size+1<ws.heap.size;omega) _)
      ·repeat (first | (with_reducible exact hb) | refine Below.setCell ?_ (by first | (simp;done) | (simp;omega)) _)
theorem C9 (y:Yard) (s:Sl×Sl) (w:World) (hl:Ai y<=2000000) (h:Ab.rd w w.heap.size y s) :
  Calls Tryz.prog 142 #[By y s] w (Cj Ab By y w):=(Kh y s w hl h).mono fun _ _ h=>h.own
theorem Mr (b:Nat):∀ (us:List Value) (o:Nat) (w:World),w.setCells b o us=E9 w b o us
 | [],_,_=>rfl
 | u :: us,o,w=>by rw [World.setCells,E9,Mr b us (o+1)]
theorem K6 {P:Program} (w:World) (t e ty:TypeId) (z:Value) (ht:P.underlying t=some (.slice e)) (hv:∀ w,(zeroValue e).run P w = .ok z w) (b o n c:Nat) (hn:0<n) (h1:∀ v∈z.cells,v.oneCell'=true)
  (hc:∀ j,j<n * z.cells.size->(w.cell? ⟨b,o+j,none⟩).isSome=true) (hf:∀ j,w.frozen? ⟨b,j,none⟩=false) :
  (Builtin.clear_ #[t] ty #[.slice (some ⟨b,o,none⟩) n c]).run P w = .ok (.tuple #[]) (E9 w b o (Builtin.zeroCells z.cells n).toList):=by
 have hl:(Builtin.zeroCells z.cells n).toList.length=n * z.cells.size:=by simp [Builtin.zeroCells]
 have cF:=run_storeCells_cells (P:=P) b o (Builtin.zeroCells z.cells n).toList 0 w (by rw [hl];simpa using hc) (fun j _=>hf _) (by
  intro v rN
  simp only [Builtin.zeroCells,Array.toList_map,Array.toList_range,List.mem_map,List.mem_range] at rN
  obtain ⟨i,hi,rfl⟩:=rN
  have hz:0<z.cells.size:=Nat.pos_of_ne_zero (fun h=>by rw [h] at hi;simp at hi)
  have aA:i % z.cells.size<z.cells.size:=Nat.mod_lt _ hz
  rw [getElem!_pos z.cells (i % z.cells.size) aA]
  exact h1 _ (Array.getElem_mem aA))
 simp only [Nat.add_zero] at cF
 obtain ⟨m,rfl⟩:∃ m,n=m+1:=⟨n - 1,by omega⟩
 rw [<-Mr]
 simp [Builtin.clear_,run_underlying ht,hv,cF]
theorem Nm:∀ (us:List Value) (w:World) (b i o:Nat),o<i->(E9 w b i us).cell? ⟨b,o,none⟩=w.cell? ⟨b,o,none⟩
 | [],_,_,_,_,_=>rfl
 | u :: us,w,b,i,o,h=>by
  rw [E9,Nm us _ b (i+1) o (by omega)]
  exact World.cell?_setCell_other _ _ _ _ (fun e=>by injection e with _ h2 _;omega)
theorem Rd.clear {α:Type} {e:Enc α} {w:World} {B b o n c:Nat} {l:List α} (h:Rd e w B (.slice (some ⟨b,o,none⟩) n c) l) (k:Nat) (hk:k<=l.length) (us:List Value):Rd e (E9 w b (o+k * e.sz) us) B (.slice (some ⟨b,o,none⟩) k c) (l.take k):=by
 have h1:=h.take hk c (by have:=h.cap;omega)
 obtain ⟨A',c',hv,bY,hA⟩:=h1
 simp only [Value.slice.injEq] at hv
 obtain ⟨rfl,aJ,rfl⟩:=hv
 have h2:(l.take k).length=k:=by rw [List.length_take,Nat.min_eq_left hk]
 refine ⟨_,c,by rw [h2],by omega,fun hl=>?_⟩
 obtain ⟨b',o',he,aA,hc⟩:=hA hl
 simp only [Option.some.injEq,Addr.mk.injEq,and_true] at he
 obtain ⟨rfl,rfl⟩:=he
 refine ⟨b,o,rfl,aA,fun i hi j u hu=>?_⟩
 have hj:j<e.sz:=by
  have:=(List.getElem?_eq_some_iff.1 hu).1
  rwa [e.len] at this
 rw [Nm _ _ _ _ _ (by
  have:(i+1) * e.sz<=k * e.sz:=Nat.mul_le_mul_right _ (by omega)
  rw [Nat.succ_mul] at this
  omega)]
 exact hc i hi j u hu
theorem Rd.some_ {α:Type} {e:Enc α} {w:World} {B b o n c:Nat} {l:List α} (h:Rd e w B (.slice (some ⟨b,o,none⟩) n c) l) (bE:0<e.sz) (q:Nat) (hq:q<l.length * e.sz):(w.cell? ⟨b,o+q,none⟩).isSome=true:=by
 obtain ⟨A',c',hv,bY,hA⟩:=h
 simp only [Value.slice.injEq] at hv
 obtain ⟨rfl,aJ,rfl⟩:=hv
 have hk:q / e.sz<l.length:=Nat.div_lt_of_lt_mul (by rw [Nat.mul_comm];exact hq)
 have hj:q % e.sz<e.sz:=Nat.mod_lt _ bE
 have qK:q / e.sz * e.sz+q % e.sz=q:=by rw [Nat.mul_comm];exact Nat.div_add_mod _ _
 obtain ⟨b',o',he,aA,hc⟩:=hA (Nat.lt_of_le_of_lt (Nat.zero_le _) hk)
 simp only [Option.some.injEq,Addr.mk.injEq,and_true] at he
 obtain ⟨rfl,rfl⟩:=he
 have kI:q % e.sz<(e.cells l[q / e.sz]).length:=by rw [e.len];exact hj
 have:=hc (q / e.sz) hk (q % e.sz) _ (List.getElem?_eq_getElem kI)
 rw [Nat.add_assoc,qK] at this
 rw [this]
 rfl
theorem Hw.of_rd {α:Type} {e:Enc α} {w:World} {b o n c:Nat} {l:List α} (h:Rd e w w.heap.size (.slice (some ⟨b,o,none⟩) n c) l) (hf:∀ j,w.frozen? ⟨b,j,none⟩=false):Hw e w (Cm (.slice (some ⟨b,o,none⟩) n c) l.length) (.slice (some ⟨b,o,none⟩) n c) l:=by
 refine ⟨h,rfl,fun g hg j=>?_⟩
 have:=E6 _ _ _ hg
 have:b=g:=by simpa [Value.ownBlock] using this
 subst this
 exact hf j
def Ab1 {α:Type} (e:Enc α) (A:Option Addr) (c:Nat) (F:List Nat) (l:List α) (w:World) (en:Ending) (w':World):Prop :=
 ∃ k F',en = .returned (.slice A k c)/\Hw e w' F' (.slice A k c) l/\(∀ b∈F',b∈F)/\Chg F w w'
structure Kept {α:Type} (p:α->Bool) (l M:List α) (i j:Nat):Prop where
 len:M.length=l.length
 head:M.take i=(l.take j).filter fun x=>!p x
 tail:∀ t (h:t<l.length) (h':t<M.length),j<=t->M[t]=l[t]
theorem Kept.drop {α:Type} {p:α->Bool} {l M:List α} {i j:Nat} (h:Kept p l M i j) (hj:j<l.length) (hp:p l[j]=true):Kept p l M i (j+1):=by
 refine ⟨h.len,?_,fun t ht jV htj=>h.tail t ht jV (by omega)⟩
 rw [h.head,Ay l j hj,List.filter_append]
 simp [hp]
theorem Kept.keep {α:Type} {p:α->Bool} {l M:List α} {i j:Nat} (h:Kept p l M i j) (hj:j<l.length) (hi:i<j) (hp:p l[j]=false):Kept p l (M.set i l[j]) (i+1) (j+1):=by
 have hl:=h.len
 refine ⟨by rw [List.length_set];exact h.len,?_,fun t ht jV htj=>?_⟩
 ·rw [Ay l j hj,List.filter_append,<-h.head,Ay _ i (by rw [List.length_set];omega),List.getElem_set_self,List.take_set_of_le (Nat.le_refl _)]
  simp [hp]
 ·rw [List.getElem_set_ne (by omega)]
  exact h.tail t ht (by rw [List.length_set] at jV;exact jV) (by omega)
theorem Yw {α:Type} {p:α->Bool} {l:List α} {k:Nat} (hk:k<l.length) (h:∀ j (hj:j<l.length),j<k->p l[j]=false) (hp:p l[k]=true):Kept p l l k (k+1):=by
 refine ⟨rfl,?_,fun t _ _ _=>rfl⟩
 rw [Ay l k hk,List.filter_append]
 have:(l.take k).filter (fun x=>!p x)=l.take k:=List.filter_eq_self.2 (fun x hx=>by
  obtain ⟨j,hj,rfl⟩:=List.getElem_of_mem hx
  rw [List.length_take] at hj
  rw [List.getElem_take]
  simp [h j (by omega) (by omega)])
 rw [this]
 simp [hp]
theorem Abg {α:Type} {p:α->Bool} {l:List α} (h:∀ j (hj:j<l.length),p l[j]=false):(l.filter fun x=>!p x)=l:=List.filter_eq_self.2 (fun x hx=>by
 obtain ⟨j,hj,rfl⟩:=List.getElem_of_mem hx
 simp [h j hj])
theorem K7 (v:Value) (l:List Entry) (i xb:Nat) (x:Entry) (base:Nat) (w:World) (hi:i<=l.length) (hl:l.length<=1000000) (ho:Ow Az 93 w base v l) (aS:base<=w.heap.size)
  (hx:w.heap[xb]? = some (.cells (Az.cells x).toArray 93 (0,0))) (aC:v.ownBlock≠some xb) :
  Calls Tryz.prog 194 #[v,.int .i64 (i:Int),.slice (some ⟨xb,0,none⟩) 1 1] w fun e w'=>∃ v',e = .returned v'/\Ow Az 93 w' base v' (l.take i ++ x :: l.drop i)/\w.grownBy w' v.ownBlock/\(v'.ownBlock=v.ownBlock\/v'.ownBlock=some w.heap.size):=by
 obtain ⟨j0,bX,jz0,jz1,jz2⟩:=info_parts Ds
 have eT:xb<w.heap.size:=(Array.getElem?_eq_some_iff.1 hx).1
 have sP:∀ j u,(Az.cells x)[j]? = some u->w.cell? ((⟨xb,0,none⟩:Addr).add j)=some u:=fun j u hu=>by
  have h0:w.cell? ⟨xb,j,none⟩=(Az.cells x).toArray[j]?:=cell_of_row _ _ j _ _ (0,0) hx
  have e:((⟨xb,0,none⟩:Addr).add j)=⟨xb,j,none⟩:=by unfold Addr.add;split<;>simp_all
  rw [e,h0]
  simpa using hu
 have gW:Rd Az w w.heap.size (.slice (some ⟨xb,0,none⟩) 1 1) [x]:=by
  refine ⟨_,1,rfl,by simp,fun _=>⟨xb,0,rfl,eT,fun k hk j u hu=>?_⟩⟩
  have dG:k=0:=by simpa using hk
  subst dG
  have e:(⟨xb,0+0 * Az.sz+j,none⟩:Addr)=(⟨xb,0,none⟩:Addr).add j:=by unfold Addr.add;split<;>simp_all
  rw [e]
  exact sP j u hu
 by_cases dE:i=l.length
 ·have Hl:=Lib.hid (show l.take i ++ x :: l.drop i=l ++ [x] by rw [dE,List.take_length,List.drop_length])
  have HO:=Lib.hid ho
  have HX:=Lib.hid hx
  have HXC:=Lib.hid sP
  have HNE:=Lib.hid aC
  obtain ⟨A,c,rfl,hc,-⟩:=id (Rd.of_own ho)
  have aN:l.length<=c:=hc
  subst dE
  clear ho hx sP aC hi
  have h0:¬ (l.length:Int)<0:=by omega
  by_cases hcl:c=l.length
  all_goals
   (try subst hcl)
   go_enter Tryz.func194,Tryz.ntmps194
   go_wp2_with (at_builtin;refine Ak _ Az (by decide) rfl (.tmp 23) (.tmp 24) rfl Tryz.underlying96 bX jz0 jz1 jz2 rfl (v:=.slice A l.length _) (l:=l) rfl HO.out (A:=some ⟨xb,0,none⟩) (m:=1) (c:=1) rfl gW (by omega) (by simp) (by decide) (by omega) ?_;intro v5 w5 o5 g5 f5)
   go_ret
   exact ⟨v5,rfl,by first | exact o5 | (rw [Hl.out];exact o5),g5,f5⟩
 have aA:i<l.length:=by omega
 obtain ⟨g,cap,rfl,hg1,jU,-⟩:∃ g cap,v = .slice (some ⟨g,0,none⟩) l.length cap/\base<=g/\g<w.heap.size/\True:=by
  rcases ho.form with ⟨_,e0⟩ | ⟨g,cap,e1,h1,h2,_⟩
  ·rw [e0] at aA;simp at aA
  ·exact ⟨g,cap,e1,h1,h2,trivial⟩
 obtain ⟨-,-,hncap,pW,cur,cW,hclen,hcur⟩:=ho.row
 have hne':xb≠g:=fun e=>aC (by rw [e];rfl)
 have bE:(Tryz.prog.info? 93).map (·.size)=some 4:=by rw [bX];simp [jz1]
 have hesz:Az.sz=4:=rfl
 have tE:(l.flatMap Az.cells).length=l.length * 4:=Az.flat_length l
 have fF:(Az.cells x).length=4:=Az.len x
 have hdl:((l.flatMap Az.cells).drop (i * 4)).length=(l.length - i) * 4:=by rw [List.length_drop,tE,Nat.sub_mul]
 have hone:∀ u∈l.flatMap Az.cells,u.oneCell'=true:=fun u hu=>by
  obtain ⟨y,_,hy⟩:=List.mem_flatMap.1 hu
  exact Az.one y u hy
 have hfi:=Lib.hid (Le Az l i (by omega) x)
 rw [hesz] at hcur hclen hfi
 have bP:∀ j u,(l.flatMap Az.cells)[j]? = some u->w.cell? ⟨g,j,none⟩=some u:=fun j u hu=>by
  have h0:w.cell? ⟨g,j,none⟩=cur.toArray[j]?:=cell_of_row _ _ j _ _ (0,0) cW
  rw [h0,<-hcur,List.getElem?_take] at *
  split at hu
  ·simpa using hu
  ·cases hu
 have Hone:=Lib.hid hone
 have Hcell:=Lib.hid bP
 have HX:=Lib.hid hx
 have HXC:=Lib.hid sP
 have Hrow:=Lib.hid cW
 have Hclen:=Lib.hid hclen
 have Hcur:=Lib.hid hcur
 have HO:=Lib.hid ho
 have Hxl:=Lib.hid fF
 have Hdl:=Lib.hid hdl
 have HLl:=Lib.hid tE
 have HSZ:=Lib.hid bE
 have hcm2:cap<=9223372036854775807:=by simpa [maxLen] using pW
 have pA:¬ ((i:Int)=(l.length:Int)):=by omega
 have hib:((i:Int) == (l.length:Int))=false:=beq_eq_false_iff_ne.2 pA
 have hw1:IntKind.i64.wrap ((i:Int)+1)=(i:Int)+1:=IntWalk.i64_in _ (by omega)
 have hw2:IntKind.i64.wrap ((l.length:Int)+1)=(l.length:Int)+1:=IntWalk.i64_in _ (by omega)
 have aL:(0:Int)<=(i:Int)+1:=by omega
 have htn:((i:Int)+1).toNat=i+1:=by omega
 have htn2:((l.length:Int)+1).toNat=l.length+1:=by omega
 have rK:¬ cap=i:=by omega
 have hiI:(i:Int)<=(l.length:Int):=by omega
 have hicap:(i:Int)<=(cap:Int):=by omega
 clear ho hx sP aC cW hclen hcur hone bP pW aA dE hi gW tE fF hdl bE hesz
 by_cases gF:l.length+1<=cap
 ·-- there is room: in place
  have uE:¬ cap=i+1:=by omega
  have hro:¬ (cap:Int)<(l.length:Int)+1:=by omega
  have hi1:(i:Int)+1<=(l.length:Int)+1:=by omega
  have hi2:(i:Int)<=(l.length:Int)+1:=by omega
  have hshx:w.shape? xb=some (93,4):=by unfold World.shape?;rw [HX.out];simp [Hxl.out]
  have hshg:w.shape? g=some (93,cap * 4):=by unfold World.shape?;rw [Hrow.out];simp [Hclen.out]
  have hfx:∀ o,w.frozen? ⟨xb,o,none⟩=false:=fun o=>by unfold World.frozen?;rw [HX.out];simp
  have hov:∀ lb cb,(callFunc 233 #[.slice (some ⟨xb,0,none⟩) 1 1,.slice (some ⟨g,(i+1) * 4,none⟩) lb cb]).run Tryz.prog w = .ok (.value (.bool false)) w:=fun lb cb=>by
   rw [run_callFunc_extern Tryz.func233 (by kernel_rfl) (by kernel_rfl) (by kernel_rfl) (e:=Extern.SlicesOverlaps.overlaps #[96,96] #[4]) (by kernel_rfl),
    Lib.run_overlaps_apart w 96 4 93 Tryz.underlying96 4 (fun w=>by simp [sizeOf,typeInfo,bX,jz1]) ⟨xb,0,none⟩ ⟨g,(i+1) * 4,none⟩ 1 1 lb cb hne' 93 93 4 (cap * 4) hshx hshg (by have:1 * 4<=cap * 4:=Nat.mul_le_mul_right _ (by omega);omega) (hfx _) (hfx _)]
   rfl
  have Hsh:=Lib.hid hshx
  have Hsg:=Lib.hid hshg
  have Hfx:=Lib.hid hfx
  clear hshx hshg hfx
  go_enter Tryz.func194,Tryz.ntmps194
  go_wp2_with (simp only [hov])
  have e1:=Lib.hid (show ((l.flatMap Az.cells).drop (i * 4)).length=Nat.min (l.length+1 - i) (l.length - i) * 4 by rw [Hdl.out];congr 1;simp only [Nat.min_def];split<;>omega)
  have e2:=Lib.hid (show ∀ j u,((l.flatMap Az.cells).drop (i * 4))[j]? = some u->w.drew.cell? ((⟨g,i * 4,none⟩:Addr).add j)=some u from Kd Hrow.out _ (fun j u hu=>by
   rw [List.getElem?_drop,<-Hcur.out,List.getElem?_take] at hu
   split at hu
   ·exact hu
   ·cases hu))
  have e3:=Lib.hid (show (i+1) * 4+((l.flatMap Az.cells).drop (i * 4)).length<=cur.length by
   rw [Hdl.out,Hclen.out,<-Nat.add_mul]
   exact Nat.mul_le_mul_right _ (by omega))
  have e4:=Lib.hid (show ∀ u∈(l.flatMap Az.cells).drop (i * 4),u.oneCell'=true from fun u hu=>Hone.out u (List.mem_of_mem_drop hu))
  go_region_law (refine Nj w.drew rfl (.tmp 73) (.tmp 76) 96 96 rfl 93 4 Tryz.underlying96 HSZ.out g ((i+1) * 4) (l.length - i) (cap - (i+1)) ⟨g,i * 4,none⟩ (l.length+1 - i) (cap - i) (by simp [Act.eval,Act.put]) (by simp [Act.eval,Act.put]) cur 93 Hrow.out ((l.flatMap Az.cells).drop (i * 4)) e1.out e2.out e3.out e4.out ?_;intro w1 r1 g1)
  have f1:=Lib.hid (show (Az.cells x).length=Nat.min 1 (l.length+1 - i) * 4 by rw [Hxl.out];simp only [Nat.min_def];split<;>omega)
  have f2:=Lib.hid (show ∀ j u,(Az.cells x)[j]? = some u->w1.cell? ((⟨xb,0,none⟩:Addr).add j)=some u from Kd (V5 g1 (w:=w.drew) HX.out (fun e=>hne' (Option.some.inj e))) _ (fun j u hu=>by rw [Nat.zero_add];exact hu))
  have cC:=Lib.hid (V6 Az l i (by omega) x cur Hcur.out (by rw [Hclen.out];exact Nat.mul_le_mul_right _ gF))
  have f3:=Lib.hid (show i * 4+(Az.cells x).length<=(splice cur ((i+1) * 4) ((l.flatMap Az.cells).drop (i * 4))).length by
   rw [Ej _ _ _ e3.out,Hxl.out,Hclen.out,<-Nat.succ_mul]
   exact Nat.mul_le_mul_right _ (by omega))
  have f4:=Lib.hid (Az.one x)
  clear e1 e2 e3 e4 hov
  go_wp2_with (refine Ld w1 rfl (.tmp 80) (.tmp 81) 96 96 rfl 93 4 Tryz.underlying96 HSZ.out g (i * 4) (l.length+1 - i) (cap - i) ⟨xb,0,none⟩ 1 1 (by simp [Act.eval]) (by simp [Act.eval]) _ 93 r1.out (Az.cells x) f1.out f2.out f3.out f4.out ?_;intro w2 r2 g2)
  go_ret
  have gU:=Ow.of_row (e:=Az) (E:=93) (l:=l.take i ++ x :: l.drop i) (cap:=cap) (base:=base) r2.out (cC.out.2.trans Hclen.out) (by rw [Ic l i (by omega) x];exact cC.out.1) hg1 (by rw [Ic l i (by omega) x];exact gF) (by simpa [maxLen] using hcm2)
  rw [Ic l i (by omega) x] at gU
  exact ⟨_,rfl,gU,(Qx g1).trans g2,.inl rfl⟩
 ·-- no room: a new row
  obtain rfl:cap=l.length:=by omega
  have hro:(l.length:Int)<(l.length:Int)+1:=by omega
  have eZ:IntKind.i64.wrap ((l.length:Int)+1 - (i:Int))=(l.length:Int)+1 - (i:Int):=IntWalk.i64_in _ (by omega)
  have a1:=Lib.hid (show ((l.flatMap Az.cells).take (i * 4)).length=i * 4 by
   rw [List.length_take,HLl.out]
   exact Nat.min_eq_left (Nat.mul_le_mul_right _ (by omega)))
  have a2:=Lib.hid (show ∀ j u,((l.flatMap Az.cells).take (i * 4))[j]? = some u->w.cell? ((⟨g,0,none⟩:Addr).add j)=some u from Kd Hrow.out _ (fun j u hu=>by
   rw [List.getElem?_take] at hu
   split at hu
   ·rw [<-Hcur.out,List.getElem?_take] at hu
    split at hu
    ·rw [Nat.zero_add];exact hu
    ·cases hu
   ·cases hu))
  have cM:=Lib.hid (show (l.length:Int)+1 - (i:Int)=((l.length+1 - i:Nat):Int) by omega)
  have hi3:0<l.length+1 - i:=by omega
  have hGg:w.heap.size≠g:=by omega
  have hxG:xb≠w.heap.size:=by omega
  have f1:=Lib.hid (show (Az.cells x).length=Nat.min 1 (l.length+1 - i) * 4 by rw [Hxl.out];simp only [Nat.min_def];split<;>omega)
  have f4:=Lib.hid (Az.one x)
  have e1:=Lib.hid (show ((l.flatMap Az.cells).drop (i * 4)).length=Nat.min (l.length - i) (l.length - i) * 4 by rw [Hdl.out];congr 1;simp only [Nat.min_def];split<;>omega)
  have e4:=Lib.hid (show ∀ u∈(l.flatMap Az.cells).drop (i * 4),u.oneCell'=true from fun u hu=>Hone.out u (List.mem_of_mem_drop hu))
  have e2:=Lib.hid (show ∀ W:World,W.heap[g]? = w.heap[g]? -> ∀ j u,((l.flatMap Az.cells).drop (i * 4))[j]? = some u->W.cell? ((⟨g,i * 4,none⟩:Addr).add j)=some u from fun W hW=>Kd (hW.trans Hrow.out) _ (fun j u hu=>by
   rw [List.getElem?_drop,<-Hcur.out,List.getElem?_take] at hu
   split at hu
   ·exact hu
   ·cases hu))
  go_enter Tryz.func194,Tryz.ntmps194
  go_wp2_with (first
   | (refine Me w rfl (.tmp 34) (.tmp 39) 96 3 rfl 93 j0 _ 4 _ .i64 .i64 Tryz.underlying96 Tryz.underlying3 bX jz0 jz1 jz2 rfl (by decide) ⟨g,0,none⟩ i l.length _ (by simp [Act.eval]) (l.length+1 - i) ((l.length:Int)+1 - (i:Int)) cM.out (by simp [Act.eval]) a1.out a2.out hi3 (by omega) (by omega) (by decide) (l.length+1) (by omega) ?_;intro w1 c R r1 rl rt rY hc4 g1 s1;have hci:¬ c=i:=(by omega);have hci1:¬ c=i+1:=(by omega);have hi2:(i:Int)<=(l.length:Int)+1:=(by omega);have hi1:(i:Int)+1<=(l.length:Int)+1:=(by omega);have hc5:(l.length:Int)+1<=(c:Int):=(by omega);have f2:=Lib.hid (show ∀ j u,(Az.cells x)[j]? = some u->w1.cell? ((⟨xb,0,none⟩:Addr).add j)=some u from Kd (V5 g1 HX.out (by simp)) _ (fun j u hu=>by rw [Nat.zero_add];exact hu));have f3:=Lib.hid (show i * 4+(Az.cells x).length<=R.length by rw [Hxl.out,rl.out,<-Nat.succ_mul];exact Nat.mul_le_mul_right _ (by omega));have cC:=Lib.hid (Yb Az l i (by omega) x R rt.out (by rw [rl.out];exact Nat.mul_le_mul_right _ rY));have hgw1:=Lib.hid (g1.block g jU (by simp));clear cM)
   | (refine Ld w1 rfl (.tmp 43) (.tmp 44) 96 96 rfl 93 4 Tryz.underlying96 HSZ.out w.heap.size (i * 4) (l.length+1 - i) (c - i) ⟨xb,0,none⟩ 1 1 (by simp [Act.eval]) (by simp [Act.eval]) _ 93 r1.out (Az.cells x) f1.out f2.out f3.out f4.out ?_;intro w2 r2 g2))
  have e3:=Lib.hid (show (i+1) * 4+((l.flatMap Az.cells).drop (i * 4)).length<=(splice R (i * 4) (Az.cells x)).length by
   rw [Ej _ _ _ f3.out,Hdl.out,rl.out,<-Nat.add_mul]
   exact Nat.mul_le_mul_right _ (by omega))
  have e2':=Lib.hid (e2.out w2.drew ((g2.block g (by omega) (fun e=>hGg (Option.some.inj e).symm)).trans hgw1.out))
  clear e2 hgw1
  go_region_law (refine Nj w2.drew rfl (.tmp 50) (.tmp 53) 96 96 rfl 93 4 Tryz.underlying96 HSZ.out w.heap.size ((i+1) * 4) (l.length - i) (c - (i+1)) ⟨g,i * 4,none⟩ (l.length - i) (l.length - i) (by simp [Act.eval,Act.put]) (by simp [Act.eval,Act.put]) _ 93 r2.out ((l.flatMap Az.cells).drop (i * 4)) e1.out e2'.out e3.out e4.out ?_;intro w3 r3 g3)
  go_wp2_with fail
  go_ret
  have gU:=Ow.of_row (e:=Az) (E:=93) (l:=l.take i ++ x :: l.drop i) (cap:=c) (base:=base) r3.out (cC.out.2.trans rl.out) (by rw [Ic l i (by omega) x];exact cC.out.1) aS (by rw [Ic l i (by omega) x];exact rY) (by simpa [maxLen] using hc4)
  rw [Ic l i (by omega) x] at gU
  exact ⟨_,rfl,gU,Tp (Tp (Ya g1 (some g)) g2 (Nat.le_refl _)) (Qx g3) (Nat.le_refl _),.inr rfl⟩
def Dc (n:Int):Bool:=inB n 0 1000000000
def Da (p:Plan):Bool:=Dc p.prio && Dc p.most && Dc p.wait && Dc p.tasks && decide (p.edges.length<=31) && p.edges.all fun e=>Dc e.fr && Dc e.to
def Dd (p:Plan):Bool:=p.prio == 0 && p.most == 0 && p.wait == 0 && p.tasks == 0 && p.edges.length == 0
def Bp (d:Deed):Bool :=
 inB d.kind 1 8 &&
 (if d.kind=2\/d.kind=5\/d.kind=8 then d.run == 0 else Dc d.run) &&
 (if d.kind=3\/d.kind=4 then Dc d.task && Dc d.try_ else d.task == 0 && d.try_ == 0) &&
 (if d.kind=2 then Dc d.worker && Dc d.draw else d.worker == 0 && d.draw == 0) &&
 (if d.kind=1 then Da d.plan else Dd d.plan)
theorem Et (p:Plan) (s:Sl) (w:World) (h:Ag.rd w w.heap.size p s) :
  Calls Tryz.prog 197 #[Hi p s] w fun e w'=>e = .returned (.bool (Dd p))/\Below w.heap.size w w':=by
 obtain ⟨A,n,c⟩:=s
 obtain rfl:n=p.edges.length:=RdL.at1 (s:=⟨A,n,c⟩) h
 have X:=DBox.new 43 [.int .i64 p.prio,.int .i64 p.most,.int .i64 p.wait,.int .i64 p.tasks,.slice A p.edges.length c] w (b:=w.heap.size) rfl
 have B0:Below w.heap.size w (w.alloc (.cells #[.int .i64 p.prio,.int .i64 p.most,.int .i64 p.wait,.int .i64 p.tasks,.slice A p.edges.length c] 43)):=by repeat (first | exact Below.refl _ _ | refine Below.alloc ?_ (by simp<;>omega) _)
 have H:=Lib.hid (show Dd p=(p.prio == 0 && p.most == 0 && p.wait == 0 && p.tasks == 0 && p.edges.length == 0) from rfl)
 by_cases a0:p.prio=0
 case neg =>
  have b0:(p.prio == 0)=false:=by simpa using a0
  go_enter Tryz.func197,Tryz.ntmps197
  go_wp2
  go_ret
  exact ⟨Ac (by rw [H.out];simp [b0]),B0⟩
 have b0:(p.prio == 0)=true:=by simpa using a0
 clear a0
 by_cases a1:p.most=0
 case neg =>
  have b1:(p.most == 0)=false:=by simpa using a1
  go_enter Tryz.func197,Tryz.ntmps197
  go_wp2
  go_ret
  exact ⟨Ac (by rw [H.out];simp [b0,b1]),B0⟩
 have b1:(p.most == 0)=true:=by simpa using a1
 clear a1
 by_cases a2:p.wait=0
 case neg =>
  have b2:(p.wait == 0)=false:=by simpa using a2
  go_enter Tryz.func197,Tryz.ntmps197
  go_wp2
  go_ret
  exact ⟨Ac (by rw [H.out];simp [b0,b1,b2]),B0⟩
 have b2:(p.wait == 0)=true:=by simpa using a2
 clear a2
 by_cases a3:p.tasks=0
 case neg =>
  have b3:(p.tasks == 0)=false:=by simpa using a3
  go_enter Tryz.func197,Tryz.ntmps197
  go_wp2
  go_ret
  exact ⟨Ac (by rw [H.out];simp [b0,b1,b2,b3]),B0⟩
 have b3:(p.tasks == 0)=true:=by simpa using a3
 clear a3
 by_cases a4:p.edges.length=0
 case neg =>
  have b4:((p.edges.length:Int) == 0)=false:=by rw [beq_eq_false_iff_ne];omega
  have b5:(p.edges.length == 0)=false:=by rw [beq_eq_false_iff_ne];exact a4
  go_enter Tryz.func197,Tryz.ntmps197
  go_wp2
  go_ret
  exact ⟨Ac (by rw [H.out];simp [b0,b1,b2,b3,b5]),B0⟩
 have b4:((p.edges.length:Int) == 0)=true:=by rw [beq_iff_eq];omega
 have b5:(p.edges.length == 0)=true:=by rw [beq_iff_eq];exact a4
 clear a4
 go_enter Tryz.func197,Tryz.ntmps197
 go_wp2
 go_ret
 exact ⟨Ac (by rw [H.out];simp [b0,b1,b2,b3,b5]),B0⟩
theorem Abh {α:Type} {f:α->Bool} {l:List α} {k:Nat} (h:k<l.length) (hn:f l[k]=false):l.all f=false:=by
 rw [List.all_eq_false]
 exact ⟨l[k],List.getElem_mem h,by simp [hn]⟩
theorem O6 {p:Plan} {k:Nat} (h:k<p.edges.length) (hn:(Dc p.edges[k].fr && Dc p.edges[k].to)=false):Da p=false:=by
 unfold Da
 rw [Abh h hn,Bool.and_false]
theorem Px (p:Plan) (s:Sl) (w:World) (h:Ag.rd w w.heap.size p s) :
  Calls Tryz.prog 196 #[Hi p s] w fun e w'=>e = .returned (.bool (Da p))/\Below w.heap.size w w':=by
 obtain ⟨A,n,c⟩:=s
 obtain rfl:n=p.edges.length:=RdL.at1 (s:=⟨A,n,c⟩) h
 have h2:Rd Ei w w.heap.size (.slice A p.edges.length c) p.edges:=Gf h
 clear h
 have X:=DBox.new 43 [.int .i64 p.prio,.int .i64 p.most,.int .i64 p.wait,.int .i64 p.tasks,.slice A p.edges.length c] w (b:=w.heap.size) rfl
 have B0:Below w.heap.size w (w.alloc (.cells #[.int .i64 p.prio,.int .i64 p.most,.int .i64 p.wait,.int .i64 p.tasks,.slice A p.edges.length c] 43)):=by repeat (first | exact Below.refl _ _ | refine Below.alloc ?_ (by simp<;>omega) _)
 cases b0:inB p.prio 0 1000000000
 case false =>
  have H:=Lib.hid (show Da p=false by simp [Da,Dc,b0])
  go_enter Tryz.func196,Tryz.ntmps196
  go_wp2_with (go_at_call 191;refine (Au _ _).mono ?_;rintro e w9 ⟨rfl,rfl⟩)
  go_ret
  exact ⟨Ac H.out.symm,B0⟩
 cases b1:inB p.most 0 1000000000
 case false =>
  have H:=Lib.hid (show Da p=false by simp [Da,Dc,b0,b1])
  go_enter Tryz.func196,Tryz.ntmps196
  go_wp2_with (go_at_call 191;refine (Au _ _).mono ?_;rintro e w9 ⟨rfl,rfl⟩)
  go_ret
  exact ⟨Ac H.out.symm,B0⟩
 cases b2:inB p.wait 0 1000000000
 case false =>
  have H:=Lib.hid (show Da p=false by simp [Da,Dc,b0,b1,b2])
  go_enter Tryz.func196,Tryz.ntmps196
  go_wp2_with (go_at_call 191;refine (Au _ _).mono ?_;rintro e w9 ⟨rfl,rfl⟩)
  go_ret
  exact ⟨Ac H.out.symm,B0⟩
 cases b3:inB p.tasks 0 1000000000
 case false =>
  have H:=Lib.hid (show Da p=false by simp [Da,Dc,b0,b1,b2,b3])
  go_enter Tryz.func196,Tryz.ntmps196
  go_wp2_with (go_at_call 191;refine (Au _ _).mono ?_;rintro e w9 ⟨rfl,rfl⟩)
  go_ret
  exact ⟨Ac H.out.symm,B0⟩
 by_cases a4:p.edges.length<=31
 case neg =>
  have b4:(31:Int)<(p.edges.length:Int):=by omega
  have H:=Lib.hid (show Da p=false by simp [Da,a4])
  go_enter Tryz.func196,Tryz.ntmps196
  go_wp2_with (go_at_call 191;refine (Au _ _).mono ?_;rintro e w9 ⟨rfl,rfl⟩)
  go_ret
  exact ⟨Ac H.out.symm,B0⟩
 have b4:¬ (31:Int)<(p.edges.length:Int):=by omega
 have HN:=Lib.hid (show Da p=p.edges.all (fun e=>Dc e.fr && Dc e.to) by simp [Da,Dc,b0,b1,b2,b3,a4])
 go_enter Tryz.func196,Tryz.ntmps196
 go_wp2_with (go_at_call 191;refine (Au _ _).mono ?_;rintro e w9 ⟨rfl,rfl⟩)
 generalize (w.alloc (.cells #[.int .i64 p.prio,.int .i64 p.most,.int .i64 p.wait,.int .i64 p.tasks,.slice A p.edges.length c] 43))=W at *
 clear b0 b1 b2 b3
 go_loopw [3] (fun i wr=>∃ k:Nat,k<=p.edges.length/\i = .int .i64 k/\Hid ((p.edges.take k).all (fun e=>Dc e.fr && Dc e.to)=true)/\DBox w.heap.size [.int .i64 p.prio,.int .i64 p.most,.int .i64 p.wait,.int .i64 p.tasks,.slice A p.edges.length c] wr/\Below w.heap.size w wr) (fun i _=>p.edges.length - (intOf i).toNat)
 case atStart=>exact ⟨0,Nat.zero_le _,rfl,rfl,X,B0⟩
 case round =>
  clear X B0
  obtain ⟨k,hk,rfl,hA,X,hb⟩:=hrel
  obtain ⟨X_0,X_1,X_2,X_3,X_4,X_l⟩:=X.g5
  by_cases aA:k<p.edges.length
  ·have aB:(k:Int)<(p.edges.length:Int):=by omega
   obtain ⟨b,o,rfl,aH,d0,d1⟩:=(h2.below hb).edge aA
   cases q0:inB p.edges[k].fr 0 1000000000
   ·have H:=Lib.hid (O6 aA (by simp [Dc,q0]))
    go_wp2_with (go_at_call 191;refine (Au _ _).mono ?_;rintro e w9 ⟨rfl,rfl⟩)
    go_ret
    exact ⟨Ac H.out.symm,hb⟩
   cases q1:inB p.edges[k].to 0 1000000000
   ·have H:=Lib.hid (O6 aA (by simp [Dc,q1]))
    go_wp2_with (go_at_call 191;refine (Au _ _).mono ?_;rintro e w9 ⟨rfl,rfl⟩)
    go_ret
    exact ⟨Ac H.out.symm,hb⟩
   have S:Hid ((p.edges.take (k+1)).all (fun e=>Dc e.fr && Dc e.to)=true):=by
    show _=_
    rw [List.take_succ_eq_append_getElem aA,List.all_append,hA.out]
    simp [Dc,q0,q1]
   go_wp2_with (go_at_call 191;refine (Au _ _).mono ?_;rintro e w9 ⟨rfl,rfl⟩)
   exact ⟨⟨k+1,by omega,by go_num,S,X,hb⟩,by simp [intOf];omega⟩
  ·have H:=Lib.hid (show Da p=true by
    have:=hA.out
    rw [List.take_of_length_le (by omega)] at this
    rw [HN.out,this])
   have aB:¬ (k:Int)<(p.edges.length:Int):=by omega
   go_wp2
   go_ret
   exact ⟨Ac H.out.symm,hb⟩
def Gq (l:List Entry) (k:Nat):List Nat:=(l.take k).map fun e=>e.seq.toNat
theorem Ro (l:List Entry) (k:Nat) (hk:k<l.length):Gq l (k+1)=Gq l k ++ [l[k].seq.toNat]:=by
 unfold Gq
 rw [Ay l k hk,List.map_append]
 rfl
theorem Aae (l:List Entry) (k:Nat):(Gq l k).length<=k:=by
 unfold Gq
 rw [List.length_map,List.length_take]
 omega
theorem O7 {l:List Entry} (h:∀ j (hj:j<l.length),l[j].seq.toNat∉Gq l j):(l.map (·.seq)).Nodup:=by
 have:∀ k,k<=l.length->(Gq l k).Nodup:=by
  intro k
  induction k with
  | zero=>intro _;simp [Gq]
  | succ k ih =>
   intro hk
   rw [Ro l k (by omega),List.nodup_append]
   refine ⟨ih (by omega),by simp,fun a ha b hb e=>?_⟩
   have bG:b=l[k].seq.toNat:=by simpa using hb
   subst bG
   subst e
   exact h k (by omega) ha
 have h2:=this l.length (Nat.le_refl _)
 unfold Gq at h2
 rw [List.take_length] at h2
 have e:(l.map fun e=>e.seq.toNat)=(l.map (·.seq)).map Int.toNat:=by rw [List.map_map];rfl
 rw [e] at h2
 exact List.Pairwise.of_map _ (fun a b aC e=>aC (by rw [e])) h2
theorem O8 {l:List Entry} (h:(l.map (·.seq)).Nodup) (hp:∀ e∈l,1<=e.seq) {k:Nat} (hk:k<l.length):l[k].seq.toNat∉Gq l k:=by
 intro hm
 unfold Gq at hm
 obtain ⟨x,hx,he⟩:=List.mem_map.1 hm
 obtain ⟨j,hj,rfl⟩:=List.getElem_of_mem hx
 rw [List.length_take] at hj
 rw [List.getElem_take] at he
 have h1:=hp _ (List.getElem_mem (show j<l.length by omega))
 have h2:=hp _ (List.getElem_mem hk)
 have e:l[j].seq=l[k].seq:=by omega
 have h3:=List.pairwise_iff_getElem.1 h j k (by rw [List.length_map];omega) (by rw [List.length_map];omega) (by omega)
 rw [List.getElem_map,List.getElem_map] at h3
 exact h3 e
theorem Zn {p:Plan} (h:Aq p=0):1<=p.wait/\p.wait<=20:=by
 have:=(Bn.1 h).1
 simp only [Cu,Bool.and_eq_true] at this
 exact Bf.1 this.2
def Kq (q:Int) (l:List Entry) (k:Nat):Prop:=∀ j (hj:j<l.length),j<k->(1<=l[j].seq/\l[j].seq<=q - 1)/\l[j].seq.toNat∉Gq l j
theorem T9 {q:Int} {l:List Entry} {k:Nat} (h:Kq q l k) (hk:k<l.length) (h1:inB l[k].seq 1 (q - 1)=true) (h2:l[k].seq.toNat∉Gq l k):Kq q l (k+1):=by
 intro j hj fD
 by_cases e:j=k
 ·subst e;exact ⟨Bf.1 h1,h2⟩
 ·exact h j hj (by omega)
theorem Aaf {y:Yard} {k:Nat} (hk:k<(Ah y).length) (h1:inB (Ah y)[k].seq 1 (y.seq - 1)=false):¬ Bq y:=by
 intro h
 have:=Bf.2 (h.2.2.2.2.1 _ (List.getElem_mem hk))
 rw [h1] at this
 cases this
theorem Aag {y:Yard} {k:Nat} (hk:k<(Ah y).length) (h1:(Ah y)[k].seq.toNat∈Gq (Ah y) k):¬ Bq y:=fun h =>
 O8 h.2.2.2.2.2.1 (fun e he=>(h.2.2.2.2.1 e he).1) hk h1
def Ij (y:Yard) (k:Nat):Prop:=∀ j (hj:j<y.runs.length),j<k->Er y.runs[j]/\Bo y y.runs[j].id=j/\Ie y.now y.runs[j] (Ah y)
theorem Aah {y:Yard} {k:Nat} (h:Ij y k) (hk:k<y.runs.length) (h1:Er y.runs[k]) (h2:Bo y y.runs[k].id=k) (h3:Ie y.now y.runs[k] (Ah y)):Ij y (k+1):=by
 intro j hj fD
 by_cases e:j=k
 ·subst e;exact ⟨h1,h2,h3⟩
 ·exact h j hj (by omega)
theorem Zo {y:Yard} (h1:inB y.now 0 999999980=true) (h2:inB y.seq 1 1000000000=true) (h3:y.shelf.length=4) (h4:∀ k (hk:k<y.shelf.length),Fd y.shelf[k]) (h5:Kq y.seq (Ah y) (Ah y).length) (h6:y.runs.length<=8) (h7:Ij y y.runs.length) :
  Bq y ↔ D9 y<=40:=by
 constructor
 ·intro h;exact h.2.2.2.2.2.2.2.2.2
 ·intro h
  refine ⟨Bf.1 h1,Bf.1 h2,h3,fun l hl=>?_,fun e he=>?_,O7 (fun j hj=>(h5 j hj hj).2),h6,fun k hk=>⟨(h7 k hk hk).1,(h7 k hk hk).2.1⟩,fun r hr=>?_,h⟩
  ·obtain ⟨k,hk,rfl⟩:=List.getElem_of_mem hl
   exact h4 k hk
  ·obtain ⟨k,hk,rfl⟩:=List.getElem_of_mem he
   exact (h5 k hk hk).1
  ·obtain ⟨k,hk,rfl⟩:=List.getElem_of_mem hr
   exact (h7 k hk hk).2.2
theorem D6 (y:Yard) (s:Sl×Sl) (w:World) (hl:Ai y<=2000000) (h:Ab.rd w w.heap.size y s) :
  Calls Tryz.prog 57 #[By y s] w fun e w'=>e = .returned (.bool (tf (Bq y)))/\Below w.heap.size w w':=by
 have HR:=Lib.hid (show ∀ W,Below w.heap.size w W->Ab.rd W W.heap.size y s from fun W hW=>Ab.rd_more (Ab.rd_below h hW) hW.size)
 obtain ⟨⟨A1,n1,c1⟩,⟨A2,n2,c2⟩⟩:=s
 obtain rfl:n1=y.shelf.length:=RdL.at1 (s:=⟨A1,n1,c1⟩) h.1
 obtain rfl:n2=y.runs.length:=RdL.at1 (s:=⟨A2,n2,c2⟩) h.2
 have h1:RdL (Dt.list Af) w w.heap.size (.slice A1 y.shelf.length c1) y.shelf:=h.1
 have h2:RdL Am w w.heap.size (.slice A2 y.runs.length c2) y.runs:=h.2
 have dI:y.runs.length<=2000000:=Nat.le_trans (Ar Bg _) (by unfold Ai at hl;omega)
 have hls:y.shelf.length<=2000000:=Nat.le_trans (Ar Bl _) (by unfold Ai at hl;omega)
 have HE:=Lib.hid (show ∀ k (hk:k<y.shelf.length),y.shelf[k].length<=2000000 from fun k hk=>by
  have:=Cq (cnt:=Bl) (List.getElem_mem hk)
  have h2:y.shelf[k].length<=Bl y.shelf[k]:=Ar Hu _
  unfold Ai at hl
  omega)
 have HC:=Lib.hid (show ∀ k (hk:k<y.runs.length),Bg y.runs[k]<=2000000 from fun k hk=>by
  have:=Cq (cnt:=Bg) (List.getElem_mem hk)
  unfold Ai at hl
  omega)
 have HEn:=Lib.hid (show (Ah y).length<=2000000 by
  have:=Ff y.shelf y.shelf.length
  rw [List.take_length] at this
  unfold Ai at hl
  unfold Ah
  omega)
 have nZ:=Wq hl
 clear h
 have X:=DBox.new 31 [.int .i64 y.now,.int .i64 y.seq,.slice A1 y.shelf.length c1,.slice A2 y.runs.length c2] w (b:=w.heap.size) rfl
 have B0:Below w.heap.size w (w.alloc (.cells #[.int .i64 y.now,.int .i64 y.seq,.slice A1 y.shelf.length c1,.slice A2 y.runs.length c2] 31)):=by repeat (first | exact Below.refl _ _ | refine Below.alloc ?_ (by simp<;>omega) _)
 cases a1:inB y.now 0 999999980
 case false =>
  have H:=Lib.hid (Al (show ¬ Bq y from fun h=>by have:=Bf.2 h.1;rw [a1] at this;cases this))
  go_enter Tryz.func57,Tryz.ntmps57
  go_wp2_with (go_at_call 58;refine (Ap _ _ _ _).mono ?_;rintro e w' ⟨rfl,rfl⟩)
  go_ret
  exact ⟨Ac H.out.symm,B0⟩
 cases a2:inB y.seq 1 1000000000
 case false =>
  have H:=Lib.hid (Al (show ¬ Bq y from fun h=>by have:=Bf.2 h.2.1;rw [a2] at this;cases this))
  go_enter Tryz.func57,Tryz.ntmps57
  go_wp2_with (go_at_call 58;refine (Ap _ _ _ _).mono ?_;rintro e w' ⟨rfl,rfl⟩)
  go_ret
  exact ⟨Ac H.out.symm,B0⟩
 by_cases a3:y.shelf.length=4
 case neg =>
  have a3':((y.shelf.length:Int) != 4)=true:=by simp;omega
  have H:=Lib.hid (Al (show ¬ Bq y from fun h=>a3 h.2.2.1))
  clear a3
  go_enter Tryz.func57,Tryz.ntmps57
  go_wp2_with (go_at_call 58;refine (Ap _ _ _ _).mono ?_;rintro e w' ⟨rfl,rfl⟩)
  go_ret
  exact ⟨Ac H.out.symm,B0⟩
 have a3':((y.shelf.length:Int) != 4)=false:=by simp [a3]
 have A3_:=Lib.hid a3
 clear a3
 by_cases a4:y.runs.length<=8
 case neg =>
  have a4':(8:Int)<(y.runs.length:Int):=by omega
  have H:=Lib.hid (Al (show ¬ Bq y from fun h=>a4 h.2.2.2.2.2.2.1))
  clear a4
  go_enter Tryz.func57,Tryz.ntmps57
  go_wp2_with (go_at_call 58;refine (Ap _ _ _ _).mono ?_;rintro e w' ⟨rfl,rfl⟩)
  go_ret
  exact ⟨Ac H.out.symm,B0⟩
 have a4':¬ (8:Int)<(y.runs.length:Int):=by omega
 have hqb:=Bf.1 a2
 have sY:=Bf.1 a1
 go_enter Tryz.func57,Tryz.ntmps57
 go_wp2_with (go_at_call 58;refine (Ap _ _ _ _).mono ?_;rintro e w' ⟨rfl,rfl⟩)
 generalize (w.alloc (.cells #[.int .i64 y.now,.int .i64 y.seq,.slice A1 y.shelf.length c1,.slice A2 y.runs.length c2] 31))=W at *
 have A1_:=Lib.hid a1
 have A2_:=Lib.hid a2
 clear a1 a2 a3' a4'
 go_loopw [36] (fun i wr=>∃ k:Nat,k<=y.shelf.length/\i = .int .i64 k/\Hid (∀ j (hj:j<y.shelf.length),j<k->Fd y.shelf[j])/\Below W.heap.size W wr) (fun i _=>y.shelf.length - (intOf i).toNat)
 case atStart=>exact ⟨0,Nat.zero_le _,rfl,fun j _ h0=>absurd h0 (by omega),Below.refl _ _⟩
 case round =>
  obtain ⟨k,hk,rfl,aW,hb⟩:=hrel
  replace X:=X.below hb
  replace B0:=Aa B0 hb
  by_cases aA:k<y.shelf.length
  ·have aB:(k:Int)<(y.shelf.length:Int):=by omega
   obtain ⟨b,o,⟨As,ns,cs⟩,mA,aH,hr,d0⟩:=(h1.below B0).entryS aA
   obtain rfl:ns=y.shelf[k].length:=RdL.at1 (s:=⟨As,ns,cs⟩) hr
   subst mA
   have C:=Pt y.shelf[k] ⟨As,y.shelf[k].length,cs⟩ wr (HE.out k aA) (hr.more B0.size)
   by_cases q:Fd y.shelf[k]
   ·have S:Hid (∀ j (hj:j<y.shelf.length),j<k+1->Fd y.shelf[j]):=fun j hj fD=>by
     by_cases e:j=k
     ·subst e;exact q
     ·exact aW.out j hj (by omega)
    rw [Bs q] at C
    clear q
    go_wp2_with fail
    refine C.mono ?_
    rintro e w2 ⟨rfl,b2⟩
    go_wp2
    first
     | exact ⟨⟨k+1,by omega,by go_num,S,Aa hb b2⟩,by simp [intOf];omega⟩
     | (refine ⟨?_,by simp [intOf];omega⟩;(repeat apply Exists.intro);first | exact ⟨⟨k+1,by omega,by go_num,S,Aa hb b2⟩,rfl⟩ | exact ⟨⟨k+1,by omega,by go_num,S,Aa hb b2⟩,rfl,rfl⟩ | exact ⟨⟨k+1,by omega,by go_num,S,Aa hb b2⟩,rfl,rfl,rfl⟩ | exact ⟨⟨k+1,by omega,by go_num,S,Aa hb b2⟩,rfl,rfl,rfl,rfl⟩ | exact ⟨⟨k+1,by omega,by go_num,S,Aa hb b2⟩,rfl,rfl,rfl,rfl,rfl⟩ | exact ⟨⟨k+1,by omega,by go_num,S,Aa hb b2⟩,rfl,rfl,rfl,rfl,rfl,rfl⟩ | exact ⟨⟨k+1,by omega,by go_num,S,Aa hb b2⟩,rfl,rfl,rfl,rfl,rfl,rfl,rfl⟩)
   ·have H:=Lib.hid (Al (show ¬ Bq y from fun h=>q (h.2.2.2.1 _ (List.getElem_mem aA))))
    rw [Al q] at C
    clear q
    go_wp2_with fail
    refine C.mono ?_
    rintro e w2 ⟨rfl,b2⟩
    go_wp2
    go_ret
    exact ⟨Ac H.out.symm,Aa B0 b2⟩
  ·have aB:¬ (k:Int)<(y.shelf.length:Int):=by omega
   have HS:Hid (∀ k (hk:k<y.shelf.length),Fd y.shelf[k]):=fun j hj=>aW.out j hj (by omega)
   have C:=K3 y (⟨A1,y.shelf.length,c1⟩,⟨A2,y.runs.length,c2⟩) wr hl (HR.out _ B0)
   obtain ⟨X_0,X_1,X_2,X_3,X_l⟩:=X.g4
   go_wp2_with fail
   refine C.mono ?_
   rintro e w2 ⟨v,rfl,o2,b2⟩
   replace X:=X.below b2
   replace B0:=Aa B0 b2
   clear X_0 X_1 X_2 X_3 X_l aW aA aB hb
   have O2:=Rd.of_own o2
   clear o2
   obtain ⟨A3,c3,rfl,-⟩:=id O2
   have pN:=HEn.out
   obtain ⟨j0,bX,jz0,jz1,jz2⟩:=info_parts Iv
   go_wp2
   go_loopw [6,48] (fun vl i wr=>∃ k:Nat,k<=(Ah y).length/\i = .int .i64 k/\Ow Cs 3 wr w2.heap.size vl (Gq (Ah y) k)/\Hid (Kq y.seq (Ah y) k)/\Below w2.heap.size w2 wr) (fun _ i _=>(Ah y).length - (intOf i).toNat)
   case atStart=>exact ⟨0,Nat.zero_le _,rfl,by simpa [Gq] using Ow.nil Cs 3 w2 w2.heap.size,fun j _ h0=>absurd h0 (by omega),Below.refl _ _⟩
   case round =>
    obtain ⟨k,hk,rfl,om,aW,hb⟩:=hrel
    replace X:=X.below hb
    replace B0:=Aa B0 hb
    obtain ⟨X_0,X_1,X_2,X_3,X_l⟩:=X.g4
    have hsn:=Aae (Ah y) k
    by_cases aA:k<(Ah y).length
    ·have aB:(k:Int)<((Ah y).length:Int):=by omega
     obtain ⟨b,o,_,jY,aH,_,d0,d1,d2,d3⟩:=RdL.entry (I7 (O2.below hb)) aA
     subst jY
     have bJ:b<wr.heap.size:=Nat.lt_of_lt_of_le aH hb.size
     have hE:Hid (∀ wr:World,Below wr.heap.size wr (wr.alloc (.cells #[.int .i64 (Ah y)[k].prio,.int .i64 (Ah y)[k].seq,.int .i64 (Ah y)[k].run,.int .i64 (Ah y)[k].task] 93))):=fun wr=>(Below.refl _ _).alloc (Nat.le_refl _) _
     obtain ⟨A7,c7,rfl,-⟩:=id (Rd.of_own om)
     have w1':IntKind.i64.wrap (y.seq - 1)=y.seq - 1:=IntWalk.i64_in _ (by omega)
     have HB1:=Lib.hid (Aaf (y:=y) aA)
     have HB2:=Lib.hid (Aag (y:=y) aA)
     have HSt:=Lib.hid (T9 (q:=y.seq) aW.out aA)
     have HSq:=Lib.hid (Ro (Ah y) k aA)
     cases q1:inB (Ah y)[k].seq 1 (y.seq - 1)
     ·have H:=Lib.hid (Al (HB1.out q1))
      go_wp2_with (go_at_call 58;refine (Ap _ _ _ _).mono ?_;rintro e w' ⟨rfl,rfl⟩)
      go_ret
      exact ⟨Ac H.out.symm,Aa B0 (hE.out _)⟩
     have q1b:=Bf.1 q1
     generalize hx:(Ah y)[k].seq=x at *
     obtain ⟨n,rfl⟩:=Int.eq_ofNat_of_zero_le (show 0<=x by omega)
     have hn:Hid ((n:Int).toNat=n):=Int.toNat_natCast n
     have HX:=Lib.hid hx
     clear hx
     by_cases q2:n∈Gq (Ah y) k
     ·have H:=Lib.hid (Al (HB2.out (by rw [hn.out];exact q2)))
      have C:=Iy _ (Gq (Ah y) k) n _ _ (by omega) (Rd.of_own (om.below (hE.out wr)))
      rw [decide_eq_true q2] at C
      clear q2
      go_wp2_with (first | (go_at_call 58;refine (Ap _ _ _ _).mono ?_;rintro e w' ⟨rfl,rfl⟩) | (go_at_call 118;refine C.mono ?_;rintro e w' ⟨rfl,rfl⟩))
      go_ret
      exact ⟨Ac H.out.symm,Aa B0 (hE.out _)⟩
     ·have S:=Lib.hid (HSt.out q1 (by rw [hn.out];exact q2))
      have C:=Iy _ (Gq (Ah y) k) n _ _ (by omega) (Rd.of_own (om.below (hE.out wr)))
      rw [decide_eq_false q2] at C
      clear q2
      have ha:Hid (∀ w:World,Below w.heap.size w ((w.alloc (.cells #[.int .i64 (Ah y)[k].prio,.int .i64 (n:Int),.int .i64 (Ah y)[k].run,.int .i64 (Ah y)[k].task] 93)).alloc (.cells #[.int .i64 (n:Int)] 3))):=fun w=>((Below.refl _ _).alloc (Nat.le_refl _) _).alloc (by simp) _
      go_wp2_with (first | (go_at_call 58;refine (Ap _ _ _ _).mono ?_;rintro e w' ⟨rfl,rfl⟩) | (go_at_call 118;refine C.mono ?_;rintro e w' ⟨rfl,rfl⟩) | (at_builtin;refine Ak _ Cs (by decide) rfl (.tmp 65) (.tmp 68) rfl Tryz.underlying26 bX jz0 jz1 jz2 rfl (l:=Gq (Ah y) k) rfl (om.below (ha.out wr)) rfl (Rd.one Cs _ _ n (by simp) rfl 1 (Nat.le_refl _) (Nat.lt_succ_self _)) (by omega) (by simp) (by decide) (by have:=hb.size;simp;omega) ?_;intro v5 w5 o5 g5 _))
      have bG:=Aa hb (ha.out wr)
      have W5:=bG.grown g5 bG.size (fun g hg=>by have:=om.within _ hg;omega)
      have o6:Ow Cs 3 w5 w2.heap.size v5 (Gq (Ah y) (k+1)):=by rw [HSq.out,hn.out];exact o5
      first
       | exact ⟨⟨k+1,by omega,by go_num,o6,S,W5⟩,by simp [intOf];omega⟩
       | (refine ⟨?_,by simp [intOf];omega⟩;(repeat apply Exists.intro);first | exact ⟨⟨k+1,by omega,by go_num,o6,S,W5⟩,rfl⟩ | exact ⟨⟨k+1,by omega,by go_num,o6,S,W5⟩,rfl,rfl⟩ | exact ⟨⟨k+1,by omega,by go_num,o6,S,W5⟩,rfl,rfl,rfl⟩ | exact ⟨⟨k+1,by omega,by go_num,o6,S,W5⟩,rfl,rfl,rfl,rfl⟩ | exact ⟨⟨k+1,by omega,by go_num,o6,S,W5⟩,rfl,rfl,rfl,rfl,rfl⟩ | exact ⟨⟨k+1,by omega,by go_num,o6,S,W5⟩,rfl,rfl,rfl,rfl,rfl,rfl⟩ | exact ⟨⟨k+1,by omega,by go_num,o6,S,W5⟩,rfl,rfl,rfl,rfl,rfl,rfl,rfl⟩)
    ·have aB:¬ (k:Int)<((Ah y).length:Int):=by omega
     have HO:Hid (Kq y.seq (Ah y) (Ah y).length):=fun j hj hj2=>aW.out j hj (by omega)
     go_wp2
     replace O2:=O2.below hb
     clear X_0 X_1 X_2 X_3 X_l aW aA aB om hsn
     have hsb:=hb.size
     clear hb
     obtain ⟨w6,hw6⟩:∃ w6,w6=wr:=⟨_,rfl⟩
     rw [<-hw6] at X B0 O2 hsb ⊢
     clear hw6
     go_loopw [74] (fun i wr=>∃ k:Nat,k<=y.runs.length/\i = .int .i64 k/\Hid (Ij y k)/\Below w6.heap.size w6 wr) (fun i _=>y.runs.length - (intOf i).toNat)
     case atStart=>exact ⟨0,Nat.zero_le _,rfl,fun j _ h0=>absurd h0 (by omega),Below.refl _ _⟩
     case round =>
      obtain ⟨k,hk,rfl,aW,hb⟩:=hrel
      replace X:=X.below hb
      replace B0:=Aa B0 hb
      by_cases aA:k<y.runs.length
      ·have aB:(k:Int)<(y.runs.length:Int):=by omega
       obtain ⟨b,o,⟨⟨A8,n8,c8⟩,⟨At,nt,ct⟩⟩,dW,aH,cB,e0,e1,e2,e3,e4,e5,e6,e7⟩:=(h2.below B0).run aA
       subst dW
       have bJ:b<wr.heap.size:=Nat.lt_of_lt_of_le aH B0.size
       have HRr:=Lib.hid (show ∀ W,Below wr.heap.size wr W->Am.rd W W.heap.size y.runs[k] (⟨A8,n8,c8⟩,⟨At,nt,ct⟩) from fun W hW=>Am.rd_more (Am.rd_below (Am.rd_more cB B0.size) hW) hW.size)
       have mF:=HC.out k aA
       have ha:Below wr.heap.size wr (wr.alloc (.cells #[.int .i64 y.runs[k].id,.int .i64 y.runs[k].plan.prio,.int .i64 y.runs[k].plan.most,.int .i64 y.runs[k].plan.wait,.int .i64 y.runs[k].plan.tasks,.slice A8 n8 c8,.int .i64 y.runs[k].state,.slice At nt ct] 89)):=(Below.refl _ _).alloc (Nat.le_refl _) _
       have R:=DBox.new 89 [.int .i64 y.runs[k].id,.int .i64 y.runs[k].plan.prio,.int .i64 y.runs[k].plan.most,.int .i64 y.runs[k].plan.wait,.int .i64 y.runs[k].plan.tasks,.slice A8 n8 c8,.int .i64 y.runs[k].state,.slice At nt ct] wr rfl
       have C1:=Mo y.runs[k] (⟨A8,n8,c8⟩,⟨At,nt,ct⟩) _ mF (HRr.out _ ha)
       have HSt:=Lib.hid (Aah aW.out aA)
       by_cases q1:Er y.runs[k]
       case neg =>
        have H:=Lib.hid (Al (show ¬ Bq y from fun h=>q1 (h.2.2.2.2.2.2.2.1 k aA).1))
        rw [Al q1] at C1
        clear q1
        go_wp2_with fail
        refine C1.mono ?_
        rintro e w7 ⟨rfl,b7⟩
        go_wp2
        go_ret
        exact ⟨Ac H.out.symm,Aa B0 (Aa ha b7)⟩
       rw [Bs q1] at C1
       have HQ1:=Lib.hid q1
       have hwt:=Zn q1.2.1
       have eI:y.runs[k].tasks.length<=2000000:=Nat.le_trans (Ar Fc _) (by unfold Bg at mF;omega)
       clear q1
       go_wp2_with fail
       refine C1.mono ?_
       rintro e w7 ⟨rfl,b7⟩
       replace R:=R.below b7
       have ha7:=Aa ha b7
       replace X:=X.below ha7
       obtain ⟨X_0,X_1,X_2,X_3,X_l⟩:=X.g4
       obtain ⟨R_0,R_1,R_2,R_3,R_4,R_5,R_6,R_7,R_l⟩:=R.g8
       have C2:=C6 y (⟨A1,y.shelf.length,c1⟩,⟨some ⟨b,o,none⟩,y.runs.length,c2⟩) y.runs[k].id w7 hl (HR.out _ (Aa B0 ha7))
       by_cases q2:Bo y y.runs[k].id=k
       case neg =>
        have H:=Lib.hid (Al (show ¬ Bq y from fun h=>q2 (h.2.2.2.2.2.2.2.1 k aA).2))
        have q2':(Bo y y.runs[k].id != (k:Int))=true:=by simp [q2]
        clear q2
        go_wp2_with fail
        refine C2.mono ?_
        rintro e w8 ⟨rfl,b8⟩
        go_wp2
        go_ret
        exact ⟨Ac H.out.symm,Aa B0 (Aa ha7 b8)⟩
       rw [q2] at C2
       have HQ2:=Lib.hid q2
       clear q2
       have q2':((k:Int) != (k:Int))=false:=by simp
       go_wp2_with fail
       refine C2.mono ?_
       rintro e w8 ⟨rfl,b8⟩
       have kX:=Aa ha7 b8
       replace X:=X.below b8
       clear X_0 X_1 X_2 X_3 X_l
       obtain ⟨X_0,X_1,X_2,X_3,X_l⟩:=X.g4
       replace R:=R.below b8
       clear R_0 R_1 R_2 R_3 R_4 R_5 R_6 R_7 R_l
       obtain ⟨R_0,R_1,R_2,R_3,R_4,R_5,R_6,R_7,R_l⟩:=R.g8
       have C3:=Te y (⟨A1,y.shelf.length,c1⟩,⟨some ⟨b,o,none⟩,y.runs.length,c2⟩) y.runs[k] (⟨A8,n8,c8⟩,⟨At,nt,ct⟩) (Ah y) ⟨A3,(Ah y).length,c3⟩ w8 eI pN sY hwt (HRr.out _ kX) ((O2.below ((Aa hb kX).mono hsb)).more (Nat.le_trans hsb (Aa hb kX).size))
       by_cases q3:Ie y.now y.runs[k] (Ah y)
       case neg =>
        have H:=Lib.hid (Al (show ¬ Bq y from fun h=>q3 (h.2.2.2.2.2.2.2.2.1 _ (List.getElem_mem aA))))
        rw [Al q3] at C3
        clear q3
        go_wp2_with fail
        refine C3.mono ?_
        rintro e w9 ⟨rfl,b9⟩
        go_wp2
        go_ret
        exact ⟨Ac H.out.symm,Aa B0 (Aa kX b9)⟩
       have S:=Lib.hid (HSt.out HQ1.out HQ2.out q3)
       rw [Bs q3] at C3
       clear q3
       go_wp2_with fail
       refine C3.mono ?_
       rintro e w9 ⟨rfl,b9⟩
       go_wp2
       first
        | exact ⟨⟨k+1,by omega,by go_num,S,Aa hb (Aa kX b9)⟩,by simp [intOf];omega⟩
        | (refine ⟨?_,by simp [intOf];omega⟩;(repeat apply Exists.intro);first | exact ⟨⟨k+1,by omega,by go_num,S,Aa hb (Aa kX b9)⟩,rfl⟩ | exact ⟨⟨k+1,by omega,by go_num,S,Aa hb (Aa kX b9)⟩,rfl,rfl⟩ | exact ⟨⟨k+1,by omega,by go_num,S,Aa hb (Aa kX b9)⟩,rfl,rfl,rfl⟩ | exact ⟨⟨k+1,by omega,by go_num,S,Aa hb (Aa kX b9)⟩,rfl,rfl,rfl,rfl⟩ | exact ⟨⟨k+1,by omega,by go_num,S,Aa hb (Aa kX b9)⟩,rfl,rfl,rfl,rfl,rfl⟩ | exact ⟨⟨k+1,by omega,by go_num,S,Aa hb (Aa kX b9)⟩,rfl,rfl,rfl,rfl,rfl,rfl⟩ | exact ⟨⟨k+1,by omega,by go_num,S,Aa hb (Aa kX b9)⟩,rfl,rfl,rfl,rfl,rfl,rfl,rfl⟩)
      ·have aB:¬ (k:Int)<(y.runs.length:Int):=by omega
       have HRt:Hid (Ij y y.runs.length):=fun j hj _=>aW.out j hj (by omega)
       have HF:=Lib.hid (Zo A1_.out A2_.out A3_.out HS.out HO.out a4 HRt.out)
       have C:=Mp y (⟨A1,y.shelf.length,c1⟩,⟨A2,y.runs.length,c2⟩) wr hl (HR.out _ B0)
       obtain ⟨X_0,X_1,X_2,X_3,X_l⟩:=X.g4
       go_wp2_with fail
       refine C.mono ?_
       rintro e w7 ⟨rfl,b7⟩
       have HT:=Lib.hid (show tf (Bq y)=decide ((D9 y:Int)<=40) by
        rw [Bool.eq_iff_iff,J0,HF.out,decide_eq_true_eq]
        omega)
       generalize D9 y=N at *
       by_cases q:N<=40
       ·have H:=Lib.hid (show tf (Bq y)=true by rw [HT.out];exact decide_eq_true (by omega))
        go_wp2
        go_ret
        exact ⟨Ac (by rw [H.out];exact decide_eq_true (by omega)),Aa B0 b7⟩
       ·have H:=Lib.hid (show tf (Bq y)=false by rw [HT.out];exact decide_eq_false (by omega))
        go_wp2
        go_ret
        exact ⟨Ac (by rw [H.out];exact decide_eq_false (by omega)),Aa B0 b7⟩
def Ew (l:List Task) (t:Nat) (f:Task->Task):List Task:=l.set t (f (l.getD t ⟨0,0,0,0⟩))
theorem Lo (l:List Task) (t:Nat) (f:Task->Task):(Ew l t f).length=l.length:=by unfold Ew;rw [List.length_set]
def Ck (p:Plan) (t:Nat):Task :=
 let n:=(Cf (Ca p) p.tasks.toNat t).length
 ⟨if n=0 then 2 else 1,n,0,0⟩
def An (id:Int) (p:Plan):Run:=⟨id,p,1,(List.range p.tasks.toNat).map (Ck p)⟩
theorem M5 (id:Int) (p:Plan):(An id p).tasks.length=p.tasks.toNat:=by unfold An;simp
def Bu (x:Task):Task:=⟨if x.need - 1=0 then 2 else x.state,x.need - 1,x.try_,x.until_⟩
def Gr (r:Run) (t:Nat):List Task:=(Dp (Ca r.plan) r.plan.tasks.toNat t).foldl (fun l b=>Ew l b Bu) (Ew r.tasks t fun x=>⟨4,x.need,x.try_,0⟩)
def G9 (r:Run) (t:Nat):Run:=⟨r.id,r.plan,stL (Gr r t),Gr r t⟩
def Bt (x:Task):Task:=if x.state≠4/\x.state≠5 then ⟨6,x.need,x.try_,0⟩ else x
def Bz (r:Run) (st:Int):Run:=⟨r.id,r.plan,st,r.tasks.map Bt⟩
def Br (r:Run) (t:Nat):Run :=
 if (Ax r t).try_<r.plan.most then ⟨r.id,r.plan,r.state,Ew r.tasks t fun x=>⟨2,x.need,x.try_,0⟩⟩
 else Bz ⟨r.id,r.plan,r.state,Ew r.tasks t fun x=>⟨5,x.need,x.try_,0⟩⟩ 3
def Cd (r:Run) (t:Nat) (now:Int):Run:=⟨r.id,r.plan,r.state,Ew r.tasks t fun x=>⟨3,x.need,x.try_+1,now+r.plan.wait⟩⟩
def Jm (y:Yard) (r:Run) (t:Nat):Yard:=⟨y.now,y.seq+1,y.shelf.set (Bd r.id) (G4 (y.shelf.getD (Bd r.id) []) ⟨r.plan.prio,y.seq,r.id,t⟩),y.runs⟩
def K8 (was r:Run) (n:Nat):List Nat:=(List.range n).filter fun t=>(Ax r t).state == 2 && !((Ax was t).state == 2)
def Kr (y:Yard) (was r:Run):Yard:=(K8 was r r.tasks.length).foldl (fun y t=>Jm y r t) y
def Eh:Run:=⟨0,⟨0,0,0,0,[]⟩,0,[]⟩
def Dq (y:Yard) (k:Nat) (r:Run):Yard:=Kr ⟨y.now,y.seq,y.shelf,y.runs.set k r⟩ (y.runs.getD k Eh) r
theorem Rp (was r:Run) (n:Nat):K8 was r (n+1)=K8 was r n ++ (if (Ax r n).state=2 /\ ¬ (Ax was n).state=2 then [n] else []):=by
 unfold K8
 rw [List.range_succ,List.filter_append]
 congr 1
 by_cases h1:(Ax r n).state=2<;>by_cases h2:(Ax was n).state=2<;>simp [h1,h2]
theorem Yx (y:Yard) (r:Run) (t:Nat):(Jm y r t).shelf.length=y.shelf.length:=by unfold Jm;simp
theorem Nn (r:Run):∀ (l:List Nat) (y:Yard),(l.foldl (fun y t=>Jm y r t) y).now=y.now/\(l.foldl (fun y t=>Jm y r t) y).runs=y.runs/\(l.foldl (fun y t=>Jm y r t) y).shelf.length=y.shelf.length/\(l.foldl (fun y t=>Jm y r t) y).seq=y.seq+l.length
 | [],y=>⟨rfl,rfl,rfl,by simp⟩
 | t :: l,y=>by
  obtain ⟨h1,h2,h3,h4⟩:=Nn r l (Jm y r t)
  refine ⟨by rw [List.foldl_cons,h1];rfl,by rw [List.foldl_cons,h2];rfl,by rw [List.foldl_cons,h3,Yx],?_⟩
  rw [List.foldl_cons,h4,List.length_cons,show (Jm y r t).seq=y.seq+1 from rfl]
  push_cast
  omega
noncomputable def Ae (y:Yard) (i:Nat):Yard:=⟨y.now,y.seq,y.shelf.set i ((y.shelf.getD i []).filter fun e=>Cy y e),y.runs⟩
def Cp (home draw:Int):List Nat :=
 let d:=(max draw 0 % 3).toNat
 (List.range 3).map fun i=>((home.toNat+1+(d+i) % 3) % 4)
noncomputable def Cr (home:Nat) (y:Yard) (v:Nat):Yard :=
 if (y.shelf.getD home []).length=0 then
  let z:=Ae y v
  let l:=z.shelf.getD v []
  ⟨z.now,z.seq,(z.shelf.set v (l.drop (Bh l))).set home (Eb ((z.shelf.set v (l.drop (Bh l))).getD home []) (l.take (Bh l))),z.runs⟩
 else y
end Go.Proofs.YtonlnjdempbfoaaGreat
