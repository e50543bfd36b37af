/-
  The order in which tasks come: plain facts. Data of the type Memo: how it lies in memory, and the walks of the laws' helpers on it. Written by program (deep.py). Data of the type Disk: how it lies in memory, and the walks of the laws' helpers on it. Written by program (deep.py). Data of the type Wait: how it lies in memory, and the walks of the laws' helpers on it. Written by program (deep.py). Data of the type Run: how it lies in memory, and the walks of the laws' helpers on it. Written by program (deep.py). Data of the type Deed: how it lies in memory, and the walks of the laws' helpers on i
-/
import Derived.Test.YtjobmbjadpldfaaGreatZHeard2
import Derived.Sort.OwnSortedInts
section
namespace Go.Proofs.YtjobmbjadpldfaaGreat
open Go.RowKit

/-- t may come next behind those of out -/
def mayCome (es : List (Nat × Nat)) (out : List Nat) (t : Nat) : Bool := !decide (t ∈ out) && es.all fun e => !decide (e.2 = t) || decide (e.1 ∈ out)
def pickT (es : List (Nat × Nat)) (T : Nat) (out : List Nat) : Option Nat := (List.range T).find? (mayCome es out)
/-- the first n tasks of the order -/
def orderL (es : List (Nat × Nat)) (T : Nat) : Nat → List Nat
  | 0 => []
  | n + 1 => match pickT es T (orderL es T n) with
    | some t => orderL es T n ++ [t]
    | none => orderL es T n

theorem mayCome_iff {es : List (Nat × Nat)} {out : List Nat} {t : Nat} : mayCome es out t = true ↔ t ∉ out ∧ ∀ s, (s, t) ∈ es → s ∈ out := by
  unfold mayCome
  simp only [Bool.and_eq_true, Bool.not_eq_true', decide_eq_false_iff_not, List.all_eq_true, Bool.or_eq_true, decide_eq_true_eq, Prod.forall]
  constructor
  · rintro ⟨h1, h2⟩
    refine ⟨h1, fun s hs => ?_⟩
    rcases h2 s t hs with h | h
    · exact absurd rfl h
    · exact h
  · rintro ⟨h1, h2⟩
    refine ⟨h1, fun a b hab => ?_⟩
    by_cases hb : b = t
    · subst hb; exact .inr (h2 a hab)
    · exact .inl hb

theorem Way.lower {es : List (Nat × Nat)} {b : Nat} {U : Nat → Prop} (hU : ∀ u, U u → ∃ v, U v ∧ (v, u) ∈ es) (hb : U b) : ∀ n, ∃ a l, U a ∧ l.length = n ∧ Pg.Way es a l b ∧ ∀ x ∈ a :: l, U x
  | 0 => ⟨b, [], hb, rfl, .nil b, by simpa using hb⟩
  | n + 1 => by
    obtain ⟨a, l, ha, hl, hw, hx⟩ := Way.lower hU hb n
    obtain ⟨v, hv, he⟩ := hU a ha
    refine ⟨v, a :: l, hv, by simp [hl], .cons he hw, ?_⟩
    intro x hx'
    rcases List.mem_cons.1 hx' with rfl | h
    · exact hv
    · exact hx x h

theorem Way.head {es : List (Nat × Nat)} : ∀ {a x b : Nat} (l1 : List Nat) {l2 : List Nat}, Pg.Way es a (l1 ++ x :: l2) b → Pg.Way es a (l1 ++ [x]) x
  | _, _, _, [], _, h => by cases h with | cons h1 _ => exact .cons h1 (.nil _)
  | _, _, _, _ :: l1, _, h => by cases h with | cons h1 h2 => exact .cons h1 (Way.head l1 h2)

theorem Way.turn {es : List (Nat × Nat)} {b : Nat} : ∀ (l : List Nat) {a : Nat}, Pg.Way es a l b → ¬ (a :: l).Nodup → ∃ x ∈ a :: l, Pg.Reach es x x
  | [], a, _, h => absurd (by simp) h
  | c :: l, a, hw, hn => by
    by_cases ha : a ∈ c :: l
    · obtain ⟨l1, l2, he⟩ := List.append_of_mem ha
      rw [he] at hw
      exact ⟨a, by simp, l1 ++ [a], by simp, Way.head l1 hw⟩
    · have hn2 : ¬ (c :: l).Nodup := fun h => hn (List.nodup_cons.2 ⟨ha, h⟩)
      cases hw with
      | cons h1 h2 =>
        obtain ⟨x, hx, hr⟩ := Way.turn l h2 hn2
        exact ⟨x, List.mem_cons_of_mem _ hx, hr⟩

theorem pick_some {es : List (Nat × Nat)} {T : Nat} {out : List Nat} (h1 : ∀ e ∈ es, e.1 < T) (hac : ∀ t, t < T → ¬ Pg.Reach es t t) (hlt : ∃ t, t < T ∧ t ∉ out) : ∃ t, pickT es T out = some t ∧ t < T ∧ mayCome es out t = true := by
  cases hp : pickT es T out with
  | some t =>
    have hm := List.find?_some hp
    have hr := List.mem_of_find?_eq_some hp
    exact ⟨t, rfl, by simpa using hr, hm⟩
  | none =>
    exfalso
    unfold pickT at hp
    rw [List.find?_eq_none] at hp
    obtain ⟨t, htT, hto⟩ := hlt
    have hU : ∀ u, (u < T ∧ u ∉ out) → ∃ v, (v < T ∧ v ∉ out) ∧ (v, u) ∈ es := by
      rintro u ⟨hu, huo⟩
      have hno := hp u (by simpa using hu)
      rw [mayCome_iff] at hno
      have : ¬ ∀ s, (s, u) ∈ es → s ∈ out := fun h => hno ⟨huo, h⟩
      obtain ⟨s, hs'⟩ := Classical.not_forall.1 this
      obtain ⟨hs, hso⟩ := Classical.not_imp.1 hs'
      exact ⟨s, ⟨h1 _ hs, hso⟩, hs⟩
    obtain ⟨a, l, _, hl, hw, hx⟩ := Way.lower (U := fun u => u < T ∧ u ∉ out) hU ⟨htT, hto⟩ T
    have hnn : ¬ (a :: l).Nodup := fun hn => by
      have := Pg.nodup_le T (a :: l) hn (fun x hx' => (hx x hx').1)
      simp only [List.length_cons] at this
      omega
    obtain ⟨x, hx', hr⟩ := Way.turn l hw hnn
    exact hac x (hx x hx').1 hr

/-- what holds of the first tasks of the order -/
structure OrderInv (es : List (Nat × Nat)) (T n : Nat) (o : List Nat) : Prop where
  len : o.length = n
  nodup : o.Nodup
  lt : ∀ x ∈ o, x < T
  closed : ∀ i (h : i < o.length) s, (s, o[i]) ∈ es → s ∈ o.take i

theorem all_le : ∀ (T : Nat) (o : List Nat), (∀ t, t < T → t ∈ o) → T ≤ o.length
  | 0, _, _ => Nat.zero_le _
  | T + 1, o, h => by
    have h1 := all_le T (o.erase T) (fun t ht => (List.mem_erase_of_ne (by omega)).2 (h t (by omega)))
    have h2 := h T (by omega)
    have h3 := List.length_pos_of_mem h2
    rw [List.length_erase_of_mem h2] at h1
    omega
theorem exists_out {T : Nat} {o : List Nat} (hl : o.length < T) : ∃ t, t < T ∧ t ∉ o := by
  refine Classical.byContradiction fun h => ?_
  have := all_le T o (fun t ht => Classical.byContradiction fun hn => h ⟨t, ht, hn⟩)
  omega

theorem orderL_inv {es : List (Nat × Nat)} {T : Nat} (h1 : ∀ e ∈ es, e.1 < T) (hac : ∀ t, t < T → ¬ Pg.Reach es t t) : ∀ n, n ≤ T → OrderInv es T n (orderL es T n)
  | 0, _ => ⟨rfl, by simp [orderL], by simp [orderL], fun i h => absurd h (by simp [orderL])⟩
  | n + 1, hn => by
    have ih := orderL_inv h1 hac n (by omega)
    obtain ⟨t, hp, htT, hm⟩ := pick_some h1 hac (exists_out (T := T) (o := orderL es T n) (by rw [ih.len]; omega))
    obtain ⟨m1, m2⟩ := mayCome_iff.1 hm
    have he : orderL es T (n + 1) = orderL es T n ++ [t] := by
      show (match pickT es T (orderL es T n) with | some t => orderL es T n ++ [t] | none => orderL es T n) = _
      rw [hp]
    rw [he]
    refine ⟨by simp [ih.len], nodup_snoc.2 ⟨ih.nodup, m1⟩, ?_, ?_⟩
    · intro x hx
      rcases List.mem_append.1 hx with h | h
      · exact ih.lt x h
      · rw [List.mem_singleton.1 h]; exact htT
    · intro i hi s hs
      simp only [List.length_append, List.length_singleton] at hi
      by_cases hin : i < (orderL es T n).length
      · rw [List.getElem_append_left hin] at hs
        rw [List.take_append_of_le_length (by omega)]
        exact ih.closed i hin s hs
      · have hi' : i = (orderL es T n).length := by omega
        subst hi'
        rw [List.getElem_append_right (by omega)] at hs
        simp only [Nat.sub_self, List.getElem_cons_zero] at hs
        rw [List.take_append_of_le_length (Nat.le_refl _), List.take_length]
        exact m2 s hs

theorem orderL_succ {es : List (Nat × Nat)} {T n t : Nat} (hp : pickT es T (orderL es T n) = some t) : orderL es T (n + 1) = orderL es T n ++ [t] := by
  show (match pickT es T (orderL es T n) with | some t => orderL es T n ++ [t] | none => orderL es T n) = _
  rw [hp]
theorem pickT_first {es : List (Nat × Nat)} {T t : Nat} {out : List Nat} (htT : t < T) (hm : mayCome es out t = true) (hno : ∀ s, s < t → mayCome es out s = false) : pickT es T out = some t := by
  unfold pickT
  rw [List.find?_eq_some_iff_getElem]
  refine ⟨hm, t, by simpa using htT, by simp, fun j hj => ?_⟩
  simp [hno j hj]
end Go.Proofs.YtjobmbjadpldfaaGreat
end
section
namespace Go.Proofs.YtjobmbjadpldfaaGreat
open Go.RowKit
set_option maxRecDepth 100000
set_option maxHeartbeats 1000000
set_option linter.unusedVariables false
set_option linter.unusedSimpArgs false

structure Memo where
  id : Int
  reply : Reply
deriving DecidableEq, Inhabited

@[go_sem] abbrev memoW (x : Memo) (_s : Unit) : Value := .agg #[.int .i64 x.id, .int .i64 x.reply.code, .int .i64 x.reply.run, .int .i64 x.reply.task, .int .i64 x.reply.try_]
abbrev memoD : Dt Memo := Dt.flat (fun q => [.int .i64 q.1.id, .int .i64 q.1.reply.code, .int .i64 q.1.reply.run, .int .i64 q.1.reply.task, .int .i64 q.1.reply.try_]) 5 (fun _ => rfl) (fun q u hu => by simp at hu; rcases hu with rfl | rfl | rfl | rfl | rfl <;> rfl)
/-- all lengths in it together -/
def cntMemo (_ : Memo) : Nat := 0
/-- ints are int64, lengths are what a machine holds -/
def wfMemo (x : Memo) : Prop := Wf x.id ∧ wfReply x.reply
def numMemo (_ : Memo) : Nat := 5
/-- with the marks from k on -/
def mkMemo (k : Int) (_ : Memo) : Memo := ⟨k, ⟨k + 1, k + 1 + 1, k + 1 + 1 + 1, k + 1 + 1 + 1 + 1⟩⟩
theorem numMemo_le (x : Memo) : numMemo x ≤ 13 * (cntMemo x + 1) := by
  unfold numMemo cntMemo
  omega

theorem toMemo_own (x : Memo) (s : Unit) (w : World) (hl : cntMemo x ≤ 2000000) (h : memoD.rd w w.heap.size x s) :
    Calls Tryz.prog 55 #[memoW x s] w (OwnPost memoD memoW x w) := by
  have hbx : ∀ W, Below w.heap.size w W → memoD.rd W W.heap.size x s := fun W hW => memoD.rd_more (memoD.rd_below h hW) hW.size
  go_enter Tryz.func55, Tryz.ntmps55
  go_wp2_with fail
  refine (toReply_own x.reply () _ (by simp [cntReply]) (trivial)).mono ?_
  rintro e w0 ⟨s0, F0, rfl, o0, n0, hb0⟩
  obtain ⟨q0, p0⟩ := bcell hb0
  have z0 := hb0.size
  simp only [World.size_alloc, World.size_setCell] at z0 n0
  have B0 : Below w.heap.size w w0 := bnext (by repeat (first | exact Below.refl _ _ | refine Below.alloc ?_ (by simp <;> omega) _)) hb0
  go_wp2
  refine bodyPost_ret (v := memoW x ()) ?_ rfl ?_
  · simp [memoW, results, Tryz.results55, go_sem, q0]
  · exact ⟨(), [], rfl, rfl, (fun _ h => by cases h), by repeat (first | (with_reducible exact B0) | (with_reducible exact Below.refl _ _) | refine Below.setCell ?_ (by simp <;> omega) _ | refine Below.alloc ?_ (by simp <;> omega) _)⟩

theorem eqMemo_own (x y : Memo) (s r : Unit) (w : World) (hl : cntMemo x ≤ 2000000) (hl' : cntMemo y ≤ 2000000) (h : memoD.rd w w.heap.size x s) (h' : memoD.rd w w.heap.size y r) :
    Calls Tryz.prog 63 #[memoW x s, memoW y r] w fun e w' => e = .returned (.bool (decide (x = y))) ∧ Below w.heap.size w w' := by
  have hbx : ∀ W, Below w.heap.size w W → memoD.rd W W.heap.size x s := fun W hW => memoD.rd_more (memoD.rd_below h hW) hW.size
  have hby : ∀ W, Below w.heap.size w W → memoD.rd W W.heap.size y r := fun W hW => memoD.rd_more (memoD.rd_below h' hW) hW.size
  by_cases h0 : x.id = y.id
  case neg =>
    have t0 : (x.id != y.id) = true := by rw [bne_iff_ne]; exact h0
    have H := Lib.hid (show decide (x = y) = false by simp only [decide_eq_false_iff_not]; intro e; exact h0 (by rw [e]))
    clear h0
    go_enter Tryz.func63, Tryz.ntmps63
    go_wp2
    go_ret
    exact ⟨ret_bool (by first | exact H.out.symm | rfl), by repeat (first | exact Below.refl _ _ | refine Below.alloc ?_ (by simp <;> omega) _)⟩
  have t0 : (x.id != y.id) = false := by simp [h0]
  have H0 := Lib.hid h0
  clear h0
  go_enter Tryz.func63, Tryz.ntmps63
  go_wp2_with fail
  refine (eqReply_own x.reply y.reply () () _ (by simp [cntReply]) (by simp [cntReply]) trivial trivial).mono ?_
  rintro e w1 ⟨rfl, hb1⟩
  have B1 : Below w.heap.size w w1 := bnext (by repeat (first | exact Below.refl _ _ | refine Below.alloc ?_ (by simp <;> omega) _)) hb1
  obtain ⟨q1, p1⟩ := bcell hb1
  by_cases h1 : x.reply = y.reply
  case neg =>
    have H := Lib.hid (show decide (x = y) = false by simp only [decide_eq_false_iff_not]; intro e; exact h1 (by rw [e]))
    rw [decide_eq_false h1]
    clear h1
    go_wp2
    go_ret
    exact ⟨ret_bool (by first | exact H.out.symm | rfl), by exact B1⟩
  rw [decide_eq_true h1]
  have H1 := Lib.hid h1
  clear h1
  have H := Lib.hid (show decide (x = y) = true by
    simp only [decide_eq_true_eq]
    have hh := And.intro H0.out H1.out
    obtain ⟨e0, e1⟩ := hh
    cases x
    cases y
    simp only at e0 e1
    subst e0 e1
    rfl)
  go_wp2
  go_ret
  exact ⟨ret_bool (by first | exact H.out.symm | rfl), by exact B1⟩

theorem RdL.memo {w : World} {B : Nat} {A : Option Addr} {n c : Nat} {l : List (Memo)} (h : RdL memoD w B (.slice A n c) l) {k : Nat} (hk : k < l.length) :
    ∃ b o, ∃ _s : Unit, A = some ⟨b, o, none⟩ ∧ b < B ∧ memoD.rd w B l[k] _s ∧ w.cell? ⟨b, o + k * 5, none⟩ = some (.int .i64 l[k].id) ∧ w.cell? ⟨b, o + k * 5 + 1, none⟩ = some (.int .i64 l[k].reply.code) ∧ w.cell? ⟨b, o + k * 5 + 2, none⟩ = some (.int .i64 l[k].reply.run) ∧ w.cell? ⟨b, o + k * 5 + 3, none⟩ = some (.int .i64 l[k].reply.task) ∧ w.cell? ⟨b, o + k * 5 + 4, none⟩ = some (.int .i64 l[k].reply.try_) := by
  obtain ⟨b, o, s, rfl, hb, hc, hr⟩ := h.at_ k hk
  exact ⟨b, o, s, rfl, hb, hr, hc 0 _ rfl, hc 1 _ rfl, hc 2 _ rfl, hc 3 _ rfl, hc 4 _ rfl⟩
theorem Ow.c_memo {E : TypeId} {w : World} {base g n cap : Nat} {l : List ((Memo) × Unit)} (h : Ow memoD.enc E w base (.slice (some ⟨g, 0, none⟩) n cap) l) {k : Nat} (hk : k < l.length) :
    w.cell? ⟨g, k * 5, none⟩ = some (.int .i64 l[k].1.id) ∧ w.cell? ⟨g, k * 5 + 1, none⟩ = some (.int .i64 l[k].1.reply.code) ∧ w.cell? ⟨g, k * 5 + 2, none⟩ = some (.int .i64 l[k].1.reply.run) ∧ w.cell? ⟨g, k * 5 + 3, none⟩ = some (.int .i64 l[k].1.reply.task) ∧ w.cell? ⟨g, k * 5 + 4, none⟩ = some (.int .i64 l[k].1.reply.try_) := by
  rcases h.form with ⟨h1, _⟩ | ⟨g', cap', hv, _, _, _, _, _, hc⟩
  · simp at h1
  · simp only [Value.slice.injEq, Option.some.injEq, Addr.mk.injEq, and_true] at hv
    obtain ⟨rfl, _, _⟩ := hv
    exact ⟨hc k hk 0 _ rfl, hc k hk 1 _ rfl, hc k hk 2 _ rfl, hc k hk 3 _ rfl, hc k hk 4 _ rfl⟩
theorem Foc.memo {w : World} {b o n c j : Nat} {rs : List ((Memo) × Unit)} {G1 Fx G2 : List Nat} {x : Memo} {s : Unit} (h : Foc memoD w b o n c rs j G1 Fx G2 x s) :
    w.cell? ⟨b, o + j * 5, none⟩ = some (.int .i64 x.id) ∧ w.cell? ⟨b, o + j * 5 + 1, none⟩ = some (.int .i64 x.reply.code) ∧ w.cell? ⟨b, o + j * 5 + 2, none⟩ = some (.int .i64 x.reply.run) ∧ w.cell? ⟨b, o + j * 5 + 3, none⟩ = some (.int .i64 x.reply.task) ∧ w.cell? ⟨b, o + j * 5 + 4, none⟩ = some (.int .i64 x.reply.try_) := ⟨h.cells 0 _ rfl, h.cells 1 _ rfl, h.cells 2 _ rfl, h.cells 3 _ rfl, h.cells 4 _ rfl⟩

theorem szMemoS_own (l : List (Memo)) (s : Sl) (left : Int) (w : World) (h0 : 0 ≤ left) (h1 : left ≤ 2000000) (hw : wfL wfMemo l) (h : RdL memoD w w.heap.size s.v l) :
    Calls Tryz.prog 24 #[.slice s.a s.n s.c, .int .i64 left] w (SzPost left (cntL cntMemo l) w) := by
  obtain ⟨A, n, c⟩ := s
  obtain ⟨A', c', hv, -⟩ := h.form
  simp only [Sl.v, Value.slice.injEq] at hv
  obtain ⟨rfl, rfl, rfl⟩ := hv
  have hll := hw.1
  by_cases hlt : left < l.length
  · go_enter Tryz.func24, Tryz.ntmps24
    go_wp2
    go_ret
    exact ⟨-1, rfl, .inl rfl, Below.refl _ _⟩
  go_enter Tryz.func24, Tryz.ntmps24
  go_wp2
  go_ret
  exact ⟨_, rfl, .inr ⟨by omega, by rw [cntL_zero (cnt := cntMemo) (fun _ => rfl) l]; omega⟩, Below.refl _ _⟩

theorem eqMemoS_own (l l' : List (Memo)) (s s' : Sl) (w : World) (hl : cntL cntMemo l ≤ 2000000) (hl' : cntL cntMemo l' ≤ 2000000) (h : RdL memoD w w.heap.size s.v l) (h' : RdL memoD w w.heap.size s'.v l') :
    Calls Tryz.prog 30 #[.slice s.a s.n s.c, .slice s'.a s'.n s'.c] w fun e w' => e = .returned (.bool (decide (l = l'))) ∧ Below w.heap.size w w' := by
  obtain ⟨A, n, c⟩ := s
  obtain ⟨A0, c0, hv, -⟩ := h.form
  simp only [Sl.v, Value.slice.injEq] at hv
  obtain ⟨rfl, rfl, rfl⟩ := hv
  obtain ⟨A', n', c'⟩ := s'
  obtain ⟨A0, c0, hv, -⟩ := h'.form
  simp only [Sl.v, Value.slice.injEq] at hv
  obtain ⟨rfl, rfl, rfl⟩ := hv
  have hll : l.length ≤ 2000000 := Nat.le_trans (cntL_len _ _) hl
  have hll' : l'.length ≤ 2000000 := Nat.le_trans (cntL_len _ _) hl'
  have hcc : ∀ k (hk : k < l.length), cntMemo l[k] ≤ 2000000 := fun k hk => by have := cntL_mem (cnt := cntMemo) (List.getElem_mem hk); omega
  have hcc' : ∀ k (hk : k < l'.length), cntMemo l'[k] ≤ 2000000 := fun k hk => by have := cntL_mem (cnt := cntMemo) (List.getElem_mem hk); omega
  clear hl hl'
  by_cases hne : l.length = l'.length
  · have hb0 : ((l.length : Int) != (l'.length : Int)) = false := by simp [hne]
    have Hne := Lib.hid hne
    clear hne
    go_enter Tryz.func30, Tryz.ntmps30
    go_wp2
    go_loopw [5] (fun i wr => ∃ k : Nat, k ≤ l.length ∧ i = .int .i64 k ∧ Hid (l.take k = l'.take k) ∧ Below w.heap.size w wr) (fun i _ => l.length - (intOf i).toNat)
    case atStart => exact ⟨0, Nat.zero_le _, rfl, rfl, Below.refl _ _⟩
    case round =>
      obtain ⟨k, hk, rfl, heq, hb⟩ := hrel
      by_cases hlt : k < l.length
      · have hlt' : k < l'.length := by rw [← Hne.out]; exact hlt
        obtain ⟨b, o, s, rfl, hbb, hr, c0, c1, c2, c3, c4⟩ := (h.below hb).memo hlt
        obtain ⟨b', o', s', rfl, hbb', hr', d0, d1, d2, d3, d4⟩ := (h'.below hb).memo hlt'
        have hx : ∀ W, Below wr.heap.size wr W → memoD.rd W W.heap.size l[k] s := fun W hW => memoD.rd_more (memoD.rd_below (memoD.rd_more hr hb.size) hW) hW.size
        have hx' : ∀ W, Below wr.heap.size wr W → memoD.rd W W.heap.size l'[k] s' := fun W hW => memoD.rd_more (memoD.rd_below (memoD.rd_more hr' hb.size) hW) hW.size
        go_wp2
        go_still_tail 8, (by kernel_rfl)
        go_wp2_with (go_at_call 63; refine (eqMemo_own l[k] l'[k] s s' _ (hcc k hlt) (hcc' k hlt') (hx _ (by first | exact Below.refl _ _ | exact (Below.refl _ _).drew)) (hx' _ (by first | exact Below.refl _ _ | exact (Below.refl _ _).drew))).mono ?_; rintro e w1 ⟨rfl, hb1⟩)
        · rename_i hd
          go_ret
          refine ⟨ret_bool ?_, (hb.drew).trans (hb1.mono hb.size)⟩
          simp only [Bool.false_eq, decide_eq_false_iff_not]
          intro e
          subst e
          simp at hd
        · rename_i hd
          refine ⟨⟨k + 1, by omega, by go_num, ?_, (hb.drew).trans (hb1.mono hb.size)⟩, by simp [intOf]; omega⟩
          show List.take (k + 1) l = List.take (k + 1) l'
          rw [take_snoc l k hlt, take_snoc l' k hlt', heq.out]
          simp at hd
          rw [hd]
      · go_wp2
        go_ret
        refine ⟨ret_bool ?_, hb⟩
        have h1 := heq.out
        rw [List.take_of_length_le (by omega), List.take_of_length_le (by rw [← Hne.out]; omega)] at h1
        simp [h1]
  · have hb0 : ((l.length : Int) != (l'.length : Int)) = true := by simp; omega
    go_enter Tryz.func30, Tryz.ntmps30
    go_wp2
    go_ret
    refine ⟨ret_bool ?_, Below.refl _ _⟩
    simp only [Bool.false_eq, decide_eq_false_iff_not]
    intro e
    exact hne (by rw [e])


theorem memo_infoD : (Tryz.prog.info? 61).map (fun i => (i.zero, i.size, i.bytes)) = some (some (.agg #[.int .i64 0, .int .i64 0, .int .i64 0, .int .i64 0, .int .i64 0]), 5, 40) := by kernel_rfl

theorem toMemoS_own (l : List (Memo)) (s : Sl) (w : World) (hl : cntL cntMemo l ≤ 2000000) (h : RdL memoD w w.heap.size s.v l) :
    Calls Tryz.prog 27 #[.slice s.a s.n s.c] w (OwnPost (Dt.list memoD) slV l w) := by
  obtain ⟨A, n, c⟩ := s
  obtain ⟨A', c', hv, -⟩ := h.form
  simp only [Sl.v, Value.slice.injEq] at hv
  obtain ⟨rfl, rfl, rfl⟩ := hv
  have hll : l.length ≤ 2000000 := Nat.le_trans (cntL_len _ _) hl
  have hcc : ∀ k (hk : k < l.length), cntMemo l[k] ≤ 2000000 := fun k hk => by have := cntL_mem (cnt := cntMemo) (List.getElem_mem hk); omega
  clear hl
  obtain ⟨i0, hi0, hz0, hz1, hz2⟩ := info_parts memo_infoD
  have hmk : ∀ w : World, (Instr.makeSlice 35 (.int .i64 (l.length : Int)) (.int .i64 (l.length : Int))).run Tryz.prog w = .ok (.slice (some ⟨w.heap.size, 0, none⟩) l.length l.length) (w.alloc (.cells (madeCells #[.int .i64 0, .int .i64 0, .int .i64 0, .int .i64 0, .int .i64 0] (l.length * 5)) 61)) := by
    intro w
    have := run_make (P := Tryz.prog) w 35 61 i0 _ Tryz.underlying35 hi0 hz0 .i64 .i64 l.length l.length (by omega) (by omega) (by rw [hz2]; omega) (by omega)
    rw [hz1] at this
    simpa [Value.cells] using this
  go_enter Tryz.func27, Tryz.ntmps27
  go_wp2
  go_loopw [4] (fun i wr => ∃ k : Nat, k ≤ l.length ∧ i = .int .i64 k ∧ Hid (∃ (rs : List ((Memo) × Unit)) (G : List Nat), rs.map (·.1) = l.take k ∧ Ow memoD.enc 61 wr w.heap.size (.slice (some ⟨w.heap.size, 0, none⟩) l.length l.length) (rs ++ List.replicate (l.length - k) (⟨0, ⟨0, 0, 0, 0⟩⟩, ())) ∧ Ows memoD wr G rs ∧ G.Nodup ∧ ∀ b ∈ G, w.heap.size < b) ∧ Below w.heap.size w wr) (fun i _ => l.length - (intOf i).toNat)
  case atStart => exact ⟨0, Nat.zero_le _, rfl, ⟨[], [], rfl, by rw [List.nil_append, Nat.sub_zero]; exact Ow.made memoD.enc 61 w (⟨0, ⟨0, 0, 0, 0⟩⟩, ()) l.length (by decide) (by simp [maxLen]; omega) rfl rfl, .nil, List.nodup_nil, fun _ h => by cases h⟩, (Below.refl _ _).alloc (Nat.le_refl _) _⟩
  case round =>
    obtain ⟨k, hk, rfl, ⟨rs, G, hm, hown, hG, hGn, hGb⟩, hb⟩ := hrel
    have hrl : rs.length = k := by have := congrArg List.length hm; simpa [Nat.min_eq_left hk] using this
    by_cases hlt : k < l.length
    · obtain ⟨b, o, s, rfl, hbb, hr, c0, c1, c2, c3, c4⟩ := (h.below hb).memo hlt
      have hx : ∀ W, Below wr.heap.size wr W → memoD.rd W W.heap.size l[k] s := fun W hW => memoD.rd_more (memoD.rd_below (memoD.rd_more hr hb.size) hW) hW.size
      have hlen : (rs ++ List.replicate (l.length - k) ((⟨0, ⟨0, 0, 0, 0⟩⟩, ()) : (Memo) × Unit)).length = l.length := by simp; omega
      have Hm := Lib.hid hm
      have Hrl := Lib.hid hrl
      clear hm hrl
      go_wp2_with (go_at_call 55; refine (toMemo_own l[k] s _ (hcc k hlt) (hx _ (by first | exact Below.refl _ _ | exact (Below.refl _ _).drew))).mono ?_; rintro e w1 ⟨s1, F1, rfl, o1, n1, hb1⟩; have hown1 := hown.below hb1; have hf := hown1.free; obtain ⟨d0, d1, d2, d3, d4⟩ := hown1.c_memo (k := k) (by rw [hlen]; exact hlt))
      have hp := Ow.put hown1 hlen k hlt (l[k], s1)
      have Hp := Bld.lay hG hGn hGb hb1 (r := (l[k], s1)) o1 n1 (Nat.lt_of_lt_of_le (hown.blk).2 (Nat.le_refl _)) hp.2
      rw [mix_snoc rs _ k l.length Hrl.out hlt] at hp
      refine ⟨⟨k + 1, by omega, by go_num, ⟨rs ++ [(l[k], s1)], G ++ F1, ?_, hp.1, Hp.1, Hp.2.1, Hp.2.2⟩, (hb.trans (hb1.mono hb.size)).grown hp.2 (Nat.le_trans hb.size hb1.size) (fun g hg => by simp at hg; omega)⟩, by simp [intOf]; omega⟩
      rw [List.map_append, Hm.out, take_snoc l k hlt]
      rfl
    · have hk' : k = l.length := by omega
      subst hk'
      rw [Nat.sub_self, List.replicate_zero, List.append_nil] at hown
      go_wp2
      go_ret
      rw [List.take_length] at hm
      have hB : Bld memoD 61 wr w.heap.size (.slice (some ⟨w.heap.size, 0, none⟩) l.length l.length) rs := ⟨G, by rw [← hrl]; exact (by rw [hrl]; exact hown), hG, hGn, fun b hb' => ⟨Nat.le_of_lt (hGb b hb'), by simp [Value.ownBlock]; have := hGb b hb'; omega⟩⟩
      obtain ⟨F, h1, h2⟩ := hB.owl hm
      exact ⟨⟨some ⟨w.heap.size, 0, none⟩, l.length, l.length⟩, F, rfl, h1, h2, hb⟩


theorem markMemoS_own (l : List (Memo)) (s : Sl) (F : List Nat) (k : Int) (w : World) (hl : cntL cntMemo l ≤ 2000000) (hk0 : 0 ≤ k) (hk1 : k ≤ 1000000000) (h : OwL memoD w F s.v l) :
    Calls Tryz.prog 47 #[.slice s.a s.n s.c, .int .i64 k] w (MkPost (Dt.list memoD) F (mkL mkMemo numMemo k l) s (k + (numL numMemo l : Nat)) w) := by
  obtain ⟨A, n, c⟩ := s
  obtain ⟨A', c', hv, -⟩ := h.form
  simp only [Sl.v, Value.slice.injEq] at hv
  obtain ⟨rfl, rfl, rfl⟩ := hv
  have hll : l.length ≤ 2000000 := Nat.le_trans (cntL_len _ _) hl
  have hnl : ∀ j, numL numMemo (l.take j) ≤ 26000000 := fun j => by
    have h1 := numL_take_le numMemo l j
    have h2 := numL_le (num := numMemo) (cnt := cntMemo) (K := 13) numMemo_le l
    omega
  have Hnl := Lib.hid hnl
  clear hnl hl
  go_enter Tryz.func47, Tryz.ntmps47
  go_wp2
  go_loopw [1, 5] (fun q i wr => ∃ (j : Nat) (m : Int), j ≤ l.length ∧ i = .int .i64 j ∧ q = .int .i64 m ∧ Hid (m = k + (numL numMemo (l.take j) : Nat)) ∧ OwL memoD wr F (.slice A l.length c) (mkL mkMemo numMemo k (l.take j) ++ l.drop j) ∧ Chg F w wr) (fun _ i _ => l.length - (intOf i).toNat)
  case atStart => exact ⟨0, k, Nat.zero_le _, rfl, rfl, by show k = _; simp [numL], h, Chg.refl _ _⟩
  case round =>
    obtain ⟨j, m, hj, rfl, rfl, hm, ho, hc⟩ := hrel
    have hm' := hm.out
    have hnj := Hnl.out j
    have hm0 : 0 ≤ m := by omega
    have hm1 : m ≤ 1026000000 := by omega
    clear hm' hnj
    by_cases hlt : j < l.length
    · have hltI : (j : Int) < (l.length : Int) := by omega
      have hlen : (mkL mkMemo numMemo k (l.take j) ++ l.drop j).length = l.length := by simp [mkL_length]; omega
      obtain ⟨b, o, rs, s, G1, Fx, G2, rfl, hF, hrm, f0⟩ := ho.foc (j := j) (by rw [hlen]; exact hlt)
      rw [mkL_here mkMemo numMemo k l j hlt] at f0
      subst hF
      have Hrm := Lib.hid hrm
      clear hrm ho
      obtain ⟨c0, c1, c2, c3, c4⟩ := f0.memo
      have fr0 := f0.free
      go_wp2
      obtain ⟨f1, g1⟩ := f0.put ⟨m, ⟨m + 1, m + 1 + 1, m + 1 + 1 + 1, m + 1 + 1 + 1 + 1⟩⟩ 0 [.int .i64 (m), .int .i64 (m + 1), .int .i64 (m + 1 + 1), .int .i64 (m + 1 + 1 + 1), .int .i64 (m + 1 + 1 + 1 + 1)] (by show 0 + 5 ≤ 5; omega) (fun i hi => match i, hi with | 0, _ => rfl | 1, _ => rfl | 2, _ => rfl | 3, _ => rfl | 4, _ => rfl | i + 5, hi => absurd hi (by simp)) (fun i hi hx => match i, hi, hx with | 0, _, hx => absurd hx (by simp) | 1, _, hx => absurd hx (by simp) | 2, _, hx => absurd hx (by simp) | 3, _, hx => absurd hx (by simp) | 4, _, hx => absurd hx (by simp) | i + 5, hi, _ => absurd hi (by show ¬ (i + 5 < 5); omega)) (fun _ hh => hh)
      have hmf := hm.out
      have hown := f1.owl Hrm.out
      have hval : ⟨m, ⟨m + 1, m + 1 + 1, m + 1 + 1 + 1, m + 1 + 1 + 1 + 1⟩⟩ = mkMemo m l[j] := rfl
      have hset := mkL_set mkMemo numMemo k l j hlt
      rw [← hm.out] at hset
      rw [hval, hset] at hown
      have hnum : (numL numMemo (l.take (j + 1)) : Nat) = numL numMemo (l.take j) + numMemo l[j] := sum_take_succ _ _ _ hlt
      refine ⟨⟨j + 1, m + 1 + 1 + 1 + 1 + 1, by omega, by go_num, rfl, ?_, hown, (hc).trans (g1.mono (fun _ hh => mem_box hh))⟩, by simp [intOf]; omega⟩
      have hun : numMemo l[j] = 5 := rfl
      show m + 1 + 1 + 1 + 1 + 1 = _
      rw [hnum, hun]
      push_cast
      omega
    · have hj' : j = l.length := by omega
      subst hj'
      rw [List.take_length, List.drop_length, List.append_nil] at ho
      go_wp2
      go_ret
      refine ⟨ret_int ?_, ho, hc⟩
      rw [hm.out, List.take_length]


theorem heldMemoS_own (l : List (Memo)) (s : Sl) (k : Int) (w : World) (hl : cntL cntMemo l ≤ 2000000) (hk0 : 0 ≤ k) (hk1 : k ≤ 1000000000) (h : RdL memoD w w.heap.size s.v (mkL mkMemo numMemo k l)) :
    Calls Tryz.prog 48 #[.slice s.a s.n s.c, .int .i64 k] w fun e w' => e = .returned (.int .i64 (k + (numL numMemo l : Nat))) ∧ Below w.heap.size w w' := by
  obtain ⟨A, n, c⟩ := s
  obtain ⟨A', c', hv, -⟩ := h.form
  simp only [Sl.v, Value.slice.injEq, mkL_length] at hv
  obtain ⟨rfl, rfl, rfl⟩ := hv
  have hll : l.length ≤ 2000000 := Nat.le_trans (cntL_len _ _) hl
  have hnl : ∀ j, numL numMemo (l.take j) ≤ 26000000 := fun j => by
    have h1 := numL_take_le numMemo l j
    have h2 := numL_le (num := numMemo) (cnt := cntMemo) (K := 13) numMemo_le l
    omega
  have hcell : ∀ (wr : World) (j : Nat) (hj : j < l.length) (m : Int), Below w.heap.size w wr → m = k + (numL numMemo (l.take j) : Nat) → ∃ b o, ∃ s : Unit, A = some ⟨b, o, none⟩ ∧ b < w.heap.size ∧ memoD.rd wr w.heap.size (mkMemo m l[j]) s ∧ wr.cell? ⟨b, o + j * 5, none⟩ = some (.int .i64 (m)) ∧ wr.cell? ⟨b, o + j * 5 + 1, none⟩ = some (.int .i64 (m + 1)) ∧ wr.cell? ⟨b, o + j * 5 + 2, none⟩ = some (.int .i64 (m + 1 + 1)) ∧ wr.cell? ⟨b, o + j * 5 + 3, none⟩ = some (.int .i64 (m + 1 + 1 + 1)) ∧ wr.cell? ⟨b, o + j * 5 + 4, none⟩ = some (.int .i64 (m + 1 + 1 + 1 + 1)) := by
    intro wr j hj m hb hm
    obtain ⟨b, o, s, h1, h2, h3, h4⟩ := (h.below hb).memo (k := j) (by rw [mkL_length]; exact hj)
    first | rw [mkL_get _ _ _ _ _ hj, ← hm] at h3 h4 | rw [mkL_get _ _ _ _ _ hj, ← hm] at h3
    exact ⟨b, o, s, h1, h2, h3, h4⟩
  have Hc := Lib.hid hcell
  have Hnl := Lib.hid hnl
  clear hcell hnl hl
  go_enter Tryz.func48, Tryz.ntmps48
  go_wp2
  go_loopw [1, 5] (fun q i wr => ∃ (j : Nat) (m : Int), j ≤ l.length ∧ i = .int .i64 j ∧ q = .int .i64 m ∧ Hid (m = k + (numL numMemo (l.take j) : Nat)) ∧ Below w.heap.size w wr) (fun _ i _ => l.length - (intOf i).toNat)
  case atStart => exact ⟨0, k, Nat.zero_le _, rfl, rfl, by show k = _; simp [numL], Below.refl _ _⟩
  case round =>
    obtain ⟨j, m, hj, rfl, rfl, hm, hb⟩ := hrel
    have hm' := hm.out
    have hnj := Hnl.out j
    have hm0 : 0 ≤ m := by omega
    have hm1 : m ≤ 1026000000 := by omega
    clear hm' hnj
    by_cases hlt : j < l.length
    · have hltI : (j : Int) < (l.length : Int) := by omega
      obtain ⟨b, o, s, rfl, hbb, hrd, c0, c1, c2, c3, c4⟩ := Hc.out wr j hlt m hb hm.out
      go_wp2
      have hnum : (numL numMemo (l.take (j + 1)) : Nat) = numL numMemo (l.take j) + numMemo l[j] := sum_take_succ _ _ _ hlt
      refine ⟨⟨j + 1, m + 1 + 1 + 1 + 1 + 1, by omega, by go_num, rfl, ?_, hb⟩, by simp [intOf]; omega⟩
      have hun : numMemo l[j] = 5 := rfl
      have hmf := hm.out
      show m + 1 + 1 + 1 + 1 + 1 = _
      rw [hnum, hun]
      push_cast
      omega
    · have hj' : j = l.length := by omega
      subst hj'
      go_wp2
      go_ret
      refine ⟨ret_int ?_, hb⟩
      rw [hm.out, List.take_length]

end Go.Proofs.YtjobmbjadpldfaaGreat
end
section
namespace Go.Proofs.YtjobmbjadpldfaaGreat
open Go.RowKit
set_option maxRecDepth 100000
set_option maxHeartbeats 1000000
set_option linter.unusedVariables false
set_option linter.unusedSimpArgs false

structure Disk where
  files : List File
deriving DecidableEq, Inhabited

@[go_sem] abbrev diskW (x : Disk) (s : Sl) : Value := .agg #[.slice s.a s.n s.c]
abbrev diskD : Dt Disk := Dt.via (Dt.list fileD) (·.files) (fun q => [.slice q.2.a q.2.n q.2.c]) 1 (fun _ => rfl) (fun q u hu => by simp at hu; subst hu; rfl)
/-- all lengths in it together -/
def cntDisk (x : Disk) : Nat := cntL cntFile x.files
/-- ints are int64, lengths are what a machine holds -/
def wfDisk (x : Disk) : Prop := wfL wfFile x.files

end Go.Proofs.YtjobmbjadpldfaaGreat
end
section
namespace Go.Proofs.YtjobmbjadpldfaaGreat
open Go.RowKit
set_option maxRecDepth 100000
set_option maxHeartbeats 1000000
set_option linter.unusedVariables false
set_option linter.unusedSimpArgs false

structure Wait where
  call : Int
  reply : Reply
deriving DecidableEq, Inhabited

@[go_sem] abbrev waitW (x : Wait) (_s : Unit) : Value := .agg #[.int .i64 x.call, .int .i64 x.reply.code, .int .i64 x.reply.run, .int .i64 x.reply.task, .int .i64 x.reply.try_]
abbrev waitD : Dt Wait := Dt.flat (fun q => [.int .i64 q.1.call, .int .i64 q.1.reply.code, .int .i64 q.1.reply.run, .int .i64 q.1.reply.task, .int .i64 q.1.reply.try_]) 5 (fun _ => rfl) (fun q u hu => by simp at hu; rcases hu with rfl | rfl | rfl | rfl | rfl <;> rfl)
/-- all lengths in it together -/
def cntWait (_ : Wait) : Nat := 0
/-- ints are int64, lengths are what a machine holds -/
def wfWait (x : Wait) : Prop := Wf x.call ∧ wfReply x.reply
def numWait (_ : Wait) : Nat := 5
/-- with the marks from k on -/
def mkWait (k : Int) (_ : Wait) : Wait := ⟨k, ⟨k + 1, k + 1 + 1, k + 1 + 1 + 1, k + 1 + 1 + 1 + 1⟩⟩
theorem numWait_le (x : Wait) : numWait x ≤ 13 * (cntWait x + 1) := by
  unfold numWait cntWait
  omega

theorem RdL.wait {w : World} {B : Nat} {A : Option Addr} {n c : Nat} {l : List (Wait)} (h : RdL waitD w B (.slice A n c) l) {k : Nat} (hk : k < l.length) :
    ∃ b o, ∃ _s : Unit, A = some ⟨b, o, none⟩ ∧ b < B ∧ waitD.rd w B l[k] _s ∧ w.cell? ⟨b, o + k * 5, none⟩ = some (.int .i64 l[k].call) ∧ w.cell? ⟨b, o + k * 5 + 1, none⟩ = some (.int .i64 l[k].reply.code) ∧ w.cell? ⟨b, o + k * 5 + 2, none⟩ = some (.int .i64 l[k].reply.run) ∧ w.cell? ⟨b, o + k * 5 + 3, none⟩ = some (.int .i64 l[k].reply.task) ∧ w.cell? ⟨b, o + k * 5 + 4, none⟩ = some (.int .i64 l[k].reply.try_) := by
  obtain ⟨b, o, s, rfl, hb, hc, hr⟩ := h.at_ k hk
  exact ⟨b, o, s, rfl, hb, hr, hc 0 _ rfl, hc 1 _ rfl, hc 2 _ rfl, hc 3 _ rfl, hc 4 _ rfl⟩
theorem Ow.c_wait {E : TypeId} {w : World} {base g n cap : Nat} {l : List ((Wait) × Unit)} (h : Ow waitD.enc E w base (.slice (some ⟨g, 0, none⟩) n cap) l) {k : Nat} (hk : k < l.length) :
    w.cell? ⟨g, k * 5, none⟩ = some (.int .i64 l[k].1.call) ∧ w.cell? ⟨g, k * 5 + 1, none⟩ = some (.int .i64 l[k].1.reply.code) ∧ w.cell? ⟨g, k * 5 + 2, none⟩ = some (.int .i64 l[k].1.reply.run) ∧ w.cell? ⟨g, k * 5 + 3, none⟩ = some (.int .i64 l[k].1.reply.task) ∧ w.cell? ⟨g, k * 5 + 4, none⟩ = some (.int .i64 l[k].1.reply.try_) := by
  rcases h.form with ⟨h1, _⟩ | ⟨g', cap', hv, _, _, _, _, _, hc⟩
  · simp at h1
  · simp only [Value.slice.injEq, Option.some.injEq, Addr.mk.injEq, and_true] at hv
    obtain ⟨rfl, _, _⟩ := hv
    exact ⟨hc k hk 0 _ rfl, hc k hk 1 _ rfl, hc k hk 2 _ rfl, hc k hk 3 _ rfl, hc k hk 4 _ rfl⟩
theorem Foc.wait {w : World} {b o n c j : Nat} {rs : List ((Wait) × Unit)} {G1 Fx G2 : List Nat} {x : Wait} {s : Unit} (h : Foc waitD w b o n c rs j G1 Fx G2 x s) :
    w.cell? ⟨b, o + j * 5, none⟩ = some (.int .i64 x.call) ∧ w.cell? ⟨b, o + j * 5 + 1, none⟩ = some (.int .i64 x.reply.code) ∧ w.cell? ⟨b, o + j * 5 + 2, none⟩ = some (.int .i64 x.reply.run) ∧ w.cell? ⟨b, o + j * 5 + 3, none⟩ = some (.int .i64 x.reply.task) ∧ w.cell? ⟨b, o + j * 5 + 4, none⟩ = some (.int .i64 x.reply.try_) := ⟨h.cells 0 _ rfl, h.cells 1 _ rfl, h.cells 2 _ rfl, h.cells 3 _ rfl, h.cells 4 _ rfl⟩

end Go.Proofs.YtjobmbjadpldfaaGreat
end
section
namespace Go.Proofs.YtjobmbjadpldfaaGreat
open Go.RowKit
set_option maxRecDepth 100000
set_option maxHeartbeats 1000000
set_option linter.unusedVariables false
set_option linter.unusedSimpArgs false

structure Run where
  id : Int
  plan : Plan
  state : Int
  tasks : List Task
deriving DecidableEq, Inhabited

@[go_sem] abbrev runW (x : Run) (s : Sl × Sl) : Value := .agg #[.int .i64 x.id, .int .i64 x.plan.prio, .int .i64 x.plan.most, .int .i64 x.plan.wait, .int .i64 x.plan.tasks, .slice s.1.a s.1.n s.1.c, .int .i64 x.state, .slice s.2.a s.2.n s.2.c]
abbrev runD : Dt Run := Dt.two planD (Dt.list taskD) (·.plan) (·.tasks) (fun q => [.int .i64 q.1.id, .int .i64 q.1.plan.prio, .int .i64 q.1.plan.most, .int .i64 q.1.plan.wait, .int .i64 q.1.plan.tasks, .slice q.2.1.a q.2.1.n q.2.1.c, .int .i64 q.1.state, .slice q.2.2.a q.2.2.n q.2.2.c]) 8 (fun _ => rfl) (fun q u hu => by simp at hu; rcases hu with rfl | rfl | rfl | rfl | rfl | rfl | rfl | rfl <;> rfl)
/-- all lengths in it together -/
def cntRun (x : Run) : Nat := cntPlan x.plan + cntL cntTask x.tasks
/-- ints are int64, lengths are what a machine holds -/
def wfRun (x : Run) : Prop := Wf x.id ∧ wfPlan x.plan ∧ Wf x.state ∧ wfL wfTask x.tasks
def numRun (x : Run) : Nat := 6 + numL numEdge x.plan.edges + numL numTask x.tasks
/-- with the marks from k on -/
def mkRun (k : Int) (x : Run) : Run := ⟨k, ⟨k + 1, k + 1 + 1, k + 1 + 1 + 1, k + 1 + 1 + 1 + 1, mkL mkEdge numEdge (k + 1 + 1 + 1 + 1 + 1) x.plan.edges⟩, k + 1 + 1 + 1 + 1 + 1 + (numL numEdge x.plan.edges : Nat), mkL mkTask numTask (k + 1 + 1 + 1 + 1 + 1 + (numL numEdge x.plan.edges : Nat) + 1) x.tasks⟩
theorem numRun_le (x : Run) : numRun x ≤ 13 * (cntRun x + 1) := by
  have h0 := numL_le (num := numEdge) (cnt := cntEdge) (K := 13) numEdge_le x.plan.edges
  have h1 := numL_le (num := numTask) (cnt := cntTask) (K := 13) numTask_le x.tasks
  unfold numRun cntRun cntPlan
  omega

theorem toRun_own (x : Run) (s : Sl × Sl) (w : World) (hl : cntRun x ≤ 2000000) (h : runD.rd w w.heap.size x s) :
    Calls Tryz.prog 68 #[runW x s] w (OwnPost runD runW x w) := by
  have hbx : ∀ W, Below w.heap.size w W → runD.rd W W.heap.size x s := fun W hW => runD.rd_more (runD.rd_below h hW) hW.size
  go_enter Tryz.func68, Tryz.ntmps68
  go_wp2_with fail
  refine (toPlan_own x.plan s.1 _ (by unfold cntRun at hl; omega) ((hbx _ (by repeat (first | exact Below.refl _ _ | refine Below.alloc ?_ (by simp <;> omega) _))).1)).mono ?_
  rintro e w0 ⟨s0, F0, rfl, o0, n0, hb0⟩
  obtain ⟨q0, p0⟩ := bcell hb0
  have z0 := hb0.size
  simp only [World.size_alloc, World.size_setCell] at z0 n0
  have B0 : Below w.heap.size w w0 := bnext (by repeat (first | exact Below.refl _ _ | refine Below.alloc ?_ (by simp <;> omega) _)) hb0
  go_wp2_with fail
  refine (toTaskS_own x.tasks s.2 _ (by unfold cntRun at hl; omega) ((hbx _ (by repeat (first | (with_reducible exact B0) | (with_reducible exact Below.refl _ _) | refine Below.setCell ?_ (by simp <;> omega) _ | refine Below.alloc ?_ (by simp <;> omega) _))).2)).mono ?_
  rintro e w1 ⟨s1, F1, rfl, o1, n1, hb1⟩
  obtain ⟨q1, p1⟩ := bcell hb1
  have z1 := hb1.size
  simp only [World.size_alloc, World.size_setCell] at z1 n1 q1 p1
  have B1 : Below w.heap.size w w1 := bnext (by repeat (first | (with_reducible exact B0) | (with_reducible exact Below.refl _ _) | refine Below.setCell ?_ (by simp <;> omega) _ | refine Below.alloc ?_ (by simp <;> omega) _)) hb1
  have q1a := fun o => q1 w.heap.size o (by omega)
  have p1a := fun o => p1 w.heap.size o (by omega)
  have q1b := fun o => q1 (w.heap.size + 1) o (by omega)
  have p1b := fun o => p1 (w.heap.size + 1) o (by omega)
  have q1c := fun o => q1 (w.heap.size + 1 + 1) o (by omega)
  have p1c := fun o => p1 (w.heap.size + 1 + 1) o (by omega)
  go_wp2
  refine bodyPost_ret (v := runW x (s0, s1)) ?_ rfl ?_
  · simp [runW, results, Tryz.results68, go_sem, q0, q1, q1a, q1b, q1c]
  · refine ⟨(s0, s1), F0 ++ F1, rfl, ⟨F0, F1, rfl, ?_, ?_, ?_⟩, ?_, ?_⟩
    · rw [List.nodup_append]
      refine ⟨Dt.ow_nodup planD o0, Dt.ow_nodup (Dt.list taskD) o1, fun u hu u' hu' e => ?_⟩
      have h1 := Dt.ow_lt planD o0 u hu
      have h2 := n1 u' hu'
      omega
    · repeat (first | (with_reducible exact o0) | refine Dt.ow_set planD ?_ (by intro hm; have := n0 _ hm; (try simp only [World.size_alloc, World.size_setCell] at this); omega) _ | (with_reducible refine Dt.ow_below planD ?_ hb1))
    · repeat (first | (with_reducible exact o1) | refine Dt.ow_set (Dt.list taskD) ?_ (by intro hm; have := n1 _ hm; (try simp only [World.size_alloc, World.size_setCell] at this); omega) _)
    · intro u hu
      rcases List.mem_append.1 hu with hu | hu
      · have := n0 u hu
        omega
      · have := n1 u hu
        omega
    · repeat (first | (with_reducible exact B1) | (with_reducible exact Below.refl _ _) | refine Below.setCell ?_ (by simp <;> omega) _ | refine Below.alloc ?_ (by simp <;> omega) _)

theorem eqRun_own (x y : Run) (s r : Sl × Sl) (w : World) (hl : cntRun x ≤ 2000000) (hl' : cntRun y ≤ 2000000) (h : runD.rd w w.heap.size x s) (h' : runD.rd w w.heap.size y r) :
    Calls Tryz.prog 72 #[runW x s, runW y r] w fun e w' => e = .returned (.bool (decide (x = y))) ∧ Below w.heap.size w w' := by
  have hbx : ∀ W, Below w.heap.size w W → runD.rd W W.heap.size x s := fun W hW => runD.rd_more (runD.rd_below h hW) hW.size
  have hby : ∀ W, Below w.heap.size w W → runD.rd W W.heap.size y r := fun W hW => runD.rd_more (runD.rd_below h' hW) hW.size
  by_cases h0 : x.id = y.id
  case neg =>
    have t0 : (x.id != y.id) = true := by rw [bne_iff_ne]; exact h0
    have H := Lib.hid (show decide (x = y) = false by simp only [decide_eq_false_iff_not]; intro e; exact h0 (by rw [e]))
    clear h0
    go_enter Tryz.func72, Tryz.ntmps72
    go_wp2
    go_ret
    exact ⟨ret_bool (by first | exact H.out.symm | rfl), by repeat (first | exact Below.refl _ _ | refine Below.alloc ?_ (by simp <;> omega) _)⟩
  have t0 : (x.id != y.id) = false := by simp [h0]
  have H0 := Lib.hid h0
  clear h0
  go_enter Tryz.func72, Tryz.ntmps72
  go_wp2_with fail
  refine (eqPlan_own x.plan y.plan s.1 r.1 _ (by unfold cntRun at hl; omega) (by unfold cntRun at hl'; omega) ((hbx _ (by repeat (first | exact Below.refl _ _ | refine Below.alloc ?_ (by simp <;> omega) _))).1) ((hby _ (by repeat (first | exact Below.refl _ _ | refine Below.alloc ?_ (by simp <;> omega) _))).1)).mono ?_
  rintro e w1 ⟨rfl, hb1⟩
  have B1 : Below w.heap.size w w1 := bnext (by repeat (first | exact Below.refl _ _ | refine Below.alloc ?_ (by simp <;> omega) _)) hb1
  obtain ⟨q1, p1⟩ := bcell hb1
  by_cases h1 : x.plan = y.plan
  case neg =>
    have H := Lib.hid (show decide (x = y) = false by simp only [decide_eq_false_iff_not]; intro e; exact h1 (by rw [e]))
    rw [decide_eq_false h1]
    clear h1
    go_wp2
    go_ret
    exact ⟨ret_bool (by first | exact H.out.symm | rfl), by exact B1⟩
  rw [decide_eq_true h1]
  have H1 := Lib.hid h1
  clear h1
  by_cases h2 : x.state = y.state
  case neg =>
    have t2 : (x.state != y.state) = true := by rw [bne_iff_ne]; exact h2
    have H := Lib.hid (show decide (x = y) = false by simp only [decide_eq_false_iff_not]; intro e; exact h2 (by rw [e]))
    clear h2
    go_wp2
    go_ret
    exact ⟨ret_bool (by first | exact H.out.symm | rfl), by exact B1⟩
  have t2 : (x.state != y.state) = false := by simp [h2]
  have H2 := Lib.hid h2
  clear h2
  go_wp2_with fail
  refine (eqTaskS_own x.tasks y.tasks s.2 r.2 _ (by unfold cntRun at hl; omega) (by unfold cntRun at hl'; omega) ((hbx _ (by first | exact B1 | (repeat (first | exact Below.refl _ _ | refine Below.alloc ?_ (by simp <;> omega) _)))).2) ((hby _ (by first | exact B1 | (repeat (first | exact Below.refl _ _ | refine Below.alloc ?_ (by simp <;> omega) _)))).2)).mono ?_
  rintro e w3 ⟨rfl, hb3⟩
  have B3 : Below w.heap.size w w3 := bnext (by first | exact B1 | (repeat (first | exact Below.refl _ _ | refine Below.alloc ?_ (by simp <;> omega) _))) hb3
  obtain ⟨q3, p3⟩ := bcell hb3
  by_cases h3 : x.tasks = y.tasks
  case neg =>
    have H := Lib.hid (show decide (x = y) = false by simp only [decide_eq_false_iff_not]; intro e; exact h3 (by rw [e]))
    rw [decide_eq_false h3]
    clear h3
    go_wp2
    go_ret
    exact ⟨ret_bool (by first | exact H.out.symm | rfl), by exact B3⟩
  rw [decide_eq_true h3]
  have H3 := Lib.hid h3
  clear h3
  have H := Lib.hid (show decide (x = y) = true by
    simp only [decide_eq_true_eq]
    have hh := And.intro H0.out (And.intro H1.out (And.intro H2.out H3.out))
    obtain ⟨e0, e1, e2, e3⟩ := hh
    cases x
    cases y
    simp only at e0 e1 e2 e3
    subst e0 e1 e2 e3
    rfl)
  go_wp2
  go_ret
  exact ⟨ret_bool (by first | exact H.out.symm | rfl), by exact B3⟩

theorem szRun_own (x : Run) (s : Sl × Sl) (left : Int) (w : World) (h0 : 0 ≤ left) (h1 : left ≤ 2000000) (hw : wfRun x) (h : runD.rd w w.heap.size x s) :
    Calls Tryz.prog 65 #[runW x s, .int .i64 left] w (SzPost left (cntRun x) w) := by
  have hbx : ∀ W, Below w.heap.size w W → runD.rd W W.heap.size x s := fun W hW => runD.rd_more (runD.rd_below h hW) hW.size
  go_enter Tryz.func65, Tryz.ntmps65
  go_wp2_with fail
  refine (szPlan_own x.plan s.1 left _ (by omega) (by omega) hw.2.1 ((hbx _ (by repeat (first | exact Below.refl _ _ | refine Below.alloc ?_ (by simp <;> omega) _))).1)).mono ?_
  rintro e w0 ⟨r0, rfl, hr0, hb0⟩
  have B0 : Below w.heap.size w w0 := bnext (by repeat (first | exact Below.refl _ _ | refine Below.alloc ?_ (by simp <;> omega) _)) hb0
  obtain ⟨q0, p0⟩ := bcell hb0
  rcases hr0 with rfl | ⟨y0, z0⟩
  · go_wp2
    go_ret
    exact ⟨-1, rfl, .inl rfl, B0⟩
  go_wp2_with fail
  refine (szTaskS_own x.tasks s.2 r0 _ (by omega) (by omega) hw.2.2.2 ((hbx _ B0).2)).mono ?_
  rintro e w1 ⟨r1, rfl, hr1, hb1⟩
  have B1 : Below w.heap.size w w1 := bnext B0 hb1
  obtain ⟨q1, p1⟩ := bcell hb1
  rcases hr1 with rfl | ⟨y1, z1⟩
  · go_wp2
    go_ret
    exact ⟨-1, rfl, .inl rfl, B1⟩
  go_wp2
  go_ret
  exact ⟨_, rfl, .inr ⟨by omega, by unfold cntRun; omega⟩, B1⟩

theorem RdL.run {w : World} {B : Nat} {A : Option Addr} {n c : Nat} {l : List (Run)} (h : RdL runD w B (.slice A n c) l) {k : Nat} (hk : k < l.length) :
    ∃ b o, ∃ s : Sl × Sl, A = some ⟨b, o, none⟩ ∧ b < B ∧ runD.rd w B l[k] s ∧ w.cell? ⟨b, o + k * 8, none⟩ = some (.int .i64 l[k].id) ∧ w.cell? ⟨b, o + k * 8 + 1, none⟩ = some (.int .i64 l[k].plan.prio) ∧ w.cell? ⟨b, o + k * 8 + 2, none⟩ = some (.int .i64 l[k].plan.most) ∧ w.cell? ⟨b, o + k * 8 + 3, none⟩ = some (.int .i64 l[k].plan.wait) ∧ w.cell? ⟨b, o + k * 8 + 4, none⟩ = some (.int .i64 l[k].plan.tasks) ∧ w.cell? ⟨b, o + k * 8 + 5, none⟩ = some (.slice s.1.a s.1.n s.1.c) ∧ w.cell? ⟨b, o + k * 8 + 6, none⟩ = some (.int .i64 l[k].state) ∧ w.cell? ⟨b, o + k * 8 + 7, none⟩ = some (.slice s.2.a s.2.n s.2.c) := by
  obtain ⟨b, o, s, rfl, hb, hc, hr⟩ := h.at_ k hk
  exact ⟨b, o, s, rfl, hb, hr, hc 0 _ rfl, hc 1 _ rfl, hc 2 _ rfl, hc 3 _ rfl, hc 4 _ rfl, hc 5 _ rfl, hc 6 _ rfl, hc 7 _ rfl⟩
theorem Ow.c_run {E : TypeId} {w : World} {base g n cap : Nat} {l : List ((Run) × Sl × Sl)} (h : Ow runD.enc E w base (.slice (some ⟨g, 0, none⟩) n cap) l) {k : Nat} (hk : k < l.length) :
    w.cell? ⟨g, k * 8, none⟩ = some (.int .i64 l[k].1.id) ∧ w.cell? ⟨g, k * 8 + 1, none⟩ = some (.int .i64 l[k].1.plan.prio) ∧ w.cell? ⟨g, k * 8 + 2, none⟩ = some (.int .i64 l[k].1.plan.most) ∧ w.cell? ⟨g, k * 8 + 3, none⟩ = some (.int .i64 l[k].1.plan.wait) ∧ w.cell? ⟨g, k * 8 + 4, none⟩ = some (.int .i64 l[k].1.plan.tasks) ∧ w.cell? ⟨g, k * 8 + 5, none⟩ = some (.slice l[k].2.1.a l[k].2.1.n l[k].2.1.c) ∧ w.cell? ⟨g, k * 8 + 6, none⟩ = some (.int .i64 l[k].1.state) ∧ w.cell? ⟨g, k * 8 + 7, none⟩ = some (.slice l[k].2.2.a l[k].2.2.n l[k].2.2.c) := by
  rcases h.form with ⟨h1, _⟩ | ⟨g', cap', hv, _, _, _, _, _, hc⟩
  · simp at h1
  · simp only [Value.slice.injEq, Option.some.injEq, Addr.mk.injEq, and_true] at hv
    obtain ⟨rfl, _, _⟩ := hv
    exact ⟨hc k hk 0 _ rfl, hc k hk 1 _ rfl, hc k hk 2 _ rfl, hc k hk 3 _ rfl, hc k hk 4 _ rfl, hc k hk 5 _ rfl, hc k hk 6 _ rfl, hc k hk 7 _ rfl⟩
theorem Foc.run {w : World} {b o n c j : Nat} {rs : List ((Run) × Sl × Sl)} {G1 Fx G2 : List Nat} {x : Run} {s : Sl × Sl} (h : Foc runD w b o n c rs j G1 Fx G2 x s) :
    w.cell? ⟨b, o + j * 8, none⟩ = some (.int .i64 x.id) ∧ w.cell? ⟨b, o + j * 8 + 1, none⟩ = some (.int .i64 x.plan.prio) ∧ w.cell? ⟨b, o + j * 8 + 2, none⟩ = some (.int .i64 x.plan.most) ∧ w.cell? ⟨b, o + j * 8 + 3, none⟩ = some (.int .i64 x.plan.wait) ∧ w.cell? ⟨b, o + j * 8 + 4, none⟩ = some (.int .i64 x.plan.tasks) ∧ w.cell? ⟨b, o + j * 8 + 5, none⟩ = some (.slice s.1.a s.1.n s.1.c) ∧ w.cell? ⟨b, o + j * 8 + 6, none⟩ = some (.int .i64 x.state) ∧ w.cell? ⟨b, o + j * 8 + 7, none⟩ = some (.slice s.2.a s.2.n s.2.c) := ⟨h.cells 0 _ rfl, h.cells 1 _ rfl, h.cells 2 _ rfl, h.cells 3 _ rfl, h.cells 4 _ rfl, h.cells 5 _ rfl, h.cells 6 _ rfl, h.cells 7 _ rfl⟩

theorem szRunS_own (l : List (Run)) (s : Sl) (left : Int) (w : World) (h0 : 0 ≤ left) (h1 : left ≤ 2000000) (hw : wfL wfRun l) (h : RdL runD w w.heap.size s.v l) :
    Calls Tryz.prog 32 #[.slice s.a s.n s.c, .int .i64 left] w (SzPost left (cntL cntRun l) w) := by
  obtain ⟨A, n, c⟩ := s
  obtain ⟨A', c', hv, -⟩ := h.form
  simp only [Sl.v, Value.slice.injEq] at hv
  obtain ⟨rfl, rfl, rfl⟩ := hv
  have hll := hw.1
  by_cases hlt : left < l.length
  · go_enter Tryz.func32, Tryz.ntmps32
    go_wp2
    go_ret
    exact ⟨-1, rfl, .inl rfl, Below.refl _ _⟩
  have Hw := Lib.hid hw
  clear hw
  go_enter Tryz.func32, Tryz.ntmps32
  go_wp2
  go_loopw [1, 5] (fun t i wr => ∃ k : Nat, ∃ m : Int, k ≤ l.length ∧ i = .int .i64 k ∧ t = .int .i64 m ∧ 0 ≤ m ∧ m + l.length + (((l.take k).map cntRun).sum : Nat) ≤ left ∧ Below w.heap.size w wr) (fun _ i _ => l.length - (intOf i).toNat)
  case atStart => exact ⟨0, _, Nat.zero_le _, rfl, rfl, by omega, by simp <;> omega, Below.refl _ _⟩
  case round =>
    obtain ⟨k, m, hk, rfl, rfl, m0, m1, hb⟩ := hrel
    by_cases hlt : k < l.length
    · obtain ⟨b, o, s, rfl, hbb, hr, c0, c1, c2, c3, c4, c5, c6, c7⟩ := (h.below hb).run hlt
      have hx : ∀ W, Below wr.heap.size wr W → runD.rd W W.heap.size l[k] s := fun W hW => runD.rd_more (runD.rd_below (runD.rd_more hr hb.size) hW) hW.size
      have hwk : wfRun l[k] := Hw.out.2 _ (List.getElem_mem hlt)
      have M1 := Lib.hid m1
      have m2 : m ≤ 2000000 := by omega
      clear m1
      go_wp2_with fail
      refine (szRun_own l[k] s m _ m0 m2 hwk (hx _ (by first | exact Below.refl _ _ | exact (Below.refl _ _).drew))).mono ?_
      rintro e w1 ⟨r, rfl, hr, hb1⟩
      rcases hr with rfl | ⟨r0, r1⟩
      · go_wp2
        go_ret
        exact ⟨-1, rfl, .inl rfl, bnext hb hb1⟩
      · go_wp2
        refine ⟨⟨k + 1, r, by omega, by go_num, rfl, r0, ?_, bnext hb hb1⟩, by simp [intOf]; omega⟩
        have M2 := M1.out
        have r2 : r + (cntRun l[k] : Nat) ≤ m := r1
        rw [sum_take_succ _ _ _ hlt]
        push_cast
        omega
    · go_wp2
      go_ret
      refine ⟨_, rfl, .inr ⟨by omega, ?_⟩, hb⟩
      rw [List.take_of_length_le (by omega)] at m1
      unfold cntL
      push_cast
      omega

theorem eqRunS_own (l l' : List (Run)) (s s' : Sl) (w : World) (hl : cntL cntRun l ≤ 2000000) (hl' : cntL cntRun l' ≤ 2000000) (h : RdL runD w w.heap.size s.v l) (h' : RdL runD w w.heap.size s'.v l') :
    Calls Tryz.prog 39 #[.slice s.a s.n s.c, .slice s'.a s'.n s'.c] w fun e w' => e = .returned (.bool (decide (l = l'))) ∧ Below w.heap.size w w' := by
  obtain ⟨A, n, c⟩ := s
  obtain ⟨A0, c0, hv, -⟩ := h.form
  simp only [Sl.v, Value.slice.injEq] at hv
  obtain ⟨rfl, rfl, rfl⟩ := hv
  obtain ⟨A', n', c'⟩ := s'
  obtain ⟨A0, c0, hv, -⟩ := h'.form
  simp only [Sl.v, Value.slice.injEq] at hv
  obtain ⟨rfl, rfl, rfl⟩ := hv
  have hll : l.length ≤ 2000000 := Nat.le_trans (cntL_len _ _) hl
  have hll' : l'.length ≤ 2000000 := Nat.le_trans (cntL_len _ _) hl'
  have hcc : ∀ k (hk : k < l.length), cntRun l[k] ≤ 2000000 := fun k hk => by have := cntL_mem (cnt := cntRun) (List.getElem_mem hk); omega
  have hcc' : ∀ k (hk : k < l'.length), cntRun l'[k] ≤ 2000000 := fun k hk => by have := cntL_mem (cnt := cntRun) (List.getElem_mem hk); omega
  clear hl hl'
  by_cases hne : l.length = l'.length
  · have hb0 : ((l.length : Int) != (l'.length : Int)) = false := by simp [hne]
    have Hne := Lib.hid hne
    clear hne
    go_enter Tryz.func39, Tryz.ntmps39
    go_wp2
    go_loopw [5] (fun i wr => ∃ k : Nat, k ≤ l.length ∧ i = .int .i64 k ∧ Hid (l.take k = l'.take k) ∧ Below w.heap.size w wr) (fun i _ => l.length - (intOf i).toNat)
    case atStart => exact ⟨0, Nat.zero_le _, rfl, rfl, Below.refl _ _⟩
    case round =>
      obtain ⟨k, hk, rfl, heq, hb⟩ := hrel
      by_cases hlt : k < l.length
      · have hlt' : k < l'.length := by rw [← Hne.out]; exact hlt
        obtain ⟨b, o, s, rfl, hbb, hr, c0, c1, c2, c3, c4, c5, c6, c7⟩ := (h.below hb).run hlt
        obtain ⟨b', o', s', rfl, hbb', hr', d0, d1, d2, d3, d4, d5, d6, d7⟩ := (h'.below hb).run hlt'
        have hx : ∀ W, Below wr.heap.size wr W → runD.rd W W.heap.size l[k] s := fun W hW => runD.rd_more (runD.rd_below (runD.rd_more hr hb.size) hW) hW.size
        have hx' : ∀ W, Below wr.heap.size wr W → runD.rd W W.heap.size l'[k] s' := fun W hW => runD.rd_more (runD.rd_below (runD.rd_more hr' hb.size) hW) hW.size
        go_wp2
        go_still_tail 8, (by kernel_rfl)
        go_wp2_with (go_at_call 72; refine (eqRun_own l[k] l'[k] s s' _ (hcc k hlt) (hcc' k hlt') (hx _ (by first | exact Below.refl _ _ | exact (Below.refl _ _).drew)) (hx' _ (by first | exact Below.refl _ _ | exact (Below.refl _ _).drew))).mono ?_; rintro e w1 ⟨rfl, hb1⟩)
        · rename_i hd
          go_ret
          refine ⟨ret_bool ?_, (hb.drew).trans (hb1.mono hb.size)⟩
          simp only [Bool.false_eq, decide_eq_false_iff_not]
          intro e
          subst e
          simp at hd
        · rename_i hd
          refine ⟨⟨k + 1, by omega, by go_num, ?_, (hb.drew).trans (hb1.mono hb.size)⟩, by simp [intOf]; omega⟩
          show List.take (k + 1) l = List.take (k + 1) l'
          rw [take_snoc l k hlt, take_snoc l' k hlt', heq.out]
          simp at hd
          rw [hd]
      · go_wp2
        go_ret
        refine ⟨ret_bool ?_, hb⟩
        have h1 := heq.out
        rw [List.take_of_length_le (by omega), List.take_of_length_le (by rw [← Hne.out]; omega)] at h1
        simp [h1]
  · have hb0 : ((l.length : Int) != (l'.length : Int)) = true := by simp; omega
    go_enter Tryz.func39, Tryz.ntmps39
    go_wp2
    go_ret
    refine ⟨ret_bool ?_, Below.refl _ _⟩
    simp only [Bool.false_eq, decide_eq_false_iff_not]
    intro e
    exact hne (by rw [e])


theorem run_infoD : (Tryz.prog.info? 84).map (fun i => (i.zero, i.size, i.bytes)) = some (some (.agg #[.int .i64 0, .int .i64 0, .int .i64 0, .int .i64 0, .int .i64 0, .slice none 0 0, .int .i64 0, .slice none 0 0]), 8, 96) := by kernel_rfl

theorem toRunS_own (l : List (Run)) (s : Sl) (w : World) (hl : cntL cntRun l ≤ 2000000) (h : RdL runD w w.heap.size s.v l) :
    Calls Tryz.prog 36 #[.slice s.a s.n s.c] w (OwnPost (Dt.list runD) slV l w) := by
  obtain ⟨A, n, c⟩ := s
  obtain ⟨A', c', hv, -⟩ := h.form
  simp only [Sl.v, Value.slice.injEq] at hv
  obtain ⟨rfl, rfl, rfl⟩ := hv
  have hll : l.length ≤ 2000000 := Nat.le_trans (cntL_len _ _) hl
  have hcc : ∀ k (hk : k < l.length), cntRun l[k] ≤ 2000000 := fun k hk => by have := cntL_mem (cnt := cntRun) (List.getElem_mem hk); omega
  clear hl
  obtain ⟨i0, hi0, hz0, hz1, hz2⟩ := info_parts run_infoD
  have hmk : ∀ w : World, (Instr.makeSlice 32 (.int .i64 (l.length : Int)) (.int .i64 (l.length : Int))).run Tryz.prog w = .ok (.slice (some ⟨w.heap.size, 0, none⟩) l.length l.length) (w.alloc (.cells (madeCells #[.int .i64 0, .int .i64 0, .int .i64 0, .int .i64 0, .int .i64 0, .slice none 0 0, .int .i64 0, .slice none 0 0] (l.length * 8)) 84)) := by
    intro w
    have := run_make (P := Tryz.prog) w 32 84 i0 _ Tryz.underlying32 hi0 hz0 .i64 .i64 l.length l.length (by omega) (by omega) (by rw [hz2]; omega) (by omega)
    rw [hz1] at this
    simpa [Value.cells] using this
  go_enter Tryz.func36, Tryz.ntmps36
  go_wp2
  go_loopw [4] (fun i wr => ∃ k : Nat, k ≤ l.length ∧ i = .int .i64 k ∧ Hid (∃ (rs : List ((Run) × Sl × Sl)) (G : List Nat), rs.map (·.1) = l.take k ∧ Ow runD.enc 84 wr w.heap.size (.slice (some ⟨w.heap.size, 0, none⟩) l.length l.length) (rs ++ List.replicate (l.length - k) (⟨0, ⟨0, 0, 0, 0, []⟩, 0, []⟩, (⟨none, 0, 0⟩, ⟨none, 0, 0⟩))) ∧ Ows runD wr G rs ∧ G.Nodup ∧ ∀ b ∈ G, w.heap.size < b) ∧ Below w.heap.size w wr) (fun i _ => l.length - (intOf i).toNat)
  case atStart => exact ⟨0, Nat.zero_le _, rfl, ⟨[], [], rfl, by rw [List.nil_append, Nat.sub_zero]; exact Ow.made runD.enc 84 w (⟨0, ⟨0, 0, 0, 0, []⟩, 0, []⟩, (⟨none, 0, 0⟩, ⟨none, 0, 0⟩)) l.length (by decide) (by simp [maxLen]; omega) rfl rfl, .nil, List.nodup_nil, fun _ h => by cases h⟩, (Below.refl _ _).alloc (Nat.le_refl _) _⟩
  case round =>
    obtain ⟨k, hk, rfl, ⟨rs, G, hm, hown, hG, hGn, hGb⟩, hb⟩ := hrel
    have hrl : rs.length = k := by have := congrArg List.length hm; simpa [Nat.min_eq_left hk] using this
    by_cases hlt : k < l.length
    · obtain ⟨b, o, s, rfl, hbb, hr, c0, c1, c2, c3, c4, c5, c6, c7⟩ := (h.below hb).run hlt
      have hx : ∀ W, Below wr.heap.size wr W → runD.rd W W.heap.size l[k] s := fun W hW => runD.rd_more (runD.rd_below (runD.rd_more hr hb.size) hW) hW.size
      have hlen : (rs ++ List.replicate (l.length - k) ((⟨0, ⟨0, 0, 0, 0, []⟩, 0, []⟩, (⟨none, 0, 0⟩, ⟨none, 0, 0⟩)) : (Run) × Sl × Sl)).length = l.length := by simp; omega
      have Hm := Lib.hid hm
      have Hrl := Lib.hid hrl
      clear hm hrl
      go_wp2_with (go_at_call 68; refine (toRun_own l[k] s _ (hcc k hlt) (hx _ (by first | exact Below.refl _ _ | exact (Below.refl _ _).drew))).mono ?_; rintro e w1 ⟨s1, F1, rfl, o1, n1, hb1⟩; have hown1 := hown.below hb1; have hf := hown1.free; obtain ⟨d0, d1, d2, d3, d4, d5, d6, d7⟩ := hown1.c_run (k := k) (by rw [hlen]; exact hlt))
      have hp := Ow.put hown1 hlen k hlt (l[k], s1)
      have Hp := Bld.lay hG hGn hGb hb1 (r := (l[k], s1)) o1 n1 (Nat.lt_of_lt_of_le (hown.blk).2 (Nat.le_refl _)) hp.2
      rw [mix_snoc rs _ k l.length Hrl.out hlt] at hp
      refine ⟨⟨k + 1, by omega, by go_num, ⟨rs ++ [(l[k], s1)], G ++ F1, ?_, hp.1, Hp.1, Hp.2.1, Hp.2.2⟩, (hb.trans (hb1.mono hb.size)).grown hp.2 (Nat.le_trans hb.size hb1.size) (fun g hg => by simp at hg; omega)⟩, by simp [intOf]; omega⟩
      rw [List.map_append, Hm.out, take_snoc l k hlt]
      rfl
    · have hk' : k = l.length := by omega
      subst hk'
      rw [Nat.sub_self, List.replicate_zero, List.append_nil] at hown
      go_wp2
      go_ret
      rw [List.take_length] at hm
      have hB : Bld runD 84 wr w.heap.size (.slice (some ⟨w.heap.size, 0, none⟩) l.length l.length) rs := ⟨G, by rw [← hrl]; exact (by rw [hrl]; exact hown), hG, hGn, fun b hb' => ⟨Nat.le_of_lt (hGb b hb'), by simp [Value.ownBlock]; have := hGb b hb'; omega⟩⟩
      obtain ⟨F, h1, h2⟩ := hB.owl hm
      exact ⟨⟨some ⟨w.heap.size, 0, none⟩, l.length, l.length⟩, F, rfl, h1, h2, hb⟩


theorem markRunS_own (l : List (Run)) (s : Sl) (F : List Nat) (k : Int) (w : World) (hl : cntL cntRun l ≤ 2000000) (hk0 : 0 ≤ k) (hk1 : k ≤ 900000000) (h : OwL runD w F s.v l) :
    Calls Tryz.prog 41 #[.slice s.a s.n s.c, .int .i64 k] w (MkPost (Dt.list runD) F (mkL mkRun numRun k l) s (k + (numL numRun l : Nat)) w) := by
  obtain ⟨A, n, c⟩ := s
  obtain ⟨A', c', hv, -⟩ := h.form
  simp only [Sl.v, Value.slice.injEq] at hv
  obtain ⟨rfl, rfl, rfl⟩ := hv
  have hll : l.length ≤ 2000000 := Nat.le_trans (cntL_len _ _) hl
  have hnl : ∀ j, numL numRun (l.take j) ≤ 26000000 := fun j => by
    have h1 := numL_take_le numRun l j
    have h2 := numL_le (num := numRun) (cnt := cntRun) (K := 13) numRun_le l
    omega
  have hcc : ∀ k (hk : k < l.length), cntRun l[k] ≤ 2000000 := fun k hk => by have := cntL_mem (cnt := cntRun) (List.getElem_mem hk); omega
  have Hnl := Lib.hid hnl
  clear hnl hl
  go_enter Tryz.func41, Tryz.ntmps41
  go_wp2
  go_loopw [1, 5] (fun q i wr => ∃ (j : Nat) (m : Int), j ≤ l.length ∧ i = .int .i64 j ∧ q = .int .i64 m ∧ Hid (m = k + (numL numRun (l.take j) : Nat)) ∧ OwL runD wr F (.slice A l.length c) (mkL mkRun numRun k (l.take j) ++ l.drop j) ∧ Chg F w wr) (fun _ i _ => l.length - (intOf i).toNat)
  case atStart => exact ⟨0, k, Nat.zero_le _, rfl, rfl, by show k = _; simp [numL], h, Chg.refl _ _⟩
  case round =>
    obtain ⟨j, m, hj, rfl, rfl, hm, ho, hc⟩ := hrel
    have hm' := hm.out
    have hnj := Hnl.out j
    have hm0 : 0 ≤ m := by omega
    have hm1 : m ≤ 926000000 := by omega
    clear hm' hnj
    by_cases hlt : j < l.length
    · have hltI : (j : Int) < (l.length : Int) := by omega
      have hlen : (mkL mkRun numRun k (l.take j) ++ l.drop j).length = l.length := by simp [mkL_length]; omega
      obtain ⟨b, o, rs, s, G1, Fx, G2, rfl, hF, hrm, f0⟩ := ho.foc (j := j) (by rw [hlen]; exact hlt)
      rw [mkL_here mkRun numRun k l j hlt] at f0
      subst hF
      have Hrm := Lib.hid hrm
      clear hrm ho
      obtain ⟨c0, c1, c2, c3, c4, c5, c6, c7⟩ := f0.run
      have fr0 := f0.free
      have hce0 : cntL cntEdge l[j].plan.edges ≤ 2000000 := by
        have := hcc j hlt
        unfold cntRun cntPlan at this
        omega
      have hne0 : numL numEdge l[j].plan.edges ≤ 26000000 := by
        have h2 := numL_le (num := numEdge) (cnt := cntEdge) (K := 13) numEdge_le l[j].plan.edges
        omega
      have hce1 : cntL cntTask l[j].tasks ≤ 2000000 := by
        have := hcc j hlt
        unfold cntRun cntPlan at this
        omega
      have hne1 : numL numTask l[j].tasks ≤ 26000000 := by
        have h2 := numL_le (num := numTask) (cnt := cntTask) (K := 13) numTask_le l[j].tasks
        omega
      go_wp2_with fail
      obtain ⟨f1, g1⟩ := f0.put ⟨m, ⟨m + 1, m + 1 + 1, m + 1 + 1 + 1, m + 1 + 1 + 1 + 1, l[j].plan.edges⟩, l[j].state, l[j].tasks⟩ 0 [.int .i64 (m), .int .i64 (m + 1), .int .i64 (m + 1 + 1), .int .i64 (m + 1 + 1 + 1), .int .i64 (m + 1 + 1 + 1 + 1)] (by show 0 + 5 ≤ 8; omega) (fun i hi => match i, hi with | 0, _ => rfl | 1, _ => rfl | 2, _ => rfl | 3, _ => rfl | 4, _ => rfl | i + 5, hi => absurd hi (by simp)) (fun i hi hx => match i, hi, hx with | 0, _, hx => absurd hx (by simp) | 1, _, hx => absurd hx (by simp) | 2, _, hx => absurd hx (by simp) | 3, _, hx => absurd hx (by simp) | 4, _, hx => absurd hx (by simp) | 5, _, _ => rfl | 6, _, _ => rfl | 7, _, _ => rfl | i + 8, hi, _ => absurd hi (by show ¬ (i + 8 < 8); omega)) (fun _ hh => hh)
      obtain ⟨Fa, Fb, hFx, hFn, ha, hb⟩ := f1.here
      subst hFx
      refine (markEdgeS_own l[j].plan.edges s.1 Fa _ _ hce0 (by omega) (by omega) ha).mono ?_
      rintro e w2 ⟨rfl, o2, g2'⟩
      have g2 := g2'.mono (G := Fa ++ Fb) (fun _ hh => List.mem_append_left _ hh)
      have f2 := f1.sub (y := ⟨m, ⟨m + 1, m + 1 + 1, m + 1 + 1 + 1, m + 1 + 1 + 1 + 1, mkL mkEdge numEdge (m + 1 + 1 + 1 + 1 + 1) l[j].plan.edges⟩, l[j].state, l[j].tasks⟩) g2 ⟨Fa, Fb, rfl, hFn, o2, Dt.ow_chg _ hb g2' (nodup_apart hFn).2⟩ rfl
      obtain ⟨c2_0, c2_1, c2_2, c2_3, c2_4, c2_5, c2_6, c2_7⟩ := f2.run
      have fr2 := f2.free
      go_wp2_with fail
      obtain ⟨f3, g3⟩ := f2.put ⟨m, ⟨m + 1, m + 1 + 1, m + 1 + 1 + 1, m + 1 + 1 + 1 + 1, mkL mkEdge numEdge (m + 1 + 1 + 1 + 1 + 1) l[j].plan.edges⟩, m + 1 + 1 + 1 + 1 + 1 + (numL numEdge l[j].plan.edges : Nat), l[j].tasks⟩ 6 [.int .i64 (m + 1 + 1 + 1 + 1 + 1 + (numL numEdge l[j].plan.edges : Nat))] (by show 6 + 1 ≤ 8; omega) (fun i hi => match i, hi with | 0, _ => rfl | i + 1, hi => absurd hi (by simp)) (fun i hi hx => match i, hi, hx with | 0, _, _ => rfl | 1, _, _ => rfl | 2, _, _ => rfl | 3, _, _ => rfl | 4, _, _ => rfl | 5, _, _ => rfl | 6, _, hx => absurd hx (by simp) | 7, _, _ => rfl | i + 8, hi, _ => absurd hi (by show ¬ (i + 8 < 8); omega)) (fun _ hh => hh)
      obtain ⟨Fa', Fb', hFx, hFn', ha', hb'⟩ := f3.here
      refine (markTaskS_own l[j].tasks s.2 Fb' _ _ hce1 (by omega) (by omega) hb').mono ?_
      rintro e w4 ⟨rfl, o4, g4'⟩
      have g4 := g4'.mono (G := Fa ++ Fb) (fun _ hh => by rw [hFx]; exact List.mem_append_right _ hh)
      have f4 := f3.sub (y := ⟨m, ⟨m + 1, m + 1 + 1, m + 1 + 1 + 1, m + 1 + 1 + 1 + 1, mkL mkEdge numEdge (m + 1 + 1 + 1 + 1 + 1) l[j].plan.edges⟩, m + 1 + 1 + 1 + 1 + 1 + (numL numEdge l[j].plan.edges : Nat), mkL mkTask numTask (m + 1 + 1 + 1 + 1 + 1 + (numL numEdge l[j].plan.edges : Nat) + 1) l[j].tasks⟩) g4 ⟨Fa', Fb', hFx, hFn', Dt.ow_chg _ ha' g4' (by rw [hFx] at hFn'; exact (nodup_apart hFn').1), o4⟩ rfl
      obtain ⟨c4_0, c4_1, c4_2, c4_3, c4_4, c4_5, c4_6, c4_7⟩ := f4.run
      have fr4 := f4.free
      go_wp2
      have hmf := hm.out
      have hown := f4.owl Hrm.out
      have hval : ⟨m, ⟨m + 1, m + 1 + 1, m + 1 + 1 + 1, m + 1 + 1 + 1 + 1, mkL mkEdge numEdge (m + 1 + 1 + 1 + 1 + 1) l[j].plan.edges⟩, m + 1 + 1 + 1 + 1 + 1 + (numL numEdge l[j].plan.edges : Nat), mkL mkTask numTask (m + 1 + 1 + 1 + 1 + 1 + (numL numEdge l[j].plan.edges : Nat) + 1) l[j].tasks⟩ = mkRun m l[j] := rfl
      have hset := mkL_set mkRun numRun k l j hlt
      rw [← hm.out] at hset
      rw [hval, hset] at hown
      have hnum : (numL numRun (l.take (j + 1)) : Nat) = numL numRun (l.take j) + numRun l[j] := sum_take_succ _ _ _ hlt
      refine ⟨⟨j + 1, m + 1 + 1 + 1 + 1 + 1 + (numL numEdge l[j].plan.edges : Nat) + 1 + (numL numTask l[j].tasks : Nat), by omega, by go_num, rfl, ?_, hown, ((((hc).trans (g1.mono (fun _ hh => mem_box hh))).trans (g2.mono (fun _ hh => mem_here hh))).trans (g3.mono (fun _ hh => mem_box hh))).trans (g4.mono (fun _ hh => mem_here hh))⟩, by simp [intOf]; omega⟩
      have hun : numRun l[j] = 6 + numL numEdge l[j].plan.edges + numL numTask l[j].tasks := rfl
      show m + 1 + 1 + 1 + 1 + 1 + (numL numEdge l[j].plan.edges : Nat) + 1 + (numL numTask l[j].tasks : Nat) = _
      rw [hnum, hun]
      push_cast
      omega
    · have hj' : j = l.length := by omega
      subst hj'
      rw [List.take_length, List.drop_length, List.append_nil] at ho
      go_wp2
      go_ret
      refine ⟨ret_int ?_, ho, hc⟩
      rw [hm.out, List.take_length]


theorem heldRunS_own (l : List (Run)) (s : Sl) (k : Int) (w : World) (hl : cntL cntRun l ≤ 2000000) (hk0 : 0 ≤ k) (hk1 : k ≤ 900000000) (h : RdL runD w w.heap.size s.v (mkL mkRun numRun k l)) :
    Calls Tryz.prog 77 #[.slice s.a s.n s.c, .int .i64 k] w fun e w' => e = .returned (.int .i64 (k + (numL numRun l : Nat))) ∧ Below w.heap.size w w' := by
  obtain ⟨A, n, c⟩ := s
  obtain ⟨A', c', hv, -⟩ := h.form
  simp only [Sl.v, Value.slice.injEq, mkL_length] at hv
  obtain ⟨rfl, rfl, rfl⟩ := hv
  have hll : l.length ≤ 2000000 := Nat.le_trans (cntL_len _ _) hl
  have hnl : ∀ j, numL numRun (l.take j) ≤ 26000000 := fun j => by
    have h1 := numL_take_le numRun l j
    have h2 := numL_le (num := numRun) (cnt := cntRun) (K := 13) numRun_le l
    omega
  have hcc : ∀ k (hk : k < l.length), cntRun l[k] ≤ 2000000 := fun k hk => by have := cntL_mem (cnt := cntRun) (List.getElem_mem hk); omega
  have hcell : ∀ (wr : World) (j : Nat) (hj : j < l.length) (m : Int), Below w.heap.size w wr → m = k + (numL numRun (l.take j) : Nat) → ∃ b o, ∃ s : Sl × Sl, A = some ⟨b, o, none⟩ ∧ b < w.heap.size ∧ runD.rd wr w.heap.size (mkRun m l[j]) s ∧ wr.cell? ⟨b, o + j * 8, none⟩ = some (.int .i64 (m)) ∧ wr.cell? ⟨b, o + j * 8 + 1, none⟩ = some (.int .i64 (m + 1)) ∧ wr.cell? ⟨b, o + j * 8 + 2, none⟩ = some (.int .i64 (m + 1 + 1)) ∧ wr.cell? ⟨b, o + j * 8 + 3, none⟩ = some (.int .i64 (m + 1 + 1 + 1)) ∧ wr.cell? ⟨b, o + j * 8 + 4, none⟩ = some (.int .i64 (m + 1 + 1 + 1 + 1)) ∧ wr.cell? ⟨b, o + j * 8 + 5, none⟩ = some (.slice s.1.a s.1.n s.1.c) ∧ wr.cell? ⟨b, o + j * 8 + 6, none⟩ = some (.int .i64 (m + 1 + 1 + 1 + 1 + 1 + (numL numEdge l[j].plan.edges : Nat))) ∧ wr.cell? ⟨b, o + j * 8 + 7, none⟩ = some (.slice s.2.a s.2.n s.2.c) := by
    intro wr j hj m hb hm
    obtain ⟨b, o, s, h1, h2, h3, h4⟩ := (h.below hb).run (k := j) (by rw [mkL_length]; exact hj)
    first | rw [mkL_get _ _ _ _ _ hj, ← hm] at h3 h4 | rw [mkL_get _ _ _ _ _ hj, ← hm] at h3
    exact ⟨b, o, s, h1, h2, h3, h4⟩
  have Hc := Lib.hid hcell
  have Hnl := Lib.hid hnl
  clear hcell hnl hl
  go_enter Tryz.func77, Tryz.ntmps77
  go_wp2
  go_loopw [1, 5] (fun q i wr => ∃ (j : Nat) (m : Int), j ≤ l.length ∧ i = .int .i64 j ∧ q = .int .i64 m ∧ Hid (m = k + (numL numRun (l.take j) : Nat)) ∧ Below w.heap.size w wr) (fun _ i _ => l.length - (intOf i).toNat)
  case atStart => exact ⟨0, k, Nat.zero_le _, rfl, rfl, by show k = _; simp [numL], Below.refl _ _⟩
  case round =>
    obtain ⟨j, m, hj, rfl, rfl, hm, hb⟩ := hrel
    have hm' := hm.out
    have hnj := Hnl.out j
    have hm0 : 0 ≤ m := by omega
    have hm1 : m ≤ 926000000 := by omega
    clear hm' hnj
    by_cases hlt : j < l.length
    · have hltI : (j : Int) < (l.length : Int) := by omega
      obtain ⟨b, o, s, rfl, hbb, hrd, c0, c1, c2, c3, c4, c5, c6, c7⟩ := Hc.out wr j hlt m hb hm.out
      have hx : ∀ W, Below wr.heap.size wr W → runD.rd W W.heap.size (mkRun m l[j]) s := fun W hW => runD.rd_more (runD.rd_below (runD.rd_more hrd hb.size) hW) hW.size
      have hce0 : cntL cntEdge l[j].plan.edges ≤ 2000000 := by
        have := hcc j hlt
        unfold cntRun cntPlan at this
        omega
      have hne0 : numL numEdge l[j].plan.edges ≤ 26000000 := by
        have h2 := numL_le (num := numEdge) (cnt := cntEdge) (K := 13) numEdge_le l[j].plan.edges
        omega
      have hce1 : cntL cntTask l[j].tasks ≤ 2000000 := by
        have := hcc j hlt
        unfold cntRun cntPlan at this
        omega
      have hne1 : numL numTask l[j].tasks ≤ 26000000 := by
        have h2 := numL_le (num := numTask) (cnt := cntTask) (K := 13) numTask_le l[j].tasks
        omega
      go_wp2_with fail
      refine (heldEdgeS_own l[j].plan.edges s.1 _ _ hce0 (by omega) (by omega) (hx _ (by first | exact Below.refl _ _ | exact (Below.refl _ _).drew)).1).mono ?_
      rintro e v0 ⟨rfl, hb0⟩
      have B0 : Below wr.heap.size wr v0 := bnext (by first | exact Below.refl _ _ | exact (Below.refl _ _).drew) hb0
      obtain ⟨q0, p0⟩ := bcell B0
      have hbr0 := Nat.lt_of_lt_of_le hbb hb.size
      go_wp2_with fail
      refine (heldTaskS_own l[j].tasks s.2 _ _ hce1 (by omega) (by omega) (hx _ B0).2).mono ?_
      rintro e v1 ⟨rfl, hb1⟩
      have B1 : Below wr.heap.size wr v1 := bnext B0 hb1
      obtain ⟨q1, p1⟩ := bcell B1
      have hbr1 := Nat.lt_of_lt_of_le hbb hb.size
      go_wp2
      have hnum : (numL numRun (l.take (j + 1)) : Nat) = numL numRun (l.take j) + numRun l[j] := sum_take_succ _ _ _ hlt
      refine ⟨⟨j + 1, m + 1 + 1 + 1 + 1 + 1 + (numL numEdge l[j].plan.edges : Nat) + 1 + (numL numTask l[j].tasks : Nat), by omega, by go_num, rfl, ?_, bnext hb B1⟩, by simp [intOf]; omega⟩
      have hun : numRun l[j] = 6 + numL numEdge l[j].plan.edges + numL numTask l[j].tasks := rfl
      have hmf := hm.out
      show m + 1 + 1 + 1 + 1 + 1 + (numL numEdge l[j].plan.edges : Nat) + 1 + (numL numTask l[j].tasks : Nat) = _
      rw [hnum, hun]
      push_cast
      omega
    · have hj' : j = l.length := by omega
      subst hj'
      go_wp2
      go_ret
      refine ⟨ret_int ?_, hb⟩
      rw [hm.out, List.take_length]

end Go.Proofs.YtjobmbjadpldfaaGreat
end
section
namespace Go.Proofs.YtjobmbjadpldfaaGreat
open Go.RowKit
set_option maxRecDepth 100000
set_option maxHeartbeats 1000000
set_option linter.unusedVariables false
set_option linter.unusedSimpArgs false

structure Deed where
  kind : Int
  run : Int
  plan : Plan
  task : Int
  try_ : Int
  worker : Int
  draw : Int
deriving DecidableEq, Inhabited

@[go_sem] abbrev deedW (x : Deed) (s : Sl) : Value := .agg #[.int .i64 x.kind, .int .i64 x.run, .int .i64 x.plan.prio, .int .i64 x.plan.most, .int .i64 x.plan.wait, .int .i64 x.plan.tasks, .slice s.a s.n s.c, .int .i64 x.task, .int .i64 x.try_, .int .i64 x.worker, .int .i64 x.draw]
abbrev deedD : Dt Deed := Dt.via planD (·.plan) (fun q => [.int .i64 q.1.kind, .int .i64 q.1.run, .int .i64 q.1.plan.prio, .int .i64 q.1.plan.most, .int .i64 q.1.plan.wait, .int .i64 q.1.plan.tasks, .slice q.2.a q.2.n q.2.c, .int .i64 q.1.task, .int .i64 q.1.try_, .int .i64 q.1.worker, .int .i64 q.1.draw]) 11 (fun _ => rfl) (fun q u hu => by simp at hu; rcases hu with rfl | rfl | rfl | rfl | rfl | rfl | rfl | rfl | rfl | rfl | rfl <;> rfl)
/-- all lengths in it together -/
def cntDeed (x : Deed) : Nat := cntPlan x.plan
/-- ints are int64, lengths are what a machine holds -/
def wfDeed (x : Deed) : Prop := Wf x.kind ∧ Wf x.run ∧ wfPlan x.plan ∧ Wf x.task ∧ Wf x.try_ ∧ Wf x.worker ∧ Wf x.draw
def numDeed (x : Deed) : Nat := 10 + numL numEdge x.plan.edges
/-- with the marks from k on -/
def mkDeed (k : Int) (x : Deed) : Deed := ⟨k, k + 1, ⟨k + 1 + 1, k + 1 + 1 + 1, k + 1 + 1 + 1 + 1, k + 1 + 1 + 1 + 1 + 1, mkL mkEdge numEdge (k + 1 + 1 + 1 + 1 + 1 + 1) x.plan.edges⟩, k + 1 + 1 + 1 + 1 + 1 + 1 + (numL numEdge x.plan.edges : Nat), k + 1 + 1 + 1 + 1 + 1 + 1 + (numL numEdge x.plan.edges : Nat) + 1, k + 1 + 1 + 1 + 1 + 1 + 1 + (numL numEdge x.plan.edges : Nat) + 1 + 1, k + 1 + 1 + 1 + 1 + 1 + 1 + (numL numEdge x.plan.edges : Nat) + 1 + 1 + 1⟩
theorem numDeed_le (x : Deed) : numDeed x ≤ 13 * (cntDeed x + 1) := by
  have h0 := numL_le (num := numEdge) (cnt := cntEdge) (K := 13) numEdge_le x.plan.edges
  unfold numDeed cntDeed cntPlan
  omega

theorem RdL.deed {w : World} {B : Nat} {A : Option Addr} {n c : Nat} {l : List (Deed)} (h : RdL deedD w B (.slice A n c) l) {k : Nat} (hk : k < l.length) :
    ∃ b o, ∃ s : Sl, A = some ⟨b, o, none⟩ ∧ b < B ∧ deedD.rd w B l[k] s ∧ w.cell? ⟨b, o + k * 11, none⟩ = some (.int .i64 l[k].kind) ∧ w.cell? ⟨b, o + k * 11 + 1, none⟩ = some (.int .i64 l[k].run) ∧ w.cell? ⟨b, o + k * 11 + 2, none⟩ = some (.int .i64 l[k].plan.prio) ∧ w.cell? ⟨b, o + k * 11 + 3, none⟩ = some (.int .i64 l[k].plan.most) ∧ w.cell? ⟨b, o + k * 11 + 4, none⟩ = some (.int .i64 l[k].plan.wait) ∧ w.cell? ⟨b, o + k * 11 + 5, none⟩ = some (.int .i64 l[k].plan.tasks) ∧ w.cell? ⟨b, o + k * 11 + 6, none⟩ = some (.slice s.a s.n s.c) ∧ w.cell? ⟨b, o + k * 11 + 7, none⟩ = some (.int .i64 l[k].task) ∧ w.cell? ⟨b, o + k * 11 + 8, none⟩ = some (.int .i64 l[k].try_) ∧ w.cell? ⟨b, o + k * 11 + 9, none⟩ = some (.int .i64 l[k].worker) ∧ w.cell? ⟨b, o + k * 11 + 10, none⟩ = some (.int .i64 l[k].draw) := by
  obtain ⟨b, o, s, rfl, hb, hc, hr⟩ := h.at_ k hk
  exact ⟨b, o, s, rfl, hb, hr, hc 0 _ rfl, hc 1 _ rfl, hc 2 _ rfl, hc 3 _ rfl, hc 4 _ rfl, hc 5 _ rfl, hc 6 _ rfl, hc 7 _ rfl, hc 8 _ rfl, hc 9 _ rfl, hc 10 _ rfl⟩
theorem Ow.c_deed {E : TypeId} {w : World} {base g n cap : Nat} {l : List ((Deed) × Sl)} (h : Ow deedD.enc E w base (.slice (some ⟨g, 0, none⟩) n cap) l) {k : Nat} (hk : k < l.length) :
    w.cell? ⟨g, k * 11, none⟩ = some (.int .i64 l[k].1.kind) ∧ w.cell? ⟨g, k * 11 + 1, none⟩ = some (.int .i64 l[k].1.run) ∧ w.cell? ⟨g, k * 11 + 2, none⟩ = some (.int .i64 l[k].1.plan.prio) ∧ w.cell? ⟨g, k * 11 + 3, none⟩ = some (.int .i64 l[k].1.plan.most) ∧ w.cell? ⟨g, k * 11 + 4, none⟩ = some (.int .i64 l[k].1.plan.wait) ∧ w.cell? ⟨g, k * 11 + 5, none⟩ = some (.int .i64 l[k].1.plan.tasks) ∧ w.cell? ⟨g, k * 11 + 6, none⟩ = some (.slice l[k].2.a l[k].2.n l[k].2.c) ∧ w.cell? ⟨g, k * 11 + 7, none⟩ = some (.int .i64 l[k].1.task) ∧ w.cell? ⟨g, k * 11 + 8, none⟩ = some (.int .i64 l[k].1.try_) ∧ w.cell? ⟨g, k * 11 + 9, none⟩ = some (.int .i64 l[k].1.worker) ∧ w.cell? ⟨g, k * 11 + 10, none⟩ = some (.int .i64 l[k].1.draw) := by
  rcases h.form with ⟨h1, _⟩ | ⟨g', cap', hv, _, _, _, _, _, hc⟩
  · simp at h1
  · simp only [Value.slice.injEq, Option.some.injEq, Addr.mk.injEq, and_true] at hv
    obtain ⟨rfl, _, _⟩ := hv
    exact ⟨hc k hk 0 _ rfl, hc k hk 1 _ rfl, hc k hk 2 _ rfl, hc k hk 3 _ rfl, hc k hk 4 _ rfl, hc k hk 5 _ rfl, hc k hk 6 _ rfl, hc k hk 7 _ rfl, hc k hk 8 _ rfl, hc k hk 9 _ rfl, hc k hk 10 _ rfl⟩
theorem Foc.deed {w : World} {b o n c j : Nat} {rs : List ((Deed) × Sl)} {G1 Fx G2 : List Nat} {x : Deed} {s : Sl} (h : Foc deedD w b o n c rs j G1 Fx G2 x s) :
    w.cell? ⟨b, o + j * 11, none⟩ = some (.int .i64 x.kind) ∧ w.cell? ⟨b, o + j * 11 + 1, none⟩ = some (.int .i64 x.run) ∧ w.cell? ⟨b, o + j * 11 + 2, none⟩ = some (.int .i64 x.plan.prio) ∧ w.cell? ⟨b, o + j * 11 + 3, none⟩ = some (.int .i64 x.plan.most) ∧ w.cell? ⟨b, o + j * 11 + 4, none⟩ = some (.int .i64 x.plan.wait) ∧ w.cell? ⟨b, o + j * 11 + 5, none⟩ = some (.int .i64 x.plan.tasks) ∧ w.cell? ⟨b, o + j * 11 + 6, none⟩ = some (.slice s.a s.n s.c) ∧ w.cell? ⟨b, o + j * 11 + 7, none⟩ = some (.int .i64 x.task) ∧ w.cell? ⟨b, o + j * 11 + 8, none⟩ = some (.int .i64 x.try_) ∧ w.cell? ⟨b, o + j * 11 + 9, none⟩ = some (.int .i64 x.worker) ∧ w.cell? ⟨b, o + j * 11 + 10, none⟩ = some (.int .i64 x.draw) := ⟨h.cells 0 _ rfl, h.cells 1 _ rfl, h.cells 2 _ rfl, h.cells 3 _ rfl, h.cells 4 _ rfl, h.cells 5 _ rfl, h.cells 6 _ rfl, h.cells 7 _ rfl, h.cells 8 _ rfl, h.cells 9 _ rfl, h.cells 10 _ rfl⟩

end Go.Proofs.YtjobmbjadpldfaaGreat
end
section
namespace Go.Proofs.YtjobmbjadpldfaaGreat
open Go.RowKit
set_option maxRecDepth 100000
set_option maxHeartbeats 1000000

theorem idxOf_any {α : Type} {p : α → Bool} {l : List α} : (0 ≤ idxOf p l) ↔ ∃ x ∈ l, p x = true := by
  unfold idxOf
  cases h : l.findIdx? p with
  | none =>
    rw [List.findIdx?_eq_none_iff] at h
    simp only
    refine ⟨fun h => absurd h (by omega), ?_⟩
    rintro ⟨x, hx, hp⟩
    have := h x hx
    rw [hp] at this
    cases this
  | some i =>
    rw [List.findIdx?_eq_some_iff_getElem] at h
    obtain ⟨hi, hp, _⟩ := h
    simp only
    exact ⟨fun _ => ⟨_, List.getElem_mem hi, hp⟩, fun _ => by omega⟩

theorem indexInt_any (v : Value) (l : List Nat) (x : Nat) (B : Nat) (w : World) (hl : l.length ≤ 2000000) (h : Rd natE w B v l) :
    Calls Tryz.prog 86 #[v, .int .i64 (x : Int)] w fun e w' => e = .returned (.int .i64 (idxOf (fun y => decide (x = y)) l)) ∧ w = w' := by
  obtain ⟨A, c, rfl, -⟩ := id h
  go_enter Tryz.func86, Tryz.ntmps86
  go_wp2
  go_loop [8] (fun i => ∃ k : Nat, k ≤ l.length ∧ i = .int .i64 k ∧ Hid (∀ j (hj : j < k) (hj' : j < l.length), decide (x = l[j]) = false)) (fun i => l.length - (intOf i).toNat)
  case atStart => exact ⟨0, Nat.zero_le _, rfl, fun j hj => absurd hj (by omega)⟩
  case round =>
    obtain ⟨k, hk, rfl, hno⟩ := hrel
    by_cases hlt : k < l.length
    · obtain ⟨b, o, rfl, hbb, c0⟩ := h.nat hlt
      have hltI : (k : Int) < (l.length : Int) := by omega
      by_cases hx : x = l[k]
      · have H := Lib.hid (idxOf_found (p := fun y => decide (x = y)) hlt (fun j hj => hno.out j hj (by omega)) (show decide (x = l[k]) = true by simp [hx]))
        have hxb : ((x : Int) == (l[k] : Int)) = true := by simp [hx]
        clear hx
        go_wp2
        go_ret
        exact ⟨ret_int (by rw [H.out]), rfl⟩
      · have hxb : ((x : Int) == (l[k] : Int)) = false := beq_eq_false_iff_ne.2 (by omega)
        have S : Hid (∀ j (hj : j < k + 1) (hj' : j < l.length), decide (x = l[j]) = false) := by
          intro j hj hj'
          by_cases e : j = k
          · subst e; simpa using hx
          · exact hno.out j (by omega) hj'
        clear hx
        go_wp2
        exact ⟨⟨k + 1, by omega, by go_num, S⟩, by simp [intOf]; omega⟩
    · have hltI : ¬ (k : Int) < (l.length : Int) := by omega
      have H := Lib.hid (idxOf_none (p := fun y => decide (x = y)) (l := l) (fun j hj => hno.out j (by omega) hj))
      go_wp2
      go_ret
      exact ⟨ret_int (by rw [H.out]), rfl⟩

theorem containsInt_any (v : Value) (l : List Nat) (x : Nat) (B : Nat) (w : World) (hl : l.length ≤ 2000000) (h : Rd natE w B v l) :
    Calls Tryz.prog 58 #[v, .int .i64 (x : Int)] w fun e w' => e = .returned (.bool (decide (x ∈ l))) ∧ w = w' := by
  have H := Lib.hid (show decide (0 ≤ idxOf (fun y => decide (x = y)) l) = decide (x ∈ l) from decide_eq_decide.2 (idxOf_any.trans (by simp)))
  go_enter Tryz.func58, Tryz.ntmps58
  go_wp2_with fail
  refine (indexInt_any v l x B _ hl h).mono ?_
  rintro e w1 ⟨rfl, rfl⟩
  go_wp2_with fail
  go_ret
  exact ⟨ret_bool (by rw [← H.out]), rfl⟩

end Go.Proofs.YtjobmbjadpldfaaGreat
end
section
namespace Go.Proofs.YtjobmbjadpldfaaGreat
open Go.RowKit
set_option maxRecDepth 100000
set_option maxHeartbeats 1000000
set_option linter.unusedVariables false
set_option linter.unusedSimpArgs false

structure Yard where
  now : Int
  seq : Int
  shelf : List (List Entry)
  runs : List Run
deriving DecidableEq, Inhabited

@[go_sem] abbrev yardW (x : Yard) (s : Sl × Sl) : Value := .agg #[.int .i64 x.now, .int .i64 x.seq, .slice s.1.a s.1.n s.1.c, .slice s.2.a s.2.n s.2.c]
abbrev yardD : Dt Yard := Dt.two (Dt.list (Dt.list entryD)) (Dt.list runD) (·.shelf) (·.runs) (fun q => [.int .i64 q.1.now, .int .i64 q.1.seq, .slice q.2.1.a q.2.1.n q.2.1.c, .slice q.2.2.a q.2.2.n q.2.2.c]) 4 (fun _ => rfl) (fun q u hu => by simp at hu; rcases hu with rfl | rfl | rfl | rfl <;> rfl)
/-- all lengths in it together -/
def cntYard (x : Yard) : Nat := cntL cntEntryS x.shelf + cntL cntRun x.runs
/-- ints are int64, lengths are what a machine holds -/
def wfYard (x : Yard) : Prop := Wf x.now ∧ Wf x.seq ∧ wfL wfEntryS x.shelf ∧ wfL wfRun x.runs
def numYard (x : Yard) : Nat := 2 + numL numEntryS x.shelf + numL numRun x.runs
/-- with the marks from k on -/
def mkYard (k : Int) (x : Yard) : Yard := ⟨k, k + 1, mkL mkEntryS numEntryS (k + 1 + 1) x.shelf, mkL mkRun numRun (k + 1 + 1 + (numL numEntryS x.shelf : Nat)) x.runs⟩
theorem numYard_le (x : Yard) : numYard x ≤ 13 * (cntYard x + 1) := by
  have h0 := numL_le (num := numEntryS) (cnt := cntEntryS) (K := 13) numEntryS_le x.shelf
  have h1 := numL_le (num := numRun) (cnt := cntRun) (K := 13) numRun_le x.runs
  unfold numYard cntYard
  omega

theorem toYard_own (x : Yard) (s : Sl × Sl) (w : World) (hl : cntYard x ≤ 2000000) (h : yardD.rd w w.heap.size x s) :
    Calls Tryz.prog 13 #[yardW x s] w (OwnPost yardD yardW x w) := by
  have hbx : ∀ W, Below w.heap.size w W → yardD.rd W W.heap.size x s := fun W hW => yardD.rd_more (yardD.rd_below h hW) hW.size
  go_enter Tryz.func13, Tryz.ntmps13
  go_wp2_with fail
  refine (toEntrySS_own x.shelf s.1 _ (by unfold cntYard at hl; omega) ((hbx _ (by repeat (first | exact Below.refl _ _ | refine Below.alloc ?_ (by simp <;> omega) _))).1)).mono ?_
  rintro e w0 ⟨s0, F0, rfl, o0, n0, hb0⟩
  obtain ⟨q0, p0⟩ := bcell hb0
  have z0 := hb0.size
  simp only [World.size_alloc, World.size_setCell] at z0 n0
  have B0 : Below w.heap.size w w0 := bnext (by repeat (first | exact Below.refl _ _ | refine Below.alloc ?_ (by simp <;> omega) _)) hb0
  go_wp2_with fail
  refine (toRunS_own x.runs s.2 _ (by unfold cntYard at hl; omega) ((hbx _ (by repeat (first | (with_reducible exact B0) | (with_reducible exact Below.refl _ _) | refine Below.setCell ?_ (by simp <;> omega) _ | refine Below.alloc ?_ (by simp <;> omega) _))).2)).mono ?_
  rintro e w1 ⟨s1, F1, rfl, o1, n1, hb1⟩
  obtain ⟨q1, p1⟩ := bcell hb1
  have z1 := hb1.size
  simp only [World.size_alloc, World.size_setCell] at z1 n1 q1 p1
  have B1 : Below w.heap.size w w1 := bnext (by repeat (first | (with_reducible exact B0) | (with_reducible exact Below.refl _ _) | refine Below.setCell ?_ (by simp <;> omega) _ | refine Below.alloc ?_ (by simp <;> omega) _)) hb1
  have q1a := fun o => q1 w.heap.size o (by omega)
  have p1a := fun o => p1 w.heap.size o (by omega)
  have q1b := fun o => q1 (w.heap.size + 1) o (by omega)
  have p1b := fun o => p1 (w.heap.size + 1) o (by omega)
  have q1c := fun o => q1 (w.heap.size + 1 + 1) o (by omega)
  have p1c := fun o => p1 (w.heap.size + 1 + 1) o (by omega)
  go_wp2
  refine bodyPost_ret (v := yardW x (s0, s1)) ?_ rfl ?_
  · simp [yardW, results, Tryz.results13, go_sem, q0, q1, q1a, q1b, q1c]
  · refine ⟨(s0, s1), F0 ++ F1, rfl, ⟨F0, F1, rfl, ?_, ?_, ?_⟩, ?_, ?_⟩
    · rw [List.nodup_append]
      refine ⟨Dt.ow_nodup (Dt.list (Dt.list entryD)) o0, Dt.ow_nodup (Dt.list runD) o1, fun u hu u' hu' e => ?_⟩
      have h1 := Dt.ow_lt (Dt.list (Dt.list entryD)) o0 u hu
      have h2 := n1 u' hu'
      omega
    · repeat (first | (with_reducible exact o0) | refine Dt.ow_set (Dt.list (Dt.list entryD)) ?_ (by intro hm; have := n0 _ hm; (try simp only [World.size_alloc, World.size_setCell] at this); omega) _ | (with_reducible refine Dt.ow_below (Dt.list (Dt.list entryD)) ?_ hb1))
    · repeat (first | (with_reducible exact o1) | refine Dt.ow_set (Dt.list runD) ?_ (by intro hm; have := n1 _ hm; (try simp only [World.size_alloc, World.size_setCell] at this); omega) _)
    · intro u hu
      rcases List.mem_append.1 hu with hu | hu
      · have := n0 u hu
        omega
      · have := n1 u hu
        omega
    · repeat (first | (with_reducible exact B1) | (with_reducible exact Below.refl _ _) | refine Below.setCell ?_ (by simp <;> omega) _ | refine Below.alloc ?_ (by simp <;> omega) _)

theorem eqYard_own (x y : Yard) (s r : Sl × Sl) (w : World) (hl : cntYard x ≤ 2000000) (hl' : cntYard y ≤ 2000000) (h : yardD.rd w w.heap.size x s) (h' : yardD.rd w w.heap.size y r) :
    Calls Tryz.prog 16 #[yardW x s, yardW y r] w fun e w' => e = .returned (.bool (decide (x = y))) ∧ Below w.heap.size w w' := by
  have hbx : ∀ W, Below w.heap.size w W → yardD.rd W W.heap.size x s := fun W hW => yardD.rd_more (yardD.rd_below h hW) hW.size
  have hby : ∀ W, Below w.heap.size w W → yardD.rd W W.heap.size y r := fun W hW => yardD.rd_more (yardD.rd_below h' hW) hW.size
  by_cases h0 : x.now = y.now
  case neg =>
    have t0 : (x.now != y.now) = true := by rw [bne_iff_ne]; exact h0
    have H := Lib.hid (show decide (x = y) = false by simp only [decide_eq_false_iff_not]; intro e; exact h0 (by rw [e]))
    clear h0
    go_enter Tryz.func16, Tryz.ntmps16
    go_wp2
    go_ret
    exact ⟨ret_bool (by first | exact H.out.symm | rfl), by repeat (first | exact Below.refl _ _ | refine Below.alloc ?_ (by simp <;> omega) _)⟩
  have t0 : (x.now != y.now) = false := by simp [h0]
  have H0 := Lib.hid h0
  clear h0
  by_cases h1 : x.seq = y.seq
  case neg =>
    have t1 : (x.seq != y.seq) = true := by rw [bne_iff_ne]; exact h1
    have H := Lib.hid (show decide (x = y) = false by simp only [decide_eq_false_iff_not]; intro e; exact h1 (by rw [e]))
    clear h1
    go_enter Tryz.func16, Tryz.ntmps16
    go_wp2
    go_ret
    exact ⟨ret_bool (by first | exact H.out.symm | rfl), by repeat (first | exact Below.refl _ _ | refine Below.alloc ?_ (by simp <;> omega) _)⟩
  have t1 : (x.seq != y.seq) = false := by simp [h1]
  have H1 := Lib.hid h1
  clear h1
  go_enter Tryz.func16, Tryz.ntmps16
  go_wp2_with fail
  refine (eqEntrySS_own x.shelf y.shelf s.1 r.1 _ (by unfold cntYard at hl; omega) (by unfold cntYard at hl'; omega) ((hbx _ (by repeat (first | exact Below.refl _ _ | refine Below.alloc ?_ (by simp <;> omega) _))).1) ((hby _ (by repeat (first | exact Below.refl _ _ | refine Below.alloc ?_ (by simp <;> omega) _))).1)).mono ?_
  rintro e w2 ⟨rfl, hb2⟩
  have B2 : Below w.heap.size w w2 := bnext (by repeat (first | exact Below.refl _ _ | refine Below.alloc ?_ (by simp <;> omega) _)) hb2
  obtain ⟨q2, p2⟩ := bcell hb2
  by_cases h2 : x.shelf = y.shelf
  case neg =>
    have H := Lib.hid (show decide (x = y) = false by simp only [decide_eq_false_iff_not]; intro e; exact h2 (by rw [e]))
    rw [decide_eq_false h2]
    clear h2
    go_wp2
    go_ret
    exact ⟨ret_bool (by first | exact H.out.symm | rfl), by exact B2⟩
  rw [decide_eq_true h2]
  have H2 := Lib.hid h2
  clear h2
  go_wp2_with fail
  refine (eqRunS_own x.runs y.runs s.2 r.2 _ (by unfold cntYard at hl; omega) (by unfold cntYard at hl'; omega) ((hbx _ (by first | exact B2 | (repeat (first | exact Below.refl _ _ | refine Below.alloc ?_ (by simp <;> omega) _)))).2) ((hby _ (by first | exact B2 | (repeat (first | exact Below.refl _ _ | refine Below.alloc ?_ (by simp <;> omega) _)))).2)).mono ?_
  rintro e w3 ⟨rfl, hb3⟩
  have B3 : Below w.heap.size w w3 := bnext (by first | exact B2 | (repeat (first | exact Below.refl _ _ | refine Below.alloc ?_ (by simp <;> omega) _))) hb3
  obtain ⟨q3, p3⟩ := bcell hb3
  by_cases h3 : x.runs = y.runs
  case neg =>
    have H := Lib.hid (show decide (x = y) = false by simp only [decide_eq_false_iff_not]; intro e; exact h3 (by rw [e]))
    rw [decide_eq_false h3]
    clear h3
    go_wp2
    go_ret
    exact ⟨ret_bool (by first | exact H.out.symm | rfl), by exact B3⟩
  rw [decide_eq_true h3]
  have H3 := Lib.hid h3
  clear h3
  have H := Lib.hid (show decide (x = y) = true by
    simp only [decide_eq_true_eq]
    have hh := And.intro H0.out (And.intro H1.out (And.intro H2.out H3.out))
    obtain ⟨e0, e1, e2, e3⟩ := hh
    cases x
    cases y
    simp only at e0 e1 e2 e3
    subst e0 e1 e2 e3
    rfl)
  go_wp2
  go_ret
  exact ⟨ret_bool (by first | exact H.out.symm | rfl), by exact B3⟩

theorem szYard_own (x : Yard) (s : Sl × Sl) (left : Int) (w : World) (h0 : 0 ≤ left) (h1 : left ≤ 2000000) (hw : wfYard x) (h : yardD.rd w w.heap.size x s) :
    Calls Tryz.prog 11 #[yardW x s, .int .i64 left] w (SzPost left (cntYard x) w) := by
  have hbx : ∀ W, Below w.heap.size w W → yardD.rd W W.heap.size x s := fun W hW => yardD.rd_more (yardD.rd_below h hW) hW.size
  go_enter Tryz.func11, Tryz.ntmps11
  go_wp2_with fail
  refine (szEntrySS_own x.shelf s.1 left _ (by omega) (by omega) hw.2.2.1 ((hbx _ (by repeat (first | exact Below.refl _ _ | refine Below.alloc ?_ (by simp <;> omega) _))).1)).mono ?_
  rintro e w0 ⟨r0, rfl, hr0, hb0⟩
  have B0 : Below w.heap.size w w0 := bnext (by repeat (first | exact Below.refl _ _ | refine Below.alloc ?_ (by simp <;> omega) _)) hb0
  obtain ⟨q0, p0⟩ := bcell hb0
  rcases hr0 with rfl | ⟨y0, z0⟩
  · go_wp2
    go_ret
    exact ⟨-1, rfl, .inl rfl, B0⟩
  go_wp2_with fail
  refine (szRunS_own x.runs s.2 r0 _ (by omega) (by omega) hw.2.2.2 ((hbx _ B0).2)).mono ?_
  rintro e w1 ⟨r1, rfl, hr1, hb1⟩
  have B1 : Below w.heap.size w w1 := bnext B0 hb1
  obtain ⟨q1, p1⟩ := bcell hb1
  rcases hr1 with rfl | ⟨y1, z1⟩
  · go_wp2
    go_ret
    exact ⟨-1, rfl, .inl rfl, B1⟩
  go_wp2
  go_ret
  exact ⟨_, rfl, .inr ⟨by omega, by unfold cntYard; omega⟩, B1⟩
end Go.Proofs.YtjobmbjadpldfaaGreat
end
section
namespace Go.Proofs.YtjobmbjadpldfaaGreat
open Go.RowKit
set_option maxRecDepth 100000
set_option maxHeartbeats 1000000
set_option linter.unusedVariables false
set_option linter.unusedSimpArgs false

structure Note where
  seq : Int
  deed : Deed
deriving DecidableEq, Inhabited

@[go_sem] abbrev noteW (x : Note) (s : Sl) : Value := .agg #[.int .i64 x.seq, .int .i64 x.deed.kind, .int .i64 x.deed.run, .int .i64 x.deed.plan.prio, .int .i64 x.deed.plan.most, .int .i64 x.deed.plan.wait, .int .i64 x.deed.plan.tasks, .slice s.a s.n s.c, .int .i64 x.deed.task, .int .i64 x.deed.try_, .int .i64 x.deed.worker, .int .i64 x.deed.draw]
abbrev noteD : Dt Note := Dt.via deedD (·.deed) (fun q => [.int .i64 q.1.seq, .int .i64 q.1.deed.kind, .int .i64 q.1.deed.run, .int .i64 q.1.deed.plan.prio, .int .i64 q.1.deed.plan.most, .int .i64 q.1.deed.plan.wait, .int .i64 q.1.deed.plan.tasks, .slice q.2.a q.2.n q.2.c, .int .i64 q.1.deed.task, .int .i64 q.1.deed.try_, .int .i64 q.1.deed.worker, .int .i64 q.1.deed.draw]) 12 (fun _ => rfl) (fun q u hu => by simp at hu; rcases hu with rfl | rfl | rfl | rfl | rfl | rfl | rfl | rfl | rfl | rfl | rfl | rfl <;> rfl)
/-- all lengths in it together -/
def cntNote (x : Note) : Nat := cntDeed x.deed
/-- ints are int64, lengths are what a machine holds -/
def wfNote (x : Note) : Prop := Wf x.seq ∧ wfDeed x.deed
def numNote (x : Note) : Nat := 11 + numL numEdge x.deed.plan.edges
/-- with the marks from k on -/
def mkNote (k : Int) (x : Note) : Note := ⟨k, ⟨k + 1, k + 1 + 1, ⟨k + 1 + 1 + 1, k + 1 + 1 + 1 + 1, k + 1 + 1 + 1 + 1 + 1, k + 1 + 1 + 1 + 1 + 1 + 1, mkL mkEdge numEdge (k + 1 + 1 + 1 + 1 + 1 + 1 + 1) x.deed.plan.edges⟩, k + 1 + 1 + 1 + 1 + 1 + 1 + 1 + (numL numEdge x.deed.plan.edges : Nat), k + 1 + 1 + 1 + 1 + 1 + 1 + 1 + (numL numEdge x.deed.plan.edges : Nat) + 1, k + 1 + 1 + 1 + 1 + 1 + 1 + 1 + (numL numEdge x.deed.plan.edges : Nat) + 1 + 1, k + 1 + 1 + 1 + 1 + 1 + 1 + 1 + (numL numEdge x.deed.plan.edges : Nat) + 1 + 1 + 1⟩⟩
theorem numNote_le (x : Note) : numNote x ≤ 13 * (cntNote x + 1) := by
  have h0 := numL_le (num := numEdge) (cnt := cntEdge) (K := 13) numEdge_le x.deed.plan.edges
  unfold numNote cntNote cntDeed cntPlan
  omega

theorem RdL.note {w : World} {B : Nat} {A : Option Addr} {n c : Nat} {l : List (Note)} (h : RdL noteD w B (.slice A n c) l) {k : Nat} (hk : k < l.length) :
    ∃ b o, ∃ s : Sl, A = some ⟨b, o, none⟩ ∧ b < B ∧ noteD.rd w B l[k] s ∧ w.cell? ⟨b, o + k * 12, none⟩ = some (.int .i64 l[k].seq) ∧ w.cell? ⟨b, o + k * 12 + 1, none⟩ = some (.int .i64 l[k].deed.kind) ∧ w.cell? ⟨b, o + k * 12 + 2, none⟩ = some (.int .i64 l[k].deed.run) ∧ w.cell? ⟨b, o + k * 12 + 3, none⟩ = some (.int .i64 l[k].deed.plan.prio) ∧ w.cell? ⟨b, o + k * 12 + 4, none⟩ = some (.int .i64 l[k].deed.plan.most) ∧ w.cell? ⟨b, o + k * 12 + 5, none⟩ = some (.int .i64 l[k].deed.plan.wait) ∧ w.cell? ⟨b, o + k * 12 + 6, none⟩ = some (.int .i64 l[k].deed.plan.tasks) ∧ w.cell? ⟨b, o + k * 12 + 7, none⟩ = some (.slice s.a s.n s.c) ∧ w.cell? ⟨b, o + k * 12 + 8, none⟩ = some (.int .i64 l[k].deed.task) ∧ w.cell? ⟨b, o + k * 12 + 9, none⟩ = some (.int .i64 l[k].deed.try_) ∧ w.cell? ⟨b, o + k * 12 + 10, none⟩ = some (.int .i64 l[k].deed.worker) ∧ w.cell? ⟨b, o + k * 12 + 11, none⟩ = some (.int .i64 l[k].deed.draw) := by
  obtain ⟨b, o, s, rfl, hb, hc, hr⟩ := h.at_ k hk
  exact ⟨b, o, s, rfl, hb, hr, hc 0 _ rfl, hc 1 _ rfl, hc 2 _ rfl, hc 3 _ rfl, hc 4 _ rfl, hc 5 _ rfl, hc 6 _ rfl, hc 7 _ rfl, hc 8 _ rfl, hc 9 _ rfl, hc 10 _ rfl, hc 11 _ rfl⟩
theorem Ow.c_note {E : TypeId} {w : World} {base g n cap : Nat} {l : List ((Note) × Sl)} (h : Ow noteD.enc E w base (.slice (some ⟨g, 0, none⟩) n cap) l) {k : Nat} (hk : k < l.length) :
    w.cell? ⟨g, k * 12, none⟩ = some (.int .i64 l[k].1.seq) ∧ w.cell? ⟨g, k * 12 + 1, none⟩ = some (.int .i64 l[k].1.deed.kind) ∧ w.cell? ⟨g, k * 12 + 2, none⟩ = some (.int .i64 l[k].1.deed.run) ∧ w.cell? ⟨g, k * 12 + 3, none⟩ = some (.int .i64 l[k].1.deed.plan.prio) ∧ w.cell? ⟨g, k * 12 + 4, none⟩ = some (.int .i64 l[k].1.deed.plan.most) ∧ w.cell? ⟨g, k * 12 + 5, none⟩ = some (.int .i64 l[k].1.deed.plan.wait) ∧ w.cell? ⟨g, k * 12 + 6, none⟩ = some (.int .i64 l[k].1.deed.plan.tasks) ∧ w.cell? ⟨g, k * 12 + 7, none⟩ = some (.slice l[k].2.a l[k].2.n l[k].2.c) ∧ w.cell? ⟨g, k * 12 + 8, none⟩ = some (.int .i64 l[k].1.deed.task) ∧ w.cell? ⟨g, k * 12 + 9, none⟩ = some (.int .i64 l[k].1.deed.try_) ∧ w.cell? ⟨g, k * 12 + 10, none⟩ = some (.int .i64 l[k].1.deed.worker) ∧ w.cell? ⟨g, k * 12 + 11, none⟩ = some (.int .i64 l[k].1.deed.draw) := by
  rcases h.form with ⟨h1, _⟩ | ⟨g', cap', hv, _, _, _, _, _, hc⟩
  · simp at h1
  · simp only [Value.slice.injEq, Option.some.injEq, Addr.mk.injEq, and_true] at hv
    obtain ⟨rfl, _, _⟩ := hv
    exact ⟨hc k hk 0 _ rfl, hc k hk 1 _ rfl, hc k hk 2 _ rfl, hc k hk 3 _ rfl, hc k hk 4 _ rfl, hc k hk 5 _ rfl, hc k hk 6 _ rfl, hc k hk 7 _ rfl, hc k hk 8 _ rfl, hc k hk 9 _ rfl, hc k hk 10 _ rfl, hc k hk 11 _ rfl⟩
theorem Foc.note {w : World} {b o n c j : Nat} {rs : List ((Note) × Sl)} {G1 Fx G2 : List Nat} {x : Note} {s : Sl} (h : Foc noteD w b o n c rs j G1 Fx G2 x s) :
    w.cell? ⟨b, o + j * 12, none⟩ = some (.int .i64 x.seq) ∧ w.cell? ⟨b, o + j * 12 + 1, none⟩ = some (.int .i64 x.deed.kind) ∧ w.cell? ⟨b, o + j * 12 + 2, none⟩ = some (.int .i64 x.deed.run) ∧ w.cell? ⟨b, o + j * 12 + 3, none⟩ = some (.int .i64 x.deed.plan.prio) ∧ w.cell? ⟨b, o + j * 12 + 4, none⟩ = some (.int .i64 x.deed.plan.most) ∧ w.cell? ⟨b, o + j * 12 + 5, none⟩ = some (.int .i64 x.deed.plan.wait) ∧ w.cell? ⟨b, o + j * 12 + 6, none⟩ = some (.int .i64 x.deed.plan.tasks) ∧ w.cell? ⟨b, o + j * 12 + 7, none⟩ = some (.slice s.a s.n s.c) ∧ w.cell? ⟨b, o + j * 12 + 8, none⟩ = some (.int .i64 x.deed.task) ∧ w.cell? ⟨b, o + j * 12 + 9, none⟩ = some (.int .i64 x.deed.try_) ∧ w.cell? ⟨b, o + j * 12 + 10, none⟩ = some (.int .i64 x.deed.worker) ∧ w.cell? ⟨b, o + j * 12 + 11, none⟩ = some (.int .i64 x.deed.draw) := ⟨h.cells 0 _ rfl, h.cells 1 _ rfl, h.cells 2 _ rfl, h.cells 3 _ rfl, h.cells 4 _ rfl, h.cells 5 _ rfl, h.cells 6 _ rfl, h.cells 7 _ rfl, h.cells 8 _ rfl, h.cells 9 _ rfl, h.cells 10 _ rfl, h.cells 11 _ rfl⟩

end Go.Proofs.YtjobmbjadpldfaaGreat
end
section
namespace Go.Proofs.YtjobmbjadpldfaaGreat
open Go.RowKit
set_option maxRecDepth 100000
set_option maxHeartbeats 2000000

theorem natE_flat (l : List Nat) : l.flatMap natE.cells = (l.map fun (x : Nat) => (x : Int)).map (Value.int .i64) := by
  induction l with
  | nil => rfl
  | cons a l ih => rw [List.flatMap_cons, ih]; rfl

theorem sorted_nat {l l' : List Nat} (hp : l'.Perm l) (hs : l'.Pairwise (· ≤ ·)) : ((l.map fun (x : Nat) => (x : Int)).mergeSort fun x y => decide (x ≤ y)) = l'.map fun (x : Nat) => (x : Int) := by
  have h1 := List.mergeSort_perm (l.map fun (x : Nat) => (x : Int)) (fun x y => decide (x ≤ y))
  have h2 := List.pairwise_mergeSort (le := fun x y : Int => decide (x ≤ y)) (fun a b c h1 h2 => by simp at *; omega) (fun a b => by simp; omega) (l.map fun (x : Nat) => (x : Int))
  have h3 : (l'.map fun (x : Nat) => (x : Int)).Pairwise (fun x y => decide (x ≤ y) = true) := by
    rw [List.pairwise_map]
    exact hs.imp (fun h => by simpa using h)
  refine List.Perm.eq_of_pairwise (le := fun x y => decide (x ≤ y) = true) ?_ h2 h3 (h1.trans (hp.symm.map _))
  intro a b _ _ h h'
  simp at h h'
  omega

theorem sortInt_any (v : Value) (l l' : List Nat) (base : Nat) (w : World) (hl : l.length ≤ 2000000) (hp : l'.Perm l) (hs : l'.Pairwise (· ≤ ·)) (ho : Ow natE 3 w base v l) :
    Calls Tryz.prog 123 #[v] w fun e w' => e = .returned (.tuple #[]) ∧ Ow natE 3 w' base v l' ∧ w.grownBy w' v.ownBlock := by
  rcases ho.2 with ⟨rfl, hn⟩ | ⟨g, cap, cur, rfl, hg, hh, hc, hm, hsz, ht⟩
  · have hl0 : l = [] := List.eq_nil_of_length_eq_zero hn
    subst hl0
    have : l' = [] := List.Perm.eq_nil hp
    subst this
    refine (Tryz.slices_Sort_int_none none 0 w).mono ?_
    rintro e w' ⟨he, rfl⟩
    exact ⟨he, ho, World.grownBy.refl _ _⟩
  · have hll : (l.map fun (x : Nat) => (x : Int)).length = l.length := List.length_map _
    have ht' : cur.toList.take (l.map fun (x : Nat) => (x : Int)).length = (l.map fun (x : Nat) => (x : Int)).map (Value.int .i64) := by
      rw [hll, ← natE_flat, ← ht]
      simp [natE]
    have hH := holds_of_blockI hh ht'
    have hgl : g < w.heap.size := (Array.getElem?_eq_some_iff.1 hh).1
    have h := Tryz.slices_Sort_int g 0 cap (l.map fun (x : Nat) => (x : Int)) w hH hgl (by rw [hll]; omega)
    rw [hll] at h
    refine h.mono ?_
    rintro e w' ⟨he, n, os, rfl⟩
    rw [sorted_nat hp hs]
    refine ⟨he, ?_, grownBy_sortedI _⟩
    have hlen : l'.length = l.length := hp.length_eq
    have := ownsRow_sortedI (n := n) (os := os) (ss := l.map fun (x : Nat) => (x : Int)) (ts := l'.map fun (x : Nat) => (x : Int)) (by simp [hlen]) hg hh (by rw [hll]; exact hc) hm hsz
    unfold Ow
    rw [hlen, natE_flat]
    rw [hll] at this
    exact this

theorem beforeL_sorted (es : List (Nat × Nat)) (T t : Nat) : (beforeL es T t).Pairwise (· ≤ ·) := (List.pairwise_lt_range.imp (fun h => Nat.le_of_lt h)).filter _
theorem behindL_sorted (es : List (Nat × Nat)) (T t : Nat) : (behindL es T t).Pairwise (· ≤ ·) := (List.pairwise_lt_range.imp (fun h => Nat.le_of_lt h)).filter _

/-- the ends that edges to t come from, in the edges' order; those that edges from t go to -/
def fromsL (es : List (Nat × Nat)) (t : Nat) : List Nat := (es.filter fun e => decide (e.2 = t)).map (·.1)
def tosL (es : List (Nat × Nat)) (t : Nat) : List Nat := (es.filter fun e => decide (e.1 = t)).map (·.2)
theorem fromsL_len (es : List (Nat × Nat)) (t : Nat) : (fromsL es t).length ≤ es.length := by
  simp only [fromsL, List.length_map]; exact List.length_filter_le _ _
theorem tosL_len (es : List (Nat × Nat)) (t : Nat) : (tosL es t).length ≤ es.length := by
  simp only [tosL, List.length_map]; exact List.length_filter_le _ _
theorem fromsL_yes {l l' : List (Nat × Nat)} {a d : Nat} (h : l' = l ++ [(a, d)]) : fromsL l' d = fromsL l d ++ [a] := by
  subst h; simp [fromsL, List.filter_append]
theorem tosL_yes {l l' : List (Nat × Nat)} {a d : Nat} (h : l' = l ++ [(a, d)]) : tosL l' a = tosL l a ++ [d] := by
  subst h; simp [tosL, List.filter_append]
theorem fromsL_no {l l' : List (Nat × Nat)} {a d t : Nat} (h : l' = l ++ [(a, d)]) (hx : ¬ d = t) : fromsL l' t = fromsL l t := by
  subst h; simp [fromsL, List.filter_append, hx]
theorem tosL_no {l l' : List (Nat × Nat)} {a d t : Nat} (h : l' = l ++ [(a, d)]) (hx : ¬ a = t) : tosL l' t = tosL l t := by
  subst h; simp [tosL, List.filter_append, hx]
theorem esOf_nodup {p : Plan} (he : edgesIn p) (hn : p.edges.Nodup) : (esOf p).Nodup := by
  unfold esOf esL
  show List.Pairwise _ _
  rw [List.pairwise_map]
  refine List.Pairwise.imp_of_mem ?_ hn
  intro x y hx hy hne e
  have h1 := he x hx
  have h2 := he y hy
  simp only [edgeIn, Bool.and_eq_true, inB_iff] at h1 h2
  simp only [Prod.mk.injEq] at e
  apply hne
  cases x; cases y
  simp only [Edge.mk.injEq] at *
  omega
theorem fromsL_perm {p : Plan} (he : edgesIn p) (hn : p.edges.Nodup) (t : Nat) : (beforeL (esOf p) p.tasks.toNat t).Perm (fromsL (esOf p) t) := by
  refine (List.perm_ext_iff_of_nodup (List.nodup_range.filter _) ?_).2 ?_
  · unfold fromsL
    show List.Pairwise _ _
    rw [List.pairwise_map]
    refine List.Pairwise.imp_of_mem ?_ ((esOf_nodup he hn).filter _)
    intro x y hx hy hne e
    simp only [List.mem_filter, decide_eq_true_eq] at hx hy
    exact hne (Prod.ext e (hx.2.trans hy.2.symm))
  · intro x
    simp only [fromsL, List.mem_filter, List.mem_range, decide_eq_true_eq, List.mem_map, Prod.exists]
    constructor
    · rintro ⟨_, h⟩; exact ⟨x, t, ⟨h, rfl⟩, rfl⟩
    · rintro ⟨a, b, ⟨h, rfl⟩, rfl⟩; exact ⟨(esOf_lt he).1 _ h, h⟩
theorem tosL_perm {p : Plan} (he : edgesIn p) (hn : p.edges.Nodup) (t : Nat) : (behindL (esOf p) p.tasks.toNat t).Perm (tosL (esOf p) t) := by
  refine (List.perm_ext_iff_of_nodup (List.nodup_range.filter _) ?_).2 ?_
  · unfold tosL
    show List.Pairwise _ _
    rw [List.pairwise_map]
    refine List.Pairwise.imp_of_mem ?_ ((esOf_nodup he hn).filter _)
    intro x y hx hy hne e
    simp only [List.mem_filter, decide_eq_true_eq] at hx hy
    exact hne (Prod.ext (hx.2.trans hy.2.symm) e)
  · intro x
    simp only [tosL, List.mem_filter, List.mem_range, decide_eq_true_eq, List.mem_map, Prod.exists]
    constructor
    · rintro ⟨_, h⟩; exact ⟨t, x, ⟨h, rfl⟩, rfl⟩
    · rintro ⟨a, b, ⟨h, rfl⟩, rfl⟩; exact ⟨(esOf_lt he).2 _ h, h⟩

theorem implBefore_any (p : Plan) (ve : Value) (t : Nat) (w : World) (hf : planFault p = 0) (h : Rd edgeE w w.heap.size ve p.edges) :
    Calls Tryz.prog 120 #[planV p ve, .int .i64 (t : Int)] w fun e w' => ∃ v, e = .returned v ∧ Ow natE 3 w' w.heap.size v (beforeL (esOf p) p.tasks.toNat t) ∧ Below w.heap.size w w' := by
  obtain ⟨A, c, rfl, -⟩ := id h
  have G := Lib.hid (planFault_zero.1 hf)
  have hlen := manyOk_edges G.out.1
  have hl : p.edges.length ≤ 2000000 := by omega
  have hfb : (planFault p != 0) = false := by simp [hf]
  clear hf
  obtain ⟨j0, hj0, jz0, jz1, jz2⟩ := info_parts int_info
  have hb0 := planBox_below 81 p (.slice A p.edges.length c) w
  have D0 := BoxAt.new 81 p (.slice A p.edges.length c) w
  have hw0 := planBox_size 81 p (.slice A p.edges.length c) w
  have Hw0 := Lib.hid hw0
  clear hw0
  unfold planV
  go_enter Tryz.func120, Tryz.ntmps120
  go_wp2_with fail
  refine (implPlanFault_any p _ _ hl ((h.below hb0).more hb0.size)).mono ?_
  rintro e w1 ⟨rfl, hb1⟩
  have D := D0.below hb1
  have hb := bnext hb0 hb1
  obtain ⟨x0, x1, x2, x3, x4, xs⟩ := D.cells
  go_wp2
  clear x0 x1 x2 x3 x4
  go_loopw [5, 14] (fun vl i wr => ∃ k : Nat, k ≤ p.edges.length ∧ i = .int .i64 k ∧ Ow natE 3 wr (w.heap.size + 1) vl (fromsL (esL (p.edges.take k)) t) ∧ Below w.heap.size w wr ∧ w.heap.size < wr.heap.size) (fun _ i _ => p.edges.length - (intOf i).toNat)
  case atStart => exact ⟨0, Nat.zero_le _, rfl, by simpa [fromsL, esL] using Ow.nil natE 3 w1 (w.heap.size + 1), hb, xs⟩
  case round =>
    clear D hb hb1 D0 xs
    obtain ⟨k, hk, rfl, ho, hb, hsz⟩ := hrel
    by_cases hlt : k < p.edges.length
    · have hltI : (k : Int) < (p.edges.length : Int) := by omega
      obtain ⟨b, o, rfl, hbb, c0, c1⟩ := (h.below hb).edge hlt
      obtain ⟨f1, f2, f3, f4⟩ := edgesIn_get G.out.2.1 hlt
      have htk := Lib.hid (show esL (p.edges.take (k + 1)) = esL (p.edges.take k) ++ [(p.edges[k].fr.toNat, p.edges[k].to.toNat)] by unfold esL; rw [take_snoc _ k hlt, List.map_append]; rfl)
      generalize p.edges[k].fr = fx at *
      generalize p.edges[k].to = tx at *
      obtain ⟨a, rfl⟩ := Int.eq_ofNat_of_zero_le f1
      obtain ⟨d, rfl⟩ := Int.eq_ofNat_of_zero_le f3
      simp only [Int.toNat_natCast] at htk
      by_cases hx : d = t
      · subst hx
        have S := Lib.hid (fromsL_yes (l := esL (p.edges.take k)) htk.out)
        have Hl := Lib.hid (show (fromsL (esL (p.edges.take k)) d).length ≤ 3000000 by
          have h1 := fromsL_len (esL (p.edges.take k)) d
          rw [esL_length, List.length_take] at h1
          omega)
        have hab : ((d : Int) == (d : Int)) = true := by simp
        have ha : Hid (∀ w : World, Below w.heap.size w ((w.alloc (.cells #[.int .i64 (a : Int), .int .i64 (d : Int)] 140)).alloc (.cells #[.int .i64 (a : Int)] 3))) := fun w => ((Below.refl _ _).alloc (Nat.le_refl _) _).alloc (by simp) _
        go_wp2_with (at_builtin; refine wpList_push_all _ natE (by decide) rfl (.tmp 22) (.tmp 25) rfl Tryz.underlying94 hj0 jz0 jz1 jz2 rfl (l := fromsL (esL (p.edges.take k)) d) rfl (ho.below (ha.out wr)) rfl (Rd.one natE _ _ a (by simp) rfl 1 (Nat.le_refl _) (Nat.lt_succ_self _)) Hl.out (by simp) (by decide) (by simp; omega) ?_; intro v5 w5 o5 g5 _)
        have hb' := bnext hb (ha.out wr)
        have W5 := hb'.grown g5 hb'.size (fun g hg => by have := ho.within _ hg; omega)
        have hz5 := g5.size
        simp only [World.size_alloc] at hz5
        refine ⟨⟨k + 1, by omega, by go_num, ?_, W5, by omega⟩, by simp [intOf]; omega⟩
        rw [S.out]
        exact o5
      · have S := Lib.hid (fromsL_no (l := esL (p.edges.take k)) (t := t) htk.out hx)
        have hab : ((d : Int) == (t : Int)) = false := beq_eq_false_iff_ne.2 (by omega)
        have ha : Hid (∀ w : World, Below w.heap.size w (w.alloc (.cells #[.int .i64 (a : Int), .int .i64 (d : Int)] 140))) := fun w => (Below.refl _ _).alloc (Nat.le_refl _) _
        clear hx
        go_wp2
        refine ⟨⟨k + 1, by omega, by go_num, ?_, bnext hb (ha.out wr), by simp; omega⟩, by simp [intOf]; omega⟩
        rw [S.out]
        exact ho.below (ha.out wr)
    · have hltI : ¬ (k : Int) < (p.edges.length : Int) := by omega
      have hk' : k = p.edges.length := by omega
      subst hk'
      rw [List.take_length] at ho
      go_wp2_with fail
      have hL : (fromsL (esOf p) t).length ≤ 2000000 := by
        have h1 := fromsL_len (esOf p) t
        unfold esOf at h1 ⊢
        rw [esL_length] at h1
        omega
      refine (sortInt_any _ (fromsL (esOf p) t) (beforeL (esOf p) p.tasks.toNat t) _ _ hL (fromsL_perm G.out.2.1 G.out.2.2.1 t) (beforeL_sorted _ _ _) ho).mono ?_
      rintro e w2 ⟨rfl, o2, g2⟩
      have hb2 := hb.grown g2 hb.size (fun g hg => by have := ho.within _ hg; omega)
      go_wp2
      go_ret
      exact ⟨_, rfl, o2.more (by omega), hb2⟩

end Go.Proofs.YtjobmbjadpldfaaGreat
end
section
namespace Go.Proofs.YtjobmbjadpldfaaGreat
open Go.RowKit
set_option maxRecDepth 100000
set_option maxHeartbeats 1000000
set_option linter.unusedVariables false
set_option linter.unusedSimpArgs false

def hasId (id : Int) (r : Run) : Bool := r.id == id
def runAt (y : Yard) (id : Int) : Int := if y.runs.length ≤ 8 then idxOf (hasId id) y.runs else -1
theorem runAt_big {y : Yard} {id : Int} (h : ¬ y.runs.length ≤ 8) : runAt y id = -1 := by unfold runAt; rw [if_neg h]
theorem runAt_idx {y : Yard} {id : Int} (h : y.runs.length ≤ 8) : runAt y id = idxOf (hasId id) y.runs := by unfold runAt; rw [if_pos h]
theorem idxOf_range {α : Type} (p : α → Bool) (l : List α) : idxOf p l = -1 ∨ ∃ k : Nat, k < l.length ∧ idxOf p l = k := by
  unfold idxOf
  cases h : l.findIdx? p with
  | none => exact .inl rfl
  | some i => exact .inr ⟨i, (List.findIdx?_eq_some_iff_getElem.1 h).1, rfl⟩
theorem runAt_range (y : Yard) (id : Int) : runAt y id = -1 ∨ ∃ k : Nat, k < y.runs.length ∧ runAt y id = k := by
  by_cases h : y.runs.length ≤ 8
  · rw [runAt_idx h]; exact idxOf_range _ _
  · exact .inl (runAt_big h)

theorem specRunAt_own (y : Yard) (s : Sl × Sl) (id : Int) (w : World) (hl : cntYard y ≤ 2000000) (h : yardD.rd w w.heap.size y s) :
    Calls Tryz.prog 51 #[yardW y s, .int .i64 id] w fun e w' => e = .returned (.int .i64 (runAt y id)) ∧ Below w.heap.size w w' := by
  obtain ⟨s1, ⟨A, n, c⟩⟩ := s
  have h1 : RdL runD w w.heap.size (Sl.v ⟨A, n, c⟩) y.runs := h.2
  obtain ⟨A', c', hv, -⟩ := h1.form
  simp only [Sl.v, Value.slice.injEq] at hv
  obtain ⟨rfl, rfl, rfl⟩ := hv
  have hll : y.runs.length ≤ 2000000 := Nat.le_trans (cntL_len cntRun _) (by unfold cntYard at hl; omega)
  have D := DBox.new 34 [.int .i64 y.now, .int .i64 y.seq, .slice (s1, (⟨A, y.runs.length, c⟩ : Sl)).1.a (s1, (⟨A, y.runs.length, c⟩ : Sl)).1.n (s1, (⟨A, y.runs.length, c⟩ : Sl)).1.c, .slice (s1, (⟨A, y.runs.length, c⟩ : Sl)).2.a (s1, (⟨A, y.runs.length, c⟩ : Sl)).2.n (s1, (⟨A, y.runs.length, c⟩ : Sl)).2.c] w rfl
  have hb0 : Below w.heap.size w (w.alloc (.cells #[.int .i64 y.now, .int .i64 y.seq, .slice (s1, (⟨A, y.runs.length, c⟩ : Sl)).1.a (s1, (⟨A, y.runs.length, c⟩ : Sl)).1.n (s1, (⟨A, y.runs.length, c⟩ : Sl)).1.c, .slice (s1, (⟨A, y.runs.length, c⟩ : Sl)).2.a (s1, (⟨A, y.runs.length, c⟩ : Sl)).2.n (s1, (⟨A, y.runs.length, c⟩ : Sl)).2.c] 34)) := (Below.refl _ _).alloc (Nat.le_refl _) _
  go_enter Tryz.func51, Tryz.ntmps51
  go_wp2_with fail
  generalize (w.alloc (.cells #[.int .i64 y.now, .int .i64 y.seq, .slice (s1, (⟨A, y.runs.length, c⟩ : Sl)).1.a (s1, (⟨A, y.runs.length, c⟩ : Sl)).1.n (s1, (⟨A, y.runs.length, c⟩ : Sl)).1.c, .slice (s1, (⟨A, y.runs.length, c⟩ : Sl)).2.a (s1, (⟨A, y.runs.length, c⟩ : Sl)).2.n (s1, (⟨A, y.runs.length, c⟩ : Sl)).2.c] 34)) = W at *
  have k3 : W.cell? ⟨w.heap.size, 3, none⟩ = some (.slice A y.runs.length c) := D.cell 3 _ rfl
  have h2 := h1.below hb0
  go_wp2
  go_loop [5] (fun i => ∃ k : Nat, k ≤ y.runs.length ∧ i = .int .i64 k ∧ Hid (∀ j (hj : j < y.runs.length), j < k → hasId id y.runs[j] = false)) (fun i => y.runs.length - (intOf i).toNat)
  case atStart => exact ⟨0, Nat.zero_le _, rfl, fun j hj h0 => absurd h0 (by omega)⟩
  case round =>
    obtain ⟨k, hk, rfl, hno⟩ := hrel
    by_cases h8 : y.runs.length ≤ 8
    · by_cases hlt : k < y.runs.length
      · obtain ⟨b, o, s', rfl, hbb, hr, c0, -⟩ := h2.run hlt
        have hltI : (k : Int) < (y.runs.length : Int) := by omega
        cases hp : hasId id y.runs[k]
        · have t0 : (y.runs[k].id == id) = false := hp
          have S : Hid (∀ j (hj : j < y.runs.length), j < k + 1 → hasId id y.runs[j] = false) := by
            intro j hj h0
            by_cases e : j = k
            · subst e; exact hp
            · exact hno.out j hj (by omega)
          clear hp
          go_wp2
          exact ⟨⟨k + 1, by omega, by go_num, S⟩, by simp [intOf]; omega⟩
        · have t0 : (y.runs[k].id == id) = true := hp
          have H := Lib.hid (show runAt y id = k by rw [runAt_idx h8]; exact idxOf_found hlt (fun j hj => hno.out j (by omega) hj) hp)
          clear hp
          go_wp2
          go_ret
          exact ⟨ret_int H.out.symm, hb0⟩
      · have H := Lib.hid (show runAt y id = -1 by rw [runAt_idx h8]; exact idxOf_none (fun j hj => hno.out j hj (by omega)))
        have hltI : ¬ ((k : Int) < (y.runs.length : Int)) := by omega
        go_wp2
        go_ret
        exact ⟨ret_int H.out.symm, hb0⟩
    · have H := Lib.hid (runAt_big (id := id) h8)
      by_cases hlt : k < y.runs.length
      · have hltI : (k : Int) < (y.runs.length : Int) := by omega
        go_wp2
        go_ret
        exact ⟨ret_int H.out.symm, hb0⟩
      · have hltI : ¬ ((k : Int) < (y.runs.length : Int)) := by omega
        go_wp2
        go_ret
        exact ⟨ret_int H.out.symm, hb0⟩

theorem runAt1_any (r : Run) (s : Sl × Sl) (id : Int) (p : Nat) (w : World) (hp : w.cell? ⟨p, 0, none⟩ = some (.int .i64 id)) (hp' : p < w.heap.size) :
    Calls Tryz.prog 91 #[runW r s, .pointer (some ⟨p, 0, none⟩)] w fun e w' => e = .returned (.bool (hasId id r)) ∧ Below w.heap.size w w' := by
  unfold hasId
  cases t1 : (r.id == id)
  all_goals
    go_enter Tryz.func91, Tryz.ntmps91
    go_wp2
    go_ret
    exact ⟨rfl, by repeat (first | exact Below.refl _ _ | refine Below.alloc ?_ (by simp <;> omega) _)⟩

theorem indexRun_any (l : List Run) (s : Sl) (id : Int) (p : Nat) (w : World) (hl : l.length ≤ 2000000) (h : RdL runD w w.heap.size s.v l) (hp : w.cell? ⟨p, 0, none⟩ = some (.int .i64 id)) (hp' : p < w.heap.size) :
    Calls Tryz.prog 90 #[.slice s.a s.n s.c, .func (.func 91) #[] #[.pointer (some ⟨p, 0, none⟩)]] w
      fun e w' => e = .returned (.int .i64 (idxOf (hasId id) l)) ∧ Below w.heap.size w w' := by
  obtain ⟨A, n, c⟩ := s
  obtain ⟨A', c', hv, -⟩ := h.form
  simp only [Sl.v, Value.slice.injEq] at hv
  obtain ⟨rfl, rfl, rfl⟩ := hv
  go_enter Tryz.func90, Tryz.ntmps90
  go_wp2
  go_loopw [8] (fun i wr => ∃ k : Nat, k ≤ l.length ∧ i = .int .i64 k ∧ Hid (∀ j (hj : j < k) (hj' : j < l.length), hasId id l[j] = false) ∧ Below w.heap.size w wr) (fun i _ => l.length - (intOf i).toNat)
  case atStart => exact ⟨0, Nat.zero_le _, rfl, fun j hj => absurd hj (by omega), Below.refl _ _⟩
  case round =>
    obtain ⟨k, hk, rfl, hno, hb⟩ := hrel
    by_cases hlt : k < l.length
    · obtain ⟨b, o, s', rfl, hbb, hr, c0, c1, c2, c3, c4, c5, c6, c7⟩ := (h.below hb).run hlt
      have hp1 := (hb.cell (p := ⟨p, 0, none⟩) hp').trans hp
      have hs := hb.size
      cases t1 : hasId id l[k]
      · have S : Hid (∀ j (hj : j < k + 1) (hj' : j < l.length), hasId id l[j] = false) := by
          intro j hj hj'
          by_cases e : j = k
          · subst e; exact t1
          · exact hno.out j (by omega) hj'
        go_wp2_with (go_at_call 91; refine (runAt1_any l[k] s' id p _ hp1 (by omega)).mono ?_; rintro e w1 ⟨rfl, hb1⟩; simp only [t1])
        exact ⟨⟨k + 1, by omega, by go_num, S, hb.trans (hb1.mono hb.size)⟩, by simp [intOf]; omega⟩
      · have H := Lib.hid (idxOf_found hlt (fun j hj => hno.out j hj (by omega)) t1)
        go_wp2_with (go_at_call 91; refine (runAt1_any l[k] s' id p _ hp1 (by omega)).mono ?_; rintro e w1 ⟨rfl, hb1⟩; simp only [t1])
        go_ret
        exact ⟨ret_int (by rw [H.out]), hb.trans (hb1.mono hb.size)⟩
    · have H := Lib.hid (idxOf_none (p := hasId id) (l := l) (fun j hj => hno.out j (by omega) hj))
      go_wp2
      go_ret
      exact ⟨ret_int (by rw [H.out]), hb⟩

theorem implRunAt_own (y : Yard) (s : Sl × Sl) (id : Int) (w : World) (hl : cntYard y ≤ 2000000) (h : yardD.rd w w.heap.size y s) :
    Calls Tryz.prog 60 #[yardW y s, .int .i64 id] w fun e w' => e = .returned (.int .i64 (runAt y id)) ∧ Below w.heap.size w w' := by
  obtain ⟨s1, ⟨A, n, c⟩⟩ := s
  have h1 : RdL runD w w.heap.size (Sl.v ⟨A, n, c⟩) y.runs := h.2
  obtain ⟨A', c', hv, -⟩ := h1.form
  simp only [Sl.v, Value.slice.injEq] at hv
  obtain ⟨rfl, rfl, rfl⟩ := hv
  have hll : y.runs.length ≤ 2000000 := Nat.le_trans (cntL_len cntRun _) (by unfold cntYard at hl; omega)
  have D0 := DBox.new 34 [.int .i64 y.now, .int .i64 y.seq, .slice (s1, (⟨A, y.runs.length, c⟩ : Sl)).1.a (s1, (⟨A, y.runs.length, c⟩ : Sl)).1.n (s1, (⟨A, y.runs.length, c⟩ : Sl)).1.c, .slice (s1, (⟨A, y.runs.length, c⟩ : Sl)).2.a (s1, (⟨A, y.runs.length, c⟩ : Sl)).2.n (s1, (⟨A, y.runs.length, c⟩ : Sl)).2.c] w rfl
  have D := D0.below ((Below.refl _ _).alloc (Nat.le_refl _) (.cells #[.int .i64 id] 3))
  have E := DBox.new 3 [.int .i64 id] (w.alloc (.cells #[.int .i64 y.now, .int .i64 y.seq, .slice (s1, (⟨A, y.runs.length, c⟩ : Sl)).1.a (s1, (⟨A, y.runs.length, c⟩ : Sl)).1.n (s1, (⟨A, y.runs.length, c⟩ : Sl)).1.c, .slice (s1, (⟨A, y.runs.length, c⟩ : Sl)).2.a (s1, (⟨A, y.runs.length, c⟩ : Sl)).2.n (s1, (⟨A, y.runs.length, c⟩ : Sl)).2.c] 34)) (b := w.heap.size + 1) (by simp)
  have hb0 : Below w.heap.size w ((w.alloc (.cells #[.int .i64 y.now, .int .i64 y.seq, .slice (s1, (⟨A, y.runs.length, c⟩ : Sl)).1.a (s1, (⟨A, y.runs.length, c⟩ : Sl)).1.n (s1, (⟨A, y.runs.length, c⟩ : Sl)).1.c, .slice (s1, (⟨A, y.runs.length, c⟩ : Sl)).2.a (s1, (⟨A, y.runs.length, c⟩ : Sl)).2.n (s1, (⟨A, y.runs.length, c⟩ : Sl)).2.c] 34)).alloc (.cells #[.int .i64 id] 3)) := by repeat (first | exact Below.refl _ _ | refine Below.alloc ?_ (by simp <;> omega) _)
  clear D0
  by_cases h8 : y.runs.length ≤ 8
  case neg =>
    have H := Lib.hid (runAt_big (id := id) h8)
    go_enter Tryz.func60, Tryz.ntmps60
    go_wp2
    go_ret
    exact ⟨ret_int H.out.symm, hb0⟩
  have H := Lib.hid (runAt_idx (id := id) h8)
  go_enter Tryz.func60, Tryz.ntmps60
  go_wp2_with fail
  generalize ((w.alloc (.cells #[.int .i64 y.now, .int .i64 y.seq, .slice (s1, (⟨A, y.runs.length, c⟩ : Sl)).1.a (s1, (⟨A, y.runs.length, c⟩ : Sl)).1.n (s1, (⟨A, y.runs.length, c⟩ : Sl)).1.c, .slice (s1, (⟨A, y.runs.length, c⟩ : Sl)).2.a (s1, (⟨A, y.runs.length, c⟩ : Sl)).2.n (s1, (⟨A, y.runs.length, c⟩ : Sl)).2.c] 34)).alloc (.cells #[.int .i64 id] 3)) = W at *
  have e0 : W.cell? ⟨w.heap.size + 1, 0, none⟩ = some (.int .i64 id) := E.cell 0 _ rfl
  have el := E.lt
  refine (indexRun_any y.runs ⟨A, y.runs.length, c⟩ id (w.heap.size + 1) _ hll ((h1.below hb0).more hb0.size) e0 el).mono ?_
  rintro e w1 ⟨rfl, hb1⟩
  go_wp2
  go_ret
  exact ⟨ret_int H.out.symm, bnext hb0 hb1⟩
end Go.Proofs.YtjobmbjadpldfaaGreat
end
