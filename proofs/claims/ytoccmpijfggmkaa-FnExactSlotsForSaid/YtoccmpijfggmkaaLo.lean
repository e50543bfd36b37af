/-
  LongestOf of both.
-/
import Derived.Test.YtoccmpijfggmkaaEs
namespace Go.Proofs.Ytoccmpijfggmkaa
open Go.RowKit
set_option maxRecDepth 100000
set_option maxHeartbeats 2000000

def longUpto (e l : List Int) : Nat → Int
  | 0 => 0
  | k + 1 => max (longUpto e l k) (e.getD k 0 + l.getD k 0)
noncomputable def longestOf (p : Plan) (l : List Int) : Int := longUpto (earliestOf p l) l (earliestOf p l).length

theorem earFold_bd {l : List Int} (hl : ∀ x ∈ l, 1 ≤ x ∧ x ≤ 1000) (t : Nat) : ∀ (B : List Nat) (o : List Int) (c : Nat), Bd o c → Bd (B.foldl (earStep l t) o) (c + B.length)
  | [], _, _, h => h
  | b :: B, o, c, h => by
    have := earFold_bd hl t B _ _ (h.step hl t b)
    rw [List.foldl_cons, List.length_cons]
    exact this.more (by omega)
theorem earL_bd {es : List (Nat × Nat)} {T : Nat} {l : List Int} (hl : ∀ x ∈ l, 1 ≤ x ∧ x ≤ 1000) (ord : List Nat) : Bd (earL es T l ord) (T * ord.length) := by
  unfold earL
  suffices h : ∀ (ord : List Nat) (o : List Int) (c : Nat), Bd o c → Bd (ord.foldl (earTask es T l) o) (c + T * ord.length) by
    have := h ord (List.replicate T 0) 0 (fun x hx => by have := List.eq_of_mem_replicate hx; subst this; omega)
    simpa using this
  intro ord
  induction ord with
  | nil => intro o c h; simpa using h
  | cons t ord ih =>
    intro o c h
    rw [List.foldl_cons]
    refine (ih _ _ (earFold_bd hl t (beforeL es T t) o c h)).more ?_
    have := beforeL_len es T t
    rw [List.length_cons, Nat.mul_succ]
    omega
theorem earliestOf_bd (p : Plan) (l : List Int) : Bd (earliestOf p l) 144 := by
  unfold earliestOf
  split
  · rename_i hf
    obtain ⟨g1, g2, g3⟩ := weightsOk_all hf
    have h1 := manyOk_tasks (planFault_zero.1 g1).1
    have h2 := (orderOf_inv g1).len
    refine (earL_bd g3 _).more ?_
    rw [h2]
    exact Nat.le_trans (Nat.mul_le_mul (show p.tasks.toNat ≤ 12 by omega) (show p.tasks.toNat ≤ 12 by omega)) (by omega)
  · intro x hx; cases hx
theorem earliestOf_one {p : Plan} {l : List Int} (h : 0 < (earliestOf p l).length) : weightsOk p l = true ∧ (earliestOf p l).length = l.length := by
  cases hf : weightsOk p l
  · simp [earliestOf, hf] at h
  · obtain ⟨g1, g2, g3⟩ := weightsOk_all hf
    have h1 := manyOk_tasks (planFault_zero.1 g1).1
    refine ⟨rfl, ?_⟩
    unfold earliestOf
    rw [if_pos hf, earL_len]
    omega
theorem longUpto_bd {e l : List Int} (he : Bd e 144) (hl : ∀ x ∈ l, 1 ≤ x ∧ x ≤ 1000) : ∀ k, 0 ≤ longUpto e l k ∧ longUpto e l k ≤ 145000
  | 0 => by simp [longUpto]
  | k + 1 => by
    have := longUpto_bd he hl k
    have h1 := getD_bd he k
    have hw : 0 ≤ l.getD k 0 ∧ l.getD k 0 ≤ 1000 := by
      rw [List.getD_eq_getElem?_getD]
      cases hk : l[k]? with
      | none => simp
      | some y => have := hl y (List.mem_of_getElem? hk); simp; omega
    rw [longUpto]
    omega
theorem longUpto_succ {e l : List Int} {k : Nat} (h : k < e.length) (h' : k < l.length) : longUpto e l (k + 1) = max (longUpto e l k) (e[k] + l[k]) := by
  rw [longUpto]
  simp [List.getD_eq_getElem?_getD, h, h']

theorem implLongest_any (p : Plan) (ve v : Value) (l : List Int) (w : World) (hl : p.edges.length ≤ 2000000) (hl2 : l.length ≤ 2000000) (h : Rd edgeE w w.heap.size ve p.edges) (h2 : Rd intE w w.heap.size v l) :
    Calls Try.prog 80 #[planV p ve, v] w fun e w' => e = .returned (.int .i64 (longestOf p l)) ∧ Below w.heap.size w w' := by
  obtain ⟨A, c, rfl, -⟩ := id h2
  have hb0 := planBox_below 47 p ve w
  have hbd := Lib.hid (earliestOf_bd p l)
  have hone := Lib.hid (fun h => earliestOf_one (p := p) (l := l) h)
  have H := Lib.hid (show longestOf p l = longUpto (earliestOf p l) l (earliestOf p l).length from rfl)
  have hel := earliestOf_len p l
  unfold planV
  go_enter Try.func80, Try.ntmps80
  go_wp2_with fail
  refine (implEarliest_any p ve (.slice A l.length c) l _ hl hl2 ((h.below hb0).more hb0.size) ((h2.below hb0).more hb0.size)).mono ?_
  rintro e w1 ⟨u, rfl, o1, hb1⟩
  have hb := bnext hb0 hb1
  generalize earliestOf p l = E at *
  obtain ⟨A1, c1, rfl, -⟩ := id (Rd.of_own o1)
  clear hb0 hb1
  go_wp2
  go_loop [5, 12] (fun n i => ∃ k : Nat, k ≤ E.length ∧ i = .int .i64 k ∧ n = .int .i64 (longUpto E l k)) (fun _ i => E.length - (intOf i).toNat)
  case atStart => exact ⟨0, Nat.zero_le _, rfl, rfl⟩
  case round =>
    obtain ⟨k, hk, rfl, rfl⟩ := hrel
    by_cases hlt : k < E.length
    · have hltI : (k : Int) < (E.length : Int) := by omega
      obtain ⟨hok, hll⟩ := hone.out (by omega)
      obtain ⟨-, -, hw⟩ := weightsOk_all hok
      have Hll := Lib.hid hll
      have hkl : k < l.length := by omega
      have hklI : (k : Int) < (l.length : Int) := by omega
      have hs := Lib.hid (longUpto_succ (e := E) (l := l) hlt hkl)
      have hn := longUpto_bd hbd.out hw k
      have he := hbd.out _ (List.getElem_mem hlt)
      have hwk := hw _ (List.getElem_mem hkl)
      obtain ⟨g1, rfl, _, _⟩ := o1.some_ (by omega)
      have ce := o1.int hlt
      obtain ⟨bw, ow, rfl, hbw, cw⟩ := (h2.below hb).int hkl
      clear hw hll hok
      go_wp2
      exact ⟨⟨k + 1, by omega, by go_num, by rw [hs.out]⟩, by simp [intOf]; omega⟩
    · have hltI : ¬ (k : Int) < (E.length : Int) := by omega
      have hk' : k = E.length := by omega
      have hbF := hb
      subst hk'
      go_wp2
      go_ret
      exact ⟨ret_int (by rw [H.out]), hbF⟩
theorem specLongest_any (p : Plan) (ve v : Value) (l : List Int) (w : World) (hl : p.edges.length ≤ 2000000) (hl2 : l.length ≤ 2000000) (h : Rd edgeE w w.heap.size ve p.edges) (h2 : Rd intE w w.heap.size v l) :
    Calls Try.prog 58 #[planV p ve, v] w fun e w' => e = .returned (.int .i64 (longestOf p l)) ∧ Below w.heap.size w w' := by
  obtain ⟨A, c, rfl, -⟩ := id h2
  have hb0 := planBox_below 47 p ve w
  have hbd := Lib.hid (earliestOf_bd p l)
  have hone := Lib.hid (fun h => earliestOf_one (p := p) (l := l) h)
  have H := Lib.hid (show longestOf p l = longUpto (earliestOf p l) l (earliestOf p l).length from rfl)
  have hel := earliestOf_len p l
  unfold planV
  go_enter Try.func58, Try.ntmps58
  go_wp2_with fail
  refine (specEarliest_any p ve (.slice A l.length c) l _ hl hl2 ((h.below hb0).more hb0.size) ((h2.below hb0).more hb0.size)).mono ?_
  rintro e w1 ⟨u, rfl, o1, hb1⟩
  have hb := bnext hb0 hb1
  generalize earliestOf p l = E at *
  obtain ⟨A1, c1, rfl, -⟩ := id (Rd.of_own o1)
  have hb0s := hb0.size
  clear hb0 hb1
  go_wp2
  go_loopw [5, 7] (fun n i wr => ∃ k : Nat, k ≤ E.length ∧ i = .int .i64 k ∧ n = .int .i64 (longUpto E l k) ∧ Ow intE 3 wr w.heap.size (.slice A1 E.length c1) E ∧ Below w.heap.size w wr) (fun _ i _ => E.length - (intOf i).toNat)
  case atStart => exact ⟨0, Nat.zero_le _, rfl, rfl, o1.more hb0s, hb⟩
  case round =>
    clear o1 hb
    obtain ⟨k, hk, rfl, rfl, o1, hb⟩ := hrel
    by_cases hlt : k < E.length
    · have hltI : (k : Int) < (E.length : Int) := by omega
      obtain ⟨hok, hll⟩ := hone.out (by omega)
      obtain ⟨-, -, hw⟩ := weightsOk_all hok
      have Hll := Lib.hid hll
      have hkl : k < l.length := by omega
      have hklI : (k : Int) < (l.length : Int) := by omega
      have hs := Lib.hid (longUpto_succ (e := E) (l := l) hlt hkl)
      have hn := longUpto_bd hbd.out hw k
      have he := hbd.out _ (List.getElem_mem hlt)
      have hwk := hw _ (List.getElem_mem hkl)
      obtain ⟨g1, rfl, _, _⟩ := o1.some_ (by omega)
      have ce := o1.int hlt
      obtain ⟨bw, ow, rfl, hbw, cw⟩ := (h2.below hb).int hkl
      have Hcw : Hid (∀ W', Below w.heap.size w W' → W'.cell? ⟨bw, ow + k, none⟩ = some (.int .i64 l[k])) := fun W' hW' => by
        obtain ⟨b', o', ee, _, d0⟩ := (h2.below hW').int hkl
        simp only [Option.some.injEq, Addr.mk.injEq] at ee
        obtain ⟨rfl, rfl, -⟩ := ee
        exact d0
      have hwr : IntKind.i64.wrap (E[k] + l[k]) = E[k] + l[k] := IntWalk.i64_in _ (by omega)
      have hdr : Hid (∀ n, Below wr.heap.size wr (wr.drewN n)) := fun n => bdrewN (Below.refl _ _) n
      clear hw hll hok hn he hwk
      by_cases hgt : longUpto E l k < E[k] + l[k]
      · have hmax := Lib.hid (show max (longUpto E l k) (E[k] + l[k]) = E[k] + l[k] by omega)
        go_wp2
        go_quiet (fail)
        clear ce cw
        have o1 := o1.below (hdr.out nq)
        have hb := bnext hb (hdr.out nq)
        have ce := o1.int hlt
        have cw := Hcw.out _ hb
        generalize wr.drewN nq = w5 at *
        go_wp2
        go_quiet (fail)
        go_wp2
        exact ⟨⟨k + 1, by omega, by go_num, by rw [hs.out, hmax.out], o1.below (bdrewN (Below.refl _ _) _), bdrewN hb _⟩, by simp [intOf]; omega⟩
      · have hmax := Lib.hid (show max (longUpto E l k) (E[k] + l[k]) = longUpto E l k by omega)
        have hdec : decide (longUpto E l k < E[k] + l[k]) = false := by simpa using hgt
        go_wp2
        go_quiet (fail)
        go_wp2
        exact ⟨⟨k + 1, by omega, by go_num, by rw [hs.out, hmax.out], o1.below (hdr.out nq), bdrewN hb _⟩, by simp [intOf]; omega⟩
    · have hltI : ¬ (k : Int) < (E.length : Int) := by omega
      have hk' : k = E.length := by omega
      have hbF := hb
      subst hk'
      go_wp2
      go_ret
      exact ⟨ret_int (by rw [H.out]), hbF⟩
end Go.Proofs.Ytoccmpijfggmkaa
