/-
  Closed facts of the whole program, each by itself. The head's string is laid out as a list of numbers first.
-/
import Derived.Test.YtjobmbjadpldfaaRows
import Derived.ProofKit
namespace Go.Proofs.Ytjobmbjadpldfaa
open Go.ChangeShapes Go.WideShapes Go.ChangeAt Go.RowKit

set_option maxRecDepth 100000
def headChars : List Char := [Char.ofNat 104, Char.ofNat 97, Char.ofNat 114, Char.ofNat 110, Char.ofNat 101, Char.ofNat 115, Char.ofNat 115, Char.ofNat 32, Char.ofNat 100, Char.ofNat 101, Char.ofNat 100, Char.ofNat 49, Char.ofNat 56, Char.ofNat 98, Char.ofNat 100, Char.ofNat 48, Char.ofNat 53, Char.ofNat 100, Char.ofNat 57, Char.ofNat 98, Char.ofNat 97, Char.ofNat 53, Char.ofNat 49, Char.ofNat 52, Char.ofNat 100, Char.ofNat 50, Char.ofNat 54, Char.ofNat 99, Char.ofNat 55, Char.ofNat 53, Char.ofNat 97, Char.ofNat 54, Char.ofNat 53, Char.ofNat 97, Char.ofNat 102, Char.ofNat 52, Char.ofNat 54, Char.ofNat 53, Char.ofNat 100, Char.ofNat 97, Char.ofNat 98, Char.ofNat 100, Char.ofNat 53, Char.ofNat 52, Char.ofNat 48, Char.ofNat 57, Char.ofNat 52, Char.ofNat 98, Char.ofNat 57, Char.ofNat 97, Char.ofNat 56, Char.ofNat 50, Char.ofNat 52, Char.ofNat 56, Char.ofNat 51, Char.ofNat 51, Char.ofNat 57, Char.ofNat 102, Char.ofNat 52, Char.ofNat 50, Char.ofNat 100, Char.ofNat 53, Char.ofNat 98, Char.ofNat 101, Char.ofNat 102, Char.ofNat 55, Char.ofNat 55, Char.ofNat 55, Char.ofNat 54, Char.ofNat 50, Char.ofNat 56, Char.ofNat 55, Char.ofNat 32, Char.ofNat 99, Char.ofNat 117, Char.ofNat 116, Char.ofNat 32, Char.ofNat 97, Char.ofNat 116, Char.ofNat 32, Char.ofNat 108, Char.ofNat 111, Char.ofNat 111, Char.ofNat 112, Char.ofNat 46, Char.ofNat 101, Char.ofNat 120, Char.ofNat 97, Char.ofNat 109, Char.ofNat 112, Char.ofNat 108, Char.ofNat 101, Char.ofNat 47, Char.ofNat 103, Char.ofNat 48, Char.ofNat 48, Char.ofNat 57, Char.ofNat 54, Char.ofNat 53, Char.ofNat 47, Char.ofNat 108, Char.ofNat 97, Char.ofNat 119, Char.ofNat 115, Char.ofNat 46, Char.ofNat 70, Char.ofNat 110, Char.ofNat 69, Char.ofNat 120, Char.ofNat 97, Char.ofNat 99, Char.ofNat 116, Char.ofNat 66, Char.ofNat 121, Char.ofNat 116, Char.ofNat 101, Char.ofNat 115, Char.ofNat 79, Char.ofNat 102, Char.ofNat 32, Char.ofNat 108, Char.ofNat 111, Char.ofNat 111, Char.ofNat 112, Char.ofNat 46, Char.ofNat 101, Char.ofNat 120, Char.ofNat 97, Char.ofNat 109, Char.ofNat 112, Char.ofNat 108, Char.ofNat 101, Char.ofNat 47, Char.ofNat 103, Char.ofNat 48, Char.ofNat 48, Char.ofNat 57, Char.ofNat 54, Char.ofNat 53, Char.ofNat 47, Char.ofNat 108, Char.ofNat 97, Char.ofNat 119, Char.ofNat 115, Char.ofNat 46, Char.ofNat 70, Char.ofNat 110, Char.ofNat 69, Char.ofNat 120, Char.ofNat 97, Char.ofNat 99, Char.ofNat 116, Char.ofNat 67, Char.ofNat 97, Char.ofNat 117, Char.ofNat 103, Char.ofNat 104, Char.ofNat 116, Char.ofNat 85, Char.ofNat 112]
theorem head_eq : Try.prog.initOrder = String.ofList headChars := by
  unfold headChars
  dsimp only [Try.prog, Try.progTables]
theorem head_toList : Try.prog.initOrder.toList = headChars := by rw [head_eq, String.toList_ofList]
def cutW : List Char := [Char.ofNat 99, Char.ofNat 117, Char.ofNat 116]
def headRest : List (List Char) := (behindMainWord (wordsSigns headChars)).tail
theorem head_words : behindMainWord (wordsSigns headChars) = cutW :: headRest := by kernel_rfl
theorem gc_no : (cutW == "gc".toList) = false := by kernel_rfl
theorem spec_no : (cutW == "spec".toList) = false := by kernel_rfl
theorem carried_no : (cutW == "carried".toList) = false := by kernel_rfl
theorem cut_yes : (cutW == "cut".toList) = true := by kernel_rfl
theorem cut_is : cutW = "cut".toList := by kernel_rfl
theorem strip_words : stripLifts liftWords (cutW :: headRest) = ([], cutW :: headRest) := by kernel_rfl
theorem make_of (P : Program) (r : List (List Char)) (h : behindMainWord (wordsSigns P.initOrder.toList) = cutW :: r) : P.make = some .cut := by
  unfold Program.make
  rw [h]
  simp only [gc_no, spec_no, cut_yes, Bool.or_false, Bool.true_or, if_true, Bool.false_eq_true, if_false]
theorem headLifts_of (P : Program) (r : List (List Char)) (h : behindMainWord (wordsSigns P.initOrder.toList) = cutW :: r) (hs : stripLifts liftWords (cutW :: r) = ([], cutW :: r)) : P.headLifts = [] := by
  unfold Program.headLifts
  simp only [h, hs]
  split <;> rfl
theorem liftsFinal_of (P : Program) (r : List (List Char)) (h : behindMainWord (wordsSigns P.initOrder.toList) = cutW :: r) (hs : stripLifts liftWords (cutW :: r) = ([], cutW :: r)) : P.liftsFinal = false := by
  unfold Program.liftsFinal
  have hc : (some cutW == some "carried".toList) = false := carried_no
  simp only [headLifts_of P r h hs, h, List.head?_cons, hc, Bool.false_and, Bool.false_or]
  rfl
theorem mayEnter_of (P : Program) (r : List (List Char)) (h : behindMainWord (wordsSigns P.initOrder.toList) = cutW :: r) (hs : stripLifts liftWords (cutW :: r) = ([], cutW :: r))
    (hl : P.laysLater = false) (hr : P.bearsReflect = false) (hd : P.doorFits [] = true) : P.mayEnter = true := by
  unfold Program.mayEnter
  have hc : (some cutW == some "cut".toList) = true := cut_yes
  simp only [h, hs, gc_no, spec_no, carried_no, hl, hr, hd, hc, List.head?_cons, Bool.or_false, Bool.false_or, Bool.false_and, Bool.not_false, Bool.or_true, Bool.and_true]
  rfl
theorem prog_words : behindMainWord (wordsSigns Try.prog.initOrder.toList) = cutW :: headRest := by rw [head_toList, head_words]
theorem laysLater_prog : Try.prog.laysLater = false := by kernel_rfl
theorem bearsReflect_prog : Try.prog.bearsReflect = false := by kernel_rfl
theorem doorFits_prog : Try.prog.doorFits [] = true := by kernel_rfl
theorem mayEnter_prog : Try.prog.mayEnter = true := mayEnter_of _ _ prog_words strip_words laysLater_prog bearsReflect_prog doorFits_prog
theorem liftsFinal_prog : Try.prog.liftsFinal = false := liftsFinal_of _ _ prog_words strip_words
theorem make_prog : Try.prog.make = some .cut := make_of _ _ prog_words
theorem laidOut_prog : laidOutB Try.prog = true := by kernel_rfl
theorem mapsRowed_prog : mapsRowed Try.prog = true := by kernel_rfl
theorem stopsHeard_prog : Try.prog.stopsHeard = true := by kernel_rfl
theorem plainKeys_prog : Try.prog.plainKeys = true := by kernel_rfl
theorem own_prog : ownKnob Try.prog.godebug = none := by kernel_rfl

/-- the row's closed facts, one by one -/
theorem facts_of {f : FuncId} {fn : Func} {s : ChangeSpec} {c : OpenClaim}
    (k1 : c.wf (OpenSpec.ofChange s) = true) (k4 : fn.params.all (Try.prog.readableRec ·) = true) (k5 : namedTie Try.prog c.named s.vars = true)
    (kp : ((c.stops == []) && (Try.prog.stops == []) && (c.knobs == []) && (Try.prog.stopKnobs == [])) = true)
    (k10 : (c.inPlace == Try.prog.inPlace f) = true) (k11 : (c.unfollowed == Try.prog.unfollowed f) = true) (k12 : (c.recurses == Try.prog.recurses f) = true) (k13 : (c.named == Try.prog.varsNamed f) = true)
    (k14 : ((c.maps == (fn.params.toList ++ s.plain.varTypes Try.prog).any (Try.prog.mapsRec ·)) && (c.ifaces == (fn.params.toList ++ s.plain.varTypes Try.prog).any (Try.prog.ifacesRec ·)) && (c.mapsOut == Try.prog.mapsAmong fn.resultTypes.toList) &&
      (c.loops == (fn.params.toList ++ s.plain.varTypes Try.prog).any (Try.prog.loopsFrom ·)) && (c.wideKeys == (fn.params.toList ++ s.plain.varTypes Try.prog ++ fn.resultTypes.toList).any (Try.prog.wideKeysFrom ·)) &&
      s.vars.all (Try.prog.varReadable ·) && fn.resultTypes.all (fun t => Try.prog.readableRec t && decide (t < Try.prog.types.size)) && (c.ifacesOut == fn.resultTypes.toList.any (Try.prog.ifacesRec ·)) && (c.loopsOut == fn.resultTypes.toList.any (Try.prog.loopsFrom ·)) && (c.plainKeys == true) && c.shortTexts.isNone) = true)
    (k26 : c.lifted = false) (k27 : c.make = .cut) (k28 : (c.kinds == (if c.domain.isEmpty then [] else fn.params.toList.map fun t => match Try.prog.underlying t with | some (.int k) => some k | _ => none)) = true) (k29 : (c.pinned == c.pinnedBy) = true)
    (k30 : ((c.veiled == (fn.params.toList ++ s.plain.varTypes Try.prog ++ fn.resultTypes.toList).any (Try.prog.veiledRec ·)) && c.veiledFits Try.prog fn.params.toList (fn.params.toList ++ s.plain.varTypes Try.prog ++ fn.resultTypes.toList)) = true) :
    joinedFacts Try.prog f fn s c = true := by
  simp only [Bool.and_eq_true] at kp k14 k30
  obtain ⟨⟨⟨p1, p2⟩, p3⟩, p4⟩ := kp
  obtain ⟨⟨⟨⟨⟨⟨⟨⟨⟨⟨q1, q2⟩, q3⟩, q4⟩, q5⟩, q6⟩, q7⟩, q8⟩, q9⟩, q10⟩, q11⟩ := k14
  unfold joinedFacts
  simp only [Bool.and_eq_true]
  rw [make_prog, liftsFinal_prog, plainKeys_prog, k26, k27]
  exact ⟨⟨⟨⟨⟨⟨⟨⟨⟨⟨⟨⟨⟨⟨⟨⟨⟨⟨⟨⟨⟨⟨⟨⟨⟨⟨⟨⟨⟨⟨⟨k1, laidOut_prog⟩, mapsRowed_prog⟩, k4⟩, k5⟩, p1⟩, p2⟩, p3⟩, p4⟩, k10⟩, k11⟩, k12⟩, k13⟩, q1⟩, q2⟩, q3⟩, q4⟩, q5⟩, q6⟩, q7⟩, q8⟩, q9⟩, q10⟩, q11⟩, stopsHeard_prog⟩, mayEnter_prog⟩, rfl⟩, rfl⟩, k28⟩, k29⟩, k30.1⟩, k30.2⟩
end Go.Proofs.Ytjobmbjadpldfaa
