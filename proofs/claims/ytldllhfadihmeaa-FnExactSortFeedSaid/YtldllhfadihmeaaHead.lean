/- The program's head line, sign by sign: the three closed facts on it. No condition. -/
import Derived.Test.YtldllhfadihmeaaRows
import Derived.JoinedOf
import Derived.KernelRfl
namespace Go.Proofs.Ytldllhfadihmeaa
def head_signs : List Char := List.map Char.ofNat [
    104, 97, 114, 110, 101, 115, 115, 32, 98, 100, 54, 48, 98, 53, 55, 49, 102, 48, 50, 54, 51, 51, 101, 53,
    99, 100, 98, 97, 48, 98, 101, 102, 50, 55, 52, 102, 52, 50, 99, 52, 54, 101, 54, 102, 52, 51, 99, 101,
    100, 53, 53, 97, 100, 49, 54, 98, 52, 57, 50, 55, 55, 100, 54, 56, 48, 98, 49, 49, 50, 49, 101, 49,
    32, 99, 117, 116, 32, 97, 116, 32, 108, 111, 111, 112, 46, 101, 120, 97, 109, 112, 108, 101, 47, 102, 101, 101,
    100, 98, 114, 105, 100, 103, 101, 47, 108, 97, 119, 115, 46, 70, 110, 69, 120, 97, 99, 116, 83, 111, 114, 116,
    70, 101, 101, 100, 32, 108, 111, 111, 112, 46, 101, 120, 97, 109, 112, 108, 101, 47, 102, 101, 101, 100, 98, 114,
    105, 100, 103, 101, 47, 108, 97, 119, 115, 46, 70, 110, 69, 120, 97, 99, 116, 73, 116, 101, 109, 86, 97, 108,
    105, 100, 32, 108, 111, 111, 112, 46, 101, 120, 97, 109, 112, 108, 101, 47, 102, 101, 101, 100, 98, 114, 105, 100,
    103, 101, 47, 108, 97, 119, 115, 46, 70, 110, 73, 116, 101, 109, 86, 97, 108, 105, 100, 32, 108, 111, 111, 112,
    46, 101, 120, 97, 109, 112, 108, 101, 47, 102, 101, 101, 100, 98, 114, 105, 100, 103, 101, 47, 108, 97, 119, 115,
    46, 70, 110, 69, 120, 97, 99, 116, 70, 101, 101, 100, 86, 97, 108, 105, 100, 32, 108, 111, 111, 112, 46, 101,
    120, 97, 109, 112, 108, 101, 47, 102, 101, 101, 100, 98, 114, 105, 100, 103, 101, 47, 108, 97, 119, 115, 46, 70,
    110, 70, 101, 101, 100, 86, 97, 108, 105, 100, 32, 108, 111, 111, 112, 46, 101, 120, 97, 109, 112, 108, 101, 47,
    102, 101, 101, 100, 98, 114, 105, 100, 103, 101, 47, 108, 97, 119, 115, 46, 70, 110, 69, 120, 97, 99, 116, 73,
    116, 101, 109, 87, 105, 116, 104, 32, 108, 111, 111, 112, 46, 101, 120, 97, 109, 112, 108, 101, 47, 102, 101, 101,
    100, 98, 114, 105, 100, 103, 101, 47, 108, 97, 119, 115, 46, 70, 110, 73, 116, 101, 109, 87, 105, 116, 104, 32,
    108, 111, 111, 112, 46, 101, 120, 97, 109, 112, 108, 101, 47, 102, 101, 101, 100, 98, 114, 105, 100, 103, 101, 47,
    108, 97, 119, 115, 46, 70, 110, 69, 120, 97, 99, 116, 78, 101, 119, 73, 116, 101, 109, 115, 32, 108, 111, 111,
    112, 46, 101, 120, 97, 109, 112, 108, 101, 47, 102, 101, 101, 100, 98, 114, 105, 100, 103, 101, 47, 108, 97, 119,
    115, 46, 70, 110, 69, 120, 97, 99, 116, 67, 104, 97, 110, 103, 101, 100, 73, 116, 101, 109, 115, 32, 108, 111,
    111, 112, 46, 101, 120, 97, 109, 112, 108, 101, 47, 102, 101, 101, 100, 98, 114, 105, 100, 103, 101, 47, 108, 97,
    119, 115, 46, 70, 110, 78, 101, 119, 73, 116, 101, 109, 115, 32, 108, 111, 111, 112, 46, 101, 120, 97, 109, 112,
    108, 101, 47, 102, 101, 101, 100, 98, 114, 105, 100, 103, 101, 47, 108, 97, 119, 115, 46, 70, 110, 69, 120, 97,
    99, 116, 71, 111, 110, 101, 75, 101, 121, 115, 32, 108, 111, 111, 112, 46, 101, 120, 97, 109, 112, 108, 101, 47,
    102, 101, 101, 100, 98, 114, 105, 100, 103, 101, 47, 108, 97, 119, 115, 46, 70, 110, 67, 104, 97, 110, 103, 101,
    100, 73, 116, 101, 109, 115]
def head_words : List (List Char) := List.map (List.map Char.ofNat) [
    [99, 117, 116],
    [97, 116],
    [108, 111, 111, 112, 46, 101, 120, 97, 109, 112, 108, 101, 47, 102, 101, 101, 100, 98, 114, 105, 100, 103, 101, 47, 108, 97, 119, 115, 46, 70, 110, 69, 120, 97, 99, 116, 83, 111, 114, 116, 70, 101, 101, 100],
    [108, 111, 111, 112, 46, 101, 120, 97, 109, 112, 108, 101, 47, 102, 101, 101, 100, 98, 114, 105, 100, 103, 101, 47, 108, 97, 119, 115, 46, 70, 110, 69, 120, 97, 99, 116, 73, 116, 101, 109, 86, 97, 108, 105, 100],
    [108, 111, 111, 112, 46, 101, 120, 97, 109, 112, 108, 101, 47, 102, 101, 101, 100, 98, 114, 105, 100, 103, 101, 47, 108, 97, 119, 115, 46, 70, 110, 73, 116, 101, 109, 86, 97, 108, 105, 100],
    [108, 111, 111, 112, 46, 101, 120, 97, 109, 112, 108, 101, 47, 102, 101, 101, 100, 98, 114, 105, 100, 103, 101, 47, 108, 97, 119, 115, 46, 70, 110, 69, 120, 97, 99, 116, 70, 101, 101, 100, 86, 97, 108, 105, 100],
    [108, 111, 111, 112, 46, 101, 120, 97, 109, 112, 108, 101, 47, 102, 101, 101, 100, 98, 114, 105, 100, 103, 101, 47, 108, 97, 119, 115, 46, 70, 110, 70, 101, 101, 100, 86, 97, 108, 105, 100],
    [108, 111, 111, 112, 46, 101, 120, 97, 109, 112, 108, 101, 47, 102, 101, 101, 100, 98, 114, 105, 100, 103, 101, 47, 108, 97, 119, 115, 46, 70, 110, 69, 120, 97, 99, 116, 73, 116, 101, 109, 87, 105, 116, 104],
    [108, 111, 111, 112, 46, 101, 120, 97, 109, 112, 108, 101, 47, 102, 101, 101, 100, 98, 114, 105, 100, 103, 101, 47, 108, 97, 119, 115, 46, 70, 110, 73, 116, 101, 109, 87, 105, 116, 104],
    [108, 111, 111, 112, 46, 101, 120, 97, 109, 112, 108, 101, 47, 102, 101, 101, 100, 98, 114, 105, 100, 103, 101, 47, 108, 97, 119, 115, 46, 70, 110, 69, 120, 97, 99, 116, 78, 101, 119, 73, 116, 101, 109, 115],
    [108, 111, 111, 112, 46, 101, 120, 97, 109, 112, 108, 101, 47, 102, 101, 101, 100, 98, 114, 105, 100, 103, 101, 47, 108, 97, 119, 115, 46, 70, 110, 69, 120, 97, 99, 116, 67, 104, 97, 110, 103, 101, 100, 73, 116, 101, 109, 115],
    [108, 111, 111, 112, 46, 101, 120, 97, 109, 112, 108, 101, 47, 102, 101, 101, 100, 98, 114, 105, 100, 103, 101, 47, 108, 97, 119, 115, 46, 70, 110, 78, 101, 119, 73, 116, 101, 109, 115],
    [108, 111, 111, 112, 46, 101, 120, 97, 109, 112, 108, 101, 47, 102, 101, 101, 100, 98, 114, 105, 100, 103, 101, 47, 108, 97, 119, 115, 46, 70, 110, 69, 120, 97, 99, 116, 71, 111, 110, 101, 75, 101, 121, 115],
    [108, 111, 111, 112, 46, 101, 120, 97, 109, 112, 108, 101, 47, 102, 101, 101, 100, 98, 114, 105, 100, 103, 101, 47, 108, 97, 119, 115, 46, 70, 110, 67, 104, 97, 110, 103, 101, 100, 73, 116, 101, 109, 115]]
theorem head_text : Try.prog.initOrder = String.ofList head_signs := by kernel_rfl
theorem head_list : Try.prog.initOrder.toList = head_signs := (congrArg String.toList head_text).trans String.toList_ofList
theorem head_parts : behindMainWord (wordsSigns head_signs) = head_words := by kernel_rfl
theorem head_cut : ([Char.ofNat 99, Char.ofNat 117, Char.ofNat 116] == "gc".toList) = false ∧ ([Char.ofNat 99, Char.ofNat 117, Char.ofNat 116] == "spec".toList) = false ∧ ([Char.ofNat 99, Char.ofNat 117, Char.ofNat 116] == "cut".toList) = true ∧ ([Char.ofNat 99, Char.ofNat 117, Char.ofNat 116] == "carried".toList) = false := by decide
theorem make_of (P : Program) (cs : List Char) (r : List (List Char)) (h1 : P.initOrder.toList = cs) (h2 : behindMainWord (wordsSigns cs) = [Char.ofNat 99, Char.ofNat 117, Char.ofNat 116] :: r) : P.make = some .cut := by
  unfold Program.make
  rw [h1, h2]
  obtain ⟨c1, c2, c3, _⟩ := head_cut
  simp only [c1, c2, c3, Bool.or_self, Bool.true_or, if_true, Bool.false_eq_true, if_false]
theorem may_of (P : Program) (cs : List Char) (r : List (List Char)) (h1 : P.initOrder.toList = cs) (h2 : behindMainWord (wordsSigns cs) = [Char.ofNat 99, Char.ofNat 117, Char.ofNat 116] :: r)
    (hs : stripLifts liftWords ([Char.ofNat 99, Char.ofNat 117, Char.ofNat 116] :: r) = ([], [Char.ofNat 99, Char.ofNat 117, Char.ofNat 116] :: r))
    (h3 : P.laysLater = false) (h4 : P.bearsReflect = false) (h5 : P.doorFits [] = true) : P.mayEnter = true := by
  unfold Program.mayEnter
  rw [h1, h2]
  obtain ⟨c1, c2, c3, c4⟩ := head_cut
  simp only [hs, h3, h4, h5, c1, c2, c4, List.head?_cons, Bool.or_self, Bool.false_and, Bool.false_or]
  decide
theorem final_of (P : Program) (cs : List Char) (r : List (List Char)) (h1 : P.initOrder.toList = cs) (h2 : behindMainWord (wordsSigns cs) = [Char.ofNat 99, Char.ofNat 117, Char.ofNat 116] :: r)
    (hs : stripLifts liftWords ([Char.ofNat 99, Char.ofNat 117, Char.ofNat 116] :: r) = ([], [Char.ofNat 99, Char.ofNat 117, Char.ofNat 116] :: r)) : P.liftsFinal = false := by
  unfold Program.liftsFinal Program.headLifts
  rw [h1, h2]
  obtain ⟨c1, c2, c3, c4⟩ := head_cut
  have e : (some [Char.ofNat 99, Char.ofNat 117, Char.ofNat 116] == some "carried".toList) = false := c4
  simp only [hs, List.head?_cons, e, Bool.false_and, Bool.false_or]
  split <;> rfl
theorem head_rest : ∃ r, behindMainWord (wordsSigns head_signs) = [Char.ofNat 99, Char.ofNat 117, Char.ofNat 116] :: r ∧ stripLifts liftWords ([Char.ofNat 99, Char.ofNat 117, Char.ofNat 116] :: r) = ([], [Char.ofNat 99, Char.ofNat 117, Char.ofNat 116] :: r) :=
  ⟨head_words.tail, head_parts, by kernel_rfl⟩
theorem head_lays : Try.prog.laysLater = false := by kernel_rfl
theorem head_refl : Try.prog.bearsReflect = false := by kernel_rfl
theorem head_door : Try.prog.doorFits [] = true := by kernel_rfl
theorem head_make : Try.prog.make = some .cut := by
  obtain ⟨r, h2, _⟩ := head_rest
  exact make_of _ _ r head_list h2
theorem head_may : Try.prog.mayEnter = true := by
  obtain ⟨r, h2, h3⟩ := head_rest
  exact may_of _ _ r head_list h2 h3 head_lays head_refl head_door
theorem head_final : Try.prog.liftsFinal = false := by
  obtain ⟨r, h2, h3⟩ := head_rest
  exact final_of _ _ r head_list h2 h3
end Go.Proofs.Ytldllhfadihmeaa
