/- Two texts are one. No program, no condition. -/
import Derived.Laws.Strings
namespace Go.Proofs.Ytldllhfadihmeaa

theorem ba_inj {a b : ByteArray} (h : a.data.toList = b.data.toList) : a = b := by
  obtain ⟨⟨a⟩⟩ := a
  obtain ⟨⟨b⟩⟩ := b
  simp only at h
  subst h; rfl
/-- Two texts are one, in the form in which the walk says it. -/
def eqS (a b : ByteArray) : Bool := a.toList == b.toList
theorem eqS_iff (a b : ByteArray) : eqS a b = true ↔ a = b := by
  unfold eqS
  rw [ByteArray.toList_eq, ByteArray.toList_eq, beq_iff_eq]
  constructor
  · intro h
    obtain ⟨⟨a⟩⟩ := a
    obtain ⟨⟨b⟩⟩ := b
    simp only at h
    subst h; rfl
  · rintro rfl; rfl
theorem eqS_self (a : ByteArray) : eqS a a = true := (eqS_iff a a).2 rfl
theorem eqS_ne {a b : ByteArray} (h : a ≠ b) : eqS a b = false := by rw [← Bool.not_eq_true, eqS_iff]; exact h
theorem eqS_comm (a b : ByteArray) : eqS a b = eqS b a := Bool.eq_iff_iff.2 (by rw [eqS_iff, eqS_iff]; exact eq_comm)

end Go.Proofs.Ytldllhfadihmeaa
