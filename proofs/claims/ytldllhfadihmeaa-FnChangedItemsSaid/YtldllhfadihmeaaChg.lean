/- What ChangedItems computes. Plain facts, no program. No condition. -/
import Derived.Test.YtldllhfadihmeaaNewS
namespace Go.Proofs.Ytldllhfadihmeaa

def chgP (a : List It) (i : It) : Bool := match a.find? (fun j => eqS j.key i.key) with | some x => !decide (x = i) | none => false
def chgI : List It → List It → List It := selI chgP
theorem selI_len_chgI (a b : List It) : (chgI a b).length ≤ 8 := selI_len _ a b
theorem chgP_none {a : List It} {i : It} (h : hasK a i.key = false) : chgP a i = false := by
  unfold chgP
  cases hf : a.find? (fun j => eqS j.key i.key) with
  | none => rfl
  | some x =>
    have h1 := List.find?_some hf
    have h2 := List.mem_of_find?_eq_some hf
    have : hasK a i.key = true := (hasK_iff _ _).2 ⟨x, h2, (eqS_iff _ _).1 h1⟩
    rw [this] at h; cases h
theorem chgP_neg {a : List It} {i : It} {v : Int} (hv : v = numI a i.key) (h : v < 0) : chgP a i = false := by
  subst hv
  exact chgP_none ((numI_neg a i.key).1 h)
theorem chgP_at {a : List It} {i : It} {n : Nat} (h : numI a i.key = (n : Int)) : ∃ hn : n < a.length, chgP a i = !decide (a[n] = i) := by
  obtain ⟨hn, h1, h2⟩ := numI_at h
  refine ⟨hn, ?_⟩
  unfold chgP
  rw [h1]
theorem chgP_with {a : List It} {i : It} (hv : feedV a = true) : chgP a i = ((withI a i.key).isSome && !decide (dI (withI a i.key) = i)) := by
  unfold chgP withI
  rw [if_pos hv]
  cases a.find? (fun j => eqS j.key i.key) with
  | none => rfl
  | some x => simp only [Option.isSome_some, Bool.true_and]; rfl
end Go.Proofs.Ytldllhfadihmeaa
