/- Feeds. Plain facts, no program. No condition. -/
import Derived.Test.YtldllhfadihmeaaItem
namespace Go.Proofs.Ytldllhfadihmeaa

/-- An item with a key is there. -/
def hasK (l : List It) (k : ByteArray) : Bool := l.any (fun i => eqS i.key k)
theorem hasK_iff (l : List It) (k : ByteArray) : hasK l k = true ↔ ∃ i ∈ l, i.key = k := by simp [hasK, eqS_iff]
theorem hasK_app (a b : List It) (k : ByteArray) : hasK (a ++ b) k = (hasK a k || hasK b k) := by simp [hasK]
def freshK : List It → Bool
  | [] => true
  | i :: l => !hasK l i.key && freshK l
def feedV (l : List It) : Bool := decide (l.length ≤ 8) && l.all itV && freshK l
theorem feedV_iff (l : List It) : feedV l = true ↔ l.length ≤ 8 ∧ l.all itV = true ∧ freshK l = true := by
  simp [feedV, and_assoc]
theorem freshK_snoc (l : List It) (i : It) : freshK (l ++ [i]) = (freshK l && !hasK l i.key) := by
  induction l with
  | nil => simp [freshK, hasK]
  | cons j l ih =>
    rw [List.cons_append, freshK, ih, freshK, hasK_app]
    have e1 : hasK [i] j.key = (eqS i.key j.key) := by simp [hasK]
    have e2 : hasK (j :: l) i.key = ((eqS j.key i.key) || hasK l i.key) := by simp [hasK]
    have e3 : (eqS i.key j.key) = (eqS j.key i.key) := eqS_comm _ _
    rw [e1, e2, e3]
    cases hasK l j.key <;> cases (eqS j.key i.key) <;> cases freshK l <;> cases hasK l i.key <;> rfl
theorem feedV_nil : feedV [] = true := rfl
theorem feedV_bad {l : List It} {k : Nat} (hk : k < l.length) (h : itV l[k] = false) : feedV l = false := by
  rw [← Bool.not_eq_true, feedV_iff, List.all_eq_true]
  rintro ⟨_, h2, _⟩
  rw [h2 _ (List.getElem_mem hk)] at h; cases h
theorem feedV_long {l : List It} (h : 8 < l.length) : feedV l = false := by
  rw [← Bool.not_eq_true, feedV_iff]; omega
theorem freshK_take {l : List It} (h : freshK l = true) (k : Nat) : freshK (l.take k) = true := by
  induction l generalizing k with
  | nil => simp [freshK]
  | cons i l ih =>
    cases k with
    | zero => rfl
    | succ k =>
      simp only [freshK, Bool.and_eq_true, Bool.not_eq_true'] at h
      simp only [List.take_succ_cons, freshK, Bool.and_eq_true, Bool.not_eq_true']
      refine ⟨?_, ih h.2 k⟩
      rw [← Bool.not_eq_true, hasK_iff]
      rintro ⟨j, hj, e⟩
      have := (hasK_iff l i.key).2 ⟨j, List.mem_of_mem_take hj, e⟩
      rw [this] at h; cases h.1
theorem take_snocI (l : List It) (k : Nat) (h : k < l.length) : l.take (k + 1) = l.take k ++ [l[k]] := by
  rw [List.take_succ_eq_append_getElem h]
theorem feedV_twice {l : List It} {k : Nat} (hk : k < l.length) (h : hasK (l.take k) l[k].key = true) : feedV l = false := by
  rw [← Bool.not_eq_true, feedV_iff]
  rintro ⟨_, _, h3⟩
  have := freshK_take h3 (k + 1)
  rw [take_snocI l k hk, freshK_snoc, h] at this
  simp at this
/-- What the rounds of FeedValid's loop keep. -/
def FvTo (l : List It) (k : Nat) : Prop := (l.take k).all itV = true ∧ freshK (l.take k) = true
theorem FvTo.zero (l : List It) : FvTo l 0 := by simp [FvTo, freshK]
theorem FvTo.next {l : List It} {k : Nat} (h : FvTo l k) (hk : k < l.length) (h1 : itV l[k] = true) (h2 : hasK (l.take k) l[k].key = false) : FvTo l (k + 1) := by
  unfold FvTo at *
  rw [take_snocI l k hk, List.all_append, freshK_snoc, h.1, h.2, h2]
  simp [h1]
theorem FvTo.done {l : List It} {k : Nat} (h : FvTo l k) (hk : l.length ≤ k) : feedV l = decide (l.length ≤ 8) := by
  unfold FvTo at h
  rw [List.take_of_length_le hk] at h
  unfold feedV; rw [h.1, h.2]; simp

/-- The place of the first item with a key. -/
def numI (l : List It) (k : ByteArray) : Int := match l.findIdx? (fun i => eqS i.key k) with | some n => n | none => -1
theorem numI_bd (l : List It) (k : ByteArray) : -1 ≤ numI l k ∧ numI l k < l.length := by
  unfold numI
  split
  · rename_i n h
    have := (List.findIdx?_eq_some_iff_getElem.1 h).1
    omega
  · omega
theorem numI_neg (l : List It) (k : ByteArray) : numI l k < 0 ↔ hasK l k = false := by
  unfold numI hasK
  split
  · rename_i n h
    obtain ⟨h1, h2, _⟩ := List.findIdx?_eq_some_iff_getElem.1 h
    constructor
    · omega
    · intro h3
      rw [List.any_eq_false] at h3
      exact absurd h2 (h3 _ (List.getElem_mem h1))
  · rename_i h
    rw [List.findIdx?_eq_none_iff] at h
    constructor
    · intro _
      rw [List.any_eq_false]
      intro x hx; rw [h x hx]; simp
    · omega
theorem numI_here {l : List It} {k : ByteArray} {n : Nat} (hn : n < l.length) (h : l[n].key = k) (hb : hasK (l.take n) k = false) : numI l k = n := by
  unfold numI
  have : l.findIdx? (fun i => eqS i.key k) = some n := by
    rw [List.findIdx?_eq_some_iff_getElem]
    refine ⟨hn, (eqS_iff _ _).2 h, fun j hj => ?_⟩
    have hm : l[j] ∈ l.take n := by
      rw [List.mem_take_iff_getElem]; exact ⟨j, by omega, rfl⟩
    unfold hasK at hb
    rw [List.any_eq_false] at hb
    simpa using hb _ hm
  rw [this]
theorem numI_at {l : List It} {k : ByteArray} {n : Nat} (h : numI l k = n) : ∃ hn : n < l.length, l.find? (fun i => eqS i.key k) = some l[n] ∧ l[n].key = k := by
  unfold numI at h
  split at h
  · rename_i m hm
    obtain rfl : m = n := by omega
    have h2 := List.findIdx?_eq_some_iff_getElem.1 hm
    obtain ⟨h1, h3, h4⟩ := h2
    refine ⟨h1, ?_, (eqS_iff _ _).1 h3⟩
    rw [List.find?_eq_some_iff_getElem]
    exact ⟨h3, m, h1, rfl, fun j hj => by simpa using h4 j hj⟩
  · omega
/-- The item of a valid feed with a key. -/
def withI (l : List It) (k : ByteArray) : Option It := if feedV l = true then l.find? (fun i => eqS i.key k) else none
theorem withI_bad {l : List It} (k : ByteArray) (h : feedV l = false) : withI l k = none := by unfold withI; rw [h]; rfl
theorem withI_none {l : List It} {k : ByteArray} (h : hasK l k = false) : withI l k = none := by
  unfold withI
  split
  · rw [List.find?_eq_none]
    intro x hx
    unfold hasK at h
    rw [List.any_eq_false] at h
    exact h x hx
  · rfl
theorem withI_num {l : List It} {k : ByteArray} {n : Nat} (hv : feedV l = true) (h : numI l k = n) : ∃ hn : n < l.length, withI l k = some l[n] := by
  obtain ⟨hn, h2, _⟩ := numI_at h
  exact ⟨hn, by unfold withI; rw [if_pos hv, h2]⟩
theorem withI_here {l : List It} {k : ByteArray} {n : Nat} (hv : feedV l = true) (hn : n < l.length) (h : l[n].key = k) (hb : hasK (l.take n) k = false) : withI l k = some l[n] := by
  obtain ⟨_, h2⟩ := withI_num hv (numI_here hn h hb)
  exact h2
theorem withI_key {l : List It} {k : ByteArray} {i : It} (h : withI l k = some i) : i ∈ l ∧ i.key = k ∧ feedV l = true := by
  unfold withI at h
  split at h
  · rename_i hv
    exact ⟨List.mem_of_find?_eq_some h, (eqS_iff _ _).1 (List.find?_some (p := fun i : It => eqS i.key k) h), hv⟩
  · cases h
end Go.Proofs.Ytldllhfadihmeaa
