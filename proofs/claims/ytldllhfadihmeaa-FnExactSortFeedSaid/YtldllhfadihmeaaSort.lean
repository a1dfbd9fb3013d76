/- What SortFeed computes. Plain facts, no program. No condition. -/
import Derived.Test.YtldllhfadihmeaaFeed
import Derived.Sort.Statements
namespace Go.Proofs.Ytldllhfadihmeaa

def befI (a b : It) : Bool := decide (b.day < a.day) || (decide (a.day = b.day) && decide (a.key.data.toList < b.key.data.toList))
theorem befI_iff (a b : It) : befI a b = true ↔ b.day < a.day ∨ (a.day = b.day ∧ a.key.data.toList < b.key.data.toList) := by simp [befI]
theorem befI_irr (a : It) : befI a a = false := by
  rw [← Bool.not_eq_true, befI_iff]
  rintro (h | ⟨_, h⟩)
  · omega
  · exact List.lt_irrefl _ h
theorem befI_trans {a b c : It} (h1 : befI a b = true) (h2 : befI b c = true) : befI a c = true := by
  rw [befI_iff] at *
  rcases h1 with h1 | ⟨h1, k1⟩ <;> rcases h2 with h2 | ⟨h2, k2⟩
  · exact .inl (by omega)
  · exact .inl (by omega)
  · exact .inl (by omega)
  · exact .inr ⟨by omega, List.lt_trans k1 k2⟩
theorem befI_asymm {a b : It} (h : befI a b = true) : befI b a = false := by
  cases h2 : befI b a
  · rfl
  · have := befI_trans h h2
    rw [befI_irr] at this; cases this
theorem befI_ntrans {a b c : It} (h1 : befI a b = false) (h2 : befI b c = false) : befI a c = false := by
  rw [← Bool.not_eq_true, befI_iff] at *
  rintro (h | ⟨h, k⟩)
  · by_cases hd : b.day < a.day
    · exact h1 (.inl hd)
    · exact h2 (.inl (by omega))
  · by_cases hd : b.day < a.day
    · exact h1 (.inl hd)
    · by_cases hc : c.day < b.day
      · exact h2 (.inl hc)
      · have e1 : ¬ a.key.data.toList < b.key.data.toList := fun k => h1 (.inr ⟨by omega, k⟩)
        have e2 : ¬ b.key.data.toList < c.key.data.toList := fun k => h2 (.inr ⟨by omega, k⟩)
        rw [List.not_lt] at e1 e2
        have := List.le_trans e2 e1
        exact absurd k (List.not_lt.2 this)
theorem befI_swo : Go.Sort.SWO befI where
  irrefl := befI_irr
  trans _ _ _ := befI_trans
  ntrans _ _ _ := befI_ntrans
theorem befI_eq {a b : It} (h1 : befI a b = false) (h2 : befI b a = false) : a.key = b.key := by
  rw [← Bool.not_eq_true, befI_iff] at *
  have e1 : ¬ a.key.data.toList < b.key.data.toList := fun k => h1 (.inr ⟨by
    by_cases hd : b.day < a.day
    · exact absurd (.inl hd) h1
    · by_cases hc : a.day < b.day
      · exact absurd (.inl hc) h2
      · omega, k⟩)
  have e2 : ¬ b.key.data.toList < a.key.data.toList := fun k => h2 (.inr ⟨by
    by_cases hd : b.day < a.day
    · exact absurd (.inl hd) h1
    · by_cases hc : a.day < b.day
      · exact absurd (.inl hc) h2
      · omega, k⟩)
  rw [List.not_lt] at e1 e2
  have := List.le_antisymm e1 e2
  have h3 : a.key.data = b.key.data := (Array.toList_inj.1 this).symm
  cases hk : a.key; cases hj : b.key
  rw [hk, hj] at h3
  exact congrArg _ h3
/-- What is sorted of what. -/
def Srt (l r : List It) : Prop := r.Perm l ∧ r.Pairwise (fun a b => befI b a = false)
theorem Srt.nil : Srt [] [] := ⟨List.Perm.refl _, List.Pairwise.nil⟩
theorem Srt.ins {l r : List It} (h : Srt l r) (x : It) (p : Nat) (hp : p ≤ r.length) (ha : ∀ j (hj : j < r.length), p ≤ j → befI x r[j] = true) (hb : ∀ (h : 0 < p), befI x (r[p - 1]'(by omega)) = false) : Srt (l ++ [x]) (r.take p ++ [x] ++ r.drop p) := by
  obtain ⟨h1, h2⟩ := h
  constructor
  · have e : (r.take p ++ [x] ++ r.drop p).Perm (r.take p ++ r.drop p ++ [x]) := by
      rw [List.append_assoc, List.append_assoc]
      exact List.Perm.append_left _ List.perm_append_comm
    rw [List.take_append_drop] at e
    exact e.trans (List.Perm.append_right _ h1)
  · have hlo : ∀ y ∈ r.take p, befI x y = false := by
      intro y hy
      obtain ⟨j, hj, rfl⟩ := List.getElem_of_mem hy
      rw [List.length_take] at hj
      rw [List.getElem_take]
      have h0 := hb (by omega)
      by_cases e : j = p - 1
      · subst e; exact h0
      · have := List.pairwise_iff_getElem.1 h2 j (p - 1) (by omega) (by omega) (by omega)
        exact befI_ntrans h0 this
    have hhi : ∀ y ∈ r.drop p, befI x y = true := by
      intro y hy
      obtain ⟨j, hj, rfl⟩ := List.getElem_of_mem hy
      rw [List.length_drop] at hj
      rw [List.getElem_drop]
      exact ha _ (by omega) (by omega)
    have hsp := h2
    rw [← List.take_append_drop p r, List.pairwise_append] at hsp
    obtain ⟨s1, s2, s3⟩ := hsp
    rw [List.append_assoc, List.pairwise_append]
    refine ⟨s1, ?_, ?_⟩
    · rw [List.singleton_append, List.pairwise_cons]
      exact ⟨fun y hy => befI_asymm (hhi y hy), s2⟩
    · intro a ha' b hb'
      rw [List.singleton_append, List.mem_cons] at hb'
      rcases hb' with rfl | hb'
      · exact hlo a ha'
      · exact s3 a ha' b hb'
theorem srt_one {l r r' : List It} (hk : ∀ a ∈ l, ∀ b ∈ l, a.key = b.key → a = b) (h : Srt l r) (h' : Srt l r') : r = r' := by
  refine List.Perm.eq_of_pairwise (le := fun a b => befI b a = false) (fun a b ha hb h1 h2 => ?_) h.2 h'.2 (h.1.trans h'.1.symm)
  exact hk a (h.1.subset ha) b (h'.1.subset hb) (befI_eq h2 h1)
/-- A feed, sorted. -/
def sortF (l : List It) : List It := if feedV l = true then l.mergeSort (fun a b => !befI b a) else []
theorem srt_merge (l : List It) : Srt l (l.mergeSort (fun a b => !befI b a)) := by
  refine ⟨List.mergeSort_perm _ _, ?_⟩
  have := List.pairwise_mergeSort (le := fun a b => !befI b a) (fun a b c h1 h2 => by
    simp only [Bool.not_eq_true'] at *
    exact befI_ntrans h2 h1) (fun a b => by
    cases h : befI b a
    · simp
    · simp [befI_asymm h]) l
  exact this.imp (fun h => by simpa using h)
theorem fresh_keys : ∀ {l : List It}, freshK l = true → ∀ a ∈ l, ∀ b ∈ l, a.key = b.key → a = b
  | [], _, a, ha => by simp at ha
  | x :: l, h, a, ha => by
    intro b hb e
    rw [freshK, Bool.and_eq_true] at h
    obtain ⟨h1, h2⟩ := h
    rw [List.mem_cons] at ha hb
    rcases ha with rfl | ha <;> rcases hb with rfl | hb
    · rfl
    · exfalso
      have : hasK l a.key = true := (hasK_iff _ _).2 ⟨b, hb, e.symm⟩
      rw [this] at h1; simp at h1
    · exfalso
      have : hasK l b.key = true := (hasK_iff _ _).2 ⟨a, ha, e⟩
      rw [this] at h1; simp at h1
    · exact fresh_keys h2 a ha b hb e
theorem sortF_ok {l r : List It} (hv : feedV l = true) (h : Srt l r) : sortF l = r := by
  unfold sortF
  rw [if_pos hv]
  exact srt_one (fresh_keys ((feedV_iff l).1 hv).2.2) (srt_merge l) h
theorem sortF_bad {l : List It} (hv : feedV l = false) : sortF l = [] := by unfold sortF; rw [hv]; rfl
theorem sortF_len (l : List It) : (sortF l).length ≤ 8 := by
  unfold sortF
  split
  · rename_i h
    rw [List.length_mergeSort]
    exact ((feedV_iff l).1 h).1
  · simp
end Go.Proofs.Ytldllhfadihmeaa
