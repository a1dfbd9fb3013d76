/- Escaped texts: the bytes' names, and that no two texts are written alike. Plain facts, no program. No condition. -/
import Derived.Test.YtldllhfadihmeaaPlain
namespace Go.Proofs.Ytldllhfadihmeaa

def ampN : List UInt8 := [38, 97, 109, 112, 59]
def ltN : List UInt8 := [38, 108, 116, 59]
def gtN : List UInt8 := [38, 103, 116, 59]
def quotN : List UInt8 := [38, 113, 117, 111, 116, 59]
def escB (c : UInt8) : List UInt8 := if c = 38 then ampN else if c = 60 then ltN else if c = 62 then gtN else if c = 34 then quotN else [c]
theorem escB_amp : escB 38 = ampN := rfl
theorem escB_lt : escB 60 = ltN := rfl
theorem escB_gt : escB 62 = gtN := rfl
theorem escB_quot : escB 34 = quotN := rfl
theorem escB_self {c : UInt8} (h1 : c ≠ 38) (h2 : c ≠ 60) (h3 : c ≠ 62) (h4 : c ≠ 34) : escB c = [c] := by
  unfold escB; rw [if_neg h1, if_neg h2, if_neg h3, if_neg h4]
/-- What a byte may be written by. -/
theorem escB_cases (c : UInt8) : (c = 38 ∧ escB c = ampN) ∨ (c = 60 ∧ escB c = ltN) ∨ (c = 62 ∧ escB c = gtN) ∨ (c = 34 ∧ escB c = quotN) ∨ (c ≠ 38 ∧ c ≠ 60 ∧ c ≠ 62 ∧ c ≠ 34 ∧ escB c = [c]) := by
  by_cases h1 : c = 38
  · exact .inl ⟨h1, by rw [h1]; rfl⟩
  · by_cases h2 : c = 60
    · exact .inr (.inl ⟨h2, by rw [h2]; rfl⟩)
    · by_cases h3 : c = 62
      · exact .inr (.inr (.inl ⟨h3, by rw [h3]; rfl⟩))
      · by_cases h4 : c = 34
        · exact .inr (.inr (.inr (.inl ⟨h4, by rw [h4]; rfl⟩)))
        · exact .inr (.inr (.inr (.inr ⟨h1, h2, h3, h4, escB_self h1 h2 h3 h4⟩)))
theorem escB_len (c : UInt8) : 1 ≤ (escB c).length ∧ (escB c).length ≤ 6 := by
  rcases escB_cases c with ⟨_, h⟩ | ⟨_, h⟩ | ⟨_, h⟩ | ⟨_, h⟩ | ⟨_, _, _, _, h⟩ <;> rw [h] <;> simp [ampN, ltN, gtN, quotN]
theorem escB_ne (c : UInt8) : escB c ≠ [] := by
  intro h; have := escB_len c; rw [h] at this; simp at this
/-- No byte's writing begins another's. -/
theorem escB_free {a b : UInt8} {x y : List UInt8} (h : escB a ++ x = escB b ++ y) : a = b ∧ x = y := by
  rcases escB_cases a with ⟨ha, ea⟩ | ⟨ha, ea⟩ | ⟨ha, ea⟩ | ⟨ha, ea⟩ | ⟨ha1, ha2, ha3, ha4, ea⟩ <;>
  rcases escB_cases b with ⟨hb, eb⟩ | ⟨hb, eb⟩ | ⟨hb, eb⟩ | ⟨hb, eb⟩ | ⟨hb1, hb2, hb3, hb4, eb⟩ <;>
  rw [ea, eb] at h <;> simp [ampN, ltN, gtN, quotN] at h
  all_goals first
    | (subst ha; subst hb; exact ⟨rfl, h⟩)
    | exact absurd h.1.symm hb1
    | exact absurd h.1 ha1
    | exact h
theorem escB_no {c d : UInt8} (hd : d = 60 ∨ d = 62) : d ∉ escB c := by
  rcases escB_cases c with ⟨_, h⟩ | ⟨_, h⟩ | ⟨_, h⟩ | ⟨_, h⟩ | ⟨_, h2, h3, _, h⟩ <;> rw [h]
  all_goals rcases hd with rfl | rfl
  all_goals first
    | decide
    | (simp only [List.mem_singleton]; exact fun e => h2 e.symm)
    | (simp only [List.mem_singleton]; exact fun e => h3 e.symm)

/-- A text escaped. -/
def esc (l : List UInt8) : List UInt8 := l.flatMap escB
theorem esc_nil : esc [] = [] := rfl
theorem esc_cons (c : UInt8) (l : List UInt8) : esc (c :: l) = escB c ++ esc l := rfl
theorem esc_app (a b : List UInt8) : esc (a ++ b) = esc a ++ esc b := by simp [esc]
theorem esc_snoc (a : List UInt8) (c : UInt8) : esc (a ++ [c]) = esc a ++ escB c := by rw [esc_app, esc_cons, esc_nil, List.append_nil]
theorem esc_len (l : List UInt8) : l.length ≤ (esc l).length ∧ (esc l).length ≤ 6 * l.length := by
  induction l with
  | nil => simp [esc]
  | cons c l ih => rw [esc_cons, List.length_append, List.length_cons]; have := escB_len c; omega
theorem esc_no {l : List UInt8} {d : UInt8} (hd : d = 60 ∨ d = 62) : d ∉ esc l := by
  intro h
  obtain ⟨c, _, hc⟩ := List.mem_flatMap.1 h
  exact escB_no hd hc
theorem esc_inj {a b : List UInt8} (h : esc a = esc b) : a = b := by
  induction a generalizing b with
  | nil =>
    cases b with
    | nil => rfl
    | cons c b => rw [esc_cons, esc_nil] at h; exact absurd (List.append_eq_nil_iff.1 h.symm).1 (escB_ne c)
  | cons c a ih =>
    cases b with
    | nil => rw [esc_cons, esc_nil] at h; exact absurd (List.append_eq_nil_iff.1 h).1 (escB_ne c)
    | cons d b =>
      rw [esc_cons, esc_cons] at h
      obtain ⟨rfl, h2⟩ := escB_free h
      rw [ih h2]
/-- What is written behind a beginning that is read. -/
theorem esc_split {a b : List UInt8} {x : List UInt8} (h : esc b = esc a ++ x) : ∃ c, b = a ++ c ∧ esc c = x := by
  induction a generalizing b with
  | nil => exact ⟨b, rfl, by simpa [esc] using h⟩
  | cons d a ih =>
    cases b with
    | nil => rw [esc_cons, esc_nil, List.append_assoc] at h; exact absurd (List.append_eq_nil_iff.1 h.symm).1 (escB_ne d)
    | cons e b =>
      rw [esc_cons, esc_cons, List.append_assoc] at h
      obtain ⟨rfl, h2⟩ := escB_free h
      obtain ⟨c, rfl, hc⟩ := ih h2
      exact ⟨c, rfl, hc⟩

def escT (l : List UInt8) : List UInt8 := if textV l = true then esc l else []
theorem escT_yes {l : List UInt8} (h : textV l = true) : escT l = esc l := by unfold escT; rw [if_pos h]
theorem escT_no {l : List UInt8} (h : textV l = false) : escT l = [] := by unfold escT; rw [h]; rfl
theorem textV_len {l : List UInt8} (h : textV l = true) : l.length ≤ 80 := by
  simp only [textV, Bool.and_eq_true, decide_eq_true_eq] at h; exact h.1
theorem textV_all {l : List UInt8} (h : textV l = true) : l.all okB = true := by
  simp only [textV, Bool.and_eq_true, decide_eq_true_eq] at h; exact h.2
theorem textV_mk {l : List UInt8} (h1 : l.length ≤ 80) (h2 : l.all okB = true) : textV l = true := by
  simp only [textV, Bool.and_eq_true, decide_eq_true_eq]; exact ⟨h1, h2⟩
theorem escT_len (l : List UInt8) : (escT l).length ≤ 480 := by
  cases h : textV l
  · rw [escT_no h]; simp
  · rw [escT_yes h]; have := esc_len l; have := textV_len h; omega

/-- The text that an escaped text stands for. -/
noncomputable def unE (l : List UInt8) : Option (List UInt8) :=
  @dite (Option (List UInt8)) (∃ t, textV t = true ∧ esc t = l) (Classical.propDecidable _) (fun h => some (Classical.choose h)) (fun _ => none)
theorem unE_yes {t l : List UInt8} (h : textV t = true) (he : esc t = l) : unE l = some t := by
  have hx : ∃ t, textV t = true ∧ esc t = l := ⟨t, h, he⟩
  unfold unE
  rw [dif_pos hx]
  rw [esc_inj ((Classical.choose_spec hx).2.trans he.symm)]
theorem unE_no {l : List UInt8} (h : ∀ t, textV t = true → esc t ≠ l) : unE l = none := by
  unfold unE
  rw [dif_neg]
  rintro ⟨t, h1, h2⟩
  exact h t h1 h2
theorem unE_some {l t : List UInt8} (h : unE l = some t) : textV t = true ∧ esc t = l := by
  unfold unE at h
  split at h
  · rename_i hx
    injection h with h
    subst h
    exact Classical.choose_spec hx
  · cases h
theorem unE_none {l : List UInt8} (h : unE l = none) : ∀ t, textV t = true → esc t ≠ l := fun t h1 h2 => by
  rw [unE_yes h1 h2] at h; cases h
theorem un_esc {t : List UInt8} (h : textV t = true) : unE (escT t) = some t := unE_yes h (escT_yes h).symm
theorem esc_un {l t : List UInt8} (h : unE l = some t) : escT t = l := by
  obtain ⟨h1, h2⟩ := unE_some h; rw [escT_yes h1, h2]

/-- What is read of the beginning of an escaped text. -/
def FirstB (l : List UInt8) (c : UInt8) (n : Nat) : Prop :=
  (n = 0 ∧ ∀ d, okB d = true → ¬ escB d <+: l) ∨ (okB c = true ∧ n = (escB c).length ∧ escB c <+: l)
/-- Where nothing can be read no text stands there. -/
theorem first_none {l : List UInt8} (h : ∀ d, okB d = true → ¬ escB d <+: l) (hl : l ≠ []) {t : List UInt8} (ht : t.all okB = true) : esc t ≠ l := by
  intro e
  cases t with
  | nil => exact hl e.symm
  | cons d t =>
    rw [List.all_cons, Bool.and_eq_true] at ht
    exact h d ht.1 ⟨esc t, by rw [← esc_cons]; exact e⟩
end Go.Proofs.Ytldllhfadihmeaa
