/- Elements: their texts can be read in one way only. Plain facts, no program. No condition. -/
import Derived.Test.YtldllhfadihmeaaEsc
import Derived.Test.YtldllhfadihmeaaEqS
namespace Go.Proofs.Ytldllhfadihmeaa

/-- A list of bytes up to the first one of its kind. -/
theorem upto_free {d : UInt8} {a b x y : List UInt8} (ha : d ∉ a) (hb : d ∉ b) (h : a ++ d :: x = b ++ d :: y) : a = b ∧ x = y := by
  induction a generalizing b with
  | nil =>
    cases b with
    | nil => simpa using h
    | cons c b => simp at h; exact absurd (by rw [h.1]; exact List.mem_cons_self ..) hb
  | cons e a ih =>
    cases b with
    | nil => simp at h; exact absurd (by rw [h.1]; exact List.mem_cons_self ..) ha
    | cons c b =>
      simp at h
      obtain ⟨rfl, h2⟩ := h
      obtain ⟨rfl, rfl⟩ := ih (fun e => ha (List.mem_cons_of_mem _ e)) (fun e => hb (List.mem_cons_of_mem _ e)) h2
      exact ⟨rfl, rfl⟩
theorem lodB_ne {c : UInt8} (h : lodB c = true) : c ≠ 60 ∧ c ≠ 62 := by
  rw [lodB_iff] at h
  refine ⟨?_, ?_⟩ <;> rintro rfl <;> simp at h
theorem wordV_all {l : List UInt8} (h : wordV l = true) : 1 ≤ l.length ∧ l.length ≤ 8 ∧ l.all lodB = true := by
  simp only [wordV, Bool.and_eq_true, decide_eq_true_eq] at h
  exact ⟨h.1.1.1, h.1.1.2, h.1.2⟩
theorem wordV_no {l : List UInt8} (h : wordV l = true) {d : UInt8} (hd : d = 60 ∨ d = 62) : d ∉ l := by
  intro hm
  have h2 := (wordV_all h).2.2
  rw [List.all_eq_true] at h2
  have := lodB_ne (h2 d hm)
  rcases hd with rfl | rfl
  · exact this.1 rfl
  · exact this.2 rfl

abbrev El := ByteArray × ByteArray
/-- An element's name and text as lists of bytes. -/
def El.n (e : El) : List UInt8 := e.1.data.toList
def El.t (e : El) : List UInt8 := e.2.data.toList
def elV (e : El) : Bool := wordV e.n && textV e.t
def elsV (l : List El) : Bool := decide (l.length ≤ 8) && l.all elV
theorem elV_iff (e : El) : elV e = true ↔ wordV e.n = true ∧ textV e.t = true := by simp [elV]
theorem elV_false {e : El} (h : wordV e.n = false ∨ textV e.t = false) : elV e = false := by
  unfold elV; rcases h with h | h <;> simp [h]
theorem elsV_iff (l : List El) : elsV l = true ↔ l.length ≤ 8 ∧ l.all elV = true := by simp [elsV]
theorem elsV_long {l : List El} (h : 8 < l.length) : elsV l = false := by
  rw [← Bool.not_eq_true, elsV_iff]; omega
theorem elsV_bad {l : List El} {k : Nat} (hk : k < l.length) (h : elV l[k] = false) : elsV l = false := by
  rw [← Bool.not_eq_true, elsV_iff, List.all_eq_true]
  rintro ⟨_, h2⟩
  rw [h2 _ (List.getElem_mem hk)] at h; cases h
theorem elsV_nil : elsV [] = true := rfl
theorem elsV_at {l : List El} (h : elsV l = true) {k : Nat} (hk : k < l.length) : elV l[k] = true := by
  have h2 := ((elsV_iff l).1 h).2
  rw [List.all_eq_true] at h2
  exact h2 _ (List.getElem_mem hk)

/-- The text of an element; of elements. -/
def elL (e : El) : List UInt8 := 60 :: (e.n ++ 62 :: (esc e.t ++ 60 :: 47 :: (e.n ++ [62])))
def elsL (l : List El) : List UInt8 := l.flatMap elL
theorem elsL_nil : elsL [] = [] := rfl
theorem elsL_cons (e : El) (l : List El) : elsL (e :: l) = elL e ++ elsL l := rfl
theorem elsL_app (a b : List El) : elsL (a ++ b) = elsL a ++ elsL b := by simp [elsL]
theorem elsL_snoc (a : List El) (e : El) : elsL (a ++ [e]) = elsL a ++ elL e := by rw [elsL_app, elsL_cons, elsL_nil, List.append_nil]
theorem elL_len (e : El) : (elL e).length = 2 * e.n.length + (esc e.t).length + 5 := by
  simp [elL]; omega
theorem elL_ne (e : El) : elL e ≠ [] := by simp [elL]
theorem El.eq_of {e f : El} (h1 : e.n = f.n) (h2 : e.t = f.t) : e = f := by
  obtain ⟨⟨⟨a⟩⟩, ⟨⟨b⟩⟩⟩ := e
  obtain ⟨⟨⟨c⟩⟩, ⟨⟨d⟩⟩⟩ := f
  simp only [El.n, El.t] at h1 h2
  subst h1; subst h2; rfl
/-- No element's text begins another's. -/
theorem elL_free {e f : El} {x y : List UInt8} (he : elV e = true) (hf : elV f = true) (h : elL e ++ x = elL f ++ y) : e = f ∧ x = y := by
  rw [elV_iff] at he hf
  simp only [elL, List.cons_append, List.append_assoc, List.cons.injEq, true_and] at h
  obtain ⟨h1, h2⟩ := upto_free (wordV_no he.1 (.inr rfl)) (wordV_no hf.1 (.inr rfl)) h
  obtain ⟨h3, h4⟩ := upto_free (esc_no (.inl rfl)) (esc_no (.inl rfl)) h2
  simp only [List.cons.injEq, true_and] at h4
  rw [h1] at h4
  have h5 := List.append_cancel_left h4
  simp at h5
  exact ⟨El.eq_of h1 (esc_inj h3), h5⟩
theorem elsL_inj {a b : List El} (ha : a.all elV = true) (hb : b.all elV = true) (h : elsL a = elsL b) : a = b := by
  induction a generalizing b with
  | nil =>
    cases b with
    | nil => rfl
    | cons f b => rw [elsL_cons, elsL_nil] at h; exact absurd (List.append_eq_nil_iff.1 h.symm).1 (elL_ne f)
  | cons e a ih =>
    cases b with
    | nil => rw [elsL_cons, elsL_nil] at h; exact absurd (List.append_eq_nil_iff.1 h).1 (elL_ne e)
    | cons f b =>
      rw [List.all_cons, Bool.and_eq_true] at ha hb
      rw [elsL_cons, elsL_cons] at h
      obtain ⟨rfl, h2⟩ := elL_free ha.1 hb.1 h
      rw [ih ha.2 hb.2 h2]
def elsT (l : List El) : List UInt8 := if elsV l = true then elsL l else []
theorem elsT_yes {l : List El} (h : elsV l = true) : elsT l = elsL l := by unfold elsT; rw [if_pos h]
theorem elsT_no {l : List El} (h : elsV l = false) : elsT l = [] := by unfold elsT; rw [h]; rfl
theorem elL_bd {e : El} (h : elV e = true) : (elL e).length ≤ 501 := by
  rw [elV_iff] at h
  have h1 := (wordV_all h.1).2.1
  have h2 := esc_len e.t
  have h3 := textV_len h.2
  rw [elL_len]; omega
theorem elsL_bd {l : List El} (h : l.all elV = true) : (elsL l).length ≤ 501 * l.length := by
  induction l with
  | nil => simp [elsL]
  | cons e l ih =>
    rw [List.all_cons, Bool.and_eq_true] at h
    rw [elsL_cons, List.length_append, List.length_cons]
    have := ih h.2; have := elL_bd h.1; omega
theorem elsT_len (l : List El) : (elsT l).length ≤ 4008 := by
  cases h : elsV l
  · rw [elsT_no h]; simp
  · rw [elsT_yes h]
    obtain ⟨h1, h2⟩ := (elsV_iff l).1 h
    have := elsL_bd h2; omega

/-- The elements that a text stands for. -/
noncomputable def readE (s : List UInt8) : Option (List El) :=
  @dite (Option (List El)) (∃ l, elsV l = true ∧ elsL l = s) (Classical.propDecidable _) (fun h => some (Classical.choose h)) (fun _ => none)
theorem readE_yes {l : List El} {s : List UInt8} (h : elsV l = true) (he : elsL l = s) : readE s = some l := by
  have hx : ∃ l, elsV l = true ∧ elsL l = s := ⟨l, h, he⟩
  unfold readE
  rw [dif_pos hx]
  have hc := Classical.choose_spec hx
  rw [elsL_inj ((elsV_iff _).1 hc.1).2 ((elsV_iff l).1 h).2 (hc.2.trans he.symm)]
theorem readE_no {s : List UInt8} (h : ∀ l, elsV l = true → elsL l ≠ s) : readE s = none := by
  unfold readE
  rw [dif_neg]
  rintro ⟨t, h1, h2⟩
  exact h t h1 h2
theorem readE_some {s : List UInt8} {l : List El} (h : readE s = some l) : elsV l = true ∧ elsL l = s := by
  unfold readE at h
  split at h
  · rename_i hx
    injection h with h
    subst h
    exact Classical.choose_spec hx
  · cases h
theorem readE_none {s : List UInt8} (h : readE s = none) : ∀ l, elsV l = true → elsL l ≠ s := fun l h1 h2 => by
  rw [readE_yes h1 h2] at h; cases h
theorem read_els {l : List El} (h : elsV l = true) : readE (elsT l) = some l := readE_yes h (elsT_yes h).symm
theorem els_read {s : List UInt8} {l : List El} (h : readE s = some l) : elsT l = s := by
  obtain ⟨h1, h2⟩ := readE_some h; rw [elsT_yes h1, h2]
/-- What is written behind elements that were read. -/
theorem elsL_split {a b : List El} {x : List UInt8} (ha : a.all elV = true) (hb : b.all elV = true) (h : elsL b = elsL a ++ x) : ∃ c, b = a ++ c ∧ elsL c = x ∧ c.all elV = true := by
  induction a generalizing b with
  | nil => exact ⟨b, rfl, by simpa [elsL] using h, hb⟩
  | cons d a ih =>
    cases b with
    | nil => rw [elsL_cons, elsL_nil, List.append_assoc] at h; exact absurd (List.append_eq_nil_iff.1 h.symm).1 (elL_ne d)
    | cons e b =>
      rw [elsL_cons, elsL_cons, List.append_assoc] at h
      rw [List.all_cons, Bool.and_eq_true] at ha hb
      obtain ⟨rfl, h2⟩ := elL_free hb.1 ha.1 h
      obtain ⟨c, rfl, hc, hv⟩ := ih ha.2 hb.2 h2
      exact ⟨c, rfl, hc, hv⟩
/-- What is read of the beginning of a text of elements. -/
def FirstE (s : List UInt8) (e : El) (n : Nat) : Prop :=
  (n = 0 ∧ ∀ f, elV f = true → ¬ elL f <+: s) ∨ (elV e = true ∧ n = (elL e).length ∧ elL e <+: s)
theorem firstE_none {s : List UInt8} {a : List El} {x : List UInt8} (ha : a.all elV = true) (hs : s = elsL a ++ x) (hx : x ≠ []) (h : ∀ f, elV f = true → ¬ elL f <+: x) : readE s = none := by
  apply readE_no
  intro b hb e
  obtain ⟨c, rfl, hc, hv⟩ := elsL_split ha ((elsV_iff _).1 hb).2 (e.trans hs)
  cases c with
  | nil => exact hx hc.symm
  | cons f c =>
    rw [List.all_cons, Bool.and_eq_true] at hv
    exact h f hv.1 ⟨elsL c, by rw [← elsL_cons]; exact hc⟩
theorem firstE_more {s : List UInt8} {a : List El} {x : List UInt8} (ha : a.all elV = true) (hs : s = elsL a ++ x) (hx : x ≠ []) (h : a.length = 8) : readE s = none := by
  apply readE_no
  intro b hb e
  obtain ⟨c, rfl, hc, hv⟩ := elsL_split ha ((elsV_iff _).1 hb).2 (e.trans hs)
  cases c with
  | nil => exact hx hc.symm
  | cons f c =>
    have := ((elsV_iff _).1 hb).1
    simp at this
    omega

/-- The first one of elements with a name. -/
def elT (l : List El) (n : ByteArray) : Option ByteArray := if elsV l = true then (l.find? (fun e => eqS e.1 n)).map (·.2) else none
end Go.Proofs.Ytldllhfadihmeaa
