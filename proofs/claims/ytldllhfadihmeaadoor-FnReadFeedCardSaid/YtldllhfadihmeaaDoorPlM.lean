/- Plain facts on bytes, texts and words: no program is named here. No condition. -/
import Derived.Laws.Strings
namespace Go.Proofs.YtldllhfadihmeaaDoor

theorem take_snoc (s : ByteArray) (k : Nat) (h : k < s.size) : s.data.toList.take (k + 1) = s.data.toList.take k ++ [s[k]] := by
  rw [List.take_succ_eq_append_getElem (by rw [Array.length_toList]; exact h)]; rfl
theorem size_toList (s : ByteArray) : s.data.toList.length = s.size := by rw [Array.length_toList]; rfl
theorem mem_at (s : ByteArray) (k : Nat) (h : k < s.size) : s[k] ∈ s.data.toList := by
  rw [List.mem_iff_getElem]; exact ⟨k, by rw [size_toList]; exact h, rfl⟩
theorem head_at (s : ByteArray) (h : 0 < s.size) : s.data.toList.head? = some s[0] := by
  rw [List.head?_eq_getElem?, List.getElem?_eq_getElem (by rw [size_toList]; exact h)]; rfl

/-- The first k bytes have the property p. -/
def AllTo (p : UInt8 → Bool) (s : ByteArray) (k : Nat) : Prop := (s.data.toList.take k).all p = true
theorem AllTo.zero (p : UInt8 → Bool) (s : ByteArray) : AllTo p s 0 := by simp [AllTo]
theorem AllTo.next {p : UInt8 → Bool} {s : ByteArray} {k : Nat} (h : AllTo p s k) (hk : k < s.size) (h1 : p s[k] = true) : AllTo p s (k + 1) := by
  unfold AllTo at *
  rw [take_snoc s k hk, List.all_append, h]
  simpa using h1
theorem AllTo.done {p : UInt8 → Bool} {s : ByteArray} {k : Nat} (h : AllTo p s k) (hk : s.size ≤ k) : s.data.toList.all p = true := by
  unfold AllTo at h
  rwa [List.take_of_length_le (by rw [size_toList]; exact hk)] at h
theorem all_bad {p : UInt8 → Bool} {s : ByteArray} {k : Nat} (hk : k < s.size) (h : p s[k] = false) : s.data.toList.all p = false := by
  rw [List.all_eq_false]
  exact ⟨s[k], mem_at s k hk, by rw [h]; simp⟩

/-- A byte of a text; a text. -/
def okB (c : UInt8) : Bool := decide (32 ≤ c.toNat) && decide (c.toNat ≤ 126)
def textV (l : List UInt8) : Bool := decide (l.length ≤ 80) && l.all okB
theorem okB_true {c : UInt8} (h1 : ¬ (c.toNat : Int) < 32) (h2 : ¬ (126 : Int) < (c.toNat : Int)) : okB c = true := by
  simp only [okB, Bool.and_eq_true, decide_eq_true_eq]; omega
theorem okB_false {c : UInt8} (h : (c.toNat : Int) < 32 ∨ (126 : Int) < (c.toNat : Int)) : okB c = false := by
  rw [← Bool.not_eq_true]; simp only [okB, Bool.and_eq_true, decide_eq_true_eq]; omega
theorem textV_bad {s : ByteArray} {k : Nat} (hk : k < s.size) (h : (s[k].toNat : Int) < 32 ∨ (126 : Int) < (s[k].toNat : Int)) : textV s.data.toList = false := by
  unfold textV; rw [all_bad hk (okB_false h), Bool.and_false]
theorem textV_long {s : ByteArray} (h : 80 < s.size) : textV s.data.toList = false := by
  unfold textV; rw [size_toList, decide_eq_false (by omega)]; rfl
theorem textV_done {s : ByteArray} {k : Nat} (h : AllTo okB s k) (hk : s.size ≤ k) : textV s.data.toList = decide (s.size ≤ 80) := by
  unfold textV; rw [h.done hk, size_toList, Bool.and_true]

/-- A small letter; a small letter or a digit; a word. -/
def lowB (c : UInt8) : Bool := decide (97 ≤ c.toNat) && decide (c.toNat ≤ 122)
def lodB (c : UInt8) : Bool := lowB c || (decide (48 ≤ c.toNat) && decide (c.toNat ≤ 57))
def wordV (l : List UInt8) : Bool := decide (1 ≤ l.length) && decide (l.length ≤ 8) && l.all lodB && l.head?.all lowB
theorem lowB_iff (c : UInt8) : lowB c = true ↔ 97 ≤ (c.toNat : Int) ∧ (c.toNat : Int) ≤ 122 := by
  simp only [lowB, Bool.and_eq_true, decide_eq_true_eq]; omega
theorem lodB_iff (c : UInt8) : lodB c = true ↔ (97 ≤ (c.toNat : Int) ∧ (c.toNat : Int) ≤ 122) ∨ (48 ≤ (c.toNat : Int) ∧ (c.toNat : Int) ≤ 57) := by
  simp only [lodB, Bool.or_eq_true, lowB_iff, Bool.and_eq_true, decide_eq_true_eq]; omega
theorem lodB_true {c : UInt8} (h : (97 ≤ (c.toNat : Int) ∧ (c.toNat : Int) ≤ 122) ∨ (48 ≤ (c.toNat : Int) ∧ (c.toNat : Int) ≤ 57)) : lodB c = true := (lodB_iff c).2 h
theorem lodB_false {c : UInt8} (h : ¬ ((97 ≤ (c.toNat : Int) ∧ (c.toNat : Int) ≤ 122) ∨ (48 ≤ (c.toNat : Int) ∧ (c.toNat : Int) ≤ 57))) : lodB c = false := by
  rw [← Bool.not_eq_true, lodB_iff]; exact h
theorem lowB_true {c : UInt8} (h : 97 ≤ (c.toNat : Int) ∧ (c.toNat : Int) ≤ 122) : lowB c = true := (lowB_iff c).2 h
theorem lowB_false {c : UInt8} (h : ¬ (97 ≤ (c.toNat : Int) ∧ (c.toNat : Int) ≤ 122)) : lowB c = false := by
  rw [← Bool.not_eq_true, lowB_iff]; exact h
theorem wordV_size {s : ByteArray} (h : s.size < 1 ∨ 8 < s.size) : wordV s.data.toList = false := by
  rw [← Bool.not_eq_true]; simp only [wordV, Bool.and_eq_true, decide_eq_true_eq, size_toList]; omega
theorem wordV_head {s : ByteArray} (h0 : 0 < s.size) (h : ¬ (97 ≤ (s[0].toNat : Int) ∧ (s[0].toNat : Int) ≤ 122)) : wordV s.data.toList = false := by
  unfold wordV; rw [head_at s h0, Option.all_some, lowB_false h, Bool.and_false]
theorem wordV_bad {s : ByteArray} {k : Nat} (hk : k < s.size) (h : ¬ ((97 ≤ (s[k].toNat : Int) ∧ (s[k].toNat : Int) ≤ 122) ∨ (48 ≤ (s[k].toNat : Int) ∧ (s[k].toNat : Int) ≤ 57))) : wordV s.data.toList = false := by
  unfold wordV; rw [all_bad hk (lodB_false h), Bool.and_false, Bool.false_and]
theorem wordV_done {s : ByteArray} {k : Nat} (h : AllTo lodB s k) (hk : s.size ≤ k) (h0 : 0 < s.size) (hl : 97 ≤ (s[0].toNat : Int) ∧ (s[0].toNat : Int) ≤ 122) : wordV s.data.toList = decide (s.size ≤ 8) := by
  unfold wordV; rw [h.done hk, head_at s h0, Option.all_some, lowB_true hl, size_toList, decide_eq_true (by omega)]; simp

/-- The value of a digit of marks. -/
def digV (c : Int) : Int := if 48 ≤ c ∧ c ≤ 57 then c - 48 else if 97 ≤ c ∧ c ≤ 122 then c - 87 else -1
theorem digV_num {c : Int} (h1 : 48 ≤ c) (h2 : c ≤ 57) : digV c = c - 48 := by unfold digV; rw [if_pos ⟨h1, h2⟩]
theorem digV_low {c : Int} (h1 : 97 ≤ c) (h2 : c ≤ 122) : digV c = c - 87 := by unfold digV; rw [if_neg (by omega), if_pos ⟨h1, h2⟩]
theorem digV_none {c : Int} (h : ¬ ((97 ≤ c ∧ c ≤ 122) ∨ (48 ≤ c ∧ c ≤ 57))) : digV c = -1 := by unfold digV; rw [if_neg (by omega), if_neg (by omega)]
theorem digV_neg (c : Int) : digV c < 0 ↔ ¬ ((97 ≤ c ∧ c ≤ 122) ∨ (48 ≤ c ∧ c ≤ 57)) := by unfold digV; (repeat' split) <;> omega
theorem digV_pos {c : Int} (h : 0 ≤ digV c) : (97 ≤ c ∧ c ≤ 122) ∨ (48 ≤ c ∧ c ≤ 57) := by
  apply Classical.byContradiction; intro hn; have := (digV_neg c).2 hn; omega
theorem digV_bd (c : Int) : -1 ≤ digV c ∧ digV c ≤ 35 := by unfold digV; (repeat' split) <;> omega

/-- n lies in lo..hi. -/
def inB (n lo hi : Int) : Bool := decide (lo ≤ n) && decide (n ≤ hi)
theorem inB_true {n lo hi : Int} (h1 : lo ≤ n) (h2 : n ≤ hi) : inB n lo hi = true := by simp [inB, h1, h2]
theorem inB_low {n lo hi : Int} (h : n < lo) : inB n lo hi = false := by unfold inB; rw [decide_eq_false (by omega), Bool.false_and]
theorem inB_high {n lo hi : Int} (h : hi < n) : inB n lo hi = false := by unfold inB; rw [decide_eq_false (p := n ≤ hi) (by omega), Bool.and_false]
theorem inB_iff {n lo hi : Int} : inB n lo hi = true ↔ lo ≤ n ∧ n ≤ hi := by simp [inB]
theorem inB_not {n lo hi : Int} : inB n lo hi = false ↔ n < lo ∨ hi < n := by
  rw [← Bool.not_eq_true, inB_iff]; omega

end Go.Proofs.YtldllhfadihmeaaDoor

/- Escaped texts: the bytes' names, and that no two texts are written alike. Plain facts, no program. No condition. -/
namespace Go.Proofs.YtldllhfadihmeaaDoor

def ampN : List UInt8 := [38, 97, 109, 112, 59]
def ltN : List UInt8 := [38, 108, 116, 59]
def gtN : List UInt8 := [38, 103, 116, 59]
def quotN : List UInt8 := [38, 113, 117, 111, 116, 59]
def escB (c : UInt8) : List UInt8 := if c = 38 then ampN else if c = 60 then ltN else if c = 62 then gtN else if c = 34 then quotN else [c]
theorem escB_amp : escB 38 = ampN := rfl
theorem escB_lt : escB 60 = ltN := rfl
theorem escB_gt : escB 62 = gtN := rfl
theorem escB_quot : escB 34 = quotN := rfl
theorem escB_self {c : UInt8} (h1 : c ≠ 38) (h2 : c ≠ 60) (h3 : c ≠ 62) (h4 : c ≠ 34) : escB c = [c] := by
  unfold escB; rw [if_neg h1, if_neg h2, if_neg h3, if_neg h4]
/-- What a byte may be written by. -/
theorem escB_cases (c : UInt8) : (c = 38 ∧ escB c = ampN) ∨ (c = 60 ∧ escB c = ltN) ∨ (c = 62 ∧ escB c = gtN) ∨ (c = 34 ∧ escB c = quotN) ∨ (c ≠ 38 ∧ c ≠ 60 ∧ c ≠ 62 ∧ c ≠ 34 ∧ escB c = [c]) := by
  by_cases h1 : c = 38
  · exact .inl ⟨h1, by rw [h1]; rfl⟩
  · by_cases h2 : c = 60
    · exact .inr (.inl ⟨h2, by rw [h2]; rfl⟩)
    · by_cases h3 : c = 62
      · exact .inr (.inr (.inl ⟨h3, by rw [h3]; rfl⟩))
      · by_cases h4 : c = 34
        · exact .inr (.inr (.inr (.inl ⟨h4, by rw [h4]; rfl⟩)))
        · exact .inr (.inr (.inr (.inr ⟨h1, h2, h3, h4, escB_self h1 h2 h3 h4⟩)))
theorem escB_len (c : UInt8) : 1 ≤ (escB c).length ∧ (escB c).length ≤ 6 := by
  rcases escB_cases c with ⟨_, h⟩ | ⟨_, h⟩ | ⟨_, h⟩ | ⟨_, h⟩ | ⟨_, _, _, _, h⟩ <;> rw [h] <;> simp [ampN, ltN, gtN, quotN]
theorem escB_ne (c : UInt8) : escB c ≠ [] := by
  intro h; have := escB_len c; rw [h] at this; simp at this
/-- No byte's writing begins another's. -/
theorem escB_free {a b : UInt8} {x y : List UInt8} (h : escB a ++ x = escB b ++ y) : a = b ∧ x = y := by
  rcases escB_cases a with ⟨ha, ea⟩ | ⟨ha, ea⟩ | ⟨ha, ea⟩ | ⟨ha, ea⟩ | ⟨ha1, ha2, ha3, ha4, ea⟩ <;>
  rcases escB_cases b with ⟨hb, eb⟩ | ⟨hb, eb⟩ | ⟨hb, eb⟩ | ⟨hb, eb⟩ | ⟨hb1, hb2, hb3, hb4, eb⟩ <;>
  rw [ea, eb] at h <;> simp [ampN, ltN, gtN, quotN] at h
  all_goals first
    | (subst ha; subst hb; exact ⟨rfl, h⟩)
    | exact absurd h.1.symm hb1
    | exact absurd h.1 ha1
    | exact h
theorem escB_no {c d : UInt8} (hd : d = 60 ∨ d = 62) : d ∉ escB c := by
  rcases escB_cases c with ⟨_, h⟩ | ⟨_, h⟩ | ⟨_, h⟩ | ⟨_, h⟩ | ⟨_, h2, h3, _, h⟩ <;> rw [h]
  all_goals rcases hd with rfl | rfl
  all_goals first
    | decide
    | (simp only [List.mem_singleton]; exact fun e => h2 e.symm)
    | (simp only [List.mem_singleton]; exact fun e => h3 e.symm)

/-- A text escaped. -/
def esc (l : List UInt8) : List UInt8 := l.flatMap escB
theorem esc_nil : esc [] = [] := rfl
theorem esc_cons (c : UInt8) (l : List UInt8) : esc (c :: l) = escB c ++ esc l := rfl
theorem esc_app (a b : List UInt8) : esc (a ++ b) = esc a ++ esc b := by simp [esc]
theorem esc_snoc (a : List UInt8) (c : UInt8) : esc (a ++ [c]) = esc a ++ escB c := by rw [esc_app, esc_cons, esc_nil, List.append_nil]
theorem esc_len (l : List UInt8) : l.length ≤ (esc l).length ∧ (esc l).length ≤ 6 * l.length := by
  induction l with
  | nil => simp [esc]
  | cons c l ih => rw [esc_cons, List.length_append, List.length_cons]; have := escB_len c; omega
theorem esc_no {l : List UInt8} {d : UInt8} (hd : d = 60 ∨ d = 62) : d ∉ esc l := by
  intro h
  obtain ⟨c, _, hc⟩ := List.mem_flatMap.1 h
  exact escB_no hd hc
theorem esc_inj {a b : List UInt8} (h : esc a = esc b) : a = b := by
  induction a generalizing b with
  | nil =>
    cases b with
    | nil => rfl
    | cons c b => rw [esc_cons, esc_nil] at h; exact absurd (List.append_eq_nil_iff.1 h.symm).1 (escB_ne c)
  | cons c a ih =>
    cases b with
    | nil => rw [esc_cons, esc_nil] at h; exact absurd (List.append_eq_nil_iff.1 h).1 (escB_ne c)
    | cons d b =>
      rw [esc_cons, esc_cons] at h
      obtain ⟨rfl, h2⟩ := escB_free h
      rw [ih h2]
/-- What is written behind a beginning that is read. -/
theorem esc_split {a b : List UInt8} {x : List UInt8} (h : esc b = esc a ++ x) : ∃ c, b = a ++ c ∧ esc c = x := by
  induction a generalizing b with
  | nil => exact ⟨b, rfl, by simpa [esc] using h⟩
  | cons d a ih =>
    cases b with
    | nil => rw [esc_cons, esc_nil, List.append_assoc] at h; exact absurd (List.append_eq_nil_iff.1 h.symm).1 (escB_ne d)
    | cons e b =>
      rw [esc_cons, esc_cons, List.append_assoc] at h
      obtain ⟨rfl, h2⟩ := escB_free h
      obtain ⟨c, rfl, hc⟩ := ih h2
      exact ⟨c, rfl, hc⟩

def escT (l : List UInt8) : List UInt8 := if textV l = true then esc l else []
theorem escT_yes {l : List UInt8} (h : textV l = true) : escT l = esc l := by unfold escT; rw [if_pos h]
theorem escT_no {l : List UInt8} (h : textV l = false) : escT l = [] := by unfold escT; rw [h]; rfl
theorem textV_len {l : List UInt8} (h : textV l = true) : l.length ≤ 80 := by
  simp only [textV, Bool.and_eq_true, decide_eq_true_eq] at h; exact h.1
theorem textV_all {l : List UInt8} (h : textV l = true) : l.all okB = true := by
  simp only [textV, Bool.and_eq_true, decide_eq_true_eq] at h; exact h.2
theorem textV_mk {l : List UInt8} (h1 : l.length ≤ 80) (h2 : l.all okB = true) : textV l = true := by
  simp only [textV, Bool.and_eq_true, decide_eq_true_eq]; exact ⟨h1, h2⟩
theorem escT_len (l : List UInt8) : (escT l).length ≤ 480 := by
  cases h : textV l
  · rw [escT_no h]; simp
  · rw [escT_yes h]; have := esc_len l; have := textV_len h; omega

/-- The text that an escaped text stands for. -/
noncomputable def unE (l : List UInt8) : Option (List UInt8) :=
  @dite (Option (List UInt8)) (∃ t, textV t = true ∧ esc t = l) (Classical.propDecidable _) (fun h => some (Classical.choose h)) (fun _ => none)
theorem unE_yes {t l : List UInt8} (h : textV t = true) (he : esc t = l) : unE l = some t := by
  have hx : ∃ t, textV t = true ∧ esc t = l := ⟨t, h, he⟩
  unfold unE
  rw [dif_pos hx]
  rw [esc_inj ((Classical.choose_spec hx).2.trans he.symm)]
theorem unE_no {l : List UInt8} (h : ∀ t, textV t = true → esc t ≠ l) : unE l = none := by
  unfold unE
  rw [dif_neg]
  rintro ⟨t, h1, h2⟩
  exact h t h1 h2
theorem unE_some {l t : List UInt8} (h : unE l = some t) : textV t = true ∧ esc t = l := by
  unfold unE at h
  split at h
  · rename_i hx
    injection h with h
    subst h
    exact Classical.choose_spec hx
  · cases h
theorem unE_none {l : List UInt8} (h : unE l = none) : ∀ t, textV t = true → esc t ≠ l := fun t h1 h2 => by
  rw [unE_yes h1 h2] at h; cases h
theorem un_esc {t : List UInt8} (h : textV t = true) : unE (escT t) = some t := unE_yes h (escT_yes h).symm
theorem esc_un {l t : List UInt8} (h : unE l = some t) : escT t = l := by
  obtain ⟨h1, h2⟩ := unE_some h; rw [escT_yes h1, h2]

/-- What is read of the beginning of an escaped text. -/
def FirstB (l : List UInt8) (c : UInt8) (n : Nat) : Prop :=
  (n = 0 ∧ ∀ d, okB d = true → ¬ escB d <+: l) ∨ (okB c = true ∧ n = (escB c).length ∧ escB c <+: l)
/-- Where nothing can be read no text stands there. -/
theorem first_none {l : List UInt8} (h : ∀ d, okB d = true → ¬ escB d <+: l) (hl : l ≠ []) {t : List UInt8} (ht : t.all okB = true) : esc t ≠ l := by
  intro e
  cases t with
  | nil => exact hl e.symm
  | cons d t =>
    rw [List.all_cons, Bool.and_eq_true] at ht
    exact h d ht.1 ⟨esc t, by rw [← esc_cons]; exact e⟩
end Go.Proofs.YtldllhfadihmeaaDoor

/- Two texts are one. No program, no condition. -/
namespace Go.Proofs.YtldllhfadihmeaaDoor

theorem ba_inj {a b : ByteArray} (h : a.data.toList = b.data.toList) : a = b := by
  obtain ⟨⟨a⟩⟩ := a
  obtain ⟨⟨b⟩⟩ := b
  simp only at h
  subst h; rfl
/-- Two texts are one, in the form in which the walk says it. -/
def eqS (a b : ByteArray) : Bool := a.toList == b.toList
theorem eqS_iff (a b : ByteArray) : eqS a b = true ↔ a = b := by
  unfold eqS
  rw [ByteArray.toList_eq, ByteArray.toList_eq, beq_iff_eq]
  constructor
  · intro h
    obtain ⟨⟨a⟩⟩ := a
    obtain ⟨⟨b⟩⟩ := b
    simp only at h
    subst h; rfl
  · rintro rfl; rfl
theorem eqS_self (a : ByteArray) : eqS a a = true := (eqS_iff a a).2 rfl
theorem eqS_ne {a b : ByteArray} (h : a ≠ b) : eqS a b = false := by rw [← Bool.not_eq_true, eqS_iff]; exact h
theorem eqS_comm (a b : ByteArray) : eqS a b = eqS b a := Bool.eq_iff_iff.2 (by rw [eqS_iff, eqS_iff]; exact eq_comm)

end Go.Proofs.YtldllhfadihmeaaDoor

/- Elements: their texts can be read in one way only. Plain facts, no program. No condition. -/
namespace Go.Proofs.YtldllhfadihmeaaDoor

/-- A list of bytes up to the first one of its kind. -/
theorem upto_free {d : UInt8} {a b x y : List UInt8} (ha : d ∉ a) (hb : d ∉ b) (h : a ++ d :: x = b ++ d :: y) : a = b ∧ x = y := by
  induction a generalizing b with
  | nil =>
    cases b with
    | nil => simpa using h
    | cons c b => simp at h; exact absurd (by rw [h.1]; exact List.mem_cons_self ..) hb
  | cons e a ih =>
    cases b with
    | nil => simp at h; exact absurd (by rw [h.1]; exact List.mem_cons_self ..) ha
    | cons c b =>
      simp at h
      obtain ⟨rfl, h2⟩ := h
      obtain ⟨rfl, rfl⟩ := ih (fun e => ha (List.mem_cons_of_mem _ e)) (fun e => hb (List.mem_cons_of_mem _ e)) h2
      exact ⟨rfl, rfl⟩
theorem lodB_ne {c : UInt8} (h : lodB c = true) : c ≠ 60 ∧ c ≠ 62 := by
  rw [lodB_iff] at h
  refine ⟨?_, ?_⟩ <;> rintro rfl <;> simp at h
theorem wordV_all {l : List UInt8} (h : wordV l = true) : 1 ≤ l.length ∧ l.length ≤ 8 ∧ l.all lodB = true := by
  simp only [wordV, Bool.and_eq_true, decide_eq_true_eq] at h
  exact ⟨h.1.1.1, h.1.1.2, h.1.2⟩
theorem wordV_no {l : List UInt8} (h : wordV l = true) {d : UInt8} (hd : d = 60 ∨ d = 62) : d ∉ l := by
  intro hm
  have h2 := (wordV_all h).2.2
  rw [List.all_eq_true] at h2
  have := lodB_ne (h2 d hm)
  rcases hd with rfl | rfl
  · exact this.1 rfl
  · exact this.2 rfl

abbrev El := ByteArray × ByteArray
/-- An element's name and text as lists of bytes. -/
def El.n (e : El) : List UInt8 := e.1.data.toList
def El.t (e : El) : List UInt8 := e.2.data.toList
def elV (e : El) : Bool := wordV e.n && textV e.t
def elsV (l : List El) : Bool := decide (l.length ≤ 8) && l.all elV
theorem elV_iff (e : El) : elV e = true ↔ wordV e.n = true ∧ textV e.t = true := by simp [elV]
theorem elV_false {e : El} (h : wordV e.n = false ∨ textV e.t = false) : elV e = false := by
  unfold elV; rcases h with h | h <;> simp [h]
theorem elsV_iff (l : List El) : elsV l = true ↔ l.length ≤ 8 ∧ l.all elV = true := by simp [elsV]
theorem elsV_long {l : List El} (h : 8 < l.length) : elsV l = false := by
  rw [← Bool.not_eq_true, elsV_iff]; omega
theorem elsV_bad {l : List El} {k : Nat} (hk : k < l.length) (h : elV l[k] = false) : elsV l = false := by
  rw [← Bool.not_eq_true, elsV_iff, List.all_eq_true]
  rintro ⟨_, h2⟩
  rw [h2 _ (List.getElem_mem hk)] at h; cases h
theorem elsV_nil : elsV [] = true := rfl
theorem elsV_at {l : List El} (h : elsV l = true) {k : Nat} (hk : k < l.length) : elV l[k] = true := by
  have h2 := ((elsV_iff l).1 h).2
  rw [List.all_eq_true] at h2
  exact h2 _ (List.getElem_mem hk)

/-- The text of an element; of elements. -/
def elL (e : El) : List UInt8 := 60 :: (e.n ++ 62 :: (esc e.t ++ 60 :: 47 :: (e.n ++ [62])))
def elsL (l : List El) : List UInt8 := l.flatMap elL
theorem elsL_nil : elsL [] = [] := rfl
theorem elsL_cons (e : El) (l : List El) : elsL (e :: l) = elL e ++ elsL l := rfl
theorem elsL_app (a b : List El) : elsL (a ++ b) = elsL a ++ elsL b := by simp [elsL]
theorem elsL_snoc (a : List El) (e : El) : elsL (a ++ [e]) = elsL a ++ elL e := by rw [elsL_app, elsL_cons, elsL_nil, List.append_nil]
theorem elL_len (e : El) : (elL e).length = 2 * e.n.length + (esc e.t).length + 5 := by
  simp [elL]; omega
theorem elL_ne (e : El) : elL e ≠ [] := by simp [elL]
theorem El.eq_of {e f : El} (h1 : e.n = f.n) (h2 : e.t = f.t) : e = f := by
  obtain ⟨⟨⟨a⟩⟩, ⟨⟨b⟩⟩⟩ := e
  obtain ⟨⟨⟨c⟩⟩, ⟨⟨d⟩⟩⟩ := f
  simp only [El.n, El.t] at h1 h2
  subst h1; subst h2; rfl
/-- No element's text begins another's. -/
theorem elL_free {e f : El} {x y : List UInt8} (he : elV e = true) (hf : elV f = true) (h : elL e ++ x = elL f ++ y) : e = f ∧ x = y := by
  rw [elV_iff] at he hf
  simp only [elL, List.cons_append, List.append_assoc, List.cons.injEq, true_and] at h
  obtain ⟨h1, h2⟩ := upto_free (wordV_no he.1 (.inr rfl)) (wordV_no hf.1 (.inr rfl)) h
  obtain ⟨h3, h4⟩ := upto_free (esc_no (.inl rfl)) (esc_no (.inl rfl)) h2
  simp only [List.cons.injEq, true_and] at h4
  rw [h1] at h4
  have h5 := List.append_cancel_left h4
  simp at h5
  exact ⟨El.eq_of h1 (esc_inj h3), h5⟩
theorem elsL_inj {a b : List El} (ha : a.all elV = true) (hb : b.all elV = true) (h : elsL a = elsL b) : a = b := by
  induction a generalizing b with
  | nil =>
    cases b with
    | nil => rfl
    | cons f b => rw [elsL_cons, elsL_nil] at h; exact absurd (List.append_eq_nil_iff.1 h.symm).1 (elL_ne f)
  | cons e a ih =>
    cases b with
    | nil => rw [elsL_cons, elsL_nil] at h; exact absurd (List.append_eq_nil_iff.1 h).1 (elL_ne e)
    | cons f b =>
      rw [List.all_cons, Bool.and_eq_true] at ha hb
      rw [elsL_cons, elsL_cons] at h
      obtain ⟨rfl, h2⟩ := elL_free ha.1 hb.1 h
      rw [ih ha.2 hb.2 h2]
def elsT (l : List El) : List UInt8 := if elsV l = true then elsL l else []
theorem elsT_yes {l : List El} (h : elsV l = true) : elsT l = elsL l := by unfold elsT; rw [if_pos h]
theorem elsT_no {l : List El} (h : elsV l = false) : elsT l = [] := by unfold elsT; rw [h]; rfl
theorem elL_bd {e : El} (h : elV e = true) : (elL e).length ≤ 501 := by
  rw [elV_iff] at h
  have h1 := (wordV_all h.1).2.1
  have h2 := esc_len e.t
  have h3 := textV_len h.2
  rw [elL_len]; omega
theorem elsL_bd {l : List El} (h : l.all elV = true) : (elsL l).length ≤ 501 * l.length := by
  induction l with
  | nil => simp [elsL]
  | cons e l ih =>
    rw [List.all_cons, Bool.and_eq_true] at h
    rw [elsL_cons, List.length_append, List.length_cons]
    have := ih h.2; have := elL_bd h.1; omega
theorem elsT_len (l : List El) : (elsT l).length ≤ 4008 := by
  cases h : elsV l
  · rw [elsT_no h]; simp
  · rw [elsT_yes h]
    obtain ⟨h1, h2⟩ := (elsV_iff l).1 h
    have := elsL_bd h2; omega

/-- The elements that a text stands for. -/
noncomputable def readE (s : List UInt8) : Option (List El) :=
  @dite (Option (List El)) (∃ l, elsV l = true ∧ elsL l = s) (Classical.propDecidable _) (fun h => some (Classical.choose h)) (fun _ => none)
theorem readE_yes {l : List El} {s : List UInt8} (h : elsV l = true) (he : elsL l = s) : readE s = some l := by
  have hx : ∃ l, elsV l = true ∧ elsL l = s := ⟨l, h, he⟩
  unfold readE
  rw [dif_pos hx]
  have hc := Classical.choose_spec hx
  rw [elsL_inj ((elsV_iff _).1 hc.1).2 ((elsV_iff l).1 h).2 (hc.2.trans he.symm)]
theorem readE_no {s : List UInt8} (h : ∀ l, elsV l = true → elsL l ≠ s) : readE s = none := by
  unfold readE
  rw [dif_neg]
  rintro ⟨t, h1, h2⟩
  exact h t h1 h2
theorem readE_some {s : List UInt8} {l : List El} (h : readE s = some l) : elsV l = true ∧ elsL l = s := by
  unfold readE at h
  split at h
  · rename_i hx
    injection h with h
    subst h
    exact Classical.choose_spec hx
  · cases h
theorem readE_none {s : List UInt8} (h : readE s = none) : ∀ l, elsV l = true → elsL l ≠ s := fun l h1 h2 => by
  rw [readE_yes h1 h2] at h; cases h
theorem read_els {l : List El} (h : elsV l = true) : readE (elsT l) = some l := readE_yes h (elsT_yes h).symm
theorem els_read {s : List UInt8} {l : List El} (h : readE s = some l) : elsT l = s := by
  obtain ⟨h1, h2⟩ := readE_some h; rw [elsT_yes h1, h2]
/-- What is written behind elements that were read. -/
theorem elsL_split {a b : List El} {x : List UInt8} (ha : a.all elV = true) (hb : b.all elV = true) (h : elsL b = elsL a ++ x) : ∃ c, b = a ++ c ∧ elsL c = x ∧ c.all elV = true := by
  induction a generalizing b with
  | nil => exact ⟨b, rfl, by simpa [elsL] using h, hb⟩
  | cons d a ih =>
    cases b with
    | nil => rw [elsL_cons, elsL_nil, List.append_assoc] at h; exact absurd (List.append_eq_nil_iff.1 h.symm).1 (elL_ne d)
    | cons e b =>
      rw [elsL_cons, elsL_cons, List.append_assoc] at h
      rw [List.all_cons, Bool.and_eq_true] at ha hb
      obtain ⟨rfl, h2⟩ := elL_free hb.1 ha.1 h
      obtain ⟨c, rfl, hc, hv⟩ := ih ha.2 hb.2 h2
      exact ⟨c, rfl, hc, hv⟩
/-- What is read of the beginning of a text of elements. -/
def FirstE (s : List UInt8) (e : El) (n : Nat) : Prop :=
  (n = 0 ∧ ∀ f, elV f = true → ¬ elL f <+: s) ∨ (elV e = true ∧ n = (elL e).length ∧ elL e <+: s)
theorem firstE_none {s : List UInt8} {a : List El} {x : List UInt8} (ha : a.all elV = true) (hs : s = elsL a ++ x) (hx : x ≠ []) (h : ∀ f, elV f = true → ¬ elL f <+: x) : readE s = none := by
  apply readE_no
  intro b hb e
  obtain ⟨c, rfl, hc, hv⟩ := elsL_split ha ((elsV_iff _).1 hb).2 (e.trans hs)
  cases c with
  | nil => exact hx hc.symm
  | cons f c =>
    rw [List.all_cons, Bool.and_eq_true] at hv
    exact h f hv.1 ⟨elsL c, by rw [← elsL_cons]; exact hc⟩
theorem firstE_more {s : List UInt8} {a : List El} {x : List UInt8} (ha : a.all elV = true) (hs : s = elsL a ++ x) (hx : x ≠ []) (h : a.length = 8) : readE s = none := by
  apply readE_no
  intro b hb e
  obtain ⟨c, rfl, hc, hv⟩ := elsL_split ha ((elsV_iff _).1 hb).2 (e.trans hs)
  cases c with
  | nil => exact hx hc.symm
  | cons f c =>
    have := ((elsV_iff _).1 hb).1
    simp at this
    omega

/-- The first one of elements with a name. -/
def elT (l : List El) (n : ByteArray) : Option ByteArray := if elsV l = true then (l.find? (fun e => eqS e.1 n)).map (·.2) else none
end Go.Proofs.YtldllhfadihmeaaDoor

/- Days, months and years. Plain facts, no program. No condition. -/
namespace Go.Proofs.YtldllhfadihmeaaDoor

def leapB (y : Int) : Bool := decide (1 ≤ y ∧ y ≤ 4000 ∧ y % 4 = 0 ∧ (y % 100 ≠ 0 ∨ y % 400 = 0))
def lp (y : Int) : Int := if leapB y = true then 1 else 0
theorem lp_01 (y : Int) : 0 ≤ lp y ∧ lp y ≤ 1 := by unfold lp; split <;> omega
theorem leapB_iff (y : Int) : leapB y = true ↔ 1 ≤ y ∧ y ≤ 4000 ∧ y % 4 = 0 ∧ (y % 100 ≠ 0 ∨ y % 400 = 0) := by unfold leapB; rw [decide_eq_true_iff]
theorem leapB_not (y : Int) : leapB y = false ↔ ¬ (1 ≤ y ∧ y ≤ 4000 ∧ y % 4 = 0 ∧ (y % 100 ≠ 0 ∨ y % 400 = 0)) := by rw [← Bool.not_eq_true, leapB_iff]
def mdays (y m : Int) : Int :=
  if 1 ≤ y ∧ y ≤ 4000 ∧ 1 ≤ m ∧ m ≤ 12 then (if m = 2 then 28 + lp y else if m = 4 ∨ m = 6 ∨ m = 9 ∨ m = 11 then 30 else 31) else -1
theorem mdays_none {y m : Int} (h : ¬ (1 ≤ y ∧ y ≤ 4000 ∧ 1 ≤ m ∧ m ≤ 12)) : mdays y m = -1 := by unfold mdays; rw [if_neg h]
theorem mdays_bd {y m : Int} (h1 : 1 ≤ y) (h2 : y ≤ 4000) (h3 : 1 ≤ m) (h4 : m ≤ 12) : 28 ≤ mdays y m ∧ mdays y m ≤ 31 := by
  have := lp_01 y
  unfold mdays; rw [if_pos ⟨h1, h2, h3, h4⟩]; split
  · omega
  · split <;> omega
theorem mdays_le (y m : Int) : -1 ≤ mdays y m ∧ mdays y m ≤ 31 := by
  by_cases h : 1 ≤ y ∧ y ≤ 4000 ∧ 1 ≤ m ∧ m ≤ 12
  · have := mdays_bd h.1 h.2.1 h.2.2.1 h.2.2.2; omega
  · rw [mdays_none h]; omega
theorem mdays_ok {y m : Int} (h : 0 ≤ mdays y m) : 1 ≤ y ∧ y ≤ 4000 ∧ 1 ≤ m ∧ m ≤ 12 := by
  apply Classical.byContradiction; intro hn; rw [mdays_none hn] at h; omega
theorem mdays_feb {y : Int} (h1 : 1 ≤ y) (h2 : y ≤ 4000) : mdays y 2 = 28 + lp y := by unfold mdays; rw [if_pos ⟨h1, h2, by omega, by omega⟩, if_pos rfl]
theorem mdays_short {y m : Int} (h1 : 1 ≤ y) (h2 : y ≤ 4000) (h : m = 4 ∨ m = 6 ∨ m = 9 ∨ m = 11) : mdays y m = 30 := by
  unfold mdays; rw [if_pos ⟨h1, h2, by omega, by omega⟩, if_neg (by omega), if_pos h]
theorem mdays_long {y m : Int} (h1 : 1 ≤ y) (h2 : y ≤ 4000) (h : m = 1 ∨ m = 3 ∨ m = 5 ∨ m = 7 ∨ m = 8 ∨ m = 10 ∨ m = 12) : mdays y m = 31 := by
  unfold mdays; rw [if_pos ⟨h1, h2, by omega, by omega⟩, if_neg (by omega), if_neg (by omega)]

/-- The days of the years before a year; of the first k months. -/
def before (y : Int) : Int := 365 * (y - 1) + (y - 1) / 4 - (y - 1) / 100 + (y - 1) / 400
def cum (y : Int) : Nat → Int
  | 0 => 0
  | k + 1 => cum y k + mdays y (k + 1 : Nat)
theorem before_succ {y : Int} (h1 : 1 ≤ y) (h2 : y ≤ 4000) : before (y + 1) = before y + 365 + lp y := by
  unfold before lp
  by_cases hl : leapB y = true
  · rw [if_pos hl]; rw [leapB_iff] at hl; omega
  · rw [if_neg hl]; rw [leapB_iff] at hl; omega
theorem before_mono {a b : Int} (h : a ≤ b) : before a + 365 * (b - a) ≤ before b := by unfold before; omega
theorem before_bd {y : Int} (h1 : 1 ≤ y) (h2 : y ≤ 4001) : 0 ≤ before y ∧ before y ≤ 1460970 := by unfold before; omega
theorem before_guess {n : Int} (h : 0 ≤ n) : before (n / 366 + 1) ≤ n := by unfold before; omega
theorem before_max : before 4001 = 1460970 := by decide
theorem cum_succ (y : Int) (k : Nat) : cum y (k + 1) = cum y k + mdays y (k + 1 : Nat) := rfl
theorem cum_12 {y : Int} (h1 : 1 ≤ y) (h2 : y ≤ 4000) : cum y 12 = 365 + lp y := by
  simp only [cum, Nat.zero_add, Nat.reduceAdd]
  rw [show mdays y (1 : Nat) = 31 from mdays_long h1 h2 (by omega), show mdays y (2 : Nat) = 28 + lp y from mdays_feb h1 h2, show mdays y (3 : Nat) = 31 from mdays_long h1 h2 (by omega), show mdays y (4 : Nat) = 30 from mdays_short h1 h2 (by omega), show mdays y (5 : Nat) = 31 from mdays_long h1 h2 (by omega), show mdays y (6 : Nat) = 30 from mdays_short h1 h2 (by omega), show mdays y (7 : Nat) = 31 from mdays_long h1 h2 (by omega), show mdays y (8 : Nat) = 31 from mdays_long h1 h2 (by omega), show mdays y (9 : Nat) = 30 from mdays_short h1 h2 (by omega), show mdays y (10 : Nat) = 31 from mdays_long h1 h2 (by omega), show mdays y (11 : Nat) = 30 from mdays_short h1 h2 (by omega), show mdays y (12 : Nat) = 31 from mdays_long h1 h2 (by omega)]
  omega
theorem cum_bd {y : Int} (h1 : 1 ≤ y) (h2 : y ≤ 4000) (k : Nat) (hk : k ≤ 12) : 28 * (k : Int) ≤ cum y k ∧ cum y k ≤ 31 * (k : Int) := by
  induction k with
  | zero => simp [cum]
  | succ k ih =>
    have := ih (by omega)
    have hm := mdays_bd (m := ((k + 1 : Nat) : Int)) h1 h2 (by omega) (by omega)
    rw [cum_succ]; omega
theorem cum_mono {y : Int} (h1 : 1 ≤ y) (h2 : y ≤ 4000) {j k : Nat} (h : j ≤ k) (hk : k ≤ 12) : cum y j ≤ cum y k := by
  induction k with
  | zero => obtain rfl : j = 0 := by omega
            exact Int.le_refl _
  | succ k ih =>
    rcases Nat.lt_or_ge k j with hlt | hge
    · obtain rfl : j = k + 1 := by omega
      exact Int.le_refl _
    · have := ih hge (by omega)
      have hm := mdays_bd (m := ((k + 1 : Nat) : Int)) h1 h2 (by omega) (by omega)
      rw [cum_succ]; omega

/-- The number of a day. -/
def dnum (y m d : Int) : Int := if 1 ≤ d ∧ d ≤ mdays y m then before y + cum y (m - 1).toNat + d - 1 else -1
theorem dnum_none {y m d : Int} (h : ¬ (1 ≤ d ∧ d ≤ mdays y m)) : dnum y m d = -1 := by unfold dnum; rw [if_neg h]
theorem dnum_ok {y m d : Int} (h : 0 ≤ dnum y m d) : 1 ≤ y ∧ y ≤ 4000 ∧ 1 ≤ m ∧ m ≤ 12 ∧ 1 ≤ d ∧ d ≤ mdays y m := by
  have hd : 1 ≤ d ∧ d ≤ mdays y m := by apply Classical.byContradiction; intro hn; rw [dnum_none hn] at h; omega
  have := mdays_ok (y := y) (m := m) (by omega)
  omega
theorem dnum_yes {y m d : Int} (h1 : 1 ≤ d) (h2 : d ≤ mdays y m) : dnum y m d = before y + cum y (m - 1).toNat + d - 1 := by unfold dnum; rw [if_pos ⟨h1, h2⟩]
theorem cum_step {y m : Int} (h1 : 1 ≤ m) : cum y m.toNat = cum y (m - 1).toNat + mdays y m := by
  obtain ⟨k, rfl⟩ : ∃ k : Nat, m = ((k + 1 : Nat) : Int) := ⟨(m - 1).toNat, by omega⟩
  rw [show ((((k + 1 : Nat) : Int) - 1)).toNat = k from by omega, Int.toNat_natCast, cum_succ]
theorem dnum_year {y m d : Int} (h : 0 ≤ dnum y m d) : before y ≤ dnum y m d ∧ dnum y m d < before (y + 1) := by
  obtain ⟨a, b, c, e, f, g⟩ := dnum_ok h
  rw [dnum_yes f g, before_succ a b]
  have h1 := cum_bd a b (m - 1).toNat (by omega)
  have h2 := cum_mono a b (j := m.toNat) (k := 12) (by omega) (by omega)
  rw [cum_12 a b, cum_step c] at h2
  omega
theorem dnum_range {y m d : Int} (h : 0 ≤ dnum y m d) : dnum y m d ≤ 1460969 := by
  obtain ⟨a, b, c, e, f, g⟩ := dnum_ok h
  have := dnum_year h
  have := before_bd (y := y + 1) (by omega) (by omega)
  omega
theorem dnum_bd (y m d : Int) : -1 ≤ dnum y m d ∧ dnum y m d ≤ 1460969 := by
  by_cases h : 1 ≤ d ∧ d ≤ mdays y m
  · have hy := mdays_ok (y := y) (m := m) (by omega)
    have h0 : 0 ≤ dnum y m d := by
      rw [dnum_yes h.1 h.2]
      have h1 := cum_bd hy.1 hy.2.1 (m - 1).toNat (by omega)
      have h2 := before_bd (y := y) hy.1 (by omega)
      omega
    have := dnum_range h0
    omega
  · rw [dnum_none h]; omega
theorem dnum_pos {y m d : Int} (h1 : 1 ≤ d) (h2 : d ≤ mdays y m) : 0 ≤ dnum y m d := by
  have hy := mdays_ok (y := y) (m := m) (by omega)
  rw [dnum_yes h1 h2]
  have h1 := cum_bd hy.1 hy.2.1 (m - 1).toNat (by omega)
  have h2 := before_bd (y := y) hy.1 (by omega)
  omega
theorem dnum_unique {y m d y' m' d' : Int} (h : 0 ≤ dnum y m d) (h' : dnum y' m' d' = dnum y m d) : y' = y ∧ m' = m ∧ d' = d := by
  obtain ⟨a, b, c, e, f, g⟩ := dnum_ok h
  obtain ⟨a', b', c', e', f', g'⟩ := dnum_ok (y := y') (m := m') (d := d') (by omega)
  have hy := dnum_year h
  have hy' := dnum_year (y := y') (m := m') (d := d') (by omega)
  have hyy : y' = y := by
    rcases Int.lt_trichotomy y' y with hlt | heq | hgt
    · have := before_mono (a := y' + 1) (b := y) (by omega); omega
    · exact heq
    · have := before_mono (a := y + 1) (b := y') (by omega); omega
  subst hyy
  rw [dnum_yes f g, dnum_yes f' g'] at h'
  have hmm : m' = m := by
    rcases Int.lt_trichotomy m' m with hlt | heq | hgt
    · have h1 := cum_mono a b (j := m'.toNat) (k := (m - 1).toNat) (by omega) (by omega)
      rw [cum_step c'] at h1; omega
    · exact heq
    · have h1 := cum_mono a b (j := m.toNat) (k := (m' - 1).toNat) (by omega) (by omega)
      rw [cum_step c] at h1; omega
  subst hmm
  exact ⟨rfl, rfl, by omega⟩
/-- The day after a day of a month; after a month; after a year. -/
theorem dnum_next {y m d : Int} (h1 : 1 ≤ d) (h2 : d < mdays y m) : dnum y m (d + 1) = dnum y m d + 1 := by
  rw [dnum_yes (by omega) (by omega), dnum_yes (by omega) (by omega)]; omega
theorem dnum_month {y m : Int} (h1 : 1 ≤ y) (h2 : y ≤ 4000) (h3 : 1 ≤ m) (h4 : m < 12) : dnum y (m + 1) 1 = dnum y m (mdays y m) + 1 := by
  have a := mdays_bd h1 h2 h3 (by omega)
  have b := mdays_bd (m := m + 1) h1 h2 (by omega) (by omega)
  rw [dnum_yes (by omega) (by omega), dnum_yes (by omega) (by omega), show (m + 1 - 1).toNat = m.toNat from by omega, cum_step h3]; omega
theorem dnum_newyear {y : Int} (h1 : 1 ≤ y) (h2 : y < 4000) : dnum (y + 1) 1 1 = dnum y 12 31 + 1 := by
  have a := mdays_long (y := y) (m := 12) h1 (by omega) (by omega)
  have b := mdays_long (y := y + 1) (m := 1) (by omega) (by omega) (by omega)
  rw [dnum_yes (by omega) (by omega), dnum_yes (by omega) (by omega), before_succ h1 (by omega)]
  have c := cum_12 (y := y) h1 (by omega)
  rw [show (12 : Nat) = (12 : Int).toNat from rfl, cum_step (by omega), a] at c
  rw [show ((1 : Int) - 1).toNat = 0 from rfl]
  simp only [cum]
  omega
theorem dnum_first {y : Int} (h1 : 1 ≤ y) (h2 : y ≤ 4000) : dnum y 1 1 = before y := by
  have b := mdays_long (y := y) (m := 1) (by omega) (by omega) (by omega)
  rw [dnum_yes (by omega) (by omega), show ((1 : Int) - 1).toNat = 0 from rfl]
  simp only [cum]; omega
theorem dnum_start {y : Int} {k : Nat} (h1 : 1 ≤ y) (h2 : y ≤ 4000) (h3 : 1 ≤ k) (h4 : k ≤ 12) : dnum y k 1 = before y + cum y (k - 1) := by
  have b := mdays_bd (y := y) (m := (k : Int)) (by omega) (by omega) (by omega) (by omega)
  rw [dnum_yes (by omega) (by omega), show ((k : Int) - 1).toNat = k - 1 from by omega]
  omega
theorem dnum_last : dnum 4000 12 31 = 1460969 := by decide

end Go.Proofs.YtldllhfadihmeaaDoor

/- Dates as texts and back. Plain facts, no program. No condition. -/
namespace Go.Proofs.YtldllhfadihmeaaDoor

def dg (n : Nat) : UInt8 := UInt8.ofNat (48 + n % 10)
def pad : Nat → Nat → List UInt8
  | 0, _ => []
  | w + 1, n => pad w (n / 10) ++ [dg n]
def fmt (y m d : Nat) : List UInt8 := pad 4 y ++ (46 :: (pad 2 m ++ (46 :: pad 2 d)))
theorem dg_toNat (n : Nat) : (dg n).toNat = 48 + n % 10 := by
  unfold dg; rw [UInt8.toNat_ofNat']; have := Nat.mod_lt n (show 0 < 10 by omega); omega
theorem pad_len (w : Nat) : ∀ n, (pad w n).length = w := by
  induction w with
  | zero => intro n; rfl
  | succ w ih => intro n; rw [pad, List.length_append, ih]; rfl
theorem fmt_len (y m d : Nat) : (fmt y m d).length = 10 := by
  unfold fmt; simp [pad_len]

def digit (c : UInt8) : Bool := decide (48 ≤ c.toNat) && decide (c.toNat ≤ 57)
theorem digit_iff (c : UInt8) : digit c = true ↔ 48 ≤ (c.toNat : Int) ∧ (c.toNat : Int) ≤ 57 := by
  simp only [digit, Bool.and_eq_true, decide_eq_true_eq]; omega
theorem digit_dg (n : Nat) : digit (dg n) = true := by rw [digit_iff, dg_toNat]; omega
theorem dg_digit {c : UInt8} (h : digit c = true) : dg (c.toNat - 48) = c := by
  rw [digit_iff] at h
  rw [← UInt8.toNat_inj, dg_toNat]; omega
def dval (l : List UInt8) : Int := l.foldl (fun n c => 10 * n + ((c.toNat : Int) - 48)) 0
theorem dval_nil : dval [] = 0 := rfl
theorem dval_snoc (l : List UInt8) (c : UInt8) : dval (l ++ [c]) = 10 * dval l + ((c.toNat : Int) - 48) := by
  unfold dval; rw [List.foldl_append]; rfl
theorem pad_digits (w : Nat) : ∀ n, (pad w n).all digit = true := by
  induction w with
  | zero => intro n; rfl
  | succ w ih => intro n; rw [pad, List.all_append, ih]; simp [digit_dg]
theorem dval_pad (w : Nat) : ∀ n, n < 10 ^ w → dval (pad w n) = (n : Int) := by
  induction w with
  | zero => intro n h; simp at h; subst h; rfl
  | succ w ih =>
    intro n h
    rw [pad, dval_snoc, ih (n / 10) (by rw [Nat.pow_succ] at h; exact Nat.div_lt_of_lt_mul (by omega)), dg_toNat]
    omega
theorem snoc_ex {l : List UInt8} {n : Nat} (h : l.length = n + 1) : ∃ r c, l = r ++ [c] ∧ r.length = n :=
  ⟨l.dropLast, l.getLast (by intro e; simp [e] at h), (List.dropLast_concat_getLast _).symm, by simp; omega⟩
theorem dval_bd (w : Nat) : ∀ l : List UInt8, l.length = w → l.all digit = true → 0 ≤ dval l ∧ dval l < 10 ^ w := by
  induction w with
  | zero => intro l h _; rw [List.length_eq_zero_iff] at h; subst h; simp [dval_nil]
  | succ w ih =>
    intro l h hd
    obtain ⟨r, c, rfl, hr⟩ := snoc_ex h
    rw [List.all_append, Bool.and_eq_true] at hd
    have h1 := ih r hr hd.1
    have h2 : digit c = true := by simpa using hd.2
    rw [digit_iff] at h2
    rw [dval_snoc, Int.pow_succ]; omega
theorem pad_dval (w : Nat) : ∀ l : List UInt8, l.length = w → l.all digit = true → pad w (dval l).toNat = l := by
  induction w with
  | zero => intro l h _; rw [List.length_eq_zero_iff] at h; subst h; rfl
  | succ w ih =>
    intro l h hd
    obtain ⟨r, c, rfl, hr⟩ := snoc_ex h
    rw [List.all_append, Bool.and_eq_true] at hd
    have h1 := ih r hr hd.1
    have hb := dval_bd w r hr hd.1
    have h2 : digit c = true := by simpa using hd.2
    have h3 := dg_digit h2
    rw [digit_iff] at h2
    rw [dval_snoc, pad, show (10 * dval r + ((c.toNat : Int) - 48)).toNat / 10 = (dval r).toNat from by omega, h1]
    have e : dg (10 * dval r + ((c.toNat : Int) - 48)).toNat = dg (c.toNat - 48) := by
      unfold dg; rw [show (10 * dval r + ((c.toNat : Int) - 48)).toNat % 10 = (c.toNat - 48) % 10 from by omega]
    rw [e, h3]
theorem pad_inj {w n n' : Nat} (h : pad w n = pad w n') (h1 : n < 10 ^ w) (h2 : n' < 10 ^ w) : n = n' := by
  have e : dval (pad w n) = dval (pad w n') := by rw [h]
  rw [dval_pad w n h1, dval_pad w n' h2] at e; omega
theorem fmt_inj {y m d y' m' d' : Nat} (h : fmt y m d = fmt y' m' d') (h1 : y < 10000) (h2 : m < 100) (h3 : d < 100) (h1' : y' < 10000) (h2' : m' < 100) (h3' : d' < 100) : y = y' ∧ m = m' ∧ d = d' := by
  unfold fmt at h
  obtain ⟨e1, e2⟩ := List.append_inj h (by rw [pad_len, pad_len])
  injection e2 with _ e2
  obtain ⟨e3, e4⟩ := List.append_inj e2 (by rw [pad_len, pad_len])
  injection e4 with _ e4
  exact ⟨pad_inj e1 h1 h1', pad_inj e3 h2 h2', pad_inj e4 h3 h3'⟩

/-- The date of a day; the day of a date. -/
noncomputable def dateT (n : Int) : List UInt8 :=
  @dite (List UInt8) (∃ t : Int × Int × Int, 0 ≤ n ∧ dnum t.1 t.2.1 t.2.2 = n) (Classical.propDecidable _) (fun h => fmt (Classical.choose h).1.toNat (Classical.choose h).2.1.toNat (Classical.choose h).2.2.toNat) (fun _ => [])
theorem date_of {y m d : Int} (h : 0 ≤ dnum y m d) : dateT (dnum y m d) = fmt y.toNat m.toNat d.toNat := by
  have hx : ∃ t : Int × Int × Int, 0 ≤ dnum y m d ∧ dnum t.1 t.2.1 t.2.2 = dnum y m d := ⟨(y, m, d), h, rfl⟩
  unfold dateT
  rw [dif_pos hx]
  have hc := (Classical.choose_spec hx).2
  obtain ⟨e1, e2, e3⟩ := dnum_unique h hc
  rw [e1, e2, e3]
theorem date_none {n : Int} (h : n < 0 ∨ 1460969 < n) : dateT n = [] := by
  unfold dateT
  rw [dif_neg]
  rintro ⟨t, h0, ht⟩
  have := dnum_bd t.1 t.2.1 t.2.2
  omega
theorem day_ex (n : Nat) (h : n ≤ 1460969) : ∃ y m d : Int, dnum y m d = n := by
  induction n with
  | zero => exact ⟨1, 1, 1, by decide⟩
  | succ n ih =>
    obtain ⟨y, m, d, e⟩ := ih (by omega)
    obtain ⟨a1, a2, a3, a4, a5, a6⟩ := dnum_ok (y := y) (m := m) (d := d) (by omega)
    by_cases hd : d < mdays y m
    · exact ⟨y, m, d + 1, by rw [dnum_next a5 hd, e]; rfl⟩
    · have hd2 : d = mdays y m := by omega
      by_cases hm : m < 12
      · exact ⟨y, m + 1, 1, by rw [dnum_month a1 a2 a3 hm, ← hd2, e]; rfl⟩
      · obtain rfl : m = 12 := by omega
        rw [mdays_long a1 a2 (by omega)] at hd2
        subst hd2
        by_cases hy : y < 4000
        · exact ⟨y + 1, 1, 1, by rw [dnum_newyear a1 hy, e]; rfl⟩
        · obtain rfl : y = 4000 := by omega
          rw [dnum_last] at e; omega
theorem date_ex {n : Int} (h0 : 0 ≤ n) (h1 : n ≤ 1460969) : ∃ y m d : Int, dnum y m d = n ∧ 0 ≤ dnum y m d := by
  obtain ⟨k, rfl⟩ := Int.eq_ofNat_of_zero_le h0
  obtain ⟨y, m, d, e⟩ := day_ex k (by omega)
  exact ⟨y, m, d, e, by omega⟩
theorem date_fits {y m d : Int} (h : 0 ≤ dnum y m d) : y.toNat < 10000 ∧ m.toNat < 100 ∧ d.toNat < 100 := by
  obtain ⟨a1, a2, a3, a4, a5, a6⟩ := dnum_ok h
  have := mdays_le y m
  omega
theorem date_len {n : Int} (h0 : 0 ≤ n) (h1 : n ≤ 1460969) : (dateT n).length = 10 := by
  obtain ⟨y, m, d, rfl, h⟩ := date_ex h0 h1
  rw [date_of h, fmt_len]
theorem date_size (n : Int) : (dateT n).length ≤ 10 := by
  by_cases h : 0 ≤ n ∧ n ≤ 1460969
  · rw [date_len h.1 h.2]; omega
  · rw [date_none (by omega)]; simp
theorem date_ne {n : Int} (h0 : 0 ≤ n) (h1 : n ≤ 1460969) : dateT n ≠ [] := by
  intro e; have := date_len h0 h1; rw [e] at this; simp at this
theorem date_inj {n k : Int} (h0 : 0 ≤ n) (h1 : n ≤ 1460969) (h : dateT k = dateT n) : k = n := by
  by_cases hk : 0 ≤ k ∧ k ≤ 1460969
  · obtain ⟨y, m, d, rfl, hd⟩ := date_ex h0 h1
    obtain ⟨y', m', d', rfl, hd'⟩ := date_ex hk.1 hk.2
    rw [date_of hd, date_of hd'] at h
    have f := date_fits hd
    have f' := date_fits hd'
    obtain ⟨e1, e2, e3⟩ := fmt_inj h f'.1 f'.2.1 f'.2.2 f.1 f.2.1 f.2.2
    obtain ⟨a1, a2, a3, a4, a5, a6⟩ := dnum_ok hd
    obtain ⟨b1, b2, b3, b4, b5, b6⟩ := dnum_ok hd'
    obtain rfl : y' = y := by omega
    obtain rfl : m' = m := by omega
    obtain rfl : d' = d := by omega
    rfl
  · rw [date_none (n := k) (by omega)] at h; exact absurd h.symm (date_ne h0 h1)
noncomputable def readD (l : List UInt8) : Int :=
  @dite Int (∃ n : Int, 0 ≤ n ∧ n ≤ 1460969 ∧ dateT n = l) (Classical.propDecidable _) (fun h => Classical.choose h) (fun _ => -1)
theorem read_date {n : Int} (h0 : 0 ≤ n) (h1 : n ≤ 1460969) : readD (dateT n) = n := by
  have hx : ∃ k : Int, 0 ≤ k ∧ k ≤ 1460969 ∧ dateT k = dateT n := ⟨n, h0, h1, rfl⟩
  unfold readD
  rw [dif_pos hx]
  exact date_inj h0 h1 (Classical.choose_spec hx).2.2
theorem readD_no {l : List UInt8} (h : ∀ n : Int, 0 ≤ n → n ≤ 1460969 → dateT n ≠ l) : readD l = -1 := by
  unfold readD
  rw [dif_neg]
  rintro ⟨n, h0, h1, h2⟩
  exact h n h0 h1 h2
theorem readD_fmt {y m d : Int} (h : 0 ≤ dnum y m d) : readD (fmt y.toNat m.toNat d.toNat) = dnum y m d := by
  rw [← date_of h]; exact read_date h (dnum_range h)
theorem readD_bad {l : List UInt8} (h : ∀ y m d : Int, 0 ≤ dnum y m d → l ≠ fmt y.toNat m.toNat d.toNat) : readD l = -1 :=
  readD_no fun n h0 h1 e => by
    obtain ⟨y, m, d, rfl, hd⟩ := date_ex h0 h1
    rw [date_of hd] at e
    exact h y m d hd e.symm
theorem readD_bd (l : List UInt8) : -1 ≤ readD l ∧ readD l ≤ 1460969 := by
  unfold readD
  split
  · rename_i h; have := Classical.choose_spec h; omega
  · omega
theorem date_read {l : List UInt8} (h : 0 ≤ readD l) : dateT (readD l) = l := by
  unfold readD at *
  split at h
  · rename_i hx; rw [dif_pos hx]; exact (Classical.choose_spec hx).2.2
  · omega
theorem readD_len {l : List UInt8} (h : l.length ≠ 10) : readD l = -1 :=
  readD_bad fun y m d _ e => h (by rw [e, fmt_len])

/-- A later day has a greater date. -/
theorem less_app (l a b : List UInt8) : Op.bytesLess (l ++ a) (l ++ b) = Op.bytesLess a b := by
  induction l with
  | nil => rfl
  | cons c l ih => simp [Op.bytesLess, ih]
theorem pad_less (w : Nat) : ∀ (n n' : Nat) (r r' : List UInt8), n < n' → n' < 10 ^ w → Op.bytesLess (pad w n' ++ r') (pad w n ++ r) = false ∧ pad w n' ++ r' ≠ pad w n ++ r := by
  induction w with
  | zero => intro n n' r r' h1 h2; simp at h2; omega
  | succ w ih =>
    intro n n' r r' h1 h2
    rw [pad, pad, List.append_assoc, List.append_assoc]
    rcases Nat.lt_or_ge (n / 10) (n' / 10) with h | h
    · exact ih _ _ _ _ h (by rw [Nat.pow_succ] at h2; exact Nat.div_lt_of_lt_mul (by omega))
    · have he : n' / 10 = n / 10 := by omega
      have hlt : (dg n).toNat < (dg n').toNat := by rw [dg_toNat, dg_toNat]; omega
      have hne : dg n' ≠ dg n := by intro e; rw [e] at hlt; omega
      rw [he, less_app]
      refine ⟨?_, ?_⟩
      · simp only [List.singleton_append, Op.bytesLess, Bool.or_eq_false_iff, Bool.and_eq_false_iff]
        refine ⟨decide_eq_false (by rw [UInt8.lt_iff_toNat_lt]; omega), .inl (by simpa using hne)⟩
      · intro e
        have := List.append_cancel_left e
        simp at this
        exact hne this.1
theorem cons_less (c : UInt8) (a b : List UInt8) : Op.bytesLess (c :: a) (c :: b) = Op.bytesLess a b := by simp [Op.bytesLess]
theorem date_less {n : Int} (h0 : 0 ≤ n) (h1 : n + 1 ≤ 1460969) : Op.bytesLess (dateT (n + 1)) (dateT n) = false ∧ dateT (n + 1) ≠ dateT n := by
  refine ⟨?_, fun e => by have := date_inj h0 (by omega) e; omega⟩
  obtain ⟨y, m, d, rfl, hd⟩ := date_ex h0 (by omega)
  obtain ⟨a1, a2, a3, a4, a5, a6⟩ := dnum_ok hd
  have hm31 := mdays_le y m
  have key : ∀ y' m' d' : Int, dnum y' m' d' = dnum y m d + 1 → Op.bytesLess (fmt y'.toNat m'.toNat d'.toNat) (fmt y.toNat m.toNat d.toNat) = false → Op.bytesLess (dateT (dnum y m d + 1)) (dateT (dnum y m d)) = false := by
    intro y' m' d' e hl
    rw [← e, date_of (by omega), date_of hd]; exact hl
  by_cases hlt : d < mdays y m
  · refine key y m (d + 1) (dnum_next a5 hlt) ?_
    unfold fmt
    rw [less_app, cons_less, less_app, cons_less]
    simpa using (pad_less 2 d.toNat (d + 1).toNat [] [] (by omega) (by omega)).1
  · have hd2 : d = mdays y m := by omega
    by_cases hm : m < 12
    · refine key y (m + 1) 1 (by rw [dnum_month a1 a2 a3 hm, ← hd2]) ?_
      unfold fmt
      rw [less_app, cons_less]
      exact (pad_less 2 _ _ _ _ (by omega) (by omega)).1
    · obtain rfl : m = 12 := by omega
      rw [mdays_long a1 a2 (by omega)] at hd2
      subst hd2
      by_cases hy : y < 4000
      · refine key (y + 1) 1 1 (dnum_newyear a1 hy) ?_
        unfold fmt
        exact (pad_less 4 _ _ _ _ (by omega) (by omega)).1
      · obtain rfl : y = 4000 := by omega
        rw [dnum_last] at h1; omega

/-- A text cut as the program cuts a date. -/
theorem pad_parts (a b c : List UInt8) (ha : a.length = 4) (hb : b.length = 2) : (a ++ (46 :: (b ++ (46 :: c)))).take 4 = a ∧ (a ++ (46 :: (b ++ (46 :: c))))[4]? = some 46 ∧ ((a ++ (46 :: (b ++ (46 :: c)))).drop 5).take 2 = b ∧ (a ++ (46 :: (b ++ (46 :: c))))[7]? = some 46 ∧ (a ++ (46 :: (b ++ (46 :: c)))).drop 8 = c := by
  obtain ⟨a0, a1, a2, a3, rfl⟩ : ∃ a0 a1 a2 a3, a = [a0, a1, a2, a3] := by
    match a, ha with
    | [a0, a1, a2, a3], _ => exact ⟨_, _, _, _, rfl⟩
  obtain ⟨b0, b1, rfl⟩ : ∃ b0 b1, b = [b0, b1] := by
    match b, hb with
    | [b0, b1], _ => exact ⟨_, _, rfl⟩
  exact ⟨rfl, rfl, rfl, rfl, rfl⟩
theorem whole10 {l : List UInt8} (h : l.length = 10) (h4 : l[4]? = some 46) (h7 : l[7]? = some 46) : l = l.take 4 ++ (46 :: ((l.drop 5).take 2 ++ (46 :: l.drop 8))) := by
  match l, h with
  | [a, b, c, d, e, f, g, i, j, k], _ =>
    simp at h4 h7
    subst h4; subst h7
    rfl
def rdP (l : List UInt8) : Int := if l.all digit = true then dval l else -1
theorem rdP_yes {l : List UInt8} (h : l.all digit = true) : rdP l = dval l := by unfold rdP; rw [if_pos h]
theorem rdP_no {l : List UInt8} (h : l.all digit = false) : rdP l = -1 := by unfold rdP; rw [h]; rfl
theorem rdP_ok {l : List UInt8} (h : 0 ≤ rdP l) : l.all digit = true ∧ rdP l = dval l := by
  unfold rdP at *
  split at h
  · rename_i hd; exact ⟨hd, by rw [if_pos hd]⟩
  · omega
theorem rdP_bd (l : List UInt8) (w : Nat) (h : l.length = w) : -1 ≤ rdP l ∧ rdP l < 10 ^ w := by
  unfold rdP
  split
  · rename_i hd; have := dval_bd w l h hd; omega
  · exact ⟨by omega, by have : (0 : Int) < 10 ^ w := Int.pow_pos (by omega); omega⟩
theorem readD_of (Y M D : Nat) (h1 : Y < 10000) (h2 : M < 100) (h3 : D < 100) : readD (fmt Y M D) = dnum Y M D := by
  by_cases h : 0 ≤ dnum Y M D
  · have := readD_fmt h
    simpa using this
  · have hb := dnum_bd Y M D
    rw [show dnum Y M D = -1 from by omega]
    apply readD_bad
    intro y m d hd e
    have f := date_fits hd
    obtain ⟨e1, e2, e3⟩ := fmt_inj e h1 h2 h3 f.1 f.2.1 f.2.2
    obtain ⟨a1, a2, a3, a4, a5, a6⟩ := dnum_ok hd
    obtain rfl : y = (Y : Int) := by omega
    obtain rfl : m = (M : Int) := by omega
    obtain rfl : d = (D : Int) := by omega
    exact h hd
theorem read_whole {l : List UInt8} (h : l.length = 10) (h4 : l[4]? = some 46) (h7 : l[7]? = some 46) (hy : 0 ≤ rdP (l.take 4)) (hm : 0 ≤ rdP ((l.drop 5).take 2)) (hd : 0 ≤ rdP (l.drop 8)) :
    readD l = dnum (rdP (l.take 4)) (rdP ((l.drop 5).take 2)) (rdP (l.drop 8)) := by
  obtain ⟨y1, y2⟩ := rdP_ok hy
  obtain ⟨m1, m2⟩ := rdP_ok hm
  obtain ⟨d1, d2⟩ := rdP_ok hd
  have ly : (l.take 4).length = 4 := by simp; omega
  have lm : ((l.drop 5).take 2).length = 2 := by simp; omega
  have ld : (l.drop 8).length = 2 := by simp; omega
  have by4 := dval_bd 4 _ ly y1
  have bm := dval_bd 2 _ lm m1
  have bd := dval_bd 2 _ ld d1
  have e : l = fmt (dval (l.take 4)).toNat (dval ((l.drop 5).take 2)).toNat (dval (l.drop 8)).toNat := by
    unfold fmt
    rw [pad_dval 4 _ ly y1, pad_dval 2 _ lm m1, pad_dval 2 _ ld d1]
    exact whole10 h h4 h7
  rw [y2, m2, d2]
  have hr := readD_of (dval (l.take 4)).toNat (dval ((l.drop 5).take 2)).toNat (dval (l.drop 8)).toNat (by omega) (by omega) (by omega)
  rw [← e] at hr
  rw [hr, Int.toNat_of_nonneg by4.1, Int.toNat_of_nonneg bm.1, Int.toNat_of_nonneg bd.1]
theorem read_part {l : List UInt8} (h : l[4]? ≠ some 46 ∨ l[7]? ≠ some 46 ∨ rdP (l.take 4) < 0 ∨ rdP ((l.drop 5).take 2) < 0 ∨ rdP (l.drop 8) < 0) : readD l = -1 := by
  apply readD_bad
  intro y m d hd e
  have f := date_fits hd
  have hp := pad_parts (pad 4 y.toNat) (pad 2 m.toNat) (pad 2 d.toNat) (pad_len _ _) (pad_len _ _)
  rw [show pad 4 y.toNat ++ (46 :: (pad 2 m.toNat ++ (46 :: pad 2 d.toNat))) = l from e.symm] at hp
  obtain ⟨p1, p2, p3, p4, p5⟩ := hp
  rw [p1, p3, p5, p2, p4, rdP_yes (pad_digits _ _), rdP_yes (pad_digits _ _), rdP_yes (pad_digits _ _), dval_pad _ _ f.1, dval_pad _ _ f.2.1, dval_pad _ _ f.2.2] at h
  simp at h
  omega

/-- How the reference reads a date: a point leads to the next number, a digit goes on with the number. -/
def stepP (st : Nat × Int × Int × Int) (c : UInt8) : Option (Nat × Int × Int × Int) :=
  if c.toNat = 46 ∧ st.1 < 2 then some (st.1 + 1, st.2.1, st.2.2.1, st.2.2.2)
  else if 48 ≤ c.toNat ∧ c.toNat ≤ 57 then
    some (if st.1 = 0 then (st.1, 10 * st.2.1 + ((c.toNat : Int) - 48), st.2.2.1, st.2.2.2) else if st.1 = 1 then (st.1, st.2.1, 10 * st.2.2.1 + ((c.toNat : Int) - 48), st.2.2.2) else (st.1, st.2.1, st.2.2.1, 10 * st.2.2.2 + ((c.toNat : Int) - 48)))
  else none
def parseP (l : List UInt8) : Option (Nat × Int × Int × Int) := l.foldlM stepP (0, 0, 0, 0)
theorem parse_snoc (l : List UInt8) (c : UInt8) : parseP (l ++ [c]) = (parseP l).bind fun st => stepP st c := by
  unfold parseP; rw [List.foldlM_append]
  cases h : l.foldlM stepP (0, 0, 0, 0) <;> simp
theorem step_point {i : Nat} (x y z : Int) (h : i < 2) : stepP (i, x, y, z) 46 = some (i + 1, x, y, z) := by
  unfold stepP; rw [if_pos ⟨rfl, h⟩]
theorem step_dig {i : Nat} {c : UInt8} (x y z : Int) (h : 48 ≤ c.toNat ∧ c.toNat ≤ 57) : stepP (i, x, y, z) c = some (if i = 0 then (i, 10 * x + ((c.toNat : Int) - 48), y, z) else if i = 1 then (i, x, 10 * y + ((c.toNat : Int) - 48), z) else (i, x, y, 10 * z + ((c.toNat : Int) - 48))) := by
  unfold stepP; rw [if_neg (by omega), if_pos h]
theorem step_none {i : Nat} {c : UInt8} (x y z : Int) (h : ¬ (c.toNat = 46 ∧ i < 2)) (h2 : ¬ (48 ≤ c.toNat ∧ c.toNat ≤ 57)) : stepP (i, x, y, z) c = none := by
  unfold stepP; rw [if_neg h, if_neg h2]
theorem step_bd {st st' : Nat × Int × Int × Int} {c : UInt8} {B : Int} (h : stepP st c = some st') (hi : st.1 ≤ 2) (h1 : 0 ≤ st.2.1 ∧ st.2.1 < B) (h2 : 0 ≤ st.2.2.1 ∧ st.2.2.1 < B) (h3 : 0 ≤ st.2.2.2 ∧ st.2.2.2 < B) :
    st'.1 ≤ 2 ∧ (0 ≤ st'.2.1 ∧ st'.2.1 < 10 * B) ∧ (0 ≤ st'.2.2.1 ∧ st'.2.2.1 < 10 * B) ∧ (0 ≤ st'.2.2.2 ∧ st'.2.2.2 < 10 * B) := by
  unfold stepP at h
  split at h
  · injection h with h; subst h; refine ⟨?_, ?_, ?_, ?_⟩ <;> simp only <;> omega
  · split at h
    · injection h with h; subst h
      split
      · refine ⟨?_, ?_, ?_, ?_⟩ <;> simp only <;> omega
      · split <;> (refine ⟨?_, ?_, ?_, ?_⟩ <;> simp only <;> omega)
    · cases h
theorem parse_bd (n : Nat) : ∀ (l : List UInt8) (st : Nat × Int × Int × Int), l.length = n → parseP l = some st → st.1 ≤ 2 ∧ (0 ≤ st.2.1 ∧ st.2.1 < 10 ^ n) ∧ (0 ≤ st.2.2.1 ∧ st.2.2.1 < 10 ^ n) ∧ (0 ≤ st.2.2.2 ∧ st.2.2.2 < 10 ^ n) := by
  induction n with
  | zero => intro l st hl h; rw [List.length_eq_zero_iff] at hl; subst hl; injection h with h; subst h; simp
  | succ n ih =>
    intro l st hl h
    obtain ⟨r, c, rfl, hr⟩ := snoc_ex hl
    rw [parse_snoc] at h
    cases hp : parseP r with
    | none => rw [hp] at h; cases h
    | some st0 =>
      rw [hp] at h
      obtain ⟨h0, h1, h2, h3⟩ := ih r st0 hr hp
      have := step_bd (B := 10 ^ n) h h0 h1 h2 h3
      rw [Int.pow_succ, Int.mul_comm]
      exact this
theorem parse_more (a b : List UInt8) (h : parseP a = none) : parseP (a ++ b) = none := by
  unfold parseP at *; rw [List.foldlM_append, h]; rfl
theorem step_dg (i n : Nat) (x y z : Int) : stepP (i, x, y, z) (dg n) = some (if i = 0 then (i, 10 * x + ((n % 10 : Nat) : Int), y, z) else if i = 1 then (i, x, 10 * y + ((n % 10 : Nat) : Int), z) else (i, x, y, 10 * z + ((n % 10 : Nat) : Int))) := by
  rw [step_dig _ _ _ (by rw [dg_toNat]; omega), dg_toNat, show ((48 + n % 10 : Nat) : Int) - 48 = ((n % 10 : Nat) : Int) from by omega]
theorem parse_fmt (y m d : Nat) (h1 : y < 10000) (h2 : m < 100) (h3 : d < 100) : parseP (fmt y m d) = some (2, (y : Int), (m : Int), (d : Int)) := by
  have e : fmt y m d = [dg (y / 10 / 10 / 10), dg (y / 10 / 10), dg (y / 10), dg y, 46, dg (m / 10), dg m, 46, dg (d / 10), dg d] := rfl
  rw [e]
  unfold parseP
  simp only [List.foldlM_cons, List.foldlM_nil, step_dg, step_point _ _ _ (show 0 < 2 by omega), step_point _ _ _ (show 1 < 2 by omega), Option.bind_eq_bind, Option.bind_some, if_true, Nat.zero_add, Nat.one_ne_zero, if_false, Nat.reduceAdd, Nat.reduceEqDiff, Option.pure_def]
  congr 1
  simp only [Prod.mk.injEq, true_and]
  omega
theorem spec_date_yes {l : List UInt8} {n : Int} (h0 : 0 ≤ n) (h1 : n ≤ 1460969) (h : dateT n = l) : readD l = n := by rw [← h]; exact read_date h0 h1
theorem spec_date_no {l : List UInt8} {i : Nat} {x y z : Int} (hp : parseP l = some (i, x, y, z)) (h : dnum x y z < 0 ∨ dateT (dnum x y z) ≠ l) : readD l = -1 := by
  apply readD_bad
  intro Y M D hd e
  have f := date_fits hd
  obtain ⟨a1, a2, a3, a4, a5, a6⟩ := dnum_ok hd
  rw [e, parse_fmt _ _ _ f.1 f.2.1 f.2.2] at hp
  injection hp with hp
  simp only [Prod.mk.injEq] at hp
  obtain ⟨_, rfl, rfl, rfl⟩ := hp
  rw [Int.toNat_of_nonneg (by omega), Int.toNat_of_nonneg (by omega), Int.toNat_of_nonneg (by omega), date_of hd] at h
  rcases h with h | h
  · omega
  · exact h e.symm
theorem spec_date_none {l : List UInt8} {k : Nat} (h : parseP (l.take k) = none) : readD l = -1 := by
  apply readD_bad
  intro Y M D hd e
  have f := date_fits hd
  have hp := parse_fmt Y.toNat M.toNat D.toNat f.1 f.2.1 f.2.2
  rw [← e] at hp
  have := parse_more _ (l.drop k) h
  rw [List.take_append_drop] at this
  rw [this] at hp; cases hp

end Go.Proofs.YtldllhfadihmeaaDoor

/- Items: their texts can be read. Plain facts, no program. No condition. -/
namespace Go.Proofs.YtldllhfadihmeaaDoor

/-- An item: key, title, body, day. -/
structure It where
  key : ByteArray
  title : ByteArray
  body : ByteArray
  day : Int
def itV (i : It) : Bool := wordV i.key.data.toList && textV i.title.data.toList && !i.title.data.toList.isEmpty && textV i.body.data.toList && inB i.day 0 1460969
theorem itV_iff (i : It) : itV i = true ↔ wordV i.key.data.toList = true ∧ textV i.title.data.toList = true ∧ i.title.data.toList.isEmpty = false ∧ textV i.body.data.toList = true ∧ 0 ≤ i.day ∧ i.day ≤ 1460969 := by
  unfold itV
  simp only [Bool.and_eq_true, Bool.not_eq_true', inB_iff]
  constructor
  · rintro ⟨⟨⟨⟨a, b⟩, c⟩, d⟩, e⟩; exact ⟨a, b, c, d, e⟩
  · rintro ⟨a, b, c, d, e⟩; exact ⟨⟨⟨⟨a, b⟩, c⟩, d⟩, e⟩
theorem itV_day (n : Int) : (dateT n).isEmpty = !inB n 0 1460969 := by
  by_cases h : 0 ≤ n ∧ n ≤ 1460969
  · rw [inB_true h.1 h.2]; exact List.isEmpty_eq_false_iff.2 (date_ne h.1 h.2)
  · rw [date_none (by omega), show inB n 0 1460969 = false from inB_not.2 (by omega)]; rfl

def bs (l : List UInt8) : ByteArray := ⟨l.toArray⟩
theorem bs_list (l : List UInt8) : (bs l).data.toList = l := rfl
theorem bs_of (s : ByteArray) : bs s.data.toList = s := rfl
def kKey : ByteArray := ⟨#[107, 101, 121]⟩
def kTitle : ByteArray := ⟨#[116, 105, 116, 108, 101]⟩
def kBody : ByteArray := ⟨#[98, 111, 100, 121]⟩
def kDay : ByteArray := ⟨#[100, 97, 121]⟩
theorem k_ne : kKey ≠ kTitle ∧ kKey ≠ kBody ∧ kKey ≠ kDay ∧ kTitle ≠ kBody ∧ kTitle ≠ kDay ∧ kBody ≠ kDay := by decide
noncomputable def itEs (i : It) : List El := [(kKey, i.key), (kTitle, i.title), (kBody, i.body), (kDay, bs (dateT i.day))]
theorem okB_digit {c : UInt8} (h : digit c = true) : okB c = true := by
  rw [digit_iff] at h; exact okB_true (by omega) (by omega)
theorem fmt_ok (y m d : Nat) : (fmt y m d).all okB = true := by
  have hp : ∀ w n, (pad w n).all okB = true := fun w n => by
    have h := pad_digits w n
    rw [List.all_eq_true] at h ⊢
    exact fun x hx => okB_digit (h x hx)
  unfold fmt
  simp only [List.all_append, List.all_cons, hp, Bool.and_true, Bool.true_and]
  decide
theorem date_text (n : Int) : textV (dateT n) = true := by
  by_cases h : 0 ≤ n ∧ n ≤ 1460969
  · obtain ⟨y, m, d, rfl, hd⟩ := date_ex h.1 h.2
    rw [date_of hd]
    exact textV_mk (by rw [fmt_len]; omega) (fmt_ok _ _ _)
  · rw [date_none (by omega)]; decide
theorem word_kKey : wordV kKey.data.toList = true := by decide
theorem word_kTitle : wordV kTitle.data.toList = true := by decide
theorem word_kBody : wordV kBody.data.toList = true := by decide
theorem word_kDay : wordV kDay.data.toList = true := by decide
theorem wordV_text {l : List UInt8} (h : wordV l = true) : textV l = true := by
  obtain ⟨h1, h2, h3⟩ := wordV_all h
  refine textV_mk (by omega) ?_
  rw [List.all_eq_true] at h3 ⊢
  intro x hx
  have := h3 x hx
  rw [lodB_iff] at this
  exact okB_true (by omega) (by omega)
theorem itEs_valid {i : It} (h : itV i = true) : (itEs i).all elV = true := by
  obtain ⟨h1, h2, h3, h4, h5⟩ := (itV_iff i).1 h
  simp only [itEs, List.all_cons, List.all_nil, Bool.and_true, Bool.and_eq_true, elV_iff]
  exact ⟨⟨word_kKey, wordV_text h1⟩, ⟨word_kTitle, h2⟩, ⟨word_kBody, h4⟩, ⟨word_kDay, date_text _⟩⟩
theorem itEs_v {i : It} (h : itV i = true) : elsV (itEs i) = true := (elsV_iff _).2 ⟨by simp [itEs], itEs_valid h⟩
noncomputable def itT (i : It) : List UInt8 := if itV i = true then elsL (itEs i) else []
theorem itT_yes {i : It} (h : itV i = true) : itT i = elsL (itEs i) := by unfold itT; rw [if_pos h]
theorem itT_no {i : It} (h : itV i = false) : itT i = [] := by unfold itT; rw [h]; rfl
theorem itT_els {i : It} (h : itV i = true) : itT i = elsT (itEs i) := by rw [itT_yes h, elsT_yes (itEs_v h)]
theorem itT_len (i : It) : (itT i).length ≤ 4008 := by
  cases h : itV i
  · rw [itT_no h]; simp
  · rw [itT_els h]; exact elsT_len _

/-- How many elements have a name; the text of the first one. -/
def cntE (l : List El) (n : ByteArray) : Nat := l.countP (fun e => eqS e.1 n)
def fstE (l : List El) (n : ByteArray) : ByteArray := ((l.find? (fun e => eqS e.1 n)).map (·.2)).getD ⟨#[]⟩
noncomputable def mkI (l : List El) : It := ⟨fstE l kKey, fstE l kTitle, fstE l kBody, readD (fstE l kDay).data.toList⟩
def onceE (l : List El) : Bool := decide (cntE l kKey = 1) && decide (cntE l kTitle = 1) && decide (cntE l kDay = 1) && decide (cntE l kBody ≤ 1)
theorem onceE_iff (l : List El) : onceE l = true ↔ cntE l kKey = 1 ∧ cntE l kTitle = 1 ∧ cntE l kDay = 1 ∧ cntE l kBody ≤ 1 := by
  simp [onceE, and_assoc]
noncomputable def ofE (l : List El) : Option It := if onceE l = true ∧ itV (mkI l) = true then some (mkI l) else none
noncomputable def readI (s : List UInt8) : Option It := (readE s).bind ofE
theorem readI_none {s : List UInt8} (h : readE s = none) : readI s = none := by unfold readI; rw [h]; rfl
theorem readI_els {s : List UInt8} {l : List El} (h : readE s = some l) : readI s = ofE l := by unfold readI; rw [h]; rfl
theorem ofE_yes {l : List El} (h1 : onceE l = true) (h2 : itV (mkI l) = true) : ofE l = some (mkI l) := by unfold ofE; rw [if_pos ⟨h1, h2⟩]
theorem ofE_no {l : List El} (h : onceE l = false ∨ itV (mkI l) = false) : ofE l = none := by
  unfold ofE; rw [if_neg]; rintro ⟨h1, h2⟩
  rcases h with h | h
  · rw [h] at h1; cases h1
  · rw [h] at h2; cases h2
theorem ofE_some {l : List El} {i : It} (h : ofE l = some i) : onceE l = true ∧ itV i = true ∧ i = mkI l := by
  unfold ofE at h
  split at h
  · rename_i hx; injection h with h; subst h; exact ⟨hx.1, hx.2, rfl⟩
  · cases h
theorem readI_some {s : List UInt8} {i : It} (h : readI s = some i) : ∃ l, readE s = some l ∧ onceE l = true ∧ itV i = true ∧ i = mkI l := by
  cases hl : readE s with
  | none => rw [readI_none hl] at h; cases h
  | some l => rw [readI_els hl] at h; exact ⟨l, rfl, ofE_some h⟩
theorem readI_valid {s : List UInt8} {i : It} (h : readI s = some i) : itV i = true := by
  obtain ⟨l, _, _, h2, _⟩ := readI_some h; exact h2
theorem itEs_once (i : It) : onceE (itEs i) = true := by
  obtain ⟨a, b, c, d, e, f⟩ := k_ne
  rw [onceE_iff]
  simp only [cntE, itEs, List.countP_cons, List.countP_nil, eqS_self, eqS_ne a, eqS_ne b, eqS_ne c, eqS_ne d, eqS_ne e, eqS_ne f, eqS_ne a.symm, eqS_ne b.symm, eqS_ne c.symm, eqS_ne d.symm, eqS_ne e.symm, eqS_ne f.symm]
  decide
theorem itEs_mk {i : It} (h : itV i = true) : mkI (itEs i) = i := by
  obtain ⟨a, b, c, d, e, f⟩ := k_ne
  obtain ⟨_, _, _, _, h0, h1⟩ := (itV_iff i).1 h
  obtain ⟨k, t, o, n⟩ := i
  simp only [mkI, fstE, itEs, List.find?_cons, eqS_self, eqS_ne a, eqS_ne b, eqS_ne c, eqS_ne d, eqS_ne e, eqS_ne f, Option.map_some, Option.getD_some]
  rw [bs_list, read_date h0 h1]
theorem read_item {i : It} (h : itV i = true) : readI (itT i) = some i := by
  rw [itT_els h, readI_els (read_els (itEs_v h)), ofE_yes (itEs_once i) (by rw [itEs_mk h]; exact h), itEs_mk h]

/-- Another element before it. -/
def kOther : ByteArray := ⟨#[111, 116, 104, 101, 114]⟩
def oX : El := (kOther, ⟨#[120]⟩)
theorem oX_text : elL oX = [60, 111, 116, 104, 101, 114, 62, 120, 60, 47, 111, 116, 104, 101, 114, 62] := by decide
theorem oX_valid : elV oX = true := by decide
theorem o_ne : kOther ≠ kKey ∧ kOther ≠ kTitle ∧ kOther ≠ kBody ∧ kOther ≠ kDay := by decide
theorem read_other {i : It} (h : itV i = true) : readI (elL oX ++ itT i) = some i := by
  have hv : elsV (oX :: itEs i) = true := (elsV_iff _).2 ⟨by simp [itEs], by rw [List.all_cons, oX_valid, itEs_valid h]; rfl⟩
  have hr : readE (elL oX ++ itT i) = some (oX :: itEs i) := readE_yes hv (by rw [elsL_cons, itT_yes h])
  obtain ⟨a, b, c, d⟩ := o_ne
  have e0 : ∀ n, n ≠ kOther → fstE (oX :: itEs i) n = fstE (itEs i) n := fun n hn => by
    unfold fstE; rw [List.find?_cons]; simp [oX, eqS_ne hn.symm]
  have e1 : ∀ n, n ≠ kOther → cntE (oX :: itEs i) n = cntE (itEs i) n := fun n hn => by
    unfold cntE; rw [List.countP_cons]; simp [oX, eqS_ne hn.symm]
  have ho : onceE (oX :: itEs i) = true := by
    have := itEs_once i
    rw [onceE_iff] at this ⊢
    rw [e1 _ a.symm, e1 _ b.symm, e1 _ c.symm, e1 _ d.symm]; exact this
  have hm : mkI (oX :: itEs i) = i := by
    have := itEs_mk h
    unfold mkI at this ⊢
    rw [e0 _ a.symm, e0 _ b.symm, e0 _ c.symm, e0 _ d.symm]; exact this
  rw [readI_els hr, ofE_yes ho (by rw [hm]; exact h), hm]
/-- A second key behind it. -/
def kX : El := (kKey, ⟨#[107]⟩)
theorem kX_text : elL kX = [60, 107, 101, 121, 62, 107, 60, 47, 107, 101, 121, 62] := by decide
theorem kX_valid : elV kX = true := by decide
theorem read_second {s : List UInt8} {i : It} (h : readI s = some i) : readI (s ++ elL kX) = none := by
  obtain ⟨l, hl, ho, _, _⟩ := readI_some h
  obtain ⟨hv, hs⟩ := readE_some hl
  have ha := ((elsV_iff l).1 hv).2
  by_cases h8 : l.length < 8
  · have hr : readE (s ++ elL kX) = some (l ++ [kX]) := readE_yes ((elsV_iff _).2 ⟨by simp; omega, by rw [List.all_append, ha]; rfl⟩) (by rw [elsL_snoc, hs])
    rw [readI_els hr]
    apply ofE_no; left
    rw [← Bool.not_eq_true, onceE_iff]
    rintro ⟨h1, _⟩
    rw [onceE_iff] at ho
    have : cntE (l ++ [kX]) kKey = cntE l kKey + 1 := by unfold cntE; rw [List.countP_append, List.countP_cons, List.countP_nil, show kX.1 = kKey from rfl, eqS_self]; rfl
    omega
  · apply readI_none
    exact firstE_more ha (by rw [hs]) (elL_ne kX) (by have := ((elsV_iff l).1 hv).1; omega)
end Go.Proofs.YtldllhfadihmeaaDoor

/- Feeds. Plain facts, no program. No condition. -/
namespace Go.Proofs.YtldllhfadihmeaaDoor

/-- An item with a key is there. -/
def hasK (l : List It) (k : ByteArray) : Bool := l.any (fun i => eqS i.key k)
theorem hasK_iff (l : List It) (k : ByteArray) : hasK l k = true ↔ ∃ i ∈ l, i.key = k := by simp [hasK, eqS_iff]
theorem hasK_app (a b : List It) (k : ByteArray) : hasK (a ++ b) k = (hasK a k || hasK b k) := by simp [hasK]
def freshK : List It → Bool
  | [] => true
  | i :: l => !hasK l i.key && freshK l
def feedV (l : List It) : Bool := decide (l.length ≤ 8) && l.all itV && freshK l
theorem feedV_iff (l : List It) : feedV l = true ↔ l.length ≤ 8 ∧ l.all itV = true ∧ freshK l = true := by
  simp [feedV, and_assoc]
theorem freshK_snoc (l : List It) (i : It) : freshK (l ++ [i]) = (freshK l && !hasK l i.key) := by
  induction l with
  | nil => simp [freshK, hasK]
  | cons j l ih =>
    rw [List.cons_append, freshK, ih, freshK, hasK_app]
    have e1 : hasK [i] j.key = (eqS i.key j.key) := by simp [hasK]
    have e2 : hasK (j :: l) i.key = ((eqS j.key i.key) || hasK l i.key) := by simp [hasK]
    have e3 : (eqS i.key j.key) = (eqS j.key i.key) := eqS_comm _ _
    rw [e1, e2, e3]
    cases hasK l j.key <;> cases (eqS j.key i.key) <;> cases freshK l <;> cases hasK l i.key <;> rfl
theorem feedV_nil : feedV [] = true := rfl
theorem feedV_bad {l : List It} {k : Nat} (hk : k < l.length) (h : itV l[k] = false) : feedV l = false := by
  rw [← Bool.not_eq_true, feedV_iff, List.all_eq_true]
  rintro ⟨_, h2, _⟩
  rw [h2 _ (List.getElem_mem hk)] at h; cases h
theorem feedV_long {l : List It} (h : 8 < l.length) : feedV l = false := by
  rw [← Bool.not_eq_true, feedV_iff]; omega
theorem freshK_take {l : List It} (h : freshK l = true) (k : Nat) : freshK (l.take k) = true := by
  induction l generalizing k with
  | nil => simp [freshK]
  | cons i l ih =>
    cases k with
    | zero => rfl
    | succ k =>
      simp only [freshK, Bool.and_eq_true, Bool.not_eq_true'] at h
      simp only [List.take_succ_cons, freshK, Bool.and_eq_true, Bool.not_eq_true']
      refine ⟨?_, ih h.2 k⟩
      rw [← Bool.not_eq_true, hasK_iff]
      rintro ⟨j, hj, e⟩
      have := (hasK_iff l i.key).2 ⟨j, List.mem_of_mem_take hj, e⟩
      rw [this] at h; cases h.1
theorem take_snocI (l : List It) (k : Nat) (h : k < l.length) : l.take (k + 1) = l.take k ++ [l[k]] := by
  rw [List.take_succ_eq_append_getElem h]
theorem feedV_twice {l : List It} {k : Nat} (hk : k < l.length) (h : hasK (l.take k) l[k].key = true) : feedV l = false := by
  rw [← Bool.not_eq_true, feedV_iff]
  rintro ⟨_, _, h3⟩
  have := freshK_take h3 (k + 1)
  rw [take_snocI l k hk, freshK_snoc, h] at this
  simp at this
/-- What the rounds of FeedValid's loop keep. -/
def FvTo (l : List It) (k : Nat) : Prop := (l.take k).all itV = true ∧ freshK (l.take k) = true
theorem FvTo.zero (l : List It) : FvTo l 0 := by simp [FvTo, freshK]
theorem FvTo.next {l : List It} {k : Nat} (h : FvTo l k) (hk : k < l.length) (h1 : itV l[k] = true) (h2 : hasK (l.take k) l[k].key = false) : FvTo l (k + 1) := by
  unfold FvTo at *
  rw [take_snocI l k hk, List.all_append, freshK_snoc, h.1, h.2, h2]
  simp [h1]
theorem FvTo.done {l : List It} {k : Nat} (h : FvTo l k) (hk : l.length ≤ k) : feedV l = decide (l.length ≤ 8) := by
  unfold FvTo at h
  rw [List.take_of_length_le hk] at h
  unfold feedV; rw [h.1, h.2]; simp

/-- The place of the first item with a key. -/
def numI (l : List It) (k : ByteArray) : Int := match l.findIdx? (fun i => eqS i.key k) with | some n => n | none => -1
theorem numI_bd (l : List It) (k : ByteArray) : -1 ≤ numI l k ∧ numI l k < l.length := by
  unfold numI
  split
  · rename_i n h
    have := (List.findIdx?_eq_some_iff_getElem.1 h).1
    omega
  · omega
theorem numI_neg (l : List It) (k : ByteArray) : numI l k < 0 ↔ hasK l k = false := by
  unfold numI hasK
  split
  · rename_i n h
    obtain ⟨h1, h2, _⟩ := List.findIdx?_eq_some_iff_getElem.1 h
    constructor
    · omega
    · intro h3
      rw [List.any_eq_false] at h3
      exact absurd h2 (h3 _ (List.getElem_mem h1))
  · rename_i h
    rw [List.findIdx?_eq_none_iff] at h
    constructor
    · intro _
      rw [List.any_eq_false]
      intro x hx; rw [h x hx]; simp
    · omega
theorem numI_here {l : List It} {k : ByteArray} {n : Nat} (hn : n < l.length) (h : l[n].key = k) (hb : hasK (l.take n) k = false) : numI l k = n := by
  unfold numI
  have : l.findIdx? (fun i => eqS i.key k) = some n := by
    rw [List.findIdx?_eq_some_iff_getElem]
    refine ⟨hn, (eqS_iff _ _).2 h, fun j hj => ?_⟩
    have hm : l[j] ∈ l.take n := by
      rw [List.mem_take_iff_getElem]; exact ⟨j, by omega, rfl⟩
    unfold hasK at hb
    rw [List.any_eq_false] at hb
    simpa using hb _ hm
  rw [this]
theorem numI_at {l : List It} {k : ByteArray} {n : Nat} (h : numI l k = n) : ∃ hn : n < l.length, l.find? (fun i => eqS i.key k) = some l[n] ∧ l[n].key = k := by
  unfold numI at h
  split at h
  · rename_i m hm
    obtain rfl : m = n := by omega
    have h2 := List.findIdx?_eq_some_iff_getElem.1 hm
    obtain ⟨h1, h3, h4⟩ := h2
    refine ⟨h1, ?_, (eqS_iff _ _).1 h3⟩
    rw [List.find?_eq_some_iff_getElem]
    exact ⟨h3, m, h1, rfl, fun j hj => by simpa using h4 j hj⟩
  · omega
/-- The item of a valid feed with a key. -/
def withI (l : List It) (k : ByteArray) : Option It := if feedV l = true then l.find? (fun i => eqS i.key k) else none
theorem withI_bad {l : List It} (k : ByteArray) (h : feedV l = false) : withI l k = none := by unfold withI; rw [h]; rfl
theorem withI_none {l : List It} {k : ByteArray} (h : hasK l k = false) : withI l k = none := by
  unfold withI
  split
  · rw [List.find?_eq_none]
    intro x hx
    unfold hasK at h
    rw [List.any_eq_false] at h
    exact h x hx
  · rfl
theorem withI_num {l : List It} {k : ByteArray} {n : Nat} (hv : feedV l = true) (h : numI l k = n) : ∃ hn : n < l.length, withI l k = some l[n] := by
  obtain ⟨hn, h2, _⟩ := numI_at h
  exact ⟨hn, by unfold withI; rw [if_pos hv, h2]⟩
theorem withI_here {l : List It} {k : ByteArray} {n : Nat} (hv : feedV l = true) (hn : n < l.length) (h : l[n].key = k) (hb : hasK (l.take n) k = false) : withI l k = some l[n] := by
  obtain ⟨_, h2⟩ := withI_num hv (numI_here hn h hb)
  exact h2
theorem withI_key {l : List It} {k : ByteArray} {i : It} (h : withI l k = some i) : i ∈ l ∧ i.key = k ∧ feedV l = true := by
  unfold withI at h
  split at h
  · rename_i hv
    exact ⟨List.mem_of_find?_eq_some h, (eqS_iff _ _).1 (List.find?_some (p := fun i : It => eqS i.key k) h), hv⟩
  · cases h
end Go.Proofs.YtldllhfadihmeaaDoor

/- What NewItems, ChangedItems and GoneKeys compute. Plain facts, no program. No condition. -/
namespace Go.Proofs.YtldllhfadihmeaaDoor

/-- The items of two valid feeds that a test keeps. -/
def selI (p : List It → It → Bool) (a b : List It) : List It := if feedV a = true ∧ feedV b = true then b.filter (p a) else []
theorem selI_bad {p : List It → It → Bool} {a b : List It} (h : feedV a = false ∨ feedV b = false) : selI p a b = [] := by
  unfold selI
  rw [if_neg]
  rintro ⟨h1, h2⟩
  rcases h with h | h
  · rw [h] at h1; cases h1
  · rw [h] at h2; cases h2
theorem selI_ok {p : List It → It → Bool} {a b : List It} (h1 : feedV a = true) (h2 : feedV b = true) : selI p a b = b.filter (p a) := by unfold selI; rw [if_pos ⟨h1, h2⟩]
theorem selI_len (p : List It → It → Bool) (a b : List It) : (selI p a b).length ≤ 8 := by
  unfold selI
  split
  · rename_i h
    have := ((feedV_iff b).1 h.2).1
    exact Nat.le_trans (List.length_filter_le _ _) this
  · simp
/-- What a round keeps. -/
def SelTo (q : It → Bool) (b : List It) (k : Nat) (l : List It) : Prop := l = (b.take k).filter q
theorem SelTo.zero (q : It → Bool) (b : List It) : SelTo q b 0 [] := by simp [SelTo]
theorem SelTo.yes {q : It → Bool} {b l : List It} {k : Nat} (h : SelTo q b k l) (hk : k < b.length) (hq : q b[k] = true) : SelTo q b (k + 1) (l ++ [b[k]]) := by
  unfold SelTo at *
  rw [take_snocI b k hk, List.filter_append, ← h]; simp [hq]
theorem SelTo.no {q : It → Bool} {b l : List It} {k : Nat} (h : SelTo q b k l) (hk : k < b.length) (hq : q b[k] = false) : SelTo q b (k + 1) l := by
  unfold SelTo at *
  rw [take_snocI b k hk, List.filter_append, ← h]; simp [hq]
theorem SelTo.done {q : It → Bool} {b l : List It} {k : Nat} (h : SelTo q b k l) (hk : b.length ≤ k) : l = b.filter q := by
  unfold SelTo at h
  rwa [List.take_of_length_le hk] at h
theorem SelTo.len {q : It → Bool} {b l : List It} {k : Nat} (h : SelTo q b k l) : l.length ≤ k := by
  rw [show l = _ from h]
  exact Nat.le_trans (List.length_filter_le _ _) (by rw [List.length_take]; omega)
def newP (a : List It) (i : It) : Bool := !hasK a i.key
def newI : List It → List It → List It := selI newP
end Go.Proofs.YtldllhfadihmeaaDoor

/- What ReadFeed and FeedLines compute. Plain facts, no program. No condition. -/
namespace Go.Proofs.YtldllhfadihmeaaDoor

/-- Reading lines on, from a feed and a count of bad lines; none if there would be too many items. -/
noncomputable def rdF : List It → Nat → List ByteArray → Option (List It × Nat)
  | out, bad, [] => some (out, bad)
  | out, bad, s :: ss => match readI s.data.toList with
    | none => rdF out (bad + 1) ss
    | some i => if hasK out i.key = true then rdF out bad ss else if out.length = 8 then none else rdF (out ++ [i]) bad ss
theorem rdF_bad {out : List It} {bad : Nat} {s : ByteArray} {ss : List ByteArray} (h : readI s.data.toList = none) : rdF out bad (s :: ss) = rdF out (bad + 1) ss := by
  rw [rdF, h]
theorem rdF_has {out : List It} {bad : Nat} {s : ByteArray} {ss : List ByteArray} {i : It} (h : readI s.data.toList = some i) (hk : hasK out i.key = true) : rdF out bad (s :: ss) = rdF out bad ss := by
  rw [rdF, h]
  exact if_pos hk
theorem rdF_full {out : List It} {bad : Nat} {s : ByteArray} {ss : List ByteArray} {i : It} (h : readI s.data.toList = some i) (hk : hasK out i.key = false) (hl : out.length = 8) : rdF out bad (s :: ss) = none := by
  rw [rdF, h]
  simp only [hk, Bool.false_eq_true, if_false, hl, if_true]
theorem rdF_new {out : List It} {bad : Nat} {s : ByteArray} {ss : List ByteArray} {i : It} (h : readI s.data.toList = some i) (hk : hasK out i.key = false) (hl : out.length ≠ 8) : rdF out bad (s :: ss) = rdF (out ++ [i]) bad ss := by
  rw [rdF, h]
  simp only [hk, Bool.false_eq_true, if_false, hl]
theorem feedV_snoc {out : List It} {i : It} (h : feedV out = true) (hi : itV i = true) : feedV (out ++ [i]) = (decide (out.length < 8) && !hasK out i.key) := by
  obtain ⟨h1, h2, h3⟩ := (feedV_iff out).1 h
  unfold feedV
  rw [freshK_snoc, h3, List.all_append, h2, List.length_append]
  have e : decide (out.length + [i].length ≤ 8) = decide (out.length < 8) := by
    rw [Bool.eq_iff_iff, decide_eq_true_iff, decide_eq_true_iff, List.length_singleton]; omega
  rw [e]
  simp [hi]
theorem feedV_snoc_new {out : List It} {i : It} (h : feedV out = true) (hi : itV i = true) (hk : hasK out i.key = false) (hl : out.length < 8) : feedV (out ++ [i]) = true := by
  rw [feedV_snoc h hi, hk]; simp [hl]
/-- What a round of reading keeps. -/
def RfTo (L : List ByteArray) (k : Nat) (out : List It) (bad : Nat) : Prop := rdF [] 0 L = rdF out bad (L.drop k) ∧ feedV out = true ∧ bad ≤ k
theorem RfTo.zero (L : List ByteArray) : RfTo L 0 [] 0 := ⟨rfl, rfl, Nat.le_refl _⟩
theorem drop_next {L : List ByteArray} {k : Nat} (hk : k < L.length) : L.drop k = L[k] :: L.drop (k + 1) := List.drop_eq_getElem_cons hk
theorem RfTo.bad {L : List ByteArray} {k : Nat} {out : List It} {b : Nat} (h : RfTo L k out b) (hk : k < L.length) (hr : readI L[k].data.toList = none) : RfTo L (k + 1) out (b + 1) :=
  ⟨by rw [h.1, drop_next hk, rdF_bad hr], h.2.1, by have := h.2.2; omega⟩
theorem RfTo.has {L : List ByteArray} {k : Nat} {out : List It} {b : Nat} (h : RfTo L k out b) (hk : k < L.length) {i : It} (hr : readI L[k].data.toList = some i) (hh : hasK out i.key = true) : RfTo L (k + 1) out b :=
  ⟨by rw [h.1, drop_next hk, rdF_has hr hh], h.2.1, by have := h.2.2; omega⟩
theorem RfTo.new {L : List ByteArray} {k : Nat} {out : List It} {b : Nat} (h : RfTo L k out b) (hk : k < L.length) {i : It} (hr : readI L[k].data.toList = some i) (hh : hasK out i.key = false) (hl : out.length ≠ 8) : RfTo L (k + 1) (out ++ [i]) b := by
  have h8 := ((feedV_iff out).1 h.2.1).1
  exact ⟨by rw [h.1, drop_next hk, rdF_new hr hh hl], feedV_snoc_new h.2.1 (readI_valid hr) hh (by omega), by have := h.2.2; omega⟩
theorem RfTo.full {L : List ByteArray} {k : Nat} {out : List It} {b : Nat} (h : RfTo L k out b) (hk : k < L.length) {i : It} (hr : readI L[k].data.toList = some i) (hh : hasK out i.key = false) (hl : out.length = 8) : rdF [] 0 L = none := by
  rw [h.1, drop_next hk, rdF_full hr hh hl]
theorem RfTo.done {L : List ByteArray} {k : Nat} {out : List It} {b : Nat} (h : RfTo L k out b) (hk : L.length ≤ k) : rdF [] 0 L = some (out, b) := by
  rw [h.1, List.drop_of_length_le hk]; rfl
theorem RfTo.len {L : List ByteArray} {k : Nat} {out : List It} {b : Nat} (h : RfTo L k out b) : out.length ≤ 8 := ((feedV_iff out).1 h.2.1).1
/-- How many lines are none. -/
noncomputable def badN (L : List ByteArray) : Nat := L.countP (fun s => (readI s.data.toList).isNone)
theorem rdF_run : ∀ (L : List ByteArray) (out : List It) (bad : Nat) (x : List It) (b : Nat), rdF out bad L = some (x, b) → feedV out = true →
    feedV x = true ∧ b = bad + badN L ∧ (∀ k, hasK out k = true → hasK x k = true) ∧ ∀ s ∈ L, ∀ i, readI s.data.toList = some i → hasK x i.key = true
  | [], out, bad, x, b, h, hv => by
    rw [rdF] at h
    injection h with h
    injection h with h1 h2
    subst h1; subst h2
    exact ⟨hv, by simp [badN], fun _ h => h, fun s hs => by simp at hs⟩
  | s :: ss, out, bad, x, b, h, hv => by
    cases hr : readI s.data.toList with
    | none =>
      rw [rdF_bad hr] at h
      obtain ⟨h1, h2, h3, h4⟩ := rdF_run ss _ _ _ _ h hv
      refine ⟨h1, ?_, h3, ?_⟩
      · rw [h2]; simp [badN, hr]; omega
      · intro t ht i hi
        rcases List.mem_cons.1 ht with rfl | ht
        · rw [hr] at hi; cases hi
        · exact h4 t ht i hi
    | some i =>
      have hc : badN (s :: ss) = badN ss := by simp [badN, hr]
      cases hk : hasK out i.key
      · by_cases hl : out.length = 8
        · rw [rdF_full hr hk hl] at h; cases h
        · rw [rdF_new hr hk hl] at h
          have h8 := ((feedV_iff out).1 hv).1
          obtain ⟨h1, h2, h3, h4⟩ := rdF_run ss _ _ _ _ h (feedV_snoc_new hv (readI_valid hr) hk (by omega))
          refine ⟨h1, by rw [h2, hc], fun k hk' => h3 k (by rw [hasK_app, hk']; rfl), ?_⟩
          intro t ht j hj
          rcases List.mem_cons.1 ht with rfl | ht
          · rw [hr] at hj; injection hj with hj; subst hj
            exact h3 _ (by rw [hasK_app]; simp [hasK, eqS_iff])
          · exact h4 t ht j hj
      · rw [rdF_has hr hk] at h
        obtain ⟨h1, h2, h3, h4⟩ := rdF_run ss _ _ _ _ h hv
        refine ⟨h1, by rw [h2, hc], h3, ?_⟩
        intro t ht j hj
        rcases List.mem_cons.1 ht with rfl | ht
        · rw [hr] at hj; injection hj with hj; subst hj
          exact h3 _ hk
        · exact h4 t ht j hj
theorem rdF_again : ∀ (L : List ByteArray) (x : List It) (b : Nat), (∀ s ∈ L, ∀ i, readI s.data.toList = some i → hasK x i.key = true) → rdF x b L = some (x, b + badN L)
  | [], x, b, _ => by rw [rdF]; simp [badN]
  | s :: ss, x, b, h => by
    have ht := fun t (ht : t ∈ ss) => h t (List.mem_cons_of_mem _ ht)
    cases hr : readI s.data.toList with
    | none =>
      rw [rdF_bad hr, rdF_again ss x (b + 1) ht]
      simp [badN, hr]; omega
    | some i =>
      rw [rdF_has hr (h s (List.mem_cons_self ..) i hr), rdF_again ss x b ht]
      simp [badN, hr]
theorem rdF_app : ∀ (a b : List ByteArray) (out : List It) (n : Nat), rdF out n (a ++ b) = (rdF out n a).bind fun p => rdF p.1 p.2 b
  | [], b, out, n => by rw [rdF]; rfl
  | s :: ss, b, out, n => by
    rw [List.cons_append]
    cases hr : readI s.data.toList with
    | none => rw [rdF_bad hr, rdF_bad hr, rdF_app]
    | some i =>
      cases hk : hasK out i.key
      · by_cases hl : out.length = 8
        · rw [rdF_full hr hk hl, rdF_full hr hk hl]; rfl
        · rw [rdF_new hr hk hl, rdF_new hr hk hl, rdF_app]
      · rw [rdF_has hr hk, rdF_has hr hk, rdF_app]
/-- Reading the lines twice. -/
theorem rdF_twice {L : List ByteArray} {x : List It} {b : Nat} (h : rdF [] 0 L = some (x, b)) : rdF [] 0 (L ++ L) = some (x, 2 * b) ∧ feedV x = true ∧ b ≤ L.length := by
  obtain ⟨h1, h2, h3, h4⟩ := rdF_run L [] 0 x b h rfl
  rw [rdF_app, h]
  refine ⟨?_, h1, ?_⟩
  · show rdF x b L = _
    rw [rdF_again L x b h4, h2]
    congr 2; omega
  · rw [h2, Nat.zero_add]; exact List.countP_le_length
/-- The lines of a feed. -/
noncomputable def linesF (l : List It) : List ByteArray := if feedV l = true then l.map (fun i => bs (itT i)) else []
theorem linesF_bad {l : List It} (h : feedV l = false) : linesF l = [] := by unfold linesF; rw [h]; rfl
theorem linesF_ok {l : List It} (h : feedV l = true) : linesF l = l.map (fun i => bs (itT i)) := by unfold linesF; rw [if_pos h]
theorem linesF_len (l : List It) : (linesF l).length ≤ 8 := by
  unfold linesF
  split
  · rename_i h
    rw [List.length_map]; exact ((feedV_iff l).1 h).1
  · simp
theorem hasK_lt {l : List It} (h : freshK l = true) : ∀ {k : Nat} (hk : k < l.length), hasK (l.take k) l[k].key = false := by
  intro k hk
  have := freshK_take h (k + 1)
  rw [take_snocI l k hk, freshK_snoc, Bool.and_eq_true] at this
  simpa using this.2
theorem rd_lines {l : List It} (h : feedV l = true) : ∀ k, k ≤ l.length → rdF [] 0 ((l.take k).map (fun i => bs (itT i))) = some (l.take k, 0)
  | 0, _ => by rw [List.take_zero]; rfl
  | k + 1, hk => by
    obtain ⟨h1, h2, h3⟩ := (feedV_iff l).1 h
    have hi : itV l[k] = true := List.all_eq_true.1 h2 _ (List.getElem_mem (by omega))
    rw [take_snocI l k (by omega), List.map_append, rdF_app, rd_lines h k (by omega)]
    show rdF (l.take k) 0 [bs (itT l[k])] = _
    rw [rdF_new (i := l[k]) (by rw [bs_list]; exact read_item hi) (hasK_lt h3 (by omega)) (by rw [List.length_take]; omega)]
    rfl
/-- The lines of a feed, read. -/
theorem rdF_lines {l : List It} (h : feedV l = true) : rdF [] 0 (linesF l) = some (l, 0) := by
  have := rd_lines h l.length (Nat.le_refl _)
  rw [List.take_length] at this
  rw [linesF_ok h, this]
/-- What a round of FeedLines keeps. -/
def LnTo (l : List It) (k : Nat) (q : List ByteArray) : Prop := q = (l.take k).map (fun i => bs (itT i))
theorem LnTo.zero (l : List It) : LnTo l 0 [] := by simp [LnTo]
theorem LnTo.next {l : List It} {k : Nat} {q : List ByteArray} (h : LnTo l k q) (hk : k < l.length) : LnTo l (k + 1) (q ++ [bs (itT l[k])]) := by
  unfold LnTo at *
  rw [take_snocI l k hk, List.map_append, ← h]; rfl
theorem LnTo.done {l : List It} {k : Nat} {q : List ByteArray} (h : LnTo l k q) (hk : l.length ≤ k) : q = l.map (fun i => bs (itT i)) := by
  unfold LnTo at h
  rwa [List.take_of_length_le hk] at h
end Go.Proofs.YtldllhfadihmeaaDoor
