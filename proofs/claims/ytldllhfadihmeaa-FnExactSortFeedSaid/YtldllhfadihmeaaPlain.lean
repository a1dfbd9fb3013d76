/- Plain facts on bytes, texts and words: no program is named here. No condition. -/
namespace Go.Proofs.Ytldllhfadihmeaa

theorem take_snoc (s : ByteArray) (k : Nat) (h : k < s.size) : s.data.toList.take (k + 1) = s.data.toList.take k ++ [s[k]] := by
  rw [List.take_succ_eq_append_getElem (by rw [Array.length_toList]; exact h)]; rfl
theorem size_toList (s : ByteArray) : s.data.toList.length = s.size := by rw [Array.length_toList]; rfl
theorem mem_at (s : ByteArray) (k : Nat) (h : k < s.size) : s[k] ∈ s.data.toList := by
  rw [List.mem_iff_getElem]; exact ⟨k, by rw [size_toList]; exact h, rfl⟩
theorem head_at (s : ByteArray) (h : 0 < s.size) : s.data.toList.head? = some s[0] := by
  rw [List.head?_eq_getElem?, List.getElem?_eq_getElem (by rw [size_toList]; exact h)]; rfl

/-- The first k bytes have the property p. -/
def AllTo (p : UInt8 → Bool) (s : ByteArray) (k : Nat) : Prop := (s.data.toList.take k).all p = true
theorem AllTo.zero (p : UInt8 → Bool) (s : ByteArray) : AllTo p s 0 := by simp [AllTo]
theorem AllTo.next {p : UInt8 → Bool} {s : ByteArray} {k : Nat} (h : AllTo p s k) (hk : k < s.size) (h1 : p s[k] = true) : AllTo p s (k + 1) := by
  unfold AllTo at *
  rw [take_snoc s k hk, List.all_append, h]
  simpa using h1
theorem AllTo.done {p : UInt8 → Bool} {s : ByteArray} {k : Nat} (h : AllTo p s k) (hk : s.size ≤ k) : s.data.toList.all p = true := by
  unfold AllTo at h
  rwa [List.take_of_length_le (by rw [size_toList]; exact hk)] at h
theorem all_bad {p : UInt8 → Bool} {s : ByteArray} {k : Nat} (hk : k < s.size) (h : p s[k] = false) : s.data.toList.all p = false := by
  rw [List.all_eq_false]
  exact ⟨s[k], mem_at s k hk, by rw [h]; simp⟩

/-- A byte of a text; a text. -/
def okB (c : UInt8) : Bool := decide (32 ≤ c.toNat) && decide (c.toNat ≤ 126)
def textV (l : List UInt8) : Bool := decide (l.length ≤ 80) && l.all okB
theorem okB_true {c : UInt8} (h1 : ¬ (c.toNat : Int) < 32) (h2 : ¬ (126 : Int) < (c.toNat : Int)) : okB c = true := by
  simp only [okB, Bool.and_eq_true, decide_eq_true_eq]; omega
theorem okB_false {c : UInt8} (h : (c.toNat : Int) < 32 ∨ (126 : Int) < (c.toNat : Int)) : okB c = false := by
  rw [← Bool.not_eq_true]; simp only [okB, Bool.and_eq_true, decide_eq_true_eq]; omega
theorem textV_bad {s : ByteArray} {k : Nat} (hk : k < s.size) (h : (s[k].toNat : Int) < 32 ∨ (126 : Int) < (s[k].toNat : Int)) : textV s.data.toList = false := by
  unfold textV; rw [all_bad hk (okB_false h), Bool.and_false]
theorem textV_long {s : ByteArray} (h : 80 < s.size) : textV s.data.toList = false := by
  unfold textV; rw [size_toList, decide_eq_false (by omega)]; rfl
theorem textV_done {s : ByteArray} {k : Nat} (h : AllTo okB s k) (hk : s.size ≤ k) : textV s.data.toList = decide (s.size ≤ 80) := by
  unfold textV; rw [h.done hk, size_toList, Bool.and_true]

/-- A small letter; a small letter or a digit; a word. -/
def lowB (c : UInt8) : Bool := decide (97 ≤ c.toNat) && decide (c.toNat ≤ 122)
def lodB (c : UInt8) : Bool := lowB c || (decide (48 ≤ c.toNat) && decide (c.toNat ≤ 57))
def wordV (l : List UInt8) : Bool := decide (1 ≤ l.length) && decide (l.length ≤ 8) && l.all lodB && l.head?.all lowB
theorem lowB_iff (c : UInt8) : lowB c = true ↔ 97 ≤ (c.toNat : Int) ∧ (c.toNat : Int) ≤ 122 := by
  simp only [lowB, Bool.and_eq_true, decide_eq_true_eq]; omega
theorem lodB_iff (c : UInt8) : lodB c = true ↔ (97 ≤ (c.toNat : Int) ∧ (c.toNat : Int) ≤ 122) ∨ (48 ≤ (c.toNat : Int) ∧ (c.toNat : Int) ≤ 57) := by
  simp only [lodB, Bool.or_eq_true, lowB_iff, Bool.and_eq_true, decide_eq_true_eq]; omega
theorem lodB_true {c : UInt8} (h : (97 ≤ (c.toNat : Int) ∧ (c.toNat : Int) ≤ 122) ∨ (48 ≤ (c.toNat : Int) ∧ (c.toNat : Int) ≤ 57)) : lodB c = true := (lodB_iff c).2 h
theorem lodB_false {c : UInt8} (h : ¬ ((97 ≤ (c.toNat : Int) ∧ (c.toNat : Int) ≤ 122) ∨ (48 ≤ (c.toNat : Int) ∧ (c.toNat : Int) ≤ 57))) : lodB c = false := by
  rw [← Bool.not_eq_true, lodB_iff]; exact h
theorem lowB_true {c : UInt8} (h : 97 ≤ (c.toNat : Int) ∧ (c.toNat : Int) ≤ 122) : lowB c = true := (lowB_iff c).2 h
theorem lowB_false {c : UInt8} (h : ¬ (97 ≤ (c.toNat : Int) ∧ (c.toNat : Int) ≤ 122)) : lowB c = false := by
  rw [← Bool.not_eq_true, lowB_iff]; exact h
theorem wordV_size {s : ByteArray} (h : s.size < 1 ∨ 8 < s.size) : wordV s.data.toList = false := by
  rw [← Bool.not_eq_true]; simp only [wordV, Bool.and_eq_true, decide_eq_true_eq, size_toList]; omega
theorem wordV_head {s : ByteArray} (h0 : 0 < s.size) (h : ¬ (97 ≤ (s[0].toNat : Int) ∧ (s[0].toNat : Int) ≤ 122)) : wordV s.data.toList = false := by
  unfold wordV; rw [head_at s h0, Option.all_some, lowB_false h, Bool.and_false]
theorem wordV_bad {s : ByteArray} {k : Nat} (hk : k < s.size) (h : ¬ ((97 ≤ (s[k].toNat : Int) ∧ (s[k].toNat : Int) ≤ 122) ∨ (48 ≤ (s[k].toNat : Int) ∧ (s[k].toNat : Int) ≤ 57))) : wordV s.data.toList = false := by
  unfold wordV; rw [all_bad hk (lodB_false h), Bool.and_false, Bool.false_and]
theorem wordV_done {s : ByteArray} {k : Nat} (h : AllTo lodB s k) (hk : s.size ≤ k) (h0 : 0 < s.size) (hl : 97 ≤ (s[0].toNat : Int) ∧ (s[0].toNat : Int) ≤ 122) : wordV s.data.toList = decide (s.size ≤ 8) := by
  unfold wordV; rw [h.done hk, head_at s h0, Option.all_some, lowB_true hl, size_toList, decide_eq_true (by omega)]; simp

/-- The value of a digit of marks. -/
def digV (c : Int) : Int := if 48 ≤ c ∧ c ≤ 57 then c - 48 else if 97 ≤ c ∧ c ≤ 122 then c - 87 else -1
theorem digV_num {c : Int} (h1 : 48 ≤ c) (h2 : c ≤ 57) : digV c = c - 48 := by unfold digV; rw [if_pos ⟨h1, h2⟩]
theorem digV_low {c : Int} (h1 : 97 ≤ c) (h2 : c ≤ 122) : digV c = c - 87 := by unfold digV; rw [if_neg (by omega), if_pos ⟨h1, h2⟩]
theorem digV_none {c : Int} (h : ¬ ((97 ≤ c ∧ c ≤ 122) ∨ (48 ≤ c ∧ c ≤ 57))) : digV c = -1 := by unfold digV; rw [if_neg (by omega), if_neg (by omega)]
theorem digV_neg (c : Int) : digV c < 0 ↔ ¬ ((97 ≤ c ∧ c ≤ 122) ∨ (48 ≤ c ∧ c ≤ 57)) := by unfold digV; (repeat' split) <;> omega
theorem digV_pos {c : Int} (h : 0 ≤ digV c) : (97 ≤ c ∧ c ≤ 122) ∨ (48 ≤ c ∧ c ≤ 57) := by
  apply Classical.byContradiction; intro hn; have := (digV_neg c).2 hn; omega
theorem digV_bd (c : Int) : -1 ≤ digV c ∧ digV c ≤ 35 := by unfold digV; (repeat' split) <;> omega

/-- n lies in lo..hi. -/
def inB (n lo hi : Int) : Bool := decide (lo ≤ n) && decide (n ≤ hi)
theorem inB_true {n lo hi : Int} (h1 : lo ≤ n) (h2 : n ≤ hi) : inB n lo hi = true := by simp [inB, h1, h2]
theorem inB_low {n lo hi : Int} (h : n < lo) : inB n lo hi = false := by unfold inB; rw [decide_eq_false (by omega), Bool.false_and]
theorem inB_high {n lo hi : Int} (h : hi < n) : inB n lo hi = false := by unfold inB; rw [decide_eq_false (p := n ≤ hi) (by omega), Bool.and_false]
theorem inB_iff {n lo hi : Int} : inB n lo hi = true ↔ lo ≤ n ∧ n ≤ hi := by simp [inB]
theorem inB_not {n lo hi : Int} : inB n lo hi = false ↔ n < lo ∨ hi < n := by
  rw [← Bool.not_eq_true, inB_iff]; omega

end Go.Proofs.Ytldllhfadihmeaa
