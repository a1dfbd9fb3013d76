/- Marks: numbers in the base 36 and back. Plain facts, no program. No condition. -/
import Derived.Test.YtjddopgbfgeebaaPlain
namespace Go.Proofs.Ytjddopgbfgeebaa

theorem head_app {α : Type} {a : List α} (b : List α) (h : a ≠ []) : (a ++ b).head? = a.head? := by
  cases a with
  | nil => exact absurd rfl h
  | cons x r => rfl

def mdig (n : Nat) : UInt8 := UInt8.ofNat (if n < 10 then 48 + n else 87 + n)
def digB (c : UInt8) : Bool := decide (0 ≤ digV (c.toNat : Int))
theorem mdig_all : ∀ r : Fin 36, digV ((mdig r.val).toNat : Int) = (r.val : Int) ∧ ((mdig r.val = 48) ↔ r.val = 0) := by decide
theorem digV_mdig {r : Nat} (h : r < 36) : digV ((mdig r).toNat : Int) = (r : Int) := (mdig_all ⟨r, h⟩).1
theorem mdig_zero {r : Nat} (h : r < 36) : mdig r = 48 ↔ r = 0 := (mdig_all ⟨r, h⟩).2
theorem mdig_dig_all : ∀ c : Fin 256, 0 ≤ digV (c.val : Int) → mdig (digV (c.val : Int)).toNat = UInt8.ofNat c.val := by decide +kernel
theorem mdig_digV {c : UInt8} (h : 0 ≤ digV (c.toNat : Int)) : mdig (digV (c.toNat : Int)).toNat = c := by
  have := mdig_dig_all ⟨c.toNat, c.toNat_lt⟩ h
  rw [this]; exact UInt8.ofNat_toNat

def mk : Nat → Nat → List UInt8
  | 0, _ => []
  | f + 1, n => if n < 36 then [mdig n] else mk f (n / 36) ++ [mdig (n % 36)]
def markT (n : Int) : List UInt8 := if 0 ≤ n ∧ n ≤ 1000000000 then mk 7 n.toNat else []
/-- The digits ahead of the last one. -/
def hiD (f n : Nat) : List UInt8 := if n < 36 then [] else mk f (n / 36)
theorem mk_hi (f n : Nat) : mk (f + 1) n = hiD f n ++ [mdig (n % 36)] := by
  unfold hiD; rw [mk]; split
  · rename_i h; rw [Nat.mod_eq_of_lt h]; rfl
  · rfl
theorem mk_digs (f : Nat) : ∀ n, (mk f n).all digB = true := by
  induction f with
  | zero => intro n; rfl
  | succ f ih =>
    intro n
    rw [mk_hi, List.all_append]
    have h1 : (hiD f n).all digB = true := by unfold hiD; split; · rfl
                                              · exact ih _
    rw [h1, Bool.true_and, List.all_cons, List.all_nil, Bool.and_true]
    unfold digB
    rw [digV_mdig (Nat.mod_lt _ (by omega))]
    exact decide_eq_true (by omega)
theorem mk_len (f : Nat) : ∀ n, (mk f n).length ≤ f := by
  induction f with
  | zero => intro n; simp [mk]
  | succ f ih =>
    intro n
    rw [mk]; split
    · simp
    · simp only [List.length_append, List.length_cons, List.length_nil]; have := ih (n / 36); omega
theorem mk_fuel (f : Nat) : ∀ g n, n < 36 ^ f → f ≤ g → 0 < f → mk g n = mk f n := by
  induction f with
  | zero => intro g n _ _ h; omega
  | succ f ih =>
    intro g n hn hg _
    obtain ⟨g, rfl⟩ : ∃ g', g = g' + 1 := ⟨g - 1, by omega⟩
    rw [mk, mk]
    split
    · rfl
    · rename_i h
      have hn' : n / 36 < 36 ^ f := by rw [Nat.pow_succ] at hn; exact Nat.div_lt_of_lt_mul (by omega)
      rcases Nat.eq_zero_or_pos f with rfl | hf
      · simp at hn'; omega
      · rw [ih g (n / 36) hn' (by omega) hf]
def mval (l : List UInt8) : Int := l.foldl (fun n c => 36 * n + digV (c.toNat : Int)) 0
theorem mval_nil : mval [] = 0 := rfl
theorem mval_snoc (l : List UInt8) (c : UInt8) : mval (l ++ [c]) = 36 * mval l + digV (c.toNat : Int) := by
  unfold mval; rw [List.foldl_append]; rfl
theorem mval_mk (f : Nat) : ∀ n, n < 36 ^ f → 0 < f → mval (mk f n) = (n : Int) := by
  induction f with
  | zero => intro n _ h; omega
  | succ f ih =>
    intro n hn _
    rw [mk_hi, mval_snoc, digV_mdig (Nat.mod_lt _ (by omega))]
    unfold hiD
    split
    · rename_i h; rw [mval_nil]; omega
    · rename_i h
      have hn' : n / 36 < 36 ^ f := by rw [Nat.pow_succ] at hn; exact Nat.div_lt_of_lt_mul (by omega)
      rcases Nat.eq_zero_or_pos f with rfl | hf
      · simp at hn'; omega
      · rw [ih _ hn' hf]; omega
theorem mk_ne (f n : Nat) (h : 0 < f) : mk f n ≠ [] := by
  obtain ⟨f, rfl⟩ : ∃ g, f = g + 1 := ⟨f - 1, by omega⟩
  rw [mk_hi]; simp
theorem mk_head (f : Nat) : ∀ n, 0 < n → n < 36 ^ f → 0 < f → (mk f n).head? ≠ some 48 := by
  induction f with
  | zero => intro n _ _ h; omega
  | succ f ih =>
    intro n h0 hn _
    rw [mk]; split
    · rename_i h; simp only [List.head?_cons, ne_eq, Option.some.injEq]; rw [mdig_zero h]; omega
    · rename_i h
      have hn' : n / 36 < 36 ^ f := by rw [Nat.pow_succ] at hn; exact Nat.div_lt_of_lt_mul (by omega)
      rcases Nat.eq_zero_or_pos f with rfl | hf
      · simp at hn'; omega
      · rw [head_app _ (mk_ne f _ hf)]
        exact ih _ (by omega) hn' hf
theorem mval_bd (l : List UInt8) (h : l.all digB = true) : 0 ≤ mval l ∧ mval l < 36 ^ l.length := by
  generalize hn : l.length = n
  induction n generalizing l with
  | zero => rw [List.length_eq_zero_iff] at hn; subst hn; simp [mval_nil]
  | succ n ih =>
    obtain ⟨r, c, rfl⟩ : ∃ r c, l = r ++ [c] := ⟨l.dropLast, l.getLast (by intro e; simp [e] at hn), (List.dropLast_concat_getLast _).symm⟩
    rw [List.all_append, Bool.and_eq_true] at h
    obtain ⟨hr, hc⟩ := h
    have hl : r.length = n := by simp at hn; exact hn
    have hd : 0 ≤ digV (c.toNat : Int) := by simpa [digB] using hc
    have := ih r hr hl
    have hb := digV_bd (c.toNat : Int)
    rw [mval_snoc, Int.pow_succ]
    omega
theorem mval_bd7 {l : List UInt8} (h : l.all digB = true) (hl : l.length ≤ 7) : 0 ≤ mval l ∧ mval l ≤ 78364164095 := by
  have := mval_bd l h
  have h2 : (36 : Int) ^ l.length ≤ 36 ^ 7 := by
    have h3 : (36 : Nat) ^ l.length ≤ 36 ^ 7 := Nat.pow_le_pow_right (by omega) hl
    exact_mod_cast h3
  omega
theorem mval_bd6 {l : List UInt8} (h : l.all digB = true) (hl : l.length ≤ 6) : 0 ≤ mval l ∧ mval l ≤ 2176782335 := by
  have := mval_bd l h
  have h2 : (36 : Int) ^ l.length ≤ 36 ^ 6 := by
    have h3 : (36 : Nat) ^ l.length ≤ 36 ^ 6 := Nat.pow_le_pow_right (by omega) hl
    exact_mod_cast h3
  omega
theorem mval_pos {l : List UInt8} (h : l.all digB = true) (h0 : l ≠ []) (hh : l.head? ≠ some 48) : 1 ≤ mval l := by
  generalize hn : l.length = n
  induction n generalizing l with
  | zero => rw [List.length_eq_zero_iff] at hn; exact absurd hn h0
  | succ n ih =>
    obtain ⟨r, c, rfl⟩ : ∃ r c, l = r ++ [c] := ⟨l.dropLast, l.getLast h0, (List.dropLast_concat_getLast _).symm⟩
    rw [List.all_append, Bool.and_eq_true] at h
    obtain ⟨hr, hc⟩ := h
    have hd : 0 ≤ digV (c.toNat : Int) := by simpa [digB] using hc
    rw [mval_snoc]
    rcases r with _ | ⟨x, r⟩
    · rw [mval_nil]
      have hne : c ≠ 48 := by simpa using hh
      have : digV (c.toNat : Int) ≠ 0 := by
        intro e
        have h1 := mdig_digV hd
        rw [e] at h1
        exact hne (h1.symm.trans ((mdig_zero (by omega)).2 rfl))
      omega
    · have := ih hr (by simp) (by simpa using hh) (by simp at hn ⊢; omega)
      omega
theorem mk_mval {l : List UInt8} (h : l.all digB = true) (h0 : l ≠ []) (hh : l.length = 1 ∨ l.head? ≠ some 48) : mk l.length (mval l).toNat = l := by
  generalize hn : l.length = n at *
  induction n generalizing l with
  | zero => rw [List.length_eq_zero_iff] at hn; exact absurd hn h0
  | succ n ih =>
    obtain ⟨r, c, rfl⟩ : ∃ r c, l = r ++ [c] := ⟨l.dropLast, l.getLast h0, (List.dropLast_concat_getLast _).symm⟩
    rw [List.all_append, Bool.and_eq_true] at h
    obtain ⟨hr, hc⟩ := h
    have hd : 0 ≤ digV (c.toNat : Int) := by simpa [digB] using hc
    have hb := digV_bd (c.toNat : Int)
    have hl : r.length = n := by simp at hn; exact hn
    rw [mval_snoc]
    rcases r with _ | ⟨x, r⟩
    · rw [mval_nil]
      have e : (36 * 0 + digV (c.toNat : Int)).toNat = (digV (c.toNat : Int)).toNat := by congr 1; omega
      rw [e, mk, if_pos (by omega), mdig_digV hd]; rfl
    · have hx : (x :: r).head? ≠ some 48 := by
        rcases hh with hh | hh
        · simp at hl; omega
        · simpa using hh
      have hp := mval_pos hr (by simp) hx
      have hi := ih hr (by simp) hl (.inr hx)
      have e1 : (36 * mval (x :: r) + digV (c.toNat : Int)).toNat / 36 = (mval (x :: r)).toNat := by omega
      have e2 : (36 * mval (x :: r) + digV (c.toNat : Int)).toNat % 36 = (digV (c.toNat : Int)).toNat := by omega
      rw [mk, if_neg (by omega), e1, e2, hi, mdig_digV hd]

/-- A mark that is accepted. -/
def canonM (l : List UInt8) : Bool := decide (1 ≤ l.length) && decide (l.length ≤ 6) && (decide (l.length = 1) || !(l.head? == some 48)) && l.all digB && decide (mval l ≤ 1000000000)
def readM (l : List UInt8) : Int := if canonM l = true then mval l else -1
theorem canonM_iff (l : List UInt8) : canonM l = true ↔ 1 ≤ l.length ∧ l.length ≤ 6 ∧ (l.length = 1 ∨ l.head? ≠ some 48) ∧ l.all digB = true ∧ mval l ≤ 1000000000 := by
  unfold canonM
  simp only [Bool.and_eq_true, Bool.or_eq_true, decide_eq_true_eq, Bool.not_eq_true', beq_eq_false_iff_ne, ne_eq]
  constructor
  · rintro ⟨⟨⟨⟨a, b⟩, c⟩, d⟩, e⟩; exact ⟨a, b, c, d, e⟩
  · rintro ⟨a, b, c, d, e⟩; exact ⟨⟨⟨⟨a, b⟩, c⟩, d⟩, e⟩
theorem canon_mark {n : Int} (h0 : 0 ≤ n) (h1 : n ≤ 1000000000) : canonM (markT n) = true ∧ mval (markT n) = n := by
  unfold markT
  rw [if_pos ⟨h0, h1⟩]
  have hp6 : n.toNat < 36 ^ 6 := by omega
  have e : mk 7 n.toNat = mk 6 n.toNat := mk_fuel 6 7 n.toNat hp6 (by omega) (by omega)
  have hv : mval (mk 7 n.toNat) = n := by rw [e, mval_mk 6 _ hp6 (by omega)]; omega
  refine ⟨(canonM_iff _).2 ⟨?_, ?_, ?_, mk_digs 7 _, by rw [hv]; exact h1⟩, hv⟩
  · have := mk_ne 7 n.toNat (by omega)
    rcases hm : mk 7 n.toNat with _ | ⟨x, r⟩
    · exact absurd hm this
    · simp
  · rw [e]; exact mk_len 6 _
  · by_cases h : n.toNat = 0
    · left; rw [h]; rfl
    · right; rw [e]; exact mk_head 6 _ (by omega) hp6 (by omega)
theorem mark_canon {l : List UInt8} (h : canonM l = true) : markT (mval l) = l ∧ 0 ≤ mval l := by
  obtain ⟨h1, h2, h3, h4, h5⟩ := (canonM_iff l).1 h
  have hb := mval_bd l h4
  refine ⟨?_, hb.1⟩
  unfold markT
  rw [if_pos ⟨hb.1, h5⟩]
  have hl : (mval l).toNat < 36 ^ l.length := by
    have : ((mval l).toNat : Int) < ((36 ^ l.length : Nat) : Int) := by rw [Int.toNat_of_nonneg hb.1]; simpa using hb.2
    exact_mod_cast this
  rw [mk_fuel l.length 7 _ hl (by omega) (by omega)]
  exact mk_mval h4 (by intro e; simp [e] at h1) h3
theorem readM_yes {l : List UInt8} (h : canonM l = true) : readM l = mval l := by unfold readM; rw [if_pos h]
theorem readM_no {l : List UInt8} (h : canonM l = false) : readM l = -1 := by unfold readM; rw [h]; rfl
theorem read_mark {n : Int} (h0 : 0 ≤ n) (h1 : n ≤ 1000000000) : readM (markT n) = n := by
  obtain ⟨a, b⟩ := canon_mark h0 h1
  rw [readM_yes a, b]
theorem markT_none {n : Int} (h : n < 0 ∨ 1000000000 < n) : markT n = [] := by unfold markT; rw [if_neg (by omega)]
theorem markT_ne {n : Int} (h0 : 0 ≤ n) (h1 : n ≤ 1000000000) : markT n ≠ [] := by unfold markT; rw [if_pos ⟨h0, h1⟩]; exact mk_ne 7 _ (by omega)
theorem markT_len (n : Int) : (markT n).length ≤ 6 := by
  by_cases h : 0 ≤ n ∧ n ≤ 1000000000
  · exact ((canonM_iff _).1 (canon_mark h.1 h.2).1).2.1
  · rw [markT_none (by omega)]; simp
theorem spec_read_yes {l : List UInt8} (hl : l ≠ []) (h : markT (mval (l.take 7)) = l) : readM l = mval (l.take 7) := by
  have hb : 0 ≤ mval (l.take 7) ∧ mval (l.take 7) ≤ 1000000000 := by
    apply Classical.byContradiction; intro hn
    rw [markT_none (by omega)] at h; exact hl h.symm
  obtain ⟨a, b⟩ := canon_mark hb.1 hb.2
  rw [h] at a b
  rw [readM_yes a, b]
theorem spec_read_no {l : List UInt8} (h : markT (mval (l.take 7)) ≠ l) : readM l = -1 := by
  apply readM_no
  rw [← Bool.not_eq_true]
  intro hc
  have h2 := ((canonM_iff l).1 hc).2.1
  rw [List.take_of_length_le (by omega)] at h
  exact h (mark_canon hc).1
theorem readM_bad {l : List UInt8} (h : l.all digB = false) : readM l = -1 := by
  apply readM_no; unfold canonM; rw [h, Bool.and_false, Bool.false_and]
theorem readM_bd (l : List UInt8) : -1 ≤ readM l ∧ readM l ≤ 1000000000 := by
  unfold readM; split
  · rename_i h; exact ⟨by have := (mark_canon h).2; omega, ((canonM_iff l).1 h).2.2.2.2⟩
  · omega
theorem mark_read {l : List UInt8} (h : 0 ≤ readM l) : markT (readM l) = l := by
  unfold readM at *
  split at h
  · rename_i hc; rw [if_pos hc]; exact (mark_canon hc).1
  · omega
theorem read_zero {l : List UInt8} (h : 0 ≤ readM l) : readM (48 :: l) = -1 := by
  apply readM_no
  rw [← Bool.not_eq_true]
  intro hc
  obtain ⟨_, _, h3, _, _⟩ := (canonM_iff _).1 hc
  have hl : canonM l = true := by
    rw [← Bool.not_eq_false]; intro hf; rw [readM_no hf] at h; omega
  have h1 := ((canonM_iff l).1 hl).1
  rcases h3 with h3 | h3
  · simp at h3; subst h3; simp at h1
  · simp at h3

end Go.Proofs.Ytjddopgbfgeebaa
