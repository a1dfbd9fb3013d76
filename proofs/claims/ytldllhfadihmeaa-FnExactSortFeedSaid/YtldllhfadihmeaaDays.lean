/- Days, months and years. Plain facts, no program. No condition. -/
import Derived.Test.YtldllhfadihmeaaPlain
namespace Go.Proofs.Ytldllhfadihmeaa

def leapB (y : Int) : Bool := decide (1 ≤ y ∧ y ≤ 4000 ∧ y % 4 = 0 ∧ (y % 100 ≠ 0 ∨ y % 400 = 0))
def lp (y : Int) : Int := if leapB y = true then 1 else 0
theorem lp_01 (y : Int) : 0 ≤ lp y ∧ lp y ≤ 1 := by unfold lp; split <;> omega
theorem leapB_iff (y : Int) : leapB y = true ↔ 1 ≤ y ∧ y ≤ 4000 ∧ y % 4 = 0 ∧ (y % 100 ≠ 0 ∨ y % 400 = 0) := by unfold leapB; rw [decide_eq_true_iff]
theorem leapB_not (y : Int) : leapB y = false ↔ ¬ (1 ≤ y ∧ y ≤ 4000 ∧ y % 4 = 0 ∧ (y % 100 ≠ 0 ∨ y % 400 = 0)) := by rw [← Bool.not_eq_true, leapB_iff]
def mdays (y m : Int) : Int :=
  if 1 ≤ y ∧ y ≤ 4000 ∧ 1 ≤ m ∧ m ≤ 12 then (if m = 2 then 28 + lp y else if m = 4 ∨ m = 6 ∨ m = 9 ∨ m = 11 then 30 else 31) else -1
theorem mdays_none {y m : Int} (h : ¬ (1 ≤ y ∧ y ≤ 4000 ∧ 1 ≤ m ∧ m ≤ 12)) : mdays y m = -1 := by unfold mdays; rw [if_neg h]
theorem mdays_bd {y m : Int} (h1 : 1 ≤ y) (h2 : y ≤ 4000) (h3 : 1 ≤ m) (h4 : m ≤ 12) : 28 ≤ mdays y m ∧ mdays y m ≤ 31 := by
  have := lp_01 y
  unfold mdays; rw [if_pos ⟨h1, h2, h3, h4⟩]; split
  · omega
  · split <;> omega
theorem mdays_le (y m : Int) : -1 ≤ mdays y m ∧ mdays y m ≤ 31 := by
  by_cases h : 1 ≤ y ∧ y ≤ 4000 ∧ 1 ≤ m ∧ m ≤ 12
  · have := mdays_bd h.1 h.2.1 h.2.2.1 h.2.2.2; omega
  · rw [mdays_none h]; omega
theorem mdays_ok {y m : Int} (h : 0 ≤ mdays y m) : 1 ≤ y ∧ y ≤ 4000 ∧ 1 ≤ m ∧ m ≤ 12 := by
  apply Classical.byContradiction; intro hn; rw [mdays_none hn] at h; omega
theorem mdays_feb {y : Int} (h1 : 1 ≤ y) (h2 : y ≤ 4000) : mdays y 2 = 28 + lp y := by unfold mdays; rw [if_pos ⟨h1, h2, by omega, by omega⟩, if_pos rfl]
theorem mdays_short {y m : Int} (h1 : 1 ≤ y) (h2 : y ≤ 4000) (h : m = 4 ∨ m = 6 ∨ m = 9 ∨ m = 11) : mdays y m = 30 := by
  unfold mdays; rw [if_pos ⟨h1, h2, by omega, by omega⟩, if_neg (by omega), if_pos h]
theorem mdays_long {y m : Int} (h1 : 1 ≤ y) (h2 : y ≤ 4000) (h : m = 1 ∨ m = 3 ∨ m = 5 ∨ m = 7 ∨ m = 8 ∨ m = 10 ∨ m = 12) : mdays y m = 31 := by
  unfold mdays; rw [if_pos ⟨h1, h2, by omega, by omega⟩, if_neg (by omega), if_neg (by omega)]

/-- The days of the years before a year; of the first k months. -/
def before (y : Int) : Int := 365 * (y - 1) + (y - 1) / 4 - (y - 1) / 100 + (y - 1) / 400
def cum (y : Int) : Nat → Int
  | 0 => 0
  | k + 1 => cum y k + mdays y (k + 1 : Nat)
theorem before_succ {y : Int} (h1 : 1 ≤ y) (h2 : y ≤ 4000) : before (y + 1) = before y + 365 + lp y := by
  unfold before lp
  by_cases hl : leapB y = true
  · rw [if_pos hl]; rw [leapB_iff] at hl; omega
  · rw [if_neg hl]; rw [leapB_iff] at hl; omega
theorem before_mono {a b : Int} (h : a ≤ b) : before a + 365 * (b - a) ≤ before b := by unfold before; omega
theorem before_bd {y : Int} (h1 : 1 ≤ y) (h2 : y ≤ 4001) : 0 ≤ before y ∧ before y ≤ 1460970 := by unfold before; omega
theorem before_guess {n : Int} (h : 0 ≤ n) : before (n / 366 + 1) ≤ n := by unfold before; omega
theorem before_max : before 4001 = 1460970 := by decide
theorem cum_succ (y : Int) (k : Nat) : cum y (k + 1) = cum y k + mdays y (k + 1 : Nat) := rfl
theorem cum_12 {y : Int} (h1 : 1 ≤ y) (h2 : y ≤ 4000) : cum y 12 = 365 + lp y := by
  simp only [cum, Nat.zero_add, Nat.reduceAdd]
  rw [show mdays y (1 : Nat) = 31 from mdays_long h1 h2 (by omega), show mdays y (2 : Nat) = 28 + lp y from mdays_feb h1 h2, show mdays y (3 : Nat) = 31 from mdays_long h1 h2 (by omega), show mdays y (4 : Nat) = 30 from mdays_short h1 h2 (by omega), show mdays y (5 : Nat) = 31 from mdays_long h1 h2 (by omega), show mdays y (6 : Nat) = 30 from mdays_short h1 h2 (by omega), show mdays y (7 : Nat) = 31 from mdays_long h1 h2 (by omega), show mdays y (8 : Nat) = 31 from mdays_long h1 h2 (by omega), show mdays y (9 : Nat) = 30 from mdays_short h1 h2 (by omega), show mdays y (10 : Nat) = 31 from mdays_long h1 h2 (by omega), show mdays y (11 : Nat) = 30 from mdays_short h1 h2 (by omega), show mdays y (12 : Nat) = 31 from mdays_long h1 h2 (by omega)]
  omega
theorem cum_bd {y : Int} (h1 : 1 ≤ y) (h2 : y ≤ 4000) (k : Nat) (hk : k ≤ 12) : 28 * (k : Int) ≤ cum y k ∧ cum y k ≤ 31 * (k : Int) := by
  induction k with
  | zero => simp [cum]
  | succ k ih =>
    have := ih (by omega)
    have hm := mdays_bd (m := ((k + 1 : Nat) : Int)) h1 h2 (by omega) (by omega)
    rw [cum_succ]; omega
theorem cum_mono {y : Int} (h1 : 1 ≤ y) (h2 : y ≤ 4000) {j k : Nat} (h : j ≤ k) (hk : k ≤ 12) : cum y j ≤ cum y k := by
  induction k with
  | zero => obtain rfl : j = 0 := by omega
            exact Int.le_refl _
  | succ k ih =>
    rcases Nat.lt_or_ge k j with hlt | hge
    · obtain rfl : j = k + 1 := by omega
      exact Int.le_refl _
    · have := ih hge (by omega)
      have hm := mdays_bd (m := ((k + 1 : Nat) : Int)) h1 h2 (by omega) (by omega)
      rw [cum_succ]; omega

/-- The number of a day. -/
def dnum (y m d : Int) : Int := if 1 ≤ d ∧ d ≤ mdays y m then before y + cum y (m - 1).toNat + d - 1 else -1
theorem dnum_none {y m d : Int} (h : ¬ (1 ≤ d ∧ d ≤ mdays y m)) : dnum y m d = -1 := by unfold dnum; rw [if_neg h]
theorem dnum_ok {y m d : Int} (h : 0 ≤ dnum y m d) : 1 ≤ y ∧ y ≤ 4000 ∧ 1 ≤ m ∧ m ≤ 12 ∧ 1 ≤ d ∧ d ≤ mdays y m := by
  have hd : 1 ≤ d ∧ d ≤ mdays y m := by apply Classical.byContradiction; intro hn; rw [dnum_none hn] at h; omega
  have := mdays_ok (y := y) (m := m) (by omega)
  omega
theorem dnum_yes {y m d : Int} (h1 : 1 ≤ d) (h2 : d ≤ mdays y m) : dnum y m d = before y + cum y (m - 1).toNat + d - 1 := by unfold dnum; rw [if_pos ⟨h1, h2⟩]
theorem cum_step {y m : Int} (h1 : 1 ≤ m) : cum y m.toNat = cum y (m - 1).toNat + mdays y m := by
  obtain ⟨k, rfl⟩ : ∃ k : Nat, m = ((k + 1 : Nat) : Int) := ⟨(m - 1).toNat, by omega⟩
  rw [show ((((k + 1 : Nat) : Int) - 1)).toNat = k from by omega, Int.toNat_natCast, cum_succ]
theorem dnum_year {y m d : Int} (h : 0 ≤ dnum y m d) : before y ≤ dnum y m d ∧ dnum y m d < before (y + 1) := by
  obtain ⟨a, b, c, e, f, g⟩ := dnum_ok h
  rw [dnum_yes f g, before_succ a b]
  have h1 := cum_bd a b (m - 1).toNat (by omega)
  have h2 := cum_mono a b (j := m.toNat) (k := 12) (by omega) (by omega)
  rw [cum_12 a b, cum_step c] at h2
  omega
theorem dnum_range {y m d : Int} (h : 0 ≤ dnum y m d) : dnum y m d ≤ 1460969 := by
  obtain ⟨a, b, c, e, f, g⟩ := dnum_ok h
  have := dnum_year h
  have := before_bd (y := y + 1) (by omega) (by omega)
  omega
theorem dnum_bd (y m d : Int) : -1 ≤ dnum y m d ∧ dnum y m d ≤ 1460969 := by
  by_cases h : 1 ≤ d ∧ d ≤ mdays y m
  · have hy := mdays_ok (y := y) (m := m) (by omega)
    have h0 : 0 ≤ dnum y m d := by
      rw [dnum_yes h.1 h.2]
      have h1 := cum_bd hy.1 hy.2.1 (m - 1).toNat (by omega)
      have h2 := before_bd (y := y) hy.1 (by omega)
      omega
    have := dnum_range h0
    omega
  · rw [dnum_none h]; omega
theorem dnum_pos {y m d : Int} (h1 : 1 ≤ d) (h2 : d ≤ mdays y m) : 0 ≤ dnum y m d := by
  have hy := mdays_ok (y := y) (m := m) (by omega)
  rw [dnum_yes h1 h2]
  have h1 := cum_bd hy.1 hy.2.1 (m - 1).toNat (by omega)
  have h2 := before_bd (y := y) hy.1 (by omega)
  omega
theorem dnum_unique {y m d y' m' d' : Int} (h : 0 ≤ dnum y m d) (h' : dnum y' m' d' = dnum y m d) : y' = y ∧ m' = m ∧ d' = d := by
  obtain ⟨a, b, c, e, f, g⟩ := dnum_ok h
  obtain ⟨a', b', c', e', f', g'⟩ := dnum_ok (y := y') (m := m') (d := d') (by omega)
  have hy := dnum_year h
  have hy' := dnum_year (y := y') (m := m') (d := d') (by omega)
  have hyy : y' = y := by
    rcases Int.lt_trichotomy y' y with hlt | heq | hgt
    · have := before_mono (a := y' + 1) (b := y) (by omega); omega
    · exact heq
    · have := before_mono (a := y + 1) (b := y') (by omega); omega
  subst hyy
  rw [dnum_yes f g, dnum_yes f' g'] at h'
  have hmm : m' = m := by
    rcases Int.lt_trichotomy m' m with hlt | heq | hgt
    · have h1 := cum_mono a b (j := m'.toNat) (k := (m - 1).toNat) (by omega) (by omega)
      rw [cum_step c'] at h1; omega
    · exact heq
    · have h1 := cum_mono a b (j := m.toNat) (k := (m' - 1).toNat) (by omega) (by omega)
      rw [cum_step c] at h1; omega
  subst hmm
  exact ⟨rfl, rfl, by omega⟩
/-- The day after a day of a month; after a month; after a year. -/
theorem dnum_next {y m d : Int} (h1 : 1 ≤ d) (h2 : d < mdays y m) : dnum y m (d + 1) = dnum y m d + 1 := by
  rw [dnum_yes (by omega) (by omega), dnum_yes (by omega) (by omega)]; omega
theorem dnum_month {y m : Int} (h1 : 1 ≤ y) (h2 : y ≤ 4000) (h3 : 1 ≤ m) (h4 : m < 12) : dnum y (m + 1) 1 = dnum y m (mdays y m) + 1 := by
  have a := mdays_bd h1 h2 h3 (by omega)
  have b := mdays_bd (m := m + 1) h1 h2 (by omega) (by omega)
  rw [dnum_yes (by omega) (by omega), dnum_yes (by omega) (by omega), show (m + 1 - 1).toNat = m.toNat from by omega, cum_step h3]; omega
theorem dnum_newyear {y : Int} (h1 : 1 ≤ y) (h2 : y < 4000) : dnum (y + 1) 1 1 = dnum y 12 31 + 1 := by
  have a := mdays_long (y := y) (m := 12) h1 (by omega) (by omega)
  have b := mdays_long (y := y + 1) (m := 1) (by omega) (by omega) (by omega)
  rw [dnum_yes (by omega) (by omega), dnum_yes (by omega) (by omega), before_succ h1 (by omega)]
  have c := cum_12 (y := y) h1 (by omega)
  rw [show (12 : Nat) = (12 : Int).toNat from rfl, cum_step (by omega), a] at c
  rw [show ((1 : Int) - 1).toNat = 0 from rfl]
  simp only [cum]
  omega
theorem dnum_first {y : Int} (h1 : 1 ≤ y) (h2 : y ≤ 4000) : dnum y 1 1 = before y := by
  have b := mdays_long (y := y) (m := 1) (by omega) (by omega) (by omega)
  rw [dnum_yes (by omega) (by omega), show ((1 : Int) - 1).toNat = 0 from rfl]
  simp only [cum]; omega
theorem dnum_start {y : Int} {k : Nat} (h1 : 1 ≤ y) (h2 : y ≤ 4000) (h3 : 1 ≤ k) (h4 : k ≤ 12) : dnum y k 1 = before y + cum y (k - 1) := by
  have b := mdays_bd (y := y) (m := (k : Int)) (by omega) (by omega) (by omega) (by omega)
  rw [dnum_yes (by omega) (by omega), show ((k : Int) - 1).toNat = k - 1 from by omega]
  omega
theorem dnum_last : dnum 4000 12 31 = 1460969 := by decide

end Go.Proofs.Ytldllhfadihmeaa
