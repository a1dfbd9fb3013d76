/- Dates as texts and back. Plain facts, no program. No condition. -/
import Derived.Test.YtldllhfadihmeaaDays
import Derived.Laws.Strings
namespace Go.Proofs.Ytldllhfadihmeaa

def dg (n : Nat) : UInt8 := UInt8.ofNat (48 + n % 10)
def pad : Nat → Nat → List UInt8
  | 0, _ => []
  | w + 1, n => pad w (n / 10) ++ [dg n]
def fmt (y m d : Nat) : List UInt8 := pad 4 y ++ (46 :: (pad 2 m ++ (46 :: pad 2 d)))
theorem dg_toNat (n : Nat) : (dg n).toNat = 48 + n % 10 := by
  unfold dg; rw [UInt8.toNat_ofNat']; have := Nat.mod_lt n (show 0 < 10 by omega); omega
theorem pad_len (w : Nat) : ∀ n, (pad w n).length = w := by
  induction w with
  | zero => intro n; rfl
  | succ w ih => intro n; rw [pad, List.length_append, ih]; rfl
theorem fmt_len (y m d : Nat) : (fmt y m d).length = 10 := by
  unfold fmt; simp [pad_len]

def digit (c : UInt8) : Bool := decide (48 ≤ c.toNat) && decide (c.toNat ≤ 57)
theorem digit_iff (c : UInt8) : digit c = true ↔ 48 ≤ (c.toNat : Int) ∧ (c.toNat : Int) ≤ 57 := by
  simp only [digit, Bool.and_eq_true, decide_eq_true_eq]; omega
theorem digit_dg (n : Nat) : digit (dg n) = true := by rw [digit_iff, dg_toNat]; omega
theorem dg_digit {c : UInt8} (h : digit c = true) : dg (c.toNat - 48) = c := by
  rw [digit_iff] at h
  rw [← UInt8.toNat_inj, dg_toNat]; omega
def dval (l : List UInt8) : Int := l.foldl (fun n c => 10 * n + ((c.toNat : Int) - 48)) 0
theorem dval_nil : dval [] = 0 := rfl
theorem dval_snoc (l : List UInt8) (c : UInt8) : dval (l ++ [c]) = 10 * dval l + ((c.toNat : Int) - 48) := by
  unfold dval; rw [List.foldl_append]; rfl
theorem pad_digits (w : Nat) : ∀ n, (pad w n).all digit = true := by
  induction w with
  | zero => intro n; rfl
  | succ w ih => intro n; rw [pad, List.all_append, ih]; simp [digit_dg]
theorem dval_pad (w : Nat) : ∀ n, n < 10 ^ w → dval (pad w n) = (n : Int) := by
  induction w with
  | zero => intro n h; simp at h; subst h; rfl
  | succ w ih =>
    intro n h
    rw [pad, dval_snoc, ih (n / 10) (by rw [Nat.pow_succ] at h; exact Nat.div_lt_of_lt_mul (by omega)), dg_toNat]
    omega
theorem snoc_ex {l : List UInt8} {n : Nat} (h : l.length = n + 1) : ∃ r c, l = r ++ [c] ∧ r.length = n :=
  ⟨l.dropLast, l.getLast (by intro e; simp [e] at h), (List.dropLast_concat_getLast _).symm, by simp; omega⟩
theorem dval_bd (w : Nat) : ∀ l : List UInt8, l.length = w → l.all digit = true → 0 ≤ dval l ∧ dval l < 10 ^ w := by
  induction w with
  | zero => intro l h _; rw [List.length_eq_zero_iff] at h; subst h; simp [dval_nil]
  | succ w ih =>
    intro l h hd
    obtain ⟨r, c, rfl, hr⟩ := snoc_ex h
    rw [List.all_append, Bool.and_eq_true] at hd
    have h1 := ih r hr hd.1
    have h2 : digit c = true := by simpa using hd.2
    rw [digit_iff] at h2
    rw [dval_snoc, Int.pow_succ]; omega
theorem pad_dval (w : Nat) : ∀ l : List UInt8, l.length = w → l.all digit = true → pad w (dval l).toNat = l := by
  induction w with
  | zero => intro l h _; rw [List.length_eq_zero_iff] at h; subst h; rfl
  | succ w ih =>
    intro l h hd
    obtain ⟨r, c, rfl, hr⟩ := snoc_ex h
    rw [List.all_append, Bool.and_eq_true] at hd
    have h1 := ih r hr hd.1
    have hb := dval_bd w r hr hd.1
    have h2 : digit c = true := by simpa using hd.2
    have h3 := dg_digit h2
    rw [digit_iff] at h2
    rw [dval_snoc, pad, show (10 * dval r + ((c.toNat : Int) - 48)).toNat / 10 = (dval r).toNat from by omega, h1]
    have e : dg (10 * dval r + ((c.toNat : Int) - 48)).toNat = dg (c.toNat - 48) := by
      unfold dg; rw [show (10 * dval r + ((c.toNat : Int) - 48)).toNat % 10 = (c.toNat - 48) % 10 from by omega]
    rw [e, h3]
theorem pad_inj {w n n' : Nat} (h : pad w n = pad w n') (h1 : n < 10 ^ w) (h2 : n' < 10 ^ w) : n = n' := by
  have e : dval (pad w n) = dval (pad w n') := by rw [h]
  rw [dval_pad w n h1, dval_pad w n' h2] at e; omega
theorem fmt_inj {y m d y' m' d' : Nat} (h : fmt y m d = fmt y' m' d') (h1 : y < 10000) (h2 : m < 100) (h3 : d < 100) (h1' : y' < 10000) (h2' : m' < 100) (h3' : d' < 100) : y = y' ∧ m = m' ∧ d = d' := by
  unfold fmt at h
  obtain ⟨e1, e2⟩ := List.append_inj h (by rw [pad_len, pad_len])
  injection e2 with _ e2
  obtain ⟨e3, e4⟩ := List.append_inj e2 (by rw [pad_len, pad_len])
  injection e4 with _ e4
  exact ⟨pad_inj e1 h1 h1', pad_inj e3 h2 h2', pad_inj e4 h3 h3'⟩

/-- The date of a day; the day of a date. -/
noncomputable def dateT (n : Int) : List UInt8 :=
  @dite (List UInt8) (∃ t : Int × Int × Int, 0 ≤ n ∧ dnum t.1 t.2.1 t.2.2 = n) (Classical.propDecidable _) (fun h => fmt (Classical.choose h).1.toNat (Classical.choose h).2.1.toNat (Classical.choose h).2.2.toNat) (fun _ => [])
theorem date_of {y m d : Int} (h : 0 ≤ dnum y m d) : dateT (dnum y m d) = fmt y.toNat m.toNat d.toNat := by
  have hx : ∃ t : Int × Int × Int, 0 ≤ dnum y m d ∧ dnum t.1 t.2.1 t.2.2 = dnum y m d := ⟨(y, m, d), h, rfl⟩
  unfold dateT
  rw [dif_pos hx]
  have hc := (Classical.choose_spec hx).2
  obtain ⟨e1, e2, e3⟩ := dnum_unique h hc
  rw [e1, e2, e3]
theorem date_none {n : Int} (h : n < 0 ∨ 1460969 < n) : dateT n = [] := by
  unfold dateT
  rw [dif_neg]
  rintro ⟨t, h0, ht⟩
  have := dnum_bd t.1 t.2.1 t.2.2
  omega
theorem day_ex (n : Nat) (h : n ≤ 1460969) : ∃ y m d : Int, dnum y m d = n := by
  induction n with
  | zero => exact ⟨1, 1, 1, by decide⟩
  | succ n ih =>
    obtain ⟨y, m, d, e⟩ := ih (by omega)
    obtain ⟨a1, a2, a3, a4, a5, a6⟩ := dnum_ok (y := y) (m := m) (d := d) (by omega)
    by_cases hd : d < mdays y m
    · exact ⟨y, m, d + 1, by rw [dnum_next a5 hd, e]; rfl⟩
    · have hd2 : d = mdays y m := by omega
      by_cases hm : m < 12
      · exact ⟨y, m + 1, 1, by rw [dnum_month a1 a2 a3 hm, ← hd2, e]; rfl⟩
      · obtain rfl : m = 12 := by omega
        rw [mdays_long a1 a2 (by omega)] at hd2
        subst hd2
        by_cases hy : y < 4000
        · exact ⟨y + 1, 1, 1, by rw [dnum_newyear a1 hy, e]; rfl⟩
        · obtain rfl : y = 4000 := by omega
          rw [dnum_last] at e; omega
theorem date_ex {n : Int} (h0 : 0 ≤ n) (h1 : n ≤ 1460969) : ∃ y m d : Int, dnum y m d = n ∧ 0 ≤ dnum y m d := by
  obtain ⟨k, rfl⟩ := Int.eq_ofNat_of_zero_le h0
  obtain ⟨y, m, d, e⟩ := day_ex k (by omega)
  exact ⟨y, m, d, e, by omega⟩
theorem date_fits {y m d : Int} (h : 0 ≤ dnum y m d) : y.toNat < 10000 ∧ m.toNat < 100 ∧ d.toNat < 100 := by
  obtain ⟨a1, a2, a3, a4, a5, a6⟩ := dnum_ok h
  have := mdays_le y m
  omega
theorem date_len {n : Int} (h0 : 0 ≤ n) (h1 : n ≤ 1460969) : (dateT n).length = 10 := by
  obtain ⟨y, m, d, rfl, h⟩ := date_ex h0 h1
  rw [date_of h, fmt_len]
theorem date_size (n : Int) : (dateT n).length ≤ 10 := by
  by_cases h : 0 ≤ n ∧ n ≤ 1460969
  · rw [date_len h.1 h.2]; omega
  · rw [date_none (by omega)]; simp
theorem date_ne {n : Int} (h0 : 0 ≤ n) (h1 : n ≤ 1460969) : dateT n ≠ [] := by
  intro e; have := date_len h0 h1; rw [e] at this; simp at this
theorem date_inj {n k : Int} (h0 : 0 ≤ n) (h1 : n ≤ 1460969) (h : dateT k = dateT n) : k = n := by
  by_cases hk : 0 ≤ k ∧ k ≤ 1460969
  · obtain ⟨y, m, d, rfl, hd⟩ := date_ex h0 h1
    obtain ⟨y', m', d', rfl, hd'⟩ := date_ex hk.1 hk.2
    rw [date_of hd, date_of hd'] at h
    have f := date_fits hd
    have f' := date_fits hd'
    obtain ⟨e1, e2, e3⟩ := fmt_inj h f'.1 f'.2.1 f'.2.2 f.1 f.2.1 f.2.2
    obtain ⟨a1, a2, a3, a4, a5, a6⟩ := dnum_ok hd
    obtain ⟨b1, b2, b3, b4, b5, b6⟩ := dnum_ok hd'
    obtain rfl : y' = y := by omega
    obtain rfl : m' = m := by omega
    obtain rfl : d' = d := by omega
    rfl
  · rw [date_none (n := k) (by omega)] at h; exact absurd h.symm (date_ne h0 h1)
noncomputable def readD (l : List UInt8) : Int :=
  @dite Int (∃ n : Int, 0 ≤ n ∧ n ≤ 1460969 ∧ dateT n = l) (Classical.propDecidable _) (fun h => Classical.choose h) (fun _ => -1)
theorem read_date {n : Int} (h0 : 0 ≤ n) (h1 : n ≤ 1460969) : readD (dateT n) = n := by
  have hx : ∃ k : Int, 0 ≤ k ∧ k ≤ 1460969 ∧ dateT k = dateT n := ⟨n, h0, h1, rfl⟩
  unfold readD
  rw [dif_pos hx]
  exact date_inj h0 h1 (Classical.choose_spec hx).2.2
theorem readD_no {l : List UInt8} (h : ∀ n : Int, 0 ≤ n → n ≤ 1460969 → dateT n ≠ l) : readD l = -1 := by
  unfold readD
  rw [dif_neg]
  rintro ⟨n, h0, h1, h2⟩
  exact h n h0 h1 h2
theorem readD_fmt {y m d : Int} (h : 0 ≤ dnum y m d) : readD (fmt y.toNat m.toNat d.toNat) = dnum y m d := by
  rw [← date_of h]; exact read_date h (dnum_range h)
theorem readD_bad {l : List UInt8} (h : ∀ y m d : Int, 0 ≤ dnum y m d → l ≠ fmt y.toNat m.toNat d.toNat) : readD l = -1 :=
  readD_no fun n h0 h1 e => by
    obtain ⟨y, m, d, rfl, hd⟩ := date_ex h0 h1
    rw [date_of hd] at e
    exact h y m d hd e.symm
theorem readD_bd (l : List UInt8) : -1 ≤ readD l ∧ readD l ≤ 1460969 := by
  unfold readD
  split
  · rename_i h; have := Classical.choose_spec h; omega
  · omega
theorem date_read {l : List UInt8} (h : 0 ≤ readD l) : dateT (readD l) = l := by
  unfold readD at *
  split at h
  · rename_i hx; rw [dif_pos hx]; exact (Classical.choose_spec hx).2.2
  · omega
theorem readD_len {l : List UInt8} (h : l.length ≠ 10) : readD l = -1 :=
  readD_bad fun y m d _ e => h (by rw [e, fmt_len])

/-- A later day has a greater date. -/
theorem less_app (l a b : List UInt8) : Op.bytesLess (l ++ a) (l ++ b) = Op.bytesLess a b := by
  induction l with
  | nil => rfl
  | cons c l ih => simp [Op.bytesLess, ih]
theorem pad_less (w : Nat) : ∀ (n n' : Nat) (r r' : List UInt8), n < n' → n' < 10 ^ w → Op.bytesLess (pad w n' ++ r') (pad w n ++ r) = false ∧ pad w n' ++ r' ≠ pad w n ++ r := by
  induction w with
  | zero => intro n n' r r' h1 h2; simp at h2; omega
  | succ w ih =>
    intro n n' r r' h1 h2
    rw [pad, pad, List.append_assoc, List.append_assoc]
    rcases Nat.lt_or_ge (n / 10) (n' / 10) with h | h
    · exact ih _ _ _ _ h (by rw [Nat.pow_succ] at h2; exact Nat.div_lt_of_lt_mul (by omega))
    · have he : n' / 10 = n / 10 := by omega
      have hlt : (dg n).toNat < (dg n').toNat := by rw [dg_toNat, dg_toNat]; omega
      have hne : dg n' ≠ dg n := by intro e; rw [e] at hlt; omega
      rw [he, less_app]
      refine ⟨?_, ?_⟩
      · simp only [List.singleton_append, Op.bytesLess, Bool.or_eq_false_iff, Bool.and_eq_false_iff]
        refine ⟨decide_eq_false (by rw [UInt8.lt_iff_toNat_lt]; omega), .inl (by simpa using hne)⟩
      · intro e
        have := List.append_cancel_left e
        simp at this
        exact hne this.1
theorem cons_less (c : UInt8) (a b : List UInt8) : Op.bytesLess (c :: a) (c :: b) = Op.bytesLess a b := by simp [Op.bytesLess]
theorem date_less {n : Int} (h0 : 0 ≤ n) (h1 : n + 1 ≤ 1460969) : Op.bytesLess (dateT (n + 1)) (dateT n) = false ∧ dateT (n + 1) ≠ dateT n := by
  refine ⟨?_, fun e => by have := date_inj h0 (by omega) e; omega⟩
  obtain ⟨y, m, d, rfl, hd⟩ := date_ex h0 (by omega)
  obtain ⟨a1, a2, a3, a4, a5, a6⟩ := dnum_ok hd
  have hm31 := mdays_le y m
  have key : ∀ y' m' d' : Int, dnum y' m' d' = dnum y m d + 1 → Op.bytesLess (fmt y'.toNat m'.toNat d'.toNat) (fmt y.toNat m.toNat d.toNat) = false → Op.bytesLess (dateT (dnum y m d + 1)) (dateT (dnum y m d)) = false := by
    intro y' m' d' e hl
    rw [← e, date_of (by omega), date_of hd]; exact hl
  by_cases hlt : d < mdays y m
  · refine key y m (d + 1) (dnum_next a5 hlt) ?_
    unfold fmt
    rw [less_app, cons_less, less_app, cons_less]
    simpa using (pad_less 2 d.toNat (d + 1).toNat [] [] (by omega) (by omega)).1
  · have hd2 : d = mdays y m := by omega
    by_cases hm : m < 12
    · refine key y (m + 1) 1 (by rw [dnum_month a1 a2 a3 hm, ← hd2]) ?_
      unfold fmt
      rw [less_app, cons_less]
      exact (pad_less 2 _ _ _ _ (by omega) (by omega)).1
    · obtain rfl : m = 12 := by omega
      rw [mdays_long a1 a2 (by omega)] at hd2
      subst hd2
      by_cases hy : y < 4000
      · refine key (y + 1) 1 1 (dnum_newyear a1 hy) ?_
        unfold fmt
        exact (pad_less 4 _ _ _ _ (by omega) (by omega)).1
      · obtain rfl : y = 4000 := by omega
        rw [dnum_last] at h1; omega

/-- A text cut as the program cuts a date. -/
theorem pad_parts (a b c : List UInt8) (ha : a.length = 4) (hb : b.length = 2) : (a ++ (46 :: (b ++ (46 :: c)))).take 4 = a ∧ (a ++ (46 :: (b ++ (46 :: c))))[4]? = some 46 ∧ ((a ++ (46 :: (b ++ (46 :: c)))).drop 5).take 2 = b ∧ (a ++ (46 :: (b ++ (46 :: c))))[7]? = some 46 ∧ (a ++ (46 :: (b ++ (46 :: c)))).drop 8 = c := by
  obtain ⟨a0, a1, a2, a3, rfl⟩ : ∃ a0 a1 a2 a3, a = [a0, a1, a2, a3] := by
    match a, ha with
    | [a0, a1, a2, a3], _ => exact ⟨_, _, _, _, rfl⟩
  obtain ⟨b0, b1, rfl⟩ : ∃ b0 b1, b = [b0, b1] := by
    match b, hb with
    | [b0, b1], _ => exact ⟨_, _, rfl⟩
  exact ⟨rfl, rfl, rfl, rfl, rfl⟩
theorem whole10 {l : List UInt8} (h : l.length = 10) (h4 : l[4]? = some 46) (h7 : l[7]? = some 46) : l = l.take 4 ++ (46 :: ((l.drop 5).take 2 ++ (46 :: l.drop 8))) := by
  match l, h with
  | [a, b, c, d, e, f, g, i, j, k], _ =>
    simp at h4 h7
    subst h4; subst h7
    rfl
def rdP (l : List UInt8) : Int := if l.all digit = true then dval l else -1
theorem rdP_yes {l : List UInt8} (h : l.all digit = true) : rdP l = dval l := by unfold rdP; rw [if_pos h]
theorem rdP_no {l : List UInt8} (h : l.all digit = false) : rdP l = -1 := by unfold rdP; rw [h]; rfl
theorem rdP_ok {l : List UInt8} (h : 0 ≤ rdP l) : l.all digit = true ∧ rdP l = dval l := by
  unfold rdP at *
  split at h
  · rename_i hd; exact ⟨hd, by rw [if_pos hd]⟩
  · omega
theorem rdP_bd (l : List UInt8) (w : Nat) (h : l.length = w) : -1 ≤ rdP l ∧ rdP l < 10 ^ w := by
  unfold rdP
  split
  · rename_i hd; have := dval_bd w l h hd; omega
  · exact ⟨by omega, by have : (0 : Int) < 10 ^ w := Int.pow_pos (by omega); omega⟩
theorem readD_of (Y M D : Nat) (h1 : Y < 10000) (h2 : M < 100) (h3 : D < 100) : readD (fmt Y M D) = dnum Y M D := by
  by_cases h : 0 ≤ dnum Y M D
  · have := readD_fmt h
    simpa using this
  · have hb := dnum_bd Y M D
    rw [show dnum Y M D = -1 from by omega]
    apply readD_bad
    intro y m d hd e
    have f := date_fits hd
    obtain ⟨e1, e2, e3⟩ := fmt_inj e h1 h2 h3 f.1 f.2.1 f.2.2
    obtain ⟨a1, a2, a3, a4, a5, a6⟩ := dnum_ok hd
    obtain rfl : y = (Y : Int) := by omega
    obtain rfl : m = (M : Int) := by omega
    obtain rfl : d = (D : Int) := by omega
    exact h hd
theorem read_whole {l : List UInt8} (h : l.length = 10) (h4 : l[4]? = some 46) (h7 : l[7]? = some 46) (hy : 0 ≤ rdP (l.take 4)) (hm : 0 ≤ rdP ((l.drop 5).take 2)) (hd : 0 ≤ rdP (l.drop 8)) :
    readD l = dnum (rdP (l.take 4)) (rdP ((l.drop 5).take 2)) (rdP (l.drop 8)) := by
  obtain ⟨y1, y2⟩ := rdP_ok hy
  obtain ⟨m1, m2⟩ := rdP_ok hm
  obtain ⟨d1, d2⟩ := rdP_ok hd
  have ly : (l.take 4).length = 4 := by simp; omega
  have lm : ((l.drop 5).take 2).length = 2 := by simp; omega
  have ld : (l.drop 8).length = 2 := by simp; omega
  have by4 := dval_bd 4 _ ly y1
  have bm := dval_bd 2 _ lm m1
  have bd := dval_bd 2 _ ld d1
  have e : l = fmt (dval (l.take 4)).toNat (dval ((l.drop 5).take 2)).toNat (dval (l.drop 8)).toNat := by
    unfold fmt
    rw [pad_dval 4 _ ly y1, pad_dval 2 _ lm m1, pad_dval 2 _ ld d1]
    exact whole10 h h4 h7
  rw [y2, m2, d2]
  have hr := readD_of (dval (l.take 4)).toNat (dval ((l.drop 5).take 2)).toNat (dval (l.drop 8)).toNat (by omega) (by omega) (by omega)
  rw [← e] at hr
  rw [hr, Int.toNat_of_nonneg by4.1, Int.toNat_of_nonneg bm.1, Int.toNat_of_nonneg bd.1]
theorem read_part {l : List UInt8} (h : l[4]? ≠ some 46 ∨ l[7]? ≠ some 46 ∨ rdP (l.take 4) < 0 ∨ rdP ((l.drop 5).take 2) < 0 ∨ rdP (l.drop 8) < 0) : readD l = -1 := by
  apply readD_bad
  intro y m d hd e
  have f := date_fits hd
  have hp := pad_parts (pad 4 y.toNat) (pad 2 m.toNat) (pad 2 d.toNat) (pad_len _ _) (pad_len _ _)
  rw [show pad 4 y.toNat ++ (46 :: (pad 2 m.toNat ++ (46 :: pad 2 d.toNat))) = l from e.symm] at hp
  obtain ⟨p1, p2, p3, p4, p5⟩ := hp
  rw [p1, p3, p5, p2, p4, rdP_yes (pad_digits _ _), rdP_yes (pad_digits _ _), rdP_yes (pad_digits _ _), dval_pad _ _ f.1, dval_pad _ _ f.2.1, dval_pad _ _ f.2.2] at h
  simp at h
  omega

/-- How the reference reads a date: a point leads to the next number, a digit goes on with the number. -/
def stepP (st : Nat × Int × Int × Int) (c : UInt8) : Option (Nat × Int × Int × Int) :=
  if c.toNat = 46 ∧ st.1 < 2 then some (st.1 + 1, st.2.1, st.2.2.1, st.2.2.2)
  else if 48 ≤ c.toNat ∧ c.toNat ≤ 57 then
    some (if st.1 = 0 then (st.1, 10 * st.2.1 + ((c.toNat : Int) - 48), st.2.2.1, st.2.2.2) else if st.1 = 1 then (st.1, st.2.1, 10 * st.2.2.1 + ((c.toNat : Int) - 48), st.2.2.2) else (st.1, st.2.1, st.2.2.1, 10 * st.2.2.2 + ((c.toNat : Int) - 48)))
  else none
def parseP (l : List UInt8) : Option (Nat × Int × Int × Int) := l.foldlM stepP (0, 0, 0, 0)
theorem parse_snoc (l : List UInt8) (c : UInt8) : parseP (l ++ [c]) = (parseP l).bind fun st => stepP st c := by
  unfold parseP; rw [List.foldlM_append]
  cases h : l.foldlM stepP (0, 0, 0, 0) <;> simp
theorem step_point {i : Nat} (x y z : Int) (h : i < 2) : stepP (i, x, y, z) 46 = some (i + 1, x, y, z) := by
  unfold stepP; rw [if_pos ⟨rfl, h⟩]
theorem step_dig {i : Nat} {c : UInt8} (x y z : Int) (h : 48 ≤ c.toNat ∧ c.toNat ≤ 57) : stepP (i, x, y, z) c = some (if i = 0 then (i, 10 * x + ((c.toNat : Int) - 48), y, z) else if i = 1 then (i, x, 10 * y + ((c.toNat : Int) - 48), z) else (i, x, y, 10 * z + ((c.toNat : Int) - 48))) := by
  unfold stepP; rw [if_neg (by omega), if_pos h]
theorem step_none {i : Nat} {c : UInt8} (x y z : Int) (h : ¬ (c.toNat = 46 ∧ i < 2)) (h2 : ¬ (48 ≤ c.toNat ∧ c.toNat ≤ 57)) : stepP (i, x, y, z) c = none := by
  unfold stepP; rw [if_neg h, if_neg h2]
theorem step_bd {st st' : Nat × Int × Int × Int} {c : UInt8} {B : Int} (h : stepP st c = some st') (hi : st.1 ≤ 2) (h1 : 0 ≤ st.2.1 ∧ st.2.1 < B) (h2 : 0 ≤ st.2.2.1 ∧ st.2.2.1 < B) (h3 : 0 ≤ st.2.2.2 ∧ st.2.2.2 < B) :
    st'.1 ≤ 2 ∧ (0 ≤ st'.2.1 ∧ st'.2.1 < 10 * B) ∧ (0 ≤ st'.2.2.1 ∧ st'.2.2.1 < 10 * B) ∧ (0 ≤ st'.2.2.2 ∧ st'.2.2.2 < 10 * B) := by
  unfold stepP at h
  split at h
  · injection h with h; subst h; refine ⟨?_, ?_, ?_, ?_⟩ <;> simp only <;> omega
  · split at h
    · injection h with h; subst h
      split
      · refine ⟨?_, ?_, ?_, ?_⟩ <;> simp only <;> omega
      · split <;> (refine ⟨?_, ?_, ?_, ?_⟩ <;> simp only <;> omega)
    · cases h
theorem parse_bd (n : Nat) : ∀ (l : List UInt8) (st : Nat × Int × Int × Int), l.length = n → parseP l = some st → st.1 ≤ 2 ∧ (0 ≤ st.2.1 ∧ st.2.1 < 10 ^ n) ∧ (0 ≤ st.2.2.1 ∧ st.2.2.1 < 10 ^ n) ∧ (0 ≤ st.2.2.2 ∧ st.2.2.2 < 10 ^ n) := by
  induction n with
  | zero => intro l st hl h; rw [List.length_eq_zero_iff] at hl; subst hl; injection h with h; subst h; simp
  | succ n ih =>
    intro l st hl h
    obtain ⟨r, c, rfl, hr⟩ := snoc_ex hl
    rw [parse_snoc] at h
    cases hp : parseP r with
    | none => rw [hp] at h; cases h
    | some st0 =>
      rw [hp] at h
      obtain ⟨h0, h1, h2, h3⟩ := ih r st0 hr hp
      have := step_bd (B := 10 ^ n) h h0 h1 h2 h3
      rw [Int.pow_succ, Int.mul_comm]
      exact this
theorem parse_more (a b : List UInt8) (h : parseP a = none) : parseP (a ++ b) = none := by
  unfold parseP at *; rw [List.foldlM_append, h]; rfl
theorem step_dg (i n : Nat) (x y z : Int) : stepP (i, x, y, z) (dg n) = some (if i = 0 then (i, 10 * x + ((n % 10 : Nat) : Int), y, z) else if i = 1 then (i, x, 10 * y + ((n % 10 : Nat) : Int), z) else (i, x, y, 10 * z + ((n % 10 : Nat) : Int))) := by
  rw [step_dig _ _ _ (by rw [dg_toNat]; omega), dg_toNat, show ((48 + n % 10 : Nat) : Int) - 48 = ((n % 10 : Nat) : Int) from by omega]
theorem parse_fmt (y m d : Nat) (h1 : y < 10000) (h2 : m < 100) (h3 : d < 100) : parseP (fmt y m d) = some (2, (y : Int), (m : Int), (d : Int)) := by
  have e : fmt y m d = [dg (y / 10 / 10 / 10), dg (y / 10 / 10), dg (y / 10), dg y, 46, dg (m / 10), dg m, 46, dg (d / 10), dg d] := rfl
  rw [e]
  unfold parseP
  simp only [List.foldlM_cons, List.foldlM_nil, step_dg, step_point _ _ _ (show 0 < 2 by omega), step_point _ _ _ (show 1 < 2 by omega), Option.bind_eq_bind, Option.bind_some, if_true, Nat.zero_add, Nat.one_ne_zero, if_false, Nat.reduceAdd, Nat.reduceEqDiff, Option.pure_def]
  congr 1
  simp only [Prod.mk.injEq, true_and]
  omega
theorem spec_date_yes {l : List UInt8} {n : Int} (h0 : 0 ≤ n) (h1 : n ≤ 1460969) (h : dateT n = l) : readD l = n := by rw [← h]; exact read_date h0 h1
theorem spec_date_no {l : List UInt8} {i : Nat} {x y z : Int} (hp : parseP l = some (i, x, y, z)) (h : dnum x y z < 0 ∨ dateT (dnum x y z) ≠ l) : readD l = -1 := by
  apply readD_bad
  intro Y M D hd e
  have f := date_fits hd
  obtain ⟨a1, a2, a3, a4, a5, a6⟩ := dnum_ok hd
  rw [e, parse_fmt _ _ _ f.1 f.2.1 f.2.2] at hp
  injection hp with hp
  simp only [Prod.mk.injEq] at hp
  obtain ⟨_, rfl, rfl, rfl⟩ := hp
  rw [Int.toNat_of_nonneg (by omega), Int.toNat_of_nonneg (by omega), Int.toNat_of_nonneg (by omega), date_of hd] at h
  rcases h with h | h
  · omega
  · exact h e.symm
theorem spec_date_none {l : List UInt8} {k : Nat} (h : parseP (l.take k) = none) : readD l = -1 := by
  apply readD_bad
  intro Y M D hd e
  have f := date_fits hd
  have hp := parse_fmt Y.toNat M.toNat D.toNat f.1 f.2.1 f.2.2
  rw [← e] at hp
  have := parse_more _ (l.drop k) h
  rw [List.take_append_drop] at this
  rw [this] at hp; cases hp

end Go.Proofs.Ytldllhfadihmeaa
