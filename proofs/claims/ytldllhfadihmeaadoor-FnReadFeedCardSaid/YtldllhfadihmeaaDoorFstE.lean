/- The beginning of a text of elements, as the program reads it. Plain facts, no program. No condition. -/
import Derived.Test.YtldllhfadihmeaaDoorPlM
import Derived.Test.YtldllhfadihmeaaDoorBytes
namespace Go.Proofs.YtldllhfadihmeaaDoor

/-- What an element's text looks like, cut at the first > and the first < behind it. -/
theorem elL_cut (f : El) (r : List UInt8) : elL f ++ r = 60 :: (f.n ++ 62 :: (esc f.t ++ 60 :: (47 :: (f.n ++ 62 :: r)))) := by simp [elL]
/-- No > at all: no element begins the text. -/
theorem noE_gt {s : List UInt8} (h : 62 ∉ s) : ∀ f, elV f = true → ¬ elL f <+: s := by
  intro f _ hp
  exact h (hp.subset (by simp [elL]))
theorem noE_head {s : List UInt8} (h : s.head? ≠ some 60) : ∀ f, elV f = true → ¬ elL f <+: s := by
  rintro f _ ⟨r, rfl⟩
  rw [elL_cut] at h
  exact h rfl
/-- The name is what stands before the first >. -/
theorem cut_name {s a b : List UInt8} (hs : s = 60 :: (a ++ 62 :: b)) (ha : 62 ∉ a) {f : El} (hf : elV f = true) (h : elL f <+: s) : f.n = a ∧ (esc f.t ++ 60 :: (47 :: (f.n ++ [62]))) <+: b := by
  obtain ⟨r, hr⟩ := h
  rw [elL_cut, hs] at hr
  simp only [List.cons.injEq, true_and] at hr
  obtain ⟨h1, h2⟩ := upto_free (wordV_no ((elV_iff f).1 hf).1 (.inr rfl)) ha hr
  refine ⟨h1, r, ?_⟩
  rw [← h2]; simp
theorem noE_word {s a b : List UInt8} (hs : s = 60 :: (a ++ 62 :: b)) (ha : 62 ∉ a) (hw : wordV a = false) : ∀ f, elV f = true → ¬ elL f <+: s := by
  intro f hf h
  have := (cut_name hs ha hf h).1
  rw [← this, ((elV_iff f).1 hf).1] at hw; cases hw
theorem noE_lt {s a b : List UInt8} (hs : s = 60 :: (a ++ 62 :: b)) (ha : 62 ∉ a) (hb : 60 ∉ b) : ∀ f, elV f = true → ¬ elL f <+: s := by
  intro f hf h
  exact hb ((cut_name hs ha hf h).2.subset (by simp))
/-- The text is what stands before the next <. -/
theorem cut_text {s a b c d : List UInt8} (hs : s = 60 :: (a ++ 62 :: b)) (ha : 62 ∉ a) (hb : b = c ++ 60 :: d) (hc : 60 ∉ c) {f : El} (hf : elV f = true) (h : elL f <+: s) : f.n = a ∧ esc f.t = c ∧ (47 :: (a ++ [62])) <+: d := by
  obtain ⟨h1, r, hr⟩ := cut_name hs ha hf h
  rw [hb, List.append_assoc, List.cons_append] at hr
  obtain ⟨h2, h3⟩ := upto_free (esc_no (.inl rfl)) hc hr
  exact ⟨h1, h2, r, by rw [← h3, ← h1]⟩
theorem noE_text {s a b c d : List UInt8} (hs : s = 60 :: (a ++ 62 :: b)) (ha : 62 ∉ a) (hb : b = c ++ 60 :: d) (hc : 60 ∉ c) (hu : unE c = none) : ∀ f, elV f = true → ¬ elL f <+: s := by
  intro f hf h
  exact unE_none hu f.t ((elV_iff f).1 hf).2 (cut_text hs ha hb hc hf h).2.1
theorem noE_close {s a b c d : List UInt8} (hs : s = 60 :: (a ++ 62 :: b)) (ha : 62 ∉ a) (hb : b = c ++ 60 :: d) (hc : 60 ∉ c) (hd : ¬ (60 :: 47 :: (a ++ [62])) <+: 60 :: d) : ∀ f, elV f = true → ¬ elL f <+: s := by
  intro f hf h
  obtain ⟨r, hr⟩ := (cut_text hs ha hb hc hf h).2.2
  exact hd ⟨r, by rw [← hr]; rfl⟩
theorem isE {s a b c d t : List UInt8} (hs : s = 60 :: (a ++ 62 :: b)) (hb : b = c ++ 60 :: d) (hu : unE c = some t) (hw : wordV a = true) (hd : (60 :: 47 :: (a ++ [62])) <+: 60 :: d) {f : El} (h1 : f.n = a) (h2 : f.t = t) :
    elV f = true ∧ elL f <+: s ∧ (elL f).length = a.length + c.length + 2 + (a.length + 3) := by
  obtain ⟨u1, u2⟩ := unE_some hu
  obtain ⟨r, hr⟩ := hd
  refine ⟨(elV_iff f).2 ⟨by rw [h1]; exact hw, by rw [h2]; exact u1⟩, ⟨r, ?_⟩, ?_⟩
  · rw [elL_cut, h1, h2, u2, hs, hb, ← hr]
    simp
  · rw [elL_len, h1, h2, u2]; omega
theorem head_not {s : ByteArray} (h0 : 0 < s.size) (h : s[0].toNat ≠ 60) : s.data.toList.head? ≠ some 60 := by
  rw [head_at s h0]
  intro e
  injection e with e
  exact h (by rw [e]; rfl)
theorem head_is {s : ByteArray} (h0 : 0 < s.size) (h : s[0].toNat = 60) : s.data.toList = 60 :: s.data.toList.drop 1 := by
  have hs := drop_at s 0 h0
  rw [List.drop_zero] at hs
  rw [show s[0] = 60 from by rw [← UInt8.toNat_inj, h]; rfl] at hs
  exact hs
end Go.Proofs.YtldllhfadihmeaaDoor
