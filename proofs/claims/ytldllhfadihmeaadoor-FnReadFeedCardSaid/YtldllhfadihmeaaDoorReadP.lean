/- A text of elements as the reference reads it: three scans an element. Plain facts, no program. No condition. -/
import Derived.Test.YtldllhfadihmeaaDoorPlM
import Derived.Test.YtldllhfadihmeaaDoorBytes
namespace Go.Proofs.YtldllhfadihmeaaDoor

theorem elL_free' {e f : El} {x y : List UInt8} (he : elV e = true) (hf : 62 ∉ f.n) (h : elL e ++ x = elL f ++ y) : e = f ∧ x = y := by
  simp only [elL, List.append_assoc, List.cons_append, List.nil_append, List.cons.injEq, true_and] at h
  obtain ⟨h1, h2⟩ := upto_free (wordV_no ((elV_iff e).1 he).1 (.inr rfl)) hf h
  obtain ⟨h3, h4⟩ := upto_free (esc_no (.inl rfl)) (esc_no (.inl rfl)) h2
  simp only [List.cons.injEq, true_and] at h4
  rw [h1] at h4
  have h5 := List.append_cancel_left h4
  simp at h5
  exact ⟨El.eq_of h1 (esc_inj h3), h5⟩
theorem elsL_split' {a b : List El} {x : List UInt8} (ha : ∀ f ∈ a, 62 ∉ f.n) (hb : b.all elV = true) (h : elsL b = elsL a ++ x) : ∃ c, b = a ++ c ∧ elsL c = x ∧ c.all elV = true := by
  induction a generalizing b with
  | nil => exact ⟨b, rfl, by simpa [elsL] using h, hb⟩
  | cons d a ih =>
    cases b with
    | nil => rw [elsL_cons, elsL_nil, List.append_assoc] at h; exact absurd (List.append_eq_nil_iff.1 h.symm).1 (elL_ne d)
    | cons e b =>
      rw [elsL_cons, elsL_cons, List.append_assoc] at h
      rw [List.all_cons, Bool.and_eq_true] at hb
      obtain ⟨rfl, h2⟩ := elL_free' hb.1 (ha d (List.mem_cons_self ..)) h
      obtain ⟨c, rfl, hc, hv⟩ := ih (fun f hf => ha f (List.mem_cons_of_mem _ hf)) hb.2 h2
      exact ⟨c, rfl, hc, hv⟩
/-- No c from i to j. -/
def FreeC (l : List UInt8) (c : UInt8) (i j : Nat) : Prop := ∀ m, i ≤ m → m < j → l[m]? ≠ some c
theorem FreeC.zero (l : List UInt8) (c : UInt8) (i : Nat) : FreeC l c i i := fun m h1 h2 => by omega
theorem FreeC.next {l : List UInt8} {c : UInt8} {i j : Nat} (h : FreeC l c i j) (hj : l[j]? ≠ some c) : FreeC l c i (j + 1) := fun m h1 h2 => by
  by_cases hm : m = j
  · rw [hm]; exact hj
  · exact h m h1 (by omega)
/-- A scan's end. -/
def ScanC (l : List UInt8) (c : UInt8) (i j : Nat) : Prop := i ≤ j ∧ j ≤ l.length ∧ FreeC l c i j ∧ (j = l.length ∨ l[j]? = some c)
theorem ScanC.at {l u v : List UInt8} {c : UInt8} {i j : Nat} (h : ScanC l c i j) (hl : l.drop i = u ++ c :: v) (hu : c ∉ u) : j = i + u.length := by
  obtain ⟨h1, h2, h3, h4⟩ := h
  have e1 : l[i + u.length]? = some c := by
    rw [← List.getElem?_drop, hl, List.getElem?_append_right (by omega)]; simp
  by_cases hc1 : j < i + u.length
  · exfalso
    rcases h4 with h4 | h4
    · have := congrArg List.length hl
      rw [List.length_drop] at this
      simp at this; omega
    · have : l[i + (j - i)]? = some c := by rw [show i + (j - i) = j from by omega]; exact h4
      rw [← List.getElem?_drop, hl, List.getElem?_append_left (by omega)] at this
      exact hu (List.mem_of_getElem? this)
  · by_cases hc2 : i + u.length < j
    · exact absurd e1 (h3 _ (by omega) hc2)
    · omega
theorem ScanC.sub {s : ByteArray} {c : UInt8} {i j : Nat} (h : FreeC s.data.toList c i j) : c ∉ (s.extract i j).data.toList := by
  rw [Lib.extract_data]
  intro hm
  obtain ⟨m, hm⟩ := List.mem_iff_getElem?.1 hm
  rw [List.getElem?_take] at hm
  split at hm
  · rename_i h1
    rw [List.getElem?_drop] at hm
    exact h _ (by omega) (by omega) hm
  · cases hm
theorem part_at (s : ByteArray) {i j : Nat} (h : i ≤ j) : s.data.toList.drop i = (s.extract i j).data.toList ++ s.data.toList.drop j := by
  rw [Lib.extract_data]
  have := (List.take_append_drop (j - i) (s.data.toList.drop i)).symm
  rwa [List.drop_drop, show i + (j - i) = j from by omega] at this
theorem drop_cons {l : List UInt8} {c : UInt8} {i : Nat} (h : l[i]? = some c) : l.drop i = c :: l.drop (i + 1) := by
  obtain ⟨h1, h2⟩ := List.getElem?_eq_some_iff.1 h
  rw [List.drop_eq_getElem_cons h1, h2]

/-- Where an element begins, the three scans find its ends. -/
theorem scans_valid {s : ByteArray} {p a b c : Nat} (ha : ScanC s.data.toList 62 (p + 1) a) (hb : ScanC s.data.toList 60 a b) (hc : ScanC s.data.toList 62 b c) {f : El} (hf : elV f = true) (h : elL f <+: s.data.toList.drop p) :
    c < s.size ∧ s.data.toList[p]? = some 60 ∧ (s.extract (p + 1) a).data.toList = f.n ∧ (s.extract (a + 1) b).data.toList = esc f.t ∧ (s.extract b (c + 1)).data.toList = 60 :: 47 :: (f.n ++ [62]) := by
  obtain ⟨r, hr⟩ := h
  have hn := wordV_no ((elV_iff f).1 hf).1 (.inr rfl)
  have e0 : s.data.toList.drop p = 60 :: (f.n ++ 62 :: (esc f.t ++ 60 :: (47 :: (f.n ++ 62 :: r)))) := by rw [← hr]; simp [elL]
  have g0 : s.data.toList[p]? = some 60 := by
    have : (s.data.toList.drop p)[0]? = some 60 := by rw [e0]; rfl
    rwa [List.getElem?_drop, Nat.add_zero] at this
  have e1 : s.data.toList.drop (p + 1) = f.n ++ 62 :: (esc f.t ++ 60 :: (47 :: (f.n ++ 62 :: r))) := by
    rw [drop_cons g0] at e0; injection e0
  have a1 := ha.at e1 hn
  have e2 : s.data.toList.drop a = (62 :: esc f.t) ++ 60 :: (47 :: (f.n ++ 62 :: r)) := by
    rw [a1, ← List.drop_drop, e1, List.drop_left]; rfl
  have b1 := hb.at e2 (by
    intro hm
    rcases List.mem_cons.1 hm with hm | hm
    · exact absurd hm (by decide)
    · exact esc_no (.inl rfl) hm)
  have e3 : s.data.toList.drop b = (60 :: 47 :: f.n) ++ 62 :: r := by
    rw [b1, ← List.drop_drop, e2, List.drop_left]; rfl
  have c1 := hc.at e3 (by
    intro hm
    rcases List.mem_cons.1 hm with hm | hm
    · exact absurd hm (by decide)
    · rcases List.mem_cons.1 hm with hm | hm
      · exact absurd hm (by decide)
      · exact hn hm)
  have hz : s.size = s.data.toList.length := (size_toList s).symm
  have hlen : s.size - b = f.n.length + 2 + 1 + r.length := by
    have := congrArg List.length e3
    rw [List.length_drop, ← hz] at this
    rw [this]; simp; omega
  simp only [List.length_cons] at b1 c1
  refine ⟨by omega, g0, ?_, ?_, ?_⟩
  · rw [Lib.extract_data, e1, a1, Nat.add_sub_cancel_left, List.take_left]
  · rw [Lib.extract_data, show a + 1 = a + 1 from rfl, ← List.drop_drop, e2, List.cons_append, List.drop_one, List.tail_cons, show b - (a + 1) = (esc f.t).length from by omega, List.take_left]
  · rw [Lib.extract_data, e3, show c + 1 - b = (60 :: 47 :: (f.n ++ [62]) : List UInt8).length from by simp; omega, show (60 :: 47 :: f.n ++ 62 :: r : List UInt8) = (60 :: 47 :: (f.n ++ [62])) ++ r from by simp, List.take_left]
/-- .. and where the three scans find the ends of one, there it stands. -/
theorem scans_elem {s : ByteArray} {p a b c : Nat} {t : List UInt8} (ha : ScanC s.data.toList 62 (p + 1) a) (hb : ScanC s.data.toList 60 a b) (hc : ScanC s.data.toList 62 b c) (h0 : s.data.toList[p]? = some 60) (hl : c < s.size)
    (hu : unE (s.extract (a + 1) b).data.toList = some t) (hn : (s.extract b (c + 1)).data.toList = 60 :: 47 :: ((s.extract (p + 1) a).data.toList ++ [62])) {f : El} (h1 : f.1 = s.extract (p + 1) a) (h2 : f.t = t) :
    s.data.toList.drop p = elL f ++ s.data.toList.drop (c + 1) := by
  have hz : s.size = s.data.toList.length := (size_toList s).symm
  obtain ⟨a1, a2, _, a4⟩ := ha
  obtain ⟨b1, b2, _, b4⟩ := hb
  obtain ⟨c1, c2, _, c4⟩ := hc
  have ga : s.data.toList[a]? = some 62 := a4.resolve_left (by omega)
  have gb : s.data.toList[b]? = some 60 := b4.resolve_left (by omega)
  have hab : a ≠ b := by intro e; rw [e, gb] at ga; exact absurd ga (by decide)
  rw [drop_cons h0, part_at s a1, drop_cons ga, part_at s (show a + 1 ≤ b by omega), part_at s (show b ≤ c + 1 by omega), hn]
  have u2 := (unE_some hu).2
  simp only [elL, El.n, h1, h2, u2]
  simp
/-- What a round of the reference keeps. -/
def SpTo (s : ByteArray) (l : List El) (p : Nat) : Prop := (∀ f ∈ l, 62 ∉ f.n) ∧ s.data.toList = elsL l ++ s.data.toList.drop p
theorem SpTo.zero (s : ByteArray) : SpTo s [] 0 := ⟨fun f h => by simp at h, by simp [elsL]⟩
theorem drop_neP {s : ByteArray} {p : Nat} (h : p < s.size) : s.data.toList.drop p ≠ [] := by
  intro e
  have := congrArg List.length e
  rw [List.length_drop, size_toList] at this
  simp at this; omega
theorem SpTo.bad {s : ByteArray} {l : List El} {p : Nat} (h : SpTo s l p) (hp : p < s.size) (hn : ∀ f, elV f = true → ¬ elL f <+: s.data.toList.drop p) : readE s.data.toList = none := by
  apply readE_no
  intro b hb e
  obtain ⟨c, rfl, hc, hv⟩ := elsL_split' h.1 ((elsV_iff _).1 hb).2 (e.trans h.2)
  cases c with
  | nil => exact drop_neP hp hc.symm
  | cons f c =>
    rw [List.all_cons, Bool.and_eq_true] at hv
    exact hn f hv.1 ⟨elsL c, by rw [← elsL_cons]; exact hc⟩
theorem SpTo.full {s : ByteArray} {l : List El} {p : Nat} (h : SpTo s l p) (hp : p < s.size) (hk : l.length = 8) : readE s.data.toList = none := by
  apply readE_no
  intro b hb e
  obtain ⟨c, rfl, hc, hv⟩ := elsL_split' h.1 ((elsV_iff _).1 hb).2 (e.trans h.2)
  cases c with
  | nil => exact drop_neP hp hc.symm
  | cons f c =>
    have := ((elsV_iff _).1 hb).1
    simp at this
    omega
theorem SpTo.next {s : ByteArray} {l : List El} {p a b c : Nat} {t : List UInt8} (h : SpTo s l p) (ha : ScanC s.data.toList 62 (p + 1) a) (hb : ScanC s.data.toList 60 a b) (hc : ScanC s.data.toList 62 b c) (h0 : s.data.toList[p]? = some 60) (hl : c < s.size)
    (hu : unE (s.extract (a + 1) b).data.toList = some t) (hn : (s.extract b (c + 1)).data.toList = 60 :: 47 :: ((s.extract (p + 1) a).data.toList ++ [62])) {f : El} (h1 : f.1 = s.extract (p + 1) a) (h2 : f.t = t) : SpTo s (l ++ [f]) (c + 1) := by
  refine ⟨fun g hg => ?_, ?_⟩
  · rw [List.mem_append, List.mem_singleton] at hg
    rcases hg with hg | rfl
    · exact h.1 g hg
    · rw [El.n, h1]; exact ScanC.sub ha.2.2.1
  · rw [elsL_snoc, List.append_assoc, ← scans_elem ha hb hc h0 hl hu hn h1 h2]; exact h.2
theorem SpTo.done {s : ByteArray} {l : List El} {p : Nat} (h : SpTo s l p) (hp : ¬ p < s.size) : elsL l = s.data.toList := by
  have e := h.2
  rw [List.drop_of_length_le (by rw [size_toList]; omega), List.append_nil] at e
  exact e.symm
theorem SpTo.yes {s : ByteArray} {l : List El} {p : Nat} (h : SpTo s l p) (hp : ¬ p < s.size) (hv : elsV l = true) : readE s.data.toList = some l := readE_yes hv (h.done hp)
theorem SpTo.no {s : ByteArray} {l : List El} {p : Nat} (h : SpTo s l p) (hp : ¬ p < s.size) (hv : elsV l = false) : readE s.data.toList = none := by
  apply readE_no
  intro b hb e
  obtain ⟨c, rfl, hc, _⟩ := elsL_split' (x := []) h.1 ((elsV_iff _).1 hb).2 (by rw [List.append_nil, h.done hp]; exact e)
  cases c with
  | nil => rw [List.append_nil, hv] at hb; cases hb
  | cons f c => rw [elsL_cons] at hc; exact elL_ne f (List.append_eq_nil_iff.1 hc).1
end Go.Proofs.YtldllhfadihmeaaDoor
