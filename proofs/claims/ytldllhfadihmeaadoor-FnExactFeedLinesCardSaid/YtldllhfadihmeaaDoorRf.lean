/- What ReadFeed and FeedLines compute. Plain facts, no program. No condition. -/
import Derived.Test.YtldllhfadihmeaaDoorFeed
namespace Go.Proofs.YtldllhfadihmeaaDoor

/-- Reading lines on, from a feed and a count of bad lines; none if there would be too many items. -/
noncomputable def rdF : List It → Nat → List ByteArray → Option (List It × Nat)
  | out, bad, [] => some (out, bad)
  | out, bad, s :: ss => match readI s.data.toList with
    | none => rdF out (bad + 1) ss
    | some i => if hasK out i.key = true then rdF out bad ss else if out.length = 8 then none else rdF (out ++ [i]) bad ss
theorem rdF_bad {out : List It} {bad : Nat} {s : ByteArray} {ss : List ByteArray} (h : readI s.data.toList = none) : rdF out bad (s :: ss) = rdF out (bad + 1) ss := by
  rw [rdF, h]
theorem rdF_has {out : List It} {bad : Nat} {s : ByteArray} {ss : List ByteArray} {i : It} (h : readI s.data.toList = some i) (hk : hasK out i.key = true) : rdF out bad (s :: ss) = rdF out bad ss := by
  rw [rdF, h]
  exact if_pos hk
theorem rdF_full {out : List It} {bad : Nat} {s : ByteArray} {ss : List ByteArray} {i : It} (h : readI s.data.toList = some i) (hk : hasK out i.key = false) (hl : out.length = 8) : rdF out bad (s :: ss) = none := by
  rw [rdF, h]
  simp only [hk, Bool.false_eq_true, if_false, hl, if_true]
theorem rdF_new {out : List It} {bad : Nat} {s : ByteArray} {ss : List ByteArray} {i : It} (h : readI s.data.toList = some i) (hk : hasK out i.key = false) (hl : out.length ≠ 8) : rdF out bad (s :: ss) = rdF (out ++ [i]) bad ss := by
  rw [rdF, h]
  simp only [hk, Bool.false_eq_true, if_false, hl]
theorem feedV_snoc {out : List It} {i : It} (h : feedV out = true) (hi : itV i = true) : feedV (out ++ [i]) = (decide (out.length < 8) && !hasK out i.key) := by
  obtain ⟨h1, h2, h3⟩ := (feedV_iff out).1 h
  unfold feedV
  rw [freshK_snoc, h3, List.all_append, h2, List.length_append]
  have e : decide (out.length + [i].length ≤ 8) = decide (out.length < 8) := by
    rw [Bool.eq_iff_iff, decide_eq_true_iff, decide_eq_true_iff, List.length_singleton]; omega
  rw [e]
  simp [hi]
theorem feedV_snoc_new {out : List It} {i : It} (h : feedV out = true) (hi : itV i = true) (hk : hasK out i.key = false) (hl : out.length < 8) : feedV (out ++ [i]) = true := by
  rw [feedV_snoc h hi, hk]; simp [hl]
/-- What a round of reading keeps. -/
def RfTo (L : List ByteArray) (k : Nat) (out : List It) (bad : Nat) : Prop := rdF [] 0 L = rdF out bad (L.drop k) ∧ feedV out = true ∧ bad ≤ k
theorem RfTo.zero (L : List ByteArray) : RfTo L 0 [] 0 := ⟨rfl, rfl, Nat.le_refl _⟩
theorem drop_next {L : List ByteArray} {k : Nat} (hk : k < L.length) : L.drop k = L[k] :: L.drop (k + 1) := List.drop_eq_getElem_cons hk
theorem RfTo.bad {L : List ByteArray} {k : Nat} {out : List It} {b : Nat} (h : RfTo L k out b) (hk : k < L.length) (hr : readI L[k].data.toList = none) : RfTo L (k + 1) out (b + 1) :=
  ⟨by rw [h.1, drop_next hk, rdF_bad hr], h.2.1, by have := h.2.2; omega⟩
theorem RfTo.has {L : List ByteArray} {k : Nat} {out : List It} {b : Nat} (h : RfTo L k out b) (hk : k < L.length) {i : It} (hr : readI L[k].data.toList = some i) (hh : hasK out i.key = true) : RfTo L (k + 1) out b :=
  ⟨by rw [h.1, drop_next hk, rdF_has hr hh], h.2.1, by have := h.2.2; omega⟩
theorem RfTo.new {L : List ByteArray} {k : Nat} {out : List It} {b : Nat} (h : RfTo L k out b) (hk : k < L.length) {i : It} (hr : readI L[k].data.toList = some i) (hh : hasK out i.key = false) (hl : out.length ≠ 8) : RfTo L (k + 1) (out ++ [i]) b := by
  have h8 := ((feedV_iff out).1 h.2.1).1
  exact ⟨by rw [h.1, drop_next hk, rdF_new hr hh hl], feedV_snoc_new h.2.1 (readI_valid hr) hh (by omega), by have := h.2.2; omega⟩
theorem RfTo.full {L : List ByteArray} {k : Nat} {out : List It} {b : Nat} (h : RfTo L k out b) (hk : k < L.length) {i : It} (hr : readI L[k].data.toList = some i) (hh : hasK out i.key = false) (hl : out.length = 8) : rdF [] 0 L = none := by
  rw [h.1, drop_next hk, rdF_full hr hh hl]
theorem RfTo.done {L : List ByteArray} {k : Nat} {out : List It} {b : Nat} (h : RfTo L k out b) (hk : L.length ≤ k) : rdF [] 0 L = some (out, b) := by
  rw [h.1, List.drop_of_length_le hk]; rfl
theorem RfTo.len {L : List ByteArray} {k : Nat} {out : List It} {b : Nat} (h : RfTo L k out b) : out.length ≤ 8 := ((feedV_iff out).1 h.2.1).1
/-- How many lines are none. -/
noncomputable def badN (L : List ByteArray) : Nat := L.countP (fun s => (readI s.data.toList).isNone)
theorem rdF_run : ∀ (L : List ByteArray) (out : List It) (bad : Nat) (x : List It) (b : Nat), rdF out bad L = some (x, b) → feedV out = true →
    feedV x = true ∧ b = bad + badN L ∧ (∀ k, hasK out k = true → hasK x k = true) ∧ ∀ s ∈ L, ∀ i, readI s.data.toList = some i → hasK x i.key = true
  | [], out, bad, x, b, h, hv => by
    rw [rdF] at h
    injection h with h
    injection h with h1 h2
    subst h1; subst h2
    exact ⟨hv, by simp [badN], fun _ h => h, fun s hs => by simp at hs⟩
  | s :: ss, out, bad, x, b, h, hv => by
    cases hr : readI s.data.toList with
    | none =>
      rw [rdF_bad hr] at h
      obtain ⟨h1, h2, h3, h4⟩ := rdF_run ss _ _ _ _ h hv
      refine ⟨h1, ?_, h3, ?_⟩
      · rw [h2]; simp [badN, hr]; omega
      · intro t ht i hi
        rcases List.mem_cons.1 ht with rfl | ht
        · rw [hr] at hi; cases hi
        · exact h4 t ht i hi
    | some i =>
      have hc : badN (s :: ss) = badN ss := by simp [badN, hr]
      cases hk : hasK out i.key
      · by_cases hl : out.length = 8
        · rw [rdF_full hr hk hl] at h; cases h
        · rw [rdF_new hr hk hl] at h
          have h8 := ((feedV_iff out).1 hv).1
          obtain ⟨h1, h2, h3, h4⟩ := rdF_run ss _ _ _ _ h (feedV_snoc_new hv (readI_valid hr) hk (by omega))
          refine ⟨h1, by rw [h2, hc], fun k hk' => h3 k (by rw [hasK_app, hk']; rfl), ?_⟩
          intro t ht j hj
          rcases List.mem_cons.1 ht with rfl | ht
          · rw [hr] at hj; injection hj with hj; subst hj
            exact h3 _ (by rw [hasK_app]; simp [hasK, eqS_iff])
          · exact h4 t ht j hj
      · rw [rdF_has hr hk] at h
        obtain ⟨h1, h2, h3, h4⟩ := rdF_run ss _ _ _ _ h hv
        refine ⟨h1, by rw [h2, hc], h3, ?_⟩
        intro t ht j hj
        rcases List.mem_cons.1 ht with rfl | ht
        · rw [hr] at hj; injection hj with hj; subst hj
          exact h3 _ hk
        · exact h4 t ht j hj
theorem rdF_again : ∀ (L : List ByteArray) (x : List It) (b : Nat), (∀ s ∈ L, ∀ i, readI s.data.toList = some i → hasK x i.key = true) → rdF x b L = some (x, b + badN L)
  | [], x, b, _ => by rw [rdF]; simp [badN]
  | s :: ss, x, b, h => by
    have ht := fun t (ht : t ∈ ss) => h t (List.mem_cons_of_mem _ ht)
    cases hr : readI s.data.toList with
    | none =>
      rw [rdF_bad hr, rdF_again ss x (b + 1) ht]
      simp [badN, hr]; omega
    | some i =>
      rw [rdF_has hr (h s (List.mem_cons_self ..) i hr), rdF_again ss x b ht]
      simp [badN, hr]
theorem rdF_app : ∀ (a b : List ByteArray) (out : List It) (n : Nat), rdF out n (a ++ b) = (rdF out n a).bind fun p => rdF p.1 p.2 b
  | [], b, out, n => by rw [rdF]; rfl
  | s :: ss, b, out, n => by
    rw [List.cons_append]
    cases hr : readI s.data.toList with
    | none => rw [rdF_bad hr, rdF_bad hr, rdF_app]
    | some i =>
      cases hk : hasK out i.key
      · by_cases hl : out.length = 8
        · rw [rdF_full hr hk hl, rdF_full hr hk hl]; rfl
        · rw [rdF_new hr hk hl, rdF_new hr hk hl, rdF_app]
      · rw [rdF_has hr hk, rdF_has hr hk, rdF_app]
/-- Reading the lines twice. -/
theorem rdF_twice {L : List ByteArray} {x : List It} {b : Nat} (h : rdF [] 0 L = some (x, b)) : rdF [] 0 (L ++ L) = some (x, 2 * b) ∧ feedV x = true ∧ b ≤ L.length := by
  obtain ⟨h1, h2, h3, h4⟩ := rdF_run L [] 0 x b h rfl
  rw [rdF_app, h]
  refine ⟨?_, h1, ?_⟩
  · show rdF x b L = _
    rw [rdF_again L x b h4, h2]
    congr 2; omega
  · rw [h2, Nat.zero_add]; exact List.countP_le_length
/-- The lines of a feed. -/
noncomputable def linesF (l : List It) : List ByteArray := if feedV l = true then l.map (fun i => bs (itT i)) else []
theorem linesF_bad {l : List It} (h : feedV l = false) : linesF l = [] := by unfold linesF; rw [h]; rfl
theorem linesF_ok {l : List It} (h : feedV l = true) : linesF l = l.map (fun i => bs (itT i)) := by unfold linesF; rw [if_pos h]
theorem linesF_len (l : List It) : (linesF l).length ≤ 8 := by
  unfold linesF
  split
  · rename_i h
    rw [List.length_map]; exact ((feedV_iff l).1 h).1
  · simp
theorem hasK_lt {l : List It} (h : freshK l = true) : ∀ {k : Nat} (hk : k < l.length), hasK (l.take k) l[k].key = false := by
  intro k hk
  have := freshK_take h (k + 1)
  rw [take_snocI l k hk, freshK_snoc, Bool.and_eq_true] at this
  simpa using this.2
theorem rd_lines {l : List It} (h : feedV l = true) : ∀ k, k ≤ l.length → rdF [] 0 ((l.take k).map (fun i => bs (itT i))) = some (l.take k, 0)
  | 0, _ => by rw [List.take_zero]; rfl
  | k + 1, hk => by
    obtain ⟨h1, h2, h3⟩ := (feedV_iff l).1 h
    have hi : itV l[k] = true := List.all_eq_true.1 h2 _ (List.getElem_mem (by omega))
    rw [take_snocI l k (by omega), List.map_append, rdF_app, rd_lines h k (by omega)]
    show rdF (l.take k) 0 [bs (itT l[k])] = _
    rw [rdF_new (i := l[k]) (by rw [bs_list]; exact read_item hi) (hasK_lt h3 (by omega)) (by rw [List.length_take]; omega)]
    rfl
/-- The lines of a feed, read. -/
theorem rdF_lines {l : List It} (h : feedV l = true) : rdF [] 0 (linesF l) = some (l, 0) := by
  have := rd_lines h l.length (Nat.le_refl _)
  rw [List.take_length] at this
  rw [linesF_ok h, this]
/-- What a round of FeedLines keeps. -/
def LnTo (l : List It) (k : Nat) (q : List ByteArray) : Prop := q = (l.take k).map (fun i => bs (itT i))
theorem LnTo.zero (l : List It) : LnTo l 0 [] := by simp [LnTo]
theorem LnTo.next {l : List It} {k : Nat} {q : List ByteArray} (h : LnTo l k q) (hk : k < l.length) : LnTo l (k + 1) (q ++ [bs (itT l[k])]) := by
  unfold LnTo at *
  rw [take_snocI l k hk, List.map_append, ← h]; rfl
theorem LnTo.done {l : List It} {k : Nat} {q : List ByteArray} (h : LnTo l k q) (hk : l.length ≤ k) : q = l.map (fun i => bs (itT i)) := by
  unfold LnTo at h
  rwa [List.take_of_length_le hk] at h
end Go.Proofs.YtldllhfadihmeaaDoor
