/- The laws' helpers on elements: szElementS, toElementS, eqElementS. -/
import Derived.Test.YtjkdjemefkignaaDoorElAt
import Derived.Deep.OwnRows
import Derived.Deep.RegionWith
namespace Go.Proofs.YtjkdjemefkignaaDoor
open Go.RowKit

theorem Tryd.infoE : (Tryd.prog.info? 54).map (fun i => (i.zero, i.size, i.bytes)) = some (some (.agg #[.string ⟨#[]⟩, .string ⟨#[]⟩]), 2, 32) := by kernel_rfl

/-- The cells of elements. -/
def flatE (l : List El) : List Value := l.flatMap fun e => [.string e.1, .string e.2]
theorem flatE_len (l : List El) : (flatE l).length = l.length * 2 := by
  induction l with
  | nil => rfl
  | cons e l ih => simp [flatE, List.flatMap_cons] at ih ⊢; omega
theorem flatE_app (a b : List El) : flatE (a ++ b) = flatE a ++ flatE b := by simp [flatE]
theorem flatE_at (l : List El) (k : Nat) (hk : k < l.length) : (flatE l)[k * 2]? = some (.string l[k].1) ∧ (flatE l)[k * 2 + 1]? = some (.string l[k].2) := by
  induction l generalizing k with
  | nil => simp at hk
  | cons e l ih =>
    cases k with
    | zero => exact ⟨rfl, rfl⟩
    | succ k =>
      have := ih k (by simpa using hk)
      rw [show (k + 1) * 2 = k * 2 + 1 + 1 from by omega]
      simpa [flatE, List.flatMap_cons] using this
theorem ElAt.own {w : World} {base t g n cap : Nat} {l : List El} (h : w.ownsRow base t 2 (.slice (some ⟨g, 0, none⟩) n cap) n (flatE l)) (hn : l.length = n) : ElAt w (some ⟨g, 0, none⟩) l := by
  intro k hk
  have e1 := h.cellAt (k * 2) (by omega)
  have e2 := h.cellAt (k * 2 + 1) (by omega)
  obtain ⟨f1, f2⟩ := flatE_at l k hk
  exact ⟨g, 0, rfl, by rw [Nat.zero_add]; exact e1.trans f1, by rw [Nat.zero_add]; exact e2.trans f2⟩

set_option maxHeartbeats 400000 in
theorem szElement_any (x y : ByteArray) (left : Int) (w : World) (hx : x.size ≤ maxLen) (hy : y.size ≤ maxLen) (h0 : 0 ≤ left) (h1 : left ≤ 1048576) :
    Calls Tryd.prog 41 #[.agg #[.string x, .string y], .int .i64 left] w fun e w' => (∃ r : Int, e = .returned (.int .i64 r) ∧ r ≤ left ∧ (0 ≤ r → (x.size : Int) ≤ left ∧ (y.size : Int) ≤ left)) ∧ Below w.heap.size w w' := by
  unfold maxLen at hx hy
  go_enter Tryd.func41, Tryd.ntmps41
  go_wp2
  all_goals
    go_ret
    exact ⟨⟨_, rfl, by omega, by omega⟩, (Below.refl _ _).alloc (Nat.le_refl _) _⟩

set_option maxHeartbeats 1000000 in
theorem szElementS_any (a : Option Addr) (n cap : Nat) (l : List El) (w : World) (h : ElAt w a l) (hn : l.length = n) (hm : n ≤ maxLen) (hs : ∀ e ∈ l, e.1.size ≤ maxLen ∧ e.2.size ≤ maxLen) :
    Calls Tryd.prog 19 #[.slice a n cap, .int .i64 1048576] w fun e w' => (∃ r : Int, e = .returned (.int .i64 r) ∧ (0 ≤ r → n ≤ 1048576 ∧ ∀ e ∈ l, e.1.size ≤ 1048576 ∧ e.2.size ≤ 1048576)) ∧ Below w.heap.size w w' := by
  unfold maxLen at hm
  have HN := Lib.hid hn
  have HE := Lib.hid h
  have HS := Lib.hid hs
  clear hn h hs
  by_cases hl : 1048576 < n
  · go_enter Tryd.func19, Tryd.ntmps19
    go_wp2
    go_ret
    exact ⟨⟨_, rfl, fun h => by omega⟩, Below.refl _ _⟩
  · go_enter Tryd.func19, Tryd.ntmps19
    go_wp2
    go_loopw [1, 5] (fun r i wr => ∃ (k : Nat) (v : Int), r = .int .i64 v ∧ i = .int .i64 k ∧ k ≤ n ∧ 0 ≤ v ∧ v ≤ 1048576 ∧ Hid (∀ e ∈ l.take k, e.1.size ≤ 1048576 ∧ e.2.size ≤ 1048576) ∧ Below w.heap.size w wr) (fun _ i _ => n - (intOf i).toNat)
    case atStart => exact ⟨0, _, rfl, rfl, by omega, by omega, by omega, fun e he => by simp at he, Below.refl _ _⟩
    case round =>
      obtain ⟨k, v, rfl, rfl, hk, v0, v1, ho, hbr⟩ := hrel
      by_cases hlt : k < n
      · have hkl : k < l.length := by rw [HN.out]; exact hlt
        obtain ⟨b, off, ha, h1, h2⟩ := HE.out.old hbr k hkl
        obtain ⟨hz1, hz2⟩ := HS.out _ (List.getElem_mem hkl)
        have c1 := Lib.hid (fun w => szElement_any l[k].1 l[k].2 v w hz1 hz2 v0 v1)
        have HT : Hid (∀ x : El, x = l[k] → x.1.size ≤ 1048576 → x.2.size ≤ 1048576 → ∀ e ∈ l.take (k + 1), e.1.size ≤ 1048576 ∧ e.2.size ≤ 1048576) := by
          intro x hx hx1 hx2 e he
          rw [List.take_succ_eq_append_getElem hkl, ← hx, List.mem_append, List.mem_singleton] at he
          rcases he with he | rfl
          · exact ho.out e he
          · exact ⟨hx1, hx2⟩
        obtain ⟨x, hx⟩ : ∃ x, x = l[k] := ⟨_, rfl⟩
        have HX := Lib.hid hx
        rw [← hx] at h1 h2 c1
        clear hx
        subst ha
        go_wp2_with fail
        refine (c1.out _).mono ?_
        rintro e w2 ⟨⟨r, rfl, r1, r2⟩, hb2⟩
        have hbz := hbr.trans (hb2.mono hbr.size)
        by_cases hr : 0 ≤ r
        · obtain ⟨r3, r4⟩ := r2 hr
          have HR := Lib.hid (HT.out x HX.out (by omega) (by omega))
          go_wp2
          go_roundw
          case rel => exact ⟨k + 1, r, rfl, by go_num, by omega, hr, by omega, HR.out, hbz⟩
          case measure => simp [intOf]; omega
        · go_wp2
          go_ret
          exact ⟨⟨_, rfl, fun h => by omega⟩, hbz⟩
      · have HR : Hid (∀ e ∈ l, e.1.size ≤ 1048576 ∧ e.2.size ≤ 1048576) := by
          have := ho.out
          rw [List.take_of_length_le (by rw [HN.out]; omega)] at this
          exact this
        go_wp2
        go_ret
        exact ⟨⟨_, rfl, fun _ => ⟨by omega, HR.out⟩⟩, hbr⟩

set_option maxHeartbeats 400000 in
theorem toElement_any (x y : ByteArray) (w : World) :
    Calls Tryd.prog 42 #[.agg #[.string x, .string y]] w fun e w' => e = .returned (.agg #[.string x, .string y]) ∧ Below w.heap.size w w' := by
  go_enter Tryd.func42, Tryd.ntmps42
  go_wp2
  refine bodyPost_ret (v := .agg #[.string x, .string y]) ?_ rfl ⟨rfl, (((Below.refl _ _).alloc (Nat.le_refl _) _).alloc (by simp) _).alloc (by simp; omega) _⟩
  have hres : Tryd.f42.results = #[.cell 2 54] := by kernel_rfl
  simp only [results, hres]
  go_simp

theorem grown_thru {a b c : World} {row : Option Nat} (h : a.grownBy b row) (k : b.grownBy c row) : a.grownBy c row :=
  ⟨k.os.trans h.os, k.tape.trans h.tape, k.output.trans h.output, Nat.le_trans h.size k.size, fun i hi hne => (k.block i (Nat.lt_of_lt_of_le hi h.size) hne).trans (h.block i hi hne)⟩
/-- A row that is being filled: its first k elements are l's. -/
def FillTo (w : World) (base g n k : Nat) (l : List El) : Prop :=
  ∃ xs : List Value, w.ownsRow base 54 2 (.slice (some ⟨g, 0, none⟩) n n) n xs ∧ xs.take (k * 2) = flatE (l.take k)
theorem FillTo.start {w : World} {base g n : Nat} {xs : List Value} (l : List El) (h : w.ownsRow base 54 2 (.slice (some ⟨g, 0, none⟩) n n) n xs) : FillTo w base g n 0 l := ⟨xs, h, by simp [flatE]⟩
theorem FillTo.kept {w w' : World} {base g n k : Nat} {l : List El} (h : FillTo w base g n k l) (hg : w.grownBy w' none) : FillTo w' base g n k l := by
  obtain ⟨xs, h1, h2⟩ := h
  exact ⟨xs, h1.kept hg (.inr (by simp [Value.ownBlock])), h2⟩
theorem FillTo.cells {w : World} {base g n k : Nat} {l : List El} (h : FillTo w base g n k l) (hk : k < n) : (∃ u, w.cell? ⟨g, k * 2, none⟩ = some u) ∧ (∃ u, w.cell? ⟨g, k * 2 + 1, none⟩ = some u) ∧ w.frozen? ⟨g, k * 2, none⟩ = false ∧ w.frozen? ⟨g, k * 2 + 1, none⟩ = false ∧ base ≤ g ∧ g < w.heap.size := by
  obtain ⟨xs, h1, h2⟩ := h
  have hl := h1.lt g rfl
  refine ⟨⟨xs[k * 2]'(by rw [h1.1]; omega), ?_⟩, ⟨xs[k * 2 + 1]'(by rw [h1.1]; omega), ?_⟩, h1.frozenAt _, h1.frozenAt _, hl.1, hl.2⟩
  · rw [h1.cellAt _ (by omega), List.getElem?_eq_getElem (by rw [h1.1]; omega)]
  · rw [h1.cellAt _ (by omega), List.getElem?_eq_getElem (by rw [h1.1]; omega)]
theorem FillTo.done {w : World} {base g n : Nat} {l : List El} (h : FillTo w base g n n l) (hn : l.length = n) : w.ownsRow base 54 2 (.slice (some ⟨g, 0, none⟩) n n) n (flatE l) := by
  obtain ⟨xs, h1, h2⟩ := h
  rw [List.take_of_length_le (by rw [h1.1]; omega), List.take_of_length_le (by omega)] at h2
  rwa [h2] at h1
theorem take_set2 {xs : List Value} {k : Nat} {ys : List Value} (hy : xs.take (k * 2) = ys) (hk : k * 2 + 1 < xs.length) (u v : Value) : ((xs.set (k * 2) u).set (k * 2 + 1) v).take ((k + 1) * 2) = ys ++ [u, v] := by
  have hl : ys.length = k * 2 := by rw [← hy, List.length_take]; omega
  apply List.ext_getElem?
  intro j
  rw [List.getElem?_take]
  by_cases h1 : j < k * 2
  · rw [if_pos (by omega), List.getElem?_set_ne (by omega), List.getElem?_set_ne (by omega), List.getElem?_append_left (by omega), ← hy, List.getElem?_take, if_pos h1]
  · rw [List.getElem?_append_right (by omega), hl]
    by_cases h2 : j = k * 2
    · subst h2
      rw [if_pos (by omega), List.getElem?_set_ne (by omega), List.getElem?_set_self (by omega)]
      simp
    · by_cases h3 : j = k * 2 + 1
      · subst h3
        rw [if_pos (by omega), List.getElem?_set_self (by simp; omega)]
        simp [show k * 2 + 1 - k * 2 = 1 from by omega]
      · rw [if_neg (by omega)]
        rw [List.getElem?_eq_none (by simp; omega)]
theorem FillTo.next {w : World} {base g n k : Nat} {l : List El} (h : FillTo w base g n k l) (hk : k < n) (hn : l.length = n) (hkl : k < l.length) :
    FillTo ((w.setCell ⟨g, k * 2, none⟩ (.string l[k].1)).setCell ⟨g, k * 2 + 1, none⟩ (.string l[k].2)) base g n (k + 1) l ∧ w.grownBy ((w.setCell ⟨g, k * 2, none⟩ (.string l[k].1)).setCell ⟨g, k * 2 + 1, none⟩ (.string l[k].2)) (some g) := by
  obtain ⟨xs, h1, h2⟩ := h
  have s1 := h1.stored (k * 2) (.string l[k].1)
  have s2 := s1.1.stored (k * 2 + 1) (.string l[k].2)
  refine ⟨⟨_, s2.1, ?_⟩, grown_thru s1.2 s2.2⟩
  rw [take_set2 h2 (by rw [h1.1]; omega), List.take_succ_eq_append_getElem hkl, flatE_app]
  rfl

set_option maxHeartbeats 1000000 in
theorem toElementS_any (a : Option Addr) (n cap : Nat) (l : List El) (w : World) (h : ElAt w a l) (hn : l.length = n) (hm : n ≤ 1048576) :
    Calls Tryd.prog 21 #[.slice a n cap] w fun e w' => (∃ g, e = .returned (.slice (some ⟨g, 0, none⟩) n n) ∧ w'.ownsRow w.heap.size 54 2 (.slice (some ⟨g, 0, none⟩) n n) n (flatE l)) ∧ Below w.heap.size w w' := by
  obtain ⟨i0, hi, hz0, hz1, hz2⟩ := info_parts Tryd.infoE
  have HN := Lib.hid hn
  have HE := Lib.hid h
  clear hn h
  go_enter Tryd.func21, Tryd.ntmps21
  go_wp2_with (at_make; refine wpList_make_full _ rfl _ _ 33 rfl w.heap.size 54 i0 _ 2 Tryd.underlying33 hi hz0 hz1 _ _ _ _ n rfl rfl rfl rfl (by rw [hz2]; omega) (by unfold maxLen; omega) (Nat.le_refl _) ?_; intro w1 hown hgrow)
  have HF := Lib.hid (FillTo.start l hown)
  have hb1 := (Below.refl w.heap.size w).grown hgrow (Nat.le_refl _) (fun _ e => by cases e)
  clear hown hgrow
  go_loopw [4] (fun i wr => ∃ k : Nat, i = .int .i64 k ∧ k ≤ n ∧ FillTo wr w.heap.size w.heap.size n k l ∧ Below w.heap.size w wr) (fun i _ => n - (intOf i).toNat)
  case atStart => exact ⟨0, rfl, by omega, HF.out, hb1⟩
  case round =>
    obtain ⟨k, rfl, hk, hf, hbr⟩ := hrel
    by_cases hlt : k < n
    · have hkl : k < l.length := by rw [HN.out]; exact hlt
      obtain ⟨b, off, ha, h1, h2⟩ := HE.out.old hbr k hkl
      have c1 := Lib.hid (fun w => toElement_any l[k].1 l[k].2 w)
      have HK := Lib.hid (fun w' (hg : wr.grownBy w' none) => (hf.kept hg).next hlt HN.out hkl)
      have HC := Lib.hid (fun w' (hg : wr.grownBy w' none) => (hf.kept hg).cells hlt)
      clear hf
      generalize l[k] = x at *
      subst ha
      go_wp2_with fail
      refine (c1.out _).mono ?_
      rintro e w2 ⟨rfl, hb2⟩
      have hg := below_grown hb2
      obtain ⟨⟨u, hu⟩, ⟨v, hv⟩, fu, fv, _, hlw⟩ := HC.out w2 hg
      obtain ⟨N1, N2⟩ := HK.out w2 hg
      have HN1 := Lib.hid N1
      have HN2 := Lib.hid N2
      clear N1 N2
      go_wp2
      have hbz := (hbr.trans (hb2.mono hbr.size)).grown HN2.out (Nat.le_of_lt hlw) (fun j e => by injection e with e; omega)
      go_roundw
      case rel => exact ⟨k + 1, by go_num, by omega, HN1.out, hbz⟩
      case measure => simp [intOf]; omega
    · obtain rfl : k = n := by omega
      have HD := Lib.hid (hf.done HN.out)
      clear hf
      go_wp2
      go_ret
      exact ⟨⟨_, rfl, HD.out⟩, hbr⟩

theorem eqEl_iff (x y : El) : (eqS x.1 y.1 && eqS x.2 y.2) = decide (x = y) := by
  rw [Bool.eq_iff_iff, Bool.and_eq_true, eqS_iff, eqS_iff, decide_eq_true_iff]
  constructor
  · rintro ⟨h1, h2⟩; exact Prod.ext h1 h2
  · rintro rfl; exact ⟨rfl, rfl⟩
set_option maxHeartbeats 400000 in
theorem eqElement_any (x y : El) (w : World) :
    Calls Tryd.prog 44 #[.agg #[.string x.1, .string x.2], .agg #[.string y.1, .string y.2]] w fun e w' => e = .returned (.bool (decide (x = y))) ∧ Below w.heap.size w w' := by
  have hb : Below w.heap.size w ((w.alloc (.cells #[.string x.1, .string x.2] 54)).alloc (.cells #[.string y.1, .string y.2] 54)) := ((Below.refl _ _).alloc (Nat.le_refl _) _).alloc (by simp) _
  have E := Lib.hid (eqEl_iff x y)
  cases h1 : eqS x.1 y.1
  · rw [h1, Bool.false_and] at E
    have h2 : (x.1.toList == y.1.toList) = false := h1
    clear h1
    go_enter Tryd.func44, Tryd.ntmps44
    go_wp2
    go_ret
    exact ⟨ret_bool E.out, hb⟩
  · have h2 : (x.1.toList == y.1.toList) = true := h1
    rw [h1, Bool.true_and] at E
    cases h3 : eqS x.2 y.2
    · rw [h3] at E
      have h4 : (x.2.toList == y.2.toList) = false := h3
      clear h1 h3
      go_enter Tryd.func44, Tryd.ntmps44
      go_wp2
      go_ret
      exact ⟨ret_bool E.out, hb⟩
    · rw [h3] at E
      have h4 : (x.2.toList == y.2.toList) = true := h3
      clear h1 h3
      go_enter Tryd.func44, Tryd.ntmps44
      go_wp2
      go_ret
      exact ⟨ret_bool E.out, hb⟩

theorem take_eq_step {l l' : List El} {k : Nat} (h : l.take k = l'.take k) (h1 : k < l.length) (h2 : k < l'.length) (he : l[k] = l'[k]) : l.take (k + 1) = l'.take (k + 1) := by
  rw [List.take_succ_eq_append_getElem h1, List.take_succ_eq_append_getElem h2, h, he]
theorem ne_at {l l' : List El} {k : Nat} (h1 : k < l.length) (h2 : k < l'.length) (he : l[k] ≠ l'[k]) : l ≠ l' := by
  rintro rfl; exact he rfl

set_option maxHeartbeats 2000000 in
theorem eqElementS_any (a a' : Option Addr) (n cap n' cap' : Nat) (l l' : List El) (w : World) (h : ElAt w a l) (hn : l.length = n) (h' : ElAt w a' l') (hn' : l'.length = n') (hm : n ≤ maxLen) (hm' : n' ≤ maxLen) :
    Calls Tryd.prog 23 #[.slice a n cap, .slice a' n' cap'] w fun e w' => e = .returned (.bool (decide (l = l'))) ∧ Below w.heap.size w w' := by
  unfold maxLen at hm hm'
  by_cases hnn : n = n'
  · have HN := Lib.hid hn
    have HN' : Hid (l'.length = n) := by rw [hn', hnn]; rfl
    have HE := Lib.hid h
    have HE' := Lib.hid h'
    clear hn h hn' h'
    subst hnn
    go_enter Tryd.func23, Tryd.ntmps23
    go_wp2
    go_loopw [5] (fun i wr => ∃ k : Nat, i = .int .i64 k ∧ k ≤ n ∧ Hid (l.take k = l'.take k) ∧ Below w.heap.size w wr) (fun i _ => n - (intOf i).toNat)
    case atStart => exact ⟨0, rfl, by omega, rfl, Below.refl _ _⟩
    case round =>
      obtain ⟨k, rfl, hk, ho, hbr⟩ := hrel
      by_cases hlt : k < n
      · have hkl : k < l.length := by rw [HN.out]; exact hlt
        have hkl' : k < l'.length := by rw [HN'.out]; exact hlt
        obtain ⟨b, off, ha, h1, h2⟩ := HE.out.old hbr k hkl
        obtain ⟨b', off', ha', h1', h2'⟩ := HE'.out.old hbr k hkl'
        have hd : (decide (l[k] = l'[k]) = true → Hid (l.take (k + 1) = l'.take (k + 1))) ∧ (decide (l[k] = l'[k]) = false → Hid (decide (l = l') = false)) := by
          constructor
          · intro e; exact take_eq_step ho hkl hkl' (of_decide_eq_true e)
          · intro e; exact decide_eq_false (ne_at hkl hkl' (of_decide_eq_false e))
        have HD := Lib.hid hd
        clear hd
        have c1 := Lib.hid (fun w => eqElement_any l[k] l'[k] w)
        generalize l[k] = x at *
        generalize l'[k] = y at *
        generalize decide (x = y) = q at *
        subst ha
        subst ha'
        go_wp2_with fail
        go_region_with (go_at_call 44; refine (c1.out _).mono ?_; rintro e w2 ⟨rfl, hb2⟩)
        all_goals
          have hbz : Below w.heap.size w w2 := hbr.trans ((Below.mono ⟨hb2.os, hb2.tape, hb2.output, hb2.size, hb2.block⟩ hbr.size : Below w.heap.size wr w2))
          cases q
          · have E := HD.out.2 rfl
            go_wp2
            go_ret
            exact ⟨(ret_bool E.out).symm, hbz⟩
          · have E := HD.out.1 rfl
            go_wp2
            go_roundw
            case rel => exact ⟨k + 1, by go_num, by omega, E, hbz⟩
            case measure => simp [intOf]; omega
      · have E : Hid (decide (l = l') = true) := by
          have := ho.out
          rw [List.take_of_length_le (by rw [HN.out]; omega), List.take_of_length_le (by rw [HN'.out]; omega)] at this
          exact decide_eq_true this
        go_wp2
        go_ret
        exact ⟨(ret_bool E.out).symm, hbr⟩
  · have hb : ((n : Int) != (n' : Int)) = true := by rw [bne_iff_ne]; omega
    have E : Hid (decide (l = l') = false) := decide_eq_false (by intro e; rw [e] at hn; omega)
    clear hnn
    go_enter Tryd.func23, Tryd.ntmps23
    go_wp2
    go_ret
    exact ⟨(ret_bool E.out).symm, Below.refl _ _⟩
end Go.Proofs.YtjkdjemefkignaaDoor
