/- Rows of items: szItemS, toItemS, eqItemS. -/
import Derived.Test.YtldllhfadihmeaaItL
namespace Go.Proofs.Ytldllhfadihmeaa
open Go.RowKit

theorem Try.infoI : (Try.prog.info? 34).map (fun i => (i.zero, i.size, i.bytes)) = some (some (.agg #[.string ⟨#[]⟩, .string ⟨#[]⟩, .string ⟨#[]⟩, .int .i64 0]), 4, 56) := by kernel_rfl

/-- The cells of items. -/
def flatI (l : List It) : List Value := l.flatMap fun e => [.string e.key, .string e.title, .string e.body, .int .i64 e.day]
theorem flatI_len (l : List It) : (flatI l).length = l.length * 4 := by
  induction l with
  | nil => rfl
  | cons e l ih => simp [flatI, List.flatMap_cons] at ih ⊢; omega
theorem flatI_app (a b : List It) : flatI (a ++ b) = flatI a ++ flatI b := by simp [flatI]
theorem flatI_at (l : List It) (k : Nat) (hk : k < l.length) : (flatI l)[k * 4]? = some (.string l[k].key) ∧ (flatI l)[k * 4 + 1]? = some (.string l[k].title) ∧ (flatI l)[k * 4 + 2]? = some (.string l[k].body) ∧ (flatI l)[k * 4 + 3]? = some (.int .i64 l[k].day) := by
  induction l generalizing k with
  | nil => simp at hk
  | cons e l ih =>
    cases k with
    | zero => exact ⟨rfl, rfl, rfl, rfl⟩
    | succ k =>
      have := ih k (by simpa using hk)
      rw [show (k + 1) * 4 = k * 4 + 1 + 1 + 1 + 1 from by omega, show k * 4 + 1 + 1 + 1 + 1 + 1 = k * 4 + 1 + 1 + 1 + 1 + 1 from rfl, show k * 4 + 1 + 1 + 1 + 1 + 2 = k * 4 + 2 + 1 + 1 + 1 + 1 from by omega, show k * 4 + 1 + 1 + 1 + 1 + 3 = k * 4 + 3 + 1 + 1 + 1 + 1 from by omega]
      simpa [flatI, List.flatMap_cons] using this
theorem flatI_one (l : List It) : ∀ u ∈ flatI l, u.oneCell' = true := fun u hu => by
  obtain ⟨e, _, he⟩ := List.mem_flatMap.1 hu
  simp at he
  rcases he with rfl | rfl | rfl | rfl <;> rfl
theorem ItAt.own {w : World} {base t g n cap : Nat} {l : List It} (h : w.ownsRow base t 4 (.slice (some ⟨g, 0, none⟩) n cap) n (flatI l)) (hn : l.length = n) : ItAt w (some ⟨g, 0, none⟩) l := by
  intro k hk
  have e0 := h.cellAt (k * 4) (by omega)
  have e1 := h.cellAt (k * 4 + 1) (by omega)
  have e2 := h.cellAt (k * 4 + 2) (by omega)
  have e3 := h.cellAt (k * 4 + 3) (by omega)
  obtain ⟨f0, f1, f2, f3⟩ := flatI_at l k hk
  exact ⟨g, 0, rfl, by rw [Nat.zero_add]; exact e0.trans f0, by rw [Nat.zero_add]; exact e1.trans f1, by rw [Nat.zero_add]; exact e2.trans f2, by rw [Nat.zero_add]; exact e3.trans f3⟩
theorem ItAt.own' {w : World} {base t n cap : Nat} {a : Option Addr} {l : List It} (h : w.ownsRow base t 4 (.slice a n cap) n (flatI l)) (hn : l.length = n) : ItAt w a l := by
  by_cases h0 : 0 < n
  · rcases h.2 with ⟨_, h1⟩ | ⟨g, c, cur, hv, _⟩
    · omega
    · injection hv with e1 e2 e3
      subst e1; subst e3
      exact ItAt.own h hn
  · obtain rfl : l = [] := List.eq_nil_of_length_eq_zero (by omega)
    exact ItAt.nil _ _

set_option maxHeartbeats 1000000 in
theorem szItemS_any (a : Option Addr) (n cap : Nat) (l : List It) (w : World) (h : ItAt w a l) (hn : l.length = n) (hm : n ≤ maxLen) (hs : ∀ e ∈ l, e.key.size ≤ maxLen ∧ e.title.size ≤ maxLen ∧ e.body.size ≤ maxLen) :
    Calls Try.prog 15 #[.slice a n cap, .int .i64 1048576] w fun e w' => (∃ r : Int, e = .returned (.int .i64 r) ∧ (0 ≤ r → n ≤ 1048576 ∧ ∀ e ∈ l, e.key.size ≤ 1048576 ∧ e.title.size ≤ 1048576 ∧ e.body.size ≤ 1048576)) ∧ Below w.heap.size w w' := by
  unfold maxLen at hm
  have HN := Lib.hid hn
  have HE := Lib.hid h
  have HS := Lib.hid hs
  clear hn h hs
  by_cases hl : 1048576 < n
  · go_enter Try.func15, Try.ntmps15
    go_wp2
    go_ret
    exact ⟨⟨_, rfl, fun h => by omega⟩, Below.refl _ _⟩
  · go_enter Try.func15, Try.ntmps15
    go_wp2
    go_loopw [1, 5] (fun r i wr => ∃ (k : Nat) (v : Int), r = .int .i64 v ∧ i = .int .i64 k ∧ k ≤ n ∧ 0 ≤ v ∧ v ≤ 1048576 ∧ Hid (∀ e ∈ l.take k, e.key.size ≤ 1048576 ∧ e.title.size ≤ 1048576 ∧ e.body.size ≤ 1048576) ∧ Below w.heap.size w wr) (fun _ i _ => n - (intOf i).toNat)
    case atStart => exact ⟨0, _, rfl, rfl, by omega, by omega, by omega, fun e he => by simp at he, Below.refl _ _⟩
    case round =>
      obtain ⟨k, v, rfl, rfl, hk, v0, v1, ho, hbr⟩ := hrel
      by_cases hlt : k < n
      · have hkl : k < l.length := by rw [HN.out]; exact hlt
        obtain ⟨b, off, ha, h1, h2, h3, h4⟩ := HE.out.old hbr k hkl
        obtain ⟨hz1, hz2, hz3⟩ := HS.out _ (List.getElem_mem hkl)
        have c1 := Lib.hid (fun w => szItem_any l[k] v w hz1 hz2 hz3 v0 v1)
        have HT : Hid (∀ x : It, x = l[k] → x.key.size ≤ 1048576 → x.title.size ≤ 1048576 → x.body.size ≤ 1048576 → ∀ e ∈ l.take (k + 1), e.key.size ≤ 1048576 ∧ e.title.size ≤ 1048576 ∧ e.body.size ≤ 1048576) := by
          intro x hx hx1 hx2 hx3 e he
          rw [List.take_succ_eq_append_getElem hkl, ← hx, List.mem_append, List.mem_singleton] at he
          rcases he with he | rfl
          · exact ho.out e he
          · exact ⟨hx1, hx2, hx3⟩
        obtain ⟨x, hx⟩ : ∃ x, x = l[k] := ⟨_, rfl⟩
        have HX := Lib.hid hx
        rw [← hx] at h1 h2 h3 h4 c1
        clear hx
        subst ha
        go_wp2_with fail
        refine (c1.out _).mono ?_
        rintro e w2 ⟨⟨r, rfl, r1, r2⟩, hb2⟩
        have hbz := hbr.trans (hb2.mono hbr.size)
        by_cases hr : 0 ≤ r
        · obtain ⟨r3, r4, r5⟩ := r2 hr
          have HR := Lib.hid (HT.out x HX.out (by omega) (by omega) (by omega))
          go_wp2
          go_roundw
          case rel => exact ⟨k + 1, r, rfl, by go_num, by omega, hr, by omega, HR.out, hbz⟩
          case measure => simp [intOf]; omega
        · go_wp2
          go_ret
          exact ⟨⟨_, rfl, fun h => by omega⟩, hbz⟩
      · have HR : Hid (∀ e ∈ l, e.key.size ≤ 1048576 ∧ e.title.size ≤ 1048576 ∧ e.body.size ≤ 1048576) := by
          have := ho.out
          rw [List.take_of_length_le (by rw [HN.out]; omega)] at this
          exact this
        go_wp2
        go_ret
        exact ⟨⟨_, rfl, fun _ => ⟨by omega, HR.out⟩⟩, hbr⟩

theorem grown_thru {a b c : World} {row : Option Nat} (h : a.grownBy b row) (k : b.grownBy c row) : a.grownBy c row :=
  ⟨k.os.trans h.os, k.tape.trans h.tape, k.output.trans h.output, Nat.le_trans h.size k.size, fun i hi hne => (k.block i (Nat.lt_of_lt_of_le hi h.size) hne).trans (h.block i hi hne)⟩
/-- A row that is being filled: its first k elements are l's. -/
def FillTo (w : World) (base g n k : Nat) (l : List It) : Prop :=
  ∃ xs : List Value, w.ownsRow base 34 4 (.slice (some ⟨g, 0, none⟩) n n) n xs ∧ xs.take (k * 4) = flatI (l.take k)
theorem FillTo.start {w : World} {base g n : Nat} {xs : List Value} (l : List It) (h : w.ownsRow base 34 4 (.slice (some ⟨g, 0, none⟩) n n) n xs) : FillTo w base g n 0 l := ⟨xs, h, by simp [flatI]⟩
theorem FillTo.kept {w w' : World} {base g n k : Nat} {l : List It} (h : FillTo w base g n k l) (hg : w.grownBy w' none) : FillTo w' base g n k l := by
  obtain ⟨xs, h1, h2⟩ := h
  exact ⟨xs, h1.kept hg (.inr (by simp [Value.ownBlock])), h2⟩
theorem FillTo.cells {w : World} {base g n k : Nat} {l : List It} (h : FillTo w base g n k l) (hk : k < n) : (∃ u, w.cell? ⟨g, k * 4, none⟩ = some u) ∧ (∃ u, w.cell? ⟨g, k * 4 + 1, none⟩ = some u) ∧ (∃ u, w.cell? ⟨g, k * 4 + 2, none⟩ = some u) ∧ (∃ u, w.cell? ⟨g, k * 4 + 3, none⟩ = some u) ∧ w.frozen? ⟨g, k * 4, none⟩ = false ∧ w.frozen? ⟨g, k * 4 + 1, none⟩ = false ∧ w.frozen? ⟨g, k * 4 + 2, none⟩ = false ∧ w.frozen? ⟨g, k * 4 + 3, none⟩ = false ∧ base ≤ g ∧ g < w.heap.size := by
  obtain ⟨xs, h1, h2⟩ := h
  have hl := h1.lt g rfl
  have hc : ∀ j, j < n * 4 → ∃ u, w.cell? ⟨g, j, none⟩ = some u := fun j hj => ⟨xs[j]'(by rw [h1.1]; omega), by rw [h1.cellAt _ (by omega), List.getElem?_eq_getElem (by rw [h1.1]; omega)]⟩
  exact ⟨hc _ (by omega), hc _ (by omega), hc _ (by omega), hc _ (by omega), h1.frozenAt _, h1.frozenAt _, h1.frozenAt _, h1.frozenAt _, hl.1, hl.2⟩
theorem FillTo.done {w : World} {base g n : Nat} {l : List It} (h : FillTo w base g n n l) (hn : l.length = n) : w.ownsRow base 34 4 (.slice (some ⟨g, 0, none⟩) n n) n (flatI l) := by
  obtain ⟨xs, h1, h2⟩ := h
  rw [List.take_of_length_le (by rw [h1.1]; omega), List.take_of_length_le (by omega)] at h2
  rwa [h2] at h1
theorem take_set4 {xs : List Value} {k : Nat} {ys : List Value} (hy : xs.take (k * 4) = ys) (hk : k * 4 + 3 < xs.length) (u0 u1 u2 u3 : Value) : ((((xs.set (k * 4) u0).set (k * 4 + 1) u1).set (k * 4 + 2) u2).set (k * 4 + 3) u3).take ((k + 1) * 4) = ys ++ [u0, u1, u2, u3] := by
  have hl : ys.length = k * 4 := by rw [← hy, List.length_take]; omega
  apply List.ext_getElem?
  intro j
  rw [List.getElem?_take]
  by_cases h1 : j < k * 4
  · rw [if_pos (by omega), List.getElem?_set_ne (by omega), List.getElem?_set_ne (by omega), List.getElem?_set_ne (by omega), List.getElem?_set_ne (by omega), List.getElem?_append_left (by omega), ← hy, List.getElem?_take, if_pos h1]
  · rw [List.getElem?_append_right (by omega), hl]
    by_cases h2 : j < k * 4 + 4
    · obtain ⟨m, rfl⟩ : ∃ m, j = k * 4 + m := ⟨j - k * 4, by omega⟩
      rw [if_pos (by omega)]
      have hm : m = 0 ∨ m = 1 ∨ m = 2 ∨ m = 3 := by omega
      rcases hm with rfl | rfl | rfl | rfl
      · rw [List.getElem?_set_ne (by omega), List.getElem?_set_ne (by omega), List.getElem?_set_ne (by omega), Nat.add_zero, List.getElem?_set_self (by omega)]; simp
      · rw [List.getElem?_set_ne (by omega), List.getElem?_set_ne (by omega), List.getElem?_set_self (by simp; omega)]; simp
      · rw [List.getElem?_set_ne (by omega), List.getElem?_set_self (by simp; omega)]; simp
      · rw [List.getElem?_set_self (by simp; omega)]; simp
    · rw [if_neg (by omega)]
      rw [List.getElem?_eq_none (by simp; omega)]
/-- An item stored into a row. -/
def setItem (w : World) (g k : Nat) (i : It) : World := (((w.setCell ⟨g, k * 4, none⟩ (.string i.key)).setCell ⟨g, k * 4 + 1, none⟩ (.string i.title)).setCell ⟨g, k * 4 + 2, none⟩ (.string i.body)).setCell ⟨g, k * 4 + 3, none⟩ (.int .i64 i.day)
theorem FillTo.next {w : World} {base g n k : Nat} {l : List It} (h : FillTo w base g n k l) (hk : k < n) (hkl : k < l.length) :
    FillTo (setItem w g k l[k]) base g n (k + 1) l ∧ w.grownBy (setItem w g k l[k]) (some g) := by
  obtain ⟨xs, h1, h2⟩ := h
  have s1 := h1.stored (k * 4) (.string l[k].key)
  have s2 := s1.1.stored (k * 4 + 1) (.string l[k].title)
  have s3 := s2.1.stored (k * 4 + 2) (.string l[k].body)
  have s4 := s3.1.stored (k * 4 + 3) (.int .i64 l[k].day)
  refine ⟨⟨_, s4.1, ?_⟩, grown_thru (grown_thru (grown_thru s1.2 s2.2) s3.2) s4.2⟩
  rw [take_set4 h2 (by rw [h1.1]; omega), List.take_succ_eq_append_getElem hkl, flatI_app]
  rfl

set_option maxHeartbeats 1000000 in
theorem toItemS_any (a : Option Addr) (n cap : Nat) (l : List It) (w : World) (h : ItAt w a l) (hn : l.length = n) (hm : n ≤ 1048576) :
    Calls Try.prog 17 #[.slice a n cap] w fun e w' => (∃ g, e = .returned (.slice (some ⟨g, 0, none⟩) n n) ∧ w'.ownsRow w.heap.size 34 4 (.slice (some ⟨g, 0, none⟩) n n) n (flatI l)) ∧ Below w.heap.size w w' := by
  obtain ⟨i0, hi, hz0, hz1, hz2⟩ := info_parts Try.infoI
  have HN := Lib.hid hn
  have HE := Lib.hid h
  clear hn h
  go_enter Try.func17, Try.ntmps17
  go_wp2_with (at_make; refine wpList_make_full _ rfl _ _ 24 rfl w.heap.size 34 i0 _ 4 Try.underlying24 hi hz0 hz1 _ _ _ _ n rfl rfl rfl rfl (by rw [hz2]; omega) (by unfold maxLen; omega) (Nat.le_refl _) ?_; intro w1 hown hgrow)
  have HF := Lib.hid (FillTo.start l hown)
  have hb1 := (Below.refl w.heap.size w).grown hgrow (Nat.le_refl _) (fun _ e => by cases e)
  clear hown hgrow
  go_loopw [4] (fun i wr => ∃ k : Nat, i = .int .i64 k ∧ k ≤ n ∧ FillTo wr w.heap.size w.heap.size n k l ∧ Below w.heap.size w wr) (fun i _ => n - (intOf i).toNat)
  case atStart => exact ⟨0, rfl, by omega, HF.out, hb1⟩
  case round =>
    obtain ⟨k, rfl, hk, hf, hbr⟩ := hrel
    by_cases hlt : k < n
    · have hkl : k < l.length := by rw [HN.out]; exact hlt
      obtain ⟨b, off, ha, h1, h2, h3, h4⟩ := HE.out.old hbr k hkl
      have c1 := Lib.hid (fun w => toItem_any l[k] w)
      have HK := Lib.hid (fun w' (hg : wr.grownBy w' none) => (hf.kept hg).next hlt hkl)
      have HC := Lib.hid (fun w' (hg : wr.grownBy w' none) => (hf.kept hg).cells hlt)
      clear hf
      generalize l[k] = x at *
      subst ha
      go_wp2_with fail
      refine (c1.out _).mono ?_
      rintro e w2 ⟨rfl, hb2⟩
      have hg := below_grown hb2
      obtain ⟨⟨u, hu⟩, ⟨v, hv⟩, ⟨x1, hx1⟩, ⟨y1, hy1⟩, fu, fv, fx, fy, _, hlw⟩ := HC.out w2 hg
      obtain ⟨N1, N2⟩ := HK.out w2 hg
      unfold setItem at N1 N2
      have HN1 := Lib.hid N1
      have HN2 := Lib.hid N2
      clear N1 N2
      go_wp2
      have hbz := (hbr.trans (hb2.mono hbr.size)).grown HN2.out (Nat.le_of_lt hlw) (fun j e => by injection e with e; omega)
      go_roundw
      case rel => exact ⟨k + 1, by go_num, by omega, HN1.out, hbz⟩
      case measure => simp [intOf]; omega
    · obtain rfl : k = n := by omega
      have HD := Lib.hid (hf.done HN.out)
      clear hf
      go_wp2
      go_ret
      exact ⟨⟨_, rfl, HD.out⟩, hbr⟩

theorem It.ext {x y : It} (h1 : x.key = y.key) (h2 : x.title = y.title) (h3 : x.body = y.body) (h4 : x.day = y.day) : x = y := by
  obtain ⟨a, b, c, d⟩ := x
  obtain ⟨a', b', c', d'⟩ := y
  simp only at h1 h2 h3 h4
  subst h1; subst h2; subst h3; subst h4; rfl
instance : DecidableEq It := fun x y =>
  if h : x.key = y.key ∧ x.title = y.title ∧ x.body = y.body ∧ x.day = y.day then .isTrue (It.ext h.1 h.2.1 h.2.2.1 h.2.2.2)
  else .isFalse (fun e => h (by rw [e]; exact ⟨rfl, rfl, rfl, rfl⟩))
theorem eqI_iff (x y : It) : (eqS x.key y.key && (eqS x.title y.title && (eqS x.body y.body && (x.day == y.day)))) = decide (x = y) := by
  rw [Bool.eq_iff_iff, Bool.and_eq_true, Bool.and_eq_true, Bool.and_eq_true, eqS_iff, eqS_iff, eqS_iff, beq_iff_eq, decide_eq_true_iff]
  constructor
  · rintro ⟨h1, h2, h3, h4⟩; exact It.ext h1 h2 h3 h4
  · rintro rfl; exact ⟨rfl, rfl, rfl, rfl⟩
set_option maxHeartbeats 400000 in
theorem eqItem_any (x y : It) (w : World) :
    Calls Try.prog 33 #[.agg #[.string x.key, .string x.title, .string x.body, .int .i64 x.day], .agg #[.string y.key, .string y.title, .string y.body, .int .i64 y.day]] w fun e w' => e = .returned (.bool (decide (x = y))) ∧ Below w.heap.size w w' := by
  have hb : Below w.heap.size w ((w.alloc (.cells #[.string x.key, .string x.title, .string x.body, .int .i64 x.day] 34)).alloc (.cells #[.string y.key, .string y.title, .string y.body, .int .i64 y.day] 34)) := ((Below.refl _ _).alloc (Nat.le_refl _) _).alloc (by simp) _
  have E := Lib.hid (eqI_iff x y)
  cases h1 : eqS x.key y.key
  · rw [h1, Bool.false_and] at E
    have h1 : (x.key.toList == y.key.toList) = false := h1
    go_enter Try.func33, Try.ntmps33
    go_wp2
    go_ret
    exact ⟨ret_bool E.out, hb⟩
  · rw [h1, Bool.true_and] at E
    have h1 : (x.key.toList == y.key.toList) = true := h1
    cases h2 : eqS x.title y.title
    · rw [h2, Bool.false_and] at E
      have h2 : (x.title.toList == y.title.toList) = false := h2
      go_enter Try.func33, Try.ntmps33
      go_wp2
      go_ret
      exact ⟨ret_bool E.out, hb⟩
    · rw [h2, Bool.true_and] at E
      have h2 : (x.title.toList == y.title.toList) = true := h2
      cases h3 : eqS x.body y.body
      · rw [h3, Bool.false_and] at E
        have h3 : (x.body.toList == y.body.toList) = false := h3
        go_enter Try.func33, Try.ntmps33
        go_wp2
        go_ret
        exact ⟨ret_bool E.out, hb⟩
      · rw [h3, Bool.true_and] at E
        have h3 : (x.body.toList == y.body.toList) = true := h3
        cases h4 : (x.day == y.day)
        · rw [h4] at E
          go_enter Try.func33, Try.ntmps33
          go_wp2
          go_ret
          exact ⟨ret_bool E.out, hb⟩
        · rw [h4] at E
          go_enter Try.func33, Try.ntmps33
          go_wp2
          go_ret
          exact ⟨ret_bool E.out, hb⟩

theorem take_eq_step {l l' : List It} {k : Nat} (h : l.take k = l'.take k) (h1 : k < l.length) (h2 : k < l'.length) (he : l[k] = l'[k]) : l.take (k + 1) = l'.take (k + 1) := by
  rw [List.take_succ_eq_append_getElem h1, List.take_succ_eq_append_getElem h2, h, he]
theorem ne_at {l l' : List It} {k : Nat} (h1 : k < l.length) (h2 : k < l'.length) (he : l[k] ≠ l'[k]) : l ≠ l' := by
  rintro rfl; exact he rfl

set_option maxHeartbeats 2000000 in
theorem eqItemS_any (a a' : Option Addr) (n cap n' cap' : Nat) (l l' : List It) (w : World) (h : ItAt w a l) (hn : l.length = n) (h' : ItAt w a' l') (hn' : l'.length = n') (hm : n ≤ maxLen) (hm' : n' ≤ maxLen) :
    Calls Try.prog 19 #[.slice a n cap, .slice a' n' cap'] w fun e w' => e = .returned (.bool (decide (l = l'))) ∧ Below w.heap.size w w' := by
  unfold maxLen at hm hm'
  by_cases hnn : n = n'
  · have HN := Lib.hid hn
    have HN' : Hid (l'.length = n) := by rw [hn', hnn]; rfl
    have HE := Lib.hid h
    have HE' := Lib.hid h'
    clear hn h hn' h'
    subst hnn
    go_enter Try.func19, Try.ntmps19
    go_wp2
    go_loopw [5] (fun i wr => ∃ k : Nat, i = .int .i64 k ∧ k ≤ n ∧ Hid (l.take k = l'.take k) ∧ Below w.heap.size w wr) (fun i _ => n - (intOf i).toNat)
    case atStart => exact ⟨0, rfl, by omega, rfl, Below.refl _ _⟩
    case round =>
      obtain ⟨k, rfl, hk, ho, hbr⟩ := hrel
      by_cases hlt : k < n
      · have hkl : k < l.length := by rw [HN.out]; exact hlt
        have hkl' : k < l'.length := by rw [HN'.out]; exact hlt
        obtain ⟨b, off, ha, h1, h2, h3, h4⟩ := HE.out.old hbr k hkl
        obtain ⟨b', off', ha', h1', h2', h3', h4'⟩ := HE'.out.old hbr k hkl'
        have hd : (decide (l[k] = l'[k]) = true → Hid (l.take (k + 1) = l'.take (k + 1))) ∧ (decide (l[k] = l'[k]) = false → Hid (decide (l = l') = false)) := by
          constructor
          · intro e; exact take_eq_step ho hkl hkl' (of_decide_eq_true e)
          · intro e; exact decide_eq_false (ne_at hkl hkl' (of_decide_eq_false e))
        have HD := Lib.hid hd
        clear hd
        have c1 := Lib.hid (fun w => eqItem_any l[k] l'[k] w)
        generalize l[k] = x at *
        generalize l'[k] = y at *
        generalize decide (x = y) = q at *
        subst ha
        subst ha'
        go_wp2_with fail
        go_region_with (go_at_call 33; refine (c1.out _).mono ?_; rintro e w2 ⟨rfl, hb2⟩)
        all_goals
          have hbz : Below w.heap.size w w2 := hbr.trans ((Below.mono ⟨hb2.os, hb2.tape, hb2.output, hb2.size, hb2.block⟩ hbr.size : Below w.heap.size wr w2))
          cases q
          · have E := HD.out.2 rfl
            go_wp2
            go_ret
            exact ⟨(ret_bool E.out).symm, hbz⟩
          · have E := HD.out.1 rfl
            go_wp2
            go_roundw
            case rel => exact ⟨k + 1, by go_num, by omega, E, hbz⟩
            case measure => simp [intOf]; omega
      · have E : Hid (decide (l = l') = true) := by
          have := ho.out
          rw [List.take_of_length_le (by rw [HN.out]; omega), List.take_of_length_le (by rw [HN'.out]; omega)] at this
          exact decide_eq_true this
        go_wp2
        go_ret
        exact ⟨(ret_bool E.out).symm, hbr⟩
  · have hb : ((n : Int) != (n' : Int)) = true := by rw [bne_iff_ne]; omega
    have E : Hid (decide (l = l') = false) := decide_eq_false (by intro e; rw [e] at hn; omega)
    clear hnn
    go_enter Try.func19, Try.ntmps19
    go_wp2
    go_ret
    exact ⟨(ret_bool E.out).symm, Below.refl _ _⟩
end Go.Proofs.Ytldllhfadihmeaa
