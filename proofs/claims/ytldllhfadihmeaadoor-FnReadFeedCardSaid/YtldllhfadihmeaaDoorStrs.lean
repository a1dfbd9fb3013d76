/- Rows of texts: comparing two, marking one, reading the marks back. -/
import Derived.Test.YtldllhfadihmeaaDoorMark
import Derived.Test.YtldllhfadihmeaaDoorOwnB
import Derived.Test.YtldllhfadihmeaaDoorPlM
import Derived.Deep.OwnRows
import Derived.Deep.RegionHeld3
import Derived.Deep.QuietTactic
import Derived.BigQuiet
namespace Go.Proofs.YtldllhfadihmeaaDoor
open Go.RowKit

/-- A row of texts in memory. -/
def StAt (w : World) (a : Option Addr) (l : List ByteArray) : Prop :=
  ∀ k (h : k < l.length), ∃ b off, a = some ⟨b, off, none⟩ ∧ w.cell? ⟨b, off + k, none⟩ = some (.string l[k])
theorem StAt.nil (w : World) (a : Option Addr) : StAt w a [] := fun k h => by simp at h
theorem StAt.old {w w' : World} {a : Option Addr} {l : List ByteArray} (h : StAt w a l) (hb : Below w.heap.size w w') : StAt w' a l := fun k hk => by
  obtain ⟨b, off, ha, h1⟩ := h k hk
  have hlt := cell_lt' h1
  exact ⟨b, off, ha, (hb.cell (p := ⟨b, off + k, none⟩) hlt).trans h1⟩
theorem st_other {w w' : World} {g : Nat} {a : Option Addr} {l : List ByteArray} (h : StAt w a l) (hg : w.grownBy w' (some g)) (hne : ∀ x, a = some x → x.block ≠ g) : StAt w' a l := fun k hk => by
  obtain ⟨b, off, ha, h1⟩ := h k hk
  subst ha
  have hb : some b ≠ some g := fun e => hne _ rfl (by injection e)
  exact ⟨b, off, rfl, hg.cell h1 hb⟩
def flatS (l : List ByteArray) : List Value := l.map Value.string
theorem flatS_len (l : List ByteArray) : (flatS l).length = l.length := by simp [flatS]
theorem flatS_app (a b : List ByteArray) : flatS (a ++ b) = flatS a ++ flatS b := by simp [flatS]
theorem flatS_one (l : List ByteArray) : ∀ u ∈ flatS l, u.oneCell' = true := fun u hu => by
  obtain ⟨e, _, rfl⟩ := List.mem_map.1 hu; rfl
theorem StAt.own' {w : World} {base t n cap : Nat} {a : Option Addr} {l : List ByteArray} (h : w.ownsRow base t 1 (.slice a n cap) n (flatS l)) (hn : l.length = n) : StAt w a l := by
  rcases h.2 with ⟨e, h0⟩ | ⟨g, c, cur, hv, _⟩
  · obtain rfl : l = [] := List.eq_nil_of_length_eq_zero (by omega)
    exact StAt.nil _ _
  · injection hv with e1 e2 e3
    subst e1
    intro k hk
    refine ⟨g, 0, rfl, ?_⟩
    have := h.cellAt k (by omega)
    rw [Nat.zero_add, this]
    simp [flatS, List.getElem?_eq_getElem hk]
theorem st_take_step {l l' : List ByteArray} {k : Nat} (h : l.take k = l'.take k) (h1 : k < l.length) (h2 : k < l'.length) (he : l[k] = l'[k]) : l.take (k + 1) = l'.take (k + 1) := by
  rw [List.take_succ_eq_append_getElem h1, List.take_succ_eq_append_getElem h2, h, he]
theorem st_ne_at {l l' : List ByteArray} {k : Nat} (h1 : k < l.length) (h2 : k < l'.length) (he : l[k] ≠ l'[k]) : l ≠ l' := by
  rintro rfl; exact he rfl

set_option maxHeartbeats 1000000 in
theorem eqStringS_any (a a' : Option Addr) (n cap n' cap' : Nat) (l l' : List ByteArray) (w : World) (h : StAt w a l) (hn : l.length = n) (h' : StAt w a' l') (hn' : l'.length = n') (hm : n ≤ maxLen) (hm' : n' ≤ maxLen) :
    Calls Tryd.prog 16 #[.slice a n cap, .slice a' n' cap'] w fun e w' => e = .returned (.bool (decide (l = l'))) ∧ Below w.heap.size w w' := by
  unfold maxLen at hm hm'
  by_cases hnn : n = n'
  · have HN := Lib.hid hn
    have HN' : Hid (l'.length = n) := by rw [hn', hnn]; rfl
    have HE := Lib.hid h
    have HE' := Lib.hid h'
    clear hn h hn' h'
    subst hnn
    go_enter Tryd.func16, Tryd.ntmps16
    go_wp2
    go_loopw [5] (fun i wr => ∃ k : Nat, i = .int .i64 k ∧ k ≤ n ∧ Hid (l.take k = l'.take k) ∧ Below w.heap.size w wr) (fun i _ => n - (intOf i).toNat)
    case atStart => exact ⟨0, rfl, by omega, rfl, Below.refl _ _⟩
    case round =>
      obtain ⟨k, rfl, hk, ho, hbr⟩ := hrel
      by_cases hlt : k < n
      · have hkl : k < l.length := by rw [HN.out]; exact hlt
        have hkl' : k < l'.length := by rw [HN'.out]; exact hlt
        obtain ⟨b, off, ha, h1⟩ := HE.out.old hbr k hkl
        obtain ⟨b', off', ha', h1'⟩ := HE'.out.old hbr k hkl'
        have hd : (eqS l[k] l'[k] = true → Hid (l.take (k + 1) = l'.take (k + 1))) ∧ (eqS l[k] l'[k] = false → Hid (decide (l = l') = false)) := by
          constructor
          · intro e; exact st_take_step ho hkl hkl' ((eqS_iff _ _).1 e)
          · intro e; exact decide_eq_false (st_ne_at hkl hkl' (fun e2 => by rw [e2] at e; rw [(eqS_iff _ _).2 rfl] at e; cases e))
        have HD := Lib.hid hd
        clear hd
        generalize l[k] = x at *
        generalize l'[k] = y at *
        subst ha
        subst ha'
        cases hq : eqS x y
        · have E := HD.out.2 hq
          have hq : (x.toList == y.toList) = false := hq
          go_wp2_with fail
          go_quiet (fail)
          go_wp2
          go_ret
          exact ⟨(ret_bool E.out).symm, below_drewN' hbr _⟩
        · have E := HD.out.1 hq
          have hq : (x.toList == y.toList) = true := hq
          go_wp2_with fail
          go_quiet (fail)
          go_wp2
          go_roundw
          case rel => exact ⟨k + 1, by go_num, by omega, E, below_drewN' hbr _⟩
          case measure => simp [intOf]; omega
      · have E : Hid (decide (l = l') = true) := by
          have := ho.out
          rw [List.take_of_length_le (by rw [HN.out]; omega), List.take_of_length_le (by rw [HN'.out]; omega)] at this
          exact decide_eq_true this
        go_wp2
        go_ret
        exact ⟨(ret_bool E.out).symm, hbr⟩
  · have hb : ((n : Int) != (n' : Int)) = true := by rw [bne_iff_ne]; omega
    have E : Hid (decide (l = l') = false) := decide_eq_false (by intro e; rw [e] at hn; omega)
    clear hnn
    go_enter Tryd.func16, Tryd.ntmps16
    go_wp2
    go_ret
    exact ⟨(ret_bool E.out).symm, Below.refl _ _⟩

def markSt (s n : Nat) : List ByteArray := (List.range n).map fun i => markT (s + i)
theorem markSt_len (s n : Nat) : (markSt s n).length = n := by simp [markSt]
theorem markSt_snoc (s n : Nat) : markSt s (n + 1) = markSt s n ++ [markT (s + n)] := by simp [markSt, List.range_succ]
theorem markSt_at (s n k : Nat) (h : k < (markSt s n).length) : (markSt s n)[k] = markT (s + k) := by simp [markSt]
/-- A row whose first k texts are marked. -/
def MarkToS (s : Nat) (w : World) (base n cap : Nat) (a : Option Addr) (k : Nat) : Prop :=
  ∃ xs : List Value, w.ownsRow base 9 1 (.slice a n cap) n xs ∧ xs.take k = flatS (markSt s k)
theorem MarkToS.done {s : Nat} {w : World} {base n cap : Nat} {a : Option Addr} (h : MarkToS s w base n cap a n) : w.ownsRow base 9 1 (.slice a n cap) n (flatS (markSt s n)) := by
  obtain ⟨xs, h1, h2⟩ := h
  rw [List.take_of_length_le (by rw [h1.1]; omega)] at h2
  rwa [h2] at h1
theorem MarkToS.kept {s : Nat} {w w' : World} {base n cap k : Nat} {a : Option Addr} (h : MarkToS s w base n cap a k) (hg : w.grownBy w' none) : MarkToS s w' base n cap a k := by
  obtain ⟨xs, h1, h2⟩ := h
  exact ⟨xs, h1.kept hg (by cases (Value.slice a n cap).ownBlock <;> simp), h2⟩
theorem MarkToS.form {s : Nat} {w : World} {base n cap k : Nat} {a : Option Addr} (h : MarkToS s w base n cap a k) (h0 : 0 < n) : ∃ g, a = some ⟨g, 0, none⟩ ∧ base ≤ g ∧ g < w.heap.size := by
  obtain ⟨xs, h1, h2⟩ := h
  rcases h1.2 with ⟨_, h0'⟩ | ⟨g, c, cur, hv, _⟩
  · omega
  injection hv with e1 e2 e3
  subst e1
  have := h1.lt g rfl
  exact ⟨g, rfl, this.1, this.2⟩
theorem MarkToS.cell {s : Nat} {w : World} {base g n cap k : Nat} (h : MarkToS s w base n cap (some ⟨g, 0, none⟩) k) {j : Nat} (hj : j < n) : (∃ u, w.cell? ⟨g, j, none⟩ = some u) ∧ w.frozen? ⟨g, j, none⟩ = false := by
  obtain ⟨xs, h1, h2⟩ := h
  exact ⟨⟨xs[j]'(by rw [h1.1]; omega), by rw [h1.cellAt _ (by omega), List.getElem?_eq_getElem (by rw [h1.1]; omega)]⟩, h1.frozenAt _⟩
theorem MarkToS.next {s : Nat} {w : World} {base g n cap k : Nat} (h : MarkToS s w base n cap (some ⟨g, 0, none⟩) k) (hk : k < n) : MarkToS s (w.setCell ⟨g, k, none⟩ (.string (markT (s + k)))) base n cap (some ⟨g, 0, none⟩) (k + 1) := by
  obtain ⟨xs, h1, h2⟩ := h
  refine ⟨_, (h1.stored k _).1, ?_⟩
  rw [markSt_snoc, flatS_app, ← h2, List.take_succ_eq_append_getElem (by rw [List.length_set, h1.1]; omega), List.take_set_of_le (Nat.le_refl _), List.getElem_set_self]
  rfl

set_option maxHeartbeats 1000000 in
theorem markStringS_row (g0 : Nat) (s : Nat) (a : Option Addr) (n cap : Nat) (xs : List Value) (base : Nat) (w : World) (h : w.ownsRow base 9 1 (.slice a n cap) n xs) (hs0 : 0 < s) (hs : s ≤ 100000000) (hn : n ≤ 10000000) (hg0 : ∀ x, a = some x → x.block = g0) :
    Calls Tryd.prog 17 #[.slice a n cap, .int .i64 s] w fun e w' => e = .returned (.int .i64 (s + n : Nat)) ∧ w'.ownsRow base 9 1 (.slice a n cap) n (flatS (markSt s n)) ∧ w.grownBy w' (some g0) := by
  have HG := Lib.hid hg0
  have H0 : Hid (MarkToS s w base n cap a 0) := ⟨xs, h, by simp [markSt, flatS]⟩
  clear h hg0
  go_enter Tryd.func17, Tryd.ntmps17
  go_wp2
  go_loopw [1, 5] (fun q i wr => ∃ k : Nat, q = .int .i64 (s + k : Nat) ∧ i = .int .i64 k ∧ k ≤ n ∧ Hid (MarkToS s wr base n cap a k) ∧ w.grownBy wr (some g0)) (fun _ i _ => n - (intOf i).toNat)
  case atStart => exact ⟨0, rfl, rfl, by omega, H0, World.grownBy.refl w _⟩
  case round =>
    obtain ⟨k, rfl, rfl, hk, ho, hbr⟩ := hrel
    by_cases hlt : k < n
    · obtain ⟨g, rfl, hbg, hgw⟩ := ho.out.form (by omega)
      obtain rfl : g = g0 := HG.out _ rfl
      have c0 : Hid (∀ w, Calls Tryd.prog 44 #[.int .i64 ((s : Int) + (k : Int))] w fun e w' => e = .returned (.string (markT (s + k))) ∧ Below w.heap.size w w') := fun w => by
        rw [show ((s : Int) + (k : Int)) = ((s + k : Nat) : Int) from by omega]
        exact markText_any (s + k) w (by omega) (by omega)
      go_wp2_with fail
      refine (c0.out _).mono ?_
      rintro e w2 ⟨rfl, hb2⟩
      have m2 := Lib.hid (ho.out.kept (below_grown hb2))
      obtain ⟨⟨u0, hu0⟩, fu0⟩ := m2.out.cell (j := k) (by omega)
      have z2 := grown_some hbr (below_grown hb2)
      have z3 := grown_trans z2 (grown_set _ g k (.string (markT (s + k))))
      have M := Lib.hid (m2.out.next hlt)
      go_wp2
      go_roundw
      case rel => exact ⟨k + 1, congrArg (Value.int IntKind.i64) (by omega), by go_num, by omega, M.out, z3⟩
      case measure => simp [intOf]; omega
    · obtain rfl : k = n := by omega
      have HD := Lib.hid (ho.out.done)
      go_wp2
      go_ret
      exact ⟨rfl, HD.out, hbr⟩

set_option maxHeartbeats 1000000 in
theorem heldStringS_any (s : Nat) (a : Option Addr) (n cap : Nat) (w : World) (h : StAt w a (markSt s n)) (hs0 : 0 < s) (hs : s ≤ 100000000) (hn : n ≤ 10000000) :
    Calls Tryd.prog 32 #[.slice a n cap, .int .i64 s] w fun e w' => e = .returned (.int .i64 (s + n : Nat)) ∧ Below w.heap.size w w' := by
  have HE := Lib.hid h
  clear h
  go_enter Tryd.func32, Tryd.ntmps32
  go_wp2
  go_loopw [1, 5] (fun q i wr => ∃ k : Nat, q = .int .i64 (s + k : Nat) ∧ i = .int .i64 k ∧ k ≤ n ∧ Below w.heap.size w wr) (fun _ i _ => n - (intOf i).toNat)
  case atStart => exact ⟨0, rfl, rfl, by omega, Below.refl _ _⟩
  case round =>
    obtain ⟨k, rfl, rfl, hk, hbr⟩ := hrel
    by_cases hlt : k < n
    · have hkl : k < (markSt s n).length := by rw [markSt_len]; exact hlt
      obtain ⟨b, off, rfl, h1⟩ := HE.out k hkl
      rw [markSt_at] at h1
      have hlo := cell_lt' h1
      have KC : Hid (∀ w', Below w.heap.size w w' → Below w.heap.size w w' ∧ w'.cell? ⟨b, off + k, none⟩ = some (.string (markT (s + k)))) := fun w' hb =>
        ⟨hb, (hb.cell (p := ⟨b, off + k, none⟩) hlo).trans h1⟩
      have c0 : Hid (∀ w, Calls Tryd.prog 44 #[.int .i64 ((s : Int) + (k : Int))] w fun e w' => e = .returned (.string (markT (s + k))) ∧ Below w.heap.size w w') := fun w => by
        rw [show ((s : Int) + (k : Int)) = ((s + k : Nat) : Int) from by omega]
        exact markText_any (s + k) w (by omega) (by omega)
      clear h1
      have K0 := KC.out wr hbr
      go_wp2_with fail
      go_region_held3 (fun w' => Below w.heap.size w w' ∧ w'.cell? ⟨b, off + k, none⟩ = some (.string (markT (s + k)))) (first | exact ⟨K0.1.drew, (KC.out _ K0.1.drew).2⟩ | assumption | go_keep) (first | (go_at_call 44; refine (c0.out _).mono ?_; rintro e w2 ⟨rfl, hbw2⟩; have K2 : Below w.heap.size w w2 ∧ w2.cell? ⟨b, off + k, none⟩ = some (.string (markT (s + k))) := KC.out w2 (K0.1.drew.trans (hbw2.mono K0.1.drew.size))))
      have bq := K2.1
      clear K0 K2
      go_wp2
      go_roundw
      case rel => exact ⟨k + 1, congrArg (Value.int IntKind.i64) (by omega), by go_num, by omega, bq⟩
      case measure => simp [intOf]; omega
    · obtain rfl : k = n := by omega
      go_wp2
      go_ret
      exact ⟨rfl, hbr⟩
end Go.Proofs.YtldllhfadihmeaaDoor
