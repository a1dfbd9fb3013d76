/- Marking the elements of an owned row, reading the marks back, and comparing two rows by the language's own ==. -/
import Derived.Test.YtjkdjemefkignaaDoorMark
import Derived.Test.YtjkdjemefkignaaDoorElsL
import Derived.Deep.RegionHeld3
import Derived.Deep.QuietTactic
import Derived.BigQuiet
namespace Go.Proofs.YtjkdjemefkignaaDoor
open Go.RowKit

theorem cell_lt {w : World} {b o : Nat} {v : Value} (h : w.cell? ⟨b, o, none⟩ = some v) : b < w.heap.size := by
  by_cases hb : b < w.heap.size
  · exact hb
  · exfalso
    have : w.heap[b]? = none := Array.getElem?_eq_none (by omega)
    unfold World.cell? at h
    rw [this] at h
    cases h
def markL (n : Nat) : List El := (List.range n).map fun i => (markT (2 * i + 1), markT (2 * i + 2))
theorem markL_len (n : Nat) : (markL n).length = n := by simp [markL]
theorem markL_snoc (n : Nat) : markL (n + 1) = markL n ++ [(markT (2 * n + 1), markT (2 * n + 2))] := by simp [markL, List.range_succ]
theorem markL_at (n k : Nat) (h : k < (markL n).length) : (markL n)[k] = (markT (2 * k + 1), markT (2 * k + 2)) := by simp [markL]
/-- A row whose first k elements are marked. -/
def MarkTo (w : World) (base n cap : Nat) (a : Option Addr) (k : Nat) : Prop :=
  ∃ xs : List Value, w.ownsRow base 54 2 (.slice a n cap) n xs ∧ xs.take (k * 2) = flatE (markL k)
theorem MarkTo.done {w : World} {base n cap : Nat} {a : Option Addr} (h : MarkTo w base n cap a n) : w.ownsRow base 54 2 (.slice a n cap) n (flatE (markL n)) := by
  obtain ⟨xs, h1, h2⟩ := h
  rw [List.take_of_length_le (by rw [h1.1]; omega)] at h2
  rwa [h2] at h1
theorem MarkTo.kept {w w' : World} {base n cap k : Nat} {a : Option Addr} (h : MarkTo w base n cap a k) (hg : w.grownBy w' none) : MarkTo w' base n cap a k := by
  obtain ⟨xs, h1, h2⟩ := h
  exact ⟨xs, h1.kept hg (by cases (Value.slice a n cap).ownBlock <;> simp), h2⟩
theorem MarkTo.form {w : World} {base n cap k : Nat} {a : Option Addr} (h : MarkTo w base n cap a k) (h0 : 0 < n) : ∃ g, a = some ⟨g, 0, none⟩ ∧ base ≤ g ∧ g < w.heap.size := by
  obtain ⟨xs, h1, h2⟩ := h
  rcases h1.2 with ⟨_, h0'⟩ | ⟨g, c, cur, hv, _⟩
  · omega
  injection hv with e1 e2 e3
  subst e1
  have := h1.lt g rfl
  exact ⟨g, rfl, this.1, this.2⟩
theorem MarkTo.cells {w : World} {base g n cap k : Nat} (h : MarkTo w base n cap (some ⟨g, 0, none⟩) k) (hk : k < n) : (∃ u, w.cell? ⟨g, k * 2, none⟩ = some u) ∧ (∃ u, w.cell? ⟨g, k * 2 + 1, none⟩ = some u) ∧ w.frozen? ⟨g, k * 2, none⟩ = false ∧ w.frozen? ⟨g, k * 2 + 1, none⟩ = false := by
  obtain ⟨xs, h1, h2⟩ := h
  refine ⟨⟨xs[k * 2]'(by rw [h1.1]; omega), ?_⟩, ⟨xs[k * 2 + 1]'(by rw [h1.1]; omega), ?_⟩, h1.frozenAt _, h1.frozenAt _⟩
  · rw [h1.cellAt _ (by omega), List.getElem?_eq_getElem (by rw [h1.1]; omega)]
  · rw [h1.cellAt _ (by omega), List.getElem?_eq_getElem (by rw [h1.1]; omega)]
/-- One element more, its two cells stored one behind the other, a call in between. -/
theorem MarkTo.half {w : World} {base g n cap k : Nat} (h : MarkTo w base n cap (some ⟨g, 0, none⟩) k) (v : Value) :
    MarkTo (w.setCell ⟨g, k * 2, none⟩ v) base n cap (some ⟨g, 0, none⟩) k := by
  obtain ⟨xs, h1, h2⟩ := h
  refine ⟨_, (h1.stored (k * 2) v).1, ?_⟩
  rw [List.take_set_of_le (by omega), h2]
theorem MarkTo.next {w : World} {base g n cap k : Nat} (h : MarkTo w base n cap (some ⟨g, 0, none⟩) k) (hk : k < n) (hc : w.cell? ⟨g, k * 2, none⟩ = some (.string (markT (2 * k + 1)))) :
    MarkTo (w.setCell ⟨g, k * 2 + 1, none⟩ (.string (markT (2 * k + 2)))) base n cap (some ⟨g, 0, none⟩) (k + 1) := by
  obtain ⟨xs, h1, h2⟩ := h
  refine ⟨_, (h1.stored (k * 2 + 1) _).1, ?_⟩
  have e : xs[k * 2]'(by rw [h1.1]; omega) = .string (markT (2 * k + 1)) := by
    have := h1.cellAt (k * 2) (by omega)
    rw [hc, List.getElem?_eq_getElem (by rw [h1.1]; omega)] at this
    injection this with this
    exact this.symm
  have e2 : xs = xs.set (k * 2) (.string (markT (2 * k + 1))) := by rw [← e, List.set_getElem_self]
  rw [e2, take_set2 h2 (by rw [h1.1]; omega), markL_snoc, flatE_app]
  rfl

set_option maxHeartbeats 1000000 in
theorem markElementS_any (a : Option Addr) (n cap : Nat) (xs : List Value) (base : Nat) (w : World) (h : w.ownsRow base 54 2 (.slice a n cap) n xs) (hn : n ≤ 1000000) (hbase : base ≤ w.heap.size) :
    Calls Tryd.prog 26 #[.slice a n cap, .int .i64 1] w fun e w' => e = .returned (.int .i64 (2 * n + 1 : Nat)) ∧ w'.ownsRow base 54 2 (.slice a n cap) n (flatE (markL n)) ∧ Below base w w' := by
  have HB := Lib.hid hbase
  have H0 : Hid (MarkTo w base n cap a 0) := ⟨xs, h, by simp [markL, flatE]⟩
  clear h hbase
  go_enter Tryd.func26, Tryd.ntmps26
  go_wp2
  go_loopw [1, 5] (fun q i wr => ∃ k : Nat, q = .int .i64 (2 * k + 1 : Nat) ∧ i = .int .i64 k ∧ k ≤ n ∧ Hid (MarkTo wr base n cap a k) ∧ Below base w wr) (fun _ i _ => n - (intOf i).toNat)
  case atStart => exact ⟨0, rfl, rfl, by omega, H0, Below.refl _ _⟩
  case round =>
    obtain ⟨k, rfl, rfl, hk, ho, hbr⟩ := hrel
    by_cases hlt : k < n
    · obtain ⟨g, rfl, hbg, hgw⟩ := ho.out.form (by omega)
      have c1 := Lib.hid (fun w => markText_any (2 * k + 1) w (by omega) (by omega))
      have c2 : Hid (∀ w, Calls Tryd.prog 46 #[.int .i64 (2 * (k : Int) + 1 + 1)] w fun e w' => e = .returned (.string (markT (2 * k + 2))) ∧ Below w.heap.size w w') := fun w => by
        rw [show (2 * (k : Int) + 1 + 1) = ((2 * k + 2 : Nat) : Int) from by omega]
        exact markText_any (2 * k + 2) w (by omega) (by omega)
      have HS := Lib.hid hbr.size
      go_wp2_with fail
      refine (c1.out _).mono ?_
      rintro e w2 ⟨rfl, hb2⟩
      have m2 := Lib.hid (ho.out.kept (below_grown hb2))
      obtain ⟨⟨u, hu⟩, _, fu, _⟩ := m2.out.cells hlt
      have hbz2 := hbr.trans (hb2.mono (Nat.le_trans HB.out hbr.size))
      have hl2 := hb2.size
      have m3 := Lib.hid (m2.out.half (.string (markT (2 * k + 1))))
      have hbz3 := hbz2.setCell (p := ⟨g, k * 2, none⟩) hbg (.string (markT (2 * k + 1)))
      have hcc := Lib.hid (show (w2.setCell ⟨g, k * 2, none⟩ (.string (markT (2 * k + 1)))).cell? ⟨g, k * 2, none⟩ = some (.string (markT (2 * k + 1))) from by go_simp)
      go_wp2_with fail
      refine (c2.out _).mono ?_
      rintro e w4 ⟨rfl, hb4⟩
      have m4 := Lib.hid (m3.out.kept (below_grown hb4))
      obtain ⟨_, ⟨v, hv⟩, _, fv⟩ := m4.out.cells hlt
      have hbz4 := hbz3.trans (hb4.mono (Nat.le_trans HB.out hbz3.size))
      have hc4 := hcc.out
      have m5 := Lib.hid (m4.out.next hlt ((hb4.cell (p := ⟨g, k * 2, none⟩) (by simp; omega)).trans hc4))
      clear hc4
      go_wp2
      go_roundw
      case rel => exact ⟨k + 1, congrArg (Value.int IntKind.i64) (by omega), by go_num, by omega, m5.out, hbz4.setCell hbg _⟩
      case measure => simp [intOf]; omega
    · obtain rfl : k = n := by omega
      have HD := Lib.hid (ho.out.done)
      go_wp2
      go_ret
      exact ⟨rfl, HD.out, hbr⟩

set_option maxHeartbeats 1000000 in
theorem heldElementS_any (a : Option Addr) (n cap : Nat) (w : World) (h : ElAt w a (markL n)) (hn : n ≤ 1000000) :
    Calls Tryd.prog 27 #[.slice a n cap, .int .i64 1] w fun e w' => e = .returned (.int .i64 (2 * n + 1 : Nat)) ∧ Below w.heap.size w w' := by
  have HE := Lib.hid h
  clear h
  go_enter Tryd.func27, Tryd.ntmps27
  go_wp2
  go_loopw [1, 5] (fun q i wr => ∃ k : Nat, q = .int .i64 (2 * k + 1 : Nat) ∧ i = .int .i64 k ∧ k ≤ n ∧ Below w.heap.size w wr) (fun _ i _ => n - (intOf i).toNat)
  case atStart => exact ⟨0, rfl, rfl, by omega, Below.refl _ _⟩
  case round =>
    obtain ⟨k, rfl, rfl, hk, hbr⟩ := hrel
    by_cases hlt : k < n
    · have HR := Lib.hid (HE.out.old hbr)
      obtain ⟨b, off, rfl, h1, h2⟩ := HR.out k (by rw [markL_len]; exact hlt)
      rw [markL_at] at h1 h2
      have c1 := Lib.hid (fun w => markText_any (2 * k + 1) w (by omega) (by omega))
      have c2 : Hid (∀ w, Calls Tryd.prog 46 #[.int .i64 (2 * (k : Int) + 1 + 1)] w fun e w' => e = .returned (.string (markT (2 * k + 2))) ∧ Below w.heap.size w w') := fun w => by
        rw [show (2 * (k : Int) + 1 + 1) = ((2 * k + 2 : Nat) : Int) from by omega]
        exact markText_any (2 * k + 2) w (by omega) (by omega)
      have hlo : b < wr.heap.size := cell_lt h1
      have h1s := Lib.hid h1
      have h2s := Lib.hid h2
      dsimp only at h1 h2
      go_wp2_with fail
      go_region_held3 (fun w' => Below wr.heap.size wr w' ∧ w'.cell? ⟨b, off + k * 2, none⟩ = some (.string (markT (2 * k + 1))) ∧ w'.cell? ⟨b, off + k * 2 + 1, none⟩ = some (.string (markT (2 * k + 2)))) (first | exact ⟨(Below.refl _ _).drew, h1s.out, h2s.out⟩ | assumption | go_keep) (first | (go_at_call 46; refine (c1.out _).mono ?_; rintro e w2 ⟨rfl, hb2⟩; have K2 : Below wr.heap.size wr w2 ∧ w2.cell? ⟨b, off + k * 2, none⟩ = some (.string (markT (2 * k + 1))) ∧ w2.cell? ⟨b, off + k * 2 + 1, none⟩ = some (.string (markT (2 * k + 2))) := ⟨(Below.refl _ _).drew.trans hb2, (hb2.cell (p := ⟨b, off + k * 2, none⟩) hlo).trans h1s.out, (hb2.cell (p := ⟨b, off + k * 2 + 1, none⟩) hlo).trans h2s.out⟩))
      all_goals
        have b2 := hbr.trans (K2.1.mono hbr.size)
        have k1s := Lib.hid K2.2.1
        have k2s := Lib.hid K2.2.2
        have hlo2 : b < w2.heap.size := cell_lt K2.2.1
        have k2' := K2.2.2
        clear K2 h1 h2
        go_wp2_with fail
        go_region_held3 (fun w' => Below w2.heap.size w2 w' ∧ w'.cell? ⟨b, off + k * 2, none⟩ = some (.string (markT (2 * k + 1))) ∧ w'.cell? ⟨b, off + k * 2 + 1, none⟩ = some (.string (markT (2 * k + 2)))) (first | exact ⟨(Below.refl _ _).drew, k1s.out, k2s.out⟩ | assumption | go_keep) (first | (go_at_call 46; refine (c2.out _).mono ?_; rintro e w3 ⟨rfl, hb3⟩; have K3 : Below w2.heap.size w2 w3 ∧ w3.cell? ⟨b, off + k * 2, none⟩ = some (.string (markT (2 * k + 1))) ∧ w3.cell? ⟨b, off + k * 2 + 1, none⟩ = some (.string (markT (2 * k + 2))) := ⟨(Below.refl _ _).drew.trans hb3, (hb3.cell (p := ⟨b, off + k * 2, none⟩) hlo2).trans k1s.out, (hb3.cell (p := ⟨b, off + k * 2 + 1, none⟩) hlo2).trans k2s.out⟩))
        all_goals
          have b3 := b2.trans (K3.1.mono b2.size)
          clear K3
          go_wp2
          go_roundw
          case rel => exact ⟨k + 1, congrArg (Value.int IntKind.i64) (by omega), by go_num, by omega, b3⟩
          case measure => simp [intOf]; omega
    · obtain rfl : k = n := by omega
      go_wp2
      go_ret
      exact ⟨rfl, hbr⟩
set_option maxHeartbeats 2000000 in
theorem sameElements_any (a a' : Option Addr) (n cap n' cap' : Nat) (l l' : List El) (w : World) (h : ElAt w a l) (hn : l.length = n) (h' : ElAt w a' l') (hn' : l'.length = n') (hm : n ≤ maxLen) (hm' : n' ≤ maxLen) :
    Calls Tryd.prog 30 #[.slice a n cap, .slice a' n' cap'] w fun e w' => e = .returned (.bool (decide (l = l'))) ∧ Below w.heap.size w w' := by
  unfold maxLen at hm hm'
  by_cases hnn : n = n'
  · have HN := Lib.hid hn
    have HN' : Hid (l'.length = n) := by rw [hn', hnn]; rfl
    have HE := Lib.hid h
    have HE' := Lib.hid h'
    clear hn h hn' h'
    subst hnn
    go_enter Tryd.func30, Tryd.ntmps30
    go_wp2
    go_loopw [5] (fun i wr => ∃ k : Nat, i = .int .i64 k ∧ k ≤ n ∧ Hid (l.take k = l'.take k) ∧ Below w.heap.size w wr) (fun i _ => n - (intOf i).toNat)
    case atStart => exact ⟨0, rfl, by omega, rfl, Below.refl _ _⟩
    case round =>
      obtain ⟨k, rfl, hk, ho, hbr⟩ := hrel
      by_cases hlt : k < n
      · have hkl : k < l.length := by rw [HN.out]; exact hlt
        have hkl' : k < l'.length := by rw [HN'.out]; exact hlt
        obtain ⟨b, off, ha, h1, h2⟩ := HE.out.old hbr k hkl
        obtain ⟨b', off', ha', h1', h2'⟩ := HE'.out.old hbr k hkl'
        have hd : (decide (l[k] = l'[k]) = true → Hid (l.take (k + 1) = l'.take (k + 1))) ∧ (decide (l[k] = l'[k]) = false → Hid (decide (l = l') = false)) := by
          constructor
          · intro e; exact take_eq_step ho hkl hkl' (of_decide_eq_true e)
          · intro e; exact decide_eq_false (ne_at hkl hkl' (of_decide_eq_false e))
        have HD := Lib.hid hd
        clear hd
        generalize l[k] = x at *
        generalize l'[k] = y at *
        have HQ := Lib.hid (eqEl_iff x y)
        generalize decide (x = y) = q at *
        subst ha
        subst ha'
        have hq : (∃ p : Bool, (x.1.toList == y.1.toList) = p) ∧ (∃ p : Bool, (x.2.toList == y.2.toList) = p) := ⟨⟨_, rfl⟩, ⟨_, rfl⟩⟩
        obtain ⟨⟨p1, hp1⟩, ⟨p2, hp2⟩⟩ := hq
        have HQ2 : Hid ((p1 && p2) = q) := by rw [← HQ.out, ← hp1, ← hp2]; rfl
        cases p1
        · obtain rfl : false = q := by rw [← HQ2.out]; rfl
          have E := HD.out.2 rfl
          go_wp2_with fail
          go_quiet (fail)
          have hbz := below_drewN' hbr nq
          go_wp2
          go_ret
          exact ⟨(ret_bool E.out).symm, hbz⟩
        · cases p2
          · obtain rfl : false = q := by rw [← HQ2.out]; rfl
            have E := HD.out.2 rfl
            go_wp2_with fail
            go_quiet (fail)
            have hbz := below_drewN' hbr nq
            go_wp2
            go_ret
            exact ⟨(ret_bool E.out).symm, hbz⟩
          · obtain rfl : true = q := by rw [← HQ2.out]; rfl
            have E := HD.out.1 rfl
            go_wp2_with fail
            go_quiet (fail)
            have hbz := below_drewN' hbr nq
            go_wp2
            go_roundw
            case rel => exact ⟨k + 1, by go_num, by omega, E, hbz⟩
            case measure => simp [intOf]; omega
      · have E : Hid (decide (l = l') = true) := by
          have := ho.out
          rw [List.take_of_length_le (by rw [HN.out]; omega), List.take_of_length_le (by rw [HN'.out]; omega)] at this
          exact decide_eq_true this
        go_wp2
        go_ret
        exact ⟨(ret_bool E.out).symm, hbr⟩
  · have hb : ((n : Int) != (n' : Int)) = true := by rw [bne_iff_ne]; omega
    have E : Hid (decide (l = l') = false) := decide_eq_false (by intro e; rw [e] at hn; omega)
    clear hnn
    go_enter Tryd.func30, Tryd.ntmps30
    go_wp2
    go_ret
    exact ⟨(ret_bool E.out).symm, Below.refl _ _⟩
end Go.Proofs.YtjkdjemefkignaaDoor
