/- Marking the items of an owned row, and reading the marks back. -/
import Derived.Test.YtldllhfadihmeaaMark
import Derived.Test.YtldllhfadihmeaaOwnB
import Derived.Deep.RegionHeld3
import Derived.Deep.QuietTactic
import Derived.BigQuiet
namespace Go.Proofs.Ytldllhfadihmeaa
open Go.RowKit

def markI (s n : Nat) : List It := (List.range n).map fun i => ⟨markT (s + 4 * i), markT (s + 4 * i + 1), markT (s + 4 * i + 2), ((s + 4 * i + 3 : Nat) : Int)⟩
theorem markI_len (s n : Nat) : (markI s n).length = n := by simp [markI]
theorem markI_snoc (s n : Nat) : markI s (n + 1) = markI s n ++ [⟨markT (s + 4 * n), markT (s + 4 * n + 1), markT (s + 4 * n + 2), ((s + 4 * n + 3 : Nat) : Int)⟩] := by simp [markI, List.range_succ]
theorem markI_at (s n k : Nat) (h : k < (markI s n).length) : (markI s n)[k] = ⟨markT (s + 4 * k), markT (s + 4 * k + 1), markT (s + 4 * k + 2), ((s + 4 * k + 3 : Nat) : Int)⟩ := by simp [markI]
/-- A row whose first k items are marked. -/
def MarkToI (s : Nat) (w : World) (base n cap : Nat) (a : Option Addr) (k : Nat) : Prop :=
  ∃ xs : List Value, w.ownsRow base 34 4 (.slice a n cap) n xs ∧ xs.take (k * 4) = flatI (markI s k)
theorem MarkToI.done {s : Nat} {w : World} {base n cap : Nat} {a : Option Addr} (h : MarkToI s w base n cap a n) : w.ownsRow base 34 4 (.slice a n cap) n (flatI (markI s n)) := by
  obtain ⟨xs, h1, h2⟩ := h
  rw [List.take_of_length_le (by rw [h1.1]; omega)] at h2
  rwa [h2] at h1
theorem MarkToI.kept {s : Nat} {w w' : World} {base n cap k : Nat} {a : Option Addr} (h : MarkToI s w base n cap a k) (hg : w.grownBy w' none) : MarkToI s w' base n cap a k := by
  obtain ⟨xs, h1, h2⟩ := h
  exact ⟨xs, h1.kept hg (by cases (Value.slice a n cap).ownBlock <;> simp), h2⟩
theorem MarkToI.form {s : Nat} {w : World} {base n cap k : Nat} {a : Option Addr} (h : MarkToI s w base n cap a k) (h0 : 0 < n) : ∃ g, a = some ⟨g, 0, none⟩ ∧ base ≤ g ∧ g < w.heap.size := by
  obtain ⟨xs, h1, h2⟩ := h
  rcases h1.2 with ⟨_, h0'⟩ | ⟨g, c, cur, hv, _⟩
  · omega
  injection hv with e1 e2 e3
  subst e1
  have := h1.lt g rfl
  exact ⟨g, rfl, this.1, this.2⟩
theorem MarkToI.cell {s : Nat} {w : World} {base g n cap k : Nat} (h : MarkToI s w base n cap (some ⟨g, 0, none⟩) k) {j : Nat} (hj : j < n * 4) : (∃ u, w.cell? ⟨g, j, none⟩ = some u) ∧ w.frozen? ⟨g, j, none⟩ = false := by
  obtain ⟨xs, h1, h2⟩ := h
  exact ⟨⟨xs[j]'(by rw [h1.1]; omega), by rw [h1.cellAt _ (by omega), List.getElem?_eq_getElem (by rw [h1.1]; omega)]⟩, h1.frozenAt _⟩
theorem MarkToI.part {s : Nat} {w : World} {base g n cap k : Nat} (h : MarkToI s w base n cap (some ⟨g, 0, none⟩) k) (j : Nat) (hj : k * 4 ≤ j) (v : Value) : MarkToI s (w.setCell ⟨g, j, none⟩ v) base n cap (some ⟨g, 0, none⟩) k := by
  obtain ⟨xs, h1, h2⟩ := h
  refine ⟨_, (h1.stored j v).1, ?_⟩
  rw [List.take_set_of_le hj, h2]
theorem MarkToI.next {s : Nat} {w : World} {base g n cap k : Nat} (h : MarkToI s w base n cap (some ⟨g, 0, none⟩) k) (hk : k < n) (c0 : w.cell? ⟨g, k * 4, none⟩ = some (.string (markT (s + 4 * k)))) (c1 : w.cell? ⟨g, k * 4 + 1, none⟩ = some (.string (markT (s + 4 * k + 1))))
    (c2 : w.cell? ⟨g, k * 4 + 2, none⟩ = some (.string (markT (s + 4 * k + 2)))) (c3 : w.cell? ⟨g, k * 4 + 3, none⟩ = some (.int .i64 ((s + 4 * k + 3 : Nat) : Int))) : MarkToI s w base n cap (some ⟨g, 0, none⟩) (k + 1) := by
  obtain ⟨xs, h1, h2⟩ := h
  refine ⟨xs, h1, ?_⟩
  have at_ : ∀ j v, j < n * 4 → w.cell? ⟨g, j, none⟩ = some v → xs[j]? = some v := fun j v hj hc => by
    have := h1.cellAt j (by omega)
    rw [hc] at this
    exact this.symm
  have set_ : ∀ j v (ys : List Value), ys[j]? = some v → ys.set j v = ys := fun j v ys hy => by
    obtain ⟨hj, rfl⟩ := List.getElem?_eq_some_iff.1 hy
    exact List.set_getElem_self ..
  have e0 := set_ _ _ xs (at_ _ _ (by omega) c0)
  have e1 := set_ _ _ xs (at_ _ _ (by omega) c1)
  have e2 := set_ _ _ xs (at_ _ _ (by omega) c2)
  have e3 := set_ _ _ xs (at_ _ _ (by omega) c3)
  have := take_set4 h2 (by rw [h1.1]; omega) (.string (markT (s + 4 * k))) (.string (markT (s + 4 * k + 1))) (.string (markT (s + 4 * k + 2))) (.int .i64 ((s + 4 * k + 3 : Nat) : Int))
  rw [e0, e1, e2, e3] at this
  rw [this, markI_snoc, flatI_app]
  rfl

set_option maxHeartbeats 2000000 in
theorem markItemS_row (g0 : Nat) (s : Nat) (a : Option Addr) (n cap : Nat) (xs : List Value) (base : Nat) (w : World) (h : w.ownsRow base 34 4 (.slice a n cap) n xs) (hs0 : 0 < s) (hs : s ≤ 100000000) (hn : n ≤ 10000000) (hg0 : ∀ x, a = some x → x.block = g0) :
    Calls Try.prog 20 #[.slice a n cap, .int .i64 s] w fun e w' => e = .returned (.int .i64 (s + 4 * n : Nat)) ∧ w'.ownsRow base 34 4 (.slice a n cap) n (flatI (markI s n)) ∧ w.grownBy w' (some g0) := by
  have HG := Lib.hid hg0
  have H0 : Hid (MarkToI s w base n cap a 0) := ⟨xs, h, by simp [markI, flatI]⟩
  clear h hg0
  go_enter Try.func20, Try.ntmps20
  go_wp2
  go_loopw [1, 5] (fun q i wr => ∃ k : Nat, q = .int .i64 (s + 4 * k : Nat) ∧ i = .int .i64 k ∧ k ≤ n ∧ Hid (MarkToI s wr base n cap a k) ∧ w.grownBy wr (some g0)) (fun _ i _ => n - (intOf i).toNat)
  case atStart => exact ⟨0, rfl, rfl, by omega, H0, World.grownBy.refl w _⟩
  case round =>
    obtain ⟨k, rfl, rfl, hk, ho, hbr⟩ := hrel
    by_cases hlt : k < n
    · obtain ⟨g, rfl, hbg, hgw⟩ := ho.out.form (by omega)
      obtain rfl : g = g0 := HG.out _ rfl
      have c0 : Hid (∀ w, Calls Try.prog 53 #[.int .i64 ((s : Int) + 4 * (k : Int))] w fun e w' => e = .returned (.string (markT (s + 4 * k))) ∧ Below w.heap.size w w') := fun w => by
        rw [show ((s : Int) + 4 * (k : Int)) = ((s + 4 * k : Nat) : Int) from by omega]
        exact markText_any (s + 4 * k) w (by omega) (by omega)
      have c1 : Hid (∀ w, Calls Try.prog 53 #[.int .i64 ((s : Int) + 4 * (k : Int) + 1)] w fun e w' => e = .returned (.string (markT (s + 4 * k + 1))) ∧ Below w.heap.size w w') := fun w => by
        rw [show ((s : Int) + 4 * (k : Int) + 1) = ((s + 4 * k + 1 : Nat) : Int) from by omega]
        exact markText_any (s + 4 * k + 1) w (by omega) (by omega)
      have c2 : Hid (∀ w, Calls Try.prog 53 #[.int .i64 ((s : Int) + 4 * (k : Int) + 1 + 1)] w fun e w' => e = .returned (.string (markT (s + 4 * k + 2))) ∧ Below w.heap.size w w') := fun w => by
        rw [show ((s : Int) + 4 * (k : Int) + 1 + 1) = ((s + 4 * k + 2 : Nat) : Int) from by omega]
        exact markText_any (s + 4 * k + 2) w (by omega) (by omega)
      go_wp2_with fail
      refine (c0.out _).mono ?_
      rintro e w2 ⟨rfl, hb2⟩
      have m2 := Lib.hid (ho.out.kept (below_grown hb2))
      obtain ⟨⟨u0, hu0⟩, fu0⟩ := m2.out.cell (j := k * 4) (by omega)
      have z2 := grown_some hbr (below_grown hb2)
      have m3 := Lib.hid (m2.out.part (k * 4) (by omega) (.string (markT (s + 4 * k))))
      have z3 := grown_trans z2 (grown_set _ g (k * 4) (.string (markT (s + 4 * k))))
      have p3 := Lib.hid (show (w2.setCell ⟨g, k * 4, none⟩ (.string (markT (s + 4 * k)))).cell? ⟨g, k * 4, none⟩ = some (.string (markT (s + 4 * k))) from by go_simp)
      have l3 : Hid (g < (w2.setCell ⟨g, k * 4, none⟩ (.string (markT (s + 4 * k)))).heap.size) := cell_lt' p3.out
      go_wp2_with fail
      refine (c1.out _).mono ?_
      rintro e w4 ⟨rfl, hb4⟩
      have m4 := Lib.hid (m3.out.kept (below_grown hb4))
      obtain ⟨⟨u1, hu1⟩, fu1⟩ := m4.out.cell (j := k * 4 + 1) (by omega)
      have z4 := grown_some z3 (below_grown hb4)
      have p4 := Lib.hid ((hb4.cell (p := ⟨g, k * 4, none⟩) l3.out).trans p3.out)
      have m5 := Lib.hid (m4.out.part (k * 4 + 1) (by omega) (.string (markT (s + 4 * k + 1))))
      have z5 := grown_trans z4 (grown_set _ g (k * 4 + 1) (.string (markT (s + 4 * k + 1))))
      have p50 := Lib.hid ((World.cell?_setCell_other w4 ⟨g, k * 4 + 1, none⟩ ⟨g, k * 4, none⟩ (.string (markT (s + 4 * k + 1))) (fun e => by injection e with _ e; omega)).trans p4.out)
      have p51 := Lib.hid (show (w4.setCell ⟨g, k * 4 + 1, none⟩ (.string (markT (s + 4 * k + 1)))).cell? ⟨g, k * 4 + 1, none⟩ = some (.string (markT (s + 4 * k + 1))) from by go_simp)
      have l5 : Hid (g < (w4.setCell ⟨g, k * 4 + 1, none⟩ (.string (markT (s + 4 * k + 1)))).heap.size) := cell_lt' p51.out
      clear hu0 fu0
      go_wp2_with fail
      refine (c2.out _).mono ?_
      rintro e w6 ⟨rfl, hb6⟩
      have m6 := Lib.hid (m5.out.kept (below_grown hb6))
      obtain ⟨⟨u2, hu2⟩, fu2⟩ := m6.out.cell (j := k * 4 + 2) (by omega)
      have z6 := grown_some z5 (below_grown hb6)
      have p60 := (hb6.cell (p := ⟨g, k * 4, none⟩) l5.out).trans p50.out
      have p61 := (hb6.cell (p := ⟨g, k * 4 + 1, none⟩) l5.out).trans p51.out
      have m7 := Lib.hid (m6.out.part (k * 4 + 2) (by omega) (.string (markT (s + 4 * k + 2))))
      have z7 := grown_trans z6 (grown_set _ g (k * 4 + 2) (.string (markT (s + 4 * k + 2))))
      obtain ⟨⟨u3, hu3⟩, fu3⟩ := m7.out.cell (j := k * 4 + 3) (by omega)
      have m8 := m7.out.part (k * 4 + 3) (by omega) (.int .i64 ((s : Int) + 4 * (k : Int) + 1 + 1 + 1))
      have z8 := grown_trans z7 (grown_set _ g (k * 4 + 3) (.int .i64 ((s : Int) + 4 * (k : Int) + 1 + 1 + 1)))
      have oth : ∀ (W : World) (i j : Nat) (v : Value), i ≠ j → (W.setCell ⟨g, j, none⟩ v).cell? ⟨g, i, none⟩ = W.cell? ⟨g, i, none⟩ := fun W i j v hij => World.cell?_setCell_other W ⟨g, j, none⟩ ⟨g, i, none⟩ v (fun e => by injection e with _ e; exact hij e.symm)
      have q0 : ((w6.setCell ⟨g, k * 4 + 2, none⟩ (.string (markT (s + 4 * k + 2)))).setCell ⟨g, k * 4 + 3, none⟩ (.int .i64 ((s : Int) + 4 * (k : Int) + 1 + 1 + 1))).cell? ⟨g, k * 4, none⟩ = some (.string (markT (s + 4 * k))) := (oth _ _ _ _ (by omega)).trans ((oth _ _ _ _ (by omega)).trans p60)
      have q1 : ((w6.setCell ⟨g, k * 4 + 2, none⟩ (.string (markT (s + 4 * k + 2)))).setCell ⟨g, k * 4 + 3, none⟩ (.int .i64 ((s : Int) + 4 * (k : Int) + 1 + 1 + 1))).cell? ⟨g, k * 4 + 1, none⟩ = some (.string (markT (s + 4 * k + 1))) := (oth _ _ _ _ (by omega)).trans ((oth _ _ _ _ (by omega)).trans p61)
      have q2 : ((w6.setCell ⟨g, k * 4 + 2, none⟩ (.string (markT (s + 4 * k + 2)))).setCell ⟨g, k * 4 + 3, none⟩ (.int .i64 ((s : Int) + 4 * (k : Int) + 1 + 1 + 1))).cell? ⟨g, k * 4 + 2, none⟩ = some (.string (markT (s + 4 * k + 2))) := (oth _ _ _ _ (by omega)).trans (by go_simp)
      have q3 : ((w6.setCell ⟨g, k * 4 + 2, none⟩ (.string (markT (s + 4 * k + 2)))).setCell ⟨g, k * 4 + 3, none⟩ (.int .i64 ((s : Int) + 4 * (k : Int) + 1 + 1 + 1))).cell? ⟨g, k * 4 + 3, none⟩ = some (.int .i64 ((s + 4 * k + 3 : Nat) : Int)) := by
        rw [show ((s + 4 * k + 3 : Nat) : Int) = (s : Int) + 4 * (k : Int) + 1 + 1 + 1 from by omega]
        go_simp
      have M := Lib.hid (m8.next hlt q0 q1 q2 q3)
      have hu3' := hu3
      have fu3' := fu3
      clear hu1 fu1 p60 p61 m8 q0 q1 q2 q3 oth hu3' fu3'
      go_wp2
      go_roundw
      case rel => exact ⟨k + 1, congrArg (Value.int IntKind.i64) (by omega), by go_num, by omega, M.out, z8⟩
      case measure => simp [intOf]; omega
    · obtain rfl : k = n := by omega
      have HD := Lib.hid (ho.out.done)
      go_wp2
      go_ret
      exact ⟨rfl, HD.out, hbr⟩

set_option maxHeartbeats 2000000 in
theorem heldItemS_any (s : Nat) (a : Option Addr) (n cap : Nat) (w : World) (h : ItAt w a (markI s n)) (hs0 : 0 < s) (hs : s ≤ 100000000) (hn : n ≤ 10000000) :
    Calls Try.prog 21 #[.slice a n cap, .int .i64 s] w fun e w' => e = .returned (.int .i64 (s + 4 * n : Nat)) ∧ Below w.heap.size w w' := by
  have HE := Lib.hid h
  clear h
  go_enter Try.func21, Try.ntmps21
  go_wp2
  go_loopw [1, 5] (fun q i wr => ∃ k : Nat, q = .int .i64 (s + 4 * k : Nat) ∧ i = .int .i64 k ∧ k ≤ n ∧ Below w.heap.size w wr) (fun _ i _ => n - (intOf i).toNat)
  case atStart => exact ⟨0, rfl, rfl, by omega, Below.refl _ _⟩
  case round =>
    obtain ⟨k, rfl, rfl, hk, hbr⟩ := hrel
    by_cases hlt : k < n
    · have hkl : k < (markI s n).length := by rw [markI_len]; exact hlt
      obtain ⟨b, off, rfl, h1, h2, h3, h4⟩ := HE.out k hkl
      rw [markI_at] at h1 h2 h3 h4
      dsimp only at h1 h2 h3 h4
      rw [show ((s + 4 * k + 3 : Nat) : Int) = (s : Int) + 4 * (k : Int) + 1 + 1 + 1 from by omega] at h4
      have hlo := cell_lt' h1
      have KC : Hid (∀ w', Below w.heap.size w w' → Below w.heap.size w w' ∧ w'.cell? ⟨b, off + k * 4, none⟩ = some (.string (markT (s + 4 * k))) ∧ w'.cell? ⟨b, off + k * 4 + 1, none⟩ = some (.string (markT (s + 4 * k + 1))) ∧ w'.cell? ⟨b, off + k * 4 + 2, none⟩ = some (.string (markT (s + 4 * k + 2))) ∧ w'.cell? ⟨b, off + k * 4 + 3, none⟩ = some (.int .i64 ((s : Int) + 4 * (k : Int) + 1 + 1 + 1))) := fun w' hb =>
        ⟨hb, (hb.cell (p := ⟨b, off + k * 4, none⟩) hlo).trans h1, (hb.cell (p := ⟨b, off + k * 4 + 1, none⟩) hlo).trans h2, (hb.cell (p := ⟨b, off + k * 4 + 2, none⟩) hlo).trans h3, (hb.cell (p := ⟨b, off + k * 4 + 3, none⟩) hlo).trans h4⟩
      have c0 : Hid (∀ w, Calls Try.prog 53 #[.int .i64 ((s : Int) + 4 * (k : Int))] w fun e w' => e = .returned (.string (markT (s + 4 * k))) ∧ Below w.heap.size w w') := fun w => by
        rw [show ((s : Int) + 4 * (k : Int)) = ((s + 4 * k : Nat) : Int) from by omega]
        exact markText_any (s + 4 * k) w (by omega) (by omega)
      have c1 : Hid (∀ w, Calls Try.prog 53 #[.int .i64 ((s : Int) + 4 * (k : Int) + 1)] w fun e w' => e = .returned (.string (markT (s + 4 * k + 1))) ∧ Below w.heap.size w w') := fun w => by
        rw [show ((s : Int) + 4 * (k : Int) + 1) = ((s + 4 * k + 1 : Nat) : Int) from by omega]
        exact markText_any (s + 4 * k + 1) w (by omega) (by omega)
      have c2 : Hid (∀ w, Calls Try.prog 53 #[.int .i64 ((s : Int) + 4 * (k : Int) + 1 + 1)] w fun e w' => e = .returned (.string (markT (s + 4 * k + 2))) ∧ Below w.heap.size w w') := fun w => by
        rw [show ((s : Int) + 4 * (k : Int) + 1 + 1) = ((s + 4 * k + 2 : Nat) : Int) from by omega]
        exact markText_any (s + 4 * k + 2) w (by omega) (by omega)
      clear h1 h2 h3 h4
      have K0 := KC.out wr hbr
      go_wp2_with fail
      go_region_held3 (fun w' => Below w.heap.size w w' ∧ w'.cell? ⟨b, off + k * 4, none⟩ = some (.string (markT (s + 4 * k))) ∧ w'.cell? ⟨b, off + k * 4 + 1, none⟩ = some (.string (markT (s + 4 * k + 1))) ∧ w'.cell? ⟨b, off + k * 4 + 2, none⟩ = some (.string (markT (s + 4 * k + 2))) ∧ w'.cell? ⟨b, off + k * 4 + 3, none⟩ = some (.int .i64 ((s : Int) + 4 * (k : Int) + 1 + 1 + 1))) (first | exact ⟨K0.1.drew, (KC.out _ K0.1.drew).2⟩ | assumption | go_keep) (first | (go_at_call 53; refine (c0.out _).mono ?_; rintro e w2 ⟨rfl, hbw2⟩; have K2 : Below w.heap.size w w2 ∧ w2.cell? ⟨b, off + k * 4, none⟩ = some (.string (markT (s + 4 * k))) ∧ w2.cell? ⟨b, off + k * 4 + 1, none⟩ = some (.string (markT (s + 4 * k + 1))) ∧ w2.cell? ⟨b, off + k * 4 + 2, none⟩ = some (.string (markT (s + 4 * k + 2))) ∧ w2.cell? ⟨b, off + k * 4 + 3, none⟩ = some (.int .i64 ((s : Int) + 4 * (k : Int) + 1 + 1 + 1)) := KC.out w2 (K0.1.drew.trans (hbw2.mono K0.1.drew.size))))
      go_wp2_with fail
      go_region_held3 (fun w' => Below w.heap.size w w' ∧ w'.cell? ⟨b, off + k * 4, none⟩ = some (.string (markT (s + 4 * k))) ∧ w'.cell? ⟨b, off + k * 4 + 1, none⟩ = some (.string (markT (s + 4 * k + 1))) ∧ w'.cell? ⟨b, off + k * 4 + 2, none⟩ = some (.string (markT (s + 4 * k + 2))) ∧ w'.cell? ⟨b, off + k * 4 + 3, none⟩ = some (.int .i64 ((s : Int) + 4 * (k : Int) + 1 + 1 + 1))) (first | exact ⟨K2.1.drew, (KC.out _ K2.1.drew).2⟩ | assumption | go_keep) (first | (go_at_call 53; refine (c1.out _).mono ?_; rintro e w3 ⟨rfl, hbw3⟩; have K3 : Below w.heap.size w w3 ∧ w3.cell? ⟨b, off + k * 4, none⟩ = some (.string (markT (s + 4 * k))) ∧ w3.cell? ⟨b, off + k * 4 + 1, none⟩ = some (.string (markT (s + 4 * k + 1))) ∧ w3.cell? ⟨b, off + k * 4 + 2, none⟩ = some (.string (markT (s + 4 * k + 2))) ∧ w3.cell? ⟨b, off + k * 4 + 3, none⟩ = some (.int .i64 ((s : Int) + 4 * (k : Int) + 1 + 1 + 1)) := KC.out w3 (K2.1.drew.trans (hbw3.mono K2.1.drew.size))))
      go_wp2_with fail
      go_region_held3 (fun w' => Below w.heap.size w w' ∧ w'.cell? ⟨b, off + k * 4, none⟩ = some (.string (markT (s + 4 * k))) ∧ w'.cell? ⟨b, off + k * 4 + 1, none⟩ = some (.string (markT (s + 4 * k + 1))) ∧ w'.cell? ⟨b, off + k * 4 + 2, none⟩ = some (.string (markT (s + 4 * k + 2))) ∧ w'.cell? ⟨b, off + k * 4 + 3, none⟩ = some (.int .i64 ((s : Int) + 4 * (k : Int) + 1 + 1 + 1))) (first | exact ⟨K3.1.drew, (KC.out _ K3.1.drew).2⟩ | assumption | go_keep) (first | (go_at_call 53; refine (c2.out _).mono ?_; rintro e w4 ⟨rfl, hbw4⟩; have K4 : Below w.heap.size w w4 ∧ w4.cell? ⟨b, off + k * 4, none⟩ = some (.string (markT (s + 4 * k))) ∧ w4.cell? ⟨b, off + k * 4 + 1, none⟩ = some (.string (markT (s + 4 * k + 1))) ∧ w4.cell? ⟨b, off + k * 4 + 2, none⟩ = some (.string (markT (s + 4 * k + 2))) ∧ w4.cell? ⟨b, off + k * 4 + 3, none⟩ = some (.int .i64 ((s : Int) + 4 * (k : Int) + 1 + 1 + 1)) := KC.out w4 (K3.1.drew.trans (hbw4.mono K3.1.drew.size))))
      have bq := K4.1
      have k4 := K4.2.2.2.2
      clear K0 K2 K3 K4
      go_wp2
      go_roundw
      case rel => exact ⟨k + 1, congrArg (Value.int IntKind.i64) (by omega), by go_num, by omega, bq⟩
      case measure => simp [intOf]; omega
    · obtain rfl : k = n := by omega
      go_wp2
      go_ret
      exact ⟨rfl, hbr⟩
end Go.Proofs.Ytldllhfadihmeaa
