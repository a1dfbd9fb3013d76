/- szItemS with whatever is left. -/
import Derived.Test.YtldllhfadihmeaaItR
namespace Go.Proofs.Ytldllhfadihmeaa
open Go.RowKit

set_option maxHeartbeats 1000000 in
theorem szItemS_gen (a : Option Addr) (n cap : Nat) (l : List It) (left : Int) (w : World) (l0 : 0 ≤ left) (l1 : left ≤ 1048576) (h : ItAt w a l) (hn : l.length = n) (hm : n ≤ maxLen) (hs : ∀ e ∈ l, e.key.size ≤ maxLen ∧ e.title.size ≤ maxLen ∧ e.body.size ≤ maxLen) :
    Calls Try.prog 15 #[.slice a n cap, .int .i64 left] w fun e w' => (∃ r : Int, e = .returned (.int .i64 r) ∧ r ≤ 1048576 ∧ (0 ≤ r → n ≤ 1048576 ∧ ∀ e ∈ l, e.key.size ≤ 1048576 ∧ e.title.size ≤ 1048576 ∧ e.body.size ≤ 1048576)) ∧ Below w.heap.size w w' := by
  unfold maxLen at hm
  have HN := Lib.hid hn
  have HE := Lib.hid h
  have HS := Lib.hid hs
  clear hn h hs
  by_cases hl : left < (n : Int)
  · go_enter Try.func15, Try.ntmps15
    go_wp2
    go_ret
    exact ⟨⟨_, rfl, by omega, fun h => by omega⟩, Below.refl _ _⟩
  · go_enter Try.func15, Try.ntmps15
    go_wp2
    go_loopw [1, 5] (fun r i wr => ∃ (k : Nat) (v : Int), r = .int .i64 v ∧ i = .int .i64 k ∧ k ≤ n ∧ 0 ≤ v ∧ v ≤ 1048576 ∧ Hid (∀ e ∈ l.take k, e.key.size ≤ 1048576 ∧ e.title.size ≤ 1048576 ∧ e.body.size ≤ 1048576) ∧ Below w.heap.size w wr) (fun _ i _ => n - (intOf i).toNat)
    case atStart => exact ⟨0, _, rfl, rfl, by omega, by omega, by omega, fun e he => by simp at he, Below.refl _ _⟩
    case round =>
      obtain ⟨k, v, rfl, rfl, hk, v0, v1, ho, hbr⟩ := hrel
      by_cases hlt : k < n
      · have hkl : k < l.length := by rw [HN.out]; exact hlt
        obtain ⟨b, off, ha, h1, h2, h3, h4⟩ := HE.out.old hbr k hkl
        obtain ⟨hz1, hz2, hz3⟩ := HS.out _ (List.getElem_mem hkl)
        have c1 := Lib.hid (fun w => szItem_any l[k] v w hz1 hz2 hz3 v0 v1)
        have HT : Hid (∀ x : It, x = l[k] → x.key.size ≤ 1048576 → x.title.size ≤ 1048576 → x.body.size ≤ 1048576 → ∀ e ∈ l.take (k + 1), e.key.size ≤ 1048576 ∧ e.title.size ≤ 1048576 ∧ e.body.size ≤ 1048576) := by
          intro x hx hx1 hx2 hx3 e he
          rw [List.take_succ_eq_append_getElem hkl, ← hx, List.mem_append, List.mem_singleton] at he
          rcases he with he | rfl
          · exact ho.out e he
          · exact ⟨hx1, hx2, hx3⟩
        obtain ⟨x, hx⟩ : ∃ x, x = l[k] := ⟨_, rfl⟩
        have HX := Lib.hid hx
        rw [← hx] at h1 h2 h3 h4 c1
        clear hx
        subst ha
        go_wp2_with fail
        refine (c1.out _).mono ?_
        rintro e w2 ⟨⟨r, rfl, r1, r2⟩, hb2⟩
        have hbz := hbr.trans (hb2.mono hbr.size)
        by_cases hr : 0 ≤ r
        · obtain ⟨r3, r4, r5⟩ := r2 hr
          have HR := Lib.hid (HT.out x HX.out (by omega) (by omega) (by omega))
          go_wp2
          go_roundw
          case rel => exact ⟨k + 1, r, rfl, by go_num, by omega, hr, by omega, HR.out, hbz⟩
          case measure => simp [intOf]; omega
        · go_wp2
          go_ret
          exact ⟨⟨_, rfl, by omega, fun h => by omega⟩, hbz⟩
      · have HR : Hid (∀ e ∈ l, e.key.size ≤ 1048576 ∧ e.title.size ≤ 1048576 ∧ e.body.size ≤ 1048576) := by
          have := ho.out
          rw [List.take_of_length_le (by rw [HN.out]; omega)] at this
          exact this
        go_wp2
        go_ret
        exact ⟨⟨_, rfl, by omega, fun _ => ⟨by omega, HR.out⟩⟩, hbr⟩

end Go.Proofs.Ytldllhfadihmeaa
