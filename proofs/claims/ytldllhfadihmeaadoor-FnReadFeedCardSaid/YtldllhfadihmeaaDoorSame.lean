/- sameFeed at two rows of the same items. -/
import Derived.Test.YtldllhfadihmeaaDoorCmpI
import Derived.Test.YtldllhfadihmeaaDoorNewW
import Derived.Deep.QuietTactic
import Derived.BigQuiet
namespace Go.Proofs.YtldllhfadihmeaaDoor
open Go.RowKit

set_option maxHeartbeats 2000000 in
theorem sameFeed_any (a a' : Option Addr) (n cap cap' : Nat) (l : List It) (w : World) (h : ItAt w a l) (h' : ItAt w a' l) (hn : l.length = n) (hm : n ≤ maxLen) :
    Calls Tryd.prog 21 #[.slice a n cap, .slice a' n cap'] w fun e w' => e = .returned (.bool true) ∧ Below w.heap.size w w' := by
  unfold maxLen at hm
  have HN := Lib.hid hn
  have HE := Lib.hid h
  have HE' := Lib.hid h'
  clear hn h h'
  go_enter Tryd.func21, Tryd.ntmps21
  go_wp2
  go_loopw [5] (fun i wr => ∃ k : Nat, i = .int .i64 k ∧ k ≤ n ∧ Below w.heap.size w wr) (fun i _ => n - (intOf i).toNat)
  case atStart => exact ⟨0, rfl, by omega, Below.refl _ _⟩
  case round =>
    obtain ⟨k, rfl, hk, hbr⟩ := hrel
    by_cases hlt : k < n
    · have hkl : k < l.length := by rw [HN.out]; exact hlt
      obtain ⟨b, off, ha, h1, h2, h3, h4⟩ := HE.out.old hbr k hkl
      obtain ⟨b', off', ha', h1', h2', h3', h4'⟩ := HE'.out.old hbr k hkl
      generalize l[k] = x at *
      subst ha
      subst ha'
      have hq1 := fun W => neq_item x x W
      have hq2 := fun W o p => guard_item .neq o p #[.string x.key, .string x.title, .string x.body, .int .i64 x.day] #[.string x.key, .string x.title, .string x.body, .int .i64 x.day] W
      rw [decide_eq_true (rfl : x = x)] at hq1
      simp only [Bool.not_true] at hq1
      go_wp2_with fail
      go_quiet (fail)
      go_wp2
      go_roundw
      case rel => exact ⟨k + 1, by go_num, by omega, below_drewN' hbr _⟩
      case measure => simp [intOf]; omega
    · go_wp2
      go_ret
      exact ⟨rfl, hbr⟩
end Go.Proofs.YtldllhfadihmeaaDoor
