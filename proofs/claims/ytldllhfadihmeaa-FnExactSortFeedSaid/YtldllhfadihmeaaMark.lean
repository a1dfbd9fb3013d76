/- markText of the laws: the m and the digits of a number from 1 on. -/
import Derived.Test.YtldllhfadihmeaaBytes
import Derived.Test.YtldllhfadihmeaaConv
namespace Go.Proofs.Ytldllhfadihmeaa
open Go.RowKit

/-- The digits of a number ahead of a text. -/
def digT (k : Nat) (acc : ByteArray) : ByteArray := if k = 0 then acc else digT (k / 10) (⟨#[48 + UInt8.ofNat (k % 10)]⟩ ++ acc)
termination_by k
decreasing_by omega
theorem digT_zero (u : ByteArray) : digT 0 u = u := by rw [digT]; simp
theorem digT_step {k : Nat} (h : 0 < k) (u : ByteArray) : digT k u = digT (k / 10) (⟨#[48 + UInt8.ofNat (k % 10)]⟩ ++ u) := by rw [digT, if_neg (by omega)]
def markT (k : Nat) : ByteArray := ⟨#[109]⟩ ++ digT k ⟨#[]⟩

set_option maxHeartbeats 1000000 in
theorem markText_any (k : Nat) (w : World) (hk0 : 0 < k) (hk : k ≤ 1000000000) :
    Calls Try.prog 53 #[.int .i64 k] w fun e w' => e = .returned (.string (markT k)) ∧ Below w.heap.size w w' := by
  go_enter Try.func53, Try.ntmps53
  go_wp2
  go_loopw [0, 3] (fun i o wr => ∃ (j : Nat) (u : ByteArray), i = .int .i64 j ∧ o = .string u ∧ u.size + j ≤ k ∧ Hid (digT j u = digT k ⟨#[]⟩) ∧ Below w.heap.size w wr) (fun i _ _ => (intOf i).toNat)
  case atStart => exact ⟨k, ⟨#[]⟩, rfl, rfl, by rw [show (⟨#[]⟩ : ByteArray).size = 0 from rfl]; omega, rfl, Below.refl _ _⟩
  case round =>
    obtain ⟨j, u, rfl, rfl, hj, ho, hbr⟩ := hrel
    by_cases h0 : 0 < j
    · have HO : Hid (digT (j / 10) (⟨#[48 + UInt8.ofNat (j % 10)]⟩ ++ u) = digT k ⟨#[]⟩) := (digT_step h0 u).symm.trans ho.out
      have e1 : (j : Int).tmod 10 = ((j % 10 : Nat) : Int) := by rw [Int.tmod_eq_emod_of_nonneg (by omega)]; rfl
      have e2 : (j : Int).tdiv 10 = ((j / 10 : Nat) : Int) := by rw [Int.tdiv_eq_ediv_of_nonneg (by omega)]; rfl
      have e3 : IntKind.u8.wrap (48 + ((j % 10 : Nat) : Int)) = ((48 + j % 10 : Nat) : Int) := by rw [IntWalk.u8_in _ (by omega)]; omega
      obtain ⟨b, hb⟩ : ∃ b, b = j % 10 := ⟨_, rfl⟩
      obtain ⟨q, hq⟩ : ∃ q, q = j / 10 := ⟨_, rfl⟩
      rw [← hb] at HO e1 e3
      rw [← hq] at HO e2
      have hb10 : b < 10 := by omega
      have hq1 : q + 1 ≤ j := by omega
      clear hb hq
      have hcv := conv1
      have hz1 : (⟨#[48 + UInt8.ofNat b]⟩ : ByteArray).size = 1 := rfl
      go_wp2
      go_roundw
      case rel => exact ⟨q, _, rfl, rfl, by rw [ByteArray.size_append, hz1]; omega, HO.out, hbr.alloc hbr.size _⟩
      case measure => simp [intOf]; omega
    · have E : Hid (u = digT k ⟨#[]⟩) := by
        have := ho.out
        rw [show j = 0 by omega, digT_zero] at this
        exact this
      have hz1 : (⟨#[109]⟩ : ByteArray).size = 1 := rfl
      go_wp2
      go_ret
      exact ⟨by unfold markT; rw [← E.out]; rfl, hbr⟩
theorem ret_eq {a b : Value} (h : a = b) : Ending.returned a = .returned b := by rw [h]
/-- What a mark holds is short. -/
theorem digT_size (k : Nat) : ∀ u, (digT k u).size ≤ k + u.size := by
  induction k using Nat.strongRecOn with
  | ind k ih =>
    intro u
    by_cases h : 0 < k
    · rw [digT_step h]
      have := ih (k / 10) (by omega) (⟨#[48 + UInt8.ofNat (k % 10)]⟩ ++ u)
      rw [ByteArray.size_append, show (⟨#[48 + UInt8.ofNat (k % 10)]⟩ : ByteArray).size = 1 from rfl] at this
      omega
    · obtain rfl : k = 0 := by omega
      rw [digT_zero]; omega
theorem markT_size (k : Nat) : (markT k).size ≤ k + 1 := by
  unfold markT
  have := digT_size k ⟨#[]⟩
  rw [ByteArray.size_append, show (⟨#[109]⟩ : ByteArray).size = 1 from rfl]
  rw [show (⟨#[]⟩ : ByteArray).size = 0 from rfl] at this
  omega
end Go.Proofs.Ytldllhfadihmeaa
