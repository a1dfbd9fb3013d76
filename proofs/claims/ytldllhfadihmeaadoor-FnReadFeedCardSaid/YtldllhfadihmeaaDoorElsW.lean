/- ElementsValid, the program's and the reference's, computes elsV, for every row of elements. -/
import Derived.Test.YtldllhfadihmeaaDoorElAt
namespace Go.Proofs.YtldllhfadihmeaaDoor
open Go.RowKit

/-- The first k elements are valid. -/
def EvTo (l : List El) (k : Nat) : Prop := (l.take k).all elV = true
theorem EvTo.zero (l : List El) : EvTo l 0 := by simp [EvTo]
theorem take_snocE (l : List El) (k : Nat) (h : k < l.length) : l.take (k + 1) = l.take k ++ [l[k]] := by
  rw [List.take_succ_eq_append_getElem h]
theorem EvTo.next {l : List El} {k : Nat} (h : EvTo l k) (hk : k < l.length) (h1 : wordV l[k].1.data.toList = true) (h2 : textV l[k].2.data.toList = true) : EvTo l (k + 1) := by
  unfold EvTo at *
  rw [take_snocE l k hk, List.all_append, h]
  simp [elV, El.n, El.t, h1, h2]
theorem EvTo.done {l : List El} {k : Nat} (h : EvTo l k) (hk : l.length ≤ k) : elsV l = decide (l.length ≤ 8) := by
  unfold EvTo at h
  rw [List.take_of_length_le hk] at h
  unfold elsV; rw [h, Bool.and_true]

set_option maxHeartbeats 1000000 in
theorem impl_elementsValid (a : Option Addr) (n cap : Nat) (l : List El) (w : World) (h : ElAt w a l) (hn : l.length = n) (hm : n ≤ maxLen) (hs : ∀ e ∈ l, e.1.size ≤ maxLen ∧ e.2.size ≤ maxLen) :
    Calls Tryd.prog 74 #[.slice a n cap] w fun e w' => e = .returned (.bool (elsV l)) ∧ Below w.heap.size w w' := by
  unfold maxLen at hm
  by_cases hl : 8 < n
  · have E := Lib.hid (elsV_long (l := l) (by omega))
    go_enter Tryd.func74, Tryd.ntmps74
    go_wp2
    go_ret
    exact ⟨(ret_bool E.out).symm, Below.refl _ _⟩
  · have HN := Lib.hid hn
    have HE := Lib.hid h
    have HS := Lib.hid hs
    clear hn h hs
    go_enter Tryd.func74, Tryd.ntmps74
    go_wp2
    go_loopw [10] (fun i wr => ∃ k : Nat, i = .int .i64 k ∧ k ≤ n ∧ EvTo l k ∧ Below w.heap.size w wr) (fun i _ => n - (intOf i).toNat)
    case atStart => exact ⟨0, rfl, by omega, EvTo.zero l, Below.refl _ _⟩
    case round =>
      obtain ⟨k, rfl, hk, ho, hbr⟩ := hrel
      by_cases hlt : k < n
      · have hkl : k < l.length := by rw [HN.out]; exact hlt
        obtain ⟨b, off, ha, h1, h2⟩ := HE.out.old hbr k hkl
        obtain ⟨hz1, hz2⟩ := HS.out _ (List.getElem_mem hkl)
        have c1 := Lib.hid (fun w => impl_wordValid l[k].1 w hz1)
        have c2 := Lib.hid (fun w => impl_textValid l[k].2 w hz2)
        have hbw := hbr.alloc hbr.size (.cells #[.string l[k].1, .string l[k].2] 67)
        cases hw : wordV l[k].1.data.toList
        · rw [hw] at c1
          have E := Lib.hid (elsV_bad hkl (elV_false (.inl hw)))
          clear hw c2 ho
          generalize l[k] = x at *
          subst ha
          go_wp2_with fail
          refine (c1.out _).mono ?_
          rintro e w' ⟨rfl, rfl⟩
          go_wp2
          go_ret
          exact ⟨(ret_bool E.out).symm, hbw⟩
        · rw [hw] at c1
          cases ht : textV l[k].2.data.toList
          · rw [ht] at c2
            have E := Lib.hid (elsV_bad hkl (elV_false (.inr ht)))
            clear hw ht ho
            generalize l[k] = x at *
            subst ha
            go_wp2_with fail
            refine (c1.out _).mono ?_
            rintro e w' ⟨rfl, rfl⟩
            go_wp2_with fail
            refine (c2.out _).mono ?_
            rintro e w' ⟨rfl, rfl⟩
            go_wp2
            go_ret
            exact ⟨(ret_bool E.out).symm, hbw⟩
          · rw [ht] at c2
            have HO := Lib.hid (ho.next hkl hw ht)
            clear hw ht ho
            generalize l[k] = x at *
            subst ha
            go_wp2_with fail
            refine (c1.out _).mono ?_
            rintro e w' ⟨rfl, rfl⟩
            go_wp2_with fail
            refine (c2.out _).mono ?_
            rintro e w' ⟨rfl, rfl⟩
            go_wp2
            go_roundw
            case rel => exact ⟨k + 1, by go_num, by omega, HO.out, hbw⟩
            case measure => simp [intOf]; omega
      · have E := Lib.hid (ho.done (by rw [HN.out]; omega))
        have hd : decide (l.length ≤ 8) = true := decide_eq_true (by rw [HN.out]; omega)
        have E2 := Lib.hid (E.out.trans hd)
        clear hd
        go_wp2
        go_ret
        exact ⟨(ret_bool E2.out).symm, hbr⟩

set_option maxHeartbeats 1000000 in
theorem spec_elementsValid (a : Option Addr) (n cap : Nat) (l : List El) (w : World) (h : ElAt w a l) (hn : l.length = n) (hm : n ≤ maxLen) (hs : ∀ e ∈ l, e.1.size ≤ maxLen ∧ e.2.size ≤ maxLen) :
    Calls Tryd.prog 71 #[.slice a n cap] w fun e w' => e = .returned (.bool (elsV l)) ∧ w = w' := by
  unfold maxLen at hm
  have HN := Lib.hid hn
  have HE := Lib.hid h
  have HS := Lib.hid hs
  clear hn h hs
  go_enter Tryd.func71, Tryd.ntmps71
  go_wp2
  go_loop [3] (fun i => ∃ k : Nat, i = .int .i64 k ∧ k ≤ n ∧ EvTo l k) (fun i => n - (intOf i).toNat)
  case atStart => exact ⟨0, rfl, by omega, EvTo.zero l⟩
  case round =>
    obtain ⟨k, rfl, hk, ho⟩ := hrel
    by_cases hlt : k < n
    · have hkl : k < l.length := by rw [HN.out]; exact hlt
      obtain ⟨b, off, ha, h1, h2⟩ := HE.out k hkl
      obtain ⟨hz1, hz2⟩ := HS.out _ (List.getElem_mem hkl)
      have c1 := Lib.hid (fun w => spec_wordValid l[k].1 w hz1)
      have c2 := Lib.hid (fun w => spec_textValid l[k].2 w hz2)
      cases hw : wordV l[k].1.data.toList
      · rw [hw] at c1
        have E := Lib.hid (elsV_bad hkl (elV_false (.inl hw)))
        clear hw c2 ho
        generalize l[k] = x at *
        subst ha
        go_wp2_with fail
        refine (c1.out _).mono ?_
        rintro e w' ⟨rfl, rfl⟩
        go_wp2
        go_ret
        exact ⟨(ret_bool E.out).symm, rfl⟩
      · rw [hw] at c1
        cases ht : textV l[k].2.data.toList
        · rw [ht] at c2
          have E := Lib.hid (elsV_bad hkl (elV_false (.inr ht)))
          clear hw ht ho
          generalize l[k] = x at *
          subst ha
          go_wp2_with fail
          refine (c1.out _).mono ?_
          rintro e w' ⟨rfl, rfl⟩
          go_wp2_with fail
          refine (c2.out _).mono ?_
          rintro e w' ⟨rfl, rfl⟩
          go_wp2
          go_ret
          exact ⟨(ret_bool E.out).symm, rfl⟩
        · rw [ht] at c2
          have HO := Lib.hid (ho.next hkl hw ht)
          clear hw ht ho
          generalize l[k] = x at *
          subst ha
          go_wp2_with fail
          refine (c1.out _).mono ?_
          rintro e w' ⟨rfl, rfl⟩
          go_wp2_with fail
          refine (c2.out _).mono ?_
          rintro e w' ⟨rfl, rfl⟩
          go_wp2
          go_round
          case rel => exact ⟨k + 1, by go_num, by omega, HO.out⟩
          case measure => simp [intOf]; omega
    · have E := Lib.hid (ho.done (by rw [HN.out]; omega))
      have hd : decide (l.length ≤ 8) = decide ((n : Int) ≤ 8) := by rw [HN.out]; exact decide_eq_decide.2 (by omega)
      have E2 := Lib.hid (E.out.trans hd)
      clear hd
      go_wp2
      go_ret
      exact ⟨(ret_bool E2.out).symm, rfl⟩
end Go.Proofs.YtldllhfadihmeaaDoor
