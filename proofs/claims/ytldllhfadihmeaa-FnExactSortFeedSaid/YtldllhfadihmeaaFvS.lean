/- FeedValid of the reference: feedV. -/
import Derived.Test.YtldllhfadihmeaaFvW
import Derived.Deep.LoopGhost
namespace Go.Proofs.Ytldllhfadihmeaa
open Go.RowKit

theorem take_at {l : List It} {i k : Nat} (h : i < k) (hk : k < l.length) (key : ByteArray) (he : eqS (l[i]'(by omega)).key key = true) : hasK (l.take k) key = true := by
  rw [hasK_iff]
  refine ⟨l[i]'(by omega), ?_, (eqS_iff _ _).1 he⟩
  rw [List.mem_take_iff_getElem]
  exact ⟨i, by omega, rfl⟩

set_option maxHeartbeats 2000000 in
theorem spec_feedValid (a : Option Addr) (n cap : Nat) (l : List It) (w : World) (h : ItAt w a l) (hn : l.length = n) (hm : n ≤ maxLen) (hs : ∀ i ∈ l, i.key.size ≤ maxLen ∧ i.title.size ≤ maxLen ∧ i.body.size ≤ maxLen) :
    Calls Try.prog 28 #[.slice a n cap] w fun e w' => e = .returned (.bool (feedV l)) ∧ Below w.heap.size w w' := by
  unfold maxLen at hm
  have HN := Lib.hid hn
  have HE := Lib.hid h
  have HS := Lib.hid hs
  clear hn h hs
  go_enter Try.func28, Try.ntmps28
  go_wp2
  go_loopw [3] (fun i wr => ∃ j : Nat, i = .int .i64 j ∧ j ≤ n ∧ Hid (FvTo l j) ∧ Below w.heap.size w wr) (fun i _ => n - (intOf i).toNat)
  case atStart => exact ⟨0, rfl, by omega, FvTo.zero l, Below.refl _ _⟩
  case round =>
    obtain ⟨j, rfl, hj, ho, hbr⟩ := hrel
    by_cases hlt : j < n
    · have hjl : j < l.length := by rw [HN.out]; exact hlt
      have HEr := Lib.hid (HE.out.old hbr)
      obtain ⟨b, off, ha, h1, h2, h3, h4⟩ := HEr.out j hjl
      obtain ⟨s1, s2, s3⟩ := HS.out _ (List.getElem_mem hjl)
      have HB := Lib.hid (fun e => feedV_bad (l := l) hjl e)
      have HT := Lib.hid (fun i (hi : i < j) (e : eqS (l[i]'(by omega)).key l[j].key = true) => feedV_twice (l := l) hjl (take_at hi hjl _ e))
      have HX := Lib.hid (fun e1 e2 => ho.out.next hjl e1 e2)
      have c1 := Lib.hid (fun w => spec_itemValid l[j] w s1 s2 s3)
      clear s1 s2 s3
      generalize l[j] = x at *
      subst ha
      cases hv : itV x
      · rw [hv] at c1
        have E := Lib.hid (HB.out hv)
        clear hv
        go_wp2_with fail
        refine (c1.out _).mono ?_
        rintro e w2 ⟨rfl, hb2⟩
        have hbz := hbr.trans (hb2.mono hbr.size)
        go_wp2
        go_ret
        exact ⟨ret_bool E.out.symm, hbz⟩
      · rw [hv] at c1
        have HX2 := Lib.hid (HX.out hv)
        clear hv
        go_wp2_with fail
        refine (c1.out _).mono ?_
        rintro e w2 ⟨rfl, hb2⟩
        have hbz := hbr.trans (hb2.mono hbr.size)
        have HE2 := Lib.hid (HEr.out.old hb2)
        have hlo := cell_lt' h1
        have k1 := (hb2.cell (p := ⟨b, off + j * 4, none⟩) hlo).trans h1
        clear h1 h2 h3 h4
        go_wp2
        go_loopg [4] j (fun gn i wx => ∃ (m j1 : Nat), i = .int .i64 m ∧ m ≤ j1 ∧ j1 ≤ m + gn ∧ Hid (hasK (l.take m) x.key = false) ∧ Hid (j = j1) ∧ Below w.heap.size w wx ∧ Below w2.heap.size w2 wx)
        case atStart => exact ⟨0, j, rfl, by omega, by omega, rfl, rfl, hbz, Below.refl _ _⟩
        case round =>
          obtain ⟨m, j1, rfl, hm1, hmg, hh, hjj, hbx, hbw⟩ := hrel
          have hj1 := hjj.out
          subst hj1
          by_cases hlm : m < j
          · have hml : m < l.length := by omega
            obtain ⟨b', off', ha', g1, g2, g3, g4⟩ := ItAt.old HE2.out hbw m hml
            have hlo2 : b < w2.heap.size := cell_lt' k1
            have k2 := (hbw.cell (p := ⟨b, off + j * 4, none⟩) hlo2).trans k1
            have HN2 := Lib.hid (hasK_next l x.key m hml)
            have HT2 := Lib.hid (HT.out m hlm)
            clear g2 g3 g4
            generalize l[m] = y at *
            injection ha' with ha'
            injection ha' with e1 e2
            subst e1
            subst e2
            cases hq : eqS y.key x.key
            · have hq2 : (y.key.toList == x.key.toList) = false := hq
              have HH : Hid (hasK (l.take (m + 1)) x.key = false) := by rw [HN2.out, hh.out, hq]; rfl
              clear hq
              go_wp2_with fail
              go_quiet (fail)
              go_wp2
              go_roundg (gk - 1)
              case rel => exact ⟨m + 1, j, by go_num, by omega, by omega, HH.out, rfl, below_drewN' hbx nq, below_drewN' hbw nq⟩
              case measure => omega
            · have hq2 : (y.key.toList == x.key.toList) = true := hq
              have E := Lib.hid (HT2.out hq)
              clear hq
              go_wp2_with fail
              go_quiet (fail)
              go_wp2
              go_ret
              exact ⟨ret_bool E.out.symm, below_drewN' hbx nq⟩
          · obtain rfl : m = j := by omega
            have HO := Lib.hid (HX2.out hh.out)
            go_wp2
            go_roundw
            case rel => exact ⟨m + 1, by go_num, by omega, HO.out, hbx⟩
            case measure => simp [intOf]; omega
    · have hd := ho.out.done (by rw [HN.out]; omega)
      have hE : feedV l = decide ((n : Int) ≤ 8) := by
        rw [hd, HN.out]
        by_cases h8 : n ≤ 8
        · rw [decide_eq_true h8, decide_eq_true (by omega)]
        · rw [decide_eq_false h8, decide_eq_false (by omega)]
      have E := Lib.hid hE
      clear hd hE
      go_wp2
      go_ret
      exact ⟨ret_bool E.out.symm, hbr⟩
end Go.Proofs.Ytldllhfadihmeaa
