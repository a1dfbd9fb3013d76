/- ItemWith of the reference: withI. -/
import Derived.Test.YtldllhfadihmeaaIwW
import Derived.Test.YtldllhfadihmeaaFvS
namespace Go.Proofs.Ytldllhfadihmeaa
open Go.RowKit

set_option maxHeartbeats 2000000 in
theorem spec_itemWith (a : Option Addr) (n cap : Nat) (l : List It) (key : ByteArray) (w : World) (h : ItAt w a l) (hn : l.length = n) (hm : n ≤ maxLen) (hs : ∀ i ∈ l, i.key.size ≤ maxLen ∧ i.title.size ≤ maxLen ∧ i.body.size ≤ maxLen) :
    Calls Try.prog 31 #[.slice a n cap, .string key] w fun e w' => e = .returned (.tuple #[.agg #[.string (dI (withI l key)).key, .string (dI (withI l key)).title, .string (dI (withI l key)).body, .int .i64 (dI (withI l key)).day], .bool (withI l key).isSome]) ∧ Below w.heap.size w w' := by
  have c1 := Lib.hid (fun w h => spec_feedValid a n cap l w h hn hm hs)
  unfold maxLen at hm
  have hres : Try.f31.results = #[.cell 4 34, .tmp 5] := by kernel_rfl
  have hb0 : Below w.heap.size w (w.alloc (.cells #[.string ⟨#[]⟩, .string ⟨#[]⟩, .string ⟨#[]⟩, .int .i64 0] 34)) := (Below.refl _ _).alloc (Nat.le_refl _) _
  have HN := Lib.hid hn
  have HE := Lib.hid h
  have HW := Lib.hid (fun w2 (hb : Below (w.heap.size + 1) (w.alloc (.cells #[.string ⟨#[]⟩, .string ⟨#[]⟩, .string ⟨#[]⟩, .int .i64 0] 34)) w2) => item_new w _ w2 hb)
  have HB0 := Lib.hid hb0
  clear hn h hs hb0
  cases hv : feedV l
  · rw [hv] at c1
    rw [withI_bad key hv]
    clear hv
    go_enter Try.func31, Try.ntmps31
    go_wp2
    go_loopw [6] (fun i wr => i = .int .i64 0 ∧ Below (w.heap.size + 1) (w.alloc (.cells #[.string ⟨#[]⟩, .string ⟨#[]⟩, .string ⟨#[]⟩, .int .i64 0] 34)) wr) (fun _ _ => 0)
    case atStart => exact ⟨rfl, Below.refl _ _⟩
    case round =>
      obtain ⟨rfl, hbr⟩ := hrel
      have hbz := HB0.out.trans (hbr.mono (by omega))
      by_cases h0 : 0 < n
      · go_wp2_with fail
        refine (c1.out _ (HE.out.old hbz)).mono ?_
        rintro e w2 ⟨rfl, hb2⟩
        have hc2 := hbr.trans (hb2.mono (by have := hbr.size; simp at this; omega))
        have hbz2 := HB0.out.trans (hc2.mono (by omega))
        obtain ⟨⟨g0, g1, g2, g3⟩, f0, f1, f2, f3⟩ := HW.out w2 hc2
        go_wp2
        refine bodyPost_ret (v := .tuple #[.agg #[.string ⟨#[]⟩, .string ⟨#[]⟩, .string ⟨#[]⟩, .int .i64 0], .bool false]) ?_ rfl ⟨rfl, set_item hbz2 (Nat.le_refl _) ⟨⟨#[]⟩, ⟨#[]⟩, ⟨#[]⟩, 0⟩ 0⟩
        simp only [results, hres]
        go_simp
      · obtain ⟨⟨g0, g1, g2, g3⟩, f0, f1, f2, f3⟩ := HW.out wr hbr
        go_wp2
        refine bodyPost_ret (v := .tuple #[.agg #[.string ⟨#[]⟩, .string ⟨#[]⟩, .string ⟨#[]⟩, .int .i64 0], .bool false]) ?_ rfl ⟨rfl, set_item hbz (Nat.le_refl _) ⟨⟨#[]⟩, ⟨#[]⟩, ⟨#[]⟩, 0⟩ 0⟩
        simp only [results, hres]
        go_simp
  · rw [hv] at c1
    have HV := Lib.hid hv
    clear hv
    go_enter Try.func31, Try.ntmps31
    go_wp2
    go_loopw [6] (fun i wr => ∃ j : Nat, i = .int .i64 j ∧ j ≤ n ∧ Hid (hasK (l.take j) key = false) ∧ Below (w.heap.size + 1) (w.alloc (.cells #[.string ⟨#[]⟩, .string ⟨#[]⟩, .string ⟨#[]⟩, .int .i64 0] 34)) wr) (fun i _ => n - (intOf i).toNat)
    case atStart => exact ⟨0, rfl, by omega, rfl, Below.refl _ _⟩
    case round =>
      obtain ⟨j, rfl, hj, ho, hbr⟩ := hrel
      have hbz := HB0.out.trans (hbr.mono (by omega))
      by_cases hlt : j < n
      · have hjl : j < l.length := by rw [HN.out]; exact hlt
        have HEz := Lib.hid (HE.out.old hbz)
        obtain ⟨b, off, ha, h1, h2, h3, h4⟩ := HEz.out j hjl
        have HX := Lib.hid (hasK_next l key j hjl)
        have HY := Lib.hid (fun e => withI_here (k := key) HV.out hjl e ho.out)
        have hlo := cell_lt' h1
        generalize l[j] = x at *
        subst ha
        go_wp2_with fail
        refine (c1.out _ HEz.out).mono ?_
        rintro e w2 ⟨rfl, hb2⟩
        have hc2 := hbr.trans (hb2.mono (by have := hbr.size; simp at this; omega))
        have hbz2 := HB0.out.trans (hc2.mono (by omega))
        obtain ⟨⟨g0, g1, g2, g3⟩, f0, f1, f2, f3⟩ := HW.out w2 hc2
        have k1 := (hb2.cell (p := ⟨b, off + j * 4, none⟩) hlo).trans h1
        have k2 := (hb2.cell (p := ⟨b, off + j * 4 + 1, none⟩) hlo).trans h2
        have k3 := (hb2.cell (p := ⟨b, off + j * 4 + 2, none⟩) hlo).trans h3
        have k4 := (hb2.cell (p := ⟨b, off + j * 4 + 3, none⟩) hlo).trans h4
        clear h1 h2 h3 h4
        cases hq : eqS x.key key
        · have hq2 : (x.key.toList == key.toList) = false := hq
          have HO : Hid (hasK (l.take (j + 1)) key = false) := by rw [HX.out, ho.out, hq]; rfl
          clear hq
          go_wp2
          go_roundw
          case rel => exact ⟨j + 1, by go_num, by omega, HO.out, hc2⟩
          case measure => simp [intOf]; omega
        · have hq2 : (x.key.toList == key.toList) = true := hq
          have E := Lib.hid (HY.out ((eqS_iff _ _).1 hq))
          clear hq
          go_wp2
          refine bodyPost_ret (v := .tuple #[.agg #[.string x.key, .string x.title, .string x.body, .int .i64 x.day], .bool true]) ?_ rfl ⟨by rw [E.out]; rfl, set_item hbz2 (Nat.le_refl _) x 0⟩
          simp only [results, hres]
          go_simp
      · have E : withI l key = none := by
          have := ho.out
          rw [List.take_of_length_le (by rw [HN.out]; omega)] at this
          exact withI_none this
        have HE0 := Lib.hid E
        clear E
        obtain ⟨⟨g0, g1, g2, g3⟩, f0, f1, f2, f3⟩ := HW.out wr hbr
        go_wp2
        refine bodyPost_ret (v := .tuple #[.agg #[.string ⟨#[]⟩, .string ⟨#[]⟩, .string ⟨#[]⟩, .int .i64 0], .bool false]) ?_ rfl ⟨by rw [HE0.out]; rfl, set_item hbz (Nat.le_refl _) ⟨⟨#[]⟩, ⟨#[]⟩, ⟨#[]⟩, 0⟩ 0⟩
        simp only [results, hres]
        go_simp
end Go.Proofs.Ytldllhfadihmeaa
