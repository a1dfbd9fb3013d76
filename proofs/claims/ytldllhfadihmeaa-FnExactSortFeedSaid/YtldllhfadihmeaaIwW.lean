/- ItemWith of the program: withI. -/
import Derived.Test.YtldllhfadihmeaaFvW
import Derived.Test.YtldllhfadihmeaaItR
namespace Go.Proofs.Ytldllhfadihmeaa
open Go.RowKit

def dI (o : Option It) : It := o.getD ⟨⟨#[]⟩, ⟨#[]⟩, ⟨#[]⟩, 0⟩
theorem item_new (w : World) (t : TypeId) (w2 : World) (h : Below (w.heap.size + 1) (w.alloc (.cells #[.string ⟨#[]⟩, .string ⟨#[]⟩, .string ⟨#[]⟩, .int .i64 0] t)) w2) :
    (w2.cell? ⟨w.heap.size, 0, none⟩ = some (.string ⟨#[]⟩) ∧ w2.cell? ⟨w.heap.size, 1, none⟩ = some (.string ⟨#[]⟩) ∧ w2.cell? ⟨w.heap.size, 2, none⟩ = some (.string ⟨#[]⟩) ∧ w2.cell? ⟨w.heap.size, 3, none⟩ = some (.int .i64 0)) ∧
    (w2.frozen? ⟨w.heap.size, 0, none⟩ = false ∧ w2.frozen? ⟨w.heap.size, 1, none⟩ = false ∧ w2.frozen? ⟨w.heap.size, 2, none⟩ = false ∧ w2.frozen? ⟨w.heap.size, 3, none⟩ = false) := by
  refine ⟨⟨?_, ?_, ?_, ?_⟩, ?_, ?_, ?_, ?_⟩
  · exact (h.cell (p := ⟨w.heap.size, 0, none⟩) (by simp)).trans (by go_simp)
  · exact (h.cell (p := ⟨w.heap.size, 1, none⟩) (by simp)).trans (by go_simp)
  · exact (h.cell (p := ⟨w.heap.size, 2, none⟩) (by simp)).trans (by go_simp)
  · exact (h.cell (p := ⟨w.heap.size, 3, none⟩) (by simp)).trans (by go_simp)
  · exact (h.frozen (p := ⟨w.heap.size, 0, none⟩) (by simp)).trans (by go_simp)
  · exact (h.frozen (p := ⟨w.heap.size, 1, none⟩) (by simp)).trans (by go_simp)
  · exact (h.frozen (p := ⟨w.heap.size, 2, none⟩) (by simp)).trans (by go_simp)
  · exact (h.frozen (p := ⟨w.heap.size, 3, none⟩) (by simp)).trans (by go_simp)
theorem set_item {B : Nat} {a w : World} (h : Below B a w) {g : Nat} (hg : B ≤ g) (i : It) (k : Nat) : Below B a (setItem w g k i) := (((h.setCell hg _).setCell hg _).setCell hg _).setCell hg _

set_option maxHeartbeats 2000000 in
theorem impl_itemWith (a : Option Addr) (n cap : Nat) (l : List It) (key : ByteArray) (w : World) (h : ItAt w a l) (hn : l.length = n) (hc : n ≤ cap) (hm : cap ≤ maxLen) (hs : ∀ i ∈ l, i.key.size ≤ maxLen ∧ i.title.size ≤ maxLen ∧ i.body.size ≤ maxLen) :
    Calls Try.prog 32 #[.slice a n cap, .string key] w fun e w' => e = .returned (.tuple #[.agg #[.string (dI (withI l key)).key, .string (dI (withI l key)).title, .string (dI (withI l key)).body, .int .i64 (dI (withI l key)).day], .bool (withI l key).isSome]) ∧ Below w.heap.size w w' := by
  have c1 := Lib.hid (fun w h => impl_feedValid a n cap l w h hn hc hm hs)
  have c2 := Lib.hid (fun w h => impl_itemNumber a n cap l key w h hn (Nat.le_trans hc hm))
  unfold maxLen at hm
  have hres : Try.f32.results = #[.cell 4 34, .tmp 5] := by kernel_rfl
  have hb0 : Below w.heap.size w (w.alloc (.cells #[.string ⟨#[]⟩, .string ⟨#[]⟩, .string ⟨#[]⟩, .int .i64 0] 34)) := (Below.refl _ _).alloc (Nat.le_refl _) _
  have HN := Lib.hid hn
  have HE := Lib.hid h
  have HW := Lib.hid (fun w2 (hb : Below (w.heap.size + 1) (w.alloc (.cells #[.string ⟨#[]⟩, .string ⟨#[]⟩, .string ⟨#[]⟩, .int .i64 0] 34)) w2) => item_new w _ w2 hb)
  clear hn h hs
  cases hv : feedV l
  · rw [hv] at c1
    rw [withI_bad key hv]
    clear hv
    go_enter Try.func32, Try.ntmps32
    go_wp2_with fail
    refine (c1.out _ (HE.out.old hb0)).mono ?_
    rintro e w2 ⟨rfl, hb2⟩
    have hc2 : Below (w.heap.size + 1) (w.alloc (.cells #[.string ⟨#[]⟩, .string ⟨#[]⟩, .string ⟨#[]⟩, .int .i64 0] 34)) w2 := hb2.mono (by simp)
    have hbz := hb0.trans (hc2.mono (by omega))
    obtain ⟨⟨g0, g1, g2, g3⟩, f0, f1, f2, f3⟩ := HW.out w2 hc2
    go_wp2
    refine bodyPost_ret (v := .tuple #[.agg #[.string ⟨#[]⟩, .string ⟨#[]⟩, .string ⟨#[]⟩, .int .i64 0], .bool false]) ?_ rfl ⟨rfl, set_item hbz (Nat.le_refl _) ⟨⟨#[]⟩, ⟨#[]⟩, ⟨#[]⟩, 0⟩ 0⟩
    simp only [results, hres]
    go_simp
  · rw [hv] at c1
    obtain ⟨v, hnv⟩ : ∃ v, v = numI l key := ⟨_, rfl⟩
    rw [← hnv] at c2
    by_cases hv0 : v < 0
    · have hw0 : withI l key = none := withI_none ((numI_neg l key).1 (by rw [← hnv]; exact hv0))
      rw [hw0]
      clear hv hnv hw0
      go_enter Try.func32, Try.ntmps32
      go_wp2_with fail
      refine (c1.out _ (HE.out.old hb0)).mono ?_
      rintro e w2 ⟨rfl, hb2⟩
      have hc2 : Below (w.heap.size + 1) (w.alloc (.cells #[.string ⟨#[]⟩, .string ⟨#[]⟩, .string ⟨#[]⟩, .int .i64 0] 34)) w2 := hb2.mono (by simp)
      have hbz := hb0.trans (hc2.mono (by omega))
      go_wp2_with fail
      refine (c2.out _ (HE.out.old hbz)).mono ?_
      rintro e w3 ⟨rfl, hb3⟩
      have hc3 := hc2.trans (hb3.mono (by have := hc2.size; simp at this; omega))
      have hbz3 := hb0.trans (hc3.mono (by omega))
      obtain ⟨⟨g0, g1, g2, g3⟩, f0, f1, f2, f3⟩ := HW.out w3 hc3
      go_wp2
      refine bodyPost_ret (v := .tuple #[.agg #[.string ⟨#[]⟩, .string ⟨#[]⟩, .string ⟨#[]⟩, .int .i64 0], .bool false]) ?_ rfl ⟨rfl, set_item hbz3 (Nat.le_refl _) ⟨⟨#[]⟩, ⟨#[]⟩, ⟨#[]⟩, 0⟩ 0⟩
      simp only [results, hres]
      go_simp
    · obtain ⟨m, rfl⟩ := Int.eq_ofNat_of_zero_le (a := v) (by omega)
      obtain ⟨hml, hw0⟩ := withI_num hv hnv.symm
      rw [hw0]
      have hmn : m < n := by rw [← HN.out]; exact hml
      obtain ⟨b, off, ha, h1, h2, h3, h4⟩ := HE.out m hml
      clear hv hnv hw0
      have hlo := cell_lt' h1
      generalize l[m] = x at *
      subst ha
      go_enter Try.func32, Try.ntmps32
      go_wp2_with fail
      refine (c1.out _ (HE.out.old hb0)).mono ?_
      rintro e w2 ⟨rfl, hb2⟩
      have hc2 : Below (w.heap.size + 1) (w.alloc (.cells #[.string ⟨#[]⟩, .string ⟨#[]⟩, .string ⟨#[]⟩, .int .i64 0] 34)) w2 := hb2.mono (by simp)
      have hbz := hb0.trans (hc2.mono (by omega))
      go_wp2_with fail
      refine (c2.out _ (HE.out.old hbz)).mono ?_
      rintro e w3 ⟨rfl, hb3⟩
      have hc3 := hc2.trans (hb3.mono (by have := hc2.size; simp at this; omega))
      have hbz3 := hb0.trans (hc3.mono (by omega))
      obtain ⟨⟨g0, g1, g2, g3⟩, f0, f1, f2, f3⟩ := HW.out w3 hc3
      have k1 := (hbz3.cell (p := ⟨b, off + m * 4, none⟩) hlo).trans h1
      have k2 := (hbz3.cell (p := ⟨b, off + m * 4 + 1, none⟩) hlo).trans h2
      have k3 := (hbz3.cell (p := ⟨b, off + m * 4 + 2, none⟩) hlo).trans h3
      have k4 := (hbz3.cell (p := ⟨b, off + m * 4 + 3, none⟩) hlo).trans h4
      clear h1 h2 h3 h4
      go_wp2
      refine bodyPost_ret (v := .tuple #[.agg #[.string x.key, .string x.title, .string x.body, .int .i64 x.day], .bool true]) ?_ rfl ⟨rfl, set_item hbz3 (Nat.le_refl _) x 0⟩
      simp only [results, hres]
      go_simp
end Go.Proofs.Ytldllhfadihmeaa
