/- ItemText of the program and of the reference: itT. -/
import Derived.Test.YtldllhfadihmeaaDoorElsT
import Derived.Test.YtldllhfadihmeaaDoorNewW
import Derived.Test.YtldllhfadihmeaaDoorDateS
import Derived.Deep.RegionHeld3
import Derived.Deep.QuietTactic
import Derived.BigQuiet
namespace Go.Proofs.YtldllhfadihmeaaDoor
open Go.RowKit

theorem el_lit (W : World) (i : It) (t : TypeId) : ElAt (W.alloc (.cells #[.string kKey, .string i.key, .string kTitle, .string i.title, .string kBody, .string i.body, .string kDay, .string (bs (dateT i.day))] t)) (some ⟨W.heap.size, 0, none⟩) (itEs i) := by
  intro k hk
  have hk4 : k < 4 := hk
  refine ⟨W.heap.size, 0, rfl, ?_⟩
  match k, hk4 with
  | 0, _ => constructor <;> (simp [itEs]; try go_simp)
  | 1, _ => constructor <;> (simp [itEs]; try go_simp)
  | 2, _ => constructor <;> (simp [itEs]; try go_simp)
  | 3, _ => constructor <;> (simp [itEs]; try go_simp)
theorem itEs_sz {i : It} (h : itV i = true) : ∀ e ∈ itEs i, e.1.size ≤ maxLen ∧ e.2.size ≤ maxLen := by
  intro e he
  have hv := (elV_iff e).1 (List.all_eq_true.1 (itEs_valid h) e he)
  have h1 : e.1.size ≤ 8 := by rw [← size_toList]; exact (wordV_all hv.1).2.1
  have h2 : e.2.size ≤ 80 := by rw [← size_toList]; exact textV_len hv.2
  unfold maxLen
  omega

set_option maxHeartbeats 2000000 in
theorem impl_itemText (i : It) (w : World) (h1 : i.key.size ≤ maxLen) (h2 : i.title.size ≤ maxLen) (h3 : i.body.size ≤ maxLen) (hE : EscAt w) :
    Calls Tryd.prog 27 #[.agg #[.string i.key, .string i.title, .string i.body, .int .i64 i.day]] w fun e w' => e = .returned (.string ⟨(itT i).toArray⟩) ∧ Below w.heap.size w w' := by
  have hb0 : Below w.heap.size w (w.alloc (.cells #[.string i.key, .string i.title, .string i.body, .int .i64 i.day] 41)) := (Below.refl _ _).alloc (Nat.le_refl _) _
  have c1 := Lib.hid (fun w => impl_itemValid i w h1 h2 h3)
  have HE := Lib.hid hE
  clear h1 h2 h3 hE
  cases hv : itV i
  · rw [hv] at c1
    have E := Lib.hid (itT_no hv)
    clear hv
    go_enter Tryd.func27, Tryd.ntmps27
    go_wp2_with fail
    refine (c1.out _).mono ?_
    rintro e w1 ⟨rfl, hb1⟩
    go_wp2
    go_ret
    exact ⟨ret_str (by rw [E.out]), hb0.trans (hb1.mono hb0.size)⟩
  · rw [hv] at c1
    have E := Lib.hid (itT_els hv)
    have c2 := Lib.hid (fun W w h hx => impl_elementsText (some ⟨W, 0, none⟩) 4 4 (itEs i) w h rfl (by unfold maxLen; omega) (itEs_sz hv) hx)
    rw [← itT_els hv] at c2
    clear hv
    have KI := Lib.hid (fun w2 h => item_kept w 41 i w2 h)
    have EL := Lib.hid (fun W => el_lit W i 67)
    obtain ⟨d, hd⟩ : ∃ d, d = bs (dateT i.day) := ⟨_, rfl⟩
    have cd := Lib.hid (fun w => impl_dateText i.day w)
    rw [← hd] at EL
    rw [show (⟨(dateT i.day).toArray⟩ : ByteArray) = d from by rw [hd]; rfl] at cd
    clear hd
    go_enter Tryd.func27, Tryd.ntmps27
    go_wp2_with fail
    refine (c1.out _).mono ?_
    rintro e w1 ⟨rfl, hb1⟩
    have hc1 : Below (w.heap.size + 1) (w.alloc (.cells #[.string i.key, .string i.title, .string i.body, .int .i64 i.day] 41)) w1 := hb1.mono (by simp)
    have K1 := KI.out w1 hc1
    go_wp2_with fail
    go_region_held3 (fun w' => Below (w.heap.size + 1) (w.alloc (.cells #[.string i.key, .string i.title, .string i.body, .int .i64 i.day] 41)) w' ∧ w'.cell? ⟨w.heap.size, 0, none⟩ = some (.string i.key) ∧ w'.cell? ⟨w.heap.size, 1, none⟩ = some (.string i.title) ∧ w'.cell? ⟨w.heap.size, 2, none⟩ = some (.string i.body) ∧ w'.cell? ⟨w.heap.size, 3, none⟩ = some (.int .i64 i.day)) (first | exact ⟨hc1.drew, KI.out _ hc1.drew⟩ | exact ⟨K3.1.alloc (by have := K3.1.size; simp at this; omega) _, KI.out _ (K3.1.alloc (by have := K3.1.size; simp at this; omega) _)⟩ | assumption | go_keep) (first
      | (go_at_call 55; refine (cd.out _).mono ?_; rintro e w3 ⟨rfl, hb3⟩; have hc3 := hc1.drew.trans (hb3.mono (by have := hc1.size; simp at this ⊢; omega)); have K3 := And.intro hc3 (KI.out w3 hc3))
      | (go_at_call 54; refine (c2.out _ _ (EL.out w3) ?_).mono ?_; · (exact HE.out.old (hb0.trans ((K3.1.alloc (by have := K3.1.size; simp at this; omega) _).mono (by simp))))
         rintro e w4 ⟨rfl, hb4⟩; have hc4 := (K3.1.alloc (by have := K3.1.size; simp at this; omega) (.cells #[.string kKey, .string i.key, .string kTitle, .string i.title, .string kBody, .string i.body, .string kDay, .string d] 67)).trans (hb4.mono (by have := K3.1.size; simp at this ⊢; omega)); have K4 := And.intro hc4 (KI.out w4 hc4)))
    go_wp2
    go_ret
    exact ⟨rfl, hb0.trans (K4.1.mono (by simp))⟩
set_option maxHeartbeats 2000000 in
theorem spec_itemText (i : It) (w : World) (h1 : i.key.size ≤ maxLen) (h2 : i.title.size ≤ maxLen) (h3 : i.body.size ≤ maxLen) :
    Calls Tryd.prog 25 #[.agg #[.string i.key, .string i.title, .string i.body, .int .i64 i.day]] w fun e w' => e = .returned (.string ⟨(itT i).toArray⟩) ∧ Below w.heap.size w w' := by
  have hb0 : Below w.heap.size w (w.alloc (.cells #[.string i.key, .string i.title, .string i.body, .int .i64 i.day] 41)) := (Below.refl _ _).alloc (Nat.le_refl _) _
  have c1 := Lib.hid (fun w => spec_itemValid i w h1 h2 h3)
  clear h1 h2 h3
  cases hv : itV i
  · rw [hv] at c1
    have E := Lib.hid (itT_no hv)
    clear hv
    go_enter Tryd.func25, Tryd.ntmps25
    go_wp2_with fail
    refine (c1.out _).mono ?_
    rintro e w1 ⟨rfl, hb1⟩
    go_wp2
    go_ret
    exact ⟨ret_str (by rw [E.out]), hb0.trans (hb1.mono hb0.size)⟩
  · rw [hv] at c1
    have E := Lib.hid (itT_els hv)
    have c2 := Lib.hid (fun W w h => spec_elementsText (some ⟨W, 0, none⟩) 4 4 (itEs i) w h rfl (by unfold maxLen; omega) (itEs_sz hv))
    rw [← itT_els hv] at c2
    clear hv
    have KI := Lib.hid (fun w2 h => item_kept w 41 i w2 h)
    have EL := Lib.hid (fun W => el_lit W i 67)
    obtain ⟨d, hd⟩ : ∃ d, d = bs (dateT i.day) := ⟨_, rfl⟩
    have cd := Lib.hid (fun w => spec_dateText i.day w)
    rw [← hd] at EL
    rw [show (⟨(dateT i.day).toArray⟩ : ByteArray) = d from by rw [hd]; rfl] at cd
    clear hd
    go_enter Tryd.func25, Tryd.ntmps25
    go_wp2_with fail
    refine (c1.out _).mono ?_
    rintro e w1 ⟨rfl, hb1⟩
    have hc1 : Below (w.heap.size + 1) (w.alloc (.cells #[.string i.key, .string i.title, .string i.body, .int .i64 i.day] 41)) w1 := hb1.mono (by simp)
    have K1 := KI.out w1 hc1
    go_wp2_with fail
    go_region_held3 (fun w' => Below (w.heap.size + 1) (w.alloc (.cells #[.string i.key, .string i.title, .string i.body, .int .i64 i.day] 41)) w' ∧ w'.cell? ⟨w.heap.size, 0, none⟩ = some (.string i.key) ∧ w'.cell? ⟨w.heap.size, 1, none⟩ = some (.string i.title) ∧ w'.cell? ⟨w.heap.size, 2, none⟩ = some (.string i.body) ∧ w'.cell? ⟨w.heap.size, 3, none⟩ = some (.int .i64 i.day)) (first | exact ⟨hc1.drew, KI.out _ hc1.drew⟩ | exact ⟨K3.1.alloc (by have := K3.1.size; simp at this; omega) _, KI.out _ (K3.1.alloc (by have := K3.1.size; simp at this; omega) _)⟩ | assumption | go_keep) (first
      | (go_at_call 53; refine (cd.out _).mono ?_; rintro e w3 ⟨rfl, hb3⟩; have hc3 := hc1.drew.trans (hb3.mono (by have := hc1.size; simp at this ⊢; omega)); have K3 := And.intro hc3 (KI.out w3 hc3))
      | (go_at_call 52; refine (c2.out _ _ (EL.out w3)).mono ?_; rintro e w4 ⟨rfl, hb4⟩; have hc4 := (K3.1.alloc (by have := K3.1.size; simp at this; omega) (.cells #[.string kKey, .string i.key, .string kTitle, .string i.title, .string kBody, .string i.body, .string kDay, .string d] 67)).trans (hb4.mono (by have := K3.1.size; simp at this ⊢; omega)); have K4 := And.intro hc4 (KI.out w4 hc4)))
    go_wp2
    go_ret
    exact ⟨rfl, hb0.trans (K4.1.mono (by simp))⟩
end Go.Proofs.YtldllhfadihmeaaDoor
