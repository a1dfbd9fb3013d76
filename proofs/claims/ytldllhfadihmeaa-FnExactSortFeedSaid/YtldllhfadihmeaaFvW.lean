/- itemNumber and FeedValid of the program, FeedValid of the reference: numI, feedV. -/
import Derived.Test.YtldllhfadihmeaaItW
import Derived.Test.YtldllhfadihmeaaFeed
import Derived.Deep.RegionHeld3
import Derived.Deep.RegionWith
import Derived.Deep.QuietTactic
import Derived.BigQuiet
namespace Go.Proofs.Ytldllhfadihmeaa
open Go.RowKit

theorem hasK_next (l : List It) (k : ByteArray) (j : Nat) (h : j < l.length) : hasK (l.take (j + 1)) k = (hasK (l.take j) k || eqS l[j].key k) := by
  rw [take_snocI l j h, hasK_app]; simp [hasK]
theorem numI_none {l : List It} {k : ByteArray} (h : hasK l k = false) : numI l k = -1 := by
  have h1 := (numI_neg l k).2 h
  have h2 := numI_bd l k
  omega
theorem ItAt.take {w : World} {a : Option Addr} {l : List It} (h : ItAt w a l) (j : Nat) : ItAt w a (l.take j) := fun k hk => by
  rw [List.length_take] at hk
  obtain ⟨b, off, ha, h1, h2, h3, h4⟩ := h k (by omega)
  rw [List.getElem_take]
  exact ⟨b, off, ha, h1, h2, h3, h4⟩

set_option maxHeartbeats 1000000 in
theorem impl_itemNumber (a : Option Addr) (n cap : Nat) (l : List It) (key : ByteArray) (w : World) (h : ItAt w a l) (hn : l.length = n) (hm : n ≤ maxLen) :
    Calls Try.prog 62 #[.slice a n cap, .string key] w fun e w' => e = .returned (.int .i64 (numI l key)) ∧ Below w.heap.size w w' := by
  unfold maxLen at hm
  have HN := Lib.hid hn
  have HE := Lib.hid h
  clear hn h
  go_enter Try.func62, Try.ntmps62
  go_wp2
  go_loopw [9] (fun i wr => ∃ j : Nat, i = .int .i64 j ∧ j ≤ n ∧ Hid (hasK (l.take j) key = false) ∧ Below w.heap.size w wr) (fun i _ => n - (intOf i).toNat)
  case atStart => exact ⟨0, rfl, by omega, rfl, Below.refl _ _⟩
  case round =>
    obtain ⟨j, rfl, hj, ho, hbr⟩ := hrel
    by_cases hlt : j < n
    · have hjl : j < l.length := by rw [HN.out]; exact hlt
      obtain ⟨b, off, ha, h1, h2, h3, h4⟩ := HE.out.old hbr j hjl
      have HX := Lib.hid (hasK_next l key j hjl)
      have HY := Lib.hid (fun e => numI_here (k := key) hjl e ho.out)
      generalize l[j] = x at *
      subst ha
      have hbz := hbr.alloc hbr.size (.cells #[.string x.key, .string x.title, .string x.body, .int .i64 x.day] 34)
      cases hq : eqS x.key key
      · have hq2 : (x.key.toList == key.toList) = false := hq
        have HO : Hid (hasK (l.take (j + 1)) key = false) := by rw [HX.out, ho.out, hq]; rfl
        clear hq
        go_wp2
        go_roundw
        case rel => exact ⟨j + 1, by go_num, by omega, HO.out, hbz⟩
        case measure => simp [intOf]; omega
      · have hq2 : (x.key.toList == key.toList) = true := hq
        have E := Lib.hid (HY.out ((eqS_iff _ _).1 hq))
        clear hq
        go_wp2
        go_ret
        exact ⟨ret_int E.out.symm, hbz⟩
    · have E : Hid (numI l key = -1) := by
        have := ho.out
        rw [List.take_of_length_le (by rw [HN.out]; omega)] at this
        exact numI_none this
      go_wp2
      go_ret
      exact ⟨ret_int E.out.symm, hbr⟩

set_option maxHeartbeats 2000000 in
theorem impl_feedValid (a : Option Addr) (n cap : Nat) (l : List It) (w : World) (h : ItAt w a l) (hn : l.length = n) (hc : n ≤ cap) (_hm : cap ≤ maxLen) (hs : ∀ i ∈ l, i.key.size ≤ maxLen ∧ i.title.size ≤ maxLen ∧ i.body.size ≤ maxLen) :
    Calls Try.prog 29 #[.slice a n cap] w fun e w' => e = .returned (.bool (feedV l)) ∧ Below w.heap.size w w' := by
  unfold maxLen at _hm
  have HN := Lib.hid hn
  have HE := Lib.hid h
  have HS := Lib.hid hs
  clear hn h hs
  by_cases h8 : 8 < n
  · have E := Lib.hid (feedV_long (l := l) (by rw [HN.out]; exact h8))
    go_enter Try.func29, Try.ntmps29
    go_wp2
    go_ret
    exact ⟨ret_bool E.out.symm, Below.refl _ _⟩
  · go_enter Try.func29, Try.ntmps29
    go_wp2
    go_loopw [10] (fun i wr => ∃ j : Nat, i = .int .i64 j ∧ j ≤ n ∧ Hid (FvTo l j) ∧ Below w.heap.size w wr) (fun i _ => n - (intOf i).toNat)
    case atStart => exact ⟨0, rfl, by omega, FvTo.zero l, Below.refl _ _⟩
    case round =>
      obtain ⟨j, rfl, hj, ho, hbr⟩ := hrel
      by_cases hlt : j < n
      · have hjl : j < l.length := by rw [HN.out]; exact hlt
        obtain ⟨b, off, ha, h1, h2, h3, h4⟩ := HE.out.old hbr j hjl
        obtain ⟨s1, s2, s3⟩ := HS.out _ (List.getElem_mem hjl)
        have HB := Lib.hid (fun e => feedV_bad (l := l) hjl e)
        have HT := Lib.hid (fun e => feedV_twice (l := l) hjl e)
        have HX := Lib.hid (fun e1 e2 => ho.out.next hjl e1 e2)
        have HG := Lib.hid (numI_neg (l.take j) l[j].key)
        have c1 := Lib.hid (fun w => impl_itemValid l[j] w s1 s2 s3)
        have c2 := Lib.hid (fun w h => impl_itemNumber a j cap (l.take j) l[j].key w h (by rw [List.length_take]; omega) (by unfold maxLen; omega))
        clear s1 s2 s3
        generalize l[j] = x at *
        subst ha
        have hbz := hbr.alloc hbr.size (.cells #[.string x.key, .string x.title, .string x.body, .int .i64 x.day] 34)
        have hsz := hbr.size
        have j0 : (0 : Int) ≤ (j : Int) := by omega
        have j1 : (j : Int) ≤ (cap : Int) := by omega
        have KC : Hid (∀ w', Below (wr.heap.size + 1) (wr.alloc (.cells #[.string x.key, .string x.title, .string x.body, .int .i64 x.day] 34)) w' → Below w.heap.size w w' ∧ w'.cell? ⟨wr.heap.size, 0, none⟩ = some (.string x.key) ∧ w'.cell? ⟨wr.heap.size, 1, none⟩ = some (.string x.title) ∧ w'.cell? ⟨wr.heap.size, 2, none⟩ = some (.string x.body) ∧ w'.cell? ⟨wr.heap.size, 3, none⟩ = some (.int .i64 x.day)) := fun w' hb =>
          ⟨hbz.trans (hb.mono (by omega)), (hb.cell (p := ⟨wr.heap.size, 0, none⟩) (by simp)).trans (by go_simp), (hb.cell (p := ⟨wr.heap.size, 1, none⟩) (by simp)).trans (by go_simp), (hb.cell (p := ⟨wr.heap.size, 2, none⟩) (by simp)).trans (by go_simp), (hb.cell (p := ⟨wr.heap.size, 3, none⟩) (by simp)).trans (by go_simp)⟩
        have HEr := Lib.hid (fun w' (hb : Below w.heap.size w w') => (HE.out.take j).old hb)
        cases hv : itV x
        · rw [hv] at c1
          have E := Lib.hid (HB.out hv)
          clear hv
          go_wp2_with fail
          first
            | (go_region_with (go_at_call 25; refine (c1.out _).mono ?_; rintro e w2 ⟨rfl, hb2⟩; have B2 : Below (wr.heap.size + 1) (wr.alloc (.cells #[.string x.key, .string x.title, .string x.body, .int .i64 x.day] 34)) w2 := (Below.refl _ _).drew.trans (hb2.mono (by simp))))
            | fail
          all_goals
            go_wp2
            go_ret
            exact ⟨ret_bool E.out.symm, (KC.out _ B2).1⟩
        · rw [hv] at c1
          have HX2 := Lib.hid (HX.out hv)
          clear hv
          obtain ⟨v, hv⟩ : ∃ v, v = numI (l.take j) x.key := ⟨_, rfl⟩
          rw [← hv] at c2 HG
          clear hv
          go_wp2_with fail
          go_region_held3 (fun w' => Below (wr.heap.size + 1) (wr.alloc (.cells #[.string x.key, .string x.title, .string x.body, .int .i64 x.day] 34)) w' ∧ w'.cell? ⟨wr.heap.size, 0, none⟩ = some (.string x.key) ∧ w'.cell? ⟨wr.heap.size, 1, none⟩ = some (.string x.title) ∧ w'.cell? ⟨wr.heap.size, 2, none⟩ = some (.string x.body) ∧ w'.cell? ⟨wr.heap.size, 3, none⟩ = some (.int .i64 x.day)) (first | exact ⟨(Below.refl _ _).drew, (KC.out _ (Below.refl _ _).drew).2⟩ | assumption | go_keep) (first | (go_at_call 25; refine (c1.out _).mono ?_; rintro e w2 ⟨rfl, hb2⟩; have B2 : Below (wr.heap.size + 1) (wr.alloc (.cells #[.string x.key, .string x.title, .string x.body, .int .i64 x.day] 34)) w2 := (Below.refl _ _).drew.trans (hb2.mono (by simp)); have K2 := And.intro B2 (KC.out w2 B2).2) | (go_at_call 62; refine (c2.out _ (HEr.out _ (KC.out _ B2).1)).mono ?_; rintro e w3 ⟨rfl, hb3⟩; have B3 : Below (wr.heap.size + 1) (wr.alloc (.cells #[.string x.key, .string x.title, .string x.body, .int .i64 x.day] 34)) w3 := B2.trans (hb3.mono (by have := B2.size; simp at this; omega)); have K3 := And.intro B3 (KC.out w3 B3).2))
          all_goals
            have hbq := (KC.out _ B3).1
            by_cases hv0 : v < 0
            · have HO := Lib.hid (HX2.out (HG.out.1 hv0))
              go_wp2
              go_roundw
              case rel => exact ⟨j + 1, by go_num, by omega, HO.out, hbq⟩
              case measure => simp [intOf]; omega
            · have E : Hid (feedV l = false) := HT.out (by
                cases hh : hasK (l.take j) x.key
                · exact absurd (HG.out.2 hh) hv0
                · rfl)
              go_wp2
              go_ret
              exact ⟨ret_bool E.out.symm, hbq⟩
      · have E := Lib.hid (ho.out.done (by rw [HN.out]; omega))
        have E2 : Hid (feedV l = true) := by rw [E.out]; exact decide_eq_true (by rw [HN.out]; omega)
        go_wp2
        go_ret
        exact ⟨ret_bool E2.out.symm, hbr⟩
end Go.Proofs.Ytldllhfadihmeaa
