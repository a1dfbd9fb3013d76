/- ReadItem of the reference: readI. -/
import Derived.Test.YtldllhfadihmeaaDoorRdM
import Derived.Test.YtldllhfadihmeaaDoorFvS
import Derived.Test.YtldllhfadihmeaaDoorDateR
import Derived.Deep.QuietTactic
import Derived.BigQuiet
namespace Go.Proofs.YtldllhfadihmeaaDoor
open Go.RowKit

/-- The names that are counted. -/
def nm4 : Nat → ByteArray | 0 => kKey | 1 => kTitle | 2 => kDay | _ => kBody
def gd4 (l : List El) (j : Nat) : Bool := if j < 3 then decide (cntE l (nm4 j) = 1) else decide (cntE l (nm4 j) ≤ 1)
def gdTo (l : List El) (k : Nat) : Bool := (List.range k).all (gd4 l)
theorem gdTo_zero (l : List El) : gdTo l 0 = true := rfl
theorem gdTo_next (l : List El) (k : Nat) : gdTo l (k + 1) = (gdTo l k && gd4 l k) := by simp [gdTo, List.range_succ]
theorem gdTo_four (l : List El) : gdTo l 4 = onceE l := by
  show ((gd4 l 0) && ((gd4 l 1) && ((gd4 l 2) && ((gd4 l 3) && true)))) = _
  simp only [gd4, nm4, onceE]
  simp [Bool.and_assoc]
theorem names4_cells (W : World) (t : TypeId) (w2 : World) (h : Below (W.heap.size + 1) (W.alloc (.cells #[.string kKey, .string kTitle, .string kDay, .string kBody] t)) w2) : ∀ k, k < 4 → w2.cell? ⟨W.heap.size, k, none⟩ = some (.string (nm4 k)) := by
  intro k hk
  refine (h.cell (p := ⟨W.heap.size, k, none⟩) (by simp)).trans ?_
  match k, hk with
  | 0, _ => simp [nm4]
  | 1, _ => simp [nm4]
  | 2, _ => simp [nm4]
  | 3, _ => simp [nm4]

set_option maxRecDepth 100000 in
set_option maxHeartbeats 4000000 in
theorem spec_readItem (s : ByteArray) (w : World) (hs : s.size ≤ 1000000000) :
    Calls Tryd.prog 36 #[.string s] w (ItRead (readI s.data.toList) w) := by
  have hres : Tryd.f36.results = #[.cell 2 41, .tmp 3] := by kernel_rfl
  have hb0 : Below w.heap.size w (w.alloc (.cells #[.string ⟨#[]⟩, .string ⟨#[]⟩, .string ⟨#[]⟩, .int .i64 0] 41)) := (Below.refl _ _).alloc (Nat.le_refl _) _
  have c1 := Lib.hid (fun w => spec_readElements s w hs)
  have H0 := heap_alloc_new w (.cells #[.string ⟨#[]⟩, .string ⟨#[]⟩, .string ⟨#[]⟩, .int .i64 0] 41)
  obtain ⟨o, ho⟩ : ∃ o, o = readE s.data.toList := ⟨_, rfl⟩
  obtain ⟨l, hl⟩ : ∃ l, l = o.getD [] := ⟨_, rfl⟩
  obtain ⟨ok0, hok⟩ : ∃ ok0, ok0 = o.isSome := ⟨_, rfl⟩
  have hv : elsV l = true := by
    cases o with
    | none => rw [hl]; decide
    | some l' => rw [hl]; exact (readE_some ho.symm).1
  have HI : Hid ((ok0 = true → readI s.data.toList = ofE l) ∧ (ok0 = false → readI s.data.toList = none)) := by
    cases o with
    | none => exact ⟨fun h => by (rw [hok] at h; cases h), fun _ => readI_none ho.symm⟩
    | some l' => exact ⟨fun _ => by rw [hl]; exact readI_els ho.symm, fun h => by (rw [hok] at h; cases h)⟩
  unfold ElsRead at c1
  rw [← ho, ← hl, ← hok] at c1
  clear ho hl hok
  have hl8 := ((elsV_iff l).1 hv).1
  have hsz : ∀ e ∈ l, e.1.size ≤ maxLen ∧ e.2.size ≤ maxLen := fun e he => by
    have hv := (elV_iff e).1 (List.all_eq_true.1 ((elsV_iff l).1 hv).2 e he)
    have h1 : e.1.size ≤ 8 := by rw [← size_toList]; exact (wordV_all hv.1).2.1
    have h2 : e.2.size ≤ 80 := by rw [← size_toList]; exact textV_len hv.2
    unfold maxLen; omega
  have HZ := Lib.hid hsz
  have HV := Lib.hid hv
  clear hsz hv
  go_enter Tryd.func36, Tryd.ntmps36
  go_wp2_with fail
  refine (c1.out _).mono ?_
  rintro e w1 ⟨⟨a, n, cap, rfl, own1, hl1⟩, hb1⟩
  have EA := Lib.hid (ElAt.own' own1 hl1)
  have HL := Lib.hid hl1
  have hn8 : n ≤ 8 := by omega
  have HB1 := Lib.hid (hb0.trans (hb1.mono (by simp)))
  have H1 := Lib.hid (heap_below hb1 H0 (by simp))
  have hw1 : w.heap.size < w1.heap.size := by have := hb1.size; simp at this; omega
  have cx := Lib.hid (fun m w h => spec_elementText a n cap l m w h HL.out (by unfold maxLen; omega) HZ.out)
  have NB := Lib.hid (names4_cells w1 9)
  have DD := Lib.hid (fun wr (h : Below (w1.heap.size + 1) (w1.alloc (.cells #[.string kKey, .string kTitle, .string kDay, .string kBody] 9)) wr) => ((Below.refl w1.heap.size w1).alloc (Nat.le_refl _) (.cells #[.string kKey, .string kTitle, .string kDay, .string kBody] 9)).trans (h.mono (by omega)))
  clear own1 hl1 hb1 hl8 H0
  go_wp2
  go_loopw [5, 7] (fun b i wr => ∃ (j : Nat) (v : Bool), b = .bool v ∧ i = .int .i64 j ∧ j ≤ 4 ∧ Hid (v = (ok0 && gdTo l j)) ∧ Below (w1.heap.size + 1) (w1.alloc (.cells #[.string kKey, .string kTitle, .string kDay, .string kBody] 9)) wr) (fun _ i _ => 4 - (intOf i).toNat)
  case atStart => exact ⟨0, ok0, rfl, rfl, by omega, by show ok0 = (ok0 && true); rw [Bool.and_true], Below.refl _ _⟩
  case round =>
    obtain ⟨j, v, rfl, rfl, hj, hvv, hbr⟩ := hrel
    by_cases hlt : j < 4
    · have q1 : (j : Int) < 4 := by omega
      go_wp2
      go_loopw [8, 9] (fun c i wx => ∃ c' k : Nat, c = .int .i64 c' ∧ i = .int .i64 k ∧ k ≤ n ∧ c' ≤ k ∧ Hid (CnTo l (nm4 j) k c') ∧ Below (w1.heap.size + 1) (w1.alloc (.cells #[.string kKey, .string kTitle, .string kDay, .string kBody] 9)) wx) (fun _ i _ => n - (intOf i).toNat)
      case atStart => exact ⟨0, 0, rfl, rfl, by omega, by omega, CnTo.zero _ _, hbr⟩
      case round =>
        obtain ⟨c', k, rfl, rfl, hk, hck, hcn, hbx⟩ := hrel
        by_cases hkn : k < n
        · have hkl : k < l.length := by rw [HL.out]; exact hkn
          obtain ⟨b, off, ha, h1, h2⟩ := EA.out.old (DD.out _ hbx) k hkl
          have p1 := NB.out _ hbx j hlt
          have HY := Lib.hid (hcn.out.yes hkl)
          have HNo := Lib.hid (hcn.out.no hkl)
          generalize l[k] = x at *
          generalize nm4 j = m at *
          subst ha
          clear hcn
          cases hq : eqS x.1 m
          · have E := Lib.hid (HNo.out hq)
            have hq : (x.1.toList == m.toList) = false := hq
            go_wp2_with fail
            go_quiet (fail)
            go_wp2
            go_roundw
            case rel => exact ⟨c', k + 1, rfl, by go_num, by omega, by omega, E.out, below_drewN' hbx _⟩
            case measure => simp [intOf]; omega
          · have E := Lib.hid (HY.out hq)
            have hq : (x.1.toList == m.toList) = true := hq
            go_wp2_with fail
            go_quiet (fail)
            go_wp2
            go_roundw
            case rel => exact ⟨c' + 1, k + 1, by go_num, by go_num, by omega, by omega, E.out, below_drewN' hbx _⟩
            case measure => simp [intOf]; omega
        · have E := Lib.hid (hcn.out.done (by rw [HL.out]; omega))
          by_cases hc2 : 1 < c'
          · have q2 : (c' : Int) > 1 := by omega
            have HG : Hid (false = (ok0 && gdTo l (j + 1))) := by
              rw [gdTo_next]
              have : gd4 l j = false := by
                unfold gd4; rw [E.out]
                split
                · exact decide_eq_false (by omega)
                · exact decide_eq_false (by omega)
              rw [this, Bool.and_false, Bool.and_false]; rfl
            go_wp2
            go_roundw
            case rel => exact ⟨j + 1, false, rfl, by go_num, by omega, HG, hbx⟩
            case measure => simp [intOf]; omega
          · have q2 : ¬ (c' : Int) > 1 := by omega
            by_cases hc0 : c' = 0
            · subst hc0
              by_cases hj3 : j < 3
              · have q3 : (j : Int) < 3 := by omega
                have HG : Hid (false = (ok0 && gdTo l (j + 1))) := by
                  rw [gdTo_next]
                  have : gd4 l j = false := by
                    unfold gd4; rw [E.out, if_pos hj3]
                    exact decide_eq_false (by omega)
                  rw [this, Bool.and_false, Bool.and_false]; rfl
                go_wp2
                go_roundw
                case rel => exact ⟨j + 1, false, rfl, by go_num, by omega, HG, hbx⟩
                case measure => simp [intOf]; omega
              · have q3 : ¬ (j : Int) < 3 := by omega
                have HG : Hid (v = (ok0 && gdTo l (j + 1))) := by
                  rw [gdTo_next]
                  have : gd4 l j = true := by
                    unfold gd4; rw [E.out, if_neg hj3]
                    exact decide_eq_true (by omega)
                  rw [this, Bool.and_true]; exact hvv.out
                go_wp2
                go_roundw
                case rel => exact ⟨j + 1, v, rfl, by go_num, by omega, HG, hbx⟩
                case measure => simp [intOf]; omega
            · obtain rfl : c' = 1 := by omega
              have HG : Hid (v = (ok0 && gdTo l (j + 1))) := by
                rw [gdTo_next]
                have : gd4 l j = true := by
                  unfold gd4; rw [E.out]
                  split
                  · exact decide_eq_true rfl
                  · exact decide_eq_true (by omega)
                rw [this, Bool.and_true]; exact hvv.out
              go_wp2
              go_roundw
              case rel => exact ⟨j + 1, v, rfl, by go_num, by omega, HG, hbx⟩
              case measure => simp [intOf]; omega
    · obtain rfl : j = 4 := by omega
      have D6 := DD.out wr hbr
      cases v
      · have HO : Hid (readI s.data.toList = none) := by
          have h := hvv.out
          rw [gdTo_four] at h
          cases hk : ok0
          · exact HI.out.2 hk
          · rw [hk, Bool.true_and] at h
            exact (HI.out.1 hk).trans (ofE_no (.inl h.symm))
        obtain ⟨g0, g1, g2, g3, f0, f1, f2, f3⟩ := heap_cells4 (heap_below D6 H1.out hw1)
        have hbz := HB1.out.trans (D6.mono (by omega))
        go_wp2
        refine bodyPost_ret (v := .tuple #[.agg #[.string ⟨#[]⟩, .string ⟨#[]⟩, .string ⟨#[]⟩, .int .i64 0], .bool false]) ?_ rfl (itRead_no HO.out (set_item hbz (Nat.le_refl _) ⟨⟨#[]⟩, ⟨#[]⟩, ⟨#[]⟩, 0⟩ 0))
        simp only [results, hres]
        go_simp
      · have hok0 : ok0 = true ∧ onceE l = true := by
          have h := hvv.out
          rw [gdTo_four] at h
          exact (Bool.and_eq_true _ _).mp h.symm
        have HR := Lib.hid (HI.out.1 hok0.1)
        have E1 := Lib.hid (strOpt_fst HV.out kKey)
        have E2 := Lib.hid (strOpt_fst HV.out kTitle)
        have E3 := Lib.hid (strOpt_fst HV.out kBody)
        have E4 := Lib.hid (strOpt_fst HV.out kDay)
        have iv : Hid (∀ w, Calls Tryd.prog 34 #[.agg #[.string (fstE l kKey), .string (fstE l kTitle), .string (fstE l kBody), .int .i64 (readD (fstE l kDay).data.toList)]] w fun e w' => e = .returned (.bool (itV (mkI l))) ∧ Below w.heap.size w w') := fun w => spec_itemValid (mkI l) w (by have := fst_sz HV.out kKey; unfold maxLen; show (fstE l kKey).size ≤ _; omega) (by have := fst_sz HV.out kTitle; unfold maxLen; show (fstE l kTitle).size ≤ _; omega) (by have := fst_sz HV.out kBody; unfold maxLen; show (fstE l kBody).size ≤ _; omega)
        have rd := Lib.hid (fun w => spec_readDate (fstE l kDay) w (by have := fst_sz HV.out kDay; unfold maxLen; omega))
        have HYes := Lib.hid (fun h => HR.out.trans (ofE_yes hok0.2 h))
        have HNoI := Lib.hid (fun h => HR.out.trans (ofE_no (l := l) (.inr h)))
        have hmk : Hid (mkI l = ⟨fstE l kKey, fstE l kTitle, fstE l kBody, readD (fstE l kDay).data.toList⟩) := rfl
        generalize readD (fstE l kDay).data.toList = dd at *
        generalize itV (mkI l) = okv at *
        have EW := Lib.hid (EA.out.old D6)
        clear hvv DD NB hbr hok0
        go_wp2_with fail
        have cc1 := cx.out kKey _ EW.out
        obtain ⟨b1, e1⟩ := E1.out
        rw [e1] at cc1
        refine cc1.mono ?_
        clear cc1
        rintro e w' ⟨rfl, rfl⟩
        go_wp2_with fail
        have cc2 := cx.out kTitle _ EW.out
        obtain ⟨b2, e2⟩ := E2.out
        rw [e2] at cc2
        refine cc2.mono ?_
        clear cc2
        rintro e w' ⟨rfl, rfl⟩
        go_wp2_with fail
        have cc3 := cx.out kBody _ EW.out
        obtain ⟨b3, e3⟩ := E3.out
        rw [e3] at cc3
        refine cc3.mono ?_
        clear cc3
        rintro e w' ⟨rfl, rfl⟩
        go_wp2_with fail
        have cc4 := cx.out kDay _ EW.out
        obtain ⟨b4, e4⟩ := E4.out
        rw [e4] at cc4
        refine cc4.mono ?_
        clear cc4
        rintro e w' ⟨rfl, rfl⟩
        go_wp2_with fail
        refine (rd.out _).mono ?_
        rintro e w11 ⟨rfl, hb11⟩
        have D11 := D6.trans (hb11.mono D6.size)
        have D11a := D11.alloc D11.size (.cells #[.string (fstE l kKey), .string (fstE l kTitle), .string (fstE l kBody), .int .i64 dd] 41)
        have T11 := heap_alloc_new w11 (.cells #[.string (fstE l kKey), .string (fstE l kTitle), .string (fstE l kBody), .int .i64 dd] 41)
        go_wp2_with fail
        refine (iv.out _).mono ?_
        rintro e w12 ⟨rfl, hb12⟩
        have D12 := D11a.trans (hb12.mono D11a.size)
        obtain ⟨p0, p1, p2, p3, _⟩ := heap_cells4 (heap_below hb12 T11 (by simp))
        obtain ⟨g0, g1, g2, g3, f0, f1, f2, f3⟩ := heap_cells4 (heap_below D12 H1.out hw1)
        have hbz := HB1.out.trans (D12.mono (by omega))
        clear hb11 D11 D11a T11 hb12
        cases okv
        · have HO := Lib.hid (HNoI.out rfl)
          go_wp2
          refine bodyPost_ret (v := .tuple #[.agg #[.string ⟨#[]⟩, .string ⟨#[]⟩, .string ⟨#[]⟩, .int .i64 0], .bool false]) ?_ rfl (itRead_no HO.out (set_item hbz (Nat.le_refl _) ⟨⟨#[]⟩, ⟨#[]⟩, ⟨#[]⟩, 0⟩ 0))
          simp only [results, hres]
          go_simp
        · have HO := Lib.hid ((HYes.out rfl).trans (congrArg some hmk.out))
          go_wp2
          refine bodyPost_ret (v := .tuple #[.agg #[.string (fstE l kKey), .string (fstE l kTitle), .string (fstE l kBody), .int .i64 dd], .bool true]) ?_ rfl (itRead_yes HO.out (set_item hbz (Nat.le_refl _) ⟨fstE l kKey, fstE l kTitle, fstE l kBody, dd⟩ 0))
          simp only [results, hres]
          go_simp
end Go.Proofs.YtldllhfadihmeaaDoor
