/- timesNamed of the program: cntE. -/
import Derived.Test.YtldllhfadihmeaaDoorElText
import Derived.Test.YtldllhfadihmeaaDoorPlM
import Derived.Test.YtldllhfadihmeaaDoorReadW
import Derived.Test.YtldllhfadihmeaaDoorReadS
import Derived.Test.YtldllhfadihmeaaDoorDateRW
import Derived.Test.YtldllhfadihmeaaDoorIwW
import Derived.Test.YtldllhfadihmeaaDoorItW
namespace Go.Proofs.YtldllhfadihmeaaDoor
open Go.RowKit

/-- What a round keeps. -/
def CnTo (l : List El) (n : ByteArray) (k : Nat) (c : Nat) : Prop := c = (l.take k).countP (fun e => eqS e.1 n)
theorem CnTo.zero (l : List El) (n : ByteArray) : CnTo l n 0 0 := by simp [CnTo]
theorem CnTo.yes {l : List El} {n : ByteArray} {k c : Nat} (h : CnTo l n k c) (hk : k < l.length) (he : eqS l[k].1 n = true) : CnTo l n (k + 1) (c + 1) := by
  unfold CnTo at *
  rw [List.take_succ_eq_append_getElem hk, List.countP_append, ← h]; simp [he]
theorem CnTo.no {l : List El} {n : ByteArray} {k c : Nat} (h : CnTo l n k c) (hk : k < l.length) (he : eqS l[k].1 n = false) : CnTo l n (k + 1) c := by
  unfold CnTo at *
  rw [List.take_succ_eq_append_getElem hk, List.countP_append, ← h]; simp [he]
theorem CnTo.done {l : List El} {n : ByteArray} {k c : Nat} (h : CnTo l n k c) (hk : l.length ≤ k) : cntE l n = c := by
  unfold CnTo at h
  rw [List.take_of_length_le hk] at h
  exact h.symm
theorem CnTo.le {l : List El} {n : ByteArray} {k c : Nat} (h : CnTo l n k c) : c ≤ k := by
  rw [show c = _ from h]
  exact Nat.le_trans List.countP_le_length (List.length_take_le _ _)

set_option maxHeartbeats 1000000 in
theorem impl_timesNamed (a : Option Addr) (n cap : Nat) (l : List El) (s : ByteArray) (w : World) (h : ElAt w a l) (hn : l.length = n) (hm : n ≤ maxLen) :
    Calls Tryd.prog 59 #[.slice a n cap, .string s] w fun e w' => e = .returned (.int .i64 (cntE l s : Nat)) ∧ Below w.heap.size w w' := by
  unfold maxLen at hm
  have HN := Lib.hid hn
  have HE := Lib.hid h
  clear hn h
  go_enter Tryd.func59, Tryd.ntmps59
  go_wp2
  go_loopw [5, 10] (fun c i wr => ∃ j k : Nat, c = .int .i64 j ∧ i = .int .i64 k ∧ k ≤ n ∧ j ≤ k ∧ Hid (CnTo l s k j) ∧ Below w.heap.size w wr) (fun _ i _ => n - (intOf i).toNat)
  case atStart => exact ⟨0, 0, rfl, rfl, by omega, by omega, CnTo.zero _ _, Below.refl _ _⟩
  case round =>
    obtain ⟨j, k, rfl, rfl, hk, hjk, ho, hbr⟩ := hrel
    by_cases hlt : k < n
    · have hkl : k < l.length := by rw [HN.out]; exact hlt
      obtain ⟨b, off, ha, h1, h2⟩ := HE.out.old hbr k hkl
      have HY := Lib.hid (ho.out.yes hkl)
      have HZ := Lib.hid (ho.out.no hkl)
      have hbx := hbr.alloc hbr.size (.cells #[.string l[k].1, .string l[k].2] 67)
      generalize l[k] = x at *
      subst ha
      clear ho
      cases hq : eqS x.1 s
      · have E := Lib.hid (HZ.out hq)
        have hq : (x.1.toList == s.toList) = false := hq
        go_wp2
        go_roundw
        case rel => exact ⟨j, k + 1, rfl, by go_num, by omega, by omega, E.out, hbx⟩
        case measure => simp [intOf]; omega
      · have E := Lib.hid (HY.out hq)
        have hq : (x.1.toList == s.toList) = true := hq
        go_wp2
        go_roundw
        case rel => exact ⟨j + 1, k + 1, by go_num, by go_num, by omega, by omega, E.out, hbx⟩
        case measure => simp [intOf]; omega
    · have E := Lib.hid (ho.out.done (by rw [HN.out]; omega))
      go_wp2
      go_ret
      exact ⟨by rw [E.out]; rfl, hbr⟩
end Go.Proofs.YtldllhfadihmeaaDoor

/- ReadItem of the program: readI. -/
namespace Go.Proofs.YtldllhfadihmeaaDoor
open Go.RowKit

theorem fst_sz {l : List El} (hv : elsV l = true) (n : ByteArray) : (fstE l n).size ≤ 100 := by
  unfold fstE
  cases hf : l.find? (fun e => eqS e.1 n) with
  | none => show (⟨#[]⟩ : ByteArray).size ≤ 100; decide
  | some e =>
    have he := List.mem_of_find?_eq_some hf
    have hv := (elV_iff e).1 (List.all_eq_true.1 ((elsV_iff l).1 hv).2 e he)
    have h2 : e.2.size ≤ 80 := by rw [← size_toList]; exact textV_len hv.2
    simp; omega
theorem strOpt_fst {l : List El} (hv : elsV l = true) (n : ByteArray) : ∃ b, strOpt (elT l n) = .tuple #[.string (fstE l n), .bool b] := by
  unfold fstE
  cases hf : l.find? (fun e => eqS e.1 n) with
  | none => exact ⟨false, by rw [elT_none hf]; rfl⟩
  | some e => exact ⟨true, by rw [elT_some hv hf]; rfl⟩
/-- The names that must occur once. -/
def nm : Nat → ByteArray | 0 => kKey | 1 => kTitle | _ => kDay
def OnTo (l : List El) (k : Nat) : Prop := ∀ j, j < k → cntE l (nm j) = 1
theorem OnTo.zero (l : List El) : OnTo l 0 := fun j h => by omega
theorem OnTo.next {l : List El} {k : Nat} (h : OnTo l k) (hk : cntE l (nm k) = 1) : OnTo l (k + 1) := fun j hj => by
  by_cases e : j = k
  · rw [e]; exact hk
  · exact h j (by omega)
theorem once_no {l : List El} {k : Nat} (hk : k < 3) (h : cntE l (nm k) ≠ 1) : onceE l = false := by
  rw [← Bool.not_eq_true, onceE_iff]
  rintro ⟨h1, h2, h3, _⟩
  match k, hk with
  | 0, _ => exact h h1
  | 1, _ => exact h h2
  | 2, _ => exact h h3
theorem once_body {l : List El} (h : ¬ cntE l kBody ≤ 1) : onceE l = false := by
  rw [← Bool.not_eq_true, onceE_iff]
  rintro ⟨_, _, _, h4⟩; exact h h4
theorem OnTo.done {l : List El} (h : OnTo l 3) (hb : cntE l kBody ≤ 1) : onceE l = true := (onceE_iff l).2 ⟨h 0 (by omega), h 1 (by omega), h 2 (by omega), hb⟩
theorem names_cells (W : World) (t : TypeId) (w2 : World) (h : Below (W.heap.size + 1) (W.alloc (.cells #[.string kKey, .string kTitle, .string kDay] t)) w2) : ∀ k, k < 3 → w2.cell? ⟨W.heap.size, k, none⟩ = some (.string (nm k)) := by
  intro k hk
  refine (h.cell (p := ⟨W.heap.size, k, none⟩) (by simp)).trans ?_
  match k, hk with
  | 0, _ => simp [nm]
  | 1, _ => simp [nm]
  | 2, _ => simp [nm]
/-- What ReadItem leaves behind. -/
def ItRead (o : Option It) (w : World) (e : Ending) (w' : World) : Prop :=
  e = .returned (.tuple #[.agg #[.string (dI o).key, .string (dI o).title, .string (dI o).body, .int .i64 (dI o).day], .bool o.isSome]) ∧ Below w.heap.size w w'
theorem itRead_no {o : Option It} {w w' : World} (h : o = none) (hb : Below w.heap.size w w') : ItRead o w (.returned (.tuple #[.agg #[.string ⟨#[]⟩, .string ⟨#[]⟩, .string ⟨#[]⟩, .int .i64 0], .bool false])) w' := by
  subst h; exact ⟨rfl, hb⟩
theorem itRead_yes {o : Option It} {i : It} {w w' : World} (h : o = some i) (hb : Below w.heap.size w w') : ItRead o w (.returned (.tuple #[.agg #[.string i.key, .string i.title, .string i.body, .int .i64 i.day], .bool true])) w' := by
  subst h; exact ⟨rfl, hb⟩
theorem heap_below {B : Nat} {w w' : World} {b : Nat} {o : Obj} (hb : Below B w w') (h : w.heap[b]? = some o) (hB : b < B) : w'.heap[b]? = some o := (hb.block b hB).trans h
theorem heap_other {w : World} {b g i : Nat} {o : Obj} {v : Value} (h : w.heap[b]? = some o) (hne : b ≠ g) : (w.setCell ⟨g, i, none⟩ v).heap[b]? = some o := (Below.heap_setCell w _ v b (fun e => hne e)).trans h
theorem heap_cells4 {w : World} {b : Nat} {c0 c1 c2 c3 : Value} {t : TypeId} (h : w.heap[b]? = some (.cells #[c0, c1, c2, c3] t (0, 0))) :
    w.cell? ⟨b, 0, none⟩ = some c0 ∧ w.cell? ⟨b, 1, none⟩ = some c1 ∧ w.cell? ⟨b, 2, none⟩ = some c2 ∧ w.cell? ⟨b, 3, none⟩ = some c3 ∧
    w.frozen? ⟨b, 0, none⟩ = false ∧ w.frozen? ⟨b, 1, none⟩ = false ∧ w.frozen? ⟨b, 2, none⟩ = false ∧ w.frozen? ⟨b, 3, none⟩ = false := by
  refine ⟨?_, ?_, ?_, ?_, ?_, ?_, ?_, ?_⟩ <;> simp [World.cell?, World.frozen?, h]
theorem heap_set4 {w : World} {b : Nat} {c0 c1 c2 c3 : Value} {t : TypeId} (h : w.heap[b]? = some (.cells #[c0, c1, c2, c3] t (0, 0))) (v : Value) :
    (w.setCell ⟨b, 0, none⟩ v).heap[b]? = some (.cells #[v, c1, c2, c3] t (0, 0)) ∧ (w.setCell ⟨b, 1, none⟩ v).heap[b]? = some (.cells #[c0, v, c2, c3] t (0, 0)) ∧
    (w.setCell ⟨b, 2, none⟩ v).heap[b]? = some (.cells #[c0, c1, v, c3] t (0, 0)) ∧ (w.setCell ⟨b, 3, none⟩ v).heap[b]? = some (.cells #[c0, c1, c2, v] t (0, 0)) := by
  refine ⟨?_, ?_, ?_, ?_⟩ <;> simp [World.setCell, Array.getElem?_modify, h]

set_option maxRecDepth 100000 in
set_option maxHeartbeats 4000000 in
theorem impl_readItem (s : ByteArray) (w : World) (hs : s.size ≤ 1000000000) (hE : EscAt w) :
    Calls Tryd.prog 35 #[.string s] w (ItRead (readI s.data.toList) w) := by
  have hres : Tryd.f35.results = #[.cell 2 41, .tmp 3] := by kernel_rfl
  have hb0 : Below w.heap.size w (w.alloc (.cells #[.string ⟨#[]⟩, .string ⟨#[]⟩, .string ⟨#[]⟩, .int .i64 0] 41)) := (Below.refl _ _).alloc (Nat.le_refl _) _
  have c1 := Lib.hid (fun w h => impl_readElements s w hs h)
  have HE := Lib.hid (hE.old hb0)
  have H0 := heap_alloc_new w (.cells #[.string ⟨#[]⟩, .string ⟨#[]⟩, .string ⟨#[]⟩, .int .i64 0] 41)
  clear hE
  cases ho : readE s.data.toList with
  | none =>
    have HO := Lib.hid (readI_none ho)
    rw [ho] at c1
    unfold ElsRead at c1
    clear ho
    go_enter Tryd.func35, Tryd.ntmps35
    go_wp2_with fail
    refine (c1.out _ HE.out).mono ?_
    rintro e w1 ⟨⟨a, n, cap, rfl, _, _⟩, hb1⟩
    obtain ⟨g0, g1, g2, g3, f0, f1, f2, f3⟩ := heap_cells4 (heap_below hb1 H0 (by simp))
    have hbz := hb0.trans (hb1.mono (by simp))
    go_wp2
    refine bodyPost_ret (v := .tuple #[.agg #[.string ⟨#[]⟩, .string ⟨#[]⟩, .string ⟨#[]⟩, .int .i64 0], .bool false]) ?_ rfl (itRead_no HO.out (set_item hbz (Nat.le_refl _) ⟨⟨#[]⟩, ⟨#[]⟩, ⟨#[]⟩, 0⟩ 0))
    simp only [results, hres]
    go_simp
  | some l =>
    have hv := (readE_some ho).1
    have HI := Lib.hid (readI_els ho)
    rw [ho] at c1
    unfold ElsRead at c1
    have hl8 := ((elsV_iff l).1 hv).1
    have hsz : ∀ e ∈ l, e.1.size ≤ maxLen ∧ e.2.size ≤ maxLen := fun e he => by
      have hv := (elV_iff e).1 (List.all_eq_true.1 ((elsV_iff l).1 hv).2 e he)
      have h1 : e.1.size ≤ 8 := by rw [← size_toList]; exact (wordV_all hv.1).2.1
      have h2 : e.2.size ≤ 80 := by rw [← size_toList]; exact textV_len hv.2
      unfold maxLen; omega
    have HZ := Lib.hid hsz
    have HV := Lib.hid hv
    clear ho hsz hv
    go_enter Tryd.func35, Tryd.ntmps35
    go_wp2_with fail
    refine (c1.out _ HE.out).mono ?_
    rintro e w1 ⟨⟨a, n, cap, rfl, own1, hl1⟩, hb1⟩
    have hl1 : l.length = n := hl1
    have own1 : w1.ownsRow _ 67 2 (.slice a n cap) n (flatE l) := own1
    have EA := Lib.hid (ElAt.own' own1 hl1)
    have HL := Lib.hid hl1
    have hn8 : n ≤ 8 := by omega
    have HB1 := Lib.hid (hb0.trans (hb1.mono (by simp)))
    have H1 := Lib.hid (heap_below hb1 H0 (by simp))
    have hw1 : w.heap.size < w1.heap.size := by have := hb1.size; simp at this; omega
    have ct := Lib.hid (fun m w h => impl_timesNamed a n cap l m w h HL.out (by unfold maxLen; omega))
    have cx := Lib.hid (fun m w h => impl_elementText a n cap l m w h HL.out (by unfold maxLen; omega) HZ.out)
    clear own1 hl1 hb1 hl8 H0
    go_wp2_with fail
    refine (ct.out kBody _ EA.out).mono ?_
    rintro e w2 ⟨rfl, hb2⟩
    have D2 := Lib.hid hb2
    by_cases hbd : cntE l kBody ≤ 1
    · have hle : ¬ ((cntE l kBody : Nat) : Int) > 1 := by omega
      have HBd := Lib.hid hbd
      have NB := Lib.hid (names_cells w2 9)
      have DD := Lib.hid (fun wr (h : Below (w2.heap.size + 1) (w2.alloc (.cells #[.string kKey, .string kTitle, .string kDay] 9)) wr) => (D2.out.alloc D2.out.size (.cells #[.string kKey, .string kTitle, .string kDay] 9)).trans (h.mono (by have := D2.out.size; omega)))
      clear hbd hb2
      generalize cntE l kBody = cb at hle ⊢
      go_wp2
      go_loopw [26] (fun i wr => ∃ k : Nat, i = .int .i64 k ∧ k ≤ 3 ∧ Hid (OnTo l k) ∧ Below (w2.heap.size + 1) (w2.alloc (.cells #[.string kKey, .string kTitle, .string kDay] 9)) wr) (fun i _ => 3 - (intOf i).toNat)
      case atStart => exact ⟨0, rfl, by omega, OnTo.zero _, Below.refl _ _⟩
      case round =>
        obtain ⟨k, rfl, hk, hon, hbr⟩ := hrel
        have D3 := Lib.hid (DD.out wr hbr)
        by_cases hlt : k < 3
        · have q1 : (k : Int) < 3 := by omega
          have p1 := NB.out wr hbr k hlt
          have hwr := hbr.size
          go_wp2_with fail
          refine (ct.out (nm k) _ (EA.out.old D3.out)).mono ?_
          rintro e w5 ⟨rfl, hb5⟩
          have hc5 := hbr.trans (hb5.mono (by simp at hwr; omega))
          by_cases h1 : cntE l (nm k) = 1
          · have HO1 := Lib.hid (hon.out.next h1)
            rw [h1]
            go_wp2
            go_roundw
            case rel => exact ⟨k + 1, by go_num, by omega, HO1.out, hc5⟩
            case measure => simp [intOf]; omega
          · have HO := Lib.hid (HI.out.trans (ofE_no (.inl (once_no hlt h1))))
            have hne : (((cntE l (nm k) : Nat) : Int) != 1) = true := by rw [bne_iff_ne]; omega
            have D5 := DD.out w5 hc5
            obtain ⟨g0, g1, g2, g3, f0, f1, f2, f3⟩ := heap_cells4 (heap_below D5 H1.out hw1)
            have hbz := HB1.out.trans (D5.mono (by omega))
            clear h1
            generalize cntE l (nm k) = c at hne ⊢
            go_wp2
            refine bodyPost_ret (v := .tuple #[.agg #[.string ⟨#[]⟩, .string ⟨#[]⟩, .string ⟨#[]⟩, .int .i64 0], .bool false]) ?_ rfl (itRead_no HO.out (set_item hbz (Nat.le_refl _) ⟨⟨#[]⟩, ⟨#[]⟩, ⟨#[]⟩, 0⟩ 0))
            simp only [results, hres]
            go_simp
        · obtain rfl : k = 3 := by omega
          have HOn := Lib.hid (hon.out.done HBd.out)
          have hB8 : w1.heap.size ≤ wr.heap.size := D3.out.size
          have E1 := Lib.hid (strOpt_fst HV.out kKey)
          have E2 := Lib.hid (strOpt_fst HV.out kTitle)
          have E3 := Lib.hid (strOpt_fst HV.out kBody)
          have E4 := Lib.hid (strOpt_fst HV.out kDay)
          have iv : Hid (∀ w, Calls Tryd.prog 42 #[.agg #[.string (fstE l kKey), .string (fstE l kTitle), .string (fstE l kBody), .int .i64 (readD (fstE l kDay).data.toList)]] w fun e w' => e = .returned (.bool (itV (mkI l))) ∧ Below w.heap.size w w') := fun w => impl_itemValid (mkI l) w (by have := fst_sz HV.out kKey; unfold maxLen; show (fstE l kKey).size ≤ _; omega) (by have := fst_sz HV.out kTitle; unfold maxLen; show (fstE l kTitle).size ≤ _; omega) (by have := fst_sz HV.out kBody; unfold maxLen; show (fstE l kBody).size ≤ _; omega)
          have rd := Lib.hid (fun w => impl_readDate (fstE l kDay) w (by have := fst_sz HV.out kDay; unfold maxLen; omega))
          have HYes := Lib.hid (fun h => HI.out.trans (ofE_yes HOn.out h))
          have HNoI := Lib.hid (fun h => HI.out.trans (ofE_no (l := l) (.inr h)))
          have hmk : Hid (mkI l = ⟨fstE l kKey, fstE l kTitle, fstE l kBody, readD (fstE l kDay).data.toList⟩) := rfl
          generalize readD (fstE l kDay).data.toList = dd at *
          generalize itV (mkI l) = okv at *
          have D6 := D3.out.alloc D3.out.size (.cells #[.string ⟨#[]⟩, .string ⟨#[]⟩, .string ⟨#[]⟩, .int .i64 0] 41)
          have T6 := heap_alloc_new wr (.cells #[.string ⟨#[]⟩, .string ⟨#[]⟩, .string ⟨#[]⟩, .int .i64 0] 41)
          clear hon D2 DD NB hbr HBd HOn hle
          go_wp2_with fail
          have cc1 := cx.out kKey _ (EA.out.old D6)
          obtain ⟨b1, e1⟩ := E1.out
          rw [e1] at cc1
          refine cc1.mono ?_
          clear cc1
          rintro e w7 ⟨rfl, hb7⟩
          have D7 := D6.trans (hb7.mono D6.size)
          have T7 := heap_below hb7 T6 (by simp)
          obtain ⟨p0, p1, p2, p3, f0, f1, f2, f3⟩ := heap_cells4 T7
          have D7s := D7.setCell (p := ⟨wr.heap.size, 0, none⟩) hB8 (.string (fstE l kKey))
          have T7s := (heap_set4 T7 (.string (fstE l kKey))).1
          clear hb7 T6 D6
          go_wp2_with fail
          have cc2 := cx.out kTitle _ (EA.out.old D7s)
          obtain ⟨b2, e2⟩ := E2.out
          rw [e2] at cc2
          refine cc2.mono ?_
          clear cc2
          rintro e w8 ⟨rfl, hb8⟩
          have D8 := D7s.trans (hb8.mono D7s.size)
          have T8 := heap_below hb8 T7s (cell_lt' (heap_cells4 T7s).1)
          clear p0 p1 p2 p3 f0 f1 f2 f3 D7 D7s T7 T7s hb8
          obtain ⟨p0, p1, p2, p3, f0, f1, f2, f3⟩ := heap_cells4 T8
          have D8s := D8.setCell (p := ⟨wr.heap.size, 1, none⟩) hB8 (.string (fstE l kTitle))
          have T8s := (heap_set4 T8 (.string (fstE l kTitle))).2.1
          go_wp2_with fail
          have cc3 := cx.out kBody _ (EA.out.old D8s)
          obtain ⟨b3, e3⟩ := E3.out
          rw [e3] at cc3
          refine cc3.mono ?_
          clear cc3
          rintro e w9 ⟨rfl, hb9⟩
          have D9 := D8s.trans (hb9.mono D8s.size)
          have T9 := heap_below hb9 T8s (cell_lt' (heap_cells4 T8s).1)
          clear p0 p1 p2 p3 f0 f1 f2 f3 D8 D8s T8 T8s hb9
          obtain ⟨p0, p1, p2, p3, f0, f1, f2, f3⟩ := heap_cells4 T9
          have D9s := D9.setCell (p := ⟨wr.heap.size, 2, none⟩) hB8 (.string (fstE l kBody))
          have T9s := (heap_set4 T9 (.string (fstE l kBody))).2.2.1
          go_wp2_with fail
          have cc4 := cx.out kDay _ (EA.out.old D9s)
          obtain ⟨b4, e4⟩ := E4.out
          rw [e4] at cc4
          refine cc4.mono ?_
          clear cc4
          rintro e w10 ⟨rfl, hb10⟩
          have D10 := D9s.trans (hb10.mono D9s.size)
          have T10 := heap_below hb10 T9s (cell_lt' (heap_cells4 T9s).1)
          clear p0 p1 p2 p3 f0 f1 f2 f3 D9 D9s T9 T9s hb10
          go_wp2_with fail
          refine (rd.out _).mono ?_
          rintro e w11 ⟨rfl, hb11⟩
          have D11 := D10.trans (hb11.mono D10.size)
          have T11 := heap_below hb11 T10 (cell_lt' (heap_cells4 T10).1)
          obtain ⟨p0, p1, p2, p3, f0, f1, f2, f3⟩ := heap_cells4 T11
          have D11s := D11.setCell (p := ⟨wr.heap.size, 3, none⟩) hB8 (.int .i64 dd)
          have T11s := (heap_set4 T11 (.int .i64 dd)).2.2.2
          clear hb11 T10 D10
          go_wp2_with fail
          refine (iv.out _).mono ?_
          rintro e w12 ⟨rfl, hb12⟩
          have D12 := D11s.trans (hb12.mono D11s.size)
          have T12 := heap_below hb12 T11s (cell_lt' (heap_cells4 T11s).1)
          clear p0 p1 p2 p3 f0 f1 f2 f3 D11 D11s T11 T11s hb12
          obtain ⟨p0, p1, p2, p3, _⟩ := heap_cells4 T12
          obtain ⟨g0, g1, g2, g3, f0, f1, f2, f3⟩ := heap_cells4 (heap_below D12 H1.out hw1)
          have hbz := HB1.out.trans (D12.mono (by omega))
          cases okv
          · have HO := Lib.hid (HNoI.out rfl)
            go_wp2
            refine bodyPost_ret (v := .tuple #[.agg #[.string ⟨#[]⟩, .string ⟨#[]⟩, .string ⟨#[]⟩, .int .i64 0], .bool false]) ?_ rfl (itRead_no HO.out (set_item hbz (Nat.le_refl _) ⟨⟨#[]⟩, ⟨#[]⟩, ⟨#[]⟩, 0⟩ 0))
            simp only [results, hres]
            go_simp
          · have HO := Lib.hid ((HYes.out rfl).trans (congrArg some hmk.out))
            go_wp2
            refine bodyPost_ret (v := .tuple #[.agg #[.string (fstE l kKey), .string (fstE l kTitle), .string (fstE l kBody), .int .i64 dd], .bool true]) ?_ rfl (itRead_yes HO.out (set_item hbz (Nat.le_refl _) ⟨fstE l kKey, fstE l kTitle, fstE l kBody, dd⟩ 0))
            simp only [results, hres]
            go_simp
    · have HO := Lib.hid (HI.out.trans (ofE_no (.inl (once_body hbd))))
      have hgt : (cntE l kBody : Int) > 1 := by omega
      generalize cntE l kBody = c at *
      obtain ⟨g0, g1, g2, g3, f0, f1, f2, f3⟩ := heap_cells4 (heap_below D2.out H1.out hw1)
      have hbz := HB1.out.trans (D2.out.mono (by omega))
      go_wp2
      refine bodyPost_ret (v := .tuple #[.agg #[.string ⟨#[]⟩, .string ⟨#[]⟩, .string ⟨#[]⟩, .int .i64 0], .bool false]) ?_ rfl (itRead_no HO.out (set_item hbz (Nat.le_refl _) ⟨⟨#[]⟩, ⟨#[]⟩, ⟨#[]⟩, 0⟩ 0))
      simp only [results, hres]
      go_simp
end Go.Proofs.YtldllhfadihmeaaDoor
