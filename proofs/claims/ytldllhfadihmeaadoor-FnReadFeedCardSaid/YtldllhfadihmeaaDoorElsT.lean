/- ElementsText, the program's and the reference's, computes elsT, for every row of elements. -/
import Derived.Test.YtldllhfadihmeaaDoorElsW
import Derived.Test.YtldllhfadihmeaaDoorEscT
import Derived.Deep.RegionHeld3
import Derived.Deep.QuietTactic
import Derived.BigQuiet
namespace Go.Proofs.YtldllhfadihmeaaDoor
open Go.RowKit

/-- What a round keeps: the text of the first k elements. -/
def EtxTo (l : List El) (k : Nat) (u : ByteArray) : Prop := u.data.toList = elsL (l.take k)
theorem EtxTo.zero (l : List El) : EtxTo l 0 ⟨#[]⟩ := by simp [EtxTo, elsL]
theorem EtxTo.next {l : List El} {k : Nat} {u v : ByteArray} (h : EtxTo l k u) (hk : k < l.length) (hv : v.data.toList = elL l[k]) : EtxTo l (k + 1) (u ++ v) := by
  unfold EtxTo at *
  rw [take_snocE l k hk, elsL_snoc, ba_app, h, hv]
theorem EtxTo.next' {l : List El} {k : Nat} {u v : ByteArray} (h : EtxTo l k u) (hk : k < l.length) (hv : v.data.toList = u.data.toList ++ elL l[k]) : EtxTo l (k + 1) v := by
  unfold EtxTo at *
  rw [take_snocE l k hk, elsL_snoc, hv, h]
theorem EtxTo.done {l : List El} {k : Nat} {u : ByteArray} (h : EtxTo l k u) (hk : l.length ≤ k) : u.data.toList = elsL l := by
  unfold EtxTo at h
  rwa [List.take_of_length_le hk] at h
theorem EtxTo.size {l : List El} {k : Nat} {u : ByteArray} (h : EtxTo l k u) (hv : elsV l = true) : u.size ≤ 4008 := by
  rw [← size_toList, show u.data.toList = _ from h]
  obtain ⟨h1, h2⟩ := (elsV_iff l).1 hv
  have h3 : (l.take k).all elV = true := by
    rw [List.all_eq_true] at h2 ⊢
    exact fun x hx => h2 x (List.mem_of_mem_take hx)
  have := elsL_bd h3
  have := List.length_take_le k l
  have : (l.take k).length ≤ l.length := by rw [List.length_take]; omega
  omega
theorem elL_impl (x : El) (X : ByteArray) (h : X.data.toList = esc x.t) : ((((((⟨#[60]⟩ : ByteArray) ++ x.1) ++ ⟨#[62]⟩) ++ X) ++ ⟨#[60, 47]⟩) ++ x.1 ++ ⟨#[62]⟩).data.toList = elL x := by
  simp only [ba_app, h, elL, El.n]
  simp
theorem elL_spec (u : ByteArray) (x : El) (X : ByteArray) (h : X.data.toList = esc x.t) : (((((((u ++ (⟨#[60]⟩ : ByteArray)) ++ x.1) ++ ⟨#[62]⟩) ++ X) ++ ⟨#[60, 47]⟩) ++ x.1) ++ ⟨#[62]⟩).data.toList = u.data.toList ++ elL x := by
  simp only [ba_app, h, elL, El.n]
  simp

theorem quiet_same' {P : Program} {f : FuncId} {args : Array Value} {w : World} {n : Nat} {v : Value} (h : Calls P f args (w.drewN n) fun e w' => e = .returned v ∧ w.drewN n = w') : Calls P f args (w.drewN n) fun e w'' => e = .returned v ∧ ∃ m, w'' = w.drewN m :=
  Calls.quiet_of_same (h.mono fun _ _ h => ⟨h.1, h.2.symm⟩)

set_option maxHeartbeats 2000000 in
theorem impl_elementsText (a : Option Addr) (n cap : Nat) (l : List El) (w : World) (h : ElAt w a l) (hn : l.length = n) (hm : n ≤ maxLen) (hs : ∀ e ∈ l, e.1.size ≤ maxLen ∧ e.2.size ≤ maxLen) (hE : EscAt w) :
    Calls Tryd.prog 54 #[.slice a n cap] w fun e w' => e = .returned (.string ⟨(elsT l).toArray⟩) ∧ Below w.heap.size w w' := by
  have c0 := Lib.hid (impl_elementsValid a n cap l w h hn hm hs)
  unfold maxLen at hm
  have HN := Lib.hid hn
  have HE := Lib.hid h
  have HX := Lib.hid hE
  clear hn h hs hE
  cases hv : elsV l
  · rw [hv] at c0
    have E := Lib.hid (elsT_no hv)
    clear hv
    go_enter Tryd.func54, Tryd.ntmps54
    go_wp2_with fail
    refine c0.out.mono ?_
    rintro e w1 ⟨rfl, hb1⟩
    go_wp2
    go_ret
    exact ⟨ret_str E.out.symm, hb1⟩
  · rw [hv] at c0
    have E := Lib.hid (elsT_yes hv)
    have HV := Lib.hid hv
    clear hv
    go_enter Tryd.func54, Tryd.ntmps54
    go_wp2_with fail
    refine c0.out.mono ?_
    rintro e w1 ⟨rfl, hb1⟩
    go_wp2
    go_loopw [3, 11] (fun t i wr => ∃ (k : Nat) (u : ByteArray), t = .string u ∧ i = .int .i64 k ∧ k ≤ n ∧ Hid (EtxTo l k u) ∧ Below w.heap.size w wr) (fun _ i _ => n - (intOf i).toNat)
    case atStart => exact ⟨0, ⟨#[]⟩, rfl, rfl, by omega, EtxTo.zero l, hb1⟩
    case round =>
      obtain ⟨k, u, rfl, rfl, hk, ho, hbr⟩ := hrel
      by_cases hlt : k < n
      · have hkl : k < l.length := by rw [HN.out]; exact hlt
        obtain ⟨b, off, ha, h1, h2⟩ := HE.out.old hbr k hkl
        have hev := (elV_iff _).1 (elsV_at HV.out hkl)
        have hz1 : l[k].1.size ≤ 8 := by rw [← size_toList]; exact (wordV_all hev.1).2.1
        have hz2 : l[k].2.size ≤ 80 := by rw [← size_toList]; exact textV_len hev.2
        have huz := ho.out.size HV.out
        obtain ⟨X, hX⟩ : ∃ X : ByteArray, X = ⟨(escT l[k].2.data.toList).toArray⟩ := ⟨_, rfl⟩
        have hXl : X.data.toList = esc l[k].t := by rw [hX]; exact escT_yes hev.2
        have hXz : X.size ≤ 480 := by rw [hX, size_of_list]; exact escT_len _
        have c1 := Lib.hid (fun w h => impl_escapeText l[k].2 w (by unfold maxLen; omega) h)
        rw [← hX] at c1
        have HO := Lib.hid (ho.out.next hkl (elL_impl l[k] X hXl))
        have hbw := hbr.alloc hbr.size (.cells #[.string l[k].1, .string l[k].2] 67)
        have HXr : Hid (EscAt (wr.alloc (.cells #[.string l[k].1, .string l[k].2] 67))) := HX.out.old hbw
        have q1 : (⟨#[60]⟩ : ByteArray).size = 1 := rfl
        have q2 : (⟨#[62]⟩ : ByteArray).size = 1 := rfl
        have q3 : (⟨#[60, 47]⟩ : ByteArray).size = 2 := rfl
        have hk9 : k ≤ 8 := by have := ((elsV_iff l).1 HV.out).1; omega
        clear hev hX hXl ho
        generalize l[k] = x at *
        subst ha
        have z1 : ¬ 9223372036854775807 < 1 + x.1.size := by omega
        have z2 : ¬ 9223372036854775807 < 1 + x.1.size + 1 := by omega
        have z3 : ¬ 9223372036854775807 < 1 + x.1.size + 1 + X.size := by omega
        have z4 : ¬ 9223372036854775807 < 1 + x.1.size + 1 + X.size + 2 := by omega
        have z5 : ¬ 9223372036854775807 < 1 + x.1.size + 1 + X.size + 2 + x.1.size := by omega
        have z6 : ¬ 9223372036854775807 < 1 + x.1.size + 1 + X.size + 2 + x.1.size + 1 := by omega
        have z7 : ¬ 9223372036854775807 < u.size + (1 + x.1.size + 1 + X.size + 2 + x.1.size + 1) := by omega
        go_wp2_with fail
        have K0 : Hid ((wr.alloc (.cells #[.string x.1, .string x.2] 67)).cell? ⟨wr.heap.size, 0, none⟩ = some (.string x.1) ∧ (wr.alloc (.cells #[.string x.1, .string x.2] 67)).cell? ⟨wr.heap.size, 1, none⟩ = some (.string x.2)) := Lib.hid ⟨by go_simp, by go_simp⟩
        go_region_held3 (fun w' => Below w.heap.size w w' ∧ w'.cell? ⟨wr.heap.size, 0, none⟩ = some (.string x.1) ∧ w'.cell? ⟨wr.heap.size, 1, none⟩ = some (.string x.2)) (first | exact ⟨hbw.drew, K0.out⟩ | assumption | go_keep) (first | (go_at_call 75; refine (c1.out _ ?_).mono ?_; exact HXr.out; rintro e w2 ⟨rfl, hb2⟩; have K2 : Below w.heap.size w w2 ∧ w2.cell? ⟨wr.heap.size, 0, none⟩ = some (.string x.1) ∧ w2.cell? ⟨wr.heap.size, 1, none⟩ = some (.string x.2) := ⟨hbw.drew.trans (hb2.mono hbw.size), (hb2.cell (p := ⟨wr.heap.size, 0, none⟩) (by simp)).trans K0.out.1, (hb2.cell (p := ⟨wr.heap.size, 1, none⟩) (by simp)).trans K0.out.2⟩))
        all_goals
          rename_i hS
          have hbz := hS.1
          go_wp2
          go_roundw
          case rel => exact ⟨k + 1, _, rfl, by go_num, by omega, HO.out, hbz⟩
          case measure => simp [intOf]; omega
      · have F := Lib.hid (ho.out.done (by rw [HN.out]; omega))
        go_wp2
        go_ret
        exact ⟨ret_str (F.out.trans E.out.symm), hbr⟩

set_option maxHeartbeats 2000000 in
theorem spec_elementsText (a : Option Addr) (n cap : Nat) (l : List El) (w : World) (h : ElAt w a l) (hn : l.length = n) (hm : n ≤ maxLen) (hs : ∀ e ∈ l, e.1.size ≤ maxLen ∧ e.2.size ≤ maxLen) :
    Calls Tryd.prog 52 #[.slice a n cap] w fun e w' => e = .returned (.string ⟨(elsT l).toArray⟩) ∧ Below w.heap.size w w' := by
  have c0 := Lib.hid (fun w h => spec_elementsValid a n cap l w h hn hm hs)
  unfold maxLen at hm
  have HN := Lib.hid hn
  have HE := Lib.hid h
  clear hn h hs
  cases hv : elsV l
  · rw [hv] at c0
    have E := Lib.hid (elsT_no hv)
    clear hv
    go_enter Tryd.func52, Tryd.ntmps52
    go_wp2
    go_loop [3, 4] (fun t i => t = .string ⟨#[]⟩ ∧ i = .int .i64 0) (fun _ _ => 0)
    case atStart => exact ⟨rfl, rfl⟩
    case round =>
      obtain ⟨rfl, rfl⟩ := hrel
      by_cases h0 : 0 < n
      · go_wp2_with fail
        refine (c0.out _ HE.out).mono ?_
        rintro e w' ⟨rfl, rfl⟩
        go_wp2
        go_ret
        exact ⟨ret_str E.out.symm, Below.refl _ _⟩
      · go_wp2
        go_ret
        exact ⟨ret_str E.out.symm, Below.refl _ _⟩
  · rw [hv] at c0
    have E := Lib.hid (elsT_yes hv)
    have HV := Lib.hid hv
    clear hv
    go_enter Tryd.func52, Tryd.ntmps52
    go_wp2
    go_loopw [3, 4] (fun t i wr => ∃ (k : Nat) (u : ByteArray), t = .string u ∧ i = .int .i64 k ∧ k ≤ n ∧ Hid (EtxTo l k u) ∧ Below w.heap.size w wr) (fun _ i _ => n - (intOf i).toNat)
    case atStart => exact ⟨0, ⟨#[]⟩, rfl, rfl, by omega, EtxTo.zero l, Below.refl _ _⟩
    case round =>
      obtain ⟨k, u, rfl, rfl, hk, ho, hbr⟩ := hrel
      have HEr := Lib.hid (HE.out.old hbr)
      by_cases hlt : k < n
      · have hkl : k < l.length := by rw [HN.out]; exact hlt
        obtain ⟨b, off, ha, h1, h2⟩ := HE.out.old hbr k hkl
        have hev := (elV_iff _).1 (elsV_at HV.out hkl)
        have hz1 : l[k].1.size ≤ 8 := by rw [← size_toList]; exact (wordV_all hev.1).2.1
        have hz2 : l[k].2.size ≤ 80 := by rw [← size_toList]; exact textV_len hev.2
        have huz := ho.out.size HV.out
        obtain ⟨X, hX⟩ : ∃ X : ByteArray, X = ⟨(escT l[k].2.data.toList).toArray⟩ := ⟨_, rfl⟩
        have hXl : X.data.toList = esc l[k].t := by rw [hX]; exact escT_yes hev.2
        have hXz : X.size ≤ 480 := by rw [hX, size_of_list]; exact escT_len _
        have c1 := Lib.hid (fun w => spec_escapeText l[k].2 w (by unfold maxLen; omega))
        rw [← hX] at c1
        have HO := Lib.hid (ho.out.next' hkl (elL_spec u l[k] X hXl))
        have q1 : (⟨#[60]⟩ : ByteArray).size = 1 := rfl
        have q2 : (⟨#[62]⟩ : ByteArray).size = 1 := rfl
        have q3 : (⟨#[60, 47]⟩ : ByteArray).size = 2 := rfl
        have hk9 : k ≤ 8 := by have := ((elsV_iff l).1 HV.out).1; omega
        clear hev hX hXl ho
        generalize l[k] = x at *
        subst ha
        go_wp2_with fail
        refine (c0.out _ HEr.out).mono ?_
        rintro e w' ⟨rfl, rfl⟩
        have z1 : ¬ 9223372036854775807 < u.size + 1 := by omega
        have z2 : ¬ 9223372036854775807 < u.size + 1 + x.1.size := by omega
        have z3 : ¬ 9223372036854775807 < u.size + 1 + x.1.size + 1 := by omega
        have z4 : ¬ 9223372036854775807 < u.size + 1 + x.1.size + 1 + X.size := by omega
        have z5 : ¬ 9223372036854775807 < u.size + 1 + x.1.size + 1 + X.size + 2 := by omega
        have z6 : ¬ 9223372036854775807 < u.size + 1 + x.1.size + 1 + X.size + 2 + x.1.size := by omega
        have z7 : ¬ 9223372036854775807 < u.size + 1 + x.1.size + 1 + X.size + 2 + x.1.size + 1 := by omega
        go_wp2_with fail
        go_quiet ((go_at_call 72; exact quiet_same' (c1.out _)))
        go_wp2
        go_roundw
        case rel => exact ⟨k + 1, _, rfl, by go_num, by omega, HO.out, below_drewN' hbr _⟩
        case measure => simp [intOf]; omega
      · have F := Lib.hid (ho.out.done (by rw [HN.out]; omega))
        go_wp2
        go_ret
        exact ⟨ret_str (F.out.trans E.out.symm), hbr⟩
end Go.Proofs.YtldllhfadihmeaaDoor
