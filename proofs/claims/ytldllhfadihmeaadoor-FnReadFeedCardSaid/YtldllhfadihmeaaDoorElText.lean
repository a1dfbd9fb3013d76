/- ElementText, the program's and the reference's, computes elT, for every row of elements and every name. -/
import Derived.Test.YtldllhfadihmeaaDoorElsW
namespace Go.Proofs.YtldllhfadihmeaaDoor
open Go.RowKit

/-- None of the first k elements has the name. -/
def EtTo (l : List El) (n : ByteArray) (k : Nat) : Prop := (l.take k).find? (fun e => eqS e.1 n) = none
theorem EtTo.zero (l : List El) (n : ByteArray) : EtTo l n 0 := by simp [EtTo]
theorem EtTo.next {l : List El} {n : ByteArray} {k : Nat} (h : EtTo l n k) (hk : k < l.length) (h1 : eqS l[k].1 n = false) : EtTo l n (k + 1) := by
  unfold EtTo at *
  rw [take_snocE l k hk, List.find?_append, h]
  simp [h1]
theorem EtTo.hit {l : List El} {n : ByteArray} {k : Nat} (h : EtTo l n k) (hk : k < l.length) (h1 : eqS l[k].1 n = true) : l.find? (fun e => eqS e.1 n) = some l[k] := by
  unfold EtTo at h
  have h2 : (l.take k ++ l.drop k).find? (fun e => eqS e.1 n) = some l[k] := by
    rw [List.find?_append, h, List.drop_eq_getElem_cons hk, List.find?_cons, h1]
    rfl
  rwa [List.take_append_drop] at h2
theorem EtTo.done {l : List El} {n : ByteArray} {k : Nat} (h : EtTo l n k) (hk : l.length ≤ k) : l.find? (fun e => eqS e.1 n) = none := by
  unfold EtTo at h
  rwa [List.take_of_length_le hk] at h
theorem elT_bad {l : List El} (n : ByteArray) (h : elsV l = false) : elT l n = none := by unfold elT; rw [h]; rfl
theorem elT_some {l : List El} {n : ByteArray} {e : El} (h : elsV l = true) (hf : l.find? (fun e => eqS e.1 n) = some e) : elT l n = some e.2 := by unfold elT; rw [if_pos h, hf]; rfl
theorem elT_none {l : List El} {n : ByteArray} (hf : l.find? (fun e => eqS e.1 n) = none) : elT l n = none := by unfold elT; rw [hf]; split <;> rfl
set_option maxHeartbeats 1000000 in
theorem impl_elementText (a : Option Addr) (n cap : Nat) (l : List El) (s : ByteArray) (w : World) (h : ElAt w a l) (hn : l.length = n) (hm : n ≤ maxLen) (hs : ∀ e ∈ l, e.1.size ≤ maxLen ∧ e.2.size ≤ maxLen) :
    Calls Tryd.prog 60 #[.slice a n cap, .string s] w fun e w' => e = .returned (strOpt (elT l s)) ∧ Below w.heap.size w w' := by
  have c0 := Lib.hid (impl_elementsValid a n cap l w h hn hm hs)
  unfold maxLen at hm
  have HN := Lib.hid hn
  have HE := Lib.hid h
  clear hn h hs
  cases hv : elsV l
  · rw [hv] at c0
    have E := Lib.hid (elT_bad s hv)
    clear hv
    go_enter Tryd.func60, Tryd.ntmps60
    go_wp2_with fail
    refine c0.out.mono ?_
    rintro e w1 ⟨rfl, hb1⟩
    go_wp2
    go_ret2
    exact ⟨ret_non E.out, hb1⟩
  · rw [hv] at c0
    have HV := Lib.hid hv
    clear hv
    go_enter Tryd.func60, Tryd.ntmps60
    go_wp2_with fail
    refine c0.out.mono ?_
    rintro e w1 ⟨rfl, hb1⟩
    go_wp2
    go_loopw [13] (fun i wr => ∃ k : Nat, i = .int .i64 k ∧ k ≤ n ∧ Hid (EtTo l s k) ∧ Below w.heap.size w wr) (fun i _ => n - (intOf i).toNat)
    case atStart => exact ⟨0, rfl, by omega, EtTo.zero l s, hb1⟩
    case round =>
      obtain ⟨k, rfl, hk, ho, hbr⟩ := hrel
      by_cases hlt : k < n
      · have hkl : k < l.length := by rw [HN.out]; exact hlt
        obtain ⟨b, off, ha, h1, h2⟩ := HE.out.old hbr k hkl
        have hbw := hbr.alloc hbr.size (.cells #[.string l[k].1, .string l[k].2] 67)
        cases he : eqS l[k].1 s
        · have HO := Lib.hid (ho.out.next hkl he)
          have he2 : (l[k].1.toList == s.toList) = false := he
          clear he ho
          generalize l[k] = x at *
          subst ha
          go_wp2
          go_roundw
          case rel => exact ⟨k + 1, by go_num, by omega, HO.out, hbw⟩
          case measure => simp [intOf]; omega
        · have E := Lib.hid (elT_some HV.out (ho.out.hit hkl he))
          have he2 : (l[k].1.toList == s.toList) = true := he
          clear he ho
          generalize l[k] = x at *
          subst ha
          go_wp2
          go_ret2
          exact ⟨ret_opt E.out, hbw⟩
      · have E := Lib.hid (elT_none (ho.out.done (by rw [HN.out]; omega)))
        go_wp2
        go_ret2
        exact ⟨ret_non E.out, hbr⟩

set_option maxHeartbeats 1000000 in
theorem spec_elementText (a : Option Addr) (n cap : Nat) (l : List El) (s : ByteArray) (w : World) (h : ElAt w a l) (hn : l.length = n) (hm : n ≤ maxLen) (hs : ∀ e ∈ l, e.1.size ≤ maxLen ∧ e.2.size ≤ maxLen) :
    Calls Tryd.prog 63 #[.slice a n cap, .string s] w fun e w' => e = .returned (strOpt (elT l s)) ∧ w = w' := by
  have c0 := Lib.hid (spec_elementsValid a n cap l w h hn hm hs)
  unfold maxLen at hm
  have HN := Lib.hid hn
  have HE := Lib.hid h
  clear hn h hs
  cases hv : elsV l
  · rw [hv] at c0
    have E := Lib.hid (elT_bad s hv)
    clear hv
    go_enter Tryd.func63, Tryd.ntmps63
    go_wp2
    go_loop [6] (fun i => i = .int .i64 0) (fun _ => 0)
    case atStart => rfl
    case round =>
      obtain rfl := hrel
      by_cases h0 : 0 < n
      · go_wp2_with fail
        refine c0.out.mono ?_
        rintro e w' ⟨rfl, rfl⟩
        go_wp2
        go_ret2
        exact ⟨ret_non E.out, rfl⟩
      · go_wp2
        go_ret2
        exact ⟨ret_non E.out, rfl⟩
  · rw [hv] at c0
    have HV := Lib.hid hv
    clear hv
    go_enter Tryd.func63, Tryd.ntmps63
    go_wp2
    go_loop [6] (fun i => ∃ k : Nat, i = .int .i64 k ∧ k ≤ n ∧ Hid (EtTo l s k)) (fun i => n - (intOf i).toNat)
    case atStart => exact ⟨0, rfl, by omega, EtTo.zero l s⟩
    case round =>
      obtain ⟨k, rfl, hk, ho⟩ := hrel
      by_cases hlt : k < n
      · have hkl : k < l.length := by rw [HN.out]; exact hlt
        obtain ⟨b, off, ha, h1, h2⟩ := HE.out k hkl
        cases he : eqS l[k].1 s
        · have HO := Lib.hid (ho.out.next hkl he)
          have he2 : (l[k].1.toList == s.toList) = false := he
          clear he ho
          generalize l[k] = x at *
          subst ha
          go_wp2_with fail
          refine c0.out.mono ?_
          rintro e w' ⟨rfl, rfl⟩
          go_wp2
          go_round
          case rel => exact ⟨k + 1, by go_num, by omega, HO.out⟩
          case measure => simp [intOf]; omega
        · have E := Lib.hid (elT_some HV.out (ho.out.hit hkl he))
          have he2 : (l[k].1.toList == s.toList) = true := he
          clear he ho
          generalize l[k] = x at *
          subst ha
          go_wp2_with fail
          refine c0.out.mono ?_
          rintro e w' ⟨rfl, rfl⟩
          go_wp2
          go_ret2
          exact ⟨ret_opt E.out, rfl⟩
      · have E := Lib.hid (elT_none (ho.out.done (by rw [HN.out]; omega)))
        go_wp2
        go_ret2
        exact ⟨ret_non E.out, rfl⟩
end Go.Proofs.YtldllhfadihmeaaDoor
