/- UnescapeText of the program computes unE. -/
import Derived.Test.YtldllhfadihmeaaDoorUnesc
import Derived.Deep.AppendLies
import Derived.WalkSmall
namespace Go.Proofs.YtldllhfadihmeaaDoor
open Go.RowKit

theorem Tryd.infoB : (Tryd.prog.info? 5).map (fun i => (i.zero, i.size, i.bytes)) = some (some (.int .u8 0), 1, 1) := by kernel_rfl
def cellB (l : List UInt8) : List Value := l.map fun z => .int .u8 (z.toNat : Int)
theorem cellB_len (l : List UInt8) : (cellB l).length = l.length := by simp [cellB]
theorem cellB_snoc (l : List UInt8) (c : UInt8) : cellB (l ++ [c]) = cellB l ++ [.int .u8 (c.toNat : Int)] := by simp [cellB]
theorem conv_own {w : World} {base n cap : Nat} {a : Option Addr} {zs : List UInt8} (h : w.ownsRow base 5 1 (.slice a n cap) n (cellB zs)) (hn : zs.length = n) :
    (convert 32 9 (.slice a n cap)).run Tryd.prog w = .ok (.string ⟨zs.toArray⟩) w := by
  cases a with
  | none =>
    rcases h.2 with ⟨e, h0⟩ | ⟨g, c, cur, e, _⟩
    · injection e with _ _ e3
      subst h0; subst e3
      rw [List.length_eq_zero_iff] at hn
      subst hn
      exact conv_nil w
    · injection e with e; cases e
  | some ad =>
    refine conv_list w ad n cap zs hn fun j u hj => ?_
    rcases h.2 with ⟨e, _⟩ | ⟨g, c, cur, e, _⟩
    · injection e with e; cases e
    · injection e with e
      injection e with e
      subst e
      exact h.cells (g := g) rfl j u hj
theorem own_form {w : World} {base t size n : Nat} {v : Value} {xs : List Value} (h : w.ownsRow base t size v n xs) : ∃ a cap, v = .slice a n cap := by
  rcases h.2 with ⟨rfl, rfl⟩ | ⟨g, cap, cur, rfl, _⟩
  · exact ⟨_, _, rfl⟩
  · exact ⟨_, _, rfl⟩
theorem one_cell (w : World) (a : Value) (t : TypeId) : ∀ j u, [a][j]? = some u → (w.alloc (.cells #[a] t)).cell? ((⟨w.heap.size, 0, none⟩ : Addr).add j) = some u := by
  intro j u hj
  match j, hj with
  | 0, hj => simp at hj; subst hj; simp [Addr.add]
  | j + 1, hj => simp at hj

/-- What a round of UnescapeText's loop keeps. -/
def UnTo (s : ByteArray) (k : Nat) (u : List UInt8) : Prop := k ≤ s.size ∧ esc u = s.data.toList.take k ∧ u.all okB = true ∧ u.length ≤ 80
theorem UnTo.zero (s : ByteArray) : UnTo s 0 [] := ⟨by omega, by simp [esc], rfl, by simp⟩
theorem UnTo.whole {s : ByteArray} {k : Nat} {u : List UInt8} (h : UnTo s k u) : s.data.toList = esc u ++ s.data.toList.drop k := by rw [h.2.1, List.take_append_drop]
theorem drop_ne {s : ByteArray} {k : Nat} (hk : k < s.size) : s.data.toList.drop k ≠ [] := by
  intro e
  have := congrArg List.length e
  rw [List.length_drop, size_toList] at this
  simp at this; omega
theorem UnTo.bad {s : ByteArray} {k : Nat} {u : List UInt8} (h : UnTo s k u) (hk : k < s.size) (hf : ∀ d, okB d = true → ¬ escB d <+: s.data.toList.drop k) : unE s.data.toList = none := by
  apply unE_no
  intro t ht e
  obtain ⟨c, rfl, hc⟩ := esc_split (e.trans h.whole)
  have ha := textV_all ht
  rw [List.all_append, Bool.and_eq_true] at ha
  exact first_none hf (drop_ne hk) ha.2 hc
theorem UnTo.full {s : ByteArray} {k : Nat} {u : List UInt8} (h : UnTo s k u) (hk : k < s.size) (hl : u.length = 80) : unE s.data.toList = none := by
  apply unE_no
  intro t ht e
  obtain ⟨c, rfl, hc⟩ := esc_split (e.trans h.whole)
  have h2 := textV_len ht
  rw [List.length_append] at h2
  have : c = [] := List.length_eq_zero_iff.1 (by omega)
  rw [this, esc_nil] at hc
  exact drop_ne hk hc.symm
theorem UnTo.next {s : ByteArray} {k : Nat} {u : List UInt8} {c : UInt8} (h : UnTo s k u) (hc : okB c = true) (hp : escB c <+: s.data.toList.drop k) (hl : u.length < 80) : UnTo s (k + (escB c).length) (u ++ [c]) := by
  obtain ⟨r, hr⟩ := hp
  have hlen := congrArg List.length hr
  rw [List.length_append, List.length_drop, size_toList] at hlen
  have := escB_len c
  refine ⟨by omega, ?_, by rw [List.all_append, h.2.2.1]; simp [hc], by simp; omega⟩
  rw [esc_snoc, h.2.1, List.take_add, ← hr, List.take_left]
theorem UnTo.done {s : ByteArray} {k : Nat} {u : List UInt8} (h : UnTo s k u) (hk : s.size ≤ k) : unE s.data.toList = some u := by
  refine unE_yes (textV_mk h.2.2.2 h.2.2.1) ?_
  rw [h.2.1, List.take_of_length_le (by rw [size_toList]; exact hk)]
/-- The text that an escaped text stands for, as a value. -/
noncomputable def unB (l : List UInt8) : Option ByteArray := (unE l).map fun t => ⟨t.toArray⟩
theorem unB_none {l : List UInt8} (h : unE l = none) : unB l = none := by unfold unB; rw [h]; rfl
theorem unB_some {l t : List UInt8} (h : unE l = some t) : unB l = some ⟨t.toArray⟩ := by unfold unB; rw [h]; rfl
theorem drop_ext (s : ByteArray) (k : Nat) : (s.extract k s.size).data.toList = s.data.toList.drop k := by
  rw [Lib.extract_data]
  exact List.take_of_length_le (by rw [List.length_drop, size_toList]; omega)

set_option maxHeartbeats 2000000 in
theorem impl_unescapeText (s : ByteArray) (w : World) (hs : s.size ≤ maxLen) (hE : EscAt w) :
    Calls Tryd.prog 89 #[.string s] w fun e w' => e = .returned (strOpt (unB s.data.toList)) ∧ Below w.heap.size w w' := by
  obtain ⟨ti, hti, hz0, hz1, hz2⟩ := info_parts Tryd.infoB
  have HE := Lib.hid hE
  clear hE
  unfold maxLen at hs
  go_enter Tryd.func89, Tryd.ntmps89
  go_wp2
  go_loopw [4, 5] (fun o i wr => ∃ (k n cap : Nat) (a : Option Addr) (u : List UInt8), o = .slice a n cap ∧ i = .int .i64 k ∧ k ≤ s.size ∧ n ≤ 80 ∧ u.length = n ∧ Hid (UnTo s k u) ∧ wr.ownsRow w.heap.size 5 1 (.slice a n cap) n (cellB u) ∧ Below w.heap.size w wr) (fun _ i _ => s.size - (intOf i).toNat)
  case atStart => exact ⟨0, 0, 0, none, [], rfl, rfl, by omega, by omega, rfl, UnTo.zero s, World.ownsRow_nil _ _ _ _, Below.refl _ _⟩
  case round =>
    obtain ⟨k, n, cap, a, u, rfl, rfl, hk, hn, hul, ho, hown, hbr⟩ := hrel
    have HU := Lib.hid hul
    clear hul
    by_cases hlt : k < s.size
    · have hxs : (s.extract k s.size).size = s.size - k := by rw [ByteArray.size_extract]; omega
      have c1 := Lib.hid (fun w h => impl_firstByte (s.extract k s.size) w (by rw [hxs]; omega) (by rw [hxs]; unfold maxLen; omega) h)
      have HW := Lib.hid (HE.out.old hbr)
      clear hxs
      go_wp2_with fail
      refine (c1.out _ HW.out).mono ?_
      rintro e w2 ⟨⟨c, m, rfl, hf⟩, hb2⟩
      have hbz := hbr.trans (hb2.mono hbr.size)
      have own2 := hown.kept (below_grown hb2) (by cases (Value.slice a n cap).ownBlock <;> simp)
      rw [drop_ext] at hf
      rcases hf with ⟨rfl, hf⟩ | ⟨hc, hm, hp⟩
      · have E := Lib.hid (unB_none (ho.out.bad hlt hf))
        go_wp2
        go_ret2
        exact ⟨ret_non E.out, hbz⟩
      · have hm1 := escB_len c
        have hb : ((m : Int) == 0) = false := by rw [beq_eq_false_iff_ne]; omega
        have hkm : k + m ≤ s.size := by
          have := hp.length_le
          rw [List.length_drop, size_toList] at this; omega
        by_cases h80 : n = 80
        · have E := Lib.hid (unB_none (ho.out.full hlt (HU.out.trans h80)))
          subst h80
          clear hm hm1 hp
          go_wp2
          go_ret2
          exact ⟨ret_non E.out, hbz⟩
        · have hb80 : ((n : Int) == 80) = false := by rw [beq_eq_false_iff_ne]; omega
          have HO : Hid (UnTo s (k + m) (u ++ [c])) := by
            have := ho.out.next hc hp (by rw [HU.out]; omega)
            rw [← hm] at this; exact this
          have hm2 : 1 ≤ m := by omega
          have hn80 : n < 80 := by omega
          have hc255 : (c.toNat : Int) ≤ 255 := by have := c.toNat_lt; omega
          clear hm hm1 hp h80 ho
          go_wp2_with (at_builtin; refine wpList_append_lies _ rfl _ _ 32 rfl w.heap.size 5 ti _ 1 1 Tryd.underlying32 hti hz0 hz1 hz2 rfl (by decide) _ n (cellB u) rfl (own2.alloc _) ⟨w2.heap.size, 0, none⟩ 1 1 [.int .u8 (c.toNat : Int)] rfl rfl (one_cell _ _ _) (fun x hx => by simp at hx; rw [hx]; rfl) (by omega) (by unfold maxLen; omega) (by omega) (by have := hbz.size; simp; omega) _ rfl ?_; intro q2 cap2 w5 hown5 hgrow5 hat5 hlt5)
          have hbq := Below.grown (hbz.alloc hbz.size _) hgrow5 (by have := hbz.size; simp; omega) (fun j e => (own2.lt j e).1)
          have e1 : ((k + m : Nat) : Int) = (k : Int) + (m : Int) := by omega
          have HO5 := Lib.hid hown5
          clear hown5 hgrow5
          go_wp2
          go_roundw
          case rel => exact ⟨k + m, n + 1, cap2, _, u ++ [c], rfl, by rw [e1], by omega, by omega, by simp [HU.out], HO.out, by rw [cellB_snoc]; exact HO5.out, hbq⟩
          case measure => simp [intOf]; omega
    · have E := Lib.hid (unB_some (ho.out.done (by omega)))
      have hcv := conv_own hown HU.out
      go_wp2
      go_ret2
      exact ⟨ret_opt E.out, hbr⟩
end Go.Proofs.YtldllhfadihmeaaDoor
