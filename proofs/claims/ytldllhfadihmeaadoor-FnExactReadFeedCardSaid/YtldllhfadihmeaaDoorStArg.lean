/- An argument that is a row of texts: szStringS, toStringS. -/
import Derived.Test.YtldllhfadihmeaaDoorStrs
import Derived.Deep.Strs
namespace Go.Proofs.YtldllhfadihmeaaDoor
open Go.RowKit Go.Deep

def StArg (w : World) (a : Option Addr) (len : Nat) (l : List ByteArray) : Prop :=
  StAt w a l ∧ l.length = len ∧ len ≤ maxLen ∧ ∀ s ∈ l, s.size ≤ maxLen
theorem StArg.old {w w' : World} {a : Option Addr} {len : Nat} {l : List ByteArray} (h : StArg w a len l) (hb : Below w.heap.size w w') : StArg w' a len l := ⟨h.1.old hb, h.2⟩
theorem st_arg {H : Type} {enc : TypeId × Value → H} {P : Program} {w : World} {spare : Nat → Bool} {held : Bool} {t e : TypeId} {fuel : Nat} {a : Option Addr} {len cap : Nat} {x : DataW H × List MemPlace}
    (ht : P.underlying t = some (.slice e)) (he : P.underlying e = some .string) (ce : P.cellsOf e = 1)
    (h : DataW.trod enc P w 0 spare held fuel t [.slice a len cap] = some x) : ∃ l, StArg w a len l := by
  rcases open_strs ht he ce h with ⟨hcs, _⟩ | ⟨y, len', cap', m, Sx, hcs, _, hl, hcap, hm, _, hf⟩
  · simp at hcs
    obtain ⟨rfl, rfl, rfl⟩ := hcs
    exact ⟨[], StAt.nil _ _, rfl, by unfold maxLen; omega, fun e he => by simp at he⟩
  · simp at hcs
    obtain ⟨rfl, rfl, rfl⟩ := hcs
    have hlm : len ≤ m := by rw [hm]; split <;> omega
    refine ⟨(List.range len).map Sx, ?_, by simp, by omega, ?_⟩
    · intro k hk
      simp at hk
      obtain ⟨h0, _⟩ := hf 0 (by omega)
      obtain ⟨hk1, _⟩ := hf k (by omega)
      obtain ⟨b, off, spot⟩ := y
      have hspot : spot = none := by simpa [Addr.add] using World.cell?_spot h0
      subst hspot
      refine ⟨b, off, rfl, ?_⟩
      rw [← Go.WideShapes.add_plain, hk1]; simp
    · intro s hs
      simp at hs
      obtain ⟨i, hi, rfl⟩ := hs
      exact (hf i (by omega)).2

set_option maxHeartbeats 1000000 in
theorem szStringS_gen (a : Option Addr) (n cap : Nat) (l : List ByteArray) (left : Int) (w : World) (l0 : 0 ≤ left) (l1 : left ≤ 1048576) (h : StAt w a l) (hn : l.length = n) (hm : n ≤ maxLen) (hs : ∀ e ∈ l, e.size ≤ maxLen) :
    Calls Tryd.prog 11 #[.slice a n cap, .int .i64 left] w fun e w' => (∃ r : Int, e = .returned (.int .i64 r) ∧ r ≤ 1048576 ∧ (0 ≤ r → n ≤ 1048576 ∧ ∀ e ∈ l, e.size ≤ 1048576)) ∧ Below w.heap.size w w' := by
  unfold maxLen at hm
  have HN := Lib.hid hn
  have HE := Lib.hid h
  have HS := Lib.hid hs
  clear hn h hs
  by_cases hl : left < (n : Int)
  · go_enter Tryd.func11, Tryd.ntmps11
    go_wp2
    go_ret
    exact ⟨⟨_, rfl, by omega, fun h => by omega⟩, Below.refl _ _⟩
  · go_enter Tryd.func11, Tryd.ntmps11
    go_wp2
    go_loopw [1, 5] (fun r i wr => ∃ (k : Nat) (v : Int), r = .int .i64 v ∧ i = .int .i64 k ∧ k ≤ n ∧ 0 ≤ v ∧ v ≤ 1048576 ∧ Hid (∀ e ∈ l.take k, e.size ≤ 1048576) ∧ Below w.heap.size w wr) (fun _ i _ => n - (intOf i).toNat)
    case atStart => exact ⟨0, _, rfl, rfl, by omega, by omega, by omega, fun e he => by simp at he, Below.refl _ _⟩
    case round =>
      obtain ⟨k, v, rfl, rfl, hk, v0, v1, ho, hbr⟩ := hrel
      by_cases hlt : k < n
      · have hkl : k < l.length := by rw [HN.out]; exact hlt
        obtain ⟨b, off, ha, h1⟩ := HE.out.old hbr k hkl
        have hz1 := HS.out _ (List.getElem_mem hkl)
        unfold maxLen at hz1
        have HT : Hid (∀ x : ByteArray, x = l[k] → x.size ≤ 1048576 → ∀ e ∈ l.take (k + 1), e.size ≤ 1048576) := by
          intro x hx hx1 e he
          rw [List.take_succ_eq_append_getElem hkl, ← hx, List.mem_append, List.mem_singleton] at he
          rcases he with he | rfl
          · exact ho.out e he
          · exact hx1
        obtain ⟨x, hx⟩ : ∃ x, x = l[k] := ⟨_, rfl⟩
        have HX := Lib.hid hx
        rw [← hx] at h1 hz1
        clear hx
        subst ha
        by_cases hr : v - (x.size : Int) < 0
        · go_wp2
          go_ret
          exact ⟨⟨_, rfl, by omega, fun h => by omega⟩, hbr⟩
        · have HR := Lib.hid (HT.out x HX.out (by omega))
          go_wp2
          go_roundw
          case rel => exact ⟨k + 1, v - (x.size : Int), rfl, by go_num, by omega, by omega, by omega, HR.out, hbr⟩
          case measure => simp [intOf]; omega
      · have HR : Hid (∀ e ∈ l, e.size ≤ 1048576) := by
          have := ho.out
          rw [List.take_of_length_le (by rw [HN.out]; omega)] at this
          exact this
        go_wp2
        go_ret
        exact ⟨⟨_, rfl, by omega, fun _ => ⟨by omega, HR.out⟩⟩, hbr⟩

/-- A row that is being filled. -/
def FillToS (w : World) (base g n k : Nat) (l : List ByteArray) : Prop :=
  ∃ xs : List Value, w.ownsRow base 9 1 (.slice (some ⟨g, 0, none⟩) n n) n xs ∧ xs.take k = flatS (l.take k)
theorem FillToS.start {w : World} {base g n : Nat} {xs : List Value} (l : List ByteArray) (h : w.ownsRow base 9 1 (.slice (some ⟨g, 0, none⟩) n n) n xs) : FillToS w base g n 0 l := ⟨xs, h, by simp [flatS]⟩
theorem FillToS.cell {w : World} {base g n k : Nat} {l : List ByteArray} (h : FillToS w base g n k l) (hk : k < n) : (∃ u, w.cell? ⟨g, k, none⟩ = some u) ∧ w.frozen? ⟨g, k, none⟩ = false ∧ base ≤ g ∧ g < w.heap.size := by
  obtain ⟨xs, h1, h2⟩ := h
  have hl := h1.lt g rfl
  exact ⟨⟨xs[k]'(by rw [h1.1]; omega), by rw [h1.cellAt _ (by omega), List.getElem?_eq_getElem (by rw [h1.1]; omega)]⟩, h1.frozenAt _, hl.1, hl.2⟩
theorem FillToS.done {w : World} {base g n : Nat} {l : List ByteArray} (h : FillToS w base g n n l) (hn : l.length = n) : w.ownsRow base 9 1 (.slice (some ⟨g, 0, none⟩) n n) n (flatS l) := by
  obtain ⟨xs, h1, h2⟩ := h
  rw [List.take_of_length_le (by rw [h1.1]; omega), List.take_of_length_le (by omega)] at h2
  rwa [h2] at h1
theorem FillToS.next {w : World} {base g n k : Nat} {l : List ByteArray} (h : FillToS w base g n k l) (hk : k < n) (hkl : k < l.length) :
    FillToS (w.setCell ⟨g, k, none⟩ (.string l[k])) base g n (k + 1) l := by
  obtain ⟨xs, h1, h2⟩ := h
  have s1 := h1.stored k (.string l[k])
  refine ⟨_, s1.1, ?_⟩
  rw [List.take_succ_eq_append_getElem (by rw [List.length_set, h1.1]; omega), List.take_set_of_le (Nat.le_refl _), List.getElem_set_self, h2, List.take_succ_eq_append_getElem hkl, flatS_app]
  rfl
theorem Tryd.infoSt : (Tryd.prog.info? 9).map (fun i => (i.zero, i.size, i.bytes)) = some (some (.string ⟨#[]⟩), 1, 16) := by kernel_rfl

set_option maxHeartbeats 1000000 in
theorem toStringS_any (a : Option Addr) (n cap : Nat) (l : List ByteArray) (w : World) (h : StAt w a l) (hn : l.length = n) (hm : n ≤ 1048576) :
    Calls Tryd.prog 13 #[.slice a n cap] w fun e w' => (∃ g, e = .returned (.slice (some ⟨g, 0, none⟩) n n) ∧ w'.ownsRow w.heap.size 9 1 (.slice (some ⟨g, 0, none⟩) n n) n (flatS l)) ∧ Below w.heap.size w w' := by
  obtain ⟨i0, hi, hz0, hz1, hz2⟩ := info_parts Tryd.infoSt
  have HN := Lib.hid hn
  have HE := Lib.hid h
  clear hn h
  go_enter Tryd.func13, Tryd.ntmps13
  go_wp2_with (at_make; refine wpList_make_full _ rfl _ _ 22 rfl w.heap.size 9 i0 _ 1 Tryd.underlying22 hi hz0 hz1 _ _ _ _ n rfl rfl rfl rfl (by rw [hz2]; omega) (by unfold maxLen; omega) (Nat.le_refl _) ?_; intro w1 hown hgrow)
  have HF := Lib.hid (FillToS.start l hown)
  have hb1 := (Below.refl w.heap.size w).grown hgrow (Nat.le_refl _) (fun _ e => by cases e)
  clear hown hgrow
  go_loopw [4] (fun i wr => ∃ k : Nat, i = .int .i64 k ∧ k ≤ n ∧ FillToS wr w.heap.size w.heap.size n k l ∧ Below w.heap.size w wr) (fun i _ => n - (intOf i).toNat)
  case atStart => exact ⟨0, rfl, by omega, HF.out, hb1⟩
  case round =>
    obtain ⟨k, rfl, hk, hf, hbr⟩ := hrel
    by_cases hlt : k < n
    · have hkl : k < l.length := by rw [HN.out]; exact hlt
      obtain ⟨b, off, ha, h1⟩ := HE.out.old hbr k hkl
      have HK := Lib.hid (hf.next hlt hkl)
      obtain ⟨⟨u, hu⟩, fu, hbg, _⟩ := hf.cell hlt
      clear hf
      generalize l[k] = x at *
      subst ha
      have hbz := hbr.setCell (p := ⟨w.heap.size, k, none⟩) (Nat.le_refl _) (.string x)
      go_wp2
      go_roundw
      case rel => exact ⟨k + 1, by go_num, by omega, HK.out, hbz⟩
      case measure => simp [intOf]; omega
    · obtain rfl : k = n := by omega
      have HD := Lib.hid (hf.done HN.out)
      clear hf
      go_wp2
      go_ret
      exact ⟨⟨_, rfl, HD.out⟩, hbr⟩
end Go.Proofs.YtldllhfadihmeaaDoor
