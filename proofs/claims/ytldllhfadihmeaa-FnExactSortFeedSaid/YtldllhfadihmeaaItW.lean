/- ItemValid, the program's and the reference's, computes itV; rows of items in memory. -/
import Derived.Test.YtldllhfadihmeaaItem
import Derived.Test.YtldllhfadihmeaaText
import Derived.Test.YtldllhfadihmeaaBytes
import Derived.Test.YtldllhfadihmeaaDateW
import Derived.Test.YtldllhfadihmeaaDateS
namespace Go.Proofs.Ytldllhfadihmeaa
open Go.RowKit

theorem itV_eq (i : It) : itV i = (wordV i.key.data.toList && (textV i.title.data.toList && (!i.title.toList.isEmpty && (textV i.body.data.toList && inB i.day 0 1460969)))) := by
  unfold itV
  rw [ByteArray.toList_eq]
  cases wordV i.key.data.toList <;> cases textV i.title.data.toList <;> cases i.title.data.toList.isEmpty <;> cases textV i.body.data.toList <;> rfl

set_option maxHeartbeats 1000000 in
theorem impl_itemValid (i : It) (w : World) (h1 : i.key.size ≤ maxLen) (h2 : i.title.size ≤ maxLen) (h3 : i.body.size ≤ maxLen) :
    Calls Try.prog 25 #[.agg #[.string i.key, .string i.title, .string i.body, .int .i64 i.day]] w fun e w' => e = .returned (.bool (itV i)) ∧ Below w.heap.size w w' := by
  have hbx : Below w.heap.size w (w.alloc (.cells #[.string i.key, .string i.title, .string i.body, .int .i64 i.day] 34)) := (Below.refl _ _).alloc (Nat.le_refl _) _
  have c1 := Lib.hid (fun w => impl_wordValid i.key w h1)
  have c2 := Lib.hid (fun w => impl_textValid i.title w h2)
  have c3 := Lib.hid (fun w => impl_textValid i.body w h3)
  have c4 := Lib.hid (fun w => impl_dateText i.day w)
  obtain ⟨D, hD⟩ : ∃ D : ByteArray, D = ⟨(dateT i.day).toArray⟩ := ⟨_, rfl⟩
  have hd : D.toList.isEmpty = !inB i.day 0 1460969 := by rw [ByteArray.toList_eq, hD]; exact itV_day i.day
  have E := Lib.hid (itV_eq i)
  rw [← hD] at c4
  clear h1 h2 h3 hD
  generalize wordV i.key.data.toList = b1 at *
  generalize textV i.title.data.toList = b2 at *
  generalize textV i.body.data.toList = b3 at *
  generalize inB i.day 0 1460969 = b4 at *
  cases b1
  · have E : Hid (itV i = false) := by rw [E.out]; rfl
    clear hd
    go_enter Try.func25, Try.ntmps25
    go_wp2_with fail
    refine (c1.out _).mono ?_
    rintro e w' ⟨rfl, rfl⟩
    go_wp2
    go_ret
    exact ⟨ret_bool E.out.symm, hbx⟩
  · cases b2
    · have E : Hid (itV i = false) := by rw [E.out]; rfl
      clear hd
      go_enter Try.func25, Try.ntmps25
      go_wp2_with fail
      refine (c1.out _).mono ?_
      rintro e w' ⟨rfl, rfl⟩
      go_wp2_with fail
      refine (c2.out _).mono ?_
      rintro e w' ⟨rfl, rfl⟩
      go_wp2
      go_ret
      exact ⟨ret_bool E.out.symm, hbx⟩
    · cases he : i.title.toList.isEmpty
      · rw [he] at E
        cases b3
        · have E : Hid (itV i = false) := by rw [E.out]; rfl
          clear hd
          go_enter Try.func25, Try.ntmps25
          go_wp2_with fail
          refine (c1.out _).mono ?_
          rintro e w' ⟨rfl, rfl⟩
          go_wp2_with fail
          refine (c2.out _).mono ?_
          rintro e w' ⟨rfl, rfl⟩
          go_wp2_with fail
          refine (c3.out _).mono ?_
          rintro e w' ⟨rfl, rfl⟩
          go_wp2
          go_ret
          exact ⟨ret_bool E.out.symm, hbx⟩
        · have E : Hid (itV i = b4) := by rw [E.out]; cases b4 <;> rfl
          have hd4 := Lib.hid hd
          clear hd
          go_enter Try.func25, Try.ntmps25
          go_wp2_with fail
          refine (c1.out _).mono ?_
          rintro e w' ⟨rfl, rfl⟩
          go_wp2_with fail
          refine (c2.out _).mono ?_
          rintro e w' ⟨rfl, rfl⟩
          go_wp2_with fail
          refine (c3.out _).mono ?_
          rintro e w' ⟨rfl, rfl⟩
          go_wp2_with fail
          refine (c4.out _).mono ?_
          rintro e w2 ⟨rfl, hb2⟩
          have hbz := hbx.trans (hb2.mono hbx.size)
          have hd5 := hd4.out
          cases b4
          · have hd6 : D.toList.isEmpty = true := hd5
            clear hd5
            go_wp2
            go_ret
            exact ⟨ret_bool E.out.symm, hbz⟩
          · have hd6 : D.toList.isEmpty = false := hd5
            clear hd5
            go_wp2
            go_ret
            exact ⟨ret_bool E.out.symm, hbz⟩
      · rw [he] at E
        have E : Hid (itV i = false) := by rw [E.out]; cases b3 <;> cases b4 <;> rfl
        clear hd
        go_enter Try.func25, Try.ntmps25
        go_wp2_with fail
        refine (c1.out _).mono ?_
        rintro e w' ⟨rfl, rfl⟩
        go_wp2_with fail
        refine (c2.out _).mono ?_
        rintro e w' ⟨rfl, rfl⟩
        go_wp2
        go_ret
        exact ⟨ret_bool E.out.symm, hbx⟩

set_option maxHeartbeats 1000000 in
theorem spec_itemValid (i : It) (w : World) (h1 : i.key.size ≤ maxLen) (h2 : i.title.size ≤ maxLen) (h3 : i.body.size ≤ maxLen) :
    Calls Try.prog 23 #[.agg #[.string i.key, .string i.title, .string i.body, .int .i64 i.day]] w fun e w' => e = .returned (.bool (itV i)) ∧ Below w.heap.size w w' := by
  have hbx : Below w.heap.size w (w.alloc (.cells #[.string i.key, .string i.title, .string i.body, .int .i64 i.day] 34)) := (Below.refl _ _).alloc (Nat.le_refl _) _
  have c1 := Lib.hid (fun w => spec_wordValid i.key w h1)
  have c2 := Lib.hid (fun w => spec_textValid i.title w h2)
  have c3 := Lib.hid (fun w => spec_textValid i.body w h3)
  have c4 := Lib.hid (fun w => spec_dateText i.day w)
  obtain ⟨D, hD⟩ : ∃ D : ByteArray, D = ⟨(dateT i.day).toArray⟩ := ⟨_, rfl⟩
  have hd : D.toList.isEmpty = !inB i.day 0 1460969 := by rw [ByteArray.toList_eq, hD]; exact itV_day i.day
  have E := Lib.hid (itV_eq i)
  rw [← hD] at c4
  clear h1 h2 h3 hD
  generalize wordV i.key.data.toList = b1 at *
  generalize textV i.title.data.toList = b2 at *
  generalize textV i.body.data.toList = b3 at *
  generalize inB i.day 0 1460969 = b4 at *
  cases b1
  · have E : Hid (itV i = false) := by rw [E.out]; rfl
    clear hd
    go_enter Try.func23, Try.ntmps23
    go_wp2_with fail
    refine (c1.out _).mono ?_
    rintro e w' ⟨rfl, rfl⟩
    go_wp2
    go_ret
    exact ⟨ret_bool E.out.symm, hbx⟩
  · cases b2
    · have E : Hid (itV i = false) := by rw [E.out]; rfl
      clear hd
      go_enter Try.func23, Try.ntmps23
      go_wp2_with fail
      refine (c1.out _).mono ?_
      rintro e w' ⟨rfl, rfl⟩
      go_wp2_with fail
      refine (c2.out _).mono ?_
      rintro e w' ⟨rfl, rfl⟩
      go_wp2
      go_ret
      exact ⟨ret_bool E.out.symm, hbx⟩
    · cases he : i.title.toList.isEmpty
      · rw [he] at E
        cases b3
        · have E : Hid (itV i = false) := by rw [E.out]; rfl
          clear hd
          go_enter Try.func23, Try.ntmps23
          go_wp2_with fail
          refine (c1.out _).mono ?_
          rintro e w' ⟨rfl, rfl⟩
          go_wp2_with fail
          refine (c2.out _).mono ?_
          rintro e w' ⟨rfl, rfl⟩
          go_wp2_with fail
          refine (c3.out _).mono ?_
          rintro e w' ⟨rfl, rfl⟩
          go_wp2
          go_ret
          exact ⟨ret_bool E.out.symm, hbx⟩
        · have E : Hid (itV i = b4) := by rw [E.out]; cases b4 <;> rfl
          have hd4 := Lib.hid hd
          clear hd
          go_enter Try.func23, Try.ntmps23
          go_wp2_with fail
          refine (c1.out _).mono ?_
          rintro e w' ⟨rfl, rfl⟩
          go_wp2_with fail
          refine (c2.out _).mono ?_
          rintro e w' ⟨rfl, rfl⟩
          go_wp2_with fail
          refine (c3.out _).mono ?_
          rintro e w' ⟨rfl, rfl⟩
          go_wp2_with fail
          refine (c4.out _).mono ?_
          rintro e w2 ⟨rfl, hb2⟩
          have hbz := hbx.trans (hb2.mono hbx.size)
          have hd5 := hd4.out
          cases b4
          · have hd6 : D.toList.isEmpty = true := hd5
            clear hd5
            go_wp2
            go_ret
            exact ⟨ret_bool E.out.symm, hbz⟩
          · have hd6 : D.toList.isEmpty = false := hd5
            clear hd5
            go_wp2
            go_ret
            exact ⟨ret_bool E.out.symm, hbz⟩
      · rw [he] at E
        have E : Hid (itV i = false) := by rw [E.out]; cases b3 <;> cases b4 <;> rfl
        clear hd
        go_enter Try.func23, Try.ntmps23
        go_wp2_with fail
        refine (c1.out _).mono ?_
        rintro e w' ⟨rfl, rfl⟩
        go_wp2_with fail
        refine (c2.out _).mono ?_
        rintro e w' ⟨rfl, rfl⟩
        go_wp2
        go_ret
        exact ⟨ret_bool E.out.symm, hbx⟩

/-- A row of items in memory. -/
def ItAt (w : World) (a : Option Addr) (l : List It) : Prop :=
  ∀ k (h : k < l.length), ∃ b off, a = some ⟨b, off, none⟩ ∧ w.cell? ⟨b, off + k * 4, none⟩ = some (.string l[k].key) ∧ w.cell? ⟨b, off + k * 4 + 1, none⟩ = some (.string l[k].title) ∧ w.cell? ⟨b, off + k * 4 + 2, none⟩ = some (.string l[k].body) ∧ w.cell? ⟨b, off + k * 4 + 3, none⟩ = some (.int .i64 l[k].day)
theorem ItAt.nil (w : World) (a : Option Addr) : ItAt w a [] := fun k h => by simp at h
theorem cell_lt' {w : World} {b o : Nat} {v : Value} (h : w.cell? ⟨b, o, none⟩ = some v) : b < w.heap.size := by
  by_cases hb : b < w.heap.size
  · exact hb
  · exfalso
    have : w.heap[b]? = none := Array.getElem?_eq_none (by omega)
    unfold World.cell? at h
    rw [this] at h
    cases h
theorem ItAt.old {w w' : World} {a : Option Addr} {l : List It} (h : ItAt w a l) (hb : Below w.heap.size w w') : ItAt w' a l := fun k hk => by
  obtain ⟨b, off, ha, h1, h2, h3, h4⟩ := h k hk
  have hlt := cell_lt' h1
  exact ⟨b, off, ha, (hb.cell (p := ⟨b, off + k * 4, none⟩) hlt).trans h1, (hb.cell (p := ⟨b, off + k * 4 + 1, none⟩) hlt).trans h2, (hb.cell (p := ⟨b, off + k * 4 + 2, none⟩) hlt).trans h3, (hb.cell (p := ⟨b, off + k * 4 + 3, none⟩) hlt).trans h4⟩
end Go.Proofs.Ytldllhfadihmeaa
