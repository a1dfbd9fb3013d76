/- firstElement of the program reads the beginning of a text of elements. -/
import Derived.Test.YtldllhfadihmeaaDoorFstE
import Derived.Test.YtldllhfadihmeaaDoorUnescW
import Derived.Test.YtldllhfadihmeaaDoorStr
import Derived.Test.YtldllhfadihmeaaDoorPre
namespace Go.Proofs.YtldllhfadihmeaaDoor
open Go.RowKit

/-- What firstElement leaves behind. -/
def FirstElPost (s : ByteArray) (w : World) (e : Ending) (w' : World) : Prop :=
  (∃ (x : El) (n : Nat), e = .returned (.tuple #[.agg #[.string x.1, .string x.2], .int .i64 (n : Int)]) ∧ FirstE s.data.toList x n) ∧ Below w.heap.size w w'
theorem mid_part {s : ByteArray} {a b c : List UInt8} (h : s.data.toList = a ++ (b ++ c)) : (s.extract a.length (a.length + b.length)).data.toList = b := by
  rw [Lib.extract_data, h, List.drop_left, Nat.add_sub_cancel_left, List.take_left]

set_option maxHeartbeats 4000000 in
theorem impl_firstElement (s : ByteArray) (w : World) (h0 : 0 < s.size) (hs : s.size ≤ 1000000000) (hE : EscAt w) :
    Calls Tryd.prog 79 #[.string s] w (FirstElPost s w) := by
  have hres : Tryd.f79.results = #[.cell 2 67, .tmp 3] := by kernel_rfl
  have hbw : Below w.heap.size w (w.alloc (.cells #[.string ⟨#[]⟩, .string ⟨#[]⟩] 67)) := (Below.refl _ _).alloc (Nat.le_refl _) _
  have HX : Hid (EscAt (w.alloc (.cells #[.string ⟨#[]⟩, .string ⟨#[]⟩] 67))) := hE.old hbw
  clear hE
  by_cases hc : s[0].toNat = 60
  · have hb : ((s[0].toNat : Int) != 60) = false := by rw [bne_eq_false_iff_eq]; omega
    have hl := head_is h0 hc
    clear hc
    have c1 := Lib.hid (fun w => indexByte_any s 62 w)
    rw [show (62 : Int).toNat.toUInt8 = 62 from rfl] at c1
    rcases indexB s.data.toList 62 with ⟨k1, k2⟩ | ⟨A, b, k1, k2, k3⟩
    · rw [k1] at c1
      have E := Lib.hid (noE_gt k2)
      clear k1 k2 hl
      go_enter Tryd.func79, Tryd.ntmps79
      go_wp2_with fail
      refine (c1.out _).mono ?_
      rintro e w' ⟨rfl, rfl⟩
      go_wp2
      refine bodyPost_ret (v := .tuple #[.agg #[.string ⟨#[]⟩, .string ⟨#[]⟩], .int .i64 0]) ?_ rfl ⟨⟨(⟨#[]⟩, ⟨#[]⟩), 0, rfl, .inl ⟨rfl, E.out⟩⟩, hbw⟩
      simp only [results, hres]
      go_simp
    · obtain ⟨a, rfl⟩ : ∃ a, A = 60 :: a := by
        rw [hl] at k1
        cases A with
        | nil => simp at k1
        | cons x a => simp at k1; exact ⟨a, by rw [k1.1]⟩
      have k2' : 62 ∉ a := fun e => k2 (List.mem_cons_of_mem _ e)
      have ks : s.data.toList = 60 :: (a ++ 62 :: b) := by rw [k1]; rfl
      obtain ⟨n, hn⟩ : ∃ n, n = a.length + 1 := ⟨_, rfl⟩
      rw [k3, show (((60 : UInt8) :: a).length) = n from by rw [hn]; rfl] at c1
      have hna : (s.extract 1 n).data.toList = a := by
        have := mid_part (s := s) (a := ([60] : List UInt8)) (b := a) (c := 62 :: b) (by rw [ks]; rfl)
        rwa [show ([60] : List UInt8).length + a.length = n from by rw [hn]; simp; omega] at this
      have hnb : (s.extract n s.size).data.toList = 62 :: b := by
        have := drop_part (s := s) (a := 60 :: a) (b := 62 :: b) (by rw [ks]; rfl)
        rwa [show ((60 : UInt8) :: a).length = n from by rw [hn]; rfl] at this
      have hsz : s.size = n + 1 + b.length := by
        have := congrArg List.length ks
        rw [size_toList] at this; rw [this, hn]; simp; omega
      have hnlt : n < s.size := by omega
      have hn1 : 1 ≤ n := by omega
      have hxz : (s.extract 1 n).size = n - 1 := by rw [ByteArray.size_extract]; omega
      have c2 := Lib.hid (fun w => impl_wordValid (s.extract 1 n) w (by rw [hxz]; unfold maxLen; omega))
      have c3 := Lib.hid (fun w => indexByte_any (s.extract n s.size) 60 w)
      rw [hna] at c2
      rw [hnb, show (60 : Int).toNat.toUInt8 = 60 from rfl] at c3
      cases hw : wordV a
      · rw [hw] at c2
        have E := Lib.hid (noE_word ks k2' hw)
        clear k1 k2 k2' k3 ks hn hna hnb hsz hw c3 hl
        go_enter Tryd.func79, Tryd.ntmps79
        go_wp2_with fail
        refine (c1.out _).mono ?_
        rintro e w' ⟨rfl, rfl⟩
        go_wp2_with fail
        refine (c2.out _).mono ?_
        rintro e w' ⟨rfl, rfl⟩
        go_wp2
        refine bodyPost_ret (v := .tuple #[.agg #[.string ⟨#[]⟩, .string ⟨#[]⟩], .int .i64 0]) ?_ rfl ⟨⟨(⟨#[]⟩, ⟨#[]⟩), 0, rfl, .inl ⟨rfl, E.out⟩⟩, hbw⟩
        simp only [results, hres]
        go_simp
      · rw [hw] at c2
        rcases indexB (62 :: b) 60 with ⟨m1, m2⟩ | ⟨C, d, m1, m2, m3⟩
        · rw [m1] at c3
          have E := Lib.hid (noE_lt ks k2' (fun e => m2 (List.mem_cons_of_mem _ e)))
          clear k1 k2 k2' k3 ks hn hna hnb hsz hw hl m1 m2
          go_enter Tryd.func79, Tryd.ntmps79
          go_wp2_with fail
          refine (c1.out _).mono ?_
          rintro e w' ⟨rfl, rfl⟩
          go_wp2_with fail
          refine (c2.out _).mono ?_
          rintro e w' ⟨rfl, rfl⟩
          go_wp2_with fail
          refine (c3.out _).mono ?_
          rintro e w' ⟨rfl, rfl⟩
          go_wp2
          refine bodyPost_ret (v := .tuple #[.agg #[.string ⟨#[]⟩, .string ⟨#[]⟩], .int .i64 0]) ?_ rfl ⟨⟨(⟨#[]⟩, ⟨#[]⟩), 0, rfl, .inl ⟨rfl, E.out⟩⟩, hbw⟩
          simp only [results, hres]
          go_simp
        · obtain ⟨c, rfl⟩ : ∃ c, C = 62 :: c := by
            cases C with
            | nil => simp at m1
            | cons x c => simp at m1; exact ⟨c, by rw [m1.1]⟩
          have m2' : 60 ∉ c := fun e => m2 (List.mem_cons_of_mem _ e)
          have mb : b = c ++ 60 :: d := by simpa using m1
          obtain ⟨i, hi⟩ : ∃ i, i = c.length + 1 := ⟨_, rfl⟩
          rw [m3, show (((62 : UInt8) :: c).length) = i from by rw [hi]; rfl] at c3
          have hcx : (s.extract (n + 1) (n + i)).data.toList = c := by
            have := mid_part (s := s) (a := 60 :: (a ++ [62])) (b := c) (c := 60 :: d) (by rw [ks, mb]; simp)
            rwa [show ((60 : UInt8) :: (a ++ [62])).length = n + 1 from by rw [hn]; simp, show n + 1 + c.length = n + i from by omega] at this
          have hdx : (s.extract (n + i) s.size).data.toList = 60 :: d := by
            have := drop_part (s := s) (a := 60 :: (a ++ 62 :: c)) (b := 60 :: d) (by rw [ks, mb]; simp)
            rwa [show ((60 : UInt8) :: (a ++ 62 :: c)).length = n + i from by rw [hn, hi]; simp; omega] at this
          have hsz2 : n + i < s.size := by
            rw [mb] at hsz; simp at hsz; omega
          have hi1 : 1 ≤ i := by omega
          have hcz : (s.extract (n + 1) (n + i)).size = i - 1 := by rw [ByteArray.size_extract]; omega
          have c4 := Lib.hid (fun w h => impl_unescapeText (s.extract (n + 1) (n + i)) w (by rw [hcz]; unfold maxLen; omega) h)
          rw [hcx] at c4
          have q1 : (⟨#[60, 47]⟩ : ByteArray).size = 2 := rfl
          have q2 : (⟨#[62]⟩ : ByteArray).size = 1 := rfl
          have hu0 : unE c = none ∨ ∃ t, unE c = some t := by
            cases unE c with
            | none => exact .inl rfl
            | some t => exact .inr ⟨t, rfl⟩
          rcases hu0 with hu | ⟨t, hu⟩
          · rw [unB_none hu] at c4
            unfold strOpt at c4
            have E := Lib.hid (noE_text ks k2' mb m2' hu)
            clear k1 k2 k2' k3 ks hn hna hnb hsz hw hl m1 m2 m2' m3 mb hi hcx hdx hu hcz
            go_enter Tryd.func79, Tryd.ntmps79
            go_wp2_with fail
            refine (c1.out _).mono ?_
            rintro e w' ⟨rfl, rfl⟩
            go_wp2_with fail
            refine (c2.out _).mono ?_
            rintro e w' ⟨rfl, rfl⟩
            go_wp2_with fail
            refine (c3.out _).mono ?_
            rintro e w' ⟨rfl, rfl⟩
            go_wp2_with fail
            refine (c4.out _ HX.out).mono ?_
            rintro e w2 ⟨rfl, hb2⟩
            have hbz := hbw.trans (hb2.mono hbw.size)
            have g0 : w2.cell? ⟨w.heap.size, 0, none⟩ = some (.string ⟨#[]⟩) := (hb2.cell (p := ⟨w.heap.size, 0, none⟩) (by simp)).trans (by go_simp)
            have g1 : w2.cell? ⟨w.heap.size, 1, none⟩ = some (.string ⟨#[]⟩) := (hb2.cell (p := ⟨w.heap.size, 1, none⟩) (by simp)).trans (by go_simp)
            have f0 : w2.frozen? ⟨w.heap.size, 0, none⟩ = false := (hb2.frozen (p := ⟨w.heap.size, 0, none⟩) (by simp)).trans (by go_simp)
            have f1 : w2.frozen? ⟨w.heap.size, 1, none⟩ = false := (hb2.frozen (p := ⟨w.heap.size, 1, none⟩) (by simp)).trans (by go_simp)
            go_wp2
            refine bodyPost_ret (v := .tuple #[.agg #[.string ⟨#[]⟩, .string ⟨#[]⟩], .int .i64 0]) ?_ rfl ⟨⟨(⟨#[]⟩, ⟨#[]⟩), 0, rfl, .inl ⟨rfl, E.out⟩⟩, (hbz.setCell (Nat.le_refl _) _).setCell (Nat.le_refl _) _⟩
            simp only [results, hres]
            go_simp
          · rw [unB_some hu] at c4
            unfold strOpt at c4
            obtain ⟨tb, htb⟩ : ∃ tb : ByteArray, tb = ⟨t.toArray⟩ := ⟨_, rfl⟩
            have htl : tb.data.toList = t := by rw [htb]
            rw [← htb] at c4
            obtain ⟨cl, hcl⟩ : ∃ cl : ByteArray, cl = (⟨#[60, 47]⟩ : ByteArray) ++ s.extract 1 n ++ ⟨#[62]⟩ := ⟨_, rfl⟩
            have hcll : cl.data.toList = 60 :: 47 :: (a ++ [62]) := by rw [hcl, ba_app, ba_app, hna]; simp
            have hclz : cl.size = n + 2 := by rw [← size_toList, hcll, hn]; simp
            have q3 : (s.extract (n + i) s.size).size = s.size - (n + i) := by rw [ByteArray.size_extract]; omega
            have c5 := Lib.hid (fun w => hasPrefix_any (s.extract (n + i) s.size) cl w (by rw [q3]; unfold maxLen; omega) (by rw [hclz]; unfold maxLen; omega))
            cases hp : hasP (s.extract (n + i) s.size) cl
            · rw [hp] at c5
              have E := Lib.hid (noE_close ks k2' mb m2' (by rw [← hdx, ← hcll, ← hasP_iff, hp]; decide))
              rw [hcl] at c5
              clear k1 k2 k2' k3 ks hn hna hnb hsz hw hl m1 m2 m2' m3 mb hi hcx hdx hu hcz hp hcl hcll hclz htb htl
              go_enter Tryd.func79, Tryd.ntmps79
              go_wp2_with fail
              refine (c1.out _).mono ?_
              rintro e w' ⟨rfl, rfl⟩
              go_wp2_with fail
              refine (c2.out _).mono ?_
              rintro e w' ⟨rfl, rfl⟩
              go_wp2_with fail
              refine (c3.out _).mono ?_
              rintro e w' ⟨rfl, rfl⟩
              go_wp2_with fail
              refine (c4.out _ HX.out).mono ?_
              rintro e w2 ⟨rfl, hb2⟩
              have hbz := hbw.trans (hb2.mono hbw.size)
              have g0 : w2.cell? ⟨w.heap.size, 0, none⟩ = some (.string ⟨#[]⟩) := (hb2.cell (p := ⟨w.heap.size, 0, none⟩) (by simp)).trans (by go_simp)
              have g1 : w2.cell? ⟨w.heap.size, 1, none⟩ = some (.string ⟨#[]⟩) := (hb2.cell (p := ⟨w.heap.size, 1, none⟩) (by simp)).trans (by go_simp)
              have f0 : w2.frozen? ⟨w.heap.size, 0, none⟩ = false := (hb2.frozen (p := ⟨w.heap.size, 0, none⟩) (by simp)).trans (by go_simp)
              have f1 : w2.frozen? ⟨w.heap.size, 1, none⟩ = false := (hb2.frozen (p := ⟨w.heap.size, 1, none⟩) (by simp)).trans (by go_simp)
              go_wp2_with fail
              refine (c5.out _).mono ?_
              rintro e w' ⟨rfl, rfl⟩
              go_wp2
              refine bodyPost_ret (v := .tuple #[.agg #[.string ⟨#[]⟩, .string ⟨#[]⟩], .int .i64 0]) ?_ rfl ⟨⟨(⟨#[]⟩, ⟨#[]⟩), 0, rfl, .inl ⟨rfl, E.out⟩⟩, (hbz.setCell (Nat.le_refl _) _).setCell (Nat.le_refl _) _⟩
              simp only [results, hres]
              go_simp
            · rw [hp] at c5
              have hp2 : 60 :: 47 :: (a ++ [62]) <+: 60 :: d := by rw [← hdx, ← hcll, ← hasP_iff, hp]
              have V := isE ks mb hu hw hp2 (f := (s.extract 1 n, tb)) hna htl
              have hz : n + i + (n + 2) = (elL (s.extract 1 n, tb)).length := by rw [V.2.2]; omega
              have hle : n + i + (n + 2) ≤ s.size := by rw [hz, ← size_toList]; exact V.2.1.length_le
              have E := Lib.hid (show FirstE s.data.toList (s.extract 1 n, tb) (n + i + (n + 2)) from .inr ⟨V.1, hz, V.2.1⟩)
              have V := 0
              have q4 : ((⟨#[60, 47]⟩ : ByteArray) ++ s.extract 1 n ++ ⟨#[62]⟩).size = n + 2 := by rw [← hcl]; exact hclz
              rw [hcl] at c5
              clear k1 k2 k2' k3 ks hn hna hnb hsz hw hl m1 m2 m2' m3 mb hi hcx hdx hu hcz hp hp2 hcl hcll hclz htb htl V hz
              go_enter Tryd.func79, Tryd.ntmps79
              go_wp2_with fail
              refine (c1.out _).mono ?_
              rintro e w' ⟨rfl, rfl⟩
              go_wp2_with fail
              refine (c2.out _).mono ?_
              rintro e w' ⟨rfl, rfl⟩
              go_wp2_with fail
              refine (c3.out _).mono ?_
              rintro e w' ⟨rfl, rfl⟩
              go_wp2_with fail
              refine (c4.out _ HX.out).mono ?_
              rintro e w2 ⟨rfl, hb2⟩
              have hbz := hbw.trans (hb2.mono hbw.size)
              have g0 : w2.cell? ⟨w.heap.size, 0, none⟩ = some (.string ⟨#[]⟩) := (hb2.cell (p := ⟨w.heap.size, 0, none⟩) (by simp)).trans (by go_simp)
              have g1 : w2.cell? ⟨w.heap.size, 1, none⟩ = some (.string ⟨#[]⟩) := (hb2.cell (p := ⟨w.heap.size, 1, none⟩) (by simp)).trans (by go_simp)
              have f0 : w2.frozen? ⟨w.heap.size, 0, none⟩ = false := (hb2.frozen (p := ⟨w.heap.size, 0, none⟩) (by simp)).trans (by go_simp)
              have f1 : w2.frozen? ⟨w.heap.size, 1, none⟩ = false := (hb2.frozen (p := ⟨w.heap.size, 1, none⟩) (by simp)).trans (by go_simp)
              go_wp2_with fail
              refine (c5.out _).mono ?_
              rintro e w' ⟨rfl, rfl⟩
              go_wp2
              refine bodyPost_ret (v := .tuple #[.agg #[.string (s.extract 1 n), .string tb], .int .i64 ((n + i + (n + 2) : Nat) : Int)]) ?_ rfl ⟨⟨(s.extract 1 n, tb), _, rfl, E.out⟩, (hbz.setCell (Nat.le_refl _) _).setCell (Nat.le_refl _) _⟩
              simp only [results, hres]
              go_simp
  · have hb : ((s[0].toNat : Int) != 60) = true := by rw [bne_iff_ne]; omega
    have E := Lib.hid (noE_head (head_not h0 hc))
    clear hc
    go_enter Tryd.func79, Tryd.ntmps79
    go_wp2
    refine bodyPost_ret (v := .tuple #[.agg #[.string ⟨#[]⟩, .string ⟨#[]⟩], .int .i64 0]) ?_ rfl ⟨⟨(⟨#[]⟩, ⟨#[]⟩), 0, rfl, .inl ⟨rfl, E.out⟩⟩, hbw⟩
    simp only [results, hres]
    go_simp
end Go.Proofs.YtldllhfadihmeaaDoor
