/- The draw of an item. -/
import Derived.Test.YtldllhfadihmeaaDrawDay
import Derived.Test.YtldllhfadihmeaaItR
import Derived.Test.YtldllhfadihmeaaRegInv
namespace Go.Proofs.Ytldllhfadihmeaa
open Go.RowKit

def arrK : Array Value := #[.string ⟨#[107, 49]⟩, .string ⟨#[107, 50]⟩, .string ⟨#[107, 51]⟩, .string ⟨#[107, 52]⟩, .string ⟨#[107, 53]⟩]
def arrT : Array Value := #[.string ⟨#[78, 101, 119, 115]⟩, .string ⟨#[65, 32, 38, 32, 66]⟩, .string ⟨#[116]⟩]
theorem arrK_row : StrRow arrK 100 := by
  intro k hk
  match k, hk with
  | 0, _ => exact ⟨_, rfl, by decide⟩
  | 1, _ => exact ⟨_, rfl, by decide⟩
  | 2, _ => exact ⟨_, rfl, by decide⟩
  | 3, _ => exact ⟨_, rfl, by decide⟩
  | 4, _ => exact ⟨_, rfl, by decide⟩
theorem arrT_row : StrRow arrT 100 := by
  intro k hk
  match k, hk with
  | 0, _ => exact ⟨_, rfl, by decide⟩
  | 1, _ => exact ⟨_, rfl, by decide⟩
  | 2, _ => exact ⟨_, rfl, by decide⟩
/-- An item that a draw gives. -/
def okI (i : It) : Prop := i.key.size ≤ 100 ∧ i.title.size ≤ 100 ∧ i.body.size ≤ 100
/-- What an operation of the draw's region yields. -/
def DiOf (g B j : Nat) (v : Value) (w : World) : Prop :=
  match j with
  | 0 => ∃ b, v = .slice (some ⟨b, 0, none⟩) 5 5 ∧ w.heap[b]? = some (.cells arrK 9 (0, 0)) ∧ B ≤ b
  | 1 => v = .pointer (some ⟨g, 0, none⟩)
  | 2 => ∃ k : Nat, v = .int .i64 k ∧ k < 5
  | 3 => ∃ b k, v = .pointer (some ⟨b, k, none⟩) ∧ k < 5 ∧ w.heap[b]? = some (.cells arrK 9 (0, 0)) ∧ B ≤ b
  | 4 => ∃ s, v = .string s ∧ s.size ≤ 100
  | 5 => ∃ b, v = .slice (some ⟨b, 0, none⟩) 3 3 ∧ w.heap[b]? = some (.cells arrT 9 (0, 0)) ∧ B ≤ b
  | 6 => v = .pointer (some ⟨g, 0, none⟩)
  | 7 => ∃ k : Nat, v = .int .i64 k ∧ k < 3
  | 8 => ∃ b k, v = .pointer (some ⟨b, k, none⟩) ∧ k < 3 ∧ w.heap[b]? = some (.cells arrT 9 (0, 0)) ∧ B ≤ b
  | 9 => ∃ s, v = .string s ∧ s.size ≤ 100
  | 10 => v = .pointer (some ⟨g, 0, none⟩)
  | 11 => ∃ s, v = .string s ∧ s.size ≤ 100
  | 12 => v = .pointer (some ⟨g, 0, none⟩)
  | 13 => ∃ d : Int, v = .int .i64 d
  | 14 => ∃ i : It, v = .agg #[.string i.key, .string i.title, .string i.body, .int .i64 i.day] ∧ okI i
  | 15 => ∃ b c0 c1 c2 c3, v = .pointer (some ⟨b, 0, none⟩) ∧ w.heap[b]? = some (.cells #[c0, c1, c2, c3] 34 (0, 0)) ∧ B ≤ b
  | _ => True
theorem heap_kept {w w' : World} {g b : Nat} {o : Obj} (hg : w.grownBy w' (some g)) (h : w.heap[b]? = some o) (hne : g < b) : w'.heap[b]? = some o :=
  (hg.block _ (Array.getElem?_eq_some_iff.1 h).1 (fun e => by injection e; omega)).trans h
theorem DiOf.kept {g B j : Nat} {v : Value} {w w' : World} (h : DiOf g B j v w) (hg : w.grownBy w' (some g)) (hB : g < B) : DiOf g B j v w' := by
  match j with
  | 0 => obtain ⟨b, h1, h2, h3⟩ := h; exact ⟨b, h1, heap_kept hg h2 (by omega), h3⟩
  | 1 => exact h
  | 2 => exact h
  | 3 => obtain ⟨b, k, h1, h0, h2, h3⟩ := h; exact ⟨b, k, h1, h0, heap_kept hg h2 (by omega), h3⟩
  | 4 => exact h
  | 5 => obtain ⟨b, h1, h2, h3⟩ := h; exact ⟨b, h1, heap_kept hg h2 (by omega), h3⟩
  | 6 => exact h
  | 7 => exact h
  | 8 => obtain ⟨b, k, h1, h0, h2, h3⟩ := h; exact ⟨b, k, h1, h0, heap_kept hg h2 (by omega), h3⟩
  | 9 => exact h
  | 10 => exact h
  | 11 => exact h
  | 12 => exact h
  | 13 => exact h
  | 14 => exact h
  | 15 => obtain ⟨b, c0, c1, c2, c3, h1, h2, h3⟩ := h; exact ⟨b, c0, c1, c2, c3, h1, heap_kept hg h2 (by omega), h3⟩
  | _ + 16 => trivial
/-- The slot of an operation. -/
def slI (j : Nat) : Nat := if j = 15 then 5 else if j = 16 then 99 else j + 6
theorem slI_ne {i j : Nat} (hi : i < 17) (hj : j < 16) (h : j ≠ i) : slI j ≠ slI i := by
  unfold slI
  split <;> split <;> (try split) <;> (try split) <;> omega
/-- The frame in the draw's region. -/
def mkI_act (g : Nat) (n : Int) (b4 : Nat) (u : Nat → Value) : Act :=
  { tmps := #[.pointer (some ⟨g, 0, none⟩), .int .i64 n, undef, undef, .pointer (some ⟨b4, 0, none⟩), u 5, u 6, u 7, u 8, u 9, u 10, u 11, u 12, u 13, u 14, u 15, u 16, u 17, u 18, u 19, u 20, undef, undef, undef, undef, undef, undef, undef, undef, undef, undef, undef, undef, undef, undef, undef, undef, undef, undef, undef, undef, undef, undef, undef, undef, undef, undef, undef, undef, undef, undef], defers := [] }
/-- How much the calls that are listed have read. -/
def cntI (L : Array Bool) : Nat := (if L.getD 2 false = true then 1 else 0) + (if L.getD 7 false = true then 1 else 0) + (if L.getD 11 false = true then 2 else 0) + (if L.getD 13 false = true then 4 else 0)
/-- The invariant of the draw's region. -/
def DiInv (g P b4 B : Nat) (n : Int) (w0 : World) (L : Array Bool) (a : Act) (w : World) : Prop :=
  ∃ u : Nat → Value, a = mkI_act g n b4 u ∧ L.size = 17 ∧ w0.grownBy w (some g) ∧ Rd w g (P + cntI L) ∧
    (L.getD 16 false = false → ∀ j, j < 16 → L.getD j false = true → DiOf g B j (u (slI j)) w) ∧
    (L.getD 16 false = true → (∀ j, j < 17 → L.getD j false = true) ∧ ∃ b i, u 5 = .pointer (some ⟨b, 0, none⟩) ∧ B ≤ b ∧ okI i ∧ w.heap[b]? = some (.cells #[.string i.key, .string i.title, .string i.body, .int .i64 i.day] 34 (0, 0)))
/-- One more operation is listed. -/
theorem DiInv.step {g P b4 B : Nat} {n : Int} {w0 : World} {L : Array Bool} {u : Nat → Value} {w w' : World} {i : Nat} {v : Value} (hB : g < B) (hi : i < 16) (hsz : L.size = 17) (hG : w0.grownBy w (some g)) (h16 : L.getD 16 false = false)
    (hF : ∀ j, j < 16 → L.getD j false = true → DiOf g B j (u (slI j)) w) (hv : DiOf g B i v w') (hg : w.grownBy w' (some g)) (hR : Rd w' g (P + cntI (L.setIfInBounds i true))) :
    DiInv g P b4 B n w0 (L.setIfInBounds i true) (mkI_act g n b4 (fun s => if s = slI i then v else u s)) w' := by
  refine ⟨_, rfl, by simpa using hsz, grown_trans hG hg, hR, fun _ j hj hl => ?_, fun h => ?_⟩
  · by_cases e : j = i
    · subst e
      show DiOf g B j (if slI j = slI j then v else u (slI j)) w'
      rw [if_pos rfl]; exact hv
    · show DiOf g B j (if slI j = slI i then v else u (slI j)) w'
      rw [if_neg (slI_ne (by omega) hj e)]
      rw [getD_set_ne false (Ne.symm e)] at hl
      exact (hF j hj hl).kept hg hB
  · rw [getD_set_ne false (by omega), h16] at h; cases h

theorem getD_not {L : Array Bool} {i : Nat} (hsz : i < L.size) (h : L.getD i true = false) : L.getD i false = false := by
  simp [hsz] at h ⊢
  exact h
theorem cntI_same {L : Array Bool} {i : Nat} (h2 : i ≠ 2) (h7 : i ≠ 7) (h11 : i ≠ 11) (h13 : i ≠ 13) : cntI (L.setIfInBounds i true) = cntI L := by
  unfold cntI
  rw [getD_set_ne false h2, getD_set_ne false h7, getD_set_ne false h11, getD_set_ne false h13]
theorem getD_set_here {L : Array Bool} {i : Nat} (h : i < L.size) : (L.setIfInBounds i true).getD i false = true := by simp [h]
theorem cntI_2 {L : Array Bool} (hsz : L.size = 17) (h : L.getD 2 true = false) : cntI (L.setIfInBounds 2 true) = cntI L + 1 := by
  unfold cntI
  rw [getD_set_here (by omega), getD_set_ne false (by decide : 2 ≠ 7), getD_set_ne false (by decide : 2 ≠ 11), getD_set_ne false (by decide : 2 ≠ 13), getD_not (by omega) h]
  simp; omega
theorem cntI_7 {L : Array Bool} (hsz : L.size = 17) (h : L.getD 7 true = false) : cntI (L.setIfInBounds 7 true) = cntI L + 1 := by
  unfold cntI
  rw [getD_set_here (by omega), getD_set_ne false (by decide : 7 ≠ 2), getD_set_ne false (by decide : 7 ≠ 11), getD_set_ne false (by decide : 7 ≠ 13), getD_not (by omega) h]
  simp; omega
theorem cntI_11 {L : Array Bool} (hsz : L.size = 17) (h : L.getD 11 true = false) : cntI (L.setIfInBounds 11 true) = cntI L + 2 := by
  unfold cntI
  rw [getD_set_here (by omega), getD_set_ne false (by decide : 11 ≠ 2), getD_set_ne false (by decide : 11 ≠ 7), getD_set_ne false (by decide : 11 ≠ 13), getD_not (by omega) h]
  simp; omega
theorem cntI_13 {L : Array Bool} (hsz : L.size = 17) (h : L.getD 13 true = false) : cntI (L.setIfInBounds 13 true) = cntI L + 4 := by
  unfold cntI
  rw [getD_set_here (by omega), getD_set_ne false (by decide : 13 ≠ 2), getD_set_ne false (by decide : 13 ≠ 7), getD_set_ne false (by decide : 13 ≠ 11), getD_not (by omega) h]
  simp
theorem cntI_le (L : Array Bool) : cntI L ≤ 8 := by
  unfold cntI
  repeat' split
  all_goals omega
theorem cntI_zero : cntI (Array.replicate 17 false) = 0 := by decide
theorem cells4 {w : World} {b : Nat} {c0 c1 c2 c3 : Value} {t : TypeId} (h : w.heap[b]? = some (.cells #[c0, c1, c2, c3] t (0, 0))) :
    w.cell? ⟨b, 0, none⟩ = some c0 ∧ w.cell? ⟨b, 1, none⟩ = some c1 ∧ w.cell? ⟨b, 2, none⟩ = some c2 ∧ w.cell? ⟨b, 3, none⟩ = some c3 ∧
    w.frozen? ⟨b, 0, none⟩ = false ∧ w.frozen? ⟨b, 1, none⟩ = false ∧ w.frozen? ⟨b, 2, none⟩ = false ∧ w.frozen? ⟨b, 3, none⟩ = false := by
  refine ⟨?_, ?_, ?_, ?_, ?_, ?_, ?_, ?_⟩ <;> simp [World.cell?, World.frozen?, h]
theorem heap_kept' {w w' : World} {j b : Nat} {o : Obj} (hg : w.grownBy w' (some j)) (h : w.heap[b]? = some o) (hne : ¬ b = j) : w'.heap[b]? = some o :=
  (hg.block _ (Array.getElem?_eq_some_iff.1 h).1 (fun e => by injection e with e; exact hne e)).trans h
theorem grown_ownI {w a b : World} {g : Nat} {row : Option Nat} (h : w.grownBy a (some g)) (k : a.grownBy b row) (hr : ∀ j, row = some j → w.heap.size ≤ j) : w.grownBy b (some g) :=
  ⟨k.os.trans h.os, k.tape.trans h.tape, k.output.trans h.output, Nat.le_trans h.size k.size, fun i hi hne => (k.block i (Nat.lt_of_lt_of_le hi h.size) (fun e => by have := hr i e.symm; omega)).trans (h.block i hi hne)⟩
theorem stored4 {w : World} {b : Nat} {c0 c1 c2 c3 : Value} {t : TypeId} (h : w.heap[b]? = some (.cells #[c0, c1, c2, c3] t (0, 0))) (d0 d1 d2 d3 : Value) :
    ((((w.setCell ⟨b, 0, none⟩ d0).setCell ⟨b, 1, none⟩ d1).setCell ⟨b, 2, none⟩ d2).setCell ⟨b, 3, none⟩ d3).heap[b]? = some (.cells #[d0, d1, d2, d3] t (0, 0)) ∧
    w.grownBy ((((w.setCell ⟨b, 0, none⟩ d0).setCell ⟨b, 1, none⟩ d1).setCell ⟨b, 2, none⟩ d2).setCell ⟨b, 3, none⟩ d3) (some b) := by
  constructor
  · simp [World.setCell, Array.getElem?_modify, h]
  · exact grown_trans (grown_trans (grown_trans (grown_set _ _ _ _) (grown_set _ _ _ _)) (grown_set _ _ _ _)) (grown_set _ _ _ _)

set_option maxRecDepth 100000 in
set_option maxHeartbeats 2000000 in
theorem item_any (g P : Nat) (n : Int) (w : World) (hr : Rd w g P) (hP : P ≤ 800000) (hn : n ≤ 1000000) :
    Calls Try.prog 60 #[.pointer (some ⟨g, 0, none⟩), .int .i64 n] w (fun e w' => (∃ i : It, e = .returned (.agg #[.string i.key, .string i.title, .string i.body, .int .i64 i.day]) ∧ okI i) ∧ Rd w' g (P + 12) ∧ w.grownBy w' (some g)) := by
  have hlt0 := hr.lt
  have hm : Try.prog.follows .mixedOrders = true := by kernel_rfl
  go_enter Try.func60, Try.ntmps60
  go_wp2_with fail
  rename_i K0 hK0
  refine wp_region_inv hm (DiInv g P w.heap.size (w.heap.size + 1) n (w.alloc (.cells #[.string ⟨#[]⟩, .string ⟨#[]⟩, .string ⟨#[]⟩, .int .i64 0] 34))) ?_ ?_ ?_
  · refine ⟨fun _ => undef, rfl, by simp, ⟨rfl, rfl, rfl, Nat.le_refl _, fun _ _ _ => rfl⟩, ?_, fun _ j hj h => ?_, fun h => ?_⟩
    · exact (hr.alloc _).mono (Nat.le_add_right _ _)
    · simp at h
      have : j < 17 := by omega
      simp [this] at h
    · simp at h
  · rintro L a w1 i ⟨u, rfl, hsz, hG, hR, hF, hE⟩ hi K hK
    clear hK0
    rw [mem_ready] at hi
    obtain ⟨h0, o, ho, hd⟩ := hi
    have hi17 : i < 17 := (Array.getElem?_eq_some_iff.1 ho).1
    have h16 : L.getD 16 false = false := by
      cases h : L.getD 16 false
      · rfl
      · have := (hE h).1 i hi17
        have hl : i < L.size := by omega
        simp [hl] at h0 this
        rw [h0] at this; cases this
    have hF' := hF h16
    clear hF hE
    have hF2 : ∀ j, j < 16 → L[j]?.getD false = true → DiOf g (w.heap.size + 1) j (u (slI j)) w1 := fun j hj h => hF' j hj (by simpa using h)
    have hB : g < w.heap.size + 1 := by omega
    have hBs : w.heap.size + 1 ≤ w1.heap.size := by have := hG.size; simpa using this
    have hc8 := cntI_le L
    obtain rfl | rfl | rfl | rfl | rfl | rfl | rfl | rfl | rfl | rfl | rfl | rfl | rfl | rfl | rfl | rfl | rfl : i = 0 ∨ i = 1 ∨ i = 2 ∨ i = 3 ∨ i = 4 ∨ i = 5 ∨ i = 6 ∨ i = 7 ∨ i = 8 ∨ i = 9 ∨ i = 10 ∨ i = 11 ∨ i = 12 ∨ i = 13 ∨ i = 14 ∨ i = 15 ∨ i = 16 := by omega
    · refine wpOp_of ho (by simp at ho; rw [← ho]) ?_
      simp at ho
      subst ho
      simp [Region.binds] at hd
      unfold mkI_act
      go_simp
      exact hK _ _ (DiInv.step (i := 0) (v := .slice (some ⟨w1.heap.size, 0, none⟩) 5 5) hB (by omega) hsz hG h16 hF' ⟨w1.heap.size, rfl, heap_alloc_new _ _, hBs⟩ (World.grownBy_alloc w1 _ (some g)) (by rw [cntI_same (by omega) (by omega) (by omega) (by omega)]; exact hR.alloc _))
    · refine wpOp_of ho (by simp at ho; rw [← ho]) ?_
      simp at ho
      subst ho
      simp [Region.binds] at hd
      unfold mkI_act
      go_simp
      exact hK _ _ (DiInv.step (i := 1) (v := .pointer (some ⟨g, 0, none⟩)) hB (by omega) hsz hG h16 hF' rfl (World.grownBy.refl w1 _) (by rw [cntI_same (by omega) (by omega) (by omega) (by omega)]; exact hR))
    · refine wpOp_of ho (by simp at ho; rw [← ho]) ?_
      simp at ho
      subst ho
      simp [Region.binds] at hd
      unfold mkI_act
      obtain h1 : u 7 = _ := hF2 1 (by omega) hd
      go_simp
      refine (pick_any g (P + cntI L) _ _ hR (by omega)).mono ?_
      rintro e w2 ⟨v, rfl, v0, v1, hr2, hg2⟩
      have v2 := v1 (by omega)
      obtain ⟨k, rfl⟩ := Int.eq_ofNat_of_zero_le v0
      have hzz := hK _ _ (DiInv.step (i := 2) (v := .int .i64 (k : Int)) hB (by omega) hsz hG h16 hF' ⟨k, rfl, by omega⟩ (hg2) (by rw [cntI_2 hsz h0]; exact hr2))
      simp [mkI_act, slI, h1] at hzz
      exact hzz
    · refine wpOp_of ho (by simp at ho; rw [← ho]) ?_
      simp at ho
      subst ho
      simp [Region.binds] at hd
      unfold mkI_act
      obtain ⟨b, hb, hh, hbB⟩ := hF2 0 (by omega) hd.1
      obtain ⟨k, hk, hk5⟩ := hF2 2 (by omega) hd.2
      have hb : u 6 = _ := hb
      have hk : u 8 = _ := hk
      have q1 : (k : Int) < 5 := by omega
      go_simp
      have hzz := hK _ _ (DiInv.step (i := 3) (v := .pointer (some ⟨b, k, none⟩)) hB (by omega) hsz hG h16 hF' ⟨b, k, rfl, hk5, hh, hbB⟩ (World.grownBy.refl w1 _) (by rw [cntI_same (by omega) (by omega) (by omega) (by omega)]; exact hR))
      simp [mkI_act, slI, hb, hk] at hzz
      exact hzz
    · simp at ho
      subst ho
      simp [Region.binds] at hd
      obtain ⟨b, k, hb, hk5, hh, hbB⟩ := hF2 3 (by omega) hd
      have hb : u 9 = _ := hb
      obtain ⟨s, hs, hssz⟩ := arrK_row k hk5
      have hc : w1.cell? ⟨b, k, none⟩ = some (.string s) := (cell_of_row _ _ _ _ _ _ hh).trans hs
      refine wpOp_of rfl rfl ?_
      unfold mkI_act
      go_simp
      have hzz := hK _ _ (DiInv.step (i := 4) (v := .string s) hB (by omega) hsz hG h16 hF' ⟨s, rfl, hssz⟩ (World.grownBy.refl w1 _) (by rw [cntI_same (by omega) (by omega) (by omega) (by omega)]; exact hR))
      simp [mkI_act, slI, hb] at hzz
      exact hzz
    · refine wpOp_of ho (by simp at ho; rw [← ho]) ?_
      simp at ho
      subst ho
      simp [Region.binds] at hd
      unfold mkI_act
      go_simp
      exact hK _ _ (DiInv.step (i := 5) (v := .slice (some ⟨w1.heap.size, 0, none⟩) 3 3) hB (by omega) hsz hG h16 hF' ⟨w1.heap.size, rfl, heap_alloc_new _ _, hBs⟩ (World.grownBy_alloc w1 _ (some g)) (by rw [cntI_same (by omega) (by omega) (by omega) (by omega)]; exact hR.alloc _))
    · refine wpOp_of ho (by simp at ho; rw [← ho]) ?_
      simp at ho
      subst ho
      simp [Region.binds] at hd
      unfold mkI_act
      go_simp
      exact hK _ _ (DiInv.step (i := 6) (v := .pointer (some ⟨g, 0, none⟩)) hB (by omega) hsz hG h16 hF' rfl (World.grownBy.refl w1 _) (by rw [cntI_same (by omega) (by omega) (by omega) (by omega)]; exact hR))
    · refine wpOp_of ho (by simp at ho; rw [← ho]) ?_
      simp at ho
      subst ho
      simp [Region.binds] at hd
      unfold mkI_act
      obtain h1 : u 12 = _ := hF2 6 (by omega) hd.1
      go_simp
      refine (pick_any g (P + cntI L) _ _ hR (by omega)).mono ?_
      rintro e w2 ⟨v, rfl, v0, v1, hr2, hg2⟩
      have v2 := v1 (by omega)
      obtain ⟨k, rfl⟩ := Int.eq_ofNat_of_zero_le v0
      have hzz := hK _ _ (DiInv.step (i := 7) (v := .int .i64 (k : Int)) hB (by omega) hsz hG h16 hF' ⟨k, rfl, by omega⟩ (hg2) (by rw [cntI_7 hsz h0]; exact hr2))
      simp [mkI_act, slI, h1] at hzz
      exact hzz
    · refine wpOp_of ho (by simp at ho; rw [← ho]) ?_
      simp at ho
      subst ho
      simp [Region.binds] at hd
      unfold mkI_act
      obtain ⟨b, hb, hh, hbB⟩ := hF2 5 (by omega) hd.1
      obtain ⟨k, hk, hk5⟩ := hF2 7 (by omega) hd.2
      have hb : u 11 = _ := hb
      have hk : u 13 = _ := hk
      have q1 : (k : Int) < 3 := by omega
      go_simp
      have hzz := hK _ _ (DiInv.step (i := 8) (v := .pointer (some ⟨b, k, none⟩)) hB (by omega) hsz hG h16 hF' ⟨b, k, rfl, hk5, hh, hbB⟩ (World.grownBy.refl w1 _) (by rw [cntI_same (by omega) (by omega) (by omega) (by omega)]; exact hR))
      simp [mkI_act, slI, hb, hk] at hzz
      exact hzz
    · simp at ho
      subst ho
      simp [Region.binds] at hd
      obtain ⟨b, k, hb, hk5, hh, hbB⟩ := hF2 8 (by omega) hd
      have hb : u 14 = _ := hb
      obtain ⟨s, hs, hssz⟩ := arrT_row k hk5
      have hc : w1.cell? ⟨b, k, none⟩ = some (.string s) := (cell_of_row _ _ _ _ _ _ hh).trans hs
      refine wpOp_of rfl rfl ?_
      unfold mkI_act
      go_simp
      have hzz := hK _ _ (DiInv.step (i := 9) (v := .string s) hB (by omega) hsz hG h16 hF' ⟨s, rfl, hssz⟩ (World.grownBy.refl w1 _) (by rw [cntI_same (by omega) (by omega) (by omega) (by omega)]; exact hR))
      simp [mkI_act, slI, hb] at hzz
      exact hzz
    · refine wpOp_of ho (by simp at ho; rw [← ho]) ?_
      simp at ho
      subst ho
      simp [Region.binds] at hd
      unfold mkI_act
      go_simp
      exact hK _ _ (DiInv.step (i := 10) (v := .pointer (some ⟨g, 0, none⟩)) hB (by omega) hsz hG h16 hF' rfl (World.grownBy.refl w1 _) (by rw [cntI_same (by omega) (by omega) (by omega) (by omega)]; exact hR))
    · refine wpOp_of ho (by simp at ho; rw [← ho]) ?_
      simp at ho
      subst ho
      simp [Region.binds] at hd
      unfold mkI_act
      obtain h1 : u 16 = _ := hF2 10 (by omega) hd.1
      go_simp
      refine (text_any g (P + cntI L) _ _ hR (by omega) (by omega)).mono ?_
      rintro e w2 ⟨s, rfl, hssz, hr2, hg2⟩
      have hzz := hK _ _ (DiInv.step (i := 11) (v := .string s) hB (by omega) hsz hG h16 hF' ⟨s, rfl, hssz⟩ (hg2) (by rw [cntI_11 hsz h0]; exact hr2))
      simp [mkI_act, slI, h1] at hzz
      exact hzz
    · refine wpOp_of ho (by simp at ho; rw [← ho]) ?_
      simp at ho
      subst ho
      simp [Region.binds] at hd
      unfold mkI_act
      go_simp
      exact hK _ _ (DiInv.step (i := 12) (v := .pointer (some ⟨g, 0, none⟩)) hB (by omega) hsz hG h16 hF' rfl (World.grownBy.refl w1 _) (by rw [cntI_same (by omega) (by omega) (by omega) (by omega)]; exact hR))
    · refine wpOp_of ho (by simp at ho; rw [← ho]) ?_
      simp at ho
      subst ho
      simp [Region.binds] at hd
      unfold mkI_act
      obtain h1 : u 18 = _ := hF2 12 (by omega) hd.1
      go_simp
      refine (day_any g (P + cntI L) _ hR (by omega)).mono ?_
      rintro e w2 ⟨d, rfl, d0, d1, hr2, hg2⟩
      have hzz := hK _ _ (DiInv.step (i := 13) (v := .int .i64 d) hB (by omega) hsz hG h16 hF' ⟨d, rfl⟩ (hg2) (by rw [cntI_13 hsz h0]; exact hr2))
      simp [mkI_act, slI, h1] at hzz
      exact hzz
    · refine wpOp_of ho (by simp at ho; rw [← ho]) ?_
      simp at ho
      subst ho
      simp [Region.binds] at hd
      unfold mkI_act
      obtain ⟨x, hx, xs⟩ := hF2 4 (by omega) hd.1
      obtain ⟨y, hy, ys⟩ := hF2 9 (by omega) hd.2.1
      obtain ⟨z, hz, zs⟩ := hF2 11 (by omega) hd.2.2.1
      obtain ⟨d, hdd⟩ := hF2 13 (by omega) hd.2.2.2
      have hx : u 10 = _ := hx
      have hy : u 15 = _ := hy
      have hz : u 17 = _ := hz
      have hdd : u 19 = _ := hdd
      go_simp
      have hzz := hK _ _ (DiInv.step (i := 14) (v := .agg #[.string x, .string y, .string z, .int .i64 d]) hB (by omega) hsz hG h16 hF' ⟨⟨x, y, z, d⟩, rfl, xs, ys, zs⟩ (World.grownBy.refl w1 _) (by rw [cntI_same (by omega) (by omega) (by omega) (by omega)]; exact hR))
      simp [mkI_act, slI, hx, hy, hz, hdd] at hzz
      exact hzz
    · refine wpOp_of ho (by simp at ho; rw [← ho]) ?_
      simp at ho
      subst ho
      simp [Region.binds] at hd
      unfold mkI_act
      go_simp
      exact hK _ _ (DiInv.step (i := 15) (v := .pointer (some ⟨w1.heap.size, 0, none⟩)) hB (by omega) hsz hG h16 hF' ⟨w1.heap.size, _, _, _, _, rfl, heap_alloc_new _ _, hBs⟩ (World.grownBy_alloc w1 _ (some g)) (by rw [cntI_same (by omega) (by omega) (by omega) (by omega)]; exact hR.alloc _))
    · refine wpOp_of ho (by simp at ho; rw [← ho]) ?_
      simp at ho
      subst ho
      simp [Region.binds] at hd
      unfold mkI_act
      obtain ⟨hd15, hd14, hd13, e0, e1, e2, e3, e4, e5, e6, e7, e8, e9, e10, e11, e12, e13, e14, e15⟩ := hd
      obtain ⟨b, c0, c1, c2, c3, hb, hh, hbB⟩ := hF2 15 (by omega) hd15
      obtain ⟨it, hit, hok⟩ := hF2 14 (by omega) hd14
      have hb : u 5 = _ := hb
      have hit : u 20 = _ := hit
      obtain ⟨p0, p1, p2, p3, f0, f1, f2, f3⟩ := cells4 hh
      obtain ⟨st1, st2⟩ := stored4 hh (.string it.key) (.string it.title) (.string it.body) (.int .i64 it.day)
      go_simp
      have hall : ∀ j, j < 17 → (L.setIfInBounds 16 true).getD j false = true := by
        intro j hj
        by_cases e : j = 16
        · subst e; exact getD_set_here (by omega)
        · rw [getD_set_ne false (Ne.symm e)]
          obtain rfl | rfl | rfl | rfl | rfl | rfl | rfl | rfl | rfl | rfl | rfl | rfl | rfl | rfl | rfl | rfl : j = 0 ∨ j = 1 ∨ j = 2 ∨ j = 3 ∨ j = 4 ∨ j = 5 ∨ j = 6 ∨ j = 7 ∨ j = 8 ∨ j = 9 ∨ j = 10 ∨ j = 11 ∨ j = 12 ∨ j = 13 ∨ j = 14 ∨ j = 15 := by omega
          all_goals (rw [Array.getD_eq_getD_getElem?]; assumption)
      have hzz := hK _ _ ⟨u, rfl, by simpa using hsz, grown_ownI hG st2 (fun j e => by injection e with e; simp; omega), (by rw [cntI_same (by omega) (by omega) (by omega) (by omega)]; exact hR.kept st2 (fun k e => by injection e with e; omega)), (fun h => by rw [getD_set_here (by omega)] at h; cases h), (fun _ => ⟨hall, b, it, hb, hbB, hok, st1⟩)⟩
      simp only [mkI_act, hb, hit] at hzz
      exact hzz
  · rintro L a w1 ⟨u, rfl, hsz, hG, hR, hF, hE⟩ hr0
    have hall := ready_nil (by
      intro i o ho
      have hi17 : i < 17 := (Array.getElem?_eq_some_iff.1 ho).1
      obtain rfl | rfl | rfl | rfl | rfl | rfl | rfl | rfl | rfl | rfl | rfl | rfl | rfl | rfl | rfl | rfl | rfl : i = 0 ∨ i = 1 ∨ i = 2 ∨ i = 3 ∨ i = 4 ∨ i = 5 ∨ i = 6 ∨ i = 7 ∨ i = 8 ∨ i = 9 ∨ i = 10 ∨ i = 11 ∨ i = 12 ∨ i = 13 ∨ i = 14 ∨ i = 15 ∨ i = 16 := by omega
      all_goals (simp at ho; subst ho; simp)) (by simpa using hsz) hr0
    obtain ⟨_, b, i, hu5, hbB, ⟨ok1, ok2, ok3⟩, hh⟩ := hE (hall 16 (by simp))
    clear hall hr0 hF hE hsz
    have hR8 : Rd w1 g (P + 8) := hR.mono (by have := cntI_le L; omega)
    have hwg : w.grownBy w1 (some g) := grown_trans (World.grownBy_alloc _ _ _) hG
    have hres : Try.f60.results = #[.cell 4 34] := by kernel_rfl
    have hr4 : w1.heap[w.heap.size]? = some (.cells #[.string ⟨#[]⟩, .string ⟨#[]⟩, .string ⟨#[]⟩, .int .i64 0] 34 (0, 0)) := heap_kept hG (heap_alloc_new _ _) (by omega)
    clear hR hG
    show K0 _ _
    refine hK0 _ _ ?_
    clear hK0
    simp only [mkI_act, hu5]
    go_wp2_with fail
    refine (odd_any g (P + 8) _ _ hR8 (by omega) hn).mono ?_
    rintro e w2 ⟨bb, rfl, hr2, hg2⟩
    have hh2 := heap_kept hg2 hh (by omega)
    have hr42 := heap_kept hg2 hr4 (by omega)
    have hwg2 := grown_trans hwg hg2
    have hne : ¬ b = w.heap.size := by omega
    have hne' : ¬ w.heap.size = b := by omega
    cases bb
    · obtain ⟨p0, p1, p2, p3, f0, f1, f2, f3⟩ := cells4 hh2
      obtain ⟨r0, r1, r2, r3, q0, q1, q2, q3⟩ := cells4 hr42
      go_wp2
      refine bodyPost_ret (v := .agg #[.string i.key, .string i.title, .string i.body, .int .i64 i.day]) ?_ rfl ?_
      · simp only [results, hres]
        go_simp
      · have st := (stored4 hr42 (.string i.key) (.string i.title) (.string i.body) (.int .i64 i.day)).2
        exact ⟨⟨i, rfl, ok1, ok2, ok3⟩, (hr2.kept st (fun k e => by injection e with e; omega)).mono (by omega), grown_ownI hwg2 st (fun j e => by injection e with e; omega)⟩
    · go_wp2_with fail
      refine (pick_any g (P + 9) _ _ hr2 (by omega)).mono ?_
      rintro e w3 ⟨k, rfl, k0, k1, hr3, hg3⟩
      have k2 := k1 (by omega)
      have hh3 := heap_kept hg3 hh2 (by omega)
      have hr43 := heap_kept hg3 hr42 (by omega)
      have hwg3 := grown_trans hwg2 hg3
      have hk4 : k = 0 ∨ k = 1 ∨ k = 2 ∨ k = 3 := by omega
      rcases hk4 with rfl | rfl | rfl | rfl
      · go_wp2_with fail
        refine (word_any g (P + 10) _ _ hr3 (by omega) (by omega)).mono ?_
        rintro e w4 ⟨s, rfl, hssz, hr4w, hg4⟩
        have hh4 := heap_kept hg4 hh3 (by omega)
        have hr44 := heap_kept hg4 hr43 (by omega)
        have hwg4 := grown_trans hwg3 hg4
        obtain ⟨p0, p1, p2, p3, f0, f1, f2, f3⟩ := cells4 hh4
        obtain ⟨r0, r1, r2, r3, q0, q1, q2, q3⟩ := cells4 hr44
        go_wp2
        refine bodyPost_ret (v := .agg #[.string s, .string i.title, .string i.body, .int .i64 i.day]) ?_ rfl ?_
        · simp only [results, hres]
          go_simp
        · have sb := grown_set w4 b 0 (.string s)
          have st := (stored4 (heap_kept' sb hr44 hne') (.string s) (.string i.title) (.string i.body) (.int .i64 i.day)).2
          exact ⟨⟨⟨s, i.title, i.body, i.day⟩, rfl, by show s.size ≤ 100; omega, ok2, ok3⟩, ((hr4w.kept sb (fun k e => by injection e with e; omega)).kept st (fun k e => by injection e with e; omega)).mono (by omega), grown_ownI (grown_ownI hwg4 sb (fun j e => by injection e with e; omega)) st (fun j e => by injection e with e; omega)⟩
      · have hlt3 := hr3.lt
        go_wp2_with fail
        refine (pick_any g (P + 10) _ _ (hr3.alloc _) (by omega)).mono ?_
        rintro e w4 ⟨k, rfl, k0, k1, hr4w, hg4⟩
        have k2 := k1 (by omega)
        obtain ⟨k, rfl⟩ := Int.eq_ofNat_of_zero_le k0
        obtain ⟨s, hs, hssz⟩ := row_str hg4 hlt3 (strRow_list (B := 100) [⟨#[]⟩, ⟨#[10]⟩] (by simp; decide)) k (by simp; omega)
        have hg34 := grown_trans (World.grownBy_alloc w3 _ (some g)) hg4
        have hh4 := heap_kept hg34 hh3 (by omega)
        have hr44 := heap_kept hg34 hr43 (by omega)
        have hwg4 := grown_trans hwg3 hg34
        obtain ⟨p0, p1, p2, p3, f0, f1, f2, f3⟩ := cells4 hh4
        obtain ⟨r0, r1, r2, r3, q0, q1, q2, q3⟩ := cells4 hr44
        go_wp2
        refine bodyPost_ret (v := .agg #[.string i.key, .string s, .string i.body, .int .i64 i.day]) ?_ rfl ?_
        · simp only [results, hres]
          go_simp
        · have sb := grown_set w4 b 1 (.string s)
          have st := (stored4 (heap_kept' sb hr44 hne') (.string i.key) (.string s) (.string i.body) (.int .i64 i.day)).2
          exact ⟨⟨⟨i.key, s, i.body, i.day⟩, rfl, ok1, by show s.size ≤ 100; omega, ok3⟩, ((hr4w.kept sb (fun k e => by injection e with e; omega)).kept st (fun k e => by injection e with e; omega)).mono (by omega), grown_ownI (grown_ownI hwg4 sb (fun j e => by injection e with e; omega)) st (fun j e => by injection e with e; omega)⟩
      · go_wp2_with fail
        refine (text_any g (P + 10) _ _ hr3 (by omega) (by omega)).mono ?_
        rintro e w4 ⟨s, rfl, hssz, hr4w, hg4⟩
        have hh4 := heap_kept hg4 hh3 (by omega)
        have hr44 := heap_kept hg4 hr43 (by omega)
        have hwg4 := grown_trans hwg3 hg4
        obtain ⟨p0, p1, p2, p3, f0, f1, f2, f3⟩ := cells4 hh4
        obtain ⟨r0, r1, r2, r3, q0, q1, q2, q3⟩ := cells4 hr44
        go_wp2
        refine bodyPost_ret (v := .agg #[.string i.key, .string i.title, .string s, .int .i64 i.day]) ?_ rfl ?_
        · simp only [results, hres]
          go_simp
        · have sb := grown_set w4 b 2 (.string s)
          have st := (stored4 (heap_kept' sb hr44 hne') (.string i.key) (.string i.title) (.string s) (.int .i64 i.day)).2
          exact ⟨⟨⟨i.key, i.title, s, i.day⟩, rfl, ok1, ok2, by show s.size ≤ 100; omega⟩, ((hr4w.kept sb (fun k e => by injection e with e; omega)).kept st (fun k e => by injection e with e; omega)).mono (by omega), grown_ownI (grown_ownI hwg4 sb (fun j e => by injection e with e; omega)) st (fun j e => by injection e with e; omega)⟩
      · have hlt3 := hr3.lt
        go_wp2_with fail
        refine (pick_any g (P + 10) _ _ (hr3.alloc _) (by omega)).mono ?_
        rintro e w4 ⟨k, rfl, k0, k1, hr4w, hg4⟩
        have k2 := k1 (by omega)
        obtain ⟨k, rfl⟩ := Int.eq_ofNat_of_zero_le k0
        obtain ⟨d, hd, d0, d1⟩ := row_int (j := w3.heap.size) (k := k) hg4 (heap_alloc_new _ _) (by omega) (intRow_list (lo := -1) (hi := 2000000) [-1, 1460970] (by simp)) (by simp; omega)
        have hg34 := grown_trans (World.grownBy_alloc w3 _ (some g)) hg4
        have hh4 := heap_kept hg34 hh3 (by omega)
        have hr44 := heap_kept hg34 hr43 (by omega)
        have hwg4 := grown_trans hwg3 hg34
        obtain ⟨p0, p1, p2, p3, f0, f1, f2, f3⟩ := cells4 hh4
        obtain ⟨r0, r1, r2, r3, q0, q1, q2, q3⟩ := cells4 hr44
        go_wp2
        refine bodyPost_ret (v := .agg #[.string i.key, .string i.title, .string i.body, .int .i64 d]) ?_ rfl ?_
        · simp only [results, hres]
          go_simp
        · have sb := grown_set w4 b 3 (.int .i64 d)
          have st := (stored4 (heap_kept' sb hr44 hne') (.string i.key) (.string i.title) (.string i.body) (.int .i64 d)).2
          exact ⟨⟨⟨i.key, i.title, i.body, d⟩, rfl, ok1, ok2, ok3⟩, ((hr4w.kept sb (fun k e => by injection e with e; omega)).kept st (fun k e => by injection e with e; omega)).mono (by omega), grown_ownI (grown_ownI hwg4 sb (fun j e => by injection e with e; omega)) st (fun j e => by injection e with e; omega)⟩
end Go.Proofs.Ytldllhfadihmeaa
