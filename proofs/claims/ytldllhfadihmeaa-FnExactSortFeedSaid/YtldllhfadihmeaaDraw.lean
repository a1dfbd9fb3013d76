/- The reader that the draws go by: l20Open, pick, odd, and the draws of words and texts. -/
import Derived.Test.YtldllhfadihmeaaText
import Derived.Deep.QuietTactic
import Derived.BigQuiet
import Derived.Deep.Draws
import Derived.Laws.OwnMore
import Derived.Outline
import Derived.OpenShut
namespace Go.Proofs.Ytldllhfadihmeaa
open Go.RowKit

/-- What a law is told of its argument 'code': nil, or a row of bytes. -/
def IsRow (k : IntKind) (w : World) (a : Option Addr) (len cap : Nat) (zs : List Int) : Prop :=
  (a = none ∧ len = 0 ∧ cap = 0 ∧ zs = []) ∨
  ∃ x, a = some x ∧ len ≤ cap ∧ cap ≤ maxLen ∧ zs.length = cap ∧ (∀ i, i < zs.length → w.cell? (x.add i) = some (.int k (zs.getD i 0))) ∧ ∀ n ∈ zs, (Lit.int k n).wf = true

/-- Block g is a reader that has read at most P numbers; its code lies in an older block. -/
def Rd (w : World) (g P : Nat) : Prop :=
  ∃ (p : Nat) (a : Option Addr) (len cap : Nat), p ≤ P ∧ w.heap[g]? = some (.cells #[.slice a len cap, .int .i64 p] 82 (0, 0)) ∧ len ≤ 2000 ∧ len ≤ cap ∧ cap ≤ maxLen ∧
    (0 < len → ∃ b off, a = some ⟨b, off, none⟩ ∧ b < g ∧ ∀ i, i < len → ∃ z : Int, w.cell? ⟨b, off + i, none⟩ = some (.int .u8 z) ∧ 0 ≤ z ∧ z ≤ 255)
theorem Rd.mono {w : World} {g P P' : Nat} (h : Rd w g P) (hP : P ≤ P') : Rd w g P' := by
  obtain ⟨p, a, len, cap, h1, h2⟩ := h; exact ⟨p, a, len, cap, Nat.le_trans h1 hP, h2⟩
theorem Rd.lt {w : World} {g P : Nat} (h : Rd w g P) : g < w.heap.size := by
  obtain ⟨p, a, len, cap, _, h2, _⟩ := h; exact (Array.getElem?_eq_some_iff.1 h2).1
theorem Rd.kept {w w' : World} {g P : Nat} {row : Option Nat} (h : Rd w g P) (hg : w.grownBy w' row) (hne : ∀ k, row = some k → g < k) : Rd w' g P := by
  have hlt := h.lt
  obtain ⟨p, a, len, cap, h1, h2, h3, h4, h5, h6⟩ := h
  refine ⟨p, a, len, cap, h1, (hg.block g hlt (fun e => by have := hne g e.symm; omega)).trans h2, h3, h4, h5, fun hl => ?_⟩
  obtain ⟨b, off, ha, hb, hc⟩ := h6 hl
  refine ⟨b, off, ha, hb, fun i hi => ?_⟩
  obtain ⟨z, hz, hz2⟩ := hc i hi
  exact ⟨z, (World.cell?_of_block (hg.block b (by omega) (fun e => by have := hne b e.symm; omega))).trans hz, hz2⟩
theorem Rd.alloc {w : World} {g P : Nat} (h : Rd w g P) (o : Obj) : Rd (w.alloc o) g P := h.kept (World.grownBy_alloc w o none) (fun _ e => by cases e)
theorem Rd.drewN {w : World} {g P : Nat} (h : Rd w g P) (n : Nat) : Rd (w.drewN n) g P := h
theorem Rd.step {w : World} {g P : Nat} {p : Nat} {a : Option Addr} {len cap : Nat} (h : w.heap[g]? = some (.cells #[.slice a len cap, .int .i64 p] 82 (0, 0))) (h3 : len ≤ 2000) (h4 : len ≤ cap) (h5 : cap ≤ maxLen)
    (h6 : 0 < len → ∃ b off, a = some ⟨b, off, none⟩ ∧ b < g ∧ ∀ i, i < len → ∃ z : Int, w.cell? ⟨b, off + i, none⟩ = some (.int .u8 z) ∧ 0 ≤ z ∧ z ≤ 255) (n : Nat) (hn : n ≤ P + 1) : Rd (w.setCell ⟨g, 1, none⟩ (.int .i64 (n : Int))) g (P + 1) := by
  refine ⟨n, a, len, cap, hn, ?_, h3, h4, h5, fun hl => ?_⟩
  · simp [World.setCell, Array.getElem?_modify, h]
  · obtain ⟨b, off, ha, hb, hc⟩ := h6 hl
    refine ⟨b, off, ha, hb, fun i hi => ?_⟩
    obtain ⟨z, hz, hz2⟩ := hc i hi
    exact ⟨z, (World.cell?_setCell_other w ⟨g, 1, none⟩ _ _ (fun e => by injection e; omega)).trans hz, hz2⟩
theorem grown_set (w : World) (g i : Nat) (v : Value) : w.grownBy (w.setCell ⟨g, i, none⟩ v) (some g) :=
  ⟨rfl, rfl, rfl, by simp [World.setCell], fun k _ hne => Below.heap_setCell w _ v k (fun e => hne (by rw [e]))⟩
theorem grown_drewN {a w : World} {row : Option Nat} (h : a.grownBy w row) (n : Nat) : a.grownBy (w.drewN n) row := ⟨h.os, h.tape, h.output, h.size, h.block⟩
theorem grown_alloc {a w : World} {row : Option Nat} (h : a.grownBy w row) (o : Obj) : a.grownBy (w.alloc o) row :=
  ⟨h.os, h.tape, h.output, Nat.le_trans h.size (by simp), fun i hi hne => (Below.heap_alloc w o i (Nat.lt_of_lt_of_le hi h.size)).trans (h.block i hi hne)⟩
theorem grown_trans {a b c : World} {row : Option Nat} (h : a.grownBy b row) (k : b.grownBy c row) : a.grownBy c row :=
  ⟨k.os.trans h.os, k.tape.trans h.tape, k.output.trans h.output, Nat.le_trans h.size k.size, fun i hi hne => (k.block i (Nat.lt_of_lt_of_le hi h.size) hne).trans (h.block i hi hne)⟩
theorem grown_below {B g : Nat} {a w w' : World} (h : Below B a w) (hg : w.grownBy w' (some g)) (hB : B ≤ w.heap.size) (hr : B ≤ g) : Below B a w' := h.grown hg hB (fun k e => by injection e with e; omega)

theorem ofInt_i64 (a : Nat) (ha : a < 9223372036854775808) : (BitVec.ofInt 64 (a : Int)).toNat = a := by
  rw [BitVec.ofInt_natCast, BitVec.toNat_ofNat]; exact Nat.mod_eq_of_lt (by omega)
theorem i64_xor_nat (a b : Nat) (ha : a < 9223372036854775808) (hb : b < 9223372036854775808) : bits .xor .i64 (a : Int) (b : Int) = ((a ^^^ b : Nat) : Int) := by
  have hx : a ^^^ b < 2 ^ 63 := Nat.xor_lt_two_pow (by omega) (by omega)
  show IntKind.i64.wrap ((BitVec.ofInt 64 (a : Int) ^^^ BitVec.ofInt 64 (b : Int)).toNat : Int) = _
  rw [BitVec.toNat_xor, ofInt_i64 a ha, ofInt_i64 b hb, IntKind.wrap_i64]
  omega

/-- What pick leaves behind. -/
def PickPost (w : World) (g P : Nat) (n : Int) (e : Ending) (w' : World) : Prop :=
  ∃ v : Int, e = .returned (.int .i64 v) ∧ 0 ≤ v ∧ (1 ≤ n → v < n) ∧ Rd w' g (P + 1) ∧ w.grownBy w' (some g)

set_option maxHeartbeats 1000000 in
theorem pick_any (g P : Nat) (n : Int) (w : World) (hr : Rd w g P) (hP : P ≤ 1000000) :
    Calls Try.prog 64 #[.pointer (some ⟨g, 0, none⟩), .int .i64 n] w (PickPost w g P n) := by
  obtain ⟨p, a, len, cap, hp, hh, hlen, hlc, hcap, hcode⟩ := hr
  unfold maxLen at hcap
  have HS := Lib.hid (Rd.step (P := P) hh hlen hlc (by unfold maxLen; exact hcap) hcode (p + 1) (by omega))
  have hc0 : w.cell? ⟨g, 0, none⟩ = some (.slice a len cap) := by simp [World.cell?, hh]
  have hc1 : w.cell? ⟨g, 1, none⟩ = some (.int .i64 p) := by simp [World.cell?, hh]
  have hf1 : w.frozen? ⟨g, 1, none⟩ = false := by simp [World.frozen?, hh]
  have hS0 : ∀ v, (w.setCell ⟨g, 1, none⟩ v).cell? ⟨g, 0, none⟩ = some (.slice a len cap) := fun v => by rw [World.cell?_setCell_other w _ _ _ (fun e => by injection e with _ e; cases e)]; exact hc0
  have HC := Lib.hid hcode
  have HG := Lib.hid (grown_set w g 1 (.int .i64 ((p + 1 : Nat) : Int)))
  clear hh hcode
  by_cases hn : 1 ≤ n
  · rcases Nat.eq_zero_or_pos len with h0 | h0
    · subst h0
      go_enter Try.func64, Try.ntmps64
      go_wp2
      go_ret
      exact ⟨0, rfl, by omega, fun _ => by omega, HS.out, HG.out⟩
    · obtain ⟨b, off, rfl, hbg, hcell⟩ := HC.out h0
      have hl0 : ((len : Int) == 0) = false := by rw [beq_eq_false_iff_ne]; omega
      have hl1 : ¬ len = 0 := by omega
      by_cases hlt : p < len
      · obtain ⟨z, hz, z0, z1⟩ := hcell p hlt
        have hz2 : (w.setCell ⟨g, 1, none⟩ (.int .i64 ((p : Int) + 1))).cell? ⟨b, off + p, none⟩ = some (.int .u8 z) := (World.cell?_setCell_other w ⟨g, 1, none⟩ _ _ (fun e => by injection e; omega)).trans hz
        have m0 := Int.emod_nonneg z (b := n) (by omega)
        have m1 := Int.emod_lt_of_pos z (b := n) (by omega)
        clear hcell hz
        go_enter Try.func64, Try.ntmps64
        go_wp2
        go_ret
        exact ⟨z % n, rfl, m0, fun _ => m1, HS.out, HG.out⟩
      · obtain ⟨i1, e1, l1⟩ : ∃ i1 : Nat, (p : Int).tmod (len : Int) = (i1 : Int) ∧ i1 < len := ⟨p % len, by rw [Int.tmod_eq_emod_of_nonneg (by omega)]; rfl, Nat.mod_lt _ h0⟩
        obtain ⟨A2, e2, b2⟩ : ∃ A : Int, IntKind.i64.wrap ((p : Int) * 7) = A ∧ (0 ≤ A ∧ A ≤ 7000000) := ⟨(p : Int) * 7, IntWalk.i64_in _ (by omega), by omega⟩
        obtain ⟨A3, e3, b3⟩ : ∃ A : Int, IntKind.i64.wrap (A2 + 3) = A ∧ (0 ≤ A ∧ A ≤ 7000003) := ⟨A2 + 3, IntWalk.i64_in _ (by omega), by omega⟩
        obtain ⟨i2, e4, l2⟩ : ∃ i2 : Nat, A3.tmod (len : Int) = (i2 : Int) ∧ i2 < len := ⟨A3.toNat % len, by
          obtain ⟨a, rfl⟩ := Int.eq_ofNat_of_zero_le b3.1
          rw [Int.tmod_eq_emod_of_nonneg (by omega)]; rfl, Nat.mod_lt _ h0⟩
        obtain ⟨z, hz, z0, z1⟩ := hcell i1 l1
        obtain ⟨y, hy, y0, y1⟩ := hcell i2 l2
        have ez : IntKind.i64.wrap z = z := IntWalk.i64_in _ (by omega)
        have ey : IntKind.i64.wrap y = y := IntWalk.i64_in _ (by omega)
        obtain ⟨A1, f1, b1⟩ : ∃ A : Int, IntKind.i64.wrap (z * 131) = A ∧ (0 ≤ A ∧ A ≤ 33405) := ⟨z * 131, IntWalk.i64_in _ (by omega), by omega⟩
        obtain ⟨A4, f4, b4⟩ : ∃ A : Int, IntKind.i64.wrap (y * 1117) = A ∧ (0 ≤ A ∧ A ≤ 284835) := ⟨y * 1117, IntWalk.i64_in _ (by omega), by omega⟩
        obtain ⟨A5, f5, b5⟩ : ∃ A : Int, IntKind.i64.wrap (A1 + A4) = A ∧ (0 ≤ A ∧ A ≤ 318240) := ⟨A1 + A4, IntWalk.i64_in _ (by omega), by omega⟩
        obtain ⟨A6, f6, b6⟩ : ∃ A : Int, IntKind.i64.wrap ((p : Int) * 29) = A ∧ (0 ≤ A ∧ A ≤ 29000000) := ⟨(p : Int) * 29, IntWalk.i64_in _ (by omega), by omega⟩
        obtain ⟨A7, f7, b7⟩ : ∃ A : Int, IntKind.i64.wrap (A5 + A6) = A ∧ (0 ≤ A ∧ A ≤ 30000000) := ⟨A5 + A6, IntWalk.i64_in _ (by omega), by omega⟩
        obtain ⟨A8, f8, b8⟩ : ∃ A : Int, IntKind.i64.wrap ((p : Int) / (len : Int)) = A ∧ (0 ≤ A ∧ A ≤ 1000000) := by
          have := IntWalk.tdiv_le (p : Int) (len : Int) (by omega) (by omega)
          exact ⟨(p : Int) / (len : Int), IntWalk.i64_in _ (by omega), by omega⟩
        obtain ⟨A9, f9, b9⟩ : ∃ A : Int, IntKind.i64.wrap (A8 * 53) = A ∧ (0 ≤ A ∧ A ≤ 53000000) := ⟨A8 * 53, IntWalk.i64_in _ (by omega), by omega⟩
        obtain ⟨X, fX, bX⟩ : ∃ A : Int, IntKind.i64.wrap (A7 + A9) = A ∧ (0 ≤ A ∧ A ≤ 100000000) := ⟨A7 + A9, IntWalk.i64_in _ (by omega), by omega⟩
        obtain ⟨V, fV, bV⟩ : ∃ V : Int, bits .xor .i64 X (X / 64) = V ∧ 0 ≤ V := by
          obtain ⟨a, rfl⟩ := Int.eq_ofNat_of_zero_le bX.1
          exact ⟨_, i64_xor_nat a (a / 64) (by omega) (by omega), by omega⟩
        obtain ⟨bX0, bX1⟩ := bX
        have hz2 : (w.setCell ⟨g, 1, none⟩ (.int .i64 ((p : Int) + 1))).cell? ⟨b, off + i1, none⟩ = some (.int .u8 z) := (World.cell?_setCell_other w ⟨g, 1, none⟩ _ _ (fun e => by injection e; omega)).trans hz
        have hy2 : (w.setCell ⟨g, 1, none⟩ (.int .i64 ((p : Int) + 1))).cell? ⟨b, off + i2, none⟩ = some (.int .u8 y) := (World.cell?_setCell_other w ⟨g, 1, none⟩ _ _ (fun e => by injection e; omega)).trans hy
        have m0 := Int.emod_nonneg V (b := n) (by omega)
        have m1 := Int.emod_lt_of_pos V (b := n) (by omega)
        clear hcell hz hy b1 b2 b3 b4 b5 b6 b7 b8 b9
        go_enter Try.func64, Try.ntmps64
        go_wp2
        go_quiet (fail)
        go_wp2
        go_ret
        exact ⟨V % n, rfl, m0, fun _ => m1, HS.out, grown_drewN HG.out _⟩
  · go_enter Try.func64, Try.ntmps64
    go_wp2
    go_ret
    exact ⟨0, rfl, by omega, fun _ => by omega, HS.out, HG.out⟩

/-- What odd, and a draw of a text, leave behind. -/
def OddPost (w : World) (g P : Nat) (e : Ending) (w' : World) : Prop :=
  ∃ b : Bool, e = .returned (.bool b) ∧ Rd w' g P ∧ w.grownBy w' (some g)
def StrPost (w : World) (g P B : Nat) (e : Ending) (w' : World) : Prop :=
  ∃ s : ByteArray, e = .returned (.string s) ∧ s.size ≤ B ∧ Rd w' g P ∧ w.grownBy w' (some g)
def IntPost (w : World) (g P : Nat) (lo hi : Int) (e : Ending) (w' : World) : Prop :=
  ∃ v : Int, e = .returned (.int .i64 v) ∧ lo ≤ v ∧ v ≤ hi ∧ Rd w' g P ∧ w.grownBy w' (some g)

set_option maxHeartbeats 400000 in
theorem odd_any (g P : Nat) (n : Int) (w : World) (hr : Rd w g P) (hP : P ≤ 1000000) (hn : n ≤ 1000000) :
    Calls Try.prog 78 #[.pointer (some ⟨g, 0, none⟩), .int .i64 n] w (OddPost w g (P + 1)) := by
  by_cases h : 0 < n
  · go_enter Try.func78, Try.ntmps78
    go_wp2_with fail
    refine (pick_any g P _ _ hr hP).mono ?_
    rintro e w1 ⟨v, rfl, v0, v1, hr1, hg1⟩
    go_wp2
    go_ret
    exact ⟨_, rfl, hr1, hg1⟩
  · have hd : decide (0 < n) = false := decide_eq_false h
    go_enter Try.func78, Try.ntmps78
    go_wp2
    go_ret
    exact ⟨_, rfl, hr.mono (by omega), World.grownBy.refl w _⟩

/-- A row of texts that was just laid, behind a draw. -/
def StrRow (cs : Array Value) (B : Nat) : Prop := ∀ k, k < cs.size → ∃ s : ByteArray, cs[k]? = some (.string s) ∧ s.size ≤ B
theorem row_kept {w w1 : World} {g t : Nat} {cs : Array Value} (hg : (w.alloc (.cells cs t)).grownBy w1 (some g)) (hlt : g < w.heap.size) (k : Nat) : w1.cell? ⟨w.heap.size, k, none⟩ = cs[k]? := by
  have hb := hg.block w.heap.size (by simp) (fun e => by injection e; omega)
  rw [World.cell?_of_block (w := w.alloc (.cells cs t)) (a := ⟨w.heap.size, k, none⟩) hb]
  exact cell_of_row _ _ _ _ _ _ (heap_alloc_new w _)
theorem row_str {w w1 : World} {g t B : Nat} {cs : Array Value} (hg : (w.alloc (.cells cs t)).grownBy w1 (some g)) (hlt : g < w.heap.size) (hs : StrRow cs B) (k : Nat) (hk : k < cs.size) :
    ∃ s : ByteArray, w1.cell? ⟨w.heap.size, k, none⟩ = some (.string s) ∧ s.size ≤ B := by
  obtain ⟨s, h1, h2⟩ := hs k hk
  exact ⟨s, (row_kept hg hlt k).trans h1, h2⟩
theorem words_bad : StrRow #[.string ⟨#[]⟩, .string ⟨#[49, 97]⟩, .string ⟨#[65]⟩, .string ⟨#[97, 32, 98]⟩, .string ⟨#[97, 98, 99, 100, 101, 102, 103, 104, 105]⟩] 9 := by
  intro k hk
  match k, hk with
  | 0, _ => exact ⟨_, rfl, by decide⟩
  | 1, _ => exact ⟨_, rfl, by decide⟩
  | 2, _ => exact ⟨_, rfl, by decide⟩
  | 3, _ => exact ⟨_, rfl, by decide⟩
  | 4, _ => exact ⟨_, rfl, by decide⟩
theorem words_good : StrRow #[.string ⟨#[97, 110, 110]⟩, .string ⟨#[98, 111, 98]⟩, .string ⟨#[114, 101, 100]⟩, .string ⟨#[115, 101, 97]⟩, .string ⟨#[107, 49]⟩, .string ⟨#[107, 50]⟩] 9 := by
  intro k hk
  match k, hk with
  | 0, _ => exact ⟨_, rfl, by decide⟩
  | 1, _ => exact ⟨_, rfl, by decide⟩
  | 2, _ => exact ⟨_, rfl, by decide⟩
  | 3, _ => exact ⟨_, rfl, by decide⟩
  | 4, _ => exact ⟨_, rfl, by decide⟩
  | 5, _ => exact ⟨_, rfl, by decide⟩

set_option maxHeartbeats 400000 in
theorem word_any (g P : Nat) (n : Int) (w : World) (hr : Rd w g P) (hP : P ≤ 900000) (hn : n ≤ 1000000) :
    Calls Try.prog 79 #[.pointer (some ⟨g, 0, none⟩), .int .i64 n] w (StrPost w g (P + 2) 9) := by
  go_enter Try.func79, Try.ntmps79
  go_wp2_with fail
  refine (odd_any g P _ _ hr (by omega) hn).mono ?_
  rintro e w1 ⟨b, rfl, hr1, hg1⟩
  have hlt := hr1.lt
  cases b
  · go_wp2_with fail
    refine (pick_any g (P + 1) _ _ (hr1.alloc _) (by omega)).mono ?_
    rintro e w2 ⟨v, rfl, v0, v1, hr2, hg2⟩
    have v2 := v1 (by omega)
    clear v1
    obtain ⟨k, rfl⟩ := Int.eq_ofNat_of_zero_le v0
    obtain ⟨s, hs, hsz⟩ := row_str hg2 hlt words_good k (by simp; omega)
    go_wp2
    go_ret
    exact ⟨s, rfl, hsz, hr2, grown_trans hg1 (grown_trans (World.grownBy_alloc _ _ _) hg2)⟩
  · go_wp2_with fail
    refine (pick_any g (P + 1) _ _ (hr1.alloc _) (by omega)).mono ?_
    rintro e w2 ⟨v, rfl, v0, v1, hr2, hg2⟩
    have v2 := v1 (by omega)
    clear v1
    obtain ⟨k, rfl⟩ := Int.eq_ofNat_of_zero_le v0
    obtain ⟨s, hs, hsz⟩ := row_str hg2 hlt words_bad k (by simp; omega)
    go_wp2
    go_ret
    exact ⟨s, rfl, hsz, hr2, grown_trans hg1 (grown_trans (World.grownBy_alloc _ _ _) hg2)⟩

/-- What l20Open leaves behind: a new reader in the block g. -/
def OpenPost (w : World) (e : Ending) (w' : World) : Prop :=
  ∃ g, e = .returned (.pointer (some ⟨g, 0, none⟩)) ∧ w.heap.size ≤ g ∧ Rd w' g 0 ∧ Below w.heap.size w w'
theorem open_rd {w : World} {a : Option Addr} {len cap n : Nat} {zs : List Int} (h : IsRow .u8 w a len cap zs) (hn : n ≤ len) (h2 : n ≤ 2000) : Rd (w.alloc (.cells #[.slice a n cap, .int .i64 0] 82)) w.heap.size 0 := by
  rcases h with ⟨rfl, rfl, rfl, rfl⟩ | ⟨x, rfl, hlc, hcap, hz, hc, hw⟩
  · obtain rfl : n = 0 := by omega
    exact ⟨0, none, 0, 0, Nat.le_refl _, heap_alloc_new w _, by omega, by omega, by unfold maxLen; omega, fun h => absurd h (by omega)⟩
  · refine ⟨0, some x, n, cap, Nat.le_refl _, heap_alloc_new w _, h2, by omega, hcap, fun h0 => ?_⟩
    obtain ⟨b, off, rfl, hc2⟩ := ints_at hc (by omega)
    have hb : b < w.heap.size := World.block_lt_of_cell? w _ (hc2 0 (by omega))
    refine ⟨b, off, rfl, hb, fun i hi => ⟨zs.getD i 0, ?_, ?_⟩⟩
    · rw [World.cell?_alloc_lt w _ ⟨b, off + i, none⟩ hb]; exact hc2 i (by omega)
    · have hm : zs.getD i 0 ∈ zs := by
        rw [List.getD_eq_getElem?_getD, List.getElem?_eq_getElem (by omega)]; exact List.getElem_mem _
      exact bounds_u8 (hw _ hm)

set_option maxHeartbeats 400000 in
theorem open_any (a : Option Addr) (len cap : Nat) (zs : List Int) (w : World) (h : IsRow .u8 w a len cap zs) :
    Calls Try.prog 61 #[.slice a len cap] w (OpenPost w) := by
  have hlc : len ≤ cap ∧ cap ≤ maxLen := by
    rcases h with ⟨rfl, rfl, rfl, rfl⟩ | ⟨x, rfl, hlc, hcap, _⟩
    · unfold maxLen; omega
    · exact ⟨hlc, hcap⟩
  obtain ⟨hlc, hcap⟩ := hlc
  unfold maxLen at hcap
  by_cases hl : 2000 < len
  · have HR := Lib.hid (open_rd (n := 2000) h (by omega) (by omega))
    clear h
    go_enter Try.func61, Try.ntmps61
    go_wp2
    go_ret
    exact ⟨_, rfl, Nat.le_refl _, HR.out, (Below.refl _ _).alloc (Nat.le_refl _) _⟩
  · have HR := Lib.hid (open_rd (n := len) h (Nat.le_refl _) (by omega))
    clear h
    go_enter Try.func61, Try.ntmps61
    go_wp2
    go_ret
    exact ⟨_, rfl, Nat.le_refl _, HR.out, (Below.refl _ _).alloc (Nat.le_refl _) _⟩

end Go.Proofs.Ytldllhfadihmeaa
