/- The draw of a text. -/
import Derived.Test.YtldllhfadihmeaaDoorDraw
import Derived.Deep.RegionWith
import Derived.Laws.BytesString
import Derived.ShutString
import Derived.Orders
import Derived.WalkKit
import Derived.Test.YtldllhfadihmeaaDoorItR
import Derived.Test.YtldllhfadihmeaaDoorOwnB
import Derived.Test.YtldllhfadihmeaaDoorFvS
import Derived.Deep.AppendLies
import Derived.Laws.AppendOwn
namespace Go.Proofs.YtldllhfadihmeaaDoor
open Go.RowKit

def zero81 : Array Value := Array.replicate 81 (.int .u8 0)
def str81 : ByteArray := ⟨Array.replicate 81 0⟩
theorem make81 (w : World) : (Instr.makeSlice 32 (.int .i64 81) (.int .i64 81)).run Tryd.prog w = .ok (.slice (some ⟨w.heap.size, 0, none⟩) 81 81) (w.alloc (.cells zero81 5)) := by kernel_rfl
theorem fold81 : (List.replicate 81 (0 : Int)).foldl (fun r n => r.push (UInt8.ofNat n.toNat)) ByteArray.empty = str81 := by decide +kernel
theorem conv_of (W : World) (b : Nat) (h : W.heap[b]? = some (.cells zero81 5 (0, 0))) : (convert 32 9 (.slice (some ⟨b, 0, none⟩) 81 81)).run Tryd.prog W = .ok (.string str81) W := by
  rw [run_convert_bytes_string W _ _ 5 _ _ _ Tryd.underlying32 Tryd.underlying5 Tryd.underlying9]
  rw [run_bytesToString W ⟨b, 0, none⟩ 81 81 (List.replicate 81 0), fold81]
  have hr := run_loadCells_list (P := Tryd.prog) (w := W) ⟨b, 0, none⟩ (List.map (Value.int IntKind.u8) (List.replicate 81 0)) (fun j u hj => by
    have e : (⟨b, 0, none⟩ : Addr).add j = ⟨b, j, none⟩ := by unfold Addr.add; split <;> simp_all
    rw [e, cell_of_row W b j zero81 _ _ h]
    unfold zero81
    rw [List.map_replicate] at hj
    rw [← hj, ← Array.getElem?_toList, Array.toList_replicate])
  rw [List.length_map, List.length_replicate] at hr
  exact hr
/-- The texts of a draw that are none. -/
def bad3 : Array Value := #[.string ⟨#[10]⟩, .string str81, .string ⟨#[97, 127]⟩]
theorem bad3_row : StrRow bad3 100 := by
  intro k hk
  match k, hk with
  | 0, _ => exact ⟨_, rfl, by decide⟩
  | 1, _ => exact ⟨_, rfl, by unfold str81; simp [ByteArray.size]⟩
  | 2, _ => exact ⟨_, rfl, by decide⟩

theorem un_drew {w w2 : World} {r : Option Nat} (h : w.drew.grownBy w2 r) : w.grownBy w2 r := ⟨h.os, h.tape, h.output, h.size, h.block⟩
theorem row_one (s : ByteArray) (k : Nat) (h : bad3[k]? = some (.string s)) : ∀ W : World, (W.alloc (.cells #[.string ⟨#[10]⟩, .string str81, .string ⟨#[97, 127]⟩] 9)).cell? ⟨W.heap.size, k, none⟩ = some (.string s) :=
  fun W => (cell_of_row _ _ _ _ _ _ (heap_alloc_new W _)).trans h
theorem row_two (s : ByteArray) (k : Nat) (h : bad3[k]? = some (.string s)) : ∀ W : World, ((W.alloc (.cells zero81 5)).alloc (.cells #[.string ⟨#[10]⟩, .string str81, .string ⟨#[97, 127]⟩] 9)).cell? ⟨W.heap.size + 1, k, none⟩ = some (.string s) := fun W => by
  have := row_one s k h (W.alloc (.cells zero81 5))
  rwa [show (W.alloc (.cells zero81 5)).heap.size = W.heap.size + 1 from by simp] at this
theorem conv_kept {w w2 : World} {g : Nat} (hg : (w.alloc (.cells zero81 5)).grownBy w2 (some g)) (hlt : g < w.heap.size) : (convert 32 9 (.slice (some ⟨w.heap.size, 0, none⟩) 81 81)).run Tryd.prog w2 = .ok (.string str81) w2 :=
  conv_of _ _ ((hg.block _ (by simp) (fun e => by injection e; omega)).trans (heap_alloc_new w _))
theorem row_end {w w2 : World} {g k : Nat} {s : ByteArray} (hg : ((w.alloc (.cells zero81 5)).alloc (.cells #[.string ⟨#[10]⟩, .string str81, .string ⟨#[97, 127]⟩] 9)).grownBy w2 (some g)) (hlt : g < w.heap.size) (h : bad3[k]? = some (.string s)) : w2.cell? ⟨w.heap.size + 1, k, none⟩ = some (.string s) := by
  have h1 := row_kept hg (by simp; omega) k
  rw [show (w.alloc (.cells zero81 5)).heap.size = w.heap.size + 1 from by simp] at h1
  exact h1.trans h

theorem texts_good : StrRow #[.string ⟨#[]⟩, .string ⟨#[104, 101, 108, 108, 111, 32, 119, 111, 114, 108, 100]⟩, .string ⟨#[97, 60, 98, 62, 99, 60, 47, 98, 62, 32, 38, 32, 100]⟩, .string ⟨#[79, 110, 101, 32, 116, 104, 105, 110, 103, 46, 32, 84, 119, 111, 33]⟩, .string ⟨#[34, 120, 34]⟩, .string ⟨#[115, 101, 101, 32, 64, 97, 110, 110, 64, 114, 101, 100, 32, 97, 110, 100, 32, 35, 110, 101, 119, 115, 46]⟩, .string ⟨#[48, 49, 50, 51, 52, 53, 54, 55, 56, 57, 48, 49, 50, 51, 52, 53, 54, 55, 56, 57, 48, 49, 50, 51, 52, 53, 54, 55, 56, 57, 48, 49, 50, 51, 52, 53, 54, 55, 56, 57, 48, 49, 50, 51, 52, 53, 54, 55, 56, 57, 48, 49, 50, 51, 52, 53, 54, 55, 56, 57, 48, 49, 50, 51, 52, 53, 54, 55, 56, 57, 48, 49, 50, 51, 52, 53, 54, 55, 56, 57]⟩] 100 := by
  intro k hk
  match k, hk with
  | 0, _ => exact ⟨_, rfl, by decide⟩
  | 1, _ => exact ⟨_, rfl, by decide⟩
  | 2, _ => exact ⟨_, rfl, by decide⟩
  | 3, _ => exact ⟨_, rfl, by decide⟩
  | 4, _ => exact ⟨_, rfl, by decide⟩
  | 5, _ => exact ⟨_, rfl, by decide⟩
  | 6, _ => exact ⟨_, rfl, by decide⟩

set_option maxHeartbeats 1000000 in
theorem text_any (g P : Nat) (n : Int) (w : World) (hr : Rd w g P) (hP : P ≤ 900000) (hn : n ≤ 1000000) :
    Calls Tryd.prog 66 #[.pointer (some ⟨g, 0, none⟩), .int .i64 n] w (StrPost w g (P + 2) 100) := by
  go_enter Tryd.func66, Tryd.ntmps66
  go_wp2_with fail
  refine (odd_any g P _ _ hr (by omega) hn).mono ?_
  rintro e w1 ⟨b, rfl, hr1, hg1⟩
  have hlt := hr1.lt
  cases b
  · go_wp2_with fail
    refine (pick_any g (P + 1) _ _ (hr1.alloc _) (by omega)).mono ?_
    rintro e w2 ⟨v, rfl, v0, v1, hr2, hg2⟩
    have v2 := v1 (by omega)
    clear v1
    obtain ⟨k, rfl⟩ := Int.eq_ofNat_of_zero_le v0
    obtain ⟨s, hs, hsz⟩ := row_str hg2 hlt texts_good k (by simp; omega)
    go_wp2
    go_ret
    exact ⟨s, rfl, hsz, hr2, grown_trans hg1 (grown_trans (World.grownBy_alloc _ _ _) hg2)⟩
  · have hmk := make81
    have hcv1 : ∀ W : World, (convert 32 9 (.slice (some ⟨W.heap.size, 0, none⟩) 81 81)).run Tryd.prog (W.alloc (.cells zero81 5)) = .ok (.string str81) (W.alloc (.cells zero81 5)) := fun W => conv_of _ _ (heap_alloc_new W _)
    have hcv2 : ∀ W : World, (convert 32 9 (.slice (some ⟨W.heap.size, 0, none⟩) 81 81)).run Tryd.prog (W.alloc (.cells zero81 5)).drew = .ok (.string str81) (W.alloc (.cells zero81 5)).drew := fun W => conv_of _ _ (heap_alloc_new W _)
    go_wp2_with fail
    go_region_with (go_at_call 47; refine (pick_any g (P + 1) _ _ ?_ (by omega)).mono ?_; (first | exact hr1 | exact hr1.alloc _ | exact (hr1.alloc _).alloc _); rintro e w2 ⟨v, rfl, v0, v1, hr2, hg2⟩; have v2 := v1 (by omega); clear v1; obtain ⟨k, rfl⟩ := Int.eq_ofNat_of_zero_le v0; obtain ⟨s, hs, hsz⟩ := bad3_row k (by show k < 3; omega); have F1 := row_two s k hs; have F2 := row_one s k hs; (try have F3 := conv_kept (un_drew hg2) hlt); (try have F5 := row_end (un_drew hg2) hlt hs))
    all_goals
      go_wp2
      go_ret
      refine ⟨s, rfl, hsz, ?_, grown_trans hg1 ?_⟩
      · first
          | exact hr2
          | exact hr2.alloc _
          | exact (hr2.alloc _).alloc _
      · first
          | exact grown_trans (grown_alloc (World.grownBy_alloc w1 _ _) _) (un_drew hg2)
          | exact grown_alloc (grown_trans (World.grownBy_alloc w1 _ _) (un_drew hg2)) _
          | exact grown_alloc (grown_alloc (un_drew hg2) _) _

end Go.Proofs.YtldllhfadihmeaaDoor

/- What a draw of a text leaves behind; alive. -/
namespace Go.Proofs.YtldllhfadihmeaaDoor
open Go.RowKit

/-- What a draw of a text out of a code leaves behind. -/
def TextDrawn (w : World) (B : Nat) (e : Ending) (w' : World) : Prop :=
  ∃ s : ByteArray, e = .returned (.string s) ∧ s.size ≤ B ∧ Below w.heap.size w w'

/-- The fixed answers that alive asks for. -/
theorem alive_a1 : wordV [97, 49] = true := by decide
theorem alive_1a : wordV [49, 97] = false := by decide
set_option maxHeartbeats 400000 in
theorem alive_any (w : World) :
    Calls Tryd.prog 22 #[] w fun e w' => e = .returned (.bool true) ∧ w = w' := by
  have h1 := alive_a1
  have h2 := alive_1a
  go_enter Tryd.func22, Tryd.ntmps22
  go_wp2_with (go_at_call 51; refine (impl_wordValid _ _ (by decide)).mono ?_; rintro e w' ⟨rfl, rfl⟩)
  go_ret
  exact ⟨rfl, rfl⟩

end Go.Proofs.YtldllhfadihmeaaDoor

/- Rows of numbers and of texts behind a draw. No condition. -/
namespace Go.Proofs.YtldllhfadihmeaaDoor
open Go.RowKit

/-- A row of numbers that was just laid. -/
def IntRow (cs : Array Value) (lo hi : Int) : Prop := ∀ k, k < cs.size → ∃ v : Int, cs[k]? = some (.int .i64 v) ∧ lo ≤ v ∧ v ≤ hi
theorem intRow_list {lo hi : Int} (l : List Int) (h : ∀ x ∈ l, lo ≤ x ∧ x ≤ hi) : IntRow (l.map (Value.int .i64)).toArray lo hi := by
  intro k hk
  simp at hk
  exact ⟨l[k], by simp [List.getElem?_map, List.getElem?_eq_getElem hk], h _ (List.getElem_mem hk)⟩
theorem row_int {W w2 : World} {j g k : Nat} {t : TypeId} {cs : Array Value} {lo hi : Int} (hg : W.grownBy w2 (some g)) (hj : W.heap[j]? = some (.cells cs t (0, 0))) (hne : j ≠ g) (hr : IntRow cs lo hi) (hk : k < cs.size) :
    ∃ v : Int, w2.cell? ⟨j, k, none⟩ = some (.int .i64 v) ∧ lo ≤ v ∧ v ≤ hi := by
  obtain ⟨v, h1, h2⟩ := hr k hk
  have hlt := (Array.getElem?_eq_some_iff.1 hj).1
  refine ⟨v, ?_, h2⟩
  rw [World.cell?_of_block (w := W) (a := ⟨j, k, none⟩) (hg.block j hlt (fun e => hne (by injection e)))]
  exact (cell_of_row _ _ _ _ _ _ hj).trans h1
theorem two_first (w : World) (A B : Obj) : ((w.alloc A).alloc B).heap[w.heap.size]? = some A := by
  rw [Below.heap_alloc _ _ _ (by simp)]; exact heap_alloc_new _ _
theorem two_second (w : World) (A B : Obj) : ((w.alloc A).alloc B).heap[w.heap.size + 1]? = some B := by
  rw [← show (w.alloc A).heap.size = w.heap.size + 1 from by simp]; exact heap_alloc_new _ _
/-- What a draw of a number out of a code leaves behind. -/
def IntDrawn (w : World) (lo hi : Int) (e : Ending) (w' : World) : Prop :=
  ∃ v : Int, e = .returned (.int .i64 v) ∧ lo ≤ v ∧ v ≤ hi ∧ Below w.heap.size w w'

theorem strRow_list {B : Nat} (l : List ByteArray) (h : ∀ x ∈ l, x.size ≤ B) : StrRow (l.map Value.string).toArray B := by
  intro k hk
  simp at hk
  exact ⟨l[k], by simp [List.getElem?_map, List.getElem?_eq_getElem hk], h _ (List.getElem_mem hk)⟩


end Go.Proofs.YtldllhfadihmeaaDoor

/- The draw of a day. -/
namespace Go.Proofs.YtldllhfadihmeaaDoor
open Go.RowKit

set_option maxHeartbeats 1000000 in
theorem day_any (g P : Nat) (w : World) (hr : Rd w g P) (hP : P ≤ 900000) :
    Calls Tryd.prog 67 #[.pointer (some ⟨g, 0, none⟩)] w (IntPost w g (P + 4) 0 2000000) := by
  go_enter Tryd.func67, Tryd.ntmps67
  go_wp2_with fail
  refine (pick_any g P _ _ hr (by omega)).mono ?_
  rintro e w2 ⟨x, rfl, x0, x1, hr2, hg2⟩
  have x2 := x1 (by omega)
  clear x1
  go_wp2_with fail
  refine (pick_any g (P + 1) _ _ hr2 (by omega)).mono ?_
  rintro e w3 ⟨y, rfl, y0, y1, hr3, hg3⟩
  have y2 := y1 (by omega)
  clear y1
  go_wp2_with fail
  refine (pick_any g (P + 2) _ _ hr3 (by omega)).mono ?_
  rintro e w4 ⟨z, rfl, z0, z1, hr4, hg4⟩
  have z2 := z1 (by omega)
  clear z1
  have hlt := hr4.lt
  go_wp2_with fail
  refine (pick_any g (P + 3) _ _ ((hr4.alloc _).alloc _) (by omega)).mono ?_
  rintro e w5 ⟨k, rfl, k0, k1, hr5, hg5⟩
  have k2 := k1 (by omega)
  clear k1
  obtain ⟨k, rfl⟩ := Int.eq_ofNat_of_zero_le k0
  obtain ⟨i, hi, i0, i1⟩ := row_int (j := w4.heap.size + 1) (k := k) hg5 (two_second _ _ _) (by omega) (intRow_list (lo := 0) (hi := 3) [0, 0, 0, 1, 2, 3] (by simp)) (by simp; omega)
  obtain ⟨i, rfl⟩ := Int.eq_ofNat_of_zero_le i0
  obtain ⟨v, hv, v0, v1⟩ := row_int (j := w4.heap.size) (k := i) hg5 (two_first _ _ _) (by omega) (intRow_list (lo := 0) (hi := 2000000) [738000 + x * 7, y * 5000, 0, 1460969 - z] (by simp; omega)) (by simp; omega)
  go_wp2
  go_ret
  exact ⟨v, rfl, v0, v1, hr5, grown_trans hg2 (grown_trans hg3 (grown_trans hg4 (grown_trans (grown_alloc (World.grownBy_alloc w4 _ _) _) hg5)))⟩

end Go.Proofs.YtldllhfadihmeaaDoor

/- A region that draws its order, by an invariant: whatever the order, each operation that comes up keeps the invariant. No program. No condition. -/
namespace Go.Proofs.YtldllhfadihmeaaDoor
open Go.RowKit

/-- How many operations are not listed yet. -/
def unlisted (n : Nat) (L : Array Bool) : Nat := (List.range n).countP (fun i => !L.getD i true)
theorem countP_less {α : Type} {p q : α → Bool} : ∀ (l : List α), (∀ x ∈ l, q x = true → p x = true) → (∃ x ∈ l, p x = true ∧ q x = false) → l.countP q < l.countP p
  | [], _, h => by obtain ⟨x, hx, _⟩ := h; simp at hx
  | y :: l, h1, h2 => by
    have hle : l.countP q ≤ l.countP p := List.countP_mono_left (fun x hx => h1 x (List.mem_cons_of_mem _ hx))
    rw [List.countP_cons, List.countP_cons]
    obtain ⟨x, hx, px, qx⟩ := h2
    rcases List.mem_cons.1 hx with rfl | hx
    · rw [px, qx]; simp; omega
    · have := countP_less l (fun x hx => h1 x (List.mem_cons_of_mem _ hx)) ⟨x, hx, px, qx⟩
      have hy := h1 y (List.mem_cons_self ..)
      cases hq : q y
      · simp; omega
      · rw [hy hq]; simp; omega
theorem unlisted_set {n i : Nat} {L : Array Bool} (hi : i < n) (h : L.getD i true = false) : unlisted n (L.setIfInBounds i true) < unlisted n L := by
  refine countP_less _ (fun x _ hx => ?_) ⟨i, List.mem_range.2 hi, by rw [h]; rfl, ?_⟩
  · by_cases e : i = x
    · subst e; rw [h]; rfl
    · rwa [getD_set_ne true e] at hx
  · have hlt : i < L.size := by
      rcases Nat.lt_or_ge i L.size with h' | h'
      · exact h'
      · simp [Array.getElem?_eq_none h'] at h
    simp [hlt]
/-- THE LAW: an invariant that each operation keeps, in whatever order. -/
theorem wpAny_inv {P : Program} {md : Region.Mode} {ops : Array Oper} {Q : Exit → Act → World → Prop} (Inv : Array Bool → Act → World → Prop)
    (hstep : ∀ L a w i, Inv L a w → i ∈ Region.ready md ops L → ∀ K : Act → World → Prop, (∀ a' w', Inv (L.setIfInBounds i true) a' w' → K a' w') → wpOp P ops Q i K a w)
    (hend : ∀ L a w, Inv L a w → Region.ready md ops L = [] → Q .normal a w) :
    ∀ (fuel : Nat) (L : Array Bool) (a : Act) (w : World), Inv L a w → unlisted ops.size L ≤ fuel → wpAny P md ops Q fuel L a w := by
  intro fuel
  induction fuel with
  | zero =>
    intro L a w hI hu
    have hr : Region.ready md ops L = [] := by
      rw [List.eq_nil_iff_forall_not_mem]
      intro i hi
      rw [mem_ready] at hi
      obtain ⟨h0, o, ho, _⟩ := hi
      have hlt : i < ops.size := (Array.getElem?_eq_some_iff.1 ho).1
      have := unlisted_set hlt h0
      omega
    exact ⟨hr, hend L a w hI hr⟩
  | succ n ih =>
    intro L a w hI hu
    refine ⟨fun hr => hend L a w hI hr, fun i hi => ?_⟩
    refine hstep L a w i hI hi _ (fun a' w' hI' => ih _ _ _ hI' ?_)
    rw [mem_ready] at hi
    obtain ⟨h0, o, ho, _⟩ := hi
    have hlt : i < ops.size := (Array.getElem?_eq_some_iff.1 ho).1
    have := unlisted_set hlt h0
    omega
/-- Where every edge goes from an earlier operation to a later one, nothing is left unlisted at the end. -/
theorem ready_nil {md : Region.Mode} {ops : Array Oper} {L : Array Bool} (hfwd : ∀ (i : Nat) (o : Oper), ops[i]? = some o → ∀ e ∈ o.after, e.on < i) (hsz : L.size = ops.size) (hr : Region.ready md ops L = []) : ∀ i, i < ops.size → L.getD i false = true := by
  intro i
  induction i using Nat.strongRecOn with
  | ind i ih =>
    intro hi
    cases h : L.getD i false
    · exfalso
      have : i ∈ Region.ready md ops L := by
        rw [mem_ready]
        refine ⟨?_, ops[i], Array.getElem?_eq_getElem hi, fun e he _ => ?_⟩
        · have hl : i < L.size := by omega
          simp [hl] at h ⊢
          exact h
        · have := hfwd i ops[i] (Array.getElem?_eq_getElem hi) e he
          exact ih e.on this (by omega)
      rw [hr] at this
      cases this
    · rfl
theorem wp_region_inv {P : Program} {id : Nat} {ops : Array Oper} {Q : Exit → Act → World → Prop} {a : Act} {w : World} (hm : P.follows .mixedOrders = true) (Inv : Array Bool → Act → World → Prop)
    (h0 : Inv (Array.replicate ops.size false) a w.drew)
    (hstep : ∀ L a w i, Inv L a w → i ∈ Region.ready .any ops L → ∀ K : Act → World → Prop, (∀ a' w', Inv (L.setIfInBounds i true) a' w' → K a' w') → wpOp P ops Q i K a w)
    (hend : ∀ L a w, Inv L a w → Region.ready .any ops L = [] → Q .normal a w) : (Code.region id ops true).wp P Q a w :=
  wp_region_any hm (wpAny_inv Inv hstep hend _ _ _ _ h0 (by
    unfold unlisted
    exact Nat.le_trans List.countP_le_length (by simp)))
theorem wpOp_of {P : Program} {ops : Array Oper} {Q : Exit → Act → World → Prop} {i : Nat} {o : Oper} {K : Act → World → Prop} {a : Act} {w : World} (ho : ops[i]? = some o) (hg : o.guard = none) (h : o.wp P a w K Q) : wpOp P ops Q i K a w := by
  unfold wpOp
  rw [ho]
  have : Region.wanted o (yielded ops a.tmps) = true := by
    unfold Region.wanted
    rw [hg]
  simp only [this, if_true]
  exact .inl h
end Go.Proofs.YtldllhfadihmeaaDoor

/- The draw of an item. -/
namespace Go.Proofs.YtldllhfadihmeaaDoor
open Go.RowKit

def arrK : Array Value := #[.string ⟨#[107, 49]⟩, .string ⟨#[107, 50]⟩, .string ⟨#[107, 51]⟩, .string ⟨#[107, 52]⟩, .string ⟨#[107, 53]⟩]
def arrT : Array Value := #[.string ⟨#[78, 101, 119, 115]⟩, .string ⟨#[65, 32, 38, 32, 66]⟩, .string ⟨#[116]⟩]
theorem arrK_row : StrRow arrK 100 := by
  intro k hk
  match k, hk with
  | 0, _ => exact ⟨_, rfl, by decide⟩
  | 1, _ => exact ⟨_, rfl, by decide⟩
  | 2, _ => exact ⟨_, rfl, by decide⟩
  | 3, _ => exact ⟨_, rfl, by decide⟩
  | 4, _ => exact ⟨_, rfl, by decide⟩
theorem arrT_row : StrRow arrT 100 := by
  intro k hk
  match k, hk with
  | 0, _ => exact ⟨_, rfl, by decide⟩
  | 1, _ => exact ⟨_, rfl, by decide⟩
  | 2, _ => exact ⟨_, rfl, by decide⟩
/-- An item that a draw gives. -/
def okI (i : It) : Prop := i.key.size ≤ 100 ∧ i.title.size ≤ 100 ∧ i.body.size ≤ 100
/-- What an operation of the draw's region yields. -/
def DiOf (g B j : Nat) (v : Value) (w : World) : Prop :=
  match j with
  | 0 => ∃ b, v = .slice (some ⟨b, 0, none⟩) 5 5 ∧ w.heap[b]? = some (.cells arrK 9 (0, 0)) ∧ B ≤ b
  | 1 => v = .pointer (some ⟨g, 0, none⟩)
  | 2 => ∃ k : Nat, v = .int .i64 k ∧ k < 5
  | 3 => ∃ b k, v = .pointer (some ⟨b, k, none⟩) ∧ k < 5 ∧ w.heap[b]? = some (.cells arrK 9 (0, 0)) ∧ B ≤ b
  | 4 => ∃ s, v = .string s ∧ s.size ≤ 100
  | 5 => ∃ b, v = .slice (some ⟨b, 0, none⟩) 3 3 ∧ w.heap[b]? = some (.cells arrT 9 (0, 0)) ∧ B ≤ b
  | 6 => v = .pointer (some ⟨g, 0, none⟩)
  | 7 => ∃ k : Nat, v = .int .i64 k ∧ k < 3
  | 8 => ∃ b k, v = .pointer (some ⟨b, k, none⟩) ∧ k < 3 ∧ w.heap[b]? = some (.cells arrT 9 (0, 0)) ∧ B ≤ b
  | 9 => ∃ s, v = .string s ∧ s.size ≤ 100
  | 10 => v = .pointer (some ⟨g, 0, none⟩)
  | 11 => ∃ s, v = .string s ∧ s.size ≤ 100
  | 12 => v = .pointer (some ⟨g, 0, none⟩)
  | 13 => ∃ d : Int, v = .int .i64 d
  | 14 => ∃ i : It, v = .agg #[.string i.key, .string i.title, .string i.body, .int .i64 i.day] ∧ okI i
  | 15 => ∃ b c0 c1 c2 c3, v = .pointer (some ⟨b, 0, none⟩) ∧ w.heap[b]? = some (.cells #[c0, c1, c2, c3] 41 (0, 0)) ∧ B ≤ b
  | _ => True
theorem heap_kept {w w' : World} {g b : Nat} {o : Obj} (hg : w.grownBy w' (some g)) (h : w.heap[b]? = some o) (hne : g < b) : w'.heap[b]? = some o :=
  (hg.block _ (Array.getElem?_eq_some_iff.1 h).1 (fun e => by injection e; omega)).trans h
theorem DiOf.kept {g B j : Nat} {v : Value} {w w' : World} (h : DiOf g B j v w) (hg : w.grownBy w' (some g)) (hB : g < B) : DiOf g B j v w' := by
  match j with
  | 0 => obtain ⟨b, h1, h2, h3⟩ := h; exact ⟨b, h1, heap_kept hg h2 (by omega), h3⟩
  | 1 => exact h
  | 2 => exact h
  | 3 => obtain ⟨b, k, h1, h0, h2, h3⟩ := h; exact ⟨b, k, h1, h0, heap_kept hg h2 (by omega), h3⟩
  | 4 => exact h
  | 5 => obtain ⟨b, h1, h2, h3⟩ := h; exact ⟨b, h1, heap_kept hg h2 (by omega), h3⟩
  | 6 => exact h
  | 7 => exact h
  | 8 => obtain ⟨b, k, h1, h0, h2, h3⟩ := h; exact ⟨b, k, h1, h0, heap_kept hg h2 (by omega), h3⟩
  | 9 => exact h
  | 10 => exact h
  | 11 => exact h
  | 12 => exact h
  | 13 => exact h
  | 14 => exact h
  | 15 => obtain ⟨b, c0, c1, c2, c3, h1, h2, h3⟩ := h; exact ⟨b, c0, c1, c2, c3, h1, heap_kept hg h2 (by omega), h3⟩
  | _ + 16 => trivial
/-- The slot of an operation. -/
def slI (j : Nat) : Nat := if j = 15 then 5 else if j = 16 then 99 else j + 6
theorem slI_ne {i j : Nat} (hi : i < 17) (hj : j < 16) (h : j ≠ i) : slI j ≠ slI i := by
  unfold slI
  split <;> split <;> (try split) <;> (try split) <;> omega
/-- The frame in the draw's region. -/
def mkI_act (g : Nat) (n : Int) (b4 : Nat) (u : Nat → Value) : Act :=
  { tmps := #[.pointer (some ⟨g, 0, none⟩), .int .i64 n, undef, undef, .pointer (some ⟨b4, 0, none⟩), u 5, u 6, u 7, u 8, u 9, u 10, u 11, u 12, u 13, u 14, u 15, u 16, u 17, u 18, u 19, u 20, undef, undef, undef, undef, undef, undef, undef, undef, undef, undef, undef, undef, undef, undef, undef, undef, undef, undef, undef, undef, undef, undef, undef, undef, undef, undef, undef, undef, undef, undef], defers := [] }
/-- How much the calls that are listed have read. -/
def cntI (L : Array Bool) : Nat := (if L.getD 2 false = true then 1 else 0) + (if L.getD 7 false = true then 1 else 0) + (if L.getD 11 false = true then 2 else 0) + (if L.getD 13 false = true then 4 else 0)
/-- The invariant of the draw's region. -/
def DiInv (g P b4 B : Nat) (n : Int) (w0 : World) (L : Array Bool) (a : Act) (w : World) : Prop :=
  ∃ u : Nat → Value, a = mkI_act g n b4 u ∧ L.size = 17 ∧ w0.grownBy w (some g) ∧ Rd w g (P + cntI L) ∧
    (L.getD 16 false = false → ∀ j, j < 16 → L.getD j false = true → DiOf g B j (u (slI j)) w) ∧
    (L.getD 16 false = true → (∀ j, j < 17 → L.getD j false = true) ∧ ∃ b i, u 5 = .pointer (some ⟨b, 0, none⟩) ∧ B ≤ b ∧ okI i ∧ w.heap[b]? = some (.cells #[.string i.key, .string i.title, .string i.body, .int .i64 i.day] 41 (0, 0)))
/-- One more operation is listed. -/
theorem DiInv.step {g P b4 B : Nat} {n : Int} {w0 : World} {L : Array Bool} {u : Nat → Value} {w w' : World} {i : Nat} {v : Value} (hB : g < B) (hi : i < 16) (hsz : L.size = 17) (hG : w0.grownBy w (some g)) (h16 : L.getD 16 false = false)
    (hF : ∀ j, j < 16 → L.getD j false = true → DiOf g B j (u (slI j)) w) (hv : DiOf g B i v w') (hg : w.grownBy w' (some g)) (hR : Rd w' g (P + cntI (L.setIfInBounds i true))) :
    DiInv g P b4 B n w0 (L.setIfInBounds i true) (mkI_act g n b4 (fun s => if s = slI i then v else u s)) w' := by
  refine ⟨_, rfl, by simpa using hsz, grown_trans hG hg, hR, fun _ j hj hl => ?_, fun h => ?_⟩
  · by_cases e : j = i
    · subst e
      show DiOf g B j (if slI j = slI j then v else u (slI j)) w'
      rw [if_pos rfl]; exact hv
    · show DiOf g B j (if slI j = slI i then v else u (slI j)) w'
      rw [if_neg (slI_ne (by omega) hj e)]
      rw [getD_set_ne false (Ne.symm e)] at hl
      exact (hF j hj hl).kept hg hB
  · rw [getD_set_ne false (by omega), h16] at h; cases h

theorem getD_not {L : Array Bool} {i : Nat} (hsz : i < L.size) (h : L.getD i true = false) : L.getD i false = false := by
  simp [hsz] at h ⊢
  exact h
theorem cntI_same {L : Array Bool} {i : Nat} (h2 : i ≠ 2) (h7 : i ≠ 7) (h11 : i ≠ 11) (h13 : i ≠ 13) : cntI (L.setIfInBounds i true) = cntI L := by
  unfold cntI
  rw [getD_set_ne false h2, getD_set_ne false h7, getD_set_ne false h11, getD_set_ne false h13]
theorem getD_set_here {L : Array Bool} {i : Nat} (h : i < L.size) : (L.setIfInBounds i true).getD i false = true := by simp [h]
theorem cntI_2 {L : Array Bool} (hsz : L.size = 17) (h : L.getD 2 true = false) : cntI (L.setIfInBounds 2 true) = cntI L + 1 := by
  unfold cntI
  rw [getD_set_here (by omega), getD_set_ne false (by decide : 2 ≠ 7), getD_set_ne false (by decide : 2 ≠ 11), getD_set_ne false (by decide : 2 ≠ 13), getD_not (by omega) h]
  simp; omega
theorem cntI_7 {L : Array Bool} (hsz : L.size = 17) (h : L.getD 7 true = false) : cntI (L.setIfInBounds 7 true) = cntI L + 1 := by
  unfold cntI
  rw [getD_set_here (by omega), getD_set_ne false (by decide : 7 ≠ 2), getD_set_ne false (by decide : 7 ≠ 11), getD_set_ne false (by decide : 7 ≠ 13), getD_not (by omega) h]
  simp; omega
theorem cntI_11 {L : Array Bool} (hsz : L.size = 17) (h : L.getD 11 true = false) : cntI (L.setIfInBounds 11 true) = cntI L + 2 := by
  unfold cntI
  rw [getD_set_here (by omega), getD_set_ne false (by decide : 11 ≠ 2), getD_set_ne false (by decide : 11 ≠ 7), getD_set_ne false (by decide : 11 ≠ 13), getD_not (by omega) h]
  simp; omega
theorem cntI_13 {L : Array Bool} (hsz : L.size = 17) (h : L.getD 13 true = false) : cntI (L.setIfInBounds 13 true) = cntI L + 4 := by
  unfold cntI
  rw [getD_set_here (by omega), getD_set_ne false (by decide : 13 ≠ 2), getD_set_ne false (by decide : 13 ≠ 7), getD_set_ne false (by decide : 13 ≠ 11), getD_not (by omega) h]
  simp
theorem cntI_le (L : Array Bool) : cntI L ≤ 8 := by
  unfold cntI
  repeat' split
  all_goals omega
theorem cntI_zero : cntI (Array.replicate 17 false) = 0 := by decide
theorem cells4 {w : World} {b : Nat} {c0 c1 c2 c3 : Value} {t : TypeId} (h : w.heap[b]? = some (.cells #[c0, c1, c2, c3] t (0, 0))) :
    w.cell? ⟨b, 0, none⟩ = some c0 ∧ w.cell? ⟨b, 1, none⟩ = some c1 ∧ w.cell? ⟨b, 2, none⟩ = some c2 ∧ w.cell? ⟨b, 3, none⟩ = some c3 ∧
    w.frozen? ⟨b, 0, none⟩ = false ∧ w.frozen? ⟨b, 1, none⟩ = false ∧ w.frozen? ⟨b, 2, none⟩ = false ∧ w.frozen? ⟨b, 3, none⟩ = false := by
  refine ⟨?_, ?_, ?_, ?_, ?_, ?_, ?_, ?_⟩ <;> simp [World.cell?, World.frozen?, h]
theorem heap_kept' {w w' : World} {j b : Nat} {o : Obj} (hg : w.grownBy w' (some j)) (h : w.heap[b]? = some o) (hne : ¬ b = j) : w'.heap[b]? = some o :=
  (hg.block _ (Array.getElem?_eq_some_iff.1 h).1 (fun e => by injection e with e; exact hne e)).trans h
theorem grown_ownI {w a b : World} {g : Nat} {row : Option Nat} (h : w.grownBy a (some g)) (k : a.grownBy b row) (hr : ∀ j, row = some j → w.heap.size ≤ j) : w.grownBy b (some g) :=
  ⟨k.os.trans h.os, k.tape.trans h.tape, k.output.trans h.output, Nat.le_trans h.size k.size, fun i hi hne => (k.block i (Nat.lt_of_lt_of_le hi h.size) (fun e => by have := hr i e.symm; omega)).trans (h.block i hi hne)⟩
theorem stored4 {w : World} {b : Nat} {c0 c1 c2 c3 : Value} {t : TypeId} (h : w.heap[b]? = some (.cells #[c0, c1, c2, c3] t (0, 0))) (d0 d1 d2 d3 : Value) :
    ((((w.setCell ⟨b, 0, none⟩ d0).setCell ⟨b, 1, none⟩ d1).setCell ⟨b, 2, none⟩ d2).setCell ⟨b, 3, none⟩ d3).heap[b]? = some (.cells #[d0, d1, d2, d3] t (0, 0)) ∧
    w.grownBy ((((w.setCell ⟨b, 0, none⟩ d0).setCell ⟨b, 1, none⟩ d1).setCell ⟨b, 2, none⟩ d2).setCell ⟨b, 3, none⟩ d3) (some b) := by
  constructor
  · simp [World.setCell, Array.getElem?_modify, h]
  · exact grown_trans (grown_trans (grown_trans (grown_set _ _ _ _) (grown_set _ _ _ _)) (grown_set _ _ _ _)) (grown_set _ _ _ _)

set_option maxRecDepth 100000 in
set_option maxHeartbeats 2000000 in
theorem item_any (g P : Nat) (n : Int) (w : World) (hr : Rd w g P) (hP : P ≤ 800000) (hn : n ≤ 1000000) :
    Calls Tryd.prog 48 #[.pointer (some ⟨g, 0, none⟩), .int .i64 n] w (fun e w' => (∃ i : It, e = .returned (.agg #[.string i.key, .string i.title, .string i.body, .int .i64 i.day]) ∧ okI i) ∧ Rd w' g (P + 12) ∧ w.grownBy w' (some g)) := by
  have hlt0 := hr.lt
  have hm : Tryd.prog.follows .mixedOrders = true := by kernel_rfl
  go_enter Tryd.func48, Tryd.ntmps48
  go_wp2_with fail
  rename_i K0 hK0
  refine wp_region_inv hm (DiInv g P w.heap.size (w.heap.size + 1) n (w.alloc (.cells #[.string ⟨#[]⟩, .string ⟨#[]⟩, .string ⟨#[]⟩, .int .i64 0] 41))) ?_ ?_ ?_
  · refine ⟨fun _ => undef, rfl, by simp, ⟨rfl, rfl, rfl, Nat.le_refl _, fun _ _ _ => rfl⟩, ?_, fun _ j hj h => ?_, fun h => ?_⟩
    · exact (hr.alloc _).mono (Nat.le_add_right _ _)
    · simp at h
      have : j < 17 := by omega
      simp [this] at h
    · simp at h
  · rintro L a w1 i ⟨u, rfl, hsz, hG, hR, hF, hE⟩ hi K hK
    clear hK0
    rw [mem_ready] at hi
    obtain ⟨h0, o, ho, hd⟩ := hi
    have hi17 : i < 17 := (Array.getElem?_eq_some_iff.1 ho).1
    have h16 : L.getD 16 false = false := by
      cases h : L.getD 16 false
      · rfl
      · have := (hE h).1 i hi17
        have hl : i < L.size := by omega
        simp [hl] at h0 this
        rw [h0] at this; cases this
    have hF' := hF h16
    clear hF hE
    have hF2 : ∀ j, j < 16 → L[j]?.getD false = true → DiOf g (w.heap.size + 1) j (u (slI j)) w1 := fun j hj h => hF' j hj (by simpa using h)
    have hB : g < w.heap.size + 1 := by omega
    have hBs : w.heap.size + 1 ≤ w1.heap.size := by have := hG.size; simpa using this
    have hc8 := cntI_le L
    obtain rfl | rfl | rfl | rfl | rfl | rfl | rfl | rfl | rfl | rfl | rfl | rfl | rfl | rfl | rfl | rfl | rfl : i = 0 ∨ i = 1 ∨ i = 2 ∨ i = 3 ∨ i = 4 ∨ i = 5 ∨ i = 6 ∨ i = 7 ∨ i = 8 ∨ i = 9 ∨ i = 10 ∨ i = 11 ∨ i = 12 ∨ i = 13 ∨ i = 14 ∨ i = 15 ∨ i = 16 := by omega
    · refine wpOp_of ho (by simp at ho; rw [← ho]) ?_
      simp at ho
      subst ho
      simp [Region.binds] at hd
      unfold mkI_act
      go_simp
      exact hK _ _ (DiInv.step (i := 0) (v := .slice (some ⟨w1.heap.size, 0, none⟩) 5 5) hB (by omega) hsz hG h16 hF' ⟨w1.heap.size, rfl, heap_alloc_new _ _, hBs⟩ (World.grownBy_alloc w1 _ (some g)) (by rw [cntI_same (by omega) (by omega) (by omega) (by omega)]; exact hR.alloc _))
    · refine wpOp_of ho (by simp at ho; rw [← ho]) ?_
      simp at ho
      subst ho
      simp [Region.binds] at hd
      unfold mkI_act
      go_simp
      exact hK _ _ (DiInv.step (i := 1) (v := .pointer (some ⟨g, 0, none⟩)) hB (by omega) hsz hG h16 hF' rfl (World.grownBy.refl w1 _) (by rw [cntI_same (by omega) (by omega) (by omega) (by omega)]; exact hR))
    · refine wpOp_of ho (by simp at ho; rw [← ho]) ?_
      simp at ho
      subst ho
      simp [Region.binds] at hd
      unfold mkI_act
      obtain h1 : u 7 = _ := hF2 1 (by omega) hd
      go_simp
      refine (pick_any g (P + cntI L) _ _ hR (by omega)).mono ?_
      rintro e w2 ⟨v, rfl, v0, v1, hr2, hg2⟩
      have v2 := v1 (by omega)
      obtain ⟨k, rfl⟩ := Int.eq_ofNat_of_zero_le v0
      have hzz := hK _ _ (DiInv.step (i := 2) (v := .int .i64 (k : Int)) hB (by omega) hsz hG h16 hF' ⟨k, rfl, by omega⟩ (hg2) (by rw [cntI_2 hsz h0]; exact hr2))
      simp [mkI_act, slI, h1] at hzz
      exact hzz
    · refine wpOp_of ho (by simp at ho; rw [← ho]) ?_
      simp at ho
      subst ho
      simp [Region.binds] at hd
      unfold mkI_act
      obtain ⟨b, hb, hh, hbB⟩ := hF2 0 (by omega) hd.1
      obtain ⟨k, hk, hk5⟩ := hF2 2 (by omega) hd.2
      have hb : u 6 = _ := hb
      have hk : u 8 = _ := hk
      have q1 : (k : Int) < 5 := by omega
      go_simp
      have hzz := hK _ _ (DiInv.step (i := 3) (v := .pointer (some ⟨b, k, none⟩)) hB (by omega) hsz hG h16 hF' ⟨b, k, rfl, hk5, hh, hbB⟩ (World.grownBy.refl w1 _) (by rw [cntI_same (by omega) (by omega) (by omega) (by omega)]; exact hR))
      simp [mkI_act, slI, hb, hk] at hzz
      exact hzz
    · simp at ho
      subst ho
      simp [Region.binds] at hd
      obtain ⟨b, k, hb, hk5, hh, hbB⟩ := hF2 3 (by omega) hd
      have hb : u 9 = _ := hb
      obtain ⟨s, hs, hssz⟩ := arrK_row k hk5
      have hc : w1.cell? ⟨b, k, none⟩ = some (.string s) := (cell_of_row _ _ _ _ _ _ hh).trans hs
      refine wpOp_of rfl rfl ?_
      unfold mkI_act
      go_simp
      have hzz := hK _ _ (DiInv.step (i := 4) (v := .string s) hB (by omega) hsz hG h16 hF' ⟨s, rfl, hssz⟩ (World.grownBy.refl w1 _) (by rw [cntI_same (by omega) (by omega) (by omega) (by omega)]; exact hR))
      simp [mkI_act, slI, hb] at hzz
      exact hzz
    · refine wpOp_of ho (by simp at ho; rw [← ho]) ?_
      simp at ho
      subst ho
      simp [Region.binds] at hd
      unfold mkI_act
      go_simp
      exact hK _ _ (DiInv.step (i := 5) (v := .slice (some ⟨w1.heap.size, 0, none⟩) 3 3) hB (by omega) hsz hG h16 hF' ⟨w1.heap.size, rfl, heap_alloc_new _ _, hBs⟩ (World.grownBy_alloc w1 _ (some g)) (by rw [cntI_same (by omega) (by omega) (by omega) (by omega)]; exact hR.alloc _))
    · refine wpOp_of ho (by simp at ho; rw [← ho]) ?_
      simp at ho
      subst ho
      simp [Region.binds] at hd
      unfold mkI_act
      go_simp
      exact hK _ _ (DiInv.step (i := 6) (v := .pointer (some ⟨g, 0, none⟩)) hB (by omega) hsz hG h16 hF' rfl (World.grownBy.refl w1 _) (by rw [cntI_same (by omega) (by omega) (by omega) (by omega)]; exact hR))
    · refine wpOp_of ho (by simp at ho; rw [← ho]) ?_
      simp at ho
      subst ho
      simp [Region.binds] at hd
      unfold mkI_act
      obtain h1 : u 12 = _ := hF2 6 (by omega) hd.1
      go_simp
      refine (pick_any g (P + cntI L) _ _ hR (by omega)).mono ?_
      rintro e w2 ⟨v, rfl, v0, v1, hr2, hg2⟩
      have v2 := v1 (by omega)
      obtain ⟨k, rfl⟩ := Int.eq_ofNat_of_zero_le v0
      have hzz := hK _ _ (DiInv.step (i := 7) (v := .int .i64 (k : Int)) hB (by omega) hsz hG h16 hF' ⟨k, rfl, by omega⟩ (hg2) (by rw [cntI_7 hsz h0]; exact hr2))
      simp [mkI_act, slI, h1] at hzz
      exact hzz
    · refine wpOp_of ho (by simp at ho; rw [← ho]) ?_
      simp at ho
      subst ho
      simp [Region.binds] at hd
      unfold mkI_act
      obtain ⟨b, hb, hh, hbB⟩ := hF2 5 (by omega) hd.1
      obtain ⟨k, hk, hk5⟩ := hF2 7 (by omega) hd.2
      have hb : u 11 = _ := hb
      have hk : u 13 = _ := hk
      have q1 : (k : Int) < 3 := by omega
      go_simp
      have hzz := hK _ _ (DiInv.step (i := 8) (v := .pointer (some ⟨b, k, none⟩)) hB (by omega) hsz hG h16 hF' ⟨b, k, rfl, hk5, hh, hbB⟩ (World.grownBy.refl w1 _) (by rw [cntI_same (by omega) (by omega) (by omega) (by omega)]; exact hR))
      simp [mkI_act, slI, hb, hk] at hzz
      exact hzz
    · simp at ho
      subst ho
      simp [Region.binds] at hd
      obtain ⟨b, k, hb, hk5, hh, hbB⟩ := hF2 8 (by omega) hd
      have hb : u 14 = _ := hb
      obtain ⟨s, hs, hssz⟩ := arrT_row k hk5
      have hc : w1.cell? ⟨b, k, none⟩ = some (.string s) := (cell_of_row _ _ _ _ _ _ hh).trans hs
      refine wpOp_of rfl rfl ?_
      unfold mkI_act
      go_simp
      have hzz := hK _ _ (DiInv.step (i := 9) (v := .string s) hB (by omega) hsz hG h16 hF' ⟨s, rfl, hssz⟩ (World.grownBy.refl w1 _) (by rw [cntI_same (by omega) (by omega) (by omega) (by omega)]; exact hR))
      simp [mkI_act, slI, hb] at hzz
      exact hzz
    · refine wpOp_of ho (by simp at ho; rw [← ho]) ?_
      simp at ho
      subst ho
      simp [Region.binds] at hd
      unfold mkI_act
      go_simp
      exact hK _ _ (DiInv.step (i := 10) (v := .pointer (some ⟨g, 0, none⟩)) hB (by omega) hsz hG h16 hF' rfl (World.grownBy.refl w1 _) (by rw [cntI_same (by omega) (by omega) (by omega) (by omega)]; exact hR))
    · refine wpOp_of ho (by simp at ho; rw [← ho]) ?_
      simp at ho
      subst ho
      simp [Region.binds] at hd
      unfold mkI_act
      obtain h1 : u 16 = _ := hF2 10 (by omega) hd.1
      go_simp
      refine (text_any g (P + cntI L) _ _ hR (by omega) (by omega)).mono ?_
      rintro e w2 ⟨s, rfl, hssz, hr2, hg2⟩
      have hzz := hK _ _ (DiInv.step (i := 11) (v := .string s) hB (by omega) hsz hG h16 hF' ⟨s, rfl, hssz⟩ (hg2) (by rw [cntI_11 hsz h0]; exact hr2))
      simp [mkI_act, slI, h1] at hzz
      exact hzz
    · refine wpOp_of ho (by simp at ho; rw [← ho]) ?_
      simp at ho
      subst ho
      simp [Region.binds] at hd
      unfold mkI_act
      go_simp
      exact hK _ _ (DiInv.step (i := 12) (v := .pointer (some ⟨g, 0, none⟩)) hB (by omega) hsz hG h16 hF' rfl (World.grownBy.refl w1 _) (by rw [cntI_same (by omega) (by omega) (by omega) (by omega)]; exact hR))
    · refine wpOp_of ho (by simp at ho; rw [← ho]) ?_
      simp at ho
      subst ho
      simp [Region.binds] at hd
      unfold mkI_act
      obtain h1 : u 18 = _ := hF2 12 (by omega) hd.1
      go_simp
      refine (day_any g (P + cntI L) _ hR (by omega)).mono ?_
      rintro e w2 ⟨d, rfl, d0, d1, hr2, hg2⟩
      have hzz := hK _ _ (DiInv.step (i := 13) (v := .int .i64 d) hB (by omega) hsz hG h16 hF' ⟨d, rfl⟩ (hg2) (by rw [cntI_13 hsz h0]; exact hr2))
      simp [mkI_act, slI, h1] at hzz
      exact hzz
    · refine wpOp_of ho (by simp at ho; rw [← ho]) ?_
      simp at ho
      subst ho
      simp [Region.binds] at hd
      unfold mkI_act
      obtain ⟨x, hx, xs⟩ := hF2 4 (by omega) hd.1
      obtain ⟨y, hy, ys⟩ := hF2 9 (by omega) hd.2.1
      obtain ⟨z, hz, zs⟩ := hF2 11 (by omega) hd.2.2.1
      obtain ⟨d, hdd⟩ := hF2 13 (by omega) hd.2.2.2
      have hx : u 10 = _ := hx
      have hy : u 15 = _ := hy
      have hz : u 17 = _ := hz
      have hdd : u 19 = _ := hdd
      go_simp
      have hzz := hK _ _ (DiInv.step (i := 14) (v := .agg #[.string x, .string y, .string z, .int .i64 d]) hB (by omega) hsz hG h16 hF' ⟨⟨x, y, z, d⟩, rfl, xs, ys, zs⟩ (World.grownBy.refl w1 _) (by rw [cntI_same (by omega) (by omega) (by omega) (by omega)]; exact hR))
      simp [mkI_act, slI, hx, hy, hz, hdd] at hzz
      exact hzz
    · refine wpOp_of ho (by simp at ho; rw [← ho]) ?_
      simp at ho
      subst ho
      simp [Region.binds] at hd
      unfold mkI_act
      go_simp
      exact hK _ _ (DiInv.step (i := 15) (v := .pointer (some ⟨w1.heap.size, 0, none⟩)) hB (by omega) hsz hG h16 hF' ⟨w1.heap.size, _, _, _, _, rfl, heap_alloc_new _ _, hBs⟩ (World.grownBy_alloc w1 _ (some g)) (by rw [cntI_same (by omega) (by omega) (by omega) (by omega)]; exact hR.alloc _))
    · refine wpOp_of ho (by simp at ho; rw [← ho]) ?_
      simp at ho
      subst ho
      simp [Region.binds] at hd
      unfold mkI_act
      obtain ⟨hd15, hd14, hd13, e0, e1, e2, e3, e4, e5, e6, e7, e8, e9, e10, e11, e12, e13, e14, e15⟩ := hd
      obtain ⟨b, c0, c1, c2, c3, hb, hh, hbB⟩ := hF2 15 (by omega) hd15
      obtain ⟨it, hit, hok⟩ := hF2 14 (by omega) hd14
      have hb : u 5 = _ := hb
      have hit : u 20 = _ := hit
      obtain ⟨p0, p1, p2, p3, f0, f1, f2, f3⟩ := cells4 hh
      obtain ⟨st1, st2⟩ := stored4 hh (.string it.key) (.string it.title) (.string it.body) (.int .i64 it.day)
      go_simp
      have hall : ∀ j, j < 17 → (L.setIfInBounds 16 true).getD j false = true := by
        intro j hj
        by_cases e : j = 16
        · subst e; exact getD_set_here (by omega)
        · rw [getD_set_ne false (Ne.symm e)]
          obtain rfl | rfl | rfl | rfl | rfl | rfl | rfl | rfl | rfl | rfl | rfl | rfl | rfl | rfl | rfl | rfl : j = 0 ∨ j = 1 ∨ j = 2 ∨ j = 3 ∨ j = 4 ∨ j = 5 ∨ j = 6 ∨ j = 7 ∨ j = 8 ∨ j = 9 ∨ j = 10 ∨ j = 11 ∨ j = 12 ∨ j = 13 ∨ j = 14 ∨ j = 15 := by omega
          all_goals (rw [Array.getD_eq_getD_getElem?]; assumption)
      have hzz := hK _ _ ⟨u, rfl, by simpa using hsz, grown_ownI hG st2 (fun j e => by injection e with e; simp; omega), (by rw [cntI_same (by omega) (by omega) (by omega) (by omega)]; exact hR.kept st2 (fun k e => by injection e with e; omega)), (fun h => by rw [getD_set_here (by omega)] at h; cases h), (fun _ => ⟨hall, b, it, hb, hbB, hok, st1⟩)⟩
      simp only [mkI_act, hb, hit] at hzz
      exact hzz
  · rintro L a w1 ⟨u, rfl, hsz, hG, hR, hF, hE⟩ hr0
    have hall := ready_nil (by
      intro i o ho
      have hi17 : i < 17 := (Array.getElem?_eq_some_iff.1 ho).1
      obtain rfl | rfl | rfl | rfl | rfl | rfl | rfl | rfl | rfl | rfl | rfl | rfl | rfl | rfl | rfl | rfl | rfl : i = 0 ∨ i = 1 ∨ i = 2 ∨ i = 3 ∨ i = 4 ∨ i = 5 ∨ i = 6 ∨ i = 7 ∨ i = 8 ∨ i = 9 ∨ i = 10 ∨ i = 11 ∨ i = 12 ∨ i = 13 ∨ i = 14 ∨ i = 15 ∨ i = 16 := by omega
      all_goals (simp at ho; subst ho; simp)) (by simpa using hsz) hr0
    obtain ⟨_, b, i, hu5, hbB, ⟨ok1, ok2, ok3⟩, hh⟩ := hE (hall 16 (by simp))
    clear hall hr0 hF hE hsz
    have hR8 : Rd w1 g (P + 8) := hR.mono (by have := cntI_le L; omega)
    have hwg : w.grownBy w1 (some g) := grown_trans (World.grownBy_alloc _ _ _) hG
    have hres : Tryd.f48.results = #[.cell 4 41] := by kernel_rfl
    have hr4 : w1.heap[w.heap.size]? = some (.cells #[.string ⟨#[]⟩, .string ⟨#[]⟩, .string ⟨#[]⟩, .int .i64 0] 41 (0, 0)) := heap_kept hG (heap_alloc_new _ _) (by omega)
    clear hR hG
    show K0 _ _
    refine hK0 _ _ ?_
    clear hK0
    simp only [mkI_act, hu5]
    go_wp2_with fail
    refine (odd_any g (P + 8) _ _ hR8 (by omega) hn).mono ?_
    rintro e w2 ⟨bb, rfl, hr2, hg2⟩
    have hh2 := heap_kept hg2 hh (by omega)
    have hr42 := heap_kept hg2 hr4 (by omega)
    have hwg2 := grown_trans hwg hg2
    have hne : ¬ b = w.heap.size := by omega
    have hne' : ¬ w.heap.size = b := by omega
    cases bb
    · obtain ⟨p0, p1, p2, p3, f0, f1, f2, f3⟩ := cells4 hh2
      obtain ⟨r0, r1, r2, r3, q0, q1, q2, q3⟩ := cells4 hr42
      go_wp2
      refine bodyPost_ret (v := .agg #[.string i.key, .string i.title, .string i.body, .int .i64 i.day]) ?_ rfl ?_
      · simp only [results, hres]
        go_simp
      · have st := (stored4 hr42 (.string i.key) (.string i.title) (.string i.body) (.int .i64 i.day)).2
        exact ⟨⟨i, rfl, ok1, ok2, ok3⟩, (hr2.kept st (fun k e => by injection e with e; omega)).mono (by omega), grown_ownI hwg2 st (fun j e => by injection e with e; omega)⟩
    · go_wp2_with fail
      refine (pick_any g (P + 9) _ _ hr2 (by omega)).mono ?_
      rintro e w3 ⟨k, rfl, k0, k1, hr3, hg3⟩
      have k2 := k1 (by omega)
      have hh3 := heap_kept hg3 hh2 (by omega)
      have hr43 := heap_kept hg3 hr42 (by omega)
      have hwg3 := grown_trans hwg2 hg3
      have hk4 : k = 0 ∨ k = 1 ∨ k = 2 ∨ k = 3 := by omega
      rcases hk4 with rfl | rfl | rfl | rfl
      · go_wp2_with fail
        refine (word_any g (P + 10) _ _ hr3 (by omega) (by omega)).mono ?_
        rintro e w4 ⟨s, rfl, hssz, hr4w, hg4⟩
        have hh4 := heap_kept hg4 hh3 (by omega)
        have hr44 := heap_kept hg4 hr43 (by omega)
        have hwg4 := grown_trans hwg3 hg4
        obtain ⟨p0, p1, p2, p3, f0, f1, f2, f3⟩ := cells4 hh4
        obtain ⟨r0, r1, r2, r3, q0, q1, q2, q3⟩ := cells4 hr44
        go_wp2
        refine bodyPost_ret (v := .agg #[.string s, .string i.title, .string i.body, .int .i64 i.day]) ?_ rfl ?_
        · simp only [results, hres]
          go_simp
        · have sb := grown_set w4 b 0 (.string s)
          have st := (stored4 (heap_kept' sb hr44 hne') (.string s) (.string i.title) (.string i.body) (.int .i64 i.day)).2
          exact ⟨⟨⟨s, i.title, i.body, i.day⟩, rfl, by show s.size ≤ 100; omega, ok2, ok3⟩, ((hr4w.kept sb (fun k e => by injection e with e; omega)).kept st (fun k e => by injection e with e; omega)).mono (by omega), grown_ownI (grown_ownI hwg4 sb (fun j e => by injection e with e; omega)) st (fun j e => by injection e with e; omega)⟩
      · have hlt3 := hr3.lt
        go_wp2_with fail
        refine (pick_any g (P + 10) _ _ (hr3.alloc _) (by omega)).mono ?_
        rintro e w4 ⟨k, rfl, k0, k1, hr4w, hg4⟩
        have k2 := k1 (by omega)
        obtain ⟨k, rfl⟩ := Int.eq_ofNat_of_zero_le k0
        obtain ⟨s, hs, hssz⟩ := row_str hg4 hlt3 (strRow_list (B := 100) [⟨#[]⟩, ⟨#[10]⟩] (by simp; decide)) k (by simp; omega)
        have hg34 := grown_trans (World.grownBy_alloc w3 _ (some g)) hg4
        have hh4 := heap_kept hg34 hh3 (by omega)
        have hr44 := heap_kept hg34 hr43 (by omega)
        have hwg4 := grown_trans hwg3 hg34
        obtain ⟨p0, p1, p2, p3, f0, f1, f2, f3⟩ := cells4 hh4
        obtain ⟨r0, r1, r2, r3, q0, q1, q2, q3⟩ := cells4 hr44
        go_wp2
        refine bodyPost_ret (v := .agg #[.string i.key, .string s, .string i.body, .int .i64 i.day]) ?_ rfl ?_
        · simp only [results, hres]
          go_simp
        · have sb := grown_set w4 b 1 (.string s)
          have st := (stored4 (heap_kept' sb hr44 hne') (.string i.key) (.string s) (.string i.body) (.int .i64 i.day)).2
          exact ⟨⟨⟨i.key, s, i.body, i.day⟩, rfl, ok1, by show s.size ≤ 100; omega, ok3⟩, ((hr4w.kept sb (fun k e => by injection e with e; omega)).kept st (fun k e => by injection e with e; omega)).mono (by omega), grown_ownI (grown_ownI hwg4 sb (fun j e => by injection e with e; omega)) st (fun j e => by injection e with e; omega)⟩
      · go_wp2_with fail
        refine (text_any g (P + 10) _ _ hr3 (by omega) (by omega)).mono ?_
        rintro e w4 ⟨s, rfl, hssz, hr4w, hg4⟩
        have hh4 := heap_kept hg4 hh3 (by omega)
        have hr44 := heap_kept hg4 hr43 (by omega)
        have hwg4 := grown_trans hwg3 hg4
        obtain ⟨p0, p1, p2, p3, f0, f1, f2, f3⟩ := cells4 hh4
        obtain ⟨r0, r1, r2, r3, q0, q1, q2, q3⟩ := cells4 hr44
        go_wp2
        refine bodyPost_ret (v := .agg #[.string i.key, .string i.title, .string s, .int .i64 i.day]) ?_ rfl ?_
        · simp only [results, hres]
          go_simp
        · have sb := grown_set w4 b 2 (.string s)
          have st := (stored4 (heap_kept' sb hr44 hne') (.string i.key) (.string i.title) (.string s) (.int .i64 i.day)).2
          exact ⟨⟨⟨i.key, i.title, s, i.day⟩, rfl, ok1, ok2, by show s.size ≤ 100; omega⟩, ((hr4w.kept sb (fun k e => by injection e with e; omega)).kept st (fun k e => by injection e with e; omega)).mono (by omega), grown_ownI (grown_ownI hwg4 sb (fun j e => by injection e with e; omega)) st (fun j e => by injection e with e; omega)⟩
      · have hlt3 := hr3.lt
        go_wp2_with fail
        refine (pick_any g (P + 10) _ _ (hr3.alloc _) (by omega)).mono ?_
        rintro e w4 ⟨k, rfl, k0, k1, hr4w, hg4⟩
        have k2 := k1 (by omega)
        obtain ⟨k, rfl⟩ := Int.eq_ofNat_of_zero_le k0
        obtain ⟨d, hd, d0, d1⟩ := row_int (j := w3.heap.size) (k := k) hg4 (heap_alloc_new _ _) (by omega) (intRow_list (lo := -1) (hi := 2000000) [-1, 1460970] (by simp)) (by simp; omega)
        have hg34 := grown_trans (World.grownBy_alloc w3 _ (some g)) hg4
        have hh4 := heap_kept hg34 hh3 (by omega)
        have hr44 := heap_kept hg34 hr43 (by omega)
        have hwg4 := grown_trans hwg3 hg34
        obtain ⟨p0, p1, p2, p3, f0, f1, f2, f3⟩ := cells4 hh4
        obtain ⟨r0, r1, r2, r3, q0, q1, q2, q3⟩ := cells4 hr44
        go_wp2
        refine bodyPost_ret (v := .agg #[.string i.key, .string i.title, .string i.body, .int .i64 d]) ?_ rfl ?_
        · simp only [results, hres]
          go_simp
        · have sb := grown_set w4 b 3 (.int .i64 d)
          have st := (stored4 (heap_kept' sb hr44 hne') (.string i.key) (.string i.title) (.string i.body) (.int .i64 d)).2
          exact ⟨⟨⟨i.key, i.title, i.body, d⟩, rfl, ok1, ok2, ok3⟩, ((hr4w.kept sb (fun k e => by injection e with e; omega)).kept st (fun k e => by injection e with e; omega)).mono (by omega), grown_ownI (grown_ownI hwg4 sb (fun j e => by injection e with e; omega)) st (fun j e => by injection e with e; omega)⟩
end Go.Proofs.YtldllhfadihmeaaDoor

/- The draw of a feed. -/
namespace Go.Proofs.YtldllhfadihmeaaDoor
open Go.RowKit

/-- The frame in the region 'FeedValid(append(append([]Item{}, out...), i))', whose slots begin at s. -/
def frmF (t : Array Value) (s : Nat) (u : Nat → Value) : Act :=
  { tmps := ((((((t.setIfInBounds s (u 0)).setIfInBounds (s + 1) (u 1)).setIfInBounds (s + 2) (u 2)).setIfInBounds (s + 3) (u 3)).setIfInBounds (s + 4) (u 4)).setIfInBounds (s + 5) (u 5)).setIfInBounds (s + 6) (u 6), defers := [] }
/-- What an operation of the region yields. -/
def DfOf (B m : Nat) (out : Value) (l : List It) (x : It) (L : Array Bool) (j : Nat) (v : Value) (w : World) : Prop :=
  match j with
  | 0 => L.getD 2 false = false → ∃ b, v = .slice (some ⟨b, 0, none⟩) 0 0 ∧ w.heap[b]? = some (.cells #[] 41 (0, 0)) ∧ B ≤ b ∧ w.ownsRow B 41 4 (.slice (some ⟨b, 0, none⟩) 0 0) 0 []
  | 1 => v = out
  | 2 => L.getD 5 false = false → w.ownsRow B 41 4 v m (flatI l)
  | 3 => v = .agg #[.string x.key, .string x.title, .string x.body, .int .i64 x.day]
  | 4 => L.getD 5 false = false → ∃ b, v = .slice (some ⟨b, 0, none⟩) 1 1 ∧ w.heap[b]? = some (.cells #[.string x.key, .string x.title, .string x.body, .int .i64 x.day] 41 (0, 0)) ∧ B ≤ b
  | 5 => w.ownsRow B 41 4 v (m + 1) (flatI (l ++ [x]))
  | 6 => v = .bool (feedV (l ++ [x]))
  | _ => True
theorem ready_lt {md : Region.Mode} {ops : Array Oper} {L : Array Bool} {i : Nat} (h : i ∈ Region.ready md ops L) : i < ops.size := by
  obtain ⟨_, o, ho, _⟩ := mem_ready.1 h
  exact (Array.getElem?_eq_some_iff.1 ho).1
theorem ready_dep {md : Region.Mode} {ops : Array Oper} {L : Array Bool} {i : Nat} {o : Oper} (h : i ∈ Region.ready md ops L) (ho : ops[i]? = some o) : ∀ e ∈ o.after, Region.binds md e = true → L.getD e.on false = true := by
  obtain ⟨_, o', ho', hd⟩ := mem_ready.1 h
  rw [ho] at ho'
  injection ho' with e
  subst e
  exact hd
theorem own_any {w w' : World} {g B n : Nat} {v : Value} {t : TypeId} {xs : List Value} (h : w.ownsRow B t 4 v n xs) (hg : w.grownBy w' (some g)) (hB : g < B) : w'.ownsRow B t 4 v n xs :=
  h.kept hg (.inr (fun e => by have := (h.lt g e).1; omega))
theorem getD_set_no {L : Array Bool} {i k : Nat} (h : (L.setIfInBounds i true).getD k false = false) : L.getD k false = false := by
  cases hk : L.getD k false
  · rfl
  · rw [getD_set_true hk] at h; cases h
theorem DfOf.kept {g B m : Nat} {out : Value} {l : List It} {x : It} {L : Array Bool} {i j : Nat} {v : Value} {w w' : World} (h : DfOf B m out l x L j v w) (hg : w.grownBy w' (some g)) (hB : g < B) : DfOf B m out l x (L.setIfInBounds i true) j v w' := by
  match j with
  | 0 =>
    intro h2
    obtain ⟨b, e1, e2, e3, e4⟩ := h (getD_set_no h2)
    exact ⟨b, e1, heap_kept hg e2 (by omega), e3, own_any e4 hg hB⟩
  | 1 => exact h
  | 2 => intro h2; exact own_any (h (getD_set_no h2)) hg hB
  | 3 => exact h
  | 4 =>
    intro h2
    obtain ⟨b, e1, e2, e3⟩ := h (getD_set_no h2)
    exact ⟨b, e1, heap_kept hg e2 (by omega), e3⟩
  | 5 => exact own_any h hg hB
  | 6 => exact h
  | _ + 7 => trivial
/-- What the region keeps. -/
def FvInv (g P B m : Nat) (out : Value) (l : List It) (x : It) (t : Array Value) (s : Nat) (w0 : World) (L : Array Bool) (a : Act) (w : World) : Prop :=
  ∃ u : Nat → Value, a = frmF t s u ∧ L.size = 7 ∧ w0.grownBy w (some g) ∧ Rd w g P ∧ (L.getD 5 false = true → L.getD 2 false = true) ∧ ∀ j, L.getD j false = true → DfOf B m out l x L j (u j) w
theorem FvInv.step {g P B m : Nat} {out : Value} {l : List It} {x : It} {t : Array Value} {s : Nat} {w0 : World} {L : Array Bool} {u : Nat → Value} {w' : World} {i : Nat} {v : Value} (hsz : L.size = 7) (hC : L.getD 5 false = true → L.getD 2 false = true) (hC5 : i = 5 → L.getD 2 false = true)
    (hv : DfOf B m out l x (L.setIfInBounds i true) i v w') (hF : ∀ j, j ≠ i → L.getD j false = true → DfOf B m out l x (L.setIfInBounds i true) j (u j) w') (hG : w0.grownBy w' (some g)) (hR : Rd w' g P) :
    FvInv g P B m out l x t s w0 (L.setIfInBounds i true) (frmF t s (fun j => if j = i then v else u j)) w' := by
  refine ⟨_, rfl, by simpa using hsz, hG, hR, fun h => ?_, fun j hl => ?_⟩
  · by_cases e : i = 5
    · exact getD_set_true (hC5 e)
    · rw [getD_set_ne false e] at h
      exact getD_set_true (hC h)
  · show DfOf B m out l x _ j (if j = i then v else u j) w'
    by_cases e : j = i
    · rw [if_pos e, e]; exact hv
    · rw [if_neg e]
      rw [getD_set_ne false (Ne.symm e)] at hl
      exact hF j e hl
theorem set_self (t : Array Value) (i : Nat) : t.setIfInBounds i (t.getD i undef) = t := by
  apply Array.ext_getElem?
  intro j
  by_cases h : i = j
  · subst h
    by_cases hi : i < t.size
    · simp [hi]
    · simp [hi]
  · rw [Array.getElem?_setIfInBounds_ne h]
theorem frmF_self (t : Array Value) (s : Nat) : frmF t s (fun j => t.getD (s + j) undef) = { tmps := t, defers := [] } := by
  unfold frmF
  have h0 := set_self t (s + 0)
  simp only [Nat.add_zero] at h0
  simp only [Nat.add_zero, h0, set_self]
theorem wp_region_fv {P : Program} {id : Nat} {ops : Array Oper} {Q : Exit → Act → World → Prop} {t : Array Value} {w : World} (hm : P.follows .mixedOrders = true) (g R B m : Nat) (out : Value) (l : List It) (x : It) (s : Nat) (hops : ops.size = 7) (hR : Rd w g R)
    (hstep : ∀ L a w' i, FvInv g R B m out l x t s w L a w' → i ∈ Region.ready .any ops L → ∀ K : Act → World → Prop, (∀ a' w'', FvInv g R B m out l x t s w (L.setIfInBounds i true) a' w'' → K a' w'') → wpOp P ops Q i K a w')
    (hend : ∀ L a w', FvInv g R B m out l x t s w L a w' → Region.ready .any ops L = [] → Q .normal a w') : (Code.region id ops true).wp P Q { tmps := t, defers := [] } w :=
  wp_region_inv hm (FvInv g R B m out l x t s w) (by
    rw [hops]
    refine ⟨_, (frmF_self t s).symm, by simp, ⟨rfl, rfl, rfl, Nat.le_refl _, fun _ _ _ => rfl⟩, hR, fun h => ?_, fun j h => ?_⟩
    · simp at h
    · simp only [Array.getD_eq_getD_getElem?, Array.getElem?_replicate] at h
      split at h <;> simp at h) hstep hend
theorem own_new4 (w : World) (B : Nat) (h : B ≤ w.heap.size) : (w.alloc (.cells #[] 41)).ownsRow B 41 4 (.slice (some ⟨w.heap.size, 0, none⟩) 0 0) 0 [] := by
  have := World.ownsRow_made (e := 41) (size := 4) w #[] 0 (Nat.le_refl _) (by unfold maxLen; omega) rfl
  obtain ⟨h1, h2⟩ := this
  refine ⟨h1, ?_⟩
  rcases h2 with h2 | ⟨g, cap, cur, hv, hg, r⟩
  · exact .inl h2
  · exact .inr ⟨g, cap, cur, hv, Nat.le_trans h hg, r⟩
theorem items_row {b : Nat} {w : World} {x : It} (h : w.heap[b]? = some (.cells #[.string x.key, .string x.title, .string x.body, .int .i64 x.day] 41 (0, 0))) : ∀ j u, (flatI [x])[j]? = some u → w.cell? ((⟨b, 0, none⟩ : Addr).add j) = some u := by
  obtain ⟨p0, p1, p2, p3, _⟩ := cells4 h
  intro j u hj
  match j with
  | 0 => simp [flatI] at hj; subst hj; simpa [Addr.add] using p0
  | 1 => simp [flatI] at hj; subst hj; simpa [Addr.add] using p1
  | 2 => simp [flatI] at hj; subst hj; simpa [Addr.add] using p2
  | 3 => simp [flatI] at hj; subst hj; simpa [Addr.add] using p3
  | j + 4 => simp [flatI] at hj
/-- What a draw of a feed leaves behind. -/
def ItsPost (w : World) (g P N : Nat) (e : Ending) (w' : World) : Prop :=
  (∃ (q n cap : Nat) (l : List It), e = .returned (.slice (some ⟨q, 0, none⟩) n cap) ∧ w'.ownsRow w.heap.size 41 4 (.slice (some ⟨q, 0, none⟩) n cap) n (flatI l) ∧ l.length = n ∧ n ≤ N ∧ ∀ i ∈ l, okI i) ∧ Rd w' g P ∧ w.grownBy w' (some g)
theorem oks_more {l : List It} {x : It} (h : ∀ i ∈ l, okI i) (hx : okI x) : ∀ i ∈ l ++ [x], okI i := by
  intro i hi
  rw [List.mem_append, List.mem_singleton] at hi
  rcases hi with hi | rfl
  · exact h i hi
  · exact hx
theorem okI_sz {i : It} (h : okI i) : i.key.size ≤ maxLen ∧ i.title.size ≤ maxLen ∧ i.body.size ≤ maxLen := by
  obtain ⟨h1, h2, h3⟩ := h; unfold maxLen; omega
theorem own_ka {w w' : World} {base t g n cap q : Nat} {xs : List Value} (h : w.ownsRow base t 4 (.slice (some ⟨q, 0, none⟩) n cap) n xs) (hg : w.grownBy w' (some g)) (hne : g < base) : w'.ownsRow base t 4 (.slice (some ⟨q, 0, none⟩) n cap) n xs :=
  h.kept hg (.inr (by simp [Value.ownBlock]; have := (h.lt q rfl).1; omega))

set_option maxRecDepth 100000 in
set_option maxHeartbeats 4000000 in
theorem feed_any (g P : Nat) (n : Int) (w : World) (hr : Rd w g P) (hP : P ≤ 700000) (hn : n ≤ 1000000) :
    Calls Tryd.prog 46 #[.pointer (some ⟨g, 0, none⟩), .int .i64 n] w (ItsPost w g (P + 100) 7) := by
  obtain ⟨ti, hti, iz0, iz1, iz2⟩ := info_parts Tryd.infoI
  have hlt0 := hr.lt
  have hm : Tryd.prog.follows .mixedOrders = true := by kernel_rfl
  go_enter Tryd.func46, Tryd.ntmps46
  go_wp2_with fail
  refine (pick_any g P _ _ (hr.alloc _) (by omega)).mono ?_
  rintro e w2 ⟨k, rfl, k0, k1, hr2, hg2⟩
  have k2 := k1 (by omega)
  clear k1
  obtain ⟨k, rfl⟩ := Int.eq_ofNat_of_zero_le k0
  have hown0 := own_ka (own_new4 w w.heap.size (Nat.le_refl _)) hg2 hlt0
  have hG2 : w.grownBy w2 (some g) := grown_trans (World.grownBy_alloc _ _ _) hg2
  go_wp2_with fail
  go_loopw [5, 6] (fun o i wr => ∃ (j q m cap : Nat) (l : List It), o = .slice (some ⟨q, 0, none⟩) m cap ∧ i = .int .i64 j ∧ j ≤ 6 ∧ m + j ≤ 6 ∧ l.length = m ∧ Hid (∀ i ∈ l, okI i) ∧ wr.ownsRow w.heap.size 41 4 (.slice (some ⟨q, 0, none⟩) m cap) m (flatI l) ∧ Rd wr g (P + 73 - 12 * j) ∧ w.grownBy wr (some g)) (fun _ i _ => (intOf i).toNat)
  case atStart => exact ⟨k, w.heap.size, 0, 0, [], rfl, rfl, by omega, by omega, rfl, fun e he => by simp at he, hown0, hr2.mono (by omega), hG2⟩
  case round =>
    obtain ⟨j, q, m, cap, l, rfl, rfl, j6, mj, hlm, hsz, hown, hrr, hgr⟩ := hrel
    have hlt := hrr.lt
    have hqb := hown.lt q rfl
    have hcap : m ≤ cap ∧ cap ≤ maxLen := own_cap hown
    by_cases hj : 0 < j
    · go_wp2_with fail
      refine (item_any g (P + 73 - 12 * j) _ _ hrr (by omega) (by omega)).mono ?_
      rintro e w4 ⟨⟨x, rfl, hx⟩, hr4, hg4⟩
      have hokx := oks_more hsz.out hx
      have hszx := Lib.hid hx
      clear hx
      have hlt4 := hr4.lt
      have G4 := grown_trans hgr hg4
      have hs4 := G4.size
      have own4 := own_ka hown hg4 hlt0
      have X4 := heap_alloc_new w4 (.cells #[.string x.key, .string x.title, .string x.body, .int .i64 x.day] 41)
      have own5 := Lib.hid (own4.alloc (.cells #[.string x.key, .string x.title, .string x.body, .int .i64 x.day] 41))
      have G5 : w.grownBy (w4.alloc (.cells #[.string x.key, .string x.title, .string x.body, .int .i64 x.day] 41)) (some g) := grown_trans G4 (World.grownBy_alloc _ _ _)
      have hRg : Rd (w4.alloc (.cells #[.string x.key, .string x.title, .string x.body, .int .i64 x.day] 41)) g (P + 85 - 12 * j) := (hr4.alloc _).mono (by omega)
      have hB45 : w4.heap.size ≤ (w4.alloc (.cells #[.string x.key, .string x.title, .string x.body, .int .i64 x.day] 41)).heap.size := by simp
      have hg0 : g < w.heap.size := hlt0
      go_wp2_with fail
      rename_i K0 hK0
      generalize w4.alloc (.cells #[.string x.key, .string x.title, .string x.body, .int .i64 x.day] 41) = w5 at *
      have HX : w5.heap[w4.heap.size]? = some (.cells #[.string x.key, .string x.title, .string x.body, .int .i64 x.day] 41 (0, 0)) := X4
      have hBw : w5.heap.size ≤ w5.heap.size := Nat.le_refl _
      have hgB : g < w5.heap.size := by omega
      have hltX : g < w4.heap.size := hlt4
      refine wp_region_fv hm g (P + 85 - 12 * j) (w5.heap.size) m (.slice (some ⟨q, 0, none⟩) m cap) l x 17 rfl hRg ?_ ?_
      · rintro L a w' i ⟨u, rfl, hsz, hG, hR, hC, hF⟩ hi K hK
        clear hK0
        have hi7 : i < 7 := ready_lt hi
        have h0f := getD_not (by omega) (mem_ready.1 hi).1
        have hBs : w5.heap.size ≤ w'.heap.size := Nat.le_trans hBw hG.size
        have hF2 : ∀ j, L[j]?.getD false = true → DfOf (w5.heap.size) m (.slice (some ⟨q, 0, none⟩) m cap) l x L j (u j) w' := fun j h => hF j (by simpa using h)
        obtain rfl | rfl | rfl | rfl | rfl | rfl | rfl : i = 0 ∨ i = 1 ∨ i = 2 ∨ i = 3 ∨ i = 4 ∨ i = 5 ∨ i = 6 := by omega
        · have hd := ready_dep hi rfl
          simp [Region.binds] at hd
          refine wpOp_of rfl rfl ?_
          simp only [frmF, List.setIfInBounds_toArray, List.set_cons_succ, List.set_cons_zero]
          go_simp
          have hga := World.grownBy_alloc w' (.cells #[] 41) (some g)
          have hzz := hK _ _ (FvInv.step (t := _) (s := 17) (i := 0) (v := .slice (some ⟨w'.heap.size, 0, none⟩) 0 0) (w' := w'.alloc (.cells #[] 41)) hsz hC (fun e => by cases e) (fun _ => ⟨w'.heap.size, rfl, heap_alloc_new _ _, hBs, own_new4 w' _ hBs⟩) (fun j _ hl => (hF j hl).kept hga hgB) (grown_trans hG hga) (hR.alloc _))
          simp only [frmF, List.setIfInBounds_toArray, List.set_cons_succ, List.set_cons_zero, reduceIte, Nat.reduceEqDiff] at hzz
          exact hzz
        · have hd := ready_dep hi rfl
          simp [Region.binds] at hd
          refine wpOp_of rfl rfl ?_
          simp only [frmF, List.setIfInBounds_toArray, List.set_cons_succ, List.set_cons_zero]
          go_simp
          have hzz := hK _ _ (FvInv.step (t := _) (s := 17) (i := 1) (v := .slice (some ⟨q, 0, none⟩) m cap) (w' := w') hsz hC (fun e => by cases e) rfl (fun j _ hl => (hF j hl).kept (World.grownBy.refl w' (some g)) hgB) hG hR)
          simp only [frmF, List.setIfInBounds_toArray, List.set_cons_succ, List.set_cons_zero, reduceIte, Nat.reduceEqDiff] at hzz
          exact hzz
        · have hd := ready_dep hi rfl
          simp [Region.binds] at hd
          obtain ⟨hd0, hd1⟩ := hd
          obtain ⟨b1, e0, hb1, hbB, ho1⟩ := hF2 0 hd0 h0f
          have e1 : u 1 = _ := hF2 1 hd1
          have hlq := (own_ka own5.out hG hg0).cells (g := q) rfl
          refine wpOp_of rfl rfl ?_
          simp only [frmF, List.setIfInBounds_toArray, List.set_cons_succ, List.set_cons_zero]
          rw [e0, e1]
          refine wp_append_own w' (.tmp 17) (.tmp 18) 24 rfl (w5.heap.size) 41 ti _ 4 56 Tryd.underlying24 hti iz0 iz1 iz2 rfl (by decide) (.slice (some ⟨b1, 0, none⟩) 0 0) 0 [] (by simp [Act.eval]) ho1 ⟨q, 0, none⟩ m cap (flatI l) (by simp [Act.eval]) (by rw [flatI_len, hlm]) hlq (flatI_one _) (by unfold maxLen; omega) (by omega) hBs ?_
          intro v' w2 hown2 hgrow2 _
          have hgr1 : w'.grownBy w2 (some b1) := hgrow2
          rw [Nat.zero_add, List.nil_append] at hown2
          go_simp
          have hzz := hK _ _ (FvInv.step (t := _) (s := 17) (i := 2) (v := v') (w' := w2) hsz hC (fun e => by cases e) (fun _ => hown2) (fun j hj hl => by
            match j, hj with
            | 0, _ => exact fun h2 => by rw [getD_set_here (by omega)] at h2; cases h2
            | 1, _ => exact hF 1 hl
            | 2, hj => exact absurd rfl hj
            | 3, _ => exact hF 3 hl
            | 4, _ =>
              intro h2
              obtain ⟨b, z1, z2, z3⟩ := hF 4 hl (getD_set_no h2)
              exact ⟨b, z1, heap_kept' hgr1 z2 (fun e => by rw [e] at z2; have := hb1.symm.trans z2; simp at this), z3⟩
            | 5, _ => exact absurd (hC hl) (by rw [h0f]; decide)
            | 6, _ => exact hF 6 hl
            | _ + 7, _ => trivial) (grown_ownI hG hgr1 (fun j e => by injection e with e; omega)) (hR.kept hgr1 (fun k e => by injection e with e; omega)))
          simp only [frmF, List.setIfInBounds_toArray, List.set_cons_succ, List.set_cons_zero, reduceIte, Nat.reduceEqDiff, e0, e1] at hzz
          exact hzz
        · have hd := ready_dep hi rfl
          simp [Region.binds] at hd
          obtain ⟨p0, p1, p2, p3, _⟩ := cells4 (heap_kept hG HX hltX)
          refine wpOp_of rfl rfl ?_
          simp only [frmF, List.setIfInBounds_toArray, List.set_cons_succ, List.set_cons_zero]
          go_simp
          have hzz := hK _ _ (FvInv.step (t := _) (s := 17) (i := 3) (v := .agg #[.string x.key, .string x.title, .string x.body, .int .i64 x.day]) (w' := w') hsz hC (fun e => by cases e) rfl (fun j _ hl => (hF j hl).kept (World.grownBy.refl w' (some g)) hgB) hG hR)
          simp only [frmF, List.setIfInBounds_toArray, List.set_cons_succ, List.set_cons_zero, reduceIte, Nat.reduceEqDiff] at hzz
          exact hzz
        · have hd := ready_dep hi rfl
          simp [Region.binds] at hd
          have e3 : u 3 = _ := hF2 3 hd
          refine wpOp_of rfl rfl ?_
          simp only [frmF, List.setIfInBounds_toArray, List.set_cons_succ, List.set_cons_zero]
          rw [e3]
          go_simp
          have hga := World.grownBy_alloc w' (.cells #[.string x.key, .string x.title, .string x.body, .int .i64 x.day] 41) (some g)
          have hzz := hK _ _ (FvInv.step (t := _) (s := 17) (i := 4) (v := .slice (some ⟨w'.heap.size, 0, none⟩) 1 1) (w' := w'.alloc (.cells #[.string x.key, .string x.title, .string x.body, .int .i64 x.day] 41)) hsz hC (fun e => by cases e) (fun _ => ⟨w'.heap.size, rfl, heap_alloc_new _ _, hBs⟩) (fun j _ hl => (hF j hl).kept hga hgB) (grown_trans hG hga) (hR.alloc _))
          simp only [frmF, List.setIfInBounds_toArray, List.set_cons_succ, List.set_cons_zero, reduceIte, Nat.reduceEqDiff, e3] at hzz
          exact hzz
        · have hd := ready_dep hi rfl
          simp [Region.binds] at hd
          have ho2 := hF2 2 hd.1 h0f
          obtain ⟨b4, e4, hb4, hb4B⟩ := hF2 4 hd.2.1 h0f
          refine wpOp_of rfl rfl ?_
          simp only [frmF, List.setIfInBounds_toArray, List.set_cons_succ, List.set_cons_zero]
          rw [e4]
          refine wp_append_own w' (.tmp 19) (.tmp 21) 24 rfl (w5.heap.size) 41 ti _ 4 56 Tryd.underlying24 hti iz0 iz1 iz2 rfl (by decide) (u 2) m (flatI l) (by simp [Act.eval]) ho2 ⟨b4, 0, none⟩ 1 1 (flatI [x]) (by simp [Act.eval]) rfl (items_row hb4) (flatI_one _) (by unfold maxLen; omega) (by omega) hBs ?_
          intro v' w2 hown2 hgrow2 _
          rw [← flatI_app] at hown2
          have hbk := fun k e => (ho2.lt k e).1
          go_simp
          have hzz := hK _ _ (FvInv.step (t := _) (s := 17) (i := 5) (v := v') (w' := w2) hsz hC (fun _ => by simpa using hd.1) hown2 (fun j hj hl => by
            have h2t : L.getD 2 false = true := by simpa using hd.1
            match j, hj with
            | 0, _ => exact fun h2 => by rw [getD_set_true h2t] at h2; cases h2
            | 1, _ => exact hF 1 hl
            | 2, _ => exact fun h2 => by rw [getD_set_here (by omega)] at h2; cases h2
            | 3, _ => exact hF 3 hl
            | 4, _ => exact fun h2 => by rw [getD_set_here (by omega)] at h2; cases h2
            | 5, hj => exact absurd rfl hj
            | 6, _ => exact hF 6 hl
            | _ + 7, _ => trivial) (grown_ownI hG hgrow2 (fun j e => by have := hbk j e; omega)) (hR.kept hgrow2 (fun k e => by have := hbk k e; omega)))
          simp only [frmF, List.setIfInBounds_toArray, List.set_cons_succ, List.set_cons_zero, reduceIte, Nat.reduceEqDiff, e4] at hzz
          exact hzz
        · have hd := ready_dep hi rfl
          simp [Region.binds] at hd
          have ho5 : w'.ownsRow _ _ 4 (u 5) _ _ := hF2 5 hd
          obtain ⟨g5, cap5, e5, _⟩ := ho5.form (by omega)
          rw [e5] at ho5
          refine wpOp_of rfl rfl ?_
          simp only [frmF, List.setIfInBounds_toArray, List.set_cons_succ, List.set_cons_zero]
          rw [e5]
          go_simp
          refine (spec_feedValid (some ⟨g5, 0, none⟩) (m + 1) cap5 (l ++ [x]) w' (ItAt.own ho5 (by simp [hlm])) (by simp [hlm]) (by unfold maxLen; omega) (fun i hi => okI_sz (hokx i hi))).mono ?_
          rintro e w2 ⟨rfl, hb2⟩
          have hg2 : w'.grownBy w2 (some g) := grown_some (World.grownBy.refl w' _) (below_grown hb2)
          have hzz := hK _ _ (FvInv.step (t := _) (s := 17) (i := 6) (v := .bool (feedV (l ++ [x]))) (w' := w2) hsz hC (fun e => by cases e) rfl (fun j _ hl => (hF j hl).kept hg2 hgB) (grown_trans hG hg2) (hR.kept (below_grown hb2) (fun k e => by cases e)))
          simp only [frmF, List.setIfInBounds_toArray, List.set_cons_succ, List.set_cons_zero, reduceIte, Nat.reduceEqDiff, e5] at hzz
          exact hzz
      · rintro L a w6 ⟨u, rfl, hsz6, hG6, hR6, _, hF6⟩ hr0
        have hall := ready_nil (by
          intro i o ho
          have hi7 : i < 7 := (Array.getElem?_eq_some_iff.1 ho).1
          obtain rfl | rfl | rfl | rfl | rfl | rfl | rfl : i = 0 ∨ i = 1 ∨ i = 2 ∨ i = 3 ∨ i = 4 ∨ i = 5 ∨ i = 6 := by omega
          all_goals (simp at ho; subst ho; simp)) (by simpa using hsz6) hr0
        have e6 : u 6 = _ := hF6 6 (hall 6 (by simp))
        clear hall hr0 hF6 hsz6
        have own6 := own_ka own5.out hG6 hlt0
        have G6 := grown_trans G5 hG6
        obtain ⟨p0, p1, p2, p3, _⟩ := cells4 (heap_kept hG6 HX hltX)
        show K0 _ _
        refine hK0 _ _ ?_
        clear hK0
        simp only [frmF, List.setIfInBounds_toArray, List.set_cons_succ, List.set_cons_zero, e6]
        generalize feedV (l ++ [x]) = ok
        cases ok
        · go_wp2
          go_roundw
          case rel => exact ⟨j - 1, q, m, cap, l, rfl, by rw [show ((j - 1 : Nat) : Int) = (j : Int) - 1 from by omega], by omega, by omega, hlm, hsz, own6, hR6.mono (by omega), G6⟩
          case measure => simp [intOf]; omega
        · go_wp2_with (at_builtin; refine wpList_append_lies _ rfl _ _ 24 rfl w.heap.size 41 ti _ 4 56 Tryd.underlying24 hti iz0 iz1 iz2 rfl (by decide) _ m (flatI l) rfl (own6.alloc _) ⟨w6.heap.size, 0, none⟩ 1 1 [.string x.key, .string x.title, .string x.body, .int .i64 x.day] rfl rfl (cell_four_new _ _ _ _ _ _) (fun x hx => by simp at hx; rcases hx with rfl | rfl | rfl | rfl <;> rfl) (by omega) (by unfold maxLen; omega) (by omega) (by have := G6.size; simp; omega) _ rfl ?_; intro q2 cap2 w7 hown7 hgrow7 hat7 hlt7)
          have HG7 := Lib.hid (grown_ownI (grown_alloc G6 _) hgrow7 (fun j e => (own6.lt j e).1))
          have HR7 := Lib.hid ((hR6.alloc _).kept hgrow7 (fun j e => Nat.lt_of_lt_of_le hlt0 (own6.lt j e).1))
          have HO7 := Lib.hid hown7
          clear hown7 hgrow7 hat7
          go_wp2
          go_roundw
          case rel => exact ⟨j - 1, q2, m + 1, cap2, l ++ [x], rfl, by rw [show ((j - 1 : Nat) : Int) = (j : Int) - 1 from by omega], by omega, by omega, by simp [hlm], hokx, by rw [flatI_app]; exact HO7.out, HR7.out.mono (by omega), HG7.out⟩
          case measure => simp [intOf]; omega
    · go_wp2_with fail
      refine (odd_any g (P + 73 - 12 * j) _ _ hrr (by omega) hn).mono ?_
      rintro e w3 ⟨b, rfl, hr3, hg3⟩
      have own3 := own_ka hown hg3 hlt0
      have G3 := grown_trans hgr hg3
      cases b
      · go_wp2
        go_ret
        exact ⟨⟨q, m, cap, l, rfl, own3, hlm, by omega, hsz.out⟩, hr3.mono (by omega), G3⟩
      · by_cases hm0 : 0 < m
        · go_wp2_with fail
          refine (pick_any g (P + 73 - 12 * j + 1) _ _ hr3 (by omega)).mono ?_
          rintro e w4 ⟨c, rfl, c0, c1, hr4, hg4⟩
          have c2 := c1 (by omega)
          clear c1
          have own4 := own_ka own3 hg4 hlt0
          have G4 := grown_trans G3 hg4
          have hc01 : c = 0 ∨ c = 1 := by omega
          rcases hc01 with rfl | rfl
          · have hl0 : 0 < l.length := by omega
            obtain ⟨b0, off0, ha0, h1, h2, h3, h4⟩ := ItAt.own own4 hlm 0 hl0
            have hx : okI l[0] := hsz.out _ (List.getElem_mem hl0)
            generalize l[0] = x at *
            injection ha0 with ha0
            injection ha0 with ha1 ha2
            subst ha1
            subst ha2
            simp only [Nat.zero_mul, Nat.zero_add] at h1 h2 h3 h4
            go_wp2_with (at_builtin; refine wpList_append_lies _ rfl _ _ 24 rfl w.heap.size 41 ti _ 4 56 Tryd.underlying24 hti iz0 iz1 iz2 rfl (by decide) _ m (flatI l) rfl (own4.alloc _) ⟨w4.heap.size, 0, none⟩ 1 1 [.string x.key, .string x.title, .string x.body, .int .i64 x.day] rfl rfl (cell_four_new _ _ _ _ _ _) (fun x hx => by simp at hx; rcases hx with rfl | rfl | rfl | rfl <;> rfl) (by omega) (by unfold maxLen; omega) (by omega) (by have := G4.size; simp; omega) _ rfl ?_; intro q2 cap2 w7 hown7 hgrow7 hat7 hlt7)
            have HG7 := grown_ownI (grown_alloc G4 _) hgrow7 (fun j e => (own4.lt j e).1)
            have HR7 := (hr4.alloc _).kept hgrow7 (fun j e => Nat.lt_of_lt_of_le hlt0 (own4.lt j e).1)
            go_wp2
            go_ret
            exact ⟨⟨q2, m + 1, cap2, l ++ [x], rfl, by rw [flatI_app]; exact hown7, by simp [hlm], by omega, oks_more hsz.out hx⟩, HR7.mono (by omega), HG7⟩
          · go_wp2_with fail
            refine (item_any g (P + 73 - 12 * j + 2) _ _ hr4 (by omega) (by omega)).mono ?_
            rintro e w5 ⟨⟨x, rfl, hx⟩, hr5, hg5⟩
            have own5 := own_ka own4 hg5 hlt0
            have G5 := grown_trans G4 hg5
            go_wp2_with (at_builtin; refine wpList_append_lies _ rfl _ _ 24 rfl w.heap.size 41 ti _ 4 56 Tryd.underlying24 hti iz0 iz1 iz2 rfl (by decide) _ m (flatI l) rfl (own5.alloc _) ⟨w5.heap.size, 0, none⟩ 1 1 [.string x.key, .string x.title, .string x.body, .int .i64 x.day] rfl rfl (cell_four_new _ _ _ _ _ _) (fun x hx => by simp at hx; rcases hx with rfl | rfl | rfl | rfl <;> rfl) (by omega) (by unfold maxLen; omega) (by omega) (by have := G5.size; simp; omega) _ rfl ?_; intro q2 cap2 w7 hown7 hgrow7 hat7 hlt7)
            have HG7 := grown_ownI (grown_alloc G5 _) hgrow7 (fun j e => (own5.lt j e).1)
            have HR7 := (hr5.alloc _).kept hgrow7 (fun j e => Nat.lt_of_lt_of_le hlt0 (own5.lt j e).1)
            go_wp2
            go_ret
            exact ⟨⟨q2, m + 1, cap2, l ++ [x], rfl, by rw [flatI_app]; exact hown7, by simp [hlm], by omega, oks_more hsz.out hx⟩, HR7.mono (by omega), HG7⟩
        · go_wp2_with fail
          refine (item_any g (P + 73 - 12 * j + 1) _ _ hr3 (by omega) (by omega)).mono ?_
          rintro e w5 ⟨⟨x, rfl, hx⟩, hr5, hg5⟩
          have own5 := own_ka own3 hg5 hlt0
          have G5 := grown_trans G3 hg5
          go_wp2_with (at_builtin; refine wpList_append_lies _ rfl _ _ 24 rfl w.heap.size 41 ti _ 4 56 Tryd.underlying24 hti iz0 iz1 iz2 rfl (by decide) _ m (flatI l) rfl (own5.alloc _) ⟨w5.heap.size, 0, none⟩ 1 1 [.string x.key, .string x.title, .string x.body, .int .i64 x.day] rfl rfl (cell_four_new _ _ _ _ _ _) (fun x hx => by simp at hx; rcases hx with rfl | rfl | rfl | rfl <;> rfl) (by omega) (by unfold maxLen; omega) (by omega) (by have := G5.size; simp; omega) _ rfl ?_; intro q2 cap2 w7 hown7 hgrow7 hat7 hlt7)
          have HG7 := grown_ownI (grown_alloc G5 _) hgrow7 (fun j e => (own5.lt j e).1)
          have HR7 := (hr5.alloc _).kept hgrow7 (fun j e => Nat.lt_of_lt_of_le hlt0 (own5.lt j e).1)
          go_wp2
          go_ret
          exact ⟨⟨q2, m + 1, cap2, l ++ [x], rfl, by rw [flatI_app]; exact hown7, by simp [hlm], by omega, oks_more hsz.out hx⟩, HR7.mono (by omega), HG7⟩
end Go.Proofs.YtldllhfadihmeaaDoor

/- The draws of items and of feeds out of a code. -/
namespace Go.Proofs.YtldllhfadihmeaaDoor
open Go.RowKit

/-- What a draw of an item, of a feed, out of a code leaves behind. -/
def ItemDrawn (w : World) (e : Ending) (w' : World) : Prop :=
  (∃ i : It, e = .returned (.agg #[.string i.key, .string i.title, .string i.body, .int .i64 i.day]) ∧ okI i) ∧ Below w.heap.size w w'
def FeedDrawn (w : World) (e : Ending) (w' : World) : Prop :=
  (∃ (q n cap : Nat) (l : List It), e = .returned (.slice (some ⟨q, 0, none⟩) n cap) ∧ w'.ownsRow w.heap.size 41 4 (.slice (some ⟨q, 0, none⟩) n cap) n (flatI l) ∧ l.length = n ∧ n ≤ 7 ∧ ∀ i ∈ l, okI i) ∧ Below w.heap.size w w'
theorem isRow_below {k : IntKind} {w w' : World} {a : Option Addr} {len cap : Nat} {zs : List Int} (h : IsRow k w a len cap zs) (hb : Below w.heap.size w w') : IsRow k w' a len cap zs := by
  rcases h with h | ⟨x, rfl, h1, h2, h3, h4, h5⟩
  · exact .inl h
  · refine .inr ⟨x, rfl, h1, h2, h3, fun i hi => ?_, h5⟩
    exact (hb.cell (World.block_lt_of_cell? w _ (h4 i hi))).trans (h4 i hi)
/-- What a draw of two numbers leaves behind. -/
theorem own_base4 {w : World} {base base' t size n : Nat} {v : Value} {xs : List Value} (h : w.ownsRow base t size v n xs) (hb : base' ≤ base) : w.ownsRow base' t size v n xs := by
  obtain ⟨h1, h2⟩ := h
  refine ⟨h1, ?_⟩
  rcases h2 with h2 | ⟨g, cap, cur, hv, hg, r⟩
  · exact .inl h2
  · exact .inr ⟨g, cap, cur, hv, Nat.le_trans hb hg, r⟩

set_option maxHeartbeats 400000 in
theorem drawItemText_any (a : Option Addr) (len cap : Nat) (zs : List Int) (w : World) (h : IsRow .u8 w a len cap zs) :
    Calls Tryd.prog 33 #[.slice a len cap] w (ItemDrawn w) := by
  have hb0 : Below w.heap.size w (w.alloc (.cells #[.string ⟨#[]⟩, .string ⟨#[]⟩, .string ⟨#[]⟩, .int .i64 0] 41)) := (Below.refl _ _).alloc (Nat.le_refl _) _
  have H := Lib.hid (isRow_below h hb0)
  have H0 := heap_alloc_new w (.cells #[.string ⟨#[]⟩, .string ⟨#[]⟩, .string ⟨#[]⟩, .int .i64 0] 41)
  have hres : Tryd.f33.results = #[.cell 2 41] := by kernel_rfl
  clear h
  go_enter Tryd.func33, Tryd.ntmps33
  go_wp2_with fail
  refine (open_any a len cap zs _ H.out).mono ?_
  rintro e w1 ⟨g, rfl, hg, hr, hb⟩
  have H1 := (hb.block w.heap.size (by simp)).trans H0
  simp at hg
  go_wp2_with fail
  refine (item_any g 0 _ _ hr (by omega) (by omega)).mono ?_
  rintro e w2 ⟨⟨i, rfl, hi⟩, hr2, hg2⟩
  have H2 := heap_kept' hg2 H1 (by omega)
  obtain ⟨p0, p1, p2, p3, f0, f1, f2, f3⟩ := cells4 H2
  have st := (stored4 H2 (.string i.key) (.string i.title) (.string i.body) (.int .i64 i.day)).2
  have hz := hb0.trans (hb.mono (by simp))
  go_wp2
  refine bodyPost_ret (v := .agg #[.string i.key, .string i.title, .string i.body, .int .i64 i.day]) ?_ rfl ⟨⟨i, rfl, hi⟩, grown_below (grown_below hz hg2 hz.size (by omega)) st (by have := hz.size; have := hg2.size; omega) (Nat.le_refl _)⟩
  simp only [results, hres]
  go_simp
set_option maxHeartbeats 400000 in
theorem drawFeedLines_any (a : Option Addr) (len cap : Nat) (zs : List Int) (w : World) (h : IsRow .u8 w a len cap zs) :
    Calls Tryd.prog 38 #[.slice a len cap] w (FeedDrawn w) := by
  have H := Lib.hid h
  clear h
  go_enter Tryd.func38, Tryd.ntmps38
  go_wp2_with fail
  refine (open_any a len cap zs _ H.out).mono ?_
  rintro e w1 ⟨g, rfl, hg, hr, hb⟩
  go_wp2_with fail
  refine (feed_any g 0 _ _ hr (by omega) (by omega)).mono ?_
  rintro e w2 ⟨⟨q, n, cap, l, rfl, hown, hl, hn, hs⟩, hr2, hg2⟩
  go_wp2
  go_ret
  exact ⟨⟨q, n, cap, l, rfl, own_base4 hown hb.size, hl, hn, hs⟩, grown_below hb hg2 hb.size hg⟩
end Go.Proofs.YtldllhfadihmeaaDoor
