/- The draw of a text. -/
import Derived.Test.YtldllhfadihmeaaDraw
import Derived.Deep.RegionWith
import Derived.Laws.BytesString
namespace Go.Proofs.Ytldllhfadihmeaa
open Go.RowKit

def zero81 : Array Value := Array.replicate 81 (.int .u8 0)
def str81 : ByteArray := ⟨Array.replicate 81 0⟩
theorem make81 (w : World) : (Instr.makeSlice 37 (.int .i64 81) (.int .i64 81)).run Try.prog w = .ok (.slice (some ⟨w.heap.size, 0, none⟩) 81 81) (w.alloc (.cells zero81 5)) := by kernel_rfl
theorem fold81 : (List.replicate 81 (0 : Int)).foldl (fun r n => r.push (UInt8.ofNat n.toNat)) ByteArray.empty = str81 := by decide +kernel
theorem conv_of (W : World) (b : Nat) (h : W.heap[b]? = some (.cells zero81 5 (0, 0))) : (convert 37 9 (.slice (some ⟨b, 0, none⟩) 81 81)).run Try.prog W = .ok (.string str81) W := by
  rw [run_convert_bytes_string W _ _ 5 _ _ _ Try.underlying37 Try.underlying5 Try.underlying9]
  rw [run_bytesToString W ⟨b, 0, none⟩ 81 81 (List.replicate 81 0), fold81]
  have hr := run_loadCells_list (P := Try.prog) (w := W) ⟨b, 0, none⟩ (List.map (Value.int IntKind.u8) (List.replicate 81 0)) (fun j u hj => by
    have e : (⟨b, 0, none⟩ : Addr).add j = ⟨b, j, none⟩ := by unfold Addr.add; split <;> simp_all
    rw [e, cell_of_row W b j zero81 _ _ h]
    unfold zero81
    rw [List.map_replicate] at hj
    rw [← hj, ← Array.getElem?_toList, Array.toList_replicate])
  rw [List.length_map, List.length_replicate] at hr
  exact hr
/-- The texts of a draw that are none. -/
def bad3 : Array Value := #[.string ⟨#[10]⟩, .string str81, .string ⟨#[97, 127]⟩]
theorem bad3_row : StrRow bad3 100 := by
  intro k hk
  match k, hk with
  | 0, _ => exact ⟨_, rfl, by decide⟩
  | 1, _ => exact ⟨_, rfl, by unfold str81; simp [ByteArray.size]⟩
  | 2, _ => exact ⟨_, rfl, by decide⟩

theorem un_drew {w w2 : World} {r : Option Nat} (h : w.drew.grownBy w2 r) : w.grownBy w2 r := ⟨h.os, h.tape, h.output, h.size, h.block⟩
theorem row_one (s : ByteArray) (k : Nat) (h : bad3[k]? = some (.string s)) : ∀ W : World, (W.alloc (.cells #[.string ⟨#[10]⟩, .string str81, .string ⟨#[97, 127]⟩] 9)).cell? ⟨W.heap.size, k, none⟩ = some (.string s) :=
  fun W => (cell_of_row _ _ _ _ _ _ (heap_alloc_new W _)).trans h
theorem row_two (s : ByteArray) (k : Nat) (h : bad3[k]? = some (.string s)) : ∀ W : World, ((W.alloc (.cells zero81 5)).alloc (.cells #[.string ⟨#[10]⟩, .string str81, .string ⟨#[97, 127]⟩] 9)).cell? ⟨W.heap.size + 1, k, none⟩ = some (.string s) := fun W => by
  have := row_one s k h (W.alloc (.cells zero81 5))
  rwa [show (W.alloc (.cells zero81 5)).heap.size = W.heap.size + 1 from by simp] at this
theorem conv_kept {w w2 : World} {g : Nat} (hg : (w.alloc (.cells zero81 5)).grownBy w2 (some g)) (hlt : g < w.heap.size) : (convert 37 9 (.slice (some ⟨w.heap.size, 0, none⟩) 81 81)).run Try.prog w2 = .ok (.string str81) w2 :=
  conv_of _ _ ((hg.block _ (by simp) (fun e => by injection e; omega)).trans (heap_alloc_new w _))
theorem row_end {w w2 : World} {g k : Nat} {s : ByteArray} (hg : ((w.alloc (.cells zero81 5)).alloc (.cells #[.string ⟨#[10]⟩, .string str81, .string ⟨#[97, 127]⟩] 9)).grownBy w2 (some g)) (hlt : g < w.heap.size) (h : bad3[k]? = some (.string s)) : w2.cell? ⟨w.heap.size + 1, k, none⟩ = some (.string s) := by
  have h1 := row_kept hg (by simp; omega) k
  rw [show (w.alloc (.cells zero81 5)).heap.size = w.heap.size + 1 from by simp] at h1
  exact h1.trans h

theorem texts_good : StrRow #[.string ⟨#[]⟩, .string ⟨#[104, 101, 108, 108, 111, 32, 119, 111, 114, 108, 100]⟩, .string ⟨#[97, 60, 98, 62, 99, 60, 47, 98, 62, 32, 38, 32, 100]⟩, .string ⟨#[79, 110, 101, 32, 116, 104, 105, 110, 103, 46, 32, 84, 119, 111, 33]⟩, .string ⟨#[34, 120, 34]⟩, .string ⟨#[115, 101, 101, 32, 64, 97, 110, 110, 64, 114, 101, 100, 32, 97, 110, 100, 32, 35, 110, 101, 119, 115, 46]⟩, .string ⟨#[48, 49, 50, 51, 52, 53, 54, 55, 56, 57, 48, 49, 50, 51, 52, 53, 54, 55, 56, 57, 48, 49, 50, 51, 52, 53, 54, 55, 56, 57, 48, 49, 50, 51, 52, 53, 54, 55, 56, 57, 48, 49, 50, 51, 52, 53, 54, 55, 56, 57, 48, 49, 50, 51, 52, 53, 54, 55, 56, 57, 48, 49, 50, 51, 52, 53, 54, 55, 56, 57, 48, 49, 50, 51, 52, 53, 54, 55, 56, 57]⟩] 100 := by
  intro k hk
  match k, hk with
  | 0, _ => exact ⟨_, rfl, by decide⟩
  | 1, _ => exact ⟨_, rfl, by decide⟩
  | 2, _ => exact ⟨_, rfl, by decide⟩
  | 3, _ => exact ⟨_, rfl, by decide⟩
  | 4, _ => exact ⟨_, rfl, by decide⟩
  | 5, _ => exact ⟨_, rfl, by decide⟩
  | 6, _ => exact ⟨_, rfl, by decide⟩

set_option maxHeartbeats 1000000 in
theorem text_any (g P : Nat) (n : Int) (w : World) (hr : Rd w g P) (hP : P ≤ 900000) (hn : n ≤ 1000000) :
    Calls Try.prog 76 #[.pointer (some ⟨g, 0, none⟩), .int .i64 n] w (StrPost w g (P + 2) 100) := by
  go_enter Try.func76, Try.ntmps76
  go_wp2_with fail
  refine (odd_any g P _ _ hr (by omega) hn).mono ?_
  rintro e w1 ⟨b, rfl, hr1, hg1⟩
  have hlt := hr1.lt
  cases b
  · go_wp2_with fail
    refine (pick_any g (P + 1) _ _ (hr1.alloc _) (by omega)).mono ?_
    rintro e w2 ⟨v, rfl, v0, v1, hr2, hg2⟩
    have v2 := v1 (by omega)
    clear v1
    obtain ⟨k, rfl⟩ := Int.eq_ofNat_of_zero_le v0
    obtain ⟨s, hs, hsz⟩ := row_str hg2 hlt texts_good k (by simp; omega)
    go_wp2
    go_ret
    exact ⟨s, rfl, hsz, hr2, grown_trans hg1 (grown_trans (World.grownBy_alloc _ _ _) hg2)⟩
  · have hmk := make81
    have hcv1 : ∀ W : World, (convert 37 9 (.slice (some ⟨W.heap.size, 0, none⟩) 81 81)).run Try.prog (W.alloc (.cells zero81 5)) = .ok (.string str81) (W.alloc (.cells zero81 5)) := fun W => conv_of _ _ (heap_alloc_new W _)
    have hcv2 : ∀ W : World, (convert 37 9 (.slice (some ⟨W.heap.size, 0, none⟩) 81 81)).run Try.prog (W.alloc (.cells zero81 5)).drew = .ok (.string str81) (W.alloc (.cells zero81 5)).drew := fun W => conv_of _ _ (heap_alloc_new W _)
    go_wp2_with fail
    go_region_with (go_at_call 64; refine (pick_any g (P + 1) _ _ ?_ (by omega)).mono ?_; (first | exact hr1 | exact hr1.alloc _ | exact (hr1.alloc _).alloc _); rintro e w2 ⟨v, rfl, v0, v1, hr2, hg2⟩; have v2 := v1 (by omega); clear v1; obtain ⟨k, rfl⟩ := Int.eq_ofNat_of_zero_le v0; obtain ⟨s, hs, hsz⟩ := bad3_row k (by show k < 3; omega); have F1 := row_two s k hs; have F2 := row_one s k hs; (try have F3 := conv_kept (un_drew hg2) hlt); (try have F5 := row_end (un_drew hg2) hlt hs))
    all_goals
      go_wp2
      go_ret
      refine ⟨s, rfl, hsz, ?_, grown_trans hg1 ?_⟩
      · first
          | exact hr2
          | exact hr2.alloc _
          | exact (hr2.alloc _).alloc _
      · first
          | exact grown_trans (grown_alloc (World.grownBy_alloc w1 _ _) _) (un_drew hg2)
          | exact grown_alloc (grown_trans (World.grownBy_alloc w1 _ _) (un_drew hg2)) _
          | exact grown_alloc (grown_alloc (un_drew hg2) _) _

end Go.Proofs.Ytldllhfadihmeaa
