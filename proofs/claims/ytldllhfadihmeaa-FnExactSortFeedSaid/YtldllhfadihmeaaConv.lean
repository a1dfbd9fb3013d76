/- Bytes made into a string. No condition. -/
import Derived.Test.YtldllhfadihmeaaBytes
import Derived.Laws.BytesString
import Derived.ShutString
namespace Go.Proofs.Ytldllhfadihmeaa
open Go.RowKit

theorem conv_bytes (W : World) (zs : List Int) (n : Nat) (hn : zs.length = n) : (convert 37 9 (.slice (some ⟨W.heap.size, 0, none⟩) n n)).run Try.prog (W.alloc (.cells (zs.map (Value.int .u8)).toArray 5)) =
    .ok (.string (zs.foldl (fun r n => r.push (UInt8.ofNat n.toNat)) ByteArray.empty)) (W.alloc (.cells (zs.map (Value.int .u8)).toArray 5)) := by
  subst hn
  rw [run_convert_bytes_string _ _ _ 5 _ _ _ Try.underlying37 Try.underlying5 Try.underlying9]
  refine run_bytesToString _ _ _ _ zs ?_
  have hr := run_loadCells_list (P := Try.prog) (w := W.alloc (.cells (zs.map (Value.int .u8)).toArray 5)) ⟨W.heap.size, 0, none⟩ (zs.map (Value.int .u8)) (fun j u hj => by
    have e : (⟨W.heap.size, 0, none⟩ : Addr).add j = ⟨W.heap.size, j, none⟩ := by unfold Addr.add; split <;> simp_all
    rw [e, cell_of_row _ _ _ _ _ _ (heap_alloc_new _ _)]
    simpa using hj)
  rw [List.length_map] at hr
  exact hr
theorem conv1 (a : Int) (W : World) : (convert 37 9 (.slice (some ⟨W.heap.size, 0, none⟩) 1 1)).run Try.prog (W.alloc (.cells #[.int .u8 a] 5)) =
    .ok (.string ⟨[UInt8.ofNat a.toNat].toArray⟩) (W.alloc (.cells #[.int .u8 a] 5)) := conv_bytes W [a] 1 rfl
theorem push_list (zs : List UInt8) : ∀ acc : ByteArray, (zs.map fun z => (z.toNat : Int)).foldl (fun r n => r.push (UInt8.ofNat n.toNat)) acc = ⟨acc.data ++ zs.toArray⟩ := by
  induction zs with
  | nil => intro acc; simp
  | cons z zs ih =>
    intro acc
    rw [List.map_cons, List.foldl_cons, ih]
    congr 1
    rw [show UInt8.ofNat ((z.toNat : Int)).toNat = z from by simp]
    simp [ByteArray.push]
theorem conv_list (W : World) (a : Addr) (n c : Nat) (zs : List UInt8) (hn : zs.length = n) (hc : ∀ j u, (zs.map fun z => Value.int .u8 (z.toNat : Int))[j]? = some u → W.cell? (a.add j) = some u) :
    (convert 37 9 (.slice (some a) n c)).run Try.prog W = .ok (.string ⟨zs.toArray⟩) W := by
  subst hn
  rw [run_convert_bytes_string _ _ _ 5 _ _ _ Try.underlying37 Try.underlying5 Try.underlying9]
  rw [run_bytesToString W a _ c (zs.map fun z => (z.toNat : Int)) ?_, push_list]
  · simp
  · have hr := run_loadCells_list (P := Try.prog) (w := W) a (zs.map fun z => Value.int .u8 (z.toNat : Int)) hc
    rw [List.length_map] at hr
    rw [hr, List.map_map]
    rfl
theorem conv_nil (W : World) : (convert 37 9 (.slice none 0 0)).run Try.prog W = .ok (.string ⟨#[]⟩) W := by kernel_rfl
end Go.Proofs.Ytldllhfadihmeaa
