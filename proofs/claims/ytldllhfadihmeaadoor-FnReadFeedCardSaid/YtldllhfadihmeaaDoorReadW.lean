/- ReadElements of the program reads a text of elements. -/
import Derived.Test.YtldllhfadihmeaaDoorFstEW
import Derived.Test.YtldllhfadihmeaaDoorElsL
namespace Go.Proofs.YtldllhfadihmeaaDoor
open Go.RowKit

/-- What a round keeps: the elements read so far, and the rest of the text. -/
def RdTo (s : ByteArray) (l : List El) (r : ByteArray) : Prop := l.all elV = true ∧ s.data.toList = elsL l ++ r.data.toList
theorem RdTo.zero (s : ByteArray) : RdTo s [] s := ⟨rfl, by simp [elsL]⟩
theorem ne_of_size {r : ByteArray} (h : 0 < r.size) : r.data.toList ≠ [] := by
  intro e; rw [← size_toList, e] at h; simp at h
theorem RdTo.bad {s r : ByteArray} {l : List El} (h : RdTo s l r) (h0 : 0 < r.size) (hn : ∀ f, elV f = true → ¬ elL f <+: r.data.toList) : readE s.data.toList = none := firstE_none h.1 h.2 (ne_of_size h0) hn
theorem RdTo.full {s r : ByteArray} {l : List El} (h : RdTo s l r) (h0 : 0 < r.size) (hk : l.length = 8) : readE s.data.toList = none := firstE_more h.1 h.2 (ne_of_size h0) hk
theorem RdTo.next {s r : ByteArray} {l : List El} {x : El} (h : RdTo s l r) (hx : elV x = true) (hp : elL x <+: r.data.toList) : RdTo s (l ++ [x]) (r.extract (elL x).length r.size) := by
  refine ⟨by rw [List.all_append, h.1]; simp [hx], ?_⟩
  obtain ⟨q, hq⟩ := hp
  rw [drop_part hq.symm, elsL_snoc, h.2, ← hq, List.append_assoc]
theorem RdTo.done {s r : ByteArray} {l : List El} (h : RdTo s l r) (h0 : ¬ 0 < r.size) (hk : l.length ≤ 8) : readE s.data.toList = some l := by
  have hr : r.data.toList = [] := List.eq_nil_of_length_eq_zero (by rw [size_toList]; omega)
  exact readE_yes ((elsV_iff l).2 ⟨hk, h.1⟩) (by rw [h.2, hr, List.append_nil])
/-- What a reading of elements leaves behind. -/
def ElsRead (o : Option (List El)) (w : World) (e : Ending) (w' : World) : Prop :=
  (∃ (a : Option Addr) (n cap : Nat), e = .returned (.tuple #[.slice a n cap, .bool o.isSome]) ∧ w'.ownsRow w.heap.size 67 2 (.slice a n cap) n (flatE (o.getD [])) ∧ (o.getD []).length = n) ∧ Below w.heap.size w w'
theorem elsRead_no {o : Option (List El)} {w w' : World} (h : o = none) (a : Option Addr) (cap : Nat) (ho : w'.ownsRow w.heap.size 67 2 (.slice a 0 cap) 0 []) (hb : Below w.heap.size w w') : ElsRead o w (.returned (.tuple #[.slice a 0 cap, .bool false])) w' := by
  subst h
  exact ⟨⟨a, 0, cap, rfl, ho, rfl⟩, hb⟩
theorem elsRead_yes {o : Option (List El)} {l : List El} {w w' : World} (h : o = some l) (a : Option Addr) (n cap : Nat) (ho : w'.ownsRow w.heap.size 67 2 (.slice a n cap) n (flatE l)) (hl : l.length = n) (hb : Below w.heap.size w w') : ElsRead o w (.returned (.tuple #[.slice a n cap, .bool true])) w' := by
  subst h
  exact ⟨⟨a, n, cap, rfl, ho, hl⟩, hb⟩
theorem cell_two_newR (W : World) (o : Obj) (a b : Value) (t : TypeId) : ∀ j u, [a, b][j]? = some u → ((W.alloc o).alloc (.cells #[a, b] t)).cell? ((⟨W.heap.size + 1, 0, none⟩ : Addr).add j) = some u := by
  have := cell_two_new (W.alloc o) a b t
  simpa using this

set_option maxHeartbeats 2000000 in
theorem impl_readElements (s : ByteArray) (w : World) (hs : s.size ≤ 1000000000) (hE : EscAt w) :
    Calls Tryd.prog 58 #[.string s] w (ElsRead (readE s.data.toList) w) := by
  obtain ⟨ti, hti, hz0, hz1, hz2⟩ := info_parts Tryd.infoE
  have HE := Lib.hid hE
  clear hE
  go_enter Tryd.func58, Tryd.ntmps58
  go_wp2
  go_loopw [0, 4] (fun t o wr => ∃ (r : ByteArray) (a : Option Addr) (k cap : Nat) (l : List El), t = .string r ∧ o = .slice a k cap ∧ k ≤ 8 ∧ l.length = k ∧ r.size ≤ s.size ∧ Hid (RdTo s l r) ∧ wr.ownsRow w.heap.size 67 2 (.slice a k cap) k (flatE l) ∧ Below w.heap.size w wr) (fun t _ _ => strLen t)
  case atStart => exact ⟨s, none, 0, 0, [], rfl, rfl, by omega, rfl, Nat.le_refl _, RdTo.zero s, World.ownsRow_nil _ _ _ _, Below.refl _ _⟩
  case round =>
    obtain ⟨r, a, k, cap, l, rfl, rfl, hk, hl, hrs, ho, hown, hbr⟩ := hrel
    have HL := Lib.hid hl
    clear hl
    by_cases h0 : 0 < r.size
    · have c1 := Lib.hid (fun w h => impl_firstElement r w h0 (by omega) h)
      have HW := Lib.hid (HE.out.old hbr)
      go_wp2_with fail
      refine (c1.out _ HW.out).mono ?_
      rintro e w2 ⟨⟨x, n, rfl, hf⟩, hb2⟩
      have hbz := hbr.trans (hb2.mono hbr.size)
      have own2 := hown.kept (below_grown hb2) (by cases (Value.slice a k cap).ownBlock <;> simp)
      have hbw := (hbz.alloc hbz.size (.cells #[.string x.1, .string x.2] 67))
      clear hown hb2
      rcases hf with ⟨rfl, hf⟩ | ⟨hx, hm, hp⟩
      · have E := Lib.hid (ho.out.bad h0 hf)
        go_wp2
        go_ret2
        exact elsRead_no E.out none 0 (World.ownsRow_nil _ _ _ _) hbw
      · have hb : ((n : Int) == 0) = false := by rw [beq_eq_false_iff_ne, hm, elL_len]; omega
        have hnr : n ≤ r.size := by rw [hm, ← size_toList]; exact hp.length_le
        by_cases h8 : k = 8
        · have E := Lib.hid (ho.out.full h0 (HL.out.trans h8))
          subst h8
          clear hx hm hp
          go_wp2
          go_ret2
          exact elsRead_no E.out none 0 (World.ownsRow_nil _ _ _ _) hbw
        · have hk8 : ((k : Int) == 8) = false := by rw [beq_eq_false_iff_ne]; omega
          have hn0 : 0 < n := by rw [beq_eq_false_iff_ne] at hb; omega
          have HO := Lib.hid (ho.out.next hx hp)
          rw [← hm] at HO
          have hrz : (r.extract n r.size).size = r.size - n := by rw [ByteArray.size_extract]; omega
          clear hx hm hp ho
          go_wp2_with (at_builtin; refine wpList_append_lies _ rfl _ _ 68 rfl w.heap.size 67 ti _ 2 32 Tryd.underlying68 hti hz0 hz1 hz2 rfl (by decide) _ k (flatE l) rfl ((own2.alloc _).alloc _) ⟨w2.heap.size + 1, 0, none⟩ 1 1 [.string x.1, .string x.2] rfl rfl (cell_two_newR _ _ _ _ _) (fun x hx => by simp at hx; rcases hx with rfl | rfl <;> rfl) (by omega) (by unfold maxLen; omega) (by omega) (by have := hbz.size; simp; omega) _ rfl ?_; intro q2 cap2 w5 hown5 hgrow5 hat5 hlt5)
          have hbq := Below.grown (hbw.alloc hbw.size _) hgrow5 (by have := hbz.size; simp; omega) (fun j e => (own2.lt j e).1)
          have HO5 := Lib.hid hown5
          clear hown5 hgrow5 hat5
          go_wp2
          go_roundw
          case rel => exact ⟨r.extract n r.size, some ⟨q2, 0, none⟩, k + 1, cap2, l ++ [x], rfl, rfl, by omega, by simp [HL.out], by omega, HO.out, by rw [flatE_app]; exact HO5.out, hbq⟩
          case measure => simp [strLen, hrz]; omega
    · have E := Lib.hid (ho.out.done h0 (by rw [HL.out]; exact hk))
      go_wp2
      go_ret2
      exact elsRead_yes E.out a k cap hown HL.out hbr
end Go.Proofs.YtldllhfadihmeaaDoor
