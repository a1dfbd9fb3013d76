/- ReadFeed of the program: rdF. -/
import Derived.Test.YtldllhfadihmeaaDoorRdM
import Derived.Test.YtldllhfadihmeaaDoorPlM
import Derived.Test.YtldllhfadihmeaaDoorFvS
import Derived.Test.YtldllhfadihmeaaDoorStrs
import Derived.Deep.AppendLies
namespace Go.Proofs.YtldllhfadihmeaaDoor
open Go.RowKit

def rfL (o : Option (List It × Nat)) : List It := (o.map (·.1)).getD []
def rfN (o : Option (List It × Nat)) : Int := match o with | some p => (p.2 : Int) | none => -1
/-- What ReadFeed leaves behind. -/
def RfGiven (o : Option (List It × Nat)) (w : World) (e : Ending) (w' : World) : Prop :=
  (∃ (a : Option Addr) (n cap : Nat), e = .returned (.tuple #[.slice a n cap, .int .i64 (rfN o)]) ∧ w'.ownsRow w.heap.size 41 4 (.slice a n cap) n (flatI (rfL o)) ∧ (rfL o).length = n ∧ n ≤ cap ∧ cap ≤ maxLen) ∧ Below w.heap.size w w'
theorem rf_given {o : Option (List It × Nat)} {l : List It} {c : Nat} {w w' : World} (h : o = some (l, c)) (a : Option Addr) (n cap : Nat) (ho : w'.ownsRow w.heap.size 41 4 (.slice a n cap) n (flatI l)) (hl : l.length = n) (hb : Below w.heap.size w w') : RfGiven o w (.returned (.tuple #[.slice a n cap, .int .i64 (c : Int)])) w' := by
  subst h
  exact ⟨⟨a, n, cap, rfl, ho, hl, own_cap ho⟩, hb⟩
theorem rf_none {o : Option (List It × Nat)} {w w' : World} (h : o = none) (a : Option Addr) (cap : Nat) (ho : w'.ownsRow w.heap.size 41 4 (.slice a 0 cap) 0 []) (hb : Below w.heap.size w w') : RfGiven o w (.returned (.tuple #[.slice a 0 cap, .int .i64 (-1)])) w' := by
  subst h
  exact ⟨⟨a, 0, cap, rfl, ho, rfl, own_cap ho⟩, hb⟩

set_option maxRecDepth 100000 in
set_option maxHeartbeats 2000000 in
theorem impl_readFeed (a : Option Addr) (n cap : Nat) (l : List ByteArray) (w : World) (h : StAt w a l) (hn : l.length = n) (hm : n ≤ maxLen) (hs : ∀ s ∈ l, s.size ≤ 1000000000) (hE : EscAt w) :
    Calls Tryd.prog 14 #[.slice a n cap] w (RfGiven (rdF [] 0 l) w) := by
  obtain ⟨ti, hti, iz0, iz1, iz2⟩ := info_parts Tryd.infoI
  unfold maxLen at hm
  have HN := Lib.hid hn
  have HE := Lib.hid h
  have HX := Lib.hid hE
  have HS := Lib.hid hs
  clear hn h hs hE
  go_enter Tryd.func14, Tryd.ntmps14
  go_wp2
  go_loopw [4, 5, 12] (fun o d i wr => ∃ (k m c cp : Nat) (b : Option Addr) (q : List It), o = .slice b m cp ∧ d = .int .i64 c ∧ i = .int .i64 k ∧ k ≤ n ∧ m ≤ 8 ∧ c ≤ k ∧ q.length = m ∧ Hid (RfTo l k q c) ∧ wr.ownsRow w.heap.size 41 4 (.slice b m cp) m (flatI q) ∧ Below w.heap.size w wr) (fun _ _ i _ => n - (intOf i).toNat)
  case atStart => exact ⟨0, 0, 0, 0, none, [], rfl, rfl, rfl, by omega, by omega, by omega, rfl, RfTo.zero _, World.ownsRow_nil _ _ _ _, Below.refl _ _⟩
  case round =>
    obtain ⟨k, m, c, cp, b, q, rfl, rfl, rfl, hk, hm8, hck, hq, ho, hown, hbr⟩ := hrel
    have HQ := Lib.hid hq
    clear hq
    by_cases hlt : k < n
    · have hkl : k < l.length := by rw [HN.out]; exact hlt
      obtain ⟨b0, off, ha, h1⟩ := HE.out.old hbr k hkl
      have cr := Lib.hid (fun w h => impl_readItem l[k] w (HS.out _ (List.getElem_mem hkl)) h)
      have HB := Lib.hid (fun hr => ho.out.bad hkl hr)
      have HH := Lib.hid (fun i (hr : readI l[k].data.toList = some i) hh => ho.out.has hkl hr hh)
      have HNw := Lib.hid (fun i (hr : readI l[k].data.toList = some i) hh hl => ho.out.new hkl hr hh hl)
      have HFu := Lib.hid (fun i (hr : readI l[k].data.toList = some i) hh hl => ho.out.full hkl hr hh hl)
      have hown1 := own_cap hown
      unfold ItRead at cr
      generalize l[k] = s at *
      subst ha
      clear ho
      cases hr : readI s.data.toList with
      | none =>
        have HO := Lib.hid (HB.out hr)
        rw [hr] at cr
        have cr : Hid (∀ w, EscAt w → Calls Tryd.prog 35 #[.string s] w fun e w' => e = .returned (.tuple #[.agg #[.string ⟨#[]⟩, .string ⟨#[]⟩, .string ⟨#[]⟩, .int .i64 0], .bool false]) ∧ Below w.heap.size w w') := cr
        clear hr HB HH HNw HFu
        go_wp2_with fail
        refine (cr.out _ (HX.out.old hbr)).mono ?_
        rintro e w2 ⟨rfl, hb2⟩
        have hz2 := hbr.trans (hb2.mono hbr.size)
        have own2 := own_low' hown hb2
        have hz2a := hz2.alloc hz2.size (.cells #[.string ⟨#[]⟩, .string ⟨#[]⟩, .string ⟨#[]⟩, .int .i64 0] 41)
        go_wp2
        go_roundw
        case rel => exact ⟨k + 1, m, c + 1, cp, b, q, rfl, by go_num, by go_num, by omega, by omega, by omega, HQ.out, HO.out, own2.alloc _, hz2a⟩
        case measure => simp [intOf]; omega
      | some x =>
        rw [hr] at cr
        have cr : Hid (∀ w, EscAt w → Calls Tryd.prog 35 #[.string s] w fun e w' => e = .returned (.tuple #[.agg #[.string x.key, .string x.title, .string x.body, .int .i64 x.day], .bool true]) ∧ Below w.heap.size w w') := cr
        have HH1 := Lib.hid (fun h => HH.out x hr h)
        have HN1 := Lib.hid (fun h h2 => HNw.out x hr h h2)
        have HF1 := Lib.hid (fun h h2 => HFu.out x hr h h2)
        clear hr HB HH HNw HFu
        go_wp2_with fail
        refine (cr.out _ (HX.out.old hbr)).mono ?_
        rintro e w2 ⟨rfl, hb2⟩
        have hz2 := hbr.trans (hb2.mono hbr.size)
        have own2 := (own_low' hown hb2).alloc (.cells #[.string x.key, .string x.title, .string x.body, .int .i64 x.day] 41)
        have hz2a := hz2.alloc hz2.size (.cells #[.string x.key, .string x.title, .string x.body, .int .i64 x.day] 41)
        have cn := Lib.hid (impl_itemNumber b m cp q x.key _ (ItAt.own' own2 HQ.out) HQ.out (by unfold maxLen; omega))
        obtain ⟨v, hv⟩ : ∃ v, v = numI q x.key := ⟨_, rfl⟩
        have hneg : v < 0 ↔ hasK q x.key = false := by rw [hv]; exact numI_neg q x.key
        rw [← hv] at cn
        clear hv
        have K2 := Lib.hid (fun w3 h => item_kept w2 41 x w3 h)
        go_wp2_with fail
        refine cn.out.mono ?_
        rintro e w3 ⟨rfl, hb3⟩
        have own3 := own_low' own2 hb3
        have hz3 := hz2a.trans (hb3.mono hz2a.size)
        obtain ⟨p0, p1, p2, p3⟩ := K2.out _ (hb3.mono (by simp))
        by_cases hv0 : v < 0
        · have hh := hneg.1 hv0
          by_cases h8 : m = 8
          · have HO := Lib.hid (HF1.out hh (by rw [HQ.out]; exact h8))
            subst h8
            go_wp2
            go_ret2
            exact rf_none HO.out none 0 (World.ownsRow_nil _ _ _ _) hz3
          · have HO := Lib.hid (HN1.out hh (by rw [HQ.out]; exact h8))
            have h8i : ¬ (m : Int) = 8 := by omega
            have h8b : ((m : Int) == 8) = false := by rw [beq_eq_false_iff_ne]; omega
            clear hneg
            go_wp2_with (at_builtin; refine wpList_append_lies _ rfl _ _ 24 rfl w.heap.size 41 ti _ 4 56 Tryd.underlying24 hti iz0 iz1 iz2 rfl (by decide) _ m (flatI q) rfl (own3.alloc _) ⟨w3.heap.size, 0, none⟩ 1 1 [.string x.key, .string x.title, .string x.body, .int .i64 x.day] rfl rfl (cell_four_new _ _ _ _ _ _) (fun x hx => by simp at hx; rcases hx with rfl | rfl | rfl | rfl <;> rfl) (by omega) (by unfold maxLen; omega) (by omega) (by have := hz3.size; simp; omega) _ rfl ?_; intro q2 cap2 w5 hown5 hgrow5 hat5 hlt5)
            have hb5 := Below.grown (hz3.alloc hz3.size _) hgrow5 (by have := hz3.size; simp; omega) (fun j e => (own3.lt j e).1)
            have HO5 := Lib.hid hown5
            clear hown5 hgrow5 hat5
            go_wp2
            go_roundw
            case rel => exact ⟨k + 1, m + 1, c, cap2, some ⟨q2, 0, none⟩, q ++ [x], rfl, rfl, by go_num, by omega, by omega, by omega, by simp [HQ.out], HO.out, by rw [flatI_app]; exact HO5.out, hb5⟩
            case measure => simp [intOf]; omega
        · have hh : hasK q x.key = true := by
            cases he : hasK q x.key
            · exact absurd (hneg.2 he) hv0
            · rfl
          have HO := Lib.hid (HH1.out hh)
          clear hneg
          have hv1 : v ≥ 0 := by omega
          go_wp2
          go_roundw
          case rel => exact ⟨k + 1, m, c, cp, b, q, rfl, rfl, by go_num, by omega, by omega, by omega, HQ.out, HO.out, own3, hz3⟩
          case measure => simp [intOf]; omega
    · have E := Lib.hid (ho.out.done (by rw [HN.out]; omega))
      go_wp2
      go_ret2
      exact rf_given E.out b m cp hown HQ.out hbr
end Go.Proofs.YtldllhfadihmeaaDoor
