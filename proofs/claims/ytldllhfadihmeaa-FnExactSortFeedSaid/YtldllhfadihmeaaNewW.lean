/- NewItems of the program: newI. -/
import Derived.Test.YtldllhfadihmeaaIwW
import Derived.Test.YtldllhfadihmeaaNew
import Derived.Deep.AppendLies
namespace Go.Proofs.Ytldllhfadihmeaa
open Go.RowKit

/-- What a function that gives items leaves behind. -/
def ItsGiven (l : List It) (w : World) (e : Ending) (w' : World) : Prop :=
  (∃ (a : Option Addr) (n cap : Nat), e = .returned (.slice a n cap) ∧ w'.ownsRow w.heap.size 34 4 (.slice a n cap) n (flatI l) ∧ l.length = n ∧ n ≤ cap ∧ cap ≤ maxLen) ∧ Below w.heap.size w w'
theorem own_cap {w : World} {base t size n cap : Nat} {a : Option Addr} {xs : List Value} (h : w.ownsRow base t size (.slice a n cap) n xs) : n ≤ cap ∧ cap ≤ maxLen := by
  rcases h.2 with ⟨e, h0⟩ | ⟨g, c, cur, e, _, _, h1, h2, _⟩
  · injection e with _ _ e3
    subst e3; subst h0
    exact ⟨Nat.le_refl _, by unfold maxLen; omega⟩
  · injection e with _ _ e3
    subst e3
    exact ⟨h1, h2⟩
theorem own_low' {w w' : World} {base t size n cap : Nat} {xs : List Value} {a : Option Addr} (h : w.ownsRow base t size (.slice a n cap) n xs) (hb : Below w.heap.size w w') : w'.ownsRow base t size (.slice a n cap) n xs :=
  h.kept (below_grown hb) (by cases (Value.slice a n cap).ownBlock <;> simp)
theorem item_kept (W : World) (t : TypeId) (x : It) (w2 : World) (h : Below (W.heap.size + 1) (W.alloc (.cells #[.string x.key, .string x.title, .string x.body, .int .i64 x.day] t)) w2) :
    w2.cell? ⟨W.heap.size, 0, none⟩ = some (.string x.key) ∧ w2.cell? ⟨W.heap.size, 1, none⟩ = some (.string x.title) ∧ w2.cell? ⟨W.heap.size, 2, none⟩ = some (.string x.body) ∧ w2.cell? ⟨W.heap.size, 3, none⟩ = some (.int .i64 x.day) :=
  ⟨(h.cell (p := ⟨W.heap.size, 0, none⟩) (by simp)).trans (by go_simp), (h.cell (p := ⟨W.heap.size, 1, none⟩) (by simp)).trans (by go_simp), (h.cell (p := ⟨W.heap.size, 2, none⟩) (by simp)).trans (by go_simp), (h.cell (p := ⟨W.heap.size, 3, none⟩) (by simp)).trans (by go_simp)⟩
theorem its_given {l l' : List It} {w w' : World} (h : l' = l) (a : Option Addr) (n cap : Nat) (ho : w'.ownsRow w.heap.size 34 4 (.slice a n cap) n (flatI l)) (hl : l.length = n) (hb : Below w.heap.size w w') : ItsGiven l' w (.returned (.slice a n cap)) w' := by
  subst h
  exact ⟨⟨a, n, cap, rfl, ho, hl, own_cap ho⟩, hb⟩
theorem cell_four_new (W : World) (a b c d : Value) (t : TypeId) : ∀ j u, [a, b, c, d][j]? = some u → (W.alloc (.cells #[a, b, c, d] t)).cell? ((⟨W.heap.size, 0, none⟩ : Addr).add j) = some u := by
  intro j u h
  match j with
  | 0 => simp at h; subst h; simp [Addr.add]
  | 1 => simp at h; subst h; simp [Addr.add]
  | 2 => simp at h; subst h; simp [Addr.add]
  | 3 => simp at h; subst h; simp [Addr.add]
  | j + 4 => simp at h
theorem newP_num {a : List It} {i : It} {v : Int} (h : v = numI a i.key) : newP a i = decide (v < 0) := by
  unfold newP
  subst h
  cases hh : hasK a i.key
  · rw [decide_eq_true ((numI_neg a i.key).2 hh)]; rfl
  · rw [decide_eq_false (fun e => by rw [(numI_neg a i.key).1 e] at hh; cases hh)]; rfl

theorem its_cap {l : List It} {x : It} (h : ∀ i ∈ l, i.key.size ≤ maxLen ∧ i.title.size ≤ maxLen ∧ i.body.size ≤ maxLen) (hx : x.key.size ≤ maxLen ∧ x.title.size ≤ maxLen ∧ x.body.size ≤ maxLen) : ∀ i ∈ l ++ [x], i.key.size ≤ maxLen ∧ i.title.size ≤ maxLen ∧ i.body.size ≤ maxLen := by
  intro i hi
  rw [List.mem_append, List.mem_singleton] at hi
  rcases hi with hi | rfl
  · exact h i hi
  · exact hx

set_option maxRecDepth 100000 in
set_option maxHeartbeats 2000000 in
theorem impl_newItems (a : Option Addr) (n cap : Nat) (l : List It) (a' : Option Addr) (n' cap' : Nat) (l' : List It) (w : World) (h : ItAt w a l) (hn : l.length = n) (hc : n ≤ cap) (hm : cap ≤ maxLen) (hs : ∀ i ∈ l, i.key.size ≤ maxLen ∧ i.title.size ≤ maxLen ∧ i.body.size ≤ maxLen)
    (h' : ItAt w a' l') (hn' : l'.length = n') (hc' : n' ≤ cap') (hm' : cap' ≤ maxLen) (hs' : ∀ i ∈ l', i.key.size ≤ maxLen ∧ i.title.size ≤ maxLen ∧ i.body.size ≤ maxLen) :
    Calls Try.prog 36 #[.slice a n cap, .slice a' n' cap'] w (ItsGiven (newI l l') w) := by
  obtain ⟨ti, hti, iz0, iz1, iz2⟩ := info_parts Try.infoI
  have c1 := Lib.hid (fun w h => impl_feedValid a n cap l w h hn hc hm hs)
  have c2 := Lib.hid (fun w h => impl_feedValid a' n' cap' l' w h hn' hc' hm' hs')
  have c3 := Lib.hid (fun key w h => impl_itemNumber a n cap l key w h hn (Nat.le_trans hc hm))
  unfold maxLen at hm'
  have HN' := Lib.hid hn'
  have HE := Lib.hid h
  have HE' := Lib.hid h'
  have hn'c : n' ≤ 9223372036854775807 := by omega
  clear hn h hs hn' h' hs' hc hm hc' hm'
  cases hv : feedV l
  · rw [hv] at c1
    have E := Lib.hid (show newI l l' = [] from selI_bad (.inl hv))
    clear hv
    go_enter Try.func36, Try.ntmps36
    go_wp2_with fail
    refine (c1.out _ HE.out).mono ?_
    rintro e w1 ⟨rfl, hb1⟩
    go_wp2
    go_ret
    exact its_given E.out none 0 0 (World.ownsRow_nil _ _ _ _) rfl hb1
  · rw [hv] at c1
    cases hv' : feedV l'
    · rw [hv'] at c2
      have E := Lib.hid (show newI l l' = [] from selI_bad (.inr hv'))
      clear hv hv'
      go_enter Try.func36, Try.ntmps36
      go_wp2_with fail
      refine (c1.out _ HE.out).mono ?_
      rintro e w1 ⟨rfl, hb1⟩
      go_wp2_with fail
      refine (c2.out _ (HE'.out.old hb1)).mono ?_
      rintro e w2 ⟨rfl, hb2⟩
      go_wp2
      go_ret
      exact its_given E.out none 0 0 (World.ownsRow_nil _ _ _ _) rfl (hb1.trans (hb2.mono hb1.size))
    · rw [hv'] at c2
      have HF := Lib.hid (show newI l l' = l'.filter (newP l) from selI_ok hv hv')
      have h8 : n' ≤ 8 := by rw [← HN'.out]; exact ((feedV_iff l').1 hv').1
      clear hv hv'
      go_enter Try.func36, Try.ntmps36
      go_wp2_with fail
      refine (c1.out _ HE.out).mono ?_
      rintro e w1 ⟨rfl, hb1⟩
      go_wp2_with fail
      refine (c2.out _ (HE'.out.old hb1)).mono ?_
      rintro e w2 ⟨rfl, hb2⟩
      have hb12 := hb1.trans (hb2.mono hb1.size)
      go_wp2
      go_loopw [5, 18] (fun o i wr => ∃ (j k cp : Nat) (b : Option Addr) (q : List It), o = .slice b k cp ∧ i = .int .i64 j ∧ j ≤ n' ∧ k ≤ j ∧ q.length = k ∧ Hid (SelTo (newP l) l' j q) ∧ wr.ownsRow w.heap.size 34 4 (.slice b k cp) k (flatI q) ∧ Below w.heap.size w wr) (fun _ i _ => n' - (intOf i).toNat)
      case atStart => exact ⟨0, 0, 0, none, [], rfl, rfl, by omega, by omega, rfl, SelTo.zero _ _, World.ownsRow_nil _ _ _ _, hb12⟩
      case round =>
        obtain ⟨j, k, cp, b, q, rfl, rfl, hj, hkj, hq, ho, hown, hbr⟩ := hrel
        have HQ := Lib.hid hq
        clear hq
        by_cases hlt : j < n'
        · have hjl : j < l'.length := by rw [HN'.out]; exact hlt
          obtain ⟨b0, off, ha, h1, h2, h3, h4⟩ := HE'.out.old hbr j hjl
          have HY := Lib.hid (fun e => ho.out.yes hjl e)
          have HNo := Lib.hid (fun e => ho.out.no hjl e)
          generalize l'[j] = x at *
          subst ha
          have hbw := hbr.alloc hbr.size (.cells #[.string x.key, .string x.title, .string x.body, .int .i64 x.day] 34)
          obtain ⟨v, hv⟩ : ∃ v, v = numI l x.key := ⟨_, rfl⟩
          have hp := newP_num hv
          have c4 := Lib.hid (fun w h => c3.out x.key w h)
          rw [← hv] at c4
          clear hv ho
          have hsz := hbr.size
          go_wp2_with fail
          refine (c4.out _ (HE.out.old hbw)).mono ?_
          rintro e w4 ⟨rfl, hb4⟩
          have hb4z := hbw.trans (hb4.mono hbw.size)
          have own4 := own_low' (hown.alloc _) hb4
          obtain ⟨g0, g1, g2, g3⟩ := item_kept wr 34 x w4 (hb4.mono (by simp))
          by_cases hv0 : v < 0
          · rw [decide_eq_true hv0] at hp
            have HO := Lib.hid (HY.out hp)
            clear hp
            go_wp2_with (at_builtin; refine wpList_append_lies _ rfl _ _ 24 rfl w.heap.size 34 ti _ 4 56 Try.underlying24 hti iz0 iz1 iz2 rfl (by decide) _ k (flatI q) rfl (own4.alloc _) ⟨w4.heap.size, 0, none⟩ 1 1 [.string x.key, .string x.title, .string x.body, .int .i64 x.day] rfl rfl (cell_four_new _ _ _ _ _ _) (fun x hx => by simp at hx; rcases hx with rfl | rfl | rfl | rfl <;> rfl) (by omega) (by unfold maxLen; omega) (by omega) (by have := hb4z.size; simp; omega) _ rfl ?_; intro q2 cap2 w5 hown5 hgrow5 hat5 hlt5)
            have hb5 := Below.grown (hb4z.alloc hb4z.size _) hgrow5 (by have := hb4z.size; simp; omega) (fun j e => (own4.lt j e).1)
            have HO5 := Lib.hid hown5
            clear hown5 hgrow5 hat5
            go_wp2
            go_roundw
            case rel => exact ⟨j + 1, k + 1, cap2, some ⟨q2, 0, none⟩, q ++ [x], rfl, by go_num, by omega, by omega, by simp [HQ.out], HO.out, by rw [flatI_app]; exact HO5.out, hb5⟩
            case measure => simp [intOf]; omega
          · rw [decide_eq_false hv0] at hp
            have HO := Lib.hid (HNo.out hp)
            clear hp
            go_wp2
            go_roundw
            case rel => exact ⟨j + 1, k, cp, b, q, rfl, by go_num, by omega, by omega, HQ.out, HO.out, own4, hb4z⟩
            case measure => simp [intOf]; omega
        · have E := Lib.hid (HF.out.trans (ho.out.done (by rw [HN'.out]; omega)).symm)
          go_wp2
          go_ret
          exact its_given E.out b k cp hown HQ.out hbr
end Go.Proofs.Ytldllhfadihmeaa
