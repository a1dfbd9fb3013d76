/- The draw of a feed. -/
import Derived.Test.YtldllhfadihmeaaDrawI
import Derived.Test.YtldllhfadihmeaaOwnB
import Derived.Test.YtldllhfadihmeaaFvS
import Derived.Deep.AppendLies
import Derived.Laws.AppendOwn
namespace Go.Proofs.Ytldllhfadihmeaa
open Go.RowKit

/-- The frame in the region 'FeedValid(append(append([]Item{}, out...), i))', whose slots begin at s. -/
def frmF (t : Array Value) (s : Nat) (u : Nat → Value) : Act :=
  { tmps := ((((((t.setIfInBounds s (u 0)).setIfInBounds (s + 1) (u 1)).setIfInBounds (s + 2) (u 2)).setIfInBounds (s + 3) (u 3)).setIfInBounds (s + 4) (u 4)).setIfInBounds (s + 5) (u 5)).setIfInBounds (s + 6) (u 6), defers := [] }
/-- What an operation of the region yields. -/
def DfOf (B m : Nat) (out : Value) (l : List It) (x : It) (L : Array Bool) (j : Nat) (v : Value) (w : World) : Prop :=
  match j with
  | 0 => L.getD 2 false = false → ∃ b, v = .slice (some ⟨b, 0, none⟩) 0 0 ∧ w.heap[b]? = some (.cells #[] 34 (0, 0)) ∧ B ≤ b ∧ w.ownsRow B 34 4 (.slice (some ⟨b, 0, none⟩) 0 0) 0 []
  | 1 => v = out
  | 2 => L.getD 5 false = false → w.ownsRow B 34 4 v m (flatI l)
  | 3 => v = .agg #[.string x.key, .string x.title, .string x.body, .int .i64 x.day]
  | 4 => L.getD 5 false = false → ∃ b, v = .slice (some ⟨b, 0, none⟩) 1 1 ∧ w.heap[b]? = some (.cells #[.string x.key, .string x.title, .string x.body, .int .i64 x.day] 34 (0, 0)) ∧ B ≤ b
  | 5 => w.ownsRow B 34 4 v (m + 1) (flatI (l ++ [x]))
  | 6 => v = .bool (feedV (l ++ [x]))
  | _ => True
theorem ready_lt {md : Region.Mode} {ops : Array Oper} {L : Array Bool} {i : Nat} (h : i ∈ Region.ready md ops L) : i < ops.size := by
  obtain ⟨_, o, ho, _⟩ := mem_ready.1 h
  exact (Array.getElem?_eq_some_iff.1 ho).1
theorem ready_dep {md : Region.Mode} {ops : Array Oper} {L : Array Bool} {i : Nat} {o : Oper} (h : i ∈ Region.ready md ops L) (ho : ops[i]? = some o) : ∀ e ∈ o.after, Region.binds md e = true → L.getD e.on false = true := by
  obtain ⟨_, o', ho', hd⟩ := mem_ready.1 h
  rw [ho] at ho'
  injection ho' with e
  subst e
  exact hd
theorem own_any {w w' : World} {g B n : Nat} {v : Value} {t : TypeId} {xs : List Value} (h : w.ownsRow B t 4 v n xs) (hg : w.grownBy w' (some g)) (hB : g < B) : w'.ownsRow B t 4 v n xs :=
  h.kept hg (.inr (fun e => by have := (h.lt g e).1; omega))
theorem getD_set_no {L : Array Bool} {i k : Nat} (h : (L.setIfInBounds i true).getD k false = false) : L.getD k false = false := by
  cases hk : L.getD k false
  · rfl
  · rw [getD_set_true hk] at h; cases h
theorem DfOf.kept {g B m : Nat} {out : Value} {l : List It} {x : It} {L : Array Bool} {i j : Nat} {v : Value} {w w' : World} (h : DfOf B m out l x L j v w) (hg : w.grownBy w' (some g)) (hB : g < B) : DfOf B m out l x (L.setIfInBounds i true) j v w' := by
  match j with
  | 0 =>
    intro h2
    obtain ⟨b, e1, e2, e3, e4⟩ := h (getD_set_no h2)
    exact ⟨b, e1, heap_kept hg e2 (by omega), e3, own_any e4 hg hB⟩
  | 1 => exact h
  | 2 => intro h2; exact own_any (h (getD_set_no h2)) hg hB
  | 3 => exact h
  | 4 =>
    intro h2
    obtain ⟨b, e1, e2, e3⟩ := h (getD_set_no h2)
    exact ⟨b, e1, heap_kept hg e2 (by omega), e3⟩
  | 5 => exact own_any h hg hB
  | 6 => exact h
  | _ + 7 => trivial
/-- What the region keeps. -/
def FvInv (g P B m : Nat) (out : Value) (l : List It) (x : It) (t : Array Value) (s : Nat) (w0 : World) (L : Array Bool) (a : Act) (w : World) : Prop :=
  ∃ u : Nat → Value, a = frmF t s u ∧ L.size = 7 ∧ w0.grownBy w (some g) ∧ Rd w g P ∧ (L.getD 5 false = true → L.getD 2 false = true) ∧ ∀ j, L.getD j false = true → DfOf B m out l x L j (u j) w
theorem FvInv.step {g P B m : Nat} {out : Value} {l : List It} {x : It} {t : Array Value} {s : Nat} {w0 : World} {L : Array Bool} {u : Nat → Value} {w' : World} {i : Nat} {v : Value} (hsz : L.size = 7) (hC : L.getD 5 false = true → L.getD 2 false = true) (hC5 : i = 5 → L.getD 2 false = true)
    (hv : DfOf B m out l x (L.setIfInBounds i true) i v w') (hF : ∀ j, j ≠ i → L.getD j false = true → DfOf B m out l x (L.setIfInBounds i true) j (u j) w') (hG : w0.grownBy w' (some g)) (hR : Rd w' g P) :
    FvInv g P B m out l x t s w0 (L.setIfInBounds i true) (frmF t s (fun j => if j = i then v else u j)) w' := by
  refine ⟨_, rfl, by simpa using hsz, hG, hR, fun h => ?_, fun j hl => ?_⟩
  · by_cases e : i = 5
    · exact getD_set_true (hC5 e)
    · rw [getD_set_ne false e] at h
      exact getD_set_true (hC h)
  · show DfOf B m out l x _ j (if j = i then v else u j) w'
    by_cases e : j = i
    · rw [if_pos e, e]; exact hv
    · rw [if_neg e]
      rw [getD_set_ne false (Ne.symm e)] at hl
      exact hF j e hl
theorem set_self (t : Array Value) (i : Nat) : t.setIfInBounds i (t.getD i undef) = t := by
  apply Array.ext_getElem?
  intro j
  by_cases h : i = j
  · subst h
    by_cases hi : i < t.size
    · simp [hi]
    · simp [hi]
  · rw [Array.getElem?_setIfInBounds_ne h]
theorem frmF_self (t : Array Value) (s : Nat) : frmF t s (fun j => t.getD (s + j) undef) = { tmps := t, defers := [] } := by
  unfold frmF
  have h0 := set_self t (s + 0)
  simp only [Nat.add_zero] at h0
  simp only [Nat.add_zero, h0, set_self]
theorem wp_region_fv {P : Program} {id : Nat} {ops : Array Oper} {Q : Exit → Act → World → Prop} {t : Array Value} {w : World} (hm : P.follows .mixedOrders = true) (g R B m : Nat) (out : Value) (l : List It) (x : It) (s : Nat) (hops : ops.size = 7) (hR : Rd w g R)
    (hstep : ∀ L a w' i, FvInv g R B m out l x t s w L a w' → i ∈ Region.ready .any ops L → ∀ K : Act → World → Prop, (∀ a' w'', FvInv g R B m out l x t s w (L.setIfInBounds i true) a' w'' → K a' w'') → wpOp P ops Q i K a w')
    (hend : ∀ L a w', FvInv g R B m out l x t s w L a w' → Region.ready .any ops L = [] → Q .normal a w') : (Code.region id ops true).wp P Q { tmps := t, defers := [] } w :=
  wp_region_inv hm (FvInv g R B m out l x t s w) (by
    rw [hops]
    refine ⟨_, (frmF_self t s).symm, by simp, ⟨rfl, rfl, rfl, Nat.le_refl _, fun _ _ _ => rfl⟩, hR, fun h => ?_, fun j h => ?_⟩
    · simp at h
    · simp only [Array.getD_eq_getD_getElem?, Array.getElem?_replicate] at h
      split at h <;> simp at h) hstep hend
theorem own_new4 (w : World) (B : Nat) (h : B ≤ w.heap.size) : (w.alloc (.cells #[] 34)).ownsRow B 34 4 (.slice (some ⟨w.heap.size, 0, none⟩) 0 0) 0 [] := by
  have := World.ownsRow_made (e := 34) (size := 4) w #[] 0 (Nat.le_refl _) (by unfold maxLen; omega) rfl
  obtain ⟨h1, h2⟩ := this
  refine ⟨h1, ?_⟩
  rcases h2 with h2 | ⟨g, cap, cur, hv, hg, r⟩
  · exact .inl h2
  · exact .inr ⟨g, cap, cur, hv, Nat.le_trans h hg, r⟩
theorem items_row {b : Nat} {w : World} {x : It} (h : w.heap[b]? = some (.cells #[.string x.key, .string x.title, .string x.body, .int .i64 x.day] 34 (0, 0))) : ∀ j u, (flatI [x])[j]? = some u → w.cell? ((⟨b, 0, none⟩ : Addr).add j) = some u := by
  obtain ⟨p0, p1, p2, p3, _⟩ := cells4 h
  intro j u hj
  match j with
  | 0 => simp [flatI] at hj; subst hj; simpa [Addr.add] using p0
  | 1 => simp [flatI] at hj; subst hj; simpa [Addr.add] using p1
  | 2 => simp [flatI] at hj; subst hj; simpa [Addr.add] using p2
  | 3 => simp [flatI] at hj; subst hj; simpa [Addr.add] using p3
  | j + 4 => simp [flatI] at hj
/-- What a draw of a feed leaves behind. -/
def ItsPost (w : World) (g P N : Nat) (e : Ending) (w' : World) : Prop :=
  (∃ (q n cap : Nat) (l : List It), e = .returned (.slice (some ⟨q, 0, none⟩) n cap) ∧ w'.ownsRow w.heap.size 34 4 (.slice (some ⟨q, 0, none⟩) n cap) n (flatI l) ∧ l.length = n ∧ n ≤ N ∧ ∀ i ∈ l, okI i) ∧ Rd w' g P ∧ w.grownBy w' (some g)
theorem oks_more {l : List It} {x : It} (h : ∀ i ∈ l, okI i) (hx : okI x) : ∀ i ∈ l ++ [x], okI i := by
  intro i hi
  rw [List.mem_append, List.mem_singleton] at hi
  rcases hi with hi | rfl
  · exact h i hi
  · exact hx
theorem okI_sz {i : It} (h : okI i) : i.key.size ≤ maxLen ∧ i.title.size ≤ maxLen ∧ i.body.size ≤ maxLen := by
  obtain ⟨h1, h2, h3⟩ := h; unfold maxLen; omega
theorem own_ka {w w' : World} {base t g n cap q : Nat} {xs : List Value} (h : w.ownsRow base t 4 (.slice (some ⟨q, 0, none⟩) n cap) n xs) (hg : w.grownBy w' (some g)) (hne : g < base) : w'.ownsRow base t 4 (.slice (some ⟨q, 0, none⟩) n cap) n xs :=
  h.kept hg (.inr (by simp [Value.ownBlock]; have := (h.lt q rfl).1; omega))

set_option maxRecDepth 100000 in
set_option maxHeartbeats 4000000 in
theorem feed_any (g P : Nat) (n : Int) (w : World) (hr : Rd w g P) (hP : P ≤ 700000) (hn : n ≤ 1000000) :
    Calls Try.prog 63 #[.pointer (some ⟨g, 0, none⟩), .int .i64 n] w (ItsPost w g (P + 100) 7) := by
  obtain ⟨ti, hti, iz0, iz1, iz2⟩ := info_parts Try.infoI
  have hlt0 := hr.lt
  have hm : Try.prog.follows .mixedOrders = true := by kernel_rfl
  go_enter Try.func63, Try.ntmps63
  go_wp2_with fail
  refine (pick_any g P _ _ (hr.alloc _) (by omega)).mono ?_
  rintro e w2 ⟨k, rfl, k0, k1, hr2, hg2⟩
  have k2 := k1 (by omega)
  clear k1
  obtain ⟨k, rfl⟩ := Int.eq_ofNat_of_zero_le k0
  have hown0 := own_ka (own_new4 w w.heap.size (Nat.le_refl _)) hg2 hlt0
  have hG2 : w.grownBy w2 (some g) := grown_trans (World.grownBy_alloc _ _ _) hg2
  go_wp2_with fail
  go_loopw [5, 6] (fun o i wr => ∃ (j q m cap : Nat) (l : List It), o = .slice (some ⟨q, 0, none⟩) m cap ∧ i = .int .i64 j ∧ j ≤ 6 ∧ m + j ≤ 6 ∧ l.length = m ∧ Hid (∀ i ∈ l, okI i) ∧ wr.ownsRow w.heap.size 34 4 (.slice (some ⟨q, 0, none⟩) m cap) m (flatI l) ∧ Rd wr g (P + 73 - 12 * j) ∧ w.grownBy wr (some g)) (fun _ i _ => (intOf i).toNat)
  case atStart => exact ⟨k, w.heap.size, 0, 0, [], rfl, rfl, by omega, by omega, rfl, fun e he => by simp at he, hown0, hr2.mono (by omega), hG2⟩
  case round =>
    obtain ⟨j, q, m, cap, l, rfl, rfl, j6, mj, hlm, hsz, hown, hrr, hgr⟩ := hrel
    have hlt := hrr.lt
    have hqb := hown.lt q rfl
    have hcap : m ≤ cap ∧ cap ≤ maxLen := own_cap hown
    by_cases hj : 0 < j
    · go_wp2_with fail
      refine (item_any g (P + 73 - 12 * j) _ _ hrr (by omega) (by omega)).mono ?_
      rintro e w4 ⟨⟨x, rfl, hx⟩, hr4, hg4⟩
      have hokx := oks_more hsz.out hx
      have hszx := Lib.hid hx
      clear hx
      have hlt4 := hr4.lt
      have G4 := grown_trans hgr hg4
      have hs4 := G4.size
      have own4 := own_ka hown hg4 hlt0
      have X4 := heap_alloc_new w4 (.cells #[.string x.key, .string x.title, .string x.body, .int .i64 x.day] 34)
      have own5 := Lib.hid (own4.alloc (.cells #[.string x.key, .string x.title, .string x.body, .int .i64 x.day] 34))
      have G5 : w.grownBy (w4.alloc (.cells #[.string x.key, .string x.title, .string x.body, .int .i64 x.day] 34)) (some g) := grown_trans G4 (World.grownBy_alloc _ _ _)
      have hRg : Rd (w4.alloc (.cells #[.string x.key, .string x.title, .string x.body, .int .i64 x.day] 34)) g (P + 85 - 12 * j) := (hr4.alloc _).mono (by omega)
      have hB45 : w4.heap.size ≤ (w4.alloc (.cells #[.string x.key, .string x.title, .string x.body, .int .i64 x.day] 34)).heap.size := by simp
      have hg0 : g < w.heap.size := hlt0
      go_wp2_with fail
      rename_i K0 hK0
      generalize w4.alloc (.cells #[.string x.key, .string x.title, .string x.body, .int .i64 x.day] 34) = w5 at *
      have HX : w5.heap[w4.heap.size]? = some (.cells #[.string x.key, .string x.title, .string x.body, .int .i64 x.day] 34 (0, 0)) := X4
      have hBw : w5.heap.size ≤ w5.heap.size := Nat.le_refl _
      have hgB : g < w5.heap.size := by omega
      have hltX : g < w4.heap.size := hlt4
      refine wp_region_fv hm g (P + 85 - 12 * j) (w5.heap.size) m (.slice (some ⟨q, 0, none⟩) m cap) l x 17 rfl hRg ?_ ?_
      · rintro L a w' i ⟨u, rfl, hsz, hG, hR, hC, hF⟩ hi K hK
        clear hK0
        have hi7 : i < 7 := ready_lt hi
        have h0f := getD_not (by omega) (mem_ready.1 hi).1
        have hBs : w5.heap.size ≤ w'.heap.size := Nat.le_trans hBw hG.size
        have hF2 : ∀ j, L[j]?.getD false = true → DfOf (w5.heap.size) m (.slice (some ⟨q, 0, none⟩) m cap) l x L j (u j) w' := fun j h => hF j (by simpa using h)
        obtain rfl | rfl | rfl | rfl | rfl | rfl | rfl : i = 0 ∨ i = 1 ∨ i = 2 ∨ i = 3 ∨ i = 4 ∨ i = 5 ∨ i = 6 := by omega
        · have hd := ready_dep hi rfl
          simp [Region.binds] at hd
          refine wpOp_of rfl rfl ?_
          simp only [frmF, List.setIfInBounds_toArray, List.set_cons_succ, List.set_cons_zero]
          go_simp
          have hga := World.grownBy_alloc w' (.cells #[] 34) (some g)
          have hzz := hK _ _ (FvInv.step (t := _) (s := 17) (i := 0) (v := .slice (some ⟨w'.heap.size, 0, none⟩) 0 0) (w' := w'.alloc (.cells #[] 34)) hsz hC (fun e => by cases e) (fun _ => ⟨w'.heap.size, rfl, heap_alloc_new _ _, hBs, own_new4 w' _ hBs⟩) (fun j _ hl => (hF j hl).kept hga hgB) (grown_trans hG hga) (hR.alloc _))
          simp only [frmF, List.setIfInBounds_toArray, List.set_cons_succ, List.set_cons_zero, reduceIte, Nat.reduceEqDiff] at hzz
          exact hzz
        · have hd := ready_dep hi rfl
          simp [Region.binds] at hd
          refine wpOp_of rfl rfl ?_
          simp only [frmF, List.setIfInBounds_toArray, List.set_cons_succ, List.set_cons_zero]
          go_simp
          have hzz := hK _ _ (FvInv.step (t := _) (s := 17) (i := 1) (v := .slice (some ⟨q, 0, none⟩) m cap) (w' := w') hsz hC (fun e => by cases e) rfl (fun j _ hl => (hF j hl).kept (World.grownBy.refl w' (some g)) hgB) hG hR)
          simp only [frmF, List.setIfInBounds_toArray, List.set_cons_succ, List.set_cons_zero, reduceIte, Nat.reduceEqDiff] at hzz
          exact hzz
        · have hd := ready_dep hi rfl
          simp [Region.binds] at hd
          obtain ⟨hd0, hd1⟩ := hd
          obtain ⟨b1, e0, hb1, hbB, ho1⟩ := hF2 0 hd0 h0f
          have e1 : u 1 = _ := hF2 1 hd1
          have hlq := (own_ka own5.out hG hg0).cells (g := q) rfl
          refine wpOp_of rfl rfl ?_
          simp only [frmF, List.setIfInBounds_toArray, List.set_cons_succ, List.set_cons_zero]
          rw [e0, e1]
          refine wp_append_own w' (.tmp 17) (.tmp 18) 24 rfl (w5.heap.size) 34 ti _ 4 56 Try.underlying24 hti iz0 iz1 iz2 rfl (by decide) (.slice (some ⟨b1, 0, none⟩) 0 0) 0 [] (by simp [Act.eval]) ho1 ⟨q, 0, none⟩ m cap (flatI l) (by simp [Act.eval]) (by rw [flatI_len, hlm]) hlq (flatI_one _) (by unfold maxLen; omega) (by omega) hBs ?_
          intro v' w2 hown2 hgrow2 _
          have hgr1 : w'.grownBy w2 (some b1) := hgrow2
          rw [Nat.zero_add, List.nil_append] at hown2
          go_simp
          have hzz := hK _ _ (FvInv.step (t := _) (s := 17) (i := 2) (v := v') (w' := w2) hsz hC (fun e => by cases e) (fun _ => hown2) (fun j hj hl => by
            match j, hj with
            | 0, _ => exact fun h2 => by rw [getD_set_here (by omega)] at h2; cases h2
            | 1, _ => exact hF 1 hl
            | 2, hj => exact absurd rfl hj
            | 3, _ => exact hF 3 hl
            | 4, _ =>
              intro h2
              obtain ⟨b, z1, z2, z3⟩ := hF 4 hl (getD_set_no h2)
              exact ⟨b, z1, heap_kept' hgr1 z2 (fun e => by rw [e] at z2; have := hb1.symm.trans z2; simp at this), z3⟩
            | 5, _ => exact absurd (hC hl) (by rw [h0f]; decide)
            | 6, _ => exact hF 6 hl
            | _ + 7, _ => trivial) (grown_ownI hG hgr1 (fun j e => by injection e with e; omega)) (hR.kept hgr1 (fun k e => by injection e with e; omega)))
          simp only [frmF, List.setIfInBounds_toArray, List.set_cons_succ, List.set_cons_zero, reduceIte, Nat.reduceEqDiff, e0, e1] at hzz
          exact hzz
        · have hd := ready_dep hi rfl
          simp [Region.binds] at hd
          obtain ⟨p0, p1, p2, p3, _⟩ := cells4 (heap_kept hG HX hltX)
          refine wpOp_of rfl rfl ?_
          simp only [frmF, List.setIfInBounds_toArray, List.set_cons_succ, List.set_cons_zero]
          go_simp
          have hzz := hK _ _ (FvInv.step (t := _) (s := 17) (i := 3) (v := .agg #[.string x.key, .string x.title, .string x.body, .int .i64 x.day]) (w' := w') hsz hC (fun e => by cases e) rfl (fun j _ hl => (hF j hl).kept (World.grownBy.refl w' (some g)) hgB) hG hR)
          simp only [frmF, List.setIfInBounds_toArray, List.set_cons_succ, List.set_cons_zero, reduceIte, Nat.reduceEqDiff] at hzz
          exact hzz
        · have hd := ready_dep hi rfl
          simp [Region.binds] at hd
          have e3 : u 3 = _ := hF2 3 hd
          refine wpOp_of rfl rfl ?_
          simp only [frmF, List.setIfInBounds_toArray, List.set_cons_succ, List.set_cons_zero]
          rw [e3]
          go_simp
          have hga := World.grownBy_alloc w' (.cells #[.string x.key, .string x.title, .string x.body, .int .i64 x.day] 34) (some g)
          have hzz := hK _ _ (FvInv.step (t := _) (s := 17) (i := 4) (v := .slice (some ⟨w'.heap.size, 0, none⟩) 1 1) (w' := w'.alloc (.cells #[.string x.key, .string x.title, .string x.body, .int .i64 x.day] 34)) hsz hC (fun e => by cases e) (fun _ => ⟨w'.heap.size, rfl, heap_alloc_new _ _, hBs⟩) (fun j _ hl => (hF j hl).kept hga hgB) (grown_trans hG hga) (hR.alloc _))
          simp only [frmF, List.setIfInBounds_toArray, List.set_cons_succ, List.set_cons_zero, reduceIte, Nat.reduceEqDiff, e3] at hzz
          exact hzz
        · have hd := ready_dep hi rfl
          simp [Region.binds] at hd
          have ho2 := hF2 2 hd.1 h0f
          obtain ⟨b4, e4, hb4, hb4B⟩ := hF2 4 hd.2.1 h0f
          refine wpOp_of rfl rfl ?_
          simp only [frmF, List.setIfInBounds_toArray, List.set_cons_succ, List.set_cons_zero]
          rw [e4]
          refine wp_append_own w' (.tmp 19) (.tmp 21) 24 rfl (w5.heap.size) 34 ti _ 4 56 Try.underlying24 hti iz0 iz1 iz2 rfl (by decide) (u 2) m (flatI l) (by simp [Act.eval]) ho2 ⟨b4, 0, none⟩ 1 1 (flatI [x]) (by simp [Act.eval]) rfl (items_row hb4) (flatI_one _) (by unfold maxLen; omega) (by omega) hBs ?_
          intro v' w2 hown2 hgrow2 _
          rw [← flatI_app] at hown2
          have hbk := fun k e => (ho2.lt k e).1
          go_simp
          have hzz := hK _ _ (FvInv.step (t := _) (s := 17) (i := 5) (v := v') (w' := w2) hsz hC (fun _ => by simpa using hd.1) hown2 (fun j hj hl => by
            have h2t : L.getD 2 false = true := by simpa using hd.1
            match j, hj with
            | 0, _ => exact fun h2 => by rw [getD_set_true h2t] at h2; cases h2
            | 1, _ => exact hF 1 hl
            | 2, _ => exact fun h2 => by rw [getD_set_here (by omega)] at h2; cases h2
            | 3, _ => exact hF 3 hl
            | 4, _ => exact fun h2 => by rw [getD_set_here (by omega)] at h2; cases h2
            | 5, hj => exact absurd rfl hj
            | 6, _ => exact hF 6 hl
            | _ + 7, _ => trivial) (grown_ownI hG hgrow2 (fun j e => by have := hbk j e; omega)) (hR.kept hgrow2 (fun k e => by have := hbk k e; omega)))
          simp only [frmF, List.setIfInBounds_toArray, List.set_cons_succ, List.set_cons_zero, reduceIte, Nat.reduceEqDiff, e4] at hzz
          exact hzz
        · have hd := ready_dep hi rfl
          simp [Region.binds] at hd
          have ho5 : w'.ownsRow _ _ 4 (u 5) _ _ := hF2 5 hd
          obtain ⟨g5, cap5, e5, _⟩ := ho5.form (by omega)
          rw [e5] at ho5
          refine wpOp_of rfl rfl ?_
          simp only [frmF, List.setIfInBounds_toArray, List.set_cons_succ, List.set_cons_zero]
          rw [e5]
          go_simp
          refine (spec_feedValid (some ⟨g5, 0, none⟩) (m + 1) cap5 (l ++ [x]) w' (ItAt.own ho5 (by simp [hlm])) (by simp [hlm]) (by unfold maxLen; omega) (fun i hi => okI_sz (hokx i hi))).mono ?_
          rintro e w2 ⟨rfl, hb2⟩
          have hg2 : w'.grownBy w2 (some g) := grown_some (World.grownBy.refl w' _) (below_grown hb2)
          have hzz := hK _ _ (FvInv.step (t := _) (s := 17) (i := 6) (v := .bool (feedV (l ++ [x]))) (w' := w2) hsz hC (fun e => by cases e) rfl (fun j _ hl => (hF j hl).kept hg2 hgB) (grown_trans hG hg2) (hR.kept (below_grown hb2) (fun k e => by cases e)))
          simp only [frmF, List.setIfInBounds_toArray, List.set_cons_succ, List.set_cons_zero, reduceIte, Nat.reduceEqDiff, e5] at hzz
          exact hzz
      · rintro L a w6 ⟨u, rfl, hsz6, hG6, hR6, _, hF6⟩ hr0
        have hall := ready_nil (by
          intro i o ho
          have hi7 : i < 7 := (Array.getElem?_eq_some_iff.1 ho).1
          obtain rfl | rfl | rfl | rfl | rfl | rfl | rfl : i = 0 ∨ i = 1 ∨ i = 2 ∨ i = 3 ∨ i = 4 ∨ i = 5 ∨ i = 6 := by omega
          all_goals (simp at ho; subst ho; simp)) (by simpa using hsz6) hr0
        have e6 : u 6 = _ := hF6 6 (hall 6 (by simp))
        clear hall hr0 hF6 hsz6
        have own6 := own_ka own5.out hG6 hlt0
        have G6 := grown_trans G5 hG6
        obtain ⟨p0, p1, p2, p3, _⟩ := cells4 (heap_kept hG6 HX hltX)
        show K0 _ _
        refine hK0 _ _ ?_
        clear hK0
        simp only [frmF, List.setIfInBounds_toArray, List.set_cons_succ, List.set_cons_zero, e6]
        generalize feedV (l ++ [x]) = ok
        cases ok
        · go_wp2
          go_roundw
          case rel => exact ⟨j - 1, q, m, cap, l, rfl, by rw [show ((j - 1 : Nat) : Int) = (j : Int) - 1 from by omega], by omega, by omega, hlm, hsz, own6, hR6.mono (by omega), G6⟩
          case measure => simp [intOf]; omega
        · go_wp2_with (at_builtin; refine wpList_append_lies _ rfl _ _ 24 rfl w.heap.size 34 ti _ 4 56 Try.underlying24 hti iz0 iz1 iz2 rfl (by decide) _ m (flatI l) rfl (own6.alloc _) ⟨w6.heap.size, 0, none⟩ 1 1 [.string x.key, .string x.title, .string x.body, .int .i64 x.day] rfl rfl (cell_four_new _ _ _ _ _ _) (fun x hx => by simp at hx; rcases hx with rfl | rfl | rfl | rfl <;> rfl) (by omega) (by unfold maxLen; omega) (by omega) (by have := G6.size; simp; omega) _ rfl ?_; intro q2 cap2 w7 hown7 hgrow7 hat7 hlt7)
          have HG7 := Lib.hid (grown_ownI (grown_alloc G6 _) hgrow7 (fun j e => (own6.lt j e).1))
          have HR7 := Lib.hid ((hR6.alloc _).kept hgrow7 (fun j e => Nat.lt_of_lt_of_le hlt0 (own6.lt j e).1))
          have HO7 := Lib.hid hown7
          clear hown7 hgrow7 hat7
          go_wp2
          go_roundw
          case rel => exact ⟨j - 1, q2, m + 1, cap2, l ++ [x], rfl, by rw [show ((j - 1 : Nat) : Int) = (j : Int) - 1 from by omega], by omega, by omega, by simp [hlm], hokx, by rw [flatI_app]; exact HO7.out, HR7.out.mono (by omega), HG7.out⟩
          case measure => simp [intOf]; omega
    · go_wp2_with fail
      refine (odd_any g (P + 73 - 12 * j) _ _ hrr (by omega) hn).mono ?_
      rintro e w3 ⟨b, rfl, hr3, hg3⟩
      have own3 := own_ka hown hg3 hlt0
      have G3 := grown_trans hgr hg3
      cases b
      · go_wp2
        go_ret
        exact ⟨⟨q, m, cap, l, rfl, own3, hlm, by omega, hsz.out⟩, hr3.mono (by omega), G3⟩
      · by_cases hm0 : 0 < m
        · go_wp2_with fail
          refine (pick_any g (P + 73 - 12 * j + 1) _ _ hr3 (by omega)).mono ?_
          rintro e w4 ⟨c, rfl, c0, c1, hr4, hg4⟩
          have c2 := c1 (by omega)
          clear c1
          have own4 := own_ka own3 hg4 hlt0
          have G4 := grown_trans G3 hg4
          have hc01 : c = 0 ∨ c = 1 := by omega
          rcases hc01 with rfl | rfl
          · have hl0 : 0 < l.length := by omega
            obtain ⟨b0, off0, ha0, h1, h2, h3, h4⟩ := ItAt.own own4 hlm 0 hl0
            have hx : okI l[0] := hsz.out _ (List.getElem_mem hl0)
            generalize l[0] = x at *
            injection ha0 with ha0
            injection ha0 with ha1 ha2
            subst ha1
            subst ha2
            simp only [Nat.zero_mul, Nat.zero_add] at h1 h2 h3 h4
            go_wp2_with (at_builtin; refine wpList_append_lies _ rfl _ _ 24 rfl w.heap.size 34 ti _ 4 56 Try.underlying24 hti iz0 iz1 iz2 rfl (by decide) _ m (flatI l) rfl (own4.alloc _) ⟨w4.heap.size, 0, none⟩ 1 1 [.string x.key, .string x.title, .string x.body, .int .i64 x.day] rfl rfl (cell_four_new _ _ _ _ _ _) (fun x hx => by simp at hx; rcases hx with rfl | rfl | rfl | rfl <;> rfl) (by omega) (by unfold maxLen; omega) (by omega) (by have := G4.size; simp; omega) _ rfl ?_; intro q2 cap2 w7 hown7 hgrow7 hat7 hlt7)
            have HG7 := grown_ownI (grown_alloc G4 _) hgrow7 (fun j e => (own4.lt j e).1)
            have HR7 := (hr4.alloc _).kept hgrow7 (fun j e => Nat.lt_of_lt_of_le hlt0 (own4.lt j e).1)
            go_wp2
            go_ret
            exact ⟨⟨q2, m + 1, cap2, l ++ [x], rfl, by rw [flatI_app]; exact hown7, by simp [hlm], by omega, oks_more hsz.out hx⟩, HR7.mono (by omega), HG7⟩
          · go_wp2_with fail
            refine (item_any g (P + 73 - 12 * j + 2) _ _ hr4 (by omega) (by omega)).mono ?_
            rintro e w5 ⟨⟨x, rfl, hx⟩, hr5, hg5⟩
            have own5 := own_ka own4 hg5 hlt0
            have G5 := grown_trans G4 hg5
            go_wp2_with (at_builtin; refine wpList_append_lies _ rfl _ _ 24 rfl w.heap.size 34 ti _ 4 56 Try.underlying24 hti iz0 iz1 iz2 rfl (by decide) _ m (flatI l) rfl (own5.alloc _) ⟨w5.heap.size, 0, none⟩ 1 1 [.string x.key, .string x.title, .string x.body, .int .i64 x.day] rfl rfl (cell_four_new _ _ _ _ _ _) (fun x hx => by simp at hx; rcases hx with rfl | rfl | rfl | rfl <;> rfl) (by omega) (by unfold maxLen; omega) (by omega) (by have := G5.size; simp; omega) _ rfl ?_; intro q2 cap2 w7 hown7 hgrow7 hat7 hlt7)
            have HG7 := grown_ownI (grown_alloc G5 _) hgrow7 (fun j e => (own5.lt j e).1)
            have HR7 := (hr5.alloc _).kept hgrow7 (fun j e => Nat.lt_of_lt_of_le hlt0 (own5.lt j e).1)
            go_wp2
            go_ret
            exact ⟨⟨q2, m + 1, cap2, l ++ [x], rfl, by rw [flatI_app]; exact hown7, by simp [hlm], by omega, oks_more hsz.out hx⟩, HR7.mono (by omega), HG7⟩
        · go_wp2_with fail
          refine (item_any g (P + 73 - 12 * j + 1) _ _ hr3 (by omega) (by omega)).mono ?_
          rintro e w5 ⟨⟨x, rfl, hx⟩, hr5, hg5⟩
          have own5 := own_ka own3 hg5 hlt0
          have G5 := grown_trans G3 hg5
          go_wp2_with (at_builtin; refine wpList_append_lies _ rfl _ _ 24 rfl w.heap.size 34 ti _ 4 56 Try.underlying24 hti iz0 iz1 iz2 rfl (by decide) _ m (flatI l) rfl (own5.alloc _) ⟨w5.heap.size, 0, none⟩ 1 1 [.string x.key, .string x.title, .string x.body, .int .i64 x.day] rfl rfl (cell_four_new _ _ _ _ _ _) (fun x hx => by simp at hx; rcases hx with rfl | rfl | rfl | rfl <;> rfl) (by omega) (by unfold maxLen; omega) (by omega) (by have := G5.size; simp; omega) _ rfl ?_; intro q2 cap2 w7 hown7 hgrow7 hat7 hlt7)
          have HG7 := grown_ownI (grown_alloc G5 _) hgrow7 (fun j e => (own5.lt j e).1)
          have HR7 := (hr5.alloc _).kept hgrow7 (fun j e => Nat.lt_of_lt_of_le hlt0 (own5.lt j e).1)
          go_wp2
          go_ret
          exact ⟨⟨q2, m + 1, cap2, l ++ [x], rfl, by rw [flatI_app]; exact hown7, by simp [hlm], by omega, oks_more hsz.out hx⟩, HR7.mono (by omega), HG7⟩
end Go.Proofs.Ytldllhfadihmeaa
