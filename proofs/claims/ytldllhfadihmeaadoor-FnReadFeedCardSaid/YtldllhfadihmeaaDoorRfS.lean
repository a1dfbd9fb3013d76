/- ReadFeed of the reference: rdF. -/
import Derived.Test.YtldllhfadihmeaaDoorRfW
import Derived.Test.YtldllhfadihmeaaDoorRdS
import Derived.Test.YtldllhfadihmeaaDoorDrawM
import Derived.Deep.QuietTactic
import Derived.BigQuiet
import Derived.Laws.AppendOwn
namespace Go.Proofs.YtldllhfadihmeaaDoor
open Go.RowKit

/-- The frame in the region 'FeedValid(append(append([]Item{}, out...), i))', whose slots begin at s. -/
def frmG (t : Array Value) (s : Nat) (u : Nat → Value) : Act :=
  { tmps := ((((((t.setIfInBounds s (u 0)).setIfInBounds (s + 1) (u 1)).setIfInBounds (s + 2) (u 2)).setIfInBounds (s + 3) (u 3)).setIfInBounds (s + 4) (u 4)).setIfInBounds (s + 5) (u 5)).setIfInBounds (s + 6) (u 6), defers := [] }
/-- What an operation of the region yields. -/
def DgOf (B m : Nat) (out : Value) (l : List It) (x : It) (L : Array Bool) (j : Nat) (v : Value) (w : World) : Prop :=
  match j with
  | 0 => L.getD 2 false = false → ∃ b, v = .slice (some ⟨b, 0, none⟩) 0 0 ∧ w.heap[b]? = some (.cells #[] 41 (0, 0)) ∧ B ≤ b ∧ w.ownsRow B 41 4 (.slice (some ⟨b, 0, none⟩) 0 0) 0 []
  | 1 => v = out
  | 2 => L.getD 5 false = false → w.ownsRow B 41 4 v m (flatI l)
  | 3 => v = .agg #[.string x.key, .string x.title, .string x.body, .int .i64 x.day]
  | 4 => L.getD 5 false = false → ∃ b, v = .slice (some ⟨b, 0, none⟩) 1 1 ∧ w.heap[b]? = some (.cells #[.string x.key, .string x.title, .string x.body, .int .i64 x.day] 41 (0, 0)) ∧ B ≤ b
  | 5 => w.ownsRow B 41 4 v (m + 1) (flatI (l ++ [x]))
  | 6 => v = .bool (feedV (l ++ [x]))
  | _ => True
theorem ready_ltG {md : Region.Mode} {ops : Array Oper} {L : Array Bool} {i : Nat} (h : i ∈ Region.ready md ops L) : i < ops.size := by
  obtain ⟨_, o, ho, _⟩ := mem_ready.1 h
  exact (Array.getElem?_eq_some_iff.1 ho).1
theorem ready_depG {md : Region.Mode} {ops : Array Oper} {L : Array Bool} {i : Nat} {o : Oper} (h : i ∈ Region.ready md ops L) (ho : ops[i]? = some o) : ∀ e ∈ o.after, Region.binds md e = true → L.getD e.on false = true := by
  obtain ⟨_, o', ho', hd⟩ := mem_ready.1 h
  rw [ho] at ho'
  injection ho' with e
  subst e
  exact hd
theorem own_any0 {w w' : World} {B n : Nat} {v : Value} {t : TypeId} {xs : List Value} (h : w.ownsRow B t 4 v n xs) (hg : w.grownBy w' none) : w'.ownsRow B t 4 v n xs :=
  h.kept hg (by cases v.ownBlock <;> simp)
theorem heap_kept0 {w w' : World} {b : Nat} {o : Obj} (hg : w.grownBy w' none) (h : w.heap[b]? = some o) : w'.heap[b]? = some o :=
  (hg.block _ (Array.getElem?_eq_some_iff.1 h).1 (fun e => by cases e)).trans h
theorem grown_own0 {w a b : World} {row : Option Nat} (h : w.grownBy a none) (k : a.grownBy b row) (hr : ∀ j, row = some j → w.heap.size ≤ j) : w.grownBy b none :=
  ⟨k.os.trans h.os, k.tape.trans h.tape, k.output.trans h.output, Nat.le_trans h.size k.size, fun i hi hne => (k.block i (Nat.lt_of_lt_of_le hi h.size) (fun e => by have := hr i e.symm; omega)).trans (h.block i hi hne)⟩
theorem heap_kept1 {w w' : World} {j b : Nat} {o : Obj} (hg : w.grownBy w' (some j)) (h : w.heap[b]? = some o) (hne : ¬ b = j) : w'.heap[b]? = some o :=
  (hg.block _ (Array.getElem?_eq_some_iff.1 h).1 (fun e => by injection e with e; exact hne e)).trans h
theorem getD_notG {L : Array Bool} {i : Nat} (hsz : i < L.size) (h : L.getD i true = false) : L.getD i false = false := by
  simp [hsz] at h ⊢
  exact h
theorem getD_set_hereG {L : Array Bool} {i : Nat} (h : i < L.size) : (L.setIfInBounds i true).getD i false = true := by simp [h]
theorem getD_set_noG {L : Array Bool} {i k : Nat} (h : (L.setIfInBounds i true).getD k false = false) : L.getD k false = false := by
  cases hk : L.getD k false
  · rfl
  · rw [getD_set_true hk] at h; cases h
theorem DgOf.kept {B m : Nat} {out : Value} {l : List It} {x : It} {L : Array Bool} {i j : Nat} {v : Value} {w w' : World} (h : DgOf B m out l x L j v w) (hg : w.grownBy w' none) : DgOf B m out l x (L.setIfInBounds i true) j v w' := by
  match j with
  | 0 =>
    intro h2
    obtain ⟨b, e1, e2, e3, e4⟩ := h (getD_set_noG h2)
    exact ⟨b, e1, heap_kept0 hg e2, e3, own_any0 e4 hg⟩
  | 1 => exact h
  | 2 => intro h2; exact own_any0 (h (getD_set_noG h2)) hg
  | 3 => exact h
  | 4 =>
    intro h2
    obtain ⟨b, e1, e2, e3⟩ := h (getD_set_noG h2)
    exact ⟨b, e1, heap_kept0 hg e2, e3⟩
  | 5 => exact own_any0 h hg
  | 6 => exact h
  | _ + 7 => trivial
/-- What the region keeps. -/
def GvInv (B m : Nat) (out : Value) (l : List It) (x : It) (t : Array Value) (s : Nat) (w0 : World) (L : Array Bool) (a : Act) (w : World) : Prop :=
  ∃ u : Nat → Value, a = frmG t s u ∧ L.size = 7 ∧ w0.grownBy w none ∧ (L.getD 5 false = true → L.getD 2 false = true) ∧ ∀ j, L.getD j false = true → DgOf B m out l x L j (u j) w
theorem GvInv.step {B m : Nat} {out : Value} {l : List It} {x : It} {t : Array Value} {s : Nat} {w0 : World} {L : Array Bool} {u : Nat → Value} {w' : World} {i : Nat} {v : Value} (hsz : L.size = 7) (hC : L.getD 5 false = true → L.getD 2 false = true) (hC5 : i = 5 → L.getD 2 false = true)
    (hv : DgOf B m out l x (L.setIfInBounds i true) i v w') (hF : ∀ j, j ≠ i → L.getD j false = true → DgOf B m out l x (L.setIfInBounds i true) j (u j) w') (hG : w0.grownBy w' none) :
    GvInv B m out l x t s w0 (L.setIfInBounds i true) (frmG t s (fun j => if j = i then v else u j)) w' := by
  refine ⟨_, rfl, by simpa using hsz, hG, fun h => ?_, fun j hl => ?_⟩
  · by_cases e : i = 5
    · exact getD_set_true (hC5 e)
    · rw [getD_set_ne false e] at h
      exact getD_set_true (hC h)
  · show DgOf B m out l x _ j (if j = i then v else u j) w'
    by_cases e : j = i
    · rw [if_pos e, e]; exact hv
    · rw [if_neg e]
      rw [getD_set_ne false (Ne.symm e)] at hl
      exact hF j e hl
theorem set_selfG (t : Array Value) (i : Nat) : t.setIfInBounds i (t.getD i undef) = t := by
  apply Array.ext_getElem?
  intro j
  by_cases h : i = j
  · subst h
    by_cases hi : i < t.size
    · simp [hi]
    · simp [hi]
  · rw [Array.getElem?_setIfInBounds_ne h]
theorem frmG_self (t : Array Value) (s : Nat) : frmG t s (fun j => t.getD (s + j) undef) = { tmps := t, defers := [] } := by
  unfold frmG
  have h0 := set_selfG t (s + 0)
  simp only [Nat.add_zero] at h0
  simp only [Nat.add_zero, h0, set_selfG]
theorem wp_region_gv {P : Program} {id : Nat} {ops : Array Oper} {Q : Exit → Act → World → Prop} {t : Array Value} {w : World} (hm : P.follows .mixedOrders = true) (B m : Nat) (out : Value) (l : List It) (x : It) (s : Nat) (hops : ops.size = 7)
    (hstep : ∀ L a w' i, GvInv B m out l x t s w L a w' → i ∈ Region.ready .any ops L → ∀ K : Act → World → Prop, (∀ a' w'', GvInv B m out l x t s w (L.setIfInBounds i true) a' w'' → K a' w'') → wpOp P ops Q i K a w')
    (hend : ∀ L a w', GvInv B m out l x t s w L a w' → Region.ready .any ops L = [] → Q .normal a w') : (Code.region id ops true).wp P Q { tmps := t, defers := [] } w :=
  wp_region_inv hm (GvInv B m out l x t s w) (by
    rw [hops]
    refine ⟨_, (frmG_self t s).symm, by simp, ⟨rfl, rfl, rfl, Nat.le_refl _, fun _ _ _ => rfl⟩, fun h => ?_, fun j h => ?_⟩
    · simp at h
    · simp only [Array.getD_eq_getD_getElem?, Array.getElem?_replicate] at h
      split at h <;> simp at h) hstep hend
theorem own_new4G (w : World) (B : Nat) (h : B ≤ w.heap.size) : (w.alloc (.cells #[] 41)).ownsRow B 41 4 (.slice (some ⟨w.heap.size, 0, none⟩) 0 0) 0 [] := by
  have := World.ownsRow_made (e := 41) (size := 4) w #[] 0 (Nat.le_refl _) (by unfold maxLen; omega) rfl
  obtain ⟨h1, h2⟩ := this
  refine ⟨h1, ?_⟩
  rcases h2 with h2 | ⟨g, cap, cur, hv, hg, r⟩
  · exact .inl h2
  · exact .inr ⟨g, cap, cur, hv, Nat.le_trans h hg, r⟩
theorem items_rowG {b : Nat} {w : World} {x : It} (h : w.heap[b]? = some (.cells #[.string x.key, .string x.title, .string x.body, .int .i64 x.day] 41 (0, 0))) : ∀ j u, (flatI [x])[j]? = some u → w.cell? ((⟨b, 0, none⟩ : Addr).add j) = some u := by
  obtain ⟨p0, p1, p2, p3, _⟩ := heap_cells4 h
  intro j u hj
  match j with
  | 0 => simp [flatI] at hj; subst hj; simpa [Addr.add] using p0
  | 1 => simp [flatI] at hj; subst hj; simpa [Addr.add] using p1
  | 2 => simp [flatI] at hj; subst hj; simpa [Addr.add] using p2
  | 3 => simp [flatI] at hj; subst hj; simpa [Addr.add] using p3
  | j + 4 => simp [flatI] at hj

theorem it_sz {i : It} (h : itV i = true) : i.key.size ≤ maxLen ∧ i.title.size ≤ maxLen ∧ i.body.size ≤ maxLen := by
  obtain ⟨h1, h2, _, h4, _⟩ := (itV_iff i).1 h
  have k1 : i.key.size ≤ 8 := by rw [← size_toList]; exact (wordV_all h1).2.1
  have k2 : i.title.size ≤ 80 := by rw [← size_toList]; exact textV_len h2
  have k3 : i.body.size ≤ 80 := by rw [← size_toList]; exact textV_len h4
  unfold maxLen; omega
theorem feed_sz {l : List It} (h : feedV l = true) : ∀ i ∈ l, i.key.size ≤ maxLen ∧ i.title.size ≤ maxLen ∧ i.body.size ≤ maxLen := fun i hi => it_sz (List.all_eq_true.1 ((feedV_iff l).1 h).2.1 i hi)
theorem sz_more {l : List It} {x : It} (h : ∀ i ∈ l, i.key.size ≤ maxLen ∧ i.title.size ≤ maxLen ∧ i.body.size ≤ maxLen) (hx : x.key.size ≤ maxLen ∧ x.title.size ≤ maxLen ∧ x.body.size ≤ maxLen) : ∀ i ∈ l ++ [x], i.key.size ≤ maxLen ∧ i.title.size ≤ maxLen ∧ i.body.size ≤ maxLen := by
  intro i hi
  rw [List.mem_append, List.mem_singleton] at hi
  rcases hi with hi | rfl
  · exact h i hi
  · exact hx

set_option maxRecDepth 100000 in
set_option maxHeartbeats 4000000 in
theorem spec_readFeed (a : Option Addr) (n cap : Nat) (l : List ByteArray) (w : World) (h : StAt w a l) (hn : l.length = n) (hmx : n ≤ maxLen) (hs : ∀ s ∈ l, s.size ≤ 1000000000) :
    Calls Tryd.prog 12 #[.slice a n cap] w (RfGiven (rdF [] 0 l) w) := by
  obtain ⟨ti, hti, iz0, iz1, iz2⟩ := info_parts Tryd.infoI
  have hm : Tryd.prog.follows .mixedOrders = true := by kernel_rfl
  unfold maxLen at hmx
  have HN := Lib.hid hn
  have HE := Lib.hid h
  have HS := Lib.hid hs
  have hb0 : Hid (Below w.heap.size w (w.alloc (.cells #[] 41))) := (Below.refl _ _).alloc (Nat.le_refl _) _
  have OM := Lib.hid (own_new4G w w.heap.size (Nat.le_refl _))
  clear hn h hs
  go_enter Tryd.func12, Tryd.ntmps12
  go_wp2
  go_loopw [4, 5, 6] (fun o d i wr => ∃ (k m c cp gq : Nat) (q : List It), o = .slice (some ⟨gq, 0, none⟩) m cp ∧ d = .int .i64 c ∧ i = .int .i64 k ∧ k ≤ n ∧ m ≤ 8 ∧ c ≤ k ∧ q.length = m ∧ Hid (RfTo l k q c) ∧ wr.ownsRow w.heap.size 41 4 (.slice (some ⟨gq, 0, none⟩) m cp) m (flatI q) ∧ Below w.heap.size w wr) (fun _ _ i _ => n - (intOf i).toNat)
  case atStart => exact ⟨0, 0, 0, 0, w.heap.size, [], rfl, rfl, rfl, by omega, by omega, by omega, rfl, RfTo.zero _, OM.out, hb0.out⟩
  case round =>
    obtain ⟨k, m, c, cp, gq, q, rfl, rfl, rfl, hk, hm8, hck, hq, ho, hown, hbr⟩ := hrel
    have HQ := Lib.hid hq
    clear hq
    by_cases hlt : k < n
    · have hkl : k < l.length := by rw [HN.out]; exact hlt
      obtain ⟨b0, off, ha, h1⟩ := HE.out.old hbr k hkl
      have cr := Lib.hid (fun w => spec_readItem l[k] w (HS.out _ (List.getElem_mem hkl)))
      have HB := Lib.hid (fun hr => ho.out.bad hkl hr)
      have HH := Lib.hid (fun i (hr : readI l[k].data.toList = some i) hh => ho.out.has hkl hr hh)
      have HNw := Lib.hid (fun i (hr : readI l[k].data.toList = some i) hh hl => ho.out.new hkl hr hh hl)
      have HFu := Lib.hid (fun i (hr : readI l[k].data.toList = some i) hh hl => ho.out.full hkl hr hh hl)
      have hvq : Hid (feedV q = true) := ho.out.2.1
      have hown1 := own_cap hown
      have hgq := hown.lt gq rfl
      unfold ItRead at cr
      generalize l[k] = s at *
      subst ha
      clear ho
      cases hr : readI s.data.toList with
      | none =>
        have HO := Lib.hid (HB.out hr)
        rw [hr] at cr
        have cr : Hid (∀ w, Calls Tryd.prog 36 #[.string s] w fun e w' => e = .returned (.tuple #[.agg #[.string ⟨#[]⟩, .string ⟨#[]⟩, .string ⟨#[]⟩, .int .i64 0], .bool false]) ∧ Below w.heap.size w w') := cr
        clear hr HB HH HNw HFu
        go_wp2_with fail
        refine (cr.out _).mono ?_
        rintro e w2 ⟨rfl, hb2⟩
        have hz2 := hbr.trans (hb2.mono hbr.size)
        have own2 := own_low' hown hb2
        have hz2a := hz2.alloc hz2.size (.cells #[.string ⟨#[]⟩, .string ⟨#[]⟩, .string ⟨#[]⟩, .int .i64 0] 41)
        go_wp2
        go_roundw
        case rel => exact ⟨k + 1, m, c + 1, cp, gq, q, rfl, by go_num, by go_num, by omega, by omega, by omega, HQ.out, HO.out, own2.alloc _, hz2a⟩
        case measure => simp [intOf]; omega
      | some x =>
        have hxv := readI_valid hr
        rw [hr] at cr
        have cr : Hid (∀ w, Calls Tryd.prog 36 #[.string s] w fun e w' => e = .returned (.tuple #[.agg #[.string x.key, .string x.title, .string x.body, .int .i64 x.day], .bool true]) ∧ Below w.heap.size w w') := cr
        have HH1 := Lib.hid (fun h => HH.out x hr h)
        have HN1 := Lib.hid (fun h h2 => HNw.out x hr h h2)
        have HF1 := Lib.hid (fun h h2 => HFu.out x hr h h2)
        have hokx := sz_more (feed_sz hvq.out) (it_sz hxv)
        have hsn : Hid (feedV (q ++ [x]) = (decide (q.length < 8) && !hasK q x.key)) := feedV_snoc hvq.out hxv
        clear hr HB HH HNw HFu hxv
        go_wp2_with fail
        refine (cr.out _).mono ?_
        rintro e w2 ⟨rfl, hb2⟩
        have hz2 := hbr.trans (hb2.mono hbr.size)
        have own5 := Lib.hid ((own_low' hown hb2).alloc (.cells #[.string x.key, .string x.title, .string x.body, .int .i64 x.day] 41))
        have X4 := heap_alloc_new w2 (.cells #[.string x.key, .string x.title, .string x.body, .int .i64 x.day] 41)
        have hz2a := hz2.alloc hz2.size (.cells #[.string x.key, .string x.title, .string x.body, .int .i64 x.day] 41)
        have hB25 : w2.heap.size + 1 = (w2.alloc (.cells #[.string x.key, .string x.title, .string x.body, .int .i64 x.day] 41)).heap.size := by simp
        have hw2 := hz2.size
        have hlm := HQ.out
        go_wp2_with fail
        rename_i K0 hK0
        generalize w2.alloc (.cells #[.string x.key, .string x.title, .string x.body, .int .i64 x.day] 41) = w5 at *
        have HX : w5.heap[w2.heap.size]? = some (.cells #[.string x.key, .string x.title, .string x.body, .int .i64 x.day] 41 (0, 0)) := X4
        have hBw : w5.heap.size ≤ w5.heap.size := Nat.le_refl _
        refine wp_region_gv hm (w5.heap.size) m (.slice (some ⟨gq, 0, none⟩) m cp) q x 30 rfl ?_ ?_
        · rintro L a w' i ⟨u, rfl, hsz, hG, hC, hF⟩ hi K hK
          clear hK0
          have hi7 : i < 7 := ready_ltG hi
          have h0f := getD_notG (by omega) (mem_ready.1 hi).1
          have hBs : w5.heap.size ≤ w'.heap.size := Nat.le_trans hBw hG.size
          have hF2 : ∀ j, L[j]?.getD false = true → DgOf (w5.heap.size) m (.slice (some ⟨gq, 0, none⟩) m cp) q x L j (u j) w' := fun j h => hF j (by simpa using h)
          obtain rfl | rfl | rfl | rfl | rfl | rfl | rfl : i = 0 ∨ i = 1 ∨ i = 2 ∨ i = 3 ∨ i = 4 ∨ i = 5 ∨ i = 6 := by omega
          · have hd := ready_depG hi rfl
            simp [Region.binds] at hd
            refine wpOp_of rfl rfl ?_
            simp only [frmG, List.setIfInBounds_toArray, List.set_cons_succ, List.set_cons_zero]
            go_simp
            have hga := World.grownBy_alloc w' (.cells #[] 41) none
            have hzz := hK _ _ (GvInv.step (t := _) (s := 30) (i := 0) (v := .slice (some ⟨w'.heap.size, 0, none⟩) 0 0) (w' := w'.alloc (.cells #[] 41)) hsz hC (fun e => by cases e) (fun _ => ⟨w'.heap.size, rfl, heap_alloc_new _ _, hBs, own_new4G w' _ hBs⟩) (fun j _ hl => (hF j hl).kept hga) (grown_trans hG hga))
            simp only [frmG, List.setIfInBounds_toArray, List.set_cons_succ, List.set_cons_zero, reduceIte, Nat.reduceEqDiff] at hzz
            exact hzz
          · have hd := ready_depG hi rfl
            simp [Region.binds] at hd
            refine wpOp_of rfl rfl ?_
            simp only [frmG, List.setIfInBounds_toArray, List.set_cons_succ, List.set_cons_zero]
            go_simp
            have hzz := hK _ _ (GvInv.step (t := _) (s := 30) (i := 1) (v := .slice (some ⟨gq, 0, none⟩) m cp) (w' := w') hsz hC (fun e => by cases e) rfl (fun j _ hl => (hF j hl).kept (World.grownBy.refl w' none)) hG)
            simp only [frmG, List.setIfInBounds_toArray, List.set_cons_succ, List.set_cons_zero, reduceIte, Nat.reduceEqDiff] at hzz
            exact hzz
          · have hd := ready_depG hi rfl
            simp [Region.binds] at hd
            obtain ⟨hd0, hd1⟩ := hd
            obtain ⟨b1, e0, hb1, hbB, ho1⟩ := hF2 0 hd0 h0f
            have e1 : u 1 = _ := hF2 1 hd1
            have hlq := (own_any0 own5.out hG).cells (g := gq) rfl
            refine wpOp_of rfl rfl ?_
            simp only [frmG, List.setIfInBounds_toArray, List.set_cons_succ, List.set_cons_zero]
            rw [e0, e1]
            refine wp_append_own w' (.tmp 30) (.tmp 31) 24 rfl (w5.heap.size) 41 ti _ 4 56 Tryd.underlying24 hti iz0 iz1 iz2 rfl (by decide) (.slice (some ⟨b1, 0, none⟩) 0 0) 0 [] (by simp [Act.eval]) ho1 ⟨gq, 0, none⟩ m cp (flatI q) (by simp [Act.eval]) (by rw [flatI_len, hlm]) hlq (flatI_one _) (by unfold maxLen; omega) (by omega) hBs ?_
            intro v' w2 hown2 hgrow2 _
            have hgr1 : w'.grownBy w2 (some b1) := hgrow2
            rw [Nat.zero_add, List.nil_append] at hown2
            go_simp
            have hzz := hK _ _ (GvInv.step (t := _) (s := 30) (i := 2) (v := v') (w' := w2) hsz hC (fun e => by cases e) (fun _ => hown2) (fun j hj hl => by
              match j, hj with
              | 0, _ => exact fun h2 => by rw [getD_set_hereG (by omega)] at h2; cases h2
              | 1, _ => exact hF 1 hl
              | 2, hj => exact absurd rfl hj
              | 3, _ => exact hF 3 hl
              | 4, _ =>
                intro h2
                obtain ⟨b, z1, z2, z3⟩ := hF 4 hl (getD_set_noG h2)
                exact ⟨b, z1, heap_kept1 hgr1 z2 (fun e => by rw [e] at z2; have := hb1.symm.trans z2; simp at this), z3⟩
              | 5, _ => exact absurd (hC hl) (by rw [h0f]; decide)
              | 6, _ => exact hF 6 hl
              | _ + 7, _ => trivial) (grown_own0 hG hgr1 (fun j e => by injection e with e; omega)))
            simp only [frmG, List.setIfInBounds_toArray, List.set_cons_succ, List.set_cons_zero, reduceIte, Nat.reduceEqDiff, e0, e1] at hzz
            exact hzz
          · have hd := ready_depG hi rfl
            simp [Region.binds] at hd
            obtain ⟨p0, p1, p2, p3, _⟩ := heap_cells4 (heap_kept0 hG HX)
            refine wpOp_of rfl rfl ?_
            simp only [frmG, List.setIfInBounds_toArray, List.set_cons_succ, List.set_cons_zero]
            go_simp
            have hzz := hK _ _ (GvInv.step (t := _) (s := 30) (i := 3) (v := .agg #[.string x.key, .string x.title, .string x.body, .int .i64 x.day]) (w' := w') hsz hC (fun e => by cases e) rfl (fun j _ hl => (hF j hl).kept (World.grownBy.refl w' none)) hG)
            simp only [frmG, List.setIfInBounds_toArray, List.set_cons_succ, List.set_cons_zero, reduceIte, Nat.reduceEqDiff] at hzz
            exact hzz
          · have hd := ready_depG hi rfl
            simp [Region.binds] at hd
            have e3 : u 3 = _ := hF2 3 hd
            refine wpOp_of rfl rfl ?_
            simp only [frmG, List.setIfInBounds_toArray, List.set_cons_succ, List.set_cons_zero]
            rw [e3]
            go_simp
            have hga := World.grownBy_alloc w' (.cells #[.string x.key, .string x.title, .string x.body, .int .i64 x.day] 41) none
            have hzz := hK _ _ (GvInv.step (t := _) (s := 30) (i := 4) (v := .slice (some ⟨w'.heap.size, 0, none⟩) 1 1) (w' := w'.alloc (.cells #[.string x.key, .string x.title, .string x.body, .int .i64 x.day] 41)) hsz hC (fun e => by cases e) (fun _ => ⟨w'.heap.size, rfl, heap_alloc_new _ _, hBs⟩) (fun j _ hl => (hF j hl).kept hga) (grown_trans hG hga))
            simp only [frmG, List.setIfInBounds_toArray, List.set_cons_succ, List.set_cons_zero, reduceIte, Nat.reduceEqDiff, e3] at hzz
            exact hzz
          · have hd := ready_depG hi rfl
            simp [Region.binds] at hd
            have ho2 := hF2 2 hd.1 h0f
            obtain ⟨b4, e4, hb4, hb4B⟩ := hF2 4 hd.2.1 h0f
            refine wpOp_of rfl rfl ?_
            simp only [frmG, List.setIfInBounds_toArray, List.set_cons_succ, List.set_cons_zero]
            rw [e4]
            refine wp_append_own w' (.tmp 32) (.tmp 34) 24 rfl (w5.heap.size) 41 ti _ 4 56 Tryd.underlying24 hti iz0 iz1 iz2 rfl (by decide) (u 2) m (flatI q) (by simp [Act.eval]) ho2 ⟨b4, 0, none⟩ 1 1 (flatI [x]) (by simp [Act.eval]) rfl (items_rowG hb4) (flatI_one _) (by unfold maxLen; omega) (by omega) hBs ?_
            intro v' w2 hown2 hgrow2 _
            rw [← flatI_app] at hown2
            have hbk := fun k e => (ho2.lt k e).1
            go_simp
            have hzz := hK _ _ (GvInv.step (t := _) (s := 30) (i := 5) (v := v') (w' := w2) hsz hC (fun _ => by simpa using hd.1) hown2 (fun j hj hl => by
              have h2t : L.getD 2 false = true := by simpa using hd.1
              match j, hj with
              | 0, _ => exact fun h2 => by rw [getD_set_true h2t] at h2; cases h2
              | 1, _ => exact hF 1 hl
              | 2, _ => exact fun h2 => by rw [getD_set_hereG (by omega)] at h2; cases h2
              | 3, _ => exact hF 3 hl
              | 4, _ => exact fun h2 => by rw [getD_set_hereG (by omega)] at h2; cases h2
              | 5, hj => exact absurd rfl hj
              | 6, _ => exact hF 6 hl
              | _ + 7, _ => trivial) (grown_own0 hG hgrow2 (fun j e => by have := hbk j e; omega)))
            simp only [frmG, List.setIfInBounds_toArray, List.set_cons_succ, List.set_cons_zero, reduceIte, Nat.reduceEqDiff, e4] at hzz
            exact hzz
          · have hd := ready_depG hi rfl
            simp [Region.binds] at hd
            have ho5 : w'.ownsRow _ _ 4 (u 5) _ _ := hF2 5 hd
            obtain ⟨g5, cap5, e5, _⟩ := ho5.form (by omega)
            rw [e5] at ho5
            refine wpOp_of rfl rfl ?_
            simp only [frmG, List.setIfInBounds_toArray, List.set_cons_succ, List.set_cons_zero]
            rw [e5]
            go_simp
            refine (spec_feedValid (some ⟨g5, 0, none⟩) (m + 1) cap5 (q ++ [x]) w' (ItAt.own ho5 (by simp [hlm])) (by simp [hlm]) (by unfold maxLen; omega) (fun i hi => hokx i hi)).mono ?_
            rintro e w2 ⟨rfl, hb2⟩
            have hg2 : w'.grownBy w2 none := below_grown hb2
            have hzz := hK _ _ (GvInv.step (t := _) (s := 30) (i := 6) (v := .bool (feedV (q ++ [x]))) (w' := w2) hsz hC (fun e => by cases e) rfl (fun j _ hl => (hF j hl).kept hg2) (grown_trans hG hg2))
            simp only [frmG, List.setIfInBounds_toArray, List.set_cons_succ, List.set_cons_zero, reduceIte, Nat.reduceEqDiff, e5] at hzz
            exact hzz
        · rintro L a w6 ⟨u, rfl, hsz6, hG6, _, hF6⟩ hr0
          have hall := ready_nil (by
            intro i o ho
            have hi7 : i < 7 := (Array.getElem?_eq_some_iff.1 ho).1
            obtain rfl | rfl | rfl | rfl | rfl | rfl | rfl : i = 0 ∨ i = 1 ∨ i = 2 ∨ i = 3 ∨ i = 4 ∨ i = 5 ∨ i = 6 := by omega
            all_goals (simp at ho; subst ho; simp)) (by simpa using hsz6) hr0
          have e6 : u 6 = _ := hF6 6 (hall 6 (by simp))
          clear hall hr0 hF6 hsz6
          have own6 := own_any0 own5.out hG6
          have hz6 : Below w.heap.size w w6 := hz2a.grown hG6 hz2a.size (fun j e => by cases e)
          obtain ⟨p0, p1, p2, p3, _⟩ := heap_cells4 (heap_kept0 hG6 HX)
          show K0 _ _
          refine hK0 _ _ ?_
          clear hK0
          simp only [frmG, List.setIfInBounds_toArray, List.set_cons_succ, List.set_cons_zero, e6]
          by_cases hnew : hasK q x.key = false ∧ m ≠ 8
          · have HO := Lib.hid (HN1.out hnew.1 (by rw [HQ.out]; exact hnew.2))
            have hfv : feedV (q ++ [x]) = true := by
              rw [hsn.out, hnew.1, HQ.out, decide_eq_true (show m < 8 by omega)]; rfl
            rw [hfv]
            clear hfv
            go_wp2_with (at_builtin; refine wpList_append_lies _ rfl _ _ 24 rfl w.heap.size 41 ti _ 4 56 Tryd.underlying24 hti iz0 iz1 iz2 rfl (by decide) _ m (flatI q) rfl (own6.alloc _) ⟨w6.heap.size, 0, none⟩ 1 1 [.string x.key, .string x.title, .string x.body, .int .i64 x.day] rfl rfl (cell_four_new _ _ _ _ _ _) (fun x hx => by simp at hx; rcases hx with rfl | rfl | rfl | rfl <;> rfl) (by omega) (by unfold maxLen; omega) (by omega) (by have := hz6.size; simp; omega) _ rfl ?_; intro q2 cap2 w7 hown7 hgrow7 hat7 hlt7)
            have hb7 := Below.grown (hz6.alloc hz6.size _) hgrow7 (by have := hz6.size; simp; omega) (fun j e => (own6.lt j e).1)
            have HO7 := Lib.hid hown7
            clear hown7 hgrow7 hat7
            go_wp2
            go_roundw
            case rel => exact ⟨k + 1, m + 1, c, cap2, q2, q ++ [x], rfl, rfl, by go_num, by omega, by omega, by omega, by simp [HQ.out], HO.out, by rw [flatI_app]; exact HO7.out, hb7⟩
            case measure => simp [intOf]; omega
          · have hfv : feedV (q ++ [x]) = false := by
              rw [hsn.out, HQ.out]
              cases hh : hasK q x.key
              · by_cases h8 : m = 8
                · rw [h8]; rfl
                · exact absurd ⟨hh, h8⟩ hnew
              · rw [Bool.not_true, Bool.and_false]
            rw [hfv]
            have EQ6 := Lib.hid (ItAt.own own6 HQ.out)
            have HOwn6 := Lib.hid own6
            clear hfv own6
            go_wp2
            go_loopw [9, 10] (fun t i wx => ∃ (v : Bool) (j : Nat), t = .bool v ∧ i = .int .i64 j ∧ j ≤ m ∧ Hid (v = hasK (q.take j) x.key) ∧ Hid (∃ z, wx = w6.drewN z)) (fun _ i _ => m - (intOf i).toNat)
            case atStart => exact ⟨false, 0, rfl, rfl, by omega, by rw [List.take_zero]; rfl, ⟨0, rfl⟩⟩
            case round =>
              obtain ⟨v, j, rfl, rfl, hj, hvj, hwx⟩ := hrel
              obtain ⟨z, hz⟩ := hwx.out
              subst hz
              by_cases hjm : j < m
              · have hjl : j < q.length := by rw [HQ.out]; exact hjm
                obtain ⟨b1, off1, ha1, y1, _⟩ := EQ6.out j hjl
                have HNx := Lib.hid (hasK_next q x.key j hjl)
                injection ha1 with ha1
                injection ha1 with ha2 ha3
                subst ha2
                subst ha3
                simp only [Nat.zero_add] at y1
                cases v
                · cases hq2 : eqS q[j].key x.key
                  · have HV : Hid (false = hasK (q.take (j + 1)) x.key) := by rw [HNx.out, ← hvj.out, hq2]; rfl
                    have hq2 : (q[j].key.toList == x.key.toList) = false := hq2
                    generalize q[j] = y at *
                    go_wp2_with fail
                    go_quiet (fail)
                    go_wp2
                    go_roundw
                    case rel => exact ⟨false, j + 1, rfl, by go_num, by omega, HV, ⟨_, rfl⟩⟩
                    case measure => simp [intOf]; omega
                  · have HV : Hid (true = hasK (q.take (j + 1)) x.key) := by rw [HNx.out, ← hvj.out, hq2]; rfl
                    have hq2 : (q[j].key.toList == x.key.toList) = true := hq2
                    generalize q[j] = y at *
                    go_wp2_with fail
                    go_quiet (fail)
                    go_wp2
                    go_roundw
                    case rel => exact ⟨true, j + 1, rfl, by go_num, by omega, HV, ⟨_, rfl⟩⟩
                    case measure => simp [intOf]; omega
                · have HV : Hid (true = hasK (q.take (j + 1)) x.key) := by rw [HNx.out, ← hvj.out]; rfl
                  generalize q[j] = y at *
                  go_wp2_with fail
                  go_quiet (fail)
                  go_wp2
                  go_roundw
                  case rel => exact ⟨true, j + 1, rfl, by go_num, by omega, HV, ⟨_, rfl⟩⟩
                  case measure => simp [intOf]; omega
              · have hvv : v = hasK q x.key := by
                  have := hvj.out
                  rwa [List.take_of_length_le (by rw [HQ.out]; omega)] at this
                have hz6' : Below w.heap.size w (w6.drewN z) := below_drewN' hz6 z
                have own6 : (w6.drewN z).ownsRow w.heap.size 41 4 (.slice (some ⟨gq, 0, none⟩) m cp) m (flatI q) := HOwn6.out
                cases v
                · have h8 : m = 8 := by
                    by_cases h8 : m = 8
                    · exact h8
                    · exact absurd ⟨hvv.symm, h8⟩ hnew
                  have HO := Lib.hid (HF1.out hvv.symm (by rw [HQ.out]; exact h8))
                  have hzz := hz6'.alloc hz6'.size (.cells #[] 41)
                  have ON := own_new4G (w6.drewN z) w.heap.size hz6'.size
                  clear hvv hvj
                  go_wp2
                  go_ret2
                  exact rf_none HO.out _ 0 ON hzz
                · have HO := Lib.hid (HH1.out hvv.symm)
                  clear hvv hvj
                  go_wp2
                  go_roundw
                  case rel => exact ⟨k + 1, m, c, cp, gq, q, rfl, rfl, by go_num, by omega, by omega, by omega, HQ.out, HO.out, own6, hz6'⟩
                  case measure => simp [intOf]; omega
    · have E := Lib.hid (ho.out.done (by rw [HN.out]; omega))
      go_wp2
      go_ret2
      exact rf_given E.out _ m cp hown HQ.out hbr
end Go.Proofs.YtldllhfadihmeaaDoor
