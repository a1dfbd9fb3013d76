/- SortFeed of the program: sortF. -/
import Derived.Test.YtldllhfadihmeaaSrC
import Derived.Test.YtldllhfadihmeaaNewW
import Derived.Test.YtldllhfadihmeaaOwnB
import Derived.Deep.AppendLies
namespace Go.Proofs.Ytldllhfadihmeaa
open Go.RowKit Go.Shelf Go.Lib Go.Sort

theorem flatI_get (l : List It) (j : Nat) (hj : j < l.length * 4) : ∃ (k : Nat) (_ : k < l.length) (r : Nat), r < 4 ∧ j = k * 4 + r :=
  ⟨j / 4, by omega, j % 4, by omega, by omega⟩
theorem items_lie {w : World} {b off n : Nat} {l : List It} (_ : l.length = n) (h : ItAt w (some ⟨b, off, none⟩) l) : ∀ j u, (flatI l)[j]? = some u → w.cell? ((⟨b, off, none⟩ : Addr).add j) = some u := by
  intro j u hu
  have hj : j < (flatI l).length := by
    by_cases h : j < (flatI l).length
    · exact h
    · rw [List.getElem?_eq_none (by omega)] at hu; cases hu
  rw [flatI_len] at hj
  obtain ⟨k, hk, r, hr, rfl⟩ := flatI_get l j hj
  obtain ⟨b', off', hb, h0, h1, h2, h3⟩ := h k hk
  injection hb with hb
  injection hb with e1 e2
  subst e1; subst e2
  obtain ⟨f0, f1, f2, f3⟩ := flatI_at l k hk
  have hadd : (⟨b, off, none⟩ : Addr).add (k * 4 + r) = ⟨b, off + (k * 4 + r), none⟩ := by simp [Addr.add]
  rw [hadd]
  match r, hr with
  | 0, _ => rw [Nat.add_zero] at hu ⊢; rw [f0] at hu; rw [h0]; exact hu
  | 1, _ => rw [f1] at hu; rw [← Nat.add_assoc, h1]; exact hu
  | 2, _ => rw [f2] at hu; rw [← Nat.add_assoc, h2]; exact hu
  | 3, _ => rw [f3] at hu; rw [← Nat.add_assoc, h3]; exact hu

set_option maxRecDepth 100000 in
set_option maxHeartbeats 400000 in
theorem copy_any (a : Option Addr) (n : Nat) (l : List It) (w : World) (h : ItAt w a l) (hn : l.length = n) (h8 : n ≤ 8) :
    Calls Try.prog 48 #[.slice a n n] w fun e w' => (∃ v', e = .returned v' ∧ w'.ownsRow w.heap.size 34 4 v' n (flatI l)) ∧ Below w.heap.size w w' := by
  obtain ⟨ti, hti, iz0, iz1, iz2⟩ := info_parts Try.infoI
  cases a with
  | none =>
    have hl : l = [] := by
      cases l with
      | nil => rfl
      | cons x l => obtain ⟨b, off, hb, _⟩ := h 0 (by simp); cases hb
    subst hl
    simp only [List.length_nil] at hn
    subst hn
    go_enter Try.func48, Try.ntmps48
    go_wp2_with (at_builtin; refine wpList_append_own_none rfl _ _ 24 rfl w.heap.size 34 ti 4 Try.underlying24 hti _ 0 [] rfl (World.ownsRow_nil _ _ _ _) rfl ?_)
    go_wp2
    go_ret
    exact ⟨⟨_, rfl, World.ownsRow_nil _ _ _ _⟩, Below.refl _ _⟩
  | some ad =>
    have hcell : ∀ j u, (flatI l)[j]? = some u → w.cell? (ad.add j) = some u := by
      cases l with
      | nil => intro j u hu; simp [flatI] at hu
      | cons x r =>
        obtain ⟨b, off, hb, _⟩ := h 0 (by simp)
        injection hb with hb
        subst hb
        exact items_lie hn h
    go_enter Try.func48, Try.ntmps48
    go_wp2_with (at_builtin; refine wpList_append_own _ rfl _ _ 24 rfl w.heap.size 34 ti _ 4 56 Try.underlying24 hti iz0 iz1 iz2 rfl (by decide) (.slice none 0 0) 0 [] rfl (World.ownsRow_nil _ _ _ _) ad n n (flatI l) rfl (by rw [flatI_len, hn]) hcell (flatI_one l) (by unfold maxLen; omega) (by omega) (Nat.le_refl _) ?_; intro v7 w7 hown7 hgrow7 hat7)
    go_wp2
    go_ret
    rw [Nat.zero_add, List.nil_append] at hown7
    exact ⟨⟨_, rfl, hown7⟩, Below.grown (Below.refl _ _) hgrow7 (Nat.le_refl _) (fun j e => by cases e)⟩

def encI (x : It) : List Value := [.string x.key, .string x.title, .string x.body, .int .i64 x.day]
instance : Inhabited It := ⟨⟨⟨#[]⟩, ⟨#[]⟩, ⟨#[]⟩, 0⟩⟩
theorem flatK_flatI (l : List It) : (flatK encI 4 l.toArray).toList = flatI l := by
  apply List.ext_getElem?
  intro j
  by_cases hj : j < l.length * 4
  · have hj' : j < l.toArray.size * 4 := by simpa using hj
    obtain ⟨k, hk, r, hr, rfl⟩ := flatI_get l j hj
    have h1 := get_flatK encI 4 l.toArray (k * 4 + r) hj'
    rw [Array.getElem?_toList, getElem?_pos (flatK encI 4 l.toArray) (k * 4 + r) (by simpa using hj)]
    rw [getElem!_pos (flatK encI 4 l.toArray) (k * 4 + r) (by simpa using hj)] at h1
    rw [h1, show (k * 4 + r) / 4 = k by omega, show (k * 4 + r) % 4 = r by omega]
    rw [getElem!_pos l.toArray k (by simpa using hk)]
    obtain ⟨f0, f1, f2, f3⟩ := flatI_at l k hk
    match r, hr with
    | 0, _ => rw [Nat.add_zero, f0]; simp [encI]
    | 1, _ => rw [f1]; simp [encI]
    | 2, _ => rw [f2]; simp [encI]
    | 3, _ => rw [f3]; simp [encI]
  · rw [List.getElem?_eq_none (by simpa using hj), List.getElem?_eq_none (by rw [flatI_len]; omega)]
theorem flatK_get (l : List It) (j : Nat) : (flatK encI 4 l.toArray)[j]? = (flatI l)[j]? := by
  rw [← flatK_flatI, Array.getElem?_toList]
theorem holdsI {w : World} {g : Nat} {cur : Array Value} {e : TypeId} {l : List It} (hb : w.heap[g]? = some (.cells cur e (0, 0))) (ht : cur.toList.take (l.length * 4) = flatI l) : HoldsK encI 4 w g 0 l.toArray := by
  intro j hj
  have hj' : j < l.length * 4 := by simpa using hj
  refine ⟨?_, by simp [World.frozen?, hb]⟩
  have h1 : (cur.toList.take (l.length * 4))[j]? = (flatI l)[j]? := by rw [ht]
  rw [List.getElem?_take_of_lt hj', ← flatK_get, getElem?_pos (flatK encI 4 l.toArray) j hj, Array.getElem?_toList] at h1
  simp only [World.cell?, hb, Nat.zero_add]
  simp only [Option.isSome_none, Bool.false_eq_true, if_false]
  rw [h1, getElem!_pos (flatK encI 4 l.toArray) j hj]
  rfl
theorem takeI (cur : Array Value) (ts : List It) (h : ts.length * 4 ≤ cur.size) : (putCells id 0 (flatK encI 4 ts.toArray) cur).toList.take (ts.length * 4) = flatI ts := by
  apply List.ext_getElem?
  intro j
  by_cases hj : j < ts.length * 4
  · rw [List.getElem?_take_of_lt hj, Array.getElem?_toList, ← flatK_get]
    have hs : j < (flatK encI 4 ts.toArray).size := by simpa using hj
    rw [getElem?_pos (flatK encI 4 ts.toArray) j hs]
    simp only [putCells, Array.getElem?_mapIdx, getElem?_pos cur j (show j < cur.size by omega), Option.map_some, Nat.zero_le, Nat.zero_add, hs, true_and, if_true, Nat.sub_zero, id]
    rw [getElem!_pos (flatK encI 4 ts.toArray) j hs]
  · rw [List.getElem?_take_eq_none (by omega), List.getElem?_eq_none (by rw [flatI_len]; omega)]
theorem ownI_sorted {w : World} {base g cap n m : Nat} {e : TypeId} {os : Array Obj} {cur : Array Value} {ts : List It} (hl : ts.length = n) (hbase : base ≤ g) (hb : w.heap[g]? = some (.cells cur e (0, 0)))
    (h1 : n ≤ cap) (h2 : cap ≤ maxLen) (h3 : cur.size = cap * 4) :
    (sortWorldK encI 4 w g 0 m ts.toArray os).ownsRow base e 4 (.slice (some ⟨g, 0, none⟩) n cap) n (flatI ts) := by
  refine ⟨by rw [flatI_len, hl], .inr ⟨g, cap, putCells id 0 (flatK encI 4 ts.toArray) cur, rfl, hbase, ?_, h1, h2, by simp [putCells, h3], by rw [← hl]; exact takeI cur ts (by omega)⟩⟩
  have hg : g < w.heap.size := (Array.getElem?_eq_some_iff.1 hb).1
  unfold sortWorldK
  rw [heap_grow_old _ _ (by simpa [putRowK] using hg)]
  simp [putRowK, putRow, mapBlock, Sort.ahead, Array.getElem?_modify, hb, onCells]
theorem grownI_sorted {w : World} {g n : Nat} {os : Array Obj} (d : Array It) : w.grownBy (sortWorldK encI 4 w g 0 n d os) (some g) := by
  refine ⟨rfl, rfl, rfl, by simp [sortWorldK, putRowK], fun k hk hne => ?_⟩
  unfold sortWorldK
  rw [heap_grow_old _ _ (by simpa [putRowK] using hk)]
  have : g ≠ k := fun e => hne (by rw [e])
  simp [putRowK, putRow, mapBlock, Sort.ahead, Array.getElem?_modify, this]

theorem srt_of {l : List It} {d' : Array It} (hp : PermIn 0 l.toArray.size l.toArray d') (hs : SortedIn (ltOf cfI) 0 l.toArray.size d') : Srt l d'.toList := by
  obtain ⟨hsz, _, hperm⟩ := hp
  have e1 : d'.extract 0 l.toArray.size = d' := by rw [← hsz]; exact Array.extract_size
  rw [e1, Array.extract_size] at hperm
  refine ⟨by simpa using hperm, ?_⟩
  rw [List.pairwise_iff_getElem]
  intro i j hi hj hij
  have hi' : i < d'.size := by simpa using hi
  have hj' : j < d'.size := by simpa using hj
  have := hs i j (Nat.zero_le _) hij (by omega)
  rw [getElem!_pos d' j hj', getElem!_pos d' i hi', ltOf_cfI] at this
  simpa using this

set_option maxHeartbeats 1000000 in
theorem sort_any (base : Nat) (v : Value) (n : Nat) (l : List It) (w : World) (h : w.ownsRow base 34 4 v n (flatI l)) (hn : l.length = n) (h8 : n ≤ 8) (hb : base ≤ w.heap.size) (hv : feedV l = true) :
    Calls Try.prog 49 #[v, .func (.func 50) #[] #[]] w fun e w' => e = .returned (.tuple #[]) ∧ w'.ownsRow base 34 4 v n (flatI (sortF l)) ∧ Go.RowKit.Below base w w' := by
  rcases h.2 with ⟨rfl, h0⟩ | ⟨g, cap, cur, rfl, hbase, hb', h1, h2, h3, h4⟩
  · subst h0
    have hl : l = [] := List.eq_nil_of_length_eq_zero hn
    subst hl
    refine (AnyF.slices_SortFunc_none Try.sortIt none 0 _ w).mono ?_
    rintro e w' ⟨rfl, rfl⟩
    rw [sortF_ok hv Srt.nil]
    exact ⟨rfl, h, Below.refl _ _⟩
  · have eg : ∀ args w, (callFunc 50 args).run Try.prog w = .ok (.enter 50 args) w := enters_of Try.func50 (by kernel_rfl) rfl
    have hcon := AnyQ.slices_SortFunc Try.sortIt 4 Try.isAgg34 Try.sizeOf34 encI (fun _ => rfl) (fun x v hv => by simp [encI] at hv; rcases hv with rfl | rfl | rfl | rfl <;> rfl) cfI (ltOf_cfI ▸ befI_swo) 50 #[] g 0 cap l.toArray w eg (fun _ _ _ _ x y => srt_closure x y _) (holdsI hb' (by rw [hn]; exact h4)) (Array.getElem?_eq_some_iff.1 hb').1 (by simp; omega)
    have hsz : l.toArray.size = n := by simpa using hn
    refine Calls.mono (show Calls Try.prog 49 _ w _ from hsz ▸ hcon) ?_
    rintro e w' ⟨rfl, d', m, os, hp, hs, rfl⟩
    have hS := srt_of (l := l) (d' := d') (by rw [hsz]; exact hp) (by rw [hsz]; exact hs)
    rw [sortF_ok hv hS]
    have hl' : d'.toList.length = n := by have := hp.1; simp at this ⊢; omega
    have := ownI_sorted (m := m) (os := os) hl' hbase hb' h1 h2 h3
    rw [Array.toArray_toList] at this
    exact ⟨rfl, this, Below.grown (Below.refl _ _) (grownI_sorted d') hb (fun j e => by injection e with e; omega)⟩

theorem srt_base {w : World} {base base' t size n : Nat} {v : Value} {xs : List Value} (h : w.ownsRow base t size v n xs) (hb : base' ≤ base) : w.ownsRow base' t size v n xs := by
  obtain ⟨h1, h2⟩ := h
  refine ⟨h1, ?_⟩
  rcases h2 with h2 | ⟨g, cap, cur, hv, hg, r⟩
  · exact .inl h2
  · exact .inr ⟨g, cap, cur, hv, Nat.le_trans hb hg, r⟩
theorem feedV_le {l : List It} (hv : feedV l = true) : l.length ≤ 8 := by
  by_cases h : l.length ≤ 8
  · exact h
  · rw [feedV_long (by omega)] at hv; cases hv
theorem its_given' {l l' : List It} {w w' : World} (h : l' = l) (v : Value) (n : Nat) (ho : w'.ownsRow w.heap.size 34 4 v n (flatI l)) (hl : l.length = n) (hb : Go.RowKit.Below w.heap.size w w') : ItsGiven l' w (.returned v) w' := by
  rcases ho.2 with ⟨rfl, _⟩ | ⟨g, cap, cur, rfl, _⟩
  · have : n = 0 := by rcases ho.2 with ⟨_, h0⟩ | ⟨g, cap, cur, e, _⟩; exact h0; cases e
    subst this
    exact its_given h none 0 0 ho hl hb
  · exact its_given h _ n cap ho hl hb

set_option maxRecDepth 100000 in
set_option maxHeartbeats 1000000 in
theorem impl_sortFeed (a : Option Addr) (n : Nat) (l : List It) (w : World) (h : ItAt w a l) (hn : l.length = n) (hm : n ≤ maxLen) (hs : ∀ i ∈ l, i.key.size ≤ maxLen ∧ i.title.size ≤ maxLen ∧ i.body.size ≤ maxLen) :
    Calls Try.prog 18 #[.slice a n n] w (ItsGiven (sortF l) w) := by
  have c1 := Lib.hid (fun w h => impl_feedValid a n n l w h hn (Nat.le_refl _) hm hs)
  cases hv : feedV l
  · rw [hv] at c1
    have E := Lib.hid (sortF_bad hv)
    have HE := Lib.hid h
    clear hv h hs hm hn
    go_enter Try.func18, Try.ntmps18
    go_wp2_with fail
    refine (c1.out _ HE.out).mono ?_
    rintro e w1 ⟨rfl, hb1⟩
    go_wp2
    go_ret
    exact its_given E.out none 0 0 (World.ownsRow_nil _ _ _ _) rfl hb1
  · rw [hv] at c1
    have h8 := feedV_le hv
    rw [hn] at h8
    have hsl : (sortF l).length = n := by
      unfold sortF
      rw [if_pos hv, List.length_mergeSort, hn]
    have c2 := Lib.hid (fun w h => copy_any a n l w h hn h8)
    have c3 := Lib.hid (fun base v w h hb => sort_any base v n l w h hn h8 hb hv)
    have HE := Lib.hid h
    have HL := Lib.hid hsl
    clear hv h hs hm hn hsl
    generalize sortF l = r at *
    go_enter Try.func18, Try.ntmps18
    go_wp2_with fail
    refine (c1.out _ HE.out).mono ?_
    rintro e w1 ⟨rfl, hb1⟩
    go_wp2_with fail
    refine (c2.out _ (HE.out.old hb1)).mono ?_
    rintro e w2 ⟨⟨v, rfl, ho2⟩, hb2⟩
    go_wp2_with fail
    refine (c3.out _ _ _ ho2 hb2.size).mono ?_
    rintro e w3 ⟨rfl, ho3, hb3⟩
    go_wp2
    go_ret
    exact its_given' rfl v n (srt_base ho3 hb1.size) HL.out (hb1.trans ((hb2.trans hb3).mono hb1.size))
end Go.Proofs.Ytldllhfadihmeaa
