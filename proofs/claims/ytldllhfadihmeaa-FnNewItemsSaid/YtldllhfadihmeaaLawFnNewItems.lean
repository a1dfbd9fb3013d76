/- The law FnNewItems: for every input the call returns true, and the arguments read as before. Condition: none. -/
import Derived.Test.YtldllhfadihmeaaRows
import Derived.Test.YtldllhfadihmeaaHead
import Derived.Test.YtldllhfadihmeaaDrawNC
import Derived.Test.YtldllhfadihmeaaSame
import Derived.Test.YtldllhfadihmeaaNewS
import Derived.Test.YtldllhfadihmeaaIwW
import Derived.Deep.QuietTactic
import Derived.BigQuiet
import Derived.WalkKit
import Derived.WalkSpells
import Derived.WalkLawsBesides
import Derived.ProofKit
import Derived.OpenShut
import Derived.ShutString
import Derived.ChangeOld
import Derived.Below
import Derived.Lib.Hide
namespace Go.Proofs.Ytldllhfadihmeaa
open Go.ChangeShapes Go.WideShapes Go.ChangeAt Go.RowKit
open Go.ChangeMaps (open_string shut_string)
set_option linter.unusedVariables false

theorem newI_mem {l l' : List It} {x : It} (h : x ∈ newI l l') : withI l x.key = none ∧ withI l' x.key = some x := by
  unfold newI selI at h
  split at h
  · rename_i hv
    rw [List.mem_filter] at h
    obtain ⟨h1, h2⟩ := h
    have hk : hasK l x.key = false := by
      unfold newP at h2
      simpa using h2
    refine ⟨withI_none hk, ?_⟩
    obtain ⟨k, hkl, rfl⟩ := List.getElem_of_mem h1
    exact withI_here hv.2 hkl rfl (by
      have h3 := ((feedV_iff l').1 hv.2).2.2
      have := freshK_take h3 (k + 1)
      rw [take_snocI l' k hkl, freshK_snoc, Bool.and_eq_true] at this
      simpa using this.2)
  · simp at h
theorem newI_self (l : List It) : newI l l = [] := by
  unfold newI selI
  split
  · rw [List.filter_eq_nil_iff]
    intro x hx
    have : hasK l x.key = true := (hasK_iff _ _).2 ⟨x, hx, rfl⟩
    unfold newP
    rw [this]; simp
  · rfl

set_option maxRecDepth 100000 in
set_option maxHeartbeats 2000000 in
theorem fnNewItems_walk (a : Option Addr) (len cap : Nat) (zs : List Int) (w : World) (h : IsRow .u8 w a len cap zs) :
    Calls Try.prog 12 #[.slice a len cap] w fun e w' => e = .returned (.bool true) ∧ Below w.heap.size w w' := by
  have H := Lib.hid h
  clear h
  by_cases hl : 1048576 < len
  · go_enter Try.func12, Try.ntmps12
    go_wp2
    go_ret
    exact ⟨rfl, Below.refl _ _⟩
  · go_enter Try.func12, Try.ntmps12
    go_wp2_with fail
    refine (drawNewItems_any a len cap zs _ H.out).mono ?_
    rintro e w1 ⟨⟨q, n, qc, l, q', n', qc', l', rfl, ⟨own, hl1, hn, hs⟩, ⟨own', hl1', hn', hs'⟩⟩, hb⟩
    have hz : ∀ i ∈ l, i.key.size ≤ maxLen ∧ i.title.size ≤ maxLen ∧ i.body.size ≤ maxLen := fun i hi => okI_sz (hs i hi)
    have hz' : ∀ i ∈ l', i.key.size ≤ maxLen ∧ i.title.size ≤ maxLen ∧ i.body.size ≤ maxLen := fun i hi => okI_sz (hs' i hi)
    have hc := own_cap own
    have hc' := own_cap own'
    have E1 := Lib.hid (ItAt.own own hl1)
    have E1' := Lib.hid (ItAt.own own' hl1')
    have hml : n ≤ maxLen := by unfold maxLen; omega
    have hml' : n' ≤ maxLen := by unfold maxLen; omega
    have ci := Lib.hid (fun w e1 e2 => impl_newItems (some ⟨q, 0, none⟩) n qc l (some ⟨q', 0, none⟩) n' qc' l' w e1 hl1 hc.1 hc.2 hz e2 hl1' hc'.1 hc'.2 hz')
    have cs := Lib.hid (fun w e1 e2 => spec_newItems (some ⟨q, 0, none⟩) n qc l (some ⟨q', 0, none⟩) n' qc' l' w e1 hl1 hml hz e2 hl1' hml' hz')
    have cb := Lib.hid (fun w e1 => impl_newItems (some ⟨q, 0, none⟩) n qc l (some ⟨q, 0, none⟩) n qc l w e1 hl1 hc.1 hc.2 hz e1 hl1 hc.1 hc.2 hz)
    have wi := Lib.hid (fun key w e1 => impl_itemWith (some ⟨q, 0, none⟩) n qc l key w e1 hl1 hc.1 hc.2 hz)
    have wi' := Lib.hid (fun key w e1 => impl_itemWith (some ⟨q', 0, none⟩) n' qc' l' key w e1 hl1' hc'.1 hc'.2 hz')
    have HM := Lib.hid (fun x (h : x ∈ newI l l') => newI_mem h)
    have h8 := Lib.hid (selI_len newP l l')
    unfold ItsGiven at ci cs cb
    rw [newI_self] at cb
    obtain ⟨r, hr⟩ : ∃ r, r = newI l l' := ⟨_, rfl⟩
    have h8r : r.length ≤ 8 := by rw [hr]; exact h8.out
    rw [← hr] at ci cs HM
    clear own own' hl1 hl1' hs hs' hz hz' h8 hr
    go_wp2_with fail
    refine (ci.out _ E1.out E1'.out).mono ?_
    rintro e w2 ⟨⟨ax, nx, cx, rfl, ox, hlx, _, _⟩, hb2⟩
    have D2 := Lib.hid hb2
    have EX := Lib.hid (ItAt.own' ox hlx)
    have HL := Lib.hid hlx
    have n8 : nx ≤ 8 := by omega
    clear ox hlx hb2
    go_wp2_with fail
    refine (cs.out _ (E1.out.old D2.out) (E1'.out.old D2.out)).mono ?_
    rintro e w3 ⟨⟨ay, ny, cy, rfl, oy, hly, _, _⟩, hb3⟩
    have D3 := Lib.hid (D2.out.trans (hb3.mono D2.out.size))
    have hyx : ny = nx := by rw [← hly]; exact HL.out
    subst hyx
    have EX3 := Lib.hid (EX.out.old hb3)
    have EY3 := Lib.hid (ItAt.own' oy hly)
    clear oy hly hb3
    go_wp2_with fail
    refine (sameFeed_any _ _ ny cx cy r _ EX3.out EY3.out HL.out (by unfold maxLen; omega)).mono ?_
    rintro e w4 ⟨rfl, hb4⟩
    have D4 := Lib.hid (D3.out.trans (hb4.mono D3.out.size))
    have EX4 := Lib.hid (EX3.out.old hb4)
    clear hb4 EY3 EX3
    go_wp2
    go_loopw [6] (fun i wr => ∃ k : Nat, i = .int .i64 k ∧ k ≤ ny ∧ Below w4.heap.size w4 wr) (fun i _ => ny - (intOf i).toNat)
    case atStart => exact ⟨0, rfl, by omega, Below.refl _ _⟩
    case round =>
      obtain ⟨k, rfl, hk, hbr⟩ := hrel
      have D5 := Lib.hid (D4.out.trans (hbr.mono D4.out.size))
      by_cases hlt : k < ny
      · have hkl : k < r.length := by rw [HL.out]; exact hlt
        obtain ⟨b, off, ha, h1, h2, h3, h4⟩ := EX4.out.old hbr k hkl
        obtain ⟨hw0, hw1⟩ := HM.out _ (List.getElem_mem hkl)
        have c1 := Lib.hid (fun w e => wi.out r[k].key w e)
        have c2 := Lib.hid (fun w e => wi'.out r[k].key w e)
        rw [hw0] at c1
        rw [hw1] at c2
        have hlo := cell_lt' h1
        generalize r[k] = x at *
        subst ha
        have c1 : Hid (∀ w, ItAt w (some ⟨q, 0, none⟩) l → Calls Try.prog 32 #[.slice (some ⟨q, 0, none⟩) n qc, .string x.key] w fun e w' => e = .returned (.tuple #[.agg #[.string ⟨#[]⟩, .string ⟨#[]⟩, .string ⟨#[]⟩, .int .i64 0], .bool false]) ∧ Below w.heap.size w w') := c1
        have c2 : Hid (∀ w, ItAt w (some ⟨q', 0, none⟩) l' → Calls Try.prog 32 #[.slice (some ⟨q', 0, none⟩) n' qc', .string x.key] w fun e w' => e = .returned (.tuple #[.agg #[.string x.key, .string x.title, .string x.body, .int .i64 x.day], .bool true]) ∧ Below w.heap.size w w') := c2
        clear hw0 hw1
        go_wp2_with fail
        refine (c1.out _ (E1.out.old D5.out)).mono ?_
        rintro e w6 ⟨rfl, hb6⟩
        have hw6 := hb6.alloc hb6.size (.cells #[.string ⟨#[]⟩, .string ⟨#[]⟩, .string ⟨#[]⟩, .int .i64 0] 34)
        have D6 := D5.out.trans (hw6.mono D5.out.size)
        have k1 := (hw6.cell (p := ⟨b, off + k * 4, none⟩) hlo).trans h1
        go_wp2_with fail
        refine (c2.out _ (E1'.out.old D6)).mono ?_
        rintro e w7 ⟨rfl, hb7⟩
        have hw7 := hw6.trans (hb7.mono hw6.size)
        have hw7a := hw7.alloc hw7.size (.cells #[.string x.key, .string x.title, .string x.body, .int .i64 x.day] 34)
        have m1 := (hw7a.cell (p := ⟨b, off + k * 4, none⟩) hlo).trans h1
        have m2 := (hw7a.cell (p := ⟨b, off + k * 4 + 1, none⟩) hlo).trans h2
        have m3 := (hw7a.cell (p := ⟨b, off + k * 4 + 2, none⟩) hlo).trans h3
        have m4 := (hw7a.cell (p := ⟨b, off + k * 4 + 3, none⟩) hlo).trans h4
        have hbz := hbr.trans (hw7a.mono hbr.size)
        clear h1 h2 h3 h4 k1
        have hq1 := fun W => neq_item x x W
        have hq2 := fun W o p => guard_item .neq o p #[.string x.key, .string x.title, .string x.body, .int .i64 x.day] #[.string x.key, .string x.title, .string x.body, .int .i64 x.day] W
        rw [decide_eq_true (rfl : x = x)] at hq1
        simp only [Bool.not_true] at hq1
        go_wp2_with fail
        go_quiet (fail)
        go_wp2
        go_roundw
        case rel => exact ⟨k + 1, by go_num, by omega, below_drewN' hbz _⟩
        case measure => simp [intOf]; omega
      · go_wp2_with fail
        refine (cb.out _ (E1.out.old D5.out)).mono ?_
        rintro e w6 ⟨⟨az, nz, cz, rfl, _, hlz, _, _⟩, hb6⟩
        have hnz : nz = 0 := hlz.symm
        subst hnz
        have D6 := D5.out.trans (hb6.mono D5.out.size)
        go_wp2_with fail
        refine (alive_any _).mono ?_
        rintro e w' ⟨rfl, rfl⟩
        go_wp2
        go_ret
        exact ⟨rfl, hb.trans (D6.mono hb.size)⟩

theorem fnNewItems_own : ownKnob Try.prog.godebug = none := by kernel_rfl
theorem fnNewItems_laidOut : laidOutB Try.prog = true := by kernel_rfl
set_option maxRecDepth 100000 in
theorem fnNewItems_lifted (os : Os) (started : os.Started) (H : Type) (enc : TypeId × Value → H) :
    ReturnsInHanded {} Try.checked os 12 .any (Rows.fnNewItemsSpec.pre6 enc Try.prog Try.f12 Rows.fnNewItemsRow.domain false) (Rows.fnNewItemsSpec.post enc Try.prog Try.f12 false true false false) := by
  refine returnsInHanded_of_change (C := Try.checked) fnNewItems_own started (by kernel_rfl) Try.func12
    (ChangeSpec.witness6 (enc := enc) (C := Try.checked) false ⟨#[], #[.slice none 0 0], []⟩ 8 (by kernel_rfl) (by kernel_rfl) (by kernel_rfl) (by kernel_rfl)) ?_
  intro W base args ds gs before hval0 hW hcnd _
  have hval : ∀ (j : Nat) t v, Try.f12.params[j]? = some t → args[j]? = some v → Value.okWide Try.prog W .any base t v := hval0
  have hW' := hW
  obtain ⟨p, q, hA0, hV, rfl, hfz, hnd⟩ := hW
  have hA : DataW.TrodAll enc Try.prog W 0 (fun _ => true) true Try.f12.params.toList args.toList ds p := hA0
  rw [Try.params12] at hA hval
  obtain ⟨v0, vs0, d0, ds0, p0, q0, hargs0, rfl, rfl, h0, r0⟩ := trodAll_cons hA
  obtain ⟨rfl, rfl, rfl⟩ := trodAll_nil r0
  obtain rfl : args = #[v0] := by cases args; simp_all
  obtain ⟨rfl, rfl⟩ := trodVars_none hV
  have k0 := h0
  have lt0 : ∀ x ∈ p0, x.block < W.heap.size := by obtain ⟨m, hm⟩ := k0; exact DataW.trod_lt m _ _ _ hm
  obtain ⟨a0, len0, cap0, rfl⟩ := okWide_slice Try.underlying37 (hval 0 37 v0 rfl rfl)
  obtain ⟨z0, w0⟩ : ∃ zs, IsRow .u8 W a0 len0 cap0 zs := by
    obtain ⟨fuel, hf⟩ := h0
    rcases open_ints Try.underlying37 Try.underlying5 (by kernel_rfl) hf with ⟨hcs, _⟩ | ⟨x, l, c, zs, hcs, _, hl, hm, hz, _, hcell, hwz⟩
    · simp [Value.cells] at hcs
      obtain ⟨rfl, rfl, rfl⟩ := hcs
      exact ⟨[], .inl ⟨rfl, rfl, rfl, rfl⟩⟩
    · simp [Value.cells] at hcs
      obtain ⟨rfl, rfl, rfl⟩ := hcs
      exact ⟨zs, .inr ⟨_, rfl, hl, hm, by simpa using hz, hcell, hwz⟩⟩
  clear hA0 hval0
  refine (fnNewItems_walk a0 len0 cap0 z0 W w0).mono fun e W' ⟨he, bel⟩ => ?_
  subst he
  exact ⟨_, rfl, _, _, _, [], _, [], hW', trodAll_mk1 (shut_bool Try.underlying4 _), (trodAll_cons_mk (Below.trod fnNewItems_laidOut (by kernel_rfl) (of_decide_eq_true (by kernel_rfl)) k0 bel lt0) trodAll_mk0), rfl, bel.frame _, fun h => by cases h⟩

theorem fnNewItems_closed : joinedFacts Try.pinned.checked.prog 12 Try.f12 Rows.fnNewItemsSpec Rows.fnNewItemsRow = true := by
  show joinedFacts Try.prog 12 Try.f12 Rows.fnNewItemsSpec Rows.fnNewItemsRow = true
  simp only [joinedFacts, Bool.and_eq_true]
  repeat' apply And.intro
  all_goals first | with_reducible exact head_may | (rw [head_final]; kernel_rfl) | (rw [head_make]; kernel_rfl) | as_aux_lemma => kernel_rfl
theorem fnNewItems_over : Rows.fnNewItemsRow.holds Try.pinned (OpenSpec.ofChange Rows.fnNewItemsSpec) :=
  OpenClaim.holds_of_wide 12 Try.f12 rfl rfl rfl rfl rfl rfl rfl ⟨rfl, rfl, rfl, rfl, rfl⟩ rfl rfl rfl rfl rfl (by kernel_rfl) Try.func12 fnNewItems_closed
    (of_decide_eq_true (by kernel_rfl)) (by unfold Func.isWrapper; first | (rw [if_pos (by decide +kernel)]; kernel_rfl) | (rw [if_neg (by decide +kernel)]; exact ⟨rfl, rfl⟩))
    (fun os started H enc _ => fnNewItems_lifted os started H enc)

/-- The statement. -/
theorem fnNewItems_holds : Rows.FnNewItemsSaid := fnNewItems_over

end Go.Proofs.Ytldllhfadihmeaa
