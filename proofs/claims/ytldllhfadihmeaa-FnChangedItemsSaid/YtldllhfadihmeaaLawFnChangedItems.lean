/- The law FnChangedItems: for every input the call returns true, and the arguments read as before. Condition: none. -/
import Derived.Test.YtldllhfadihmeaaRows
import Derived.Test.YtldllhfadihmeaaHead
import Derived.Test.YtldllhfadihmeaaDrawNC
import Derived.Test.YtldllhfadihmeaaSame
import Derived.Test.YtldllhfadihmeaaChgS
import Derived.Test.YtldllhfadihmeaaChgW
import Derived.Test.YtldllhfadihmeaaNewS
import Derived.Test.YtldllhfadihmeaaIwW
import Derived.Test.YtldllhfadihmeaaFvW
import Derived.Deep.QuietTactic
import Derived.BigQuiet
import Derived.WalkKit
import Derived.WalkSpells
import Derived.WalkLawsBesides
import Derived.ProofKit
import Derived.OpenShut
import Derived.ShutString
import Derived.ChangeOld
import Derived.Below
import Derived.Lib.Hide
namespace Go.Proofs.Ytldllhfadihmeaa
open Go.ChangeShapes Go.WideShapes Go.ChangeAt Go.RowKit
open Go.ChangeMaps (open_string shut_string)
set_option linter.unusedVariables false

theorem chgI_mem {l l' : List It} {x : It} (h : x ∈ chgI l l') : (withI l x.key).isSome = true ∧ dI (withI l x.key) ≠ x := by
  unfold chgI selI at h
  split at h
  · rename_i hv
    rw [List.mem_filter] at h
    obtain ⟨_, h2⟩ := h
    rw [chgP_with hv.1, Bool.and_eq_true] at h2
    exact ⟨h2.1, by simpa using h2.2⟩
  · simp at h
/-- The items that are as before. -/
def smP (a : List It) (i : It) : Bool := (withI a i.key).isSome && decide (dI (withI a i.key) = i)
theorem three_parts {a : List It} (hv : feedV a = true) : ∀ b : List It, (b.filter (chgP a)).length + (b.filter (newP a)).length + b.countP (smP a) = b.length
  | [] => rfl
  | x :: b => by
    have ih := three_parts hv b
    have h1 := chgP_with (i := x) hv
    have h2 := newP_with (i := x) hv
    have h3 : smP a x = ((withI a x.key).isSome && decide (dI (withI a x.key) = x)) := rfl
    rw [List.filter_cons, List.filter_cons, List.countP_cons, h1, h2, h3]
    cases (withI a x.key).isSome <;> cases decide (dI (withI a x.key) = x) <;> simp <;> omega
/-- What a round counts. -/
def SmTo (a b : List It) (k c : Nat) : Prop := c = (b.take k).countP (smP a)
theorem SmTo.zero (a b : List It) : SmTo a b 0 0 := by simp [SmTo]
theorem SmTo.yes {a b : List It} {k c : Nat} (h : SmTo a b k c) (hk : k < b.length) (hq : smP a b[k] = true) : SmTo a b (k + 1) (c + 1) := by
  unfold SmTo at *
  rw [take_snocI b k hk, List.countP_append, ← h]; simp [hq]
theorem SmTo.no {a b : List It} {k c : Nat} (h : SmTo a b k c) (hk : k < b.length) (hq : smP a b[k] = false) : SmTo a b (k + 1) c := by
  unfold SmTo at *
  rw [take_snocI b k hk, List.countP_append, ← h]; simp [hq]
theorem SmTo.done {a b : List It} {k c : Nat} (h : SmTo a b k c) (hk : b.length ≤ k) : c = b.countP (smP a) := by
  unfold SmTo at h
  rwa [List.take_of_length_le hk] at h

set_option maxRecDepth 100000 in
set_option maxHeartbeats 4000000 in
theorem fnChangedItems_walk (a : Option Addr) (len cap : Nat) (zs : List Int) (w : World) (h : IsRow .u8 w a len cap zs) :
    Calls Try.prog 14 #[.slice a len cap] w fun e w' => e = .returned (.bool true) ∧ Below w.heap.size w w' := by
  have H := Lib.hid h
  clear h
  by_cases hl : 1048576 < len
  · go_enter Try.func14, Try.ntmps14
    go_wp2
    go_ret
    exact ⟨rfl, Below.refl _ _⟩
  · go_enter Try.func14, Try.ntmps14
    go_wp2_with fail
    refine (drawChangedItems_any a len cap zs _ H.out).mono ?_
    rintro e w1 ⟨⟨q, n, qc, l, q', n', qc', l', rfl, ⟨own, hl1, hn, hs⟩, ⟨own', hl1', hn', hs'⟩⟩, hb⟩
    have hz : ∀ i ∈ l, i.key.size ≤ maxLen ∧ i.title.size ≤ maxLen ∧ i.body.size ≤ maxLen := fun i hi => okI_sz (hs i hi)
    have hz' : ∀ i ∈ l', i.key.size ≤ maxLen ∧ i.title.size ≤ maxLen ∧ i.body.size ≤ maxLen := fun i hi => okI_sz (hs' i hi)
    have hc := own_cap own
    have hc' := own_cap own'
    have E1 := Lib.hid (ItAt.own own hl1)
    have E1' := Lib.hid (ItAt.own own' hl1')
    have hml : n ≤ maxLen := by unfold maxLen; omega
    have hml' : n' ≤ maxLen := by unfold maxLen; omega
    have ci := Lib.hid (fun w e1 e2 => impl_changedItems (some ⟨q, 0, none⟩) n qc l (some ⟨q', 0, none⟩) n' qc' l' w e1 hl1 hc.1 hc.2 hz e2 hl1' hc'.1 hc'.2 hz')
    have cs := Lib.hid (fun w e1 e2 => spec_changedItems (some ⟨q, 0, none⟩) n qc l (some ⟨q', 0, none⟩) n' qc' l' w e1 hl1 hml hz e2 hl1' hml' hz')
    have cn := Lib.hid (fun w e1 e2 => impl_newItems (some ⟨q, 0, none⟩) n qc l (some ⟨q', 0, none⟩) n' qc' l' w e1 hl1 hc.1 hc.2 hz e2 hl1' hc'.1 hc'.2 hz')
    have cf := Lib.hid (fun w e1 => impl_feedValid (some ⟨q, 0, none⟩) n qc l w e1 hl1 hc.1 hc.2 hz)
    have cf' := Lib.hid (fun w e1 => impl_feedValid (some ⟨q', 0, none⟩) n' qc' l' w e1 hl1' hc'.1 hc'.2 hz')
    have wi := Lib.hid (fun key w e1 => impl_itemWith (some ⟨q, 0, none⟩) n qc l key w e1 hl1 hc.1 hc.2 hz)
    have HM := Lib.hid (fun x (h : x ∈ chgI l l') => chgI_mem h)
    have h8 := Lib.hid (selI_len chgP l l')
    have h8n := Lib.hid (selI_len newP l l')
    have HL' := Lib.hid hl1'
    unfold ItsGiven at ci cs cn
    have HBad : Hid (feedV l = false ∨ feedV l' = false → chgI l l' = []) := fun h => selI_bad h
    have HSum : Hid (feedV l = true → feedV l' = true → (chgI l l').length + (newI l l').length + l'.countP (smP l) = n') := fun h1 h2 => by
      rw [show chgI l l' = _ from selI_ok h1 h2, show newI l l' = _ from selI_ok h1 h2, three_parts h1, hl1']
    obtain ⟨r, hr⟩ : ∃ r, r = chgI l l' := ⟨_, rfl⟩
    obtain ⟨r2, hr2⟩ : ∃ r2, r2 = newI l l' := ⟨_, rfl⟩
    have h8r : r.length ≤ 8 := by rw [hr]; exact h8.out
    have h8r2 : r2.length ≤ 8 := by rw [hr2]; exact h8n.out
    rw [← hr] at ci cs HM HBad HSum
    rw [← hr2] at cn HSum
    clear own own' hl1 hl1' hs hs' hz hz' h8 h8n hr hr2
    go_wp2_with fail
    refine (ci.out _ E1.out E1'.out).mono ?_
    rintro e w2 ⟨⟨ax, nx, cx, rfl, ox, hlx, _, _⟩, hb2⟩
    have D2 := Lib.hid hb2
    have EX := Lib.hid (ItAt.own' ox hlx)
    have HL := Lib.hid hlx
    have n8 : nx ≤ 8 := by omega
    clear ox hlx hb2
    go_wp2_with fail
    refine (cs.out _ (E1.out.old D2.out) (E1'.out.old D2.out)).mono ?_
    rintro e w3 ⟨⟨ay, ny, cy, rfl, oy, hly, _, _⟩, hb3⟩
    have D3 := Lib.hid (D2.out.trans (hb3.mono D2.out.size))
    have hyx : ny = nx := by rw [← hly]; exact HL.out
    subst hyx
    have EX3 := Lib.hid (EX.out.old hb3)
    have EY3 := Lib.hid (ItAt.own' oy hly)
    clear oy hly hb3
    go_wp2_with fail
    refine (sameFeed_any _ _ ny cx cy r _ EX3.out EY3.out HL.out (by unfold maxLen; omega)).mono ?_
    rintro e w4 ⟨rfl, hb4⟩
    have D4 := Lib.hid (D3.out.trans (hb4.mono D3.out.size))
    have EX4 := Lib.hid (EX3.out.old hb4)
    clear hb4 EY3 EX3
    go_wp2_with fail
    refine (cf.out _ (E1.out.old D4.out)).mono ?_
    rintro e w5 ⟨rfl, hb5⟩
    have D5 := Lib.hid (D4.out.trans (hb5.mono D4.out.size))
    have EX5 := Lib.hid (EX4.out.old hb5)
    cases hv : feedV l
    · have hr0 := HBad.out (.inl hv)
      have hny : ny = 0 := by rw [← HL.out, hr0]; rfl
      subst hny
      go_wp2_with fail
      refine (alive_any _).mono ?_
      rintro e w' ⟨rfl, rfl⟩
      go_wp2
      go_ret
      exact ⟨rfl, hb.trans (D5.out.mono hb.size)⟩
    · go_wp2_with fail
      refine (cf'.out _ (E1'.out.old D5.out)).mono ?_
      rintro e w6 ⟨rfl, hb6⟩
      have D6 := Lib.hid (D5.out.trans (hb6.mono D5.out.size))
      have EX6 := Lib.hid (EX5.out.old hb6)
      cases hv' : feedV l'
      · have hr0 := HBad.out (.inr hv')
        have hny : ny = 0 := by rw [← HL.out, hr0]; rfl
        subst hny
        go_wp2_with fail
        refine (alive_any _).mono ?_
        rintro e w' ⟨rfl, rfl⟩
        go_wp2
        go_ret
        exact ⟨rfl, hb.trans (D6.out.mono hb.size)⟩
      · have HS2 := Lib.hid (HSum.out hv hv')
        clear HSum HBad hv hv' cf cf' ci cs hb5 hb6
        go_wp2
        go_loopw [6, 7] (fun s i wr => ∃ c k : Nat, s = .int .i64 c ∧ i = .int .i64 k ∧ k ≤ n' ∧ c ≤ k ∧ Hid (SmTo l l' k c) ∧ Below w6.heap.size w6 wr) (fun _ i _ => n' - (intOf i).toNat)
        case atStart => exact ⟨0, 0, rfl, rfl, by omega, by omega, SmTo.zero _ _, Below.refl _ _⟩
        case round =>
          obtain ⟨c, k, rfl, rfl, hk, hck, hst, hbr⟩ := hrel
          have D7 := Lib.hid (D6.out.trans (hbr.mono D6.out.size))
          by_cases hlt : k < n'
          · have hkl : k < l'.length := by rw [HL'.out]; exact hlt
            obtain ⟨b, off, ha, h1, h2, h3, h4⟩ := E1'.out.old D7.out k hkl
            have c1 := Lib.hid (fun w e => wi.out l'[k].key w e)
            have HY := Lib.hid (fun hq => hst.out.yes hkl hq)
            have HNo := Lib.hid (fun hq => hst.out.no hkl hq)
            have hsm : smP l l'[k] = ((withI l l'[k].key).isSome && decide (dI (withI l l'[k].key) = l'[k])) := rfl
            have hlo := cell_lt' h1
            generalize l'[k] = x at *
            injection ha with ha
            injection ha with ha1 ha2
            subst ha1
            subst ha2
            simp only [Nat.zero_add] at h1 h2 h3 h4
            clear hst
            generalize hoy : dI (withI l x.key) = y at *
            generalize (withI l x.key).isSome = ok at *
            clear hoy
            go_wp2_with fail
            refine (c1.out _ (E1.out.old D7.out)).mono ?_
            rintro e w8 ⟨rfl, hb8⟩
            have hw8 := hb8.alloc hb8.size (.cells #[.string y.key, .string y.title, .string y.body, .int .i64 y.day] 34)
            have hbz := hbr.trans (hw8.mono hbr.size)
            have m1 := (hw8.cell (p := ⟨q', k * 4, none⟩) hlo).trans h1
            have m2 := (hw8.cell (p := ⟨q', k * 4 + 1, none⟩) hlo).trans h2
            have m3 := (hw8.cell (p := ⟨q', k * 4 + 2, none⟩) hlo).trans h3
            have m4 := (hw8.cell (p := ⟨q', k * 4 + 3, none⟩) hlo).trans h4
            clear h1 h2 h3 h4
            cases ok
            · have HO := Lib.hid (HNo.out hsm)
              go_wp2_with fail
              go_quiet (fail)
              go_wp2
              go_roundw
              case rel => exact ⟨c, k + 1, rfl, by go_num, by omega, by omega, HO.out, below_drewN' hbz _⟩
              case measure => simp [intOf]; omega
            · have hq1 := fun W => eql_item y x W
              have hq2 := fun W o p => guard_item .eql o p #[.string y.key, .string y.title, .string y.body, .int .i64 y.day] #[.string x.key, .string x.title, .string x.body, .int .i64 x.day] W
              rw [Bool.true_and] at hsm
              generalize decide (y = x) = bb at *
              go_wp2_with fail
              go_quiet (fail)
              cases bb
              · have HO := Lib.hid (HNo.out hsm)
                go_wp2
                go_roundw
                case rel => exact ⟨c, k + 1, rfl, by go_num, by omega, by omega, HO.out, below_drewN' hbz _⟩
                case measure => simp [intOf]; omega
              · have HO := Lib.hid (HY.out hsm)
                go_wp2
                go_roundw
                case rel => exact ⟨c + 1, k + 1, by go_num, by go_num, by omega, by omega, HO.out, below_drewN' hbz _⟩
                case measure => simp [intOf]; omega
          · have hcc := hst.out.done (by rw [HL'.out]; omega)
            have EX7 := Lib.hid (EX6.out.old hbr)
            have hc9 : c ≤ 9 := by omega
            have HS3 : Hid (ny + r2.length + c = n') := by
              have := HS2.out
              rw [HL.out, ← hcc] at this
              exact this
            clear hst hcc
            go_wp2
            go_loopw [10] (fun i wx => ∃ k2 : Nat, i = .int .i64 k2 ∧ k2 ≤ ny ∧ Below wr.heap.size wr wx) (fun i _ => ny - (intOf i).toNat)
            case atStart => exact ⟨0, rfl, by omega, Below.refl _ _⟩
            case round =>
              obtain ⟨k2, rfl, hk2, hbx⟩ := hrel
              have D8 := Lib.hid (D7.out.trans (hbx.mono D7.out.size))
              by_cases hlt2 : k2 < ny
              · have hkl : k2 < r.length := by rw [HL.out]; exact hlt2
                obtain ⟨b, off, ha, h1, h2, h3, h4⟩ := EX7.out.old hbx k2 hkl
                obtain ⟨hw0, hw1⟩ := HM.out _ (List.getElem_mem hkl)
                have c1 := Lib.hid (fun w e => wi.out r[k2].key w e)
                have hlo := cell_lt' h1
                generalize r[k2] = x at *
                subst ha
                rw [hw0] at c1
                generalize hoy : dI (withI l x.key) = y at *
                clear hoy hw0
                go_wp2_with fail
                refine (c1.out _ (E1.out.old D8.out)).mono ?_
                rintro e w8 ⟨rfl, hb8⟩
                have hw8 := hb8.alloc hb8.size (.cells #[.string y.key, .string y.title, .string y.body, .int .i64 y.day] 34)
                have hbz := hbx.trans (hw8.mono hbx.size)
                have m1 := (hw8.cell (p := ⟨b, off + k2 * 4, none⟩) hlo).trans h1
                have m2 := (hw8.cell (p := ⟨b, off + k2 * 4 + 1, none⟩) hlo).trans h2
                have m3 := (hw8.cell (p := ⟨b, off + k2 * 4 + 2, none⟩) hlo).trans h3
                have m4 := (hw8.cell (p := ⟨b, off + k2 * 4 + 3, none⟩) hlo).trans h4
                clear h1 h2 h3 h4
                have hq1 := fun W => eql_item y x W
                have hq2 := fun W o p => guard_item .eql o p #[.string y.key, .string y.title, .string y.body, .int .i64 y.day] #[.string x.key, .string x.title, .string x.body, .int .i64 x.day] W
                rw [decide_eq_false hw1] at hq1
                go_wp2_with fail
                go_quiet (fail)
                go_wp2
                go_roundw
                case rel => exact ⟨k2 + 1, by go_num, by omega, below_drewN' hbz _⟩
                case measure => simp [intOf]; omega
              · go_wp2_with fail
                refine (cn.out _ (E1.out.old D8.out) (E1'.out.old D8.out)).mono ?_
                rintro e w9 ⟨⟨az, nz, cz, rfl, _, hlz, _, _⟩, hb9⟩
                have D9 := D8.out.trans (hb9.mono D8.out.size)
                have hsum : ny + nz + c = n' := by rw [← hlz]; exact HS3.out
                have hbeq : ((ny : Int) + (nz : Int) + (c : Int) == (n' : Int)) = true := by rw [beq_iff_eq]; omega
                go_wp2
                go_ret
                exact ⟨rfl, hb.trans (D9.mono hb.size)⟩

theorem fnChangedItems_own : ownKnob Try.prog.godebug = none := by kernel_rfl
theorem fnChangedItems_laidOut : laidOutB Try.prog = true := by kernel_rfl
set_option maxRecDepth 100000 in
theorem fnChangedItems_lifted (os : Os) (started : os.Started) (H : Type) (enc : TypeId × Value → H) :
    ReturnsInHanded {} Try.checked os 14 .any (Rows.fnChangedItemsSpec.pre6 enc Try.prog Try.f14 Rows.fnChangedItemsRow.domain false) (Rows.fnChangedItemsSpec.post enc Try.prog Try.f14 false true false false) := by
  refine returnsInHanded_of_change (C := Try.checked) fnChangedItems_own started (by kernel_rfl) Try.func14
    (ChangeSpec.witness6 (enc := enc) (C := Try.checked) false ⟨#[], #[.slice none 0 0], []⟩ 8 (by kernel_rfl) (by kernel_rfl) (by kernel_rfl) (by kernel_rfl)) ?_
  intro W base args ds gs before hval0 hW hcnd _
  have hval : ∀ (j : Nat) t v, Try.f14.params[j]? = some t → args[j]? = some v → Value.okWide Try.prog W .any base t v := hval0
  have hW' := hW
  obtain ⟨p, q, hA0, hV, rfl, hfz, hnd⟩ := hW
  have hA : DataW.TrodAll enc Try.prog W 0 (fun _ => true) true Try.f14.params.toList args.toList ds p := hA0
  rw [Try.params14] at hA hval
  obtain ⟨v0, vs0, d0, ds0, p0, q0, hargs0, rfl, rfl, h0, r0⟩ := trodAll_cons hA
  obtain ⟨rfl, rfl, rfl⟩ := trodAll_nil r0
  obtain rfl : args = #[v0] := by cases args; simp_all
  obtain ⟨rfl, rfl⟩ := trodVars_none hV
  have k0 := h0
  have lt0 : ∀ x ∈ p0, x.block < W.heap.size := by obtain ⟨m, hm⟩ := k0; exact DataW.trod_lt m _ _ _ hm
  obtain ⟨a0, len0, cap0, rfl⟩ := okWide_slice Try.underlying37 (hval 0 37 v0 rfl rfl)
  obtain ⟨z0, w0⟩ : ∃ zs, IsRow .u8 W a0 len0 cap0 zs := by
    obtain ⟨fuel, hf⟩ := h0
    rcases open_ints Try.underlying37 Try.underlying5 (by kernel_rfl) hf with ⟨hcs, _⟩ | ⟨x, l, c, zs, hcs, _, hl, hm, hz, _, hcell, hwz⟩
    · simp [Value.cells] at hcs
      obtain ⟨rfl, rfl, rfl⟩ := hcs
      exact ⟨[], .inl ⟨rfl, rfl, rfl, rfl⟩⟩
    · simp [Value.cells] at hcs
      obtain ⟨rfl, rfl, rfl⟩ := hcs
      exact ⟨zs, .inr ⟨_, rfl, hl, hm, by simpa using hz, hcell, hwz⟩⟩
  clear hA0 hval0
  refine (fnChangedItems_walk a0 len0 cap0 z0 W w0).mono fun e W' ⟨he, bel⟩ => ?_
  subst he
  exact ⟨_, rfl, _, _, _, [], _, [], hW', trodAll_mk1 (shut_bool Try.underlying4 _), (trodAll_cons_mk (Below.trod fnChangedItems_laidOut (by kernel_rfl) (of_decide_eq_true (by kernel_rfl)) k0 bel lt0) trodAll_mk0), rfl, bel.frame _, fun h => by cases h⟩

theorem fnChangedItems_closed : joinedFacts Try.pinned.checked.prog 14 Try.f14 Rows.fnChangedItemsSpec Rows.fnChangedItemsRow = true := by
  show joinedFacts Try.prog 14 Try.f14 Rows.fnChangedItemsSpec Rows.fnChangedItemsRow = true
  simp only [joinedFacts, Bool.and_eq_true]
  repeat' apply And.intro
  all_goals first | with_reducible exact head_may | (rw [head_final]; kernel_rfl) | (rw [head_make]; kernel_rfl) | as_aux_lemma => kernel_rfl
theorem fnChangedItems_over : Rows.fnChangedItemsRow.holds Try.pinned (OpenSpec.ofChange Rows.fnChangedItemsSpec) :=
  OpenClaim.holds_of_wide 14 Try.f14 rfl rfl rfl rfl rfl rfl rfl ⟨rfl, rfl, rfl, rfl, rfl⟩ rfl rfl rfl rfl rfl (by kernel_rfl) Try.func14 fnChangedItems_closed
    (of_decide_eq_true (by kernel_rfl)) (by unfold Func.isWrapper; first | (rw [if_pos (by decide +kernel)]; kernel_rfl) | (rw [if_neg (by decide +kernel)]; exact ⟨rfl, rfl⟩))
    (fun os started H enc _ => fnChangedItems_lifted os started H enc)

/-- The statement. -/
theorem fnChangedItems_holds : Rows.FnChangedItemsSaid := fnChangedItems_over

end Go.Proofs.Ytldllhfadihmeaa
