/- The law FnItemWith: for every input the call returns true, and the arguments read as before. Condition: none. -/
import Derived.Test.YtldllhfadihmeaaRows
import Derived.Test.YtldllhfadihmeaaHead
import Derived.Test.YtldllhfadihmeaaDrawX
import Derived.Test.YtldllhfadihmeaaIwW
import Derived.Test.YtldllhfadihmeaaIwS
import Derived.Test.YtldllhfadihmeaaCmpI
import Derived.Deep.QuietTactic
import Derived.BigQuiet
import Derived.WalkKit
import Derived.WalkSpells
import Derived.WalkLawsBesides
import Derived.ProofKit
import Derived.OpenShut
import Derived.ShutString
import Derived.ChangeOld
import Derived.Below
import Derived.Lib.Hide
namespace Go.Proofs.Ytldllhfadihmeaa
open Go.ChangeShapes Go.WideShapes Go.ChangeAt Go.RowKit
open Go.ChangeMaps (open_string shut_string)
set_option linter.unusedVariables false

theorem withI_miss {l : List It} {k : Nat} {key : ByteArray} (h : hasK (l.take k) key = false) (hk : l.length ≤ k) : withI l key = none := by
  rw [List.take_of_length_le hk] at h
  exact withI_none h
theorem dI_none {l : List It} {key : ByteArray} (h : withI l key = none) : dI (withI l key) = ⟨⟨#[]⟩, ⟨#[]⟩, ⟨#[]⟩, 0⟩ := by rw [h]; rfl

set_option maxRecDepth 100000 in
set_option maxHeartbeats 2000000 in
theorem fnItemWith_walk (a : Option Addr) (len cap : Nat) (zs : List Int) (w : World) (h : IsRow .u8 w a len cap zs) :
    Calls Try.prog 9 #[.slice a len cap] w fun e w' => e = .returned (.bool true) ∧ Below w.heap.size w w' := by
  have H := Lib.hid h
  clear h
  by_cases hl : 1048576 < len
  · go_enter Try.func9, Try.ntmps9
    go_wp2
    go_ret
    exact ⟨rfl, Below.refl _ _⟩
  · go_enter Try.func9, Try.ntmps9
    go_wp2_with fail
    refine (drawItemWith_any a len cap zs _ H.out).mono ?_
    rintro e w1 ⟨⟨q, n, qc, l, key, rfl, hks, hown, hl, hn, hs⟩, hb⟩
    have hsz : ∀ i ∈ l, i.key.size ≤ maxLen ∧ i.title.size ≤ maxLen ∧ i.body.size ≤ maxLen := fun i hi => okI_sz (hs i hi)
    have HZ := Lib.hid hsz
    have hcl := own_cap hown
    have EA := Lib.hid (ItAt.own hown hl)
    have HL := Lib.hid hl
    have cf := Lib.hid (fun w h => impl_feedValid (some ⟨q, 0, none⟩) n qc l w h hl hcl.1 hcl.2 HZ.out)
    have ci := Lib.hid (fun w h => impl_itemWith (some ⟨q, 0, none⟩) n qc l key w h hl hcl.1 hcl.2 HZ.out)
    have cs := Lib.hid (fun w h => spec_itemWith (some ⟨q, 0, none⟩) n qc l key w h hl (by unfold maxLen; omega) HZ.out)
    obtain ⟨x, hx⟩ : ∃ x, x = dI (withI l key) := ⟨_, rfl⟩
    obtain ⟨ok, hok⟩ : ∃ ok, ok = (withI l key).isSome := ⟨_, rfl⟩
    have HF := Lib.hid (fun (hv : feedV l = true) (k : Nat) (hk : k < l.length) (he : l[k].key = key) (hb : hasK (l.take k) key = false) => (⟨by rw [hok, withI_here hv hk he hb]; rfl, by rw [hx, withI_here hv hk he hb]; rfl⟩ : ok = true ∧ x = l[k]))
    have HNo := Lib.hid (fun (h : withI l key = none) => (⟨by rw [hok, h]; rfl, by rw [hx, h]; rfl⟩ : ok = false ∧ x = ⟨⟨#[]⟩, ⟨#[]⟩, ⟨#[]⟩, 0⟩))
    rw [← hx, ← hok] at ci cs
    clear hown hsz hs hx hok hl
    go_wp2_with fail
    refine (ci.out _ EA.out).mono ?_
    rintro e w2 ⟨rfl, hb2⟩
    have z2 := hb.trans (hb2.mono hb.size)
    have D2 : Below w1.heap.size w1 w2 := hb2
    have K2 := Lib.hid (fun w3 h => item_kept w2 34 x w3 h)
    have D2a := D2.alloc D2.size (.cells #[.string x.key, .string x.title, .string x.body, .int .i64 x.day] 34)
    have hc2 : Below (w2.heap.size + 1) (w2.alloc (.cells #[.string x.key, .string x.title, .string x.body, .int .i64 x.day] 34)) (w2.alloc (.cells #[.string x.key, .string x.title, .string x.body, .int .i64 x.day] 34)) := Below.refl _ _
    go_wp2_with fail
    refine (cs.out _ (EA.out.old D2a)).mono ?_
    rintro e w3 ⟨rfl, hb3⟩
    have D3 := D2a.trans (hb3.mono D2a.size)
    have hc3 := hc2.trans (hb3.mono (by simp))
    have D3a := D3.alloc D3.size (.cells #[.string x.key, .string x.title, .string x.body, .int .i64 x.day] 34)
    have hc3a := hc3.alloc (by have := hc3.size; simp at this; omega) (.cells #[.string x.key, .string x.title, .string x.body, .int .i64 x.day] 34)
    obtain ⟨p0, p1, p2, p3⟩ := K2.out _ hc3a
    have hq1 := fun W => neq_item x x W
    have hq2 := fun W o p => guard_item .neq o p #[.string x.key, .string x.title, .string x.body, .int .i64 x.day] #[.string x.key, .string x.title, .string x.body, .int .i64 x.day] W
    rw [decide_eq_true (rfl : x = x)] at hq1
    simp only [Bool.not_true] at hq1
    have DD := Lib.hid (fun wr (h : Below (w2.heap.size + 1) (w2.alloc (.cells #[.string x.key, .string x.title, .string x.body, .int .i64 x.day] 34)) wr) => D2a.trans (h.mono (by have := D2.size; omega)))
    have HK0 : Hid (hasK (l.take 0) key = false) := by rw [List.take_zero]; rfl
    go_wp2
    go_loopw [9] (fun i wr => ∃ k : Nat, i = .int .i64 k ∧ k ≤ n ∧ Hid (hasK (l.take k) key = false) ∧ Below (w2.heap.size + 1) (w2.alloc (.cells #[.string x.key, .string x.title, .string x.body, .int .i64 x.day] 34)) wr) (fun i _ => n - (intOf i).toNat)
    case atStart => exact ⟨0, rfl, by omega, HK0, hc3a⟩
    case round =>
      obtain ⟨k, rfl, hk, hkb, hbr⟩ := hrel
      clear p0 p1 p2 p3
      have D5 := DD.out wr hbr
      cases hv : feedV l
      · have hno := HNo.out (withI_bad key hv)
        rw [hv] at cf
        obtain ⟨rfl, rfl⟩ := hno
        have he1 := fun W => eql_item ⟨⟨#[]⟩, ⟨#[]⟩, ⟨#[]⟩, 0⟩ ⟨⟨#[]⟩, ⟨#[]⟩, ⟨#[]⟩, 0⟩ W
        simp only [decide_true] at he1
        by_cases hlt : k < n
        · go_wp2_with fail
          refine (cf.out _ (EA.out.old D5)).mono ?_
          rintro e w6 ⟨rfl, hb6⟩
          have hc6 := hbr.trans (hb6.mono (by have := hbr.size; simp at this; omega))
          have D6 := DD.out _ hc6
          obtain ⟨p0, p1, p2, p3⟩ := K2.out _ hc6
          go_wp2_with fail
          refine (alive_any _).mono ?_
          rintro e w' ⟨rfl, rfl⟩
          go_wp2
          go_ret
          exact ⟨rfl, hb.trans (D6.mono hb.size)⟩
        · obtain ⟨p0, p1, p2, p3⟩ := K2.out _ hbr
          go_wp2_with fail
          refine (alive_any _).mono ?_
          rintro e w' ⟨rfl, rfl⟩
          go_wp2
          go_ret
          exact ⟨rfl, hb.trans (D5.mono hb.size)⟩
      · rw [hv] at cf
        by_cases hlt : k < n
        · have hkl : k < l.length := by rw [HL.out]; exact hlt
          go_wp2_with fail
          refine (cf.out _ (EA.out.old D5)).mono ?_
          rintro e w6 ⟨rfl, hb6⟩
          have hc6 := hbr.trans (hb6.mono (by have := hbr.size; simp at this; omega))
          have D6 := DD.out _ hc6
          obtain ⟨b, off, ha, h1, h2, h3, h4⟩ := EA.out.old D6 k hkl
          injection ha with ha
          injection ha with ha1 ha2
          subst ha1
          subst ha2
          simp only [Nat.zero_add] at h1 h2 h3 h4
          obtain ⟨p0, p1, p2, p3⟩ := K2.out _ hc6
          have HHit := Lib.hid (fun he => HF.out hv k hkl he hkb.out)
          have HNx : Hid (eqS l[k].key key = false → Hid (hasK (l.take (k + 1)) key = false)) := fun he => by
            have := hasK_next l key k hkl
            rw [hkb.out, he] at this
            exact this
          generalize l[k] = y at *
          cases hq : eqS y.key key
          · have HN1 := HNx.out hq
            have hq : (y.key.toList == key.toList) = false := hq
            clear p0 p1 p2 p3
            go_wp2
            go_roundw
            case rel => exact ⟨k + 1, by go_num, by omega, HN1, hc6⟩
            case measure => simp [intOf]; omega
          · obtain ⟨rfl, rfl⟩ := HHit.out ((eqS_iff _ _).1 hq)
            have hq : (x.key.toList == key.toList) = true := hq
            have he1 := fun W => eql_item x x W
            simp only [decide_true] at he1
            have he2 := fun W o p => guard_item .eql o p #[.string x.key, .string x.title, .string x.body, .int .i64 x.day] #[.string x.key, .string x.title, .string x.body, .int .i64 x.day] W
            go_wp2_with fail
            go_quiet (fail)
            go_wp2
            go_ret
            exact ⟨rfl, below_drewN' (hb.trans (D6.mono hb.size)) _⟩
        · have hno := HNo.out (withI_miss hkb.out (by rw [HL.out]; omega))
          obtain ⟨rfl, rfl⟩ := hno
          have he1 := fun W => eql_item ⟨⟨#[]⟩, ⟨#[]⟩, ⟨#[]⟩, 0⟩ ⟨⟨#[]⟩, ⟨#[]⟩, ⟨#[]⟩, 0⟩ W
          simp only [decide_true] at he1
          obtain ⟨p0, p1, p2, p3⟩ := K2.out _ hbr
          go_wp2_with fail
          refine (alive_any _).mono ?_
          rintro e w' ⟨rfl, rfl⟩
          go_wp2
          go_ret
          exact ⟨rfl, hb.trans (D5.mono hb.size)⟩

theorem fnItemWith_own : ownKnob Try.prog.godebug = none := by kernel_rfl
theorem fnItemWith_laidOut : laidOutB Try.prog = true := by kernel_rfl
set_option maxRecDepth 100000 in
theorem fnItemWith_lifted (os : Os) (started : os.Started) (H : Type) (enc : TypeId × Value → H) :
    ReturnsInHanded {} Try.checked os 9 .any (Rows.fnItemWithSpec.pre6 enc Try.prog Try.f9 Rows.fnItemWithRow.domain false) (Rows.fnItemWithSpec.post enc Try.prog Try.f9 false true false false) := by
  refine returnsInHanded_of_change (C := Try.checked) fnItemWith_own started (by kernel_rfl) Try.func9
    (ChangeSpec.witness6 (enc := enc) (C := Try.checked) false ⟨#[], #[.slice none 0 0], []⟩ 8 (by kernel_rfl) (by kernel_rfl) (by kernel_rfl) (by kernel_rfl)) ?_
  intro W base args ds gs before hval0 hW hcnd _
  have hval : ∀ (j : Nat) t v, Try.f9.params[j]? = some t → args[j]? = some v → Value.okWide Try.prog W .any base t v := hval0
  have hW' := hW
  obtain ⟨p, q, hA0, hV, rfl, hfz, hnd⟩ := hW
  have hA : DataW.TrodAll enc Try.prog W 0 (fun _ => true) true Try.f9.params.toList args.toList ds p := hA0
  rw [Try.params9] at hA hval
  obtain ⟨v0, vs0, d0, ds0, p0, q0, hargs0, rfl, rfl, h0, r0⟩ := trodAll_cons hA
  obtain ⟨rfl, rfl, rfl⟩ := trodAll_nil r0
  obtain rfl : args = #[v0] := by cases args; simp_all
  obtain ⟨rfl, rfl⟩ := trodVars_none hV
  have k0 := h0
  have lt0 : ∀ x ∈ p0, x.block < W.heap.size := by obtain ⟨m, hm⟩ := k0; exact DataW.trod_lt m _ _ _ hm
  obtain ⟨a0, len0, cap0, rfl⟩ := okWide_slice Try.underlying37 (hval 0 37 v0 rfl rfl)
  obtain ⟨z0, w0⟩ : ∃ zs, IsRow .u8 W a0 len0 cap0 zs := by
    obtain ⟨fuel, hf⟩ := h0
    rcases open_ints Try.underlying37 Try.underlying5 (by kernel_rfl) hf with ⟨hcs, _⟩ | ⟨x, l, c, zs, hcs, _, hl, hm, hz, _, hcell, hwz⟩
    · simp [Value.cells] at hcs
      obtain ⟨rfl, rfl, rfl⟩ := hcs
      exact ⟨[], .inl ⟨rfl, rfl, rfl, rfl⟩⟩
    · simp [Value.cells] at hcs
      obtain ⟨rfl, rfl, rfl⟩ := hcs
      exact ⟨zs, .inr ⟨_, rfl, hl, hm, by simpa using hz, hcell, hwz⟩⟩
  clear hA0 hval0
  refine (fnItemWith_walk a0 len0 cap0 z0 W w0).mono fun e W' ⟨he, bel⟩ => ?_
  subst he
  exact ⟨_, rfl, _, _, _, [], _, [], hW', trodAll_mk1 (shut_bool Try.underlying4 _), (trodAll_cons_mk (Below.trod fnItemWith_laidOut (by kernel_rfl) (of_decide_eq_true (by kernel_rfl)) k0 bel lt0) trodAll_mk0), rfl, bel.frame _, fun h => by cases h⟩

theorem fnItemWith_closed : joinedFacts Try.pinned.checked.prog 9 Try.f9 Rows.fnItemWithSpec Rows.fnItemWithRow = true := by
  show joinedFacts Try.prog 9 Try.f9 Rows.fnItemWithSpec Rows.fnItemWithRow = true
  simp only [joinedFacts, Bool.and_eq_true]
  repeat' apply And.intro
  all_goals first | with_reducible exact head_may | (rw [head_final]; kernel_rfl) | (rw [head_make]; kernel_rfl) | as_aux_lemma => kernel_rfl
theorem fnItemWith_over : Rows.fnItemWithRow.holds Try.pinned (OpenSpec.ofChange Rows.fnItemWithSpec) :=
  OpenClaim.holds_of_wide 9 Try.f9 rfl rfl rfl rfl rfl rfl rfl ⟨rfl, rfl, rfl, rfl, rfl⟩ rfl rfl rfl rfl rfl (by kernel_rfl) Try.func9 fnItemWith_closed
    (of_decide_eq_true (by kernel_rfl)) (by unfold Func.isWrapper; first | (rw [if_pos (by decide +kernel)]; kernel_rfl) | (rw [if_neg (by decide +kernel)]; exact ⟨rfl, rfl⟩))
    (fun os started H enc _ => fnItemWith_lifted os started H enc)

/-- The statement. -/
theorem fnItemWith_holds : Rows.FnItemWithSaid := fnItemWith_over

end Go.Proofs.Ytldllhfadihmeaa
