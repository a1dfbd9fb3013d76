/- The law FnElementText: for every input the call returns true, and the arguments read as before. Condition: none. -/
import Derived.Test.YtjkdjemefkignaaRows
import Derived.Test.YtjkdjemefkignaaHead
import Derived.Test.YtjkdjemefkignaaElText
import Derived.Test.YtjkdjemefkignaaElsL
import Derived.Test.YtjkdjemefkignaaDrawEt
import Derived.WalkKit
import Derived.WalkSpells
import Derived.WalkLawsBesides
import Derived.ProofKit
import Derived.OpenShut
import Derived.ShutString
import Derived.ChangeOld
import Derived.Below
import Derived.Lib.Hide
namespace Go.Proofs.Ytjkdjemefkignaa
open Go.ChangeShapes Go.WideShapes Go.ChangeAt Go.RowKit
open Go.ChangeMaps (open_string shut_string)
set_option linter.unusedVariables false

theorem elT_valid {l : List El} {n t : ByteArray} (h : elT l n = some t) : elsV l = true := by
  unfold elT at h
  split at h
  · assumption
  · cases h

set_option maxHeartbeats 1000000 in
theorem fnElementText_walk (a : Option Addr) (len cap : Nat) (zs : List Int) (w : World) (h : IsRow .u8 w a len cap zs) :
    Calls Try.prog 8 #[.slice a len cap] w fun e w' => e = .returned (.bool true) ∧ Below w.heap.size w w' := by
  have H := Lib.hid h
  clear h
  by_cases hl : 1048576 < len
  · go_enter Try.func8, Try.ntmps8
    go_wp2
    go_ret
    exact ⟨rfl, Below.refl _ _⟩
  · go_enter Try.func8, Try.ntmps8
    go_wp2_with fail
    refine (drawElementText_any a len cap zs _ H.out).mono ?_
    rintro e w1 ⟨⟨q, n, qc, l, s, rfl, hssz, hown, hl, hn, hs⟩, hb⟩
    have hsz : ∀ e ∈ l, e.1.size ≤ maxLen ∧ e.2.size ≤ maxLen := fun e he => by have := hs e he; unfold maxLen; omega
    have HZ := Lib.hid hsz
    have EA := Lib.hid (ElAt.own hown hl)
    have HL := Lib.hid hl
    have c1 := Lib.hid (fun w h => impl_elementText (some ⟨q, 0, none⟩) n qc l s w h HL.out (by unfold maxLen; omega) HZ.out)
    have c2 := Lib.hid (fun w h => spec_elementText (some ⟨q, 0, none⟩) n qc l s w h HL.out (by unfold maxLen; omega) HZ.out)
    have c3 := Lib.hid (fun w h => impl_elementsValid (some ⟨q, 0, none⟩) n qc l w h HL.out (by unfold maxLen; omega) HZ.out)
    clear hsz hs hl hown
    cases hT : elT l s with
    | none =>
      rw [hT] at c1 c2
      have HT := Lib.hid hT
      clear hT
      go_wp2_with fail
      refine (c1.out _ EA.out).mono ?_
      rintro e w2 ⟨rfl, hb2⟩
      have hb12 := hb.trans (hb2.mono hb.size)
      have EA2 := Lib.hid (EA.out.old hb2)
      unfold strOpt
      go_wp2_with fail
      refine (c2.out _ EA2.out).mono ?_
      rintro e w' ⟨rfl, rfl⟩
      unfold strOpt
      go_wp2
      go_loopw [9] (fun i wr => ∃ k : Nat, i = .int .i64 k ∧ k ≤ n ∧ Hid (EtTo l s k) ∧ Below w.heap.size w wr ∧ Below w2.heap.size w2 wr) (fun i _ => n - (intOf i).toNat)
      case atStart => exact ⟨0, rfl, by omega, EtTo.zero l s, hb12, Below.refl _ _⟩
      case round =>
        obtain ⟨k, rfl, hk, ho, hbr, hbr2⟩ := hrel
        have EAr := Lib.hid (EA2.out.old hbr2)
        by_cases hlt : k < n
        · have hkl : k < l.length := by rw [HL.out]; exact hlt
          cases hv : elsV l
          · rw [hv] at c3
            clear hv
            go_wp2_with fail
            refine (c3.out _ EAr.out).mono ?_
            rintro e w3 ⟨rfl, hb3⟩
            go_wp2_with fail
            refine (alive_any _).mono ?_
            rintro e w' ⟨rfl, rfl⟩
            go_wp2
            go_ret
            exact ⟨rfl, hbr.trans (hb3.mono hbr.size)⟩
          · rw [hv] at c3
            obtain ⟨b, off, ha, h1, h2⟩ := EAr.out k hkl
            injection ha with ha
            injection ha with ha1 ha2
            subst ha1
            subst ha2
            cases he : eqS l[k].1 s
            · have HO := Lib.hid (ho.out.next hkl he)
              have he2 : (l[k].1.toList == s.toList) = false := he
              clear he ho hv
              have hlt3 := World.block_lt_of_cell? wr _ h1
              generalize l[k] = x at *
              rw [Nat.zero_add] at h1 h2
              go_wp2_with fail
              refine (c3.out _ EAr.out).mono ?_
              rintro e w3 ⟨rfl, hb3⟩
              have hbz := hbr.trans (hb3.mono hbr.size)
              have hbz2 := hbr2.trans (hb3.mono hbr2.size)
              have h1' := (hb3.cell (p := ⟨q, k * 2, none⟩) hlt3).trans h1
              go_wp2
              go_roundw
              case rel => exact ⟨k + 1, by go_num, by omega, HO.out, hbz, hbz2⟩
              case measure => simp [intOf]; omega
            · have := elT_some hv (ho.out.hit hkl he)
              rw [HT.out] at this
              cases this
        · go_wp2_with fail
          refine (alive_any _).mono ?_
          rintro e w' ⟨rfl, rfl⟩
          go_wp2
          go_ret
          exact ⟨rfl, hbr⟩
    | some t =>
      rw [hT] at c1 c2
      have hv := elT_valid hT
      rw [hv] at c3
      have HT := Lib.hid hT
      have HV := Lib.hid hv
      clear hT hv
      go_wp2_with fail
      refine (c1.out _ EA.out).mono ?_
      rintro e w2 ⟨rfl, hb2⟩
      have hb12 := hb.trans (hb2.mono hb.size)
      have EA2 := Lib.hid (EA.out.old hb2)
      unfold strOpt
      go_wp2_with fail
      refine (c2.out _ EA2.out).mono ?_
      rintro e w' ⟨rfl, rfl⟩
      unfold strOpt
      go_wp2
      go_loopw [9] (fun i wr => ∃ k : Nat, i = .int .i64 k ∧ k ≤ n ∧ Hid (EtTo l s k) ∧ Below w.heap.size w wr ∧ Below w2.heap.size w2 wr) (fun i _ => n - (intOf i).toNat)
      case atStart => exact ⟨0, rfl, by omega, EtTo.zero l s, hb12, Below.refl _ _⟩
      case round =>
        obtain ⟨k, rfl, hk, ho, hbr, hbr2⟩ := hrel
        have EAr := Lib.hid (EA2.out.old hbr2)
        by_cases hlt : k < n
        · have hkl : k < l.length := by rw [HL.out]; exact hlt
          obtain ⟨b, off, ha, h1, h2⟩ := EAr.out k hkl
          injection ha with ha
          injection ha with ha1 ha2
          subst ha1
          subst ha2
          have hlt3 := World.block_lt_of_cell? wr _ h1
          rw [Nat.zero_add] at h1 h2
          cases he : eqS l[k].1 s
          · have HO := Lib.hid (ho.out.next hkl he)
            have he2 : (l[k].1.toList == s.toList) = false := he
            clear he ho
            generalize l[k] = x at *
            go_wp2_with fail
            refine (c3.out _ EAr.out).mono ?_
            rintro e w3 ⟨rfl, hb3⟩
            have hbz := hbr.trans (hb3.mono hbr.size)
            have hbz2 := hbr2.trans (hb3.mono hbr2.size)
            have h1' := (hb3.cell (p := ⟨q, k * 2, none⟩) hlt3).trans h1
            go_wp2
            go_roundw
            case rel => exact ⟨k + 1, by go_num, by omega, HO.out, hbz, hbz2⟩
            case measure => simp [intOf]; omega
          · have E := elT_some HV.out (ho.out.hit hkl he)
            rw [HT.out] at E
            injection E with E
            have he2 : (l[k].1.toList == s.toList) = true := he
            clear he ho
            rw [← E] at h2
            clear E
            generalize l[k] = x at *
            go_wp2_with fail
            refine (c3.out _ EAr.out).mono ?_
            rintro e w3 ⟨rfl, hb3⟩
            have hbz := hbr.trans (hb3.mono hbr.size)
            have h1' := (hb3.cell (p := ⟨q, k * 2, none⟩) hlt3).trans h1
            have h2' := (hb3.cell (p := ⟨q, k * 2 + 1, none⟩) hlt3).trans h2
            go_wp2
            go_ret
            exact ⟨rfl, hbz⟩
        · have := elT_none (ho.out.done (by rw [HL.out]; omega))
          rw [HT.out] at this
          cases this

theorem fnElementText_own : ownKnob Try.prog.godebug = none := by kernel_rfl
theorem fnElementText_laidOut : laidOutB Try.prog = true := by kernel_rfl
set_option maxRecDepth 100000 in
theorem fnElementText_lifted (os : Os) (started : os.Started) (H : Type) (enc : TypeId × Value → H) :
    ReturnsInHanded {} Try.checked os 8 .any (Rows.fnElementTextSpec.pre6 enc Try.prog Try.f8 Rows.fnElementTextRow.domain false) (Rows.fnElementTextSpec.post enc Try.prog Try.f8 false true false false) := by
  refine returnsInHanded_of_change (C := Try.checked) fnElementText_own started (by kernel_rfl) Try.func8
    (ChangeSpec.witness6 (enc := enc) (C := Try.checked) false ⟨#[], #[.slice none 0 0], []⟩ 8 (by kernel_rfl) (by kernel_rfl) (by kernel_rfl) (by kernel_rfl)) ?_
  intro W base args ds gs before hval0 hW hcnd _
  have hval : ∀ (j : Nat) t v, Try.f8.params[j]? = some t → args[j]? = some v → Value.okWide Try.prog W .any base t v := hval0
  have hW' := hW
  obtain ⟨p, q, hA0, hV, rfl, hfz, hnd⟩ := hW
  have hA : DataW.TrodAll enc Try.prog W 0 (fun _ => true) true Try.f8.params.toList args.toList ds p := hA0
  rw [Try.params8] at hA hval
  obtain ⟨v0, vs0, d0, ds0, p0, q0, hargs0, rfl, rfl, h0, r0⟩ := trodAll_cons hA
  obtain ⟨rfl, rfl, rfl⟩ := trodAll_nil r0
  obtain rfl : args = #[v0] := by cases args; simp_all
  obtain ⟨rfl, rfl⟩ := trodVars_none hV
  have k0 := h0
  have lt0 : ∀ x ∈ p0, x.block < W.heap.size := by obtain ⟨m, hm⟩ := k0; exact DataW.trod_lt m _ _ _ hm
  obtain ⟨a0, len0, cap0, rfl⟩ := okWide_slice Try.underlying24 (hval 0 24 v0 rfl rfl)
  obtain ⟨z0, w0⟩ : ∃ zs, IsRow .u8 W a0 len0 cap0 zs := by
    obtain ⟨fuel, hf⟩ := h0
    rcases open_ints Try.underlying24 Try.underlying5 (by kernel_rfl) hf with ⟨hcs, _⟩ | ⟨x, l, c, zs, hcs, _, hl, hm, hz, _, hcell, hwz⟩
    · simp [Value.cells] at hcs
      obtain ⟨rfl, rfl, rfl⟩ := hcs
      exact ⟨[], .inl ⟨rfl, rfl, rfl, rfl⟩⟩
    · simp [Value.cells] at hcs
      obtain ⟨rfl, rfl, rfl⟩ := hcs
      exact ⟨zs, .inr ⟨_, rfl, hl, hm, by simpa using hz, hcell, hwz⟩⟩
  clear hA0 hval0
  refine (fnElementText_walk a0 len0 cap0 z0 W w0).mono fun e W' ⟨he, bel⟩ => ?_
  subst he
  exact ⟨_, rfl, _, _, _, [], _, [], hW', trodAll_mk1 (shut_bool Try.underlying4 _), (trodAll_cons_mk (Below.trod fnElementText_laidOut (by kernel_rfl) (of_decide_eq_true (by kernel_rfl)) k0 bel lt0) trodAll_mk0), rfl, bel.frame _, fun h => by cases h⟩

theorem fnElementText_closed : joinedFacts Try.pinned.checked.prog 8 Try.f8 Rows.fnElementTextSpec Rows.fnElementTextRow = true := by
  show joinedFacts Try.prog 8 Try.f8 Rows.fnElementTextSpec Rows.fnElementTextRow = true
  simp only [joinedFacts, Bool.and_eq_true]
  repeat' apply And.intro
  all_goals first | with_reducible exact head_may | (rw [head_final]; kernel_rfl) | (rw [head_make]; kernel_rfl) | as_aux_lemma => kernel_rfl
theorem fnElementText_over : Rows.fnElementTextRow.holds Try.pinned (OpenSpec.ofChange Rows.fnElementTextSpec) :=
  OpenClaim.holds_of_wide 8 Try.f8 rfl rfl rfl rfl rfl rfl rfl ⟨rfl, rfl, rfl, rfl, rfl⟩ rfl rfl rfl rfl rfl (by kernel_rfl) Try.func8 fnElementText_closed
    (of_decide_eq_true (by kernel_rfl)) (by unfold Func.isWrapper; first | (rw [if_pos (by decide +kernel)]; kernel_rfl) | (rw [if_neg (by decide +kernel)]; exact ⟨rfl, rfl⟩))
    (fun os started H enc _ => fnElementText_lifted os started H enc)

/-- The statement. -/
theorem fnElementText_holds : Rows.FnElementTextSaid := fnElementText_over

end Go.Proofs.Ytjkdjemefkignaa
