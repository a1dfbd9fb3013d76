/- The law FnElementsValid: for every input the call returns true, and the arguments read as before. Condition: none. -/
import Derived.Test.YtjkdjemefkignaaRows
import Derived.Test.YtjkdjemefkignaaHead
import Derived.Test.YtjkdjemefkignaaElsW
import Derived.Test.YtjkdjemefkignaaElsL
import Derived.Test.YtjkdjemefkignaaDrawEd
import Derived.WalkKit
import Derived.WalkSpells
import Derived.WalkLawsBesides
import Derived.ProofKit
import Derived.OpenShut
import Derived.ShutString
import Derived.ChangeOld
import Derived.Below
import Derived.Lib.Hide
namespace Go.Proofs.Ytjkdjemefkignaa
open Go.ChangeShapes Go.WideShapes Go.ChangeAt Go.RowKit
open Go.ChangeMaps (open_string shut_string)
set_option linter.unusedVariables false

theorem no_name {l : List El} (x : El) (h : x.1 = ⟨#[]⟩) : elsV (x :: l) = false := by
  rw [← Bool.not_eq_true, elsV_iff, List.all_cons]
  have : elV x = false := elV_false (.inl (by unfold El.n; rw [h]; decide))
  rw [this]; simp
theorem els_half {l : List El} (h : elsV l = true) (k : Nat) : elsV (l.drop k) = true := by
  rw [elsV_iff] at h ⊢
  refine ⟨by rw [List.length_drop]; omega, ?_⟩
  have h2 := h.2
  rw [List.all_eq_true] at h2 ⊢
  exact fun x hx => h2 x (List.mem_of_mem_drop hx)
theorem ElAt.drop {w : World} {b off : Nat} {l : List El} (h : ElAt w (some ⟨b, off, none⟩) l) (k : Nat) : ElAt w (some ⟨b, off + k * 2, none⟩) (l.drop k) := by
  intro j hj
  rw [List.length_drop] at hj
  obtain ⟨b', off', e, h1, h2⟩ := h (k + j) (by omega)
  injection e with e; injection e with e1 e2
  subst e1; subst e2
  exact ⟨b, off + k * 2, rfl, by rw [List.getElem_drop, show off + k * 2 + j * 2 = off + (k + j) * 2 from by omega]; exact h1, by rw [List.getElem_drop, show off + k * 2 + j * 2 + 1 = off + (k + j) * 2 + 1 from by omega]; exact h2⟩

set_option maxHeartbeats 800000 in
theorem fnElementsValid_walk (a : Option Addr) (len cap : Nat) (zs : List Int) (w : World) (h : IsRow .u8 w a len cap zs) :
    Calls Try.prog 6 #[.slice a len cap] w fun e w' => e = .returned (.bool true) ∧ Below w.heap.size w w' := by
  have H := Lib.hid h
  clear h
  by_cases hl : 1048576 < len
  · go_enter Try.func6, Try.ntmps6
    go_wp2
    go_ret
    exact ⟨rfl, Below.refl _ _⟩
  · go_enter Try.func6, Try.ntmps6
    go_wp2_with fail
    refine (drawElementsValid_any a len cap zs _ H.out).mono ?_
    rintro e w1 ⟨⟨q, n, qc, l, rfl, hown, hl, hn, hs⟩, hb⟩
    obtain ⟨ti, hti, hz0, hz1, hz2⟩ := info_parts Try.infoE
    have hsz : ∀ e ∈ l, e.1.size ≤ maxLen ∧ e.2.size ≤ maxLen := fun e he => by have := hs e he; unfold maxLen; omega
    have HZ := Lib.hid hsz
    have hcl : n ≤ qc := by
      rcases hown.2 with ⟨e, _⟩ | ⟨_, _, _, e, _, _, h1, _⟩
      · cases e
      · injection e with e1 e2 e3; omega
    have EA := Lib.hid (ElAt.own hown hl)
    have hnb : ∀ X : List El, X = (⟨#[]⟩, ⟨#[]⟩) :: l → elsV X = false := fun X hX => by rw [hX]; exact no_name _ rfl
    have HNB := Lib.hid hnb
    clear hsz hnb
    go_wp2_with fail
    refine (impl_elementsValid _ n qc l _ EA.out hl (by unfold maxLen; omega) HZ.out).mono ?_
    rintro e w2 ⟨rfl, hb2⟩
    have hb12 := hb.trans (hb2.mono hb.size)
    have own2 := hown.kept (below_grown hb2) (.inr (by simp [Value.ownBlock]))
    have EA2 := Lib.hid (EA.out.old hb2)
    go_wp2_with fail
    refine (spec_elementsValid _ n qc l _ EA2.out hl (by unfold maxLen; omega) HZ.out).mono ?_
    rintro e w' ⟨rfl, rfl⟩
    have HL := Lib.hid hl
    have HH := Lib.hid (fun h => els_half (l := l) h (n / 2))
    have hu : Hid (∀ j u, (flatE l)[j]? = some u → w2.cell? ((⟨q, 0, none⟩ : Addr).add j) = some u) := own2.cells rfl
    have h1c : Hid (∀ u ∈ flatE l, u.oneCell' = true) := fun u hu => by
      obtain ⟨e, _, he⟩ := List.mem_flatMap.1 hu
      simp at he
      rcases he with rfl | rfl <;> rfl
    have hqlt := (own2.lt q rfl).2
    have O2 := Lib.hid own2
    clear hl hown own2
    generalize elsV l = ok at *
    go_wp2_with (at_builtin; refine wpList_append_own _ rfl _ _ 31 rfl w2.heap.size 37 ti _ 2 32 Try.underlying31 hti hz0 hz1 hz2 rfl (by decide) _ 1 [.string ⟨#[]⟩, .string ⟨#[]⟩] rfl (World.ownsRow_lit w2 #[.string ⟨#[]⟩, .string ⟨#[]⟩] 1 (Nat.le_refl _) (by unfold maxLen; omega) rfl) ⟨q, 0, none⟩ n qc (flatE l) rfl (by rw [flatE_len, HL.out]) (fun j u h => (World.cell?_alloc_lt _ _ _ (by simp [Addr.add]; split <;> exact hqlt)).trans (hu.out j u h)) h1c.out (by unfold maxLen; omega) (by omega) (by simp) ?_; intro v' w3 hown3 hgrow3 _)
    obtain ⟨g3, cap3, hv3, _, hg3⟩ := hown3.form (by omega)
    subst hv3
    have E3 := Lib.hid (ElAt.own (l := (⟨#[]⟩, ⟨#[]⟩) :: l) hown3 (by simp [HL.out]; omega))
    have G3 : Hid (w2.grownBy w3 (some w2.heap.size)) := grown_trans (World.grownBy_alloc _ _ _) hgrow3
    have c3 := Lib.hid (fun w h => impl_elementsValid (some ⟨g3, 0, none⟩) (1 + n) cap3 ((⟨#[]⟩, ⟨#[]⟩) :: l) w h (by simp [HL.out]; omega) (by unfold maxLen; omega) (fun e he => by
      rcases List.mem_cons.1 he with rfl | he
      · exact ⟨by decide, by decide⟩
      · exact HZ.out e he))
    rw [HNB.out _ rfl] at c3
    have hb23 : Hid (Below w2.heap.size w2 w3) := (Below.refl _ _).grown G3.out (Nat.le_refl _) (fun k e => by injection e with e; omega)
    clear hown3 hgrow3
    go_wp2_with fail
    refine (c3.out _ E3.out).mono ?_
    rintro e w4 ⟨rfl, hb4⟩
    have hb24 := hb23.out.trans (hb4.mono hb23.out.size)
    have hb14 := hb12.trans (hb24.mono hb12.size)
    have EA4 := Lib.hid (ElAt.old EA2.out hb24)
    cases ok
    · go_wp2_with fail
      refine (alive_any _).mono ?_
      rintro e w' ⟨rfl, rfl⟩
      go_wp2
      go_ret
      exact ⟨rfl, hb14⟩
    · have hh := HH.out rfl
      have hdl : (l.drop (n / 2)).length = n - n / 2 := by rw [List.length_drop, HL.out]
      have HDL := Lib.hid hdl
      have c5 := Lib.hid (fun a cap w h => impl_elementsValid a (n - n / 2) cap (l.drop (n / 2)) w h HDL.out (by unfold maxLen; omega) (fun e he => HZ.out e (List.mem_of_mem_drop he)))
      rw [hh] at c5
      clear hh hdl
      have hlt0 : n / 2 = 0 + n / 2 := by omega
      have ED : Hid (ElAt w4 (some ⟨q, n / 2 * 2, none⟩) (l.drop (n / 2))) := by
        have := EA4.out.drop (n / 2)
        rw [Nat.zero_add] at this; exact this
      have EN : Hid (∀ a, n = 0 → ElAt w4 a (l.drop (n / 2))) := fun a h0 => by
        rw [List.drop_of_length_le (by rw [HL.out]; omega)]; exact ElAt.nil _ _
      clear hlt0
      go_wp2_with fail
      · refine (c5.out _ _ _ (EN.out _ (by omega))).mono ?_
        rintro e w6 ⟨rfl, hb6⟩
        go_wp2_with fail
        refine (alive_any _).mono ?_
        rintro e w' ⟨rfl, rfl⟩
        go_wp2
        go_ret
        exact ⟨rfl, hb14.trans (hb6.mono hb14.size)⟩
      · refine (c5.out _ _ _ ED.out).mono ?_
        rintro e w6 ⟨rfl, hb6⟩
        go_wp2_with fail
        refine (alive_any _).mono ?_
        rintro e w' ⟨rfl, rfl⟩
        go_wp2
        go_ret
        exact ⟨rfl, hb14.trans (hb6.mono hb14.size)⟩

theorem fnElementsValid_own : ownKnob Try.prog.godebug = none := by kernel_rfl
theorem fnElementsValid_laidOut : laidOutB Try.prog = true := by kernel_rfl
set_option maxRecDepth 100000 in
theorem fnElementsValid_lifted (os : Os) (started : os.Started) (H : Type) (enc : TypeId × Value → H) :
    ReturnsInHanded {} Try.checked os 6 .any (Rows.fnElementsValidSpec.pre6 enc Try.prog Try.f6 Rows.fnElementsValidRow.domain false) (Rows.fnElementsValidSpec.post enc Try.prog Try.f6 false true false false) := by
  refine returnsInHanded_of_change (C := Try.checked) fnElementsValid_own started (by kernel_rfl) Try.func6
    (ChangeSpec.witness6 (enc := enc) (C := Try.checked) false ⟨#[], #[.slice none 0 0], []⟩ 8 (by kernel_rfl) (by kernel_rfl) (by kernel_rfl) (by kernel_rfl)) ?_
  intro W base args ds gs before hval0 hW hcnd _
  have hval : ∀ (j : Nat) t v, Try.f6.params[j]? = some t → args[j]? = some v → Value.okWide Try.prog W .any base t v := hval0
  have hW' := hW
  obtain ⟨p, q, hA0, hV, rfl, hfz, hnd⟩ := hW
  have hA : DataW.TrodAll enc Try.prog W 0 (fun _ => true) true Try.f6.params.toList args.toList ds p := hA0
  rw [Try.params6] at hA hval
  obtain ⟨v0, vs0, d0, ds0, p0, q0, hargs0, rfl, rfl, h0, r0⟩ := trodAll_cons hA
  obtain ⟨rfl, rfl, rfl⟩ := trodAll_nil r0
  obtain rfl : args = #[v0] := by cases args; simp_all
  obtain ⟨rfl, rfl⟩ := trodVars_none hV
  have k0 := h0
  have lt0 : ∀ x ∈ p0, x.block < W.heap.size := by obtain ⟨m, hm⟩ := k0; exact DataW.trod_lt m _ _ _ hm
  obtain ⟨a0, len0, cap0, rfl⟩ := okWide_slice Try.underlying24 (hval 0 24 v0 rfl rfl)
  obtain ⟨z0, w0⟩ : ∃ zs, IsRow .u8 W a0 len0 cap0 zs := by
    obtain ⟨fuel, hf⟩ := h0
    rcases open_ints Try.underlying24 Try.underlying5 (by kernel_rfl) hf with ⟨hcs, _⟩ | ⟨x, l, c, zs, hcs, _, hl, hm, hz, _, hcell, hwz⟩
    · simp [Value.cells] at hcs
      obtain ⟨rfl, rfl, rfl⟩ := hcs
      exact ⟨[], .inl ⟨rfl, rfl, rfl, rfl⟩⟩
    · simp [Value.cells] at hcs
      obtain ⟨rfl, rfl, rfl⟩ := hcs
      exact ⟨zs, .inr ⟨_, rfl, hl, hm, by simpa using hz, hcell, hwz⟩⟩
  clear hA0 hval0
  refine (fnElementsValid_walk a0 len0 cap0 z0 W w0).mono fun e W' ⟨he, bel⟩ => ?_
  subst he
  exact ⟨_, rfl, _, _, _, [], _, [], hW', trodAll_mk1 (shut_bool Try.underlying4 _), (trodAll_cons_mk (Below.trod fnElementsValid_laidOut (by kernel_rfl) (of_decide_eq_true (by kernel_rfl)) k0 bel lt0) trodAll_mk0), rfl, bel.frame _, fun h => by cases h⟩

theorem fnElementsValid_closed : joinedFacts Try.pinned.checked.prog 6 Try.f6 Rows.fnElementsValidSpec Rows.fnElementsValidRow = true := by
  show joinedFacts Try.prog 6 Try.f6 Rows.fnElementsValidSpec Rows.fnElementsValidRow = true
  simp only [joinedFacts, Bool.and_eq_true]
  repeat' apply And.intro
  all_goals first | with_reducible exact head_may | (rw [head_final]; kernel_rfl) | (rw [head_make]; kernel_rfl) | as_aux_lemma => kernel_rfl
theorem fnElementsValid_over : Rows.fnElementsValidRow.holds Try.pinned (OpenSpec.ofChange Rows.fnElementsValidSpec) :=
  OpenClaim.holds_of_wide 6 Try.f6 rfl rfl rfl rfl rfl rfl rfl ⟨rfl, rfl, rfl, rfl, rfl⟩ rfl rfl rfl rfl rfl (by kernel_rfl) Try.func6 fnElementsValid_closed
    (of_decide_eq_true (by kernel_rfl)) (by unfold Func.isWrapper; first | (rw [if_pos (by decide +kernel)]; kernel_rfl) | (rw [if_neg (by decide +kernel)]; exact ⟨rfl, rfl⟩))
    (fun os started H enc _ => fnElementsValid_lifted os started H enc)

/-- The statement. -/
theorem fnElementsValid_holds : Rows.FnElementsValidSaid := fnElementsValid_over

end Go.Proofs.Ytjkdjemefkignaa
