/- The law FnFeedValid: for every input the call returns true, and the arguments read as before. Condition: none. -/
import Derived.Test.YtldllhfadihmeaaRows
import Derived.Test.YtldllhfadihmeaaHead
import Derived.Test.YtldllhfadihmeaaDrawX
import Derived.Test.YtldllhfadihmeaaFvW
import Derived.Test.YtldllhfadihmeaaFvS
import Derived.Laws.AppendOwn
import Derived.WalkKit
import Derived.WalkSpells
import Derived.WalkLawsBesides
import Derived.ProofKit
import Derived.OpenShut
import Derived.ShutString
import Derived.ChangeOld
import Derived.Below
import Derived.Lib.Hide
namespace Go.Proofs.Ytldllhfadihmeaa
open Go.ChangeShapes Go.WideShapes Go.ChangeAt Go.RowKit
open Go.ChangeMaps (open_string shut_string)
set_option linter.unusedVariables false

theorem wpList_append_own_on {P : Program} {ops : Array Oper} {rest : List Oper} {o : Oper} {a : Act} {w : World} {Q : Exit → Act → World → Prop} (hw : Region.wanted o (yielded ops a.tmps) = true) (s x : Operand) (t : TypeId)
    (ho : o.op = .call { callee := .builtin .append, args := #[s, x], argTypes := #[t, t] })
    (base : Nat) (e : TypeId) (i : TypeInfo) (z : Value) (size bytes : Nat) (ht : P.underlying t = some (.slice e)) (hi : P.info? e = some i) (hz : i.zero = some z)
    (hsize : i.size = size) (hby : i.bytes = bytes) (hzs : z.cells.size = size) (hsz : 0 < size)
    (v : Value) (n : Nat) (xs : List Value) (hs : a.eval s = v) (hown : w.ownsRow base e size v n xs)
    (ad : Addr) (m c : Nat) (news : List Value) (hx : a.eval x = .slice (some ad) m c) (hl : news.length = m * size) (hnews : ∀ j u, news[j]? = some u → w.cell? (ad.add j) = some u) (h1 : ∀ u ∈ news, u.oneCell' = true)
    (h63 : n + m ≤ maxLen) (hbytes : (n + m) * bytes ≤ 140737488355328) (hbase : base ≤ w.heap.size)
    (h : ∀ v' w', w'.ownsRow base e size v' (n + m) (xs ++ news) → w.grownBy w' v.ownBlock → (v' = .slice none 0 0 ↔ v = .slice none 0 0 ∧ m = 0) → wpList P ops Q rest (a.put o.dst v') w') : wpList P ops Q (o :: rest) a w := by
  unfold wpList
  rw [if_pos hw]
  exact .inl (wp_append_own w s x t ho base e i z size bytes ht hi hz hsize hby hzs hsz v n xs hs hown ad m c news hx hl hnews h1 h63 hbytes hbase h)
theorem feed_twice (x : It) (l : List It) : feedV (x :: x :: l) = false := by
  rw [← Bool.not_eq_true, feedV_iff]
  rintro ⟨_, _, h⟩
  have : freshK (x :: x :: l) = (!hasK (x :: l) x.key && freshK (x :: l)) := rfl
  rw [this] at h
  have hk : hasK (x :: l) x.key = true := (hasK_iff _ _).2 ⟨x, List.mem_cons_self .., rfl⟩
  rw [hk] at h; cases h
theorem feed_rest {x : It} {l : List It} (h : feedV (x :: l) = true) : feedV l = true := by
  rw [feedV_iff] at h ⊢
  obtain ⟨h1, h2, h3⟩ := h
  refine ⟨by simp at h1; omega, by simp at h2 ⊢; exact h2.2, ?_⟩
  have : freshK (x :: l) = (!hasK l x.key && freshK l) := rfl
  rw [this, Bool.and_eq_true] at h3
  exact h3.2
theorem ItAt.tail {w : World} {b off : Nat} {x : It} {l : List It} (h : ItAt w (some ⟨b, off, none⟩) (x :: l)) : ItAt w (some ⟨b, off + 4, none⟩) l := by
  intro j hj
  obtain ⟨b', off', e, h1, h2, h3, h4⟩ := h (j + 1) (by simp; omega)
  injection e with e; injection e with e1 e2
  subst e1; subst e2
  have e : off + 4 + j * 4 = off + (j + 1) * 4 := by omega
  exact ⟨b, off + 4, rfl, by rw [e]; exact h1, by rw [e]; exact h2, by rw [e]; exact h3, by rw [e]; exact h4⟩

set_option maxRecDepth 100000 in
set_option maxHeartbeats 1000000 in
theorem fnFeedValid_walk (a : Option Addr) (len cap : Nat) (zs : List Int) (w : World) (h : IsRow .u8 w a len cap zs) :
    Calls Try.prog 7 #[.slice a len cap] w fun e w' => e = .returned (.bool true) ∧ Below w.heap.size w w' := by
  obtain ⟨ti, hti, iz0, iz1, iz2⟩ := info_parts Try.infoI
  have H := Lib.hid h
  clear h
  by_cases hl : 1048576 < len
  · go_enter Try.func7, Try.ntmps7
    go_wp2
    go_ret
    exact ⟨rfl, Below.refl _ _⟩
  · go_enter Try.func7, Try.ntmps7
    go_wp2_with fail
    refine (drawFeedValid_any a len cap zs _ H.out).mono ?_
    rintro e w1 ⟨⟨q, n, qc, l, rfl, hown, hl, hn, hs⟩, hb⟩
    have hsz : ∀ i ∈ l, i.key.size ≤ maxLen ∧ i.title.size ≤ maxLen ∧ i.body.size ≤ maxLen := fun i hi => okI_sz (hs i hi)
    have HZ := Lib.hid hsz
    have hcl := own_cap hown
    have EA := Lib.hid (ItAt.own hown hl)
    go_wp2_with fail
    refine (impl_feedValid _ n qc l _ EA.out hl hcl.1 hcl.2 HZ.out).mono ?_
    rintro e w2 ⟨rfl, hb2⟩
    have own2 := own_low' hown hb2
    have hb12 := hb.trans (hb2.mono hb.size)
    go_wp2_with fail
    refine (spec_feedValid _ n qc l _ (ItAt.own own2 hl) hl (by unfold maxLen; omega) HZ.out).mono ?_
    rintro e w3 ⟨rfl, hb3⟩
    have own3 := own_low' own2 hb3
    have hb13 := hb12.trans (hb3.mono hb12.size)
    clear own2 hown hsz hs
    cases hv : feedV l
    · go_wp2_with fail
      refine (alive_any _).mono ?_
      rintro e w' ⟨rfl, rfl⟩
      go_wp2
      go_ret
      exact ⟨rfl, hb13⟩
    · cases l with
      | nil =>
        have hn0 : n = 0 := hl.symm
        subst hn0
        go_wp2_with fail
        refine (alive_any _).mono ?_
        rintro e w' ⟨rfl, rfl⟩
        go_wp2
        go_ret
        exact ⟨rfl, hb13⟩
      | cons x l' =>
        have hn1 : l'.length + 1 = n := by simpa using hl
        have hn0 : ¬ n = 0 := by omega
        have E3 := ItAt.own own3 hl
        obtain ⟨b0, off0, ha0, h1, h2, h3, h4⟩ := E3 0 (by simp)
        injection ha0 with ha0
        injection ha0 with ha1 ha2
        subst ha1
        subst ha2
        have hx : (x :: l')[0] = x := rfl
        have ET : Hid (ItAt w3 (some ⟨q, 4, none⟩) l') := E3.tail
        have EN : Hid (∀ a, n = 1 → ItAt w3 a l') := fun a h1 => by
          have : l' = [] := List.eq_nil_of_length_eq_zero (by omega)
          rw [this]; exact ItAt.nil _ _
        have c4 := Lib.hid (fun a cap w h h1 h2 => impl_feedValid a (n - 1) cap l' w h (by omega) h1 h2 (fun i hi => HZ.out i (List.mem_cons_of_mem _ hi)))
        rw [feed_rest hv] at c4
        have hcells := Lib.hid (own3.cells (g := q) rfl)
        have hqlt := (own3.lt q rfl).2
        have hqb := (own3.lt q rfl).1
        have hc1 : 1 ≤ n := by omega
        have hcl1 := hcl.1
        have hcl2 := hcl.2
        rw [hx] at h1 h2 h3 h4
        have HL := Lib.hid hl
        clear E3 hx hl hv
        go_wp2_with fail
        · refine (c4.out _ _ _ (EN.out _ (by omega)) (by omega) (by unfold maxLen at *; omega)).mono ?_
          rintro e w4 ⟨rfl, hb4⟩
          have hb14 := hb13.trans (hb4.mono hb13.size)
          simp only [Nat.zero_mul, Nat.zero_add] at h1 h2 h3 h4
          have k1 := (hb4.cell (p := ⟨q, 0, none⟩) hqlt).trans h1
          have k2 := (hb4.cell (p := ⟨q, 1, none⟩) hqlt).trans h2
          have k3 := (hb4.cell (p := ⟨q, 2, none⟩) hqlt).trans h3
          have k4 := (hb4.cell (p := ⟨q, 3, none⟩) hqlt).trans h4
          have hq4 : q < w4.heap.size := Nat.lt_of_lt_of_le hqlt hb4.size
          have hcells4 : Hid (∀ j u, (flatI (x :: l'))[j]? = some u → (w4.alloc (.cells #[.string x.key, .string x.title, .string x.body, .int .i64 x.day] 34)).cell? ((⟨q, 0, none⟩ : Addr).add j) = some u) := fun j u h =>
            (World.cell?_alloc_lt _ _ _ (by simp [Addr.add]; split <;> exact hq4)).trans ((hb4.cell (by simp [Addr.add]; split <;> exact hqlt)).trans (hcells.out j u h))
          clear h1 h2 h3 h4 hcells own3
          go_wp2_with (at_builtin; refine wpList_append_own_on rfl _ _ 24 rfl w4.heap.size 34 ti _ 4 56 Try.underlying24 hti iz0 iz1 iz2 rfl (by decide) _ 1 [.string x.key, .string x.title, .string x.body, .int .i64 x.day] rfl (World.ownsRow_lit w4 #[.string x.key, .string x.title, .string x.body, .int .i64 x.day] 1 (Nat.le_refl _) (by unfold maxLen; omega) rfl) ⟨q, 0, none⟩ n _ (flatI (x :: l')) rfl (by rw [flatI_len, HL.out]) hcells4.out (flatI_one _) (by unfold maxLen; omega) (by omega) (by simp) ?_; intro v' w5 hown5 hgrow5 _)
          obtain ⟨g5, cap5, hv5, _, hg5⟩ := hown5.form (by omega)
          subst hv5
          have E5 := Lib.hid (ItAt.own (l := x :: x :: l') hown5 (by simp; omega))
          have c5 := own_cap hown5
          have G5 : w4.grownBy w5 (some w4.heap.size) := grown_trans (World.grownBy_alloc _ _ _) hgrow5
          have hb45 : Below w4.heap.size w4 w5 := (Below.refl _ _).grown G5 (Nat.le_refl _) (fun k e => by injection e with e; omega)
          have hb15 := hb14.trans (hb45.mono hb14.size)
          have c6 := impl_feedValid (some ⟨g5, 0, none⟩) (1 + n) cap5 (x :: x :: l') w5 E5.out (by simp; omega) c5.1 c5.2 (fun i hi => by
            rcases List.mem_cons.1 hi with rfl | hi
            · exact HZ.out _ (List.mem_cons_self ..)
            · exact HZ.out i hi)
          rw [feed_twice] at c6
          clear hown5 hgrow5 k1 k2 k3 k4
          go_wp2_with fail
          refine c6.mono ?_
          rintro e w6 ⟨rfl, hb6⟩
          go_wp2
          go_ret
          exact ⟨rfl, hb15.trans (hb6.mono hb15.size)⟩
        · refine (c4.out _ _ _ ET.out (by omega) (by unfold maxLen at *; omega)).mono ?_
          rintro e w4 ⟨rfl, hb4⟩
          have hb14 := hb13.trans (hb4.mono hb13.size)
          simp only [Nat.zero_mul, Nat.zero_add] at h1 h2 h3 h4
          have k1 := (hb4.cell (p := ⟨q, 0, none⟩) hqlt).trans h1
          have k2 := (hb4.cell (p := ⟨q, 1, none⟩) hqlt).trans h2
          have k3 := (hb4.cell (p := ⟨q, 2, none⟩) hqlt).trans h3
          have k4 := (hb4.cell (p := ⟨q, 3, none⟩) hqlt).trans h4
          have hq4 : q < w4.heap.size := Nat.lt_of_lt_of_le hqlt hb4.size
          have hcells4 : Hid (∀ j u, (flatI (x :: l'))[j]? = some u → (w4.alloc (.cells #[.string x.key, .string x.title, .string x.body, .int .i64 x.day] 34)).cell? ((⟨q, 0, none⟩ : Addr).add j) = some u) := fun j u h =>
            (World.cell?_alloc_lt _ _ _ (by simp [Addr.add]; split <;> exact hq4)).trans ((hb4.cell (by simp [Addr.add]; split <;> exact hqlt)).trans (hcells.out j u h))
          clear h1 h2 h3 h4 hcells own3
          go_wp2_with (at_builtin; refine wpList_append_own_on rfl _ _ 24 rfl w4.heap.size 34 ti _ 4 56 Try.underlying24 hti iz0 iz1 iz2 rfl (by decide) _ 1 [.string x.key, .string x.title, .string x.body, .int .i64 x.day] rfl (World.ownsRow_lit w4 #[.string x.key, .string x.title, .string x.body, .int .i64 x.day] 1 (Nat.le_refl _) (by unfold maxLen; omega) rfl) ⟨q, 0, none⟩ n _ (flatI (x :: l')) rfl (by rw [flatI_len, HL.out]) hcells4.out (flatI_one _) (by unfold maxLen; omega) (by omega) (by simp) ?_; intro v' w5 hown5 hgrow5 _)
          obtain ⟨g5, cap5, hv5, _, hg5⟩ := hown5.form (by omega)
          subst hv5
          have E5 := Lib.hid (ItAt.own (l := x :: x :: l') hown5 (by simp; omega))
          have c5 := own_cap hown5
          have G5 : w4.grownBy w5 (some w4.heap.size) := grown_trans (World.grownBy_alloc _ _ _) hgrow5
          have hb45 : Below w4.heap.size w4 w5 := (Below.refl _ _).grown G5 (Nat.le_refl _) (fun k e => by injection e with e; omega)
          have hb15 := hb14.trans (hb45.mono hb14.size)
          have c6 := impl_feedValid (some ⟨g5, 0, none⟩) (1 + n) cap5 (x :: x :: l') w5 E5.out (by simp; omega) c5.1 c5.2 (fun i hi => by
            rcases List.mem_cons.1 hi with rfl | hi
            · exact HZ.out _ (List.mem_cons_self ..)
            · exact HZ.out i hi)
          rw [feed_twice] at c6
          clear hown5 hgrow5 k1 k2 k3 k4
          go_wp2_with fail
          refine c6.mono ?_
          rintro e w6 ⟨rfl, hb6⟩
          go_wp2
          go_ret
          exact ⟨rfl, hb15.trans (hb6.mono hb15.size)⟩

theorem fnFeedValid_own : ownKnob Try.prog.godebug = none := by kernel_rfl
theorem fnFeedValid_laidOut : laidOutB Try.prog = true := by kernel_rfl
set_option maxRecDepth 100000 in
theorem fnFeedValid_lifted (os : Os) (started : os.Started) (H : Type) (enc : TypeId × Value → H) :
    ReturnsInHanded {} Try.checked os 7 .any (Rows.fnFeedValidSpec.pre6 enc Try.prog Try.f7 Rows.fnFeedValidRow.domain false) (Rows.fnFeedValidSpec.post enc Try.prog Try.f7 false true false false) := by
  refine returnsInHanded_of_change (C := Try.checked) fnFeedValid_own started (by kernel_rfl) Try.func7
    (ChangeSpec.witness6 (enc := enc) (C := Try.checked) false ⟨#[], #[.slice none 0 0], []⟩ 8 (by kernel_rfl) (by kernel_rfl) (by kernel_rfl) (by kernel_rfl)) ?_
  intro W base args ds gs before hval0 hW hcnd _
  have hval : ∀ (j : Nat) t v, Try.f7.params[j]? = some t → args[j]? = some v → Value.okWide Try.prog W .any base t v := hval0
  have hW' := hW
  obtain ⟨p, q, hA0, hV, rfl, hfz, hnd⟩ := hW
  have hA : DataW.TrodAll enc Try.prog W 0 (fun _ => true) true Try.f7.params.toList args.toList ds p := hA0
  rw [Try.params7] at hA hval
  obtain ⟨v0, vs0, d0, ds0, p0, q0, hargs0, rfl, rfl, h0, r0⟩ := trodAll_cons hA
  obtain ⟨rfl, rfl, rfl⟩ := trodAll_nil r0
  obtain rfl : args = #[v0] := by cases args; simp_all
  obtain ⟨rfl, rfl⟩ := trodVars_none hV
  have k0 := h0
  have lt0 : ∀ x ∈ p0, x.block < W.heap.size := by obtain ⟨m, hm⟩ := k0; exact DataW.trod_lt m _ _ _ hm
  obtain ⟨a0, len0, cap0, rfl⟩ := okWide_slice Try.underlying37 (hval 0 37 v0 rfl rfl)
  obtain ⟨z0, w0⟩ : ∃ zs, IsRow .u8 W a0 len0 cap0 zs := by
    obtain ⟨fuel, hf⟩ := h0
    rcases open_ints Try.underlying37 Try.underlying5 (by kernel_rfl) hf with ⟨hcs, _⟩ | ⟨x, l, c, zs, hcs, _, hl, hm, hz, _, hcell, hwz⟩
    · simp [Value.cells] at hcs
      obtain ⟨rfl, rfl, rfl⟩ := hcs
      exact ⟨[], .inl ⟨rfl, rfl, rfl, rfl⟩⟩
    · simp [Value.cells] at hcs
      obtain ⟨rfl, rfl, rfl⟩ := hcs
      exact ⟨zs, .inr ⟨_, rfl, hl, hm, by simpa using hz, hcell, hwz⟩⟩
  clear hA0 hval0
  refine (fnFeedValid_walk a0 len0 cap0 z0 W w0).mono fun e W' ⟨he, bel⟩ => ?_
  subst he
  exact ⟨_, rfl, _, _, _, [], _, [], hW', trodAll_mk1 (shut_bool Try.underlying4 _), (trodAll_cons_mk (Below.trod fnFeedValid_laidOut (by kernel_rfl) (of_decide_eq_true (by kernel_rfl)) k0 bel lt0) trodAll_mk0), rfl, bel.frame _, fun h => by cases h⟩

theorem fnFeedValid_closed : joinedFacts Try.pinned.checked.prog 7 Try.f7 Rows.fnFeedValidSpec Rows.fnFeedValidRow = true := by
  show joinedFacts Try.prog 7 Try.f7 Rows.fnFeedValidSpec Rows.fnFeedValidRow = true
  simp only [joinedFacts, Bool.and_eq_true]
  repeat' apply And.intro
  all_goals first | with_reducible exact head_may | (rw [head_final]; kernel_rfl) | (rw [head_make]; kernel_rfl) | as_aux_lemma => kernel_rfl
theorem fnFeedValid_over : Rows.fnFeedValidRow.holds Try.pinned (OpenSpec.ofChange Rows.fnFeedValidSpec) :=
  OpenClaim.holds_of_wide 7 Try.f7 rfl rfl rfl rfl rfl rfl rfl ⟨rfl, rfl, rfl, rfl, rfl⟩ rfl rfl rfl rfl rfl (by kernel_rfl) Try.func7 fnFeedValid_closed
    (of_decide_eq_true (by kernel_rfl)) (by unfold Func.isWrapper; first | (rw [if_pos (by decide +kernel)]; kernel_rfl) | (rw [if_neg (by decide +kernel)]; exact ⟨rfl, rfl⟩))
    (fun os started H enc _ => fnFeedValid_lifted os started H enc)

/-- The statement. -/
theorem fnFeedValid_holds : Rows.FnFeedValidSaid := fnFeedValid_over

end Go.Proofs.Ytldllhfadihmeaa
