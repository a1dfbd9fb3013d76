/- The law FnReadFeed: for every input the call returns true, and the arguments read as before. Condition: none. -/
import Derived.Test.YtldllhfadihmeaaDoorRows
import Derived.Test.YtldllhfadihmeaaDoorHead
import Derived.Test.YtldllhfadihmeaaDoorLaid
import Derived.Test.YtldllhfadihmeaaDoorTie
import Derived.Test.YtldllhfadihmeaaDoorCards
import Derived.SevenTiedAt
import Derived.Test.YtldllhfadihmeaaDoorDrawRf
import Derived.Test.YtldllhfadihmeaaDoorRfS
import Derived.Test.YtldllhfadihmeaaDoorSame
import Derived.Laws.AppendOwnNone
import Derived.Laws.AppendOwn
import Derived.WalkKit
import Derived.WalkSpells
import Derived.WalkLawsBesides
import Derived.ProofKit
import Derived.OpenShut
import Derived.ShutString
import Derived.ChangeOld
import Derived.Below
import Derived.Lib.Hide
namespace Go.Proofs.YtldllhfadihmeaaDoor
open Go.ChangeShapes Go.WideShapes Go.ChangeAt Go.WideMaps Go.WideElems Go.RowKit
open Go.ChangeMaps (open_string shut_string)
set_option linter.unusedVariables false

theorem wpList_append_row {P : Program} {ops : Array Oper} {rest : List Oper} {o : Oper} {a : Act} {w : World} {Q : Exit → Act → World → Prop} (hgd : o.guard = none) (s x : Operand) (t : TypeId)
    (ho : o.op = .call { callee := .builtin .append, args := #[s, x], argTypes := #[t, t] })
    (base : Nat) (e : TypeId) (i : TypeInfo) (z : Value) (size bytes : Nat) (ht : P.underlying t = some (.slice e)) (hi : P.info? e = some i) (hz : i.zero = some z)
    (hsize : i.size = size) (hby : i.bytes = bytes) (hzs : z.cells.size = size) (hsz : 0 < size)
    (v : Value) (n : Nat) (xs : List Value) (hs : a.eval s = v) (hown : w.ownsRow base e size v n xs)
    (b : Option Addr) (m c : Nat) (news : List Value) (base2 : Nat) (hx : a.eval x = .slice b m c) (hrow : w.ownsRow base2 e size (.slice b m c) m news) (h1 : ∀ u ∈ news, u.oneCell' = true)
    (h63 : n + m ≤ maxLen) (hbytes : (n + m) * bytes ≤ 140737488355328) (hbase : base ≤ w.heap.size)
    (h : ∀ v' w', w'.ownsRow base e size v' (n + m) (xs ++ news) → w.grownBy w' v.ownBlock → wpList P ops Q rest (a.put o.dst v') w') : wpList P ops Q (o :: rest) a w := by
  rcases hrow.2 with ⟨hv, hm⟩ | ⟨g, cc, cur, hv, _⟩
  · injection hv with e1 e2 e3
    subst e1; subst e2; subst e3
    have hn : news = [] := List.eq_nil_of_length_eq_zero (by have := hrow.1; omega)
    subst hn
    refine wpList_append_own_none hgd s x t ho base e i size ht hi v n xs hs hown hx ?_
    exact h v w (by simpa using hown) ⟨rfl, rfl, rfl, Nat.le_refl _, fun _ _ _ => rfl⟩
  · injection hv with e1 e2 e3
    subst e1
    exact wpList_append_own w hgd s x t ho base e i z size bytes ht hi hz hsize hby hzs hsz v n xs hs hown ⟨g, 0, none⟩ m c news hx hrow.1 (hrow.cells rfl) h1 h63 hbytes hbase (fun v' w' h2 h3 _ => h v' w' h2 h3)
theorem rf_len8 (l : List ByteArray) : (rfL (rdF [] 0 l)).length ≤ 8 := by
  unfold rfL
  cases h : rdF [] 0 l with
  | none => simp
  | some p =>
    obtain ⟨h1, _⟩ := rdF_run l [] 0 p.1 p.2 h rfl
    exact ((feedV_iff p.1).1 h1).1
theorem own_slice {w : World} {base t size n : Nat} {v : Value} {xs : List Value} (h : w.ownsRow base t size v n xs) : ∃ a c, v = .slice a n c := by
  rcases h.2 with ⟨hv, hm⟩ | ⟨g, c, cur, hv, _⟩
  · exact ⟨none, 0, by rw [hv, hm]⟩
  · exact ⟨_, _, hv⟩

set_option maxRecDepth 100000 in
set_option maxHeartbeats 4000000 in
theorem fnReadFeed_walk (a : Option Addr) (len cap : Nat) (zs : List Int) (w : World) (h : IsRow .u8 w a len cap zs) (hE : EscAt w) :
    Calls Tryd.prog 4 #[.slice a len cap] w fun e w' => e = .returned (.bool true) ∧ Below w.heap.size w w' := by
  obtain ⟨ti, hti, iz0, iz1, iz2⟩ := info_parts Tryd.infoS
  have H := Lib.hid h
  have HX := Lib.hid hE
  clear h hE
  by_cases hl : 1048576 < len
  · go_enter Tryd.func4, Tryd.ntmps4
    go_wp2
    go_ret
    exact ⟨rfl, Below.refl _ _⟩
  · go_enter Tryd.func4, Tryd.ntmps4
    go_wp2_with fail
    refine (drawReadFeed_any a len cap zs _ H.out).mono ?_
    rintro e w1 ⟨⟨b, n, qc, l, rfl, hown, hl1, hn, hs⟩, hb⟩
    have hss : ∀ s ∈ l, s.size ≤ 1000000000 := fun s h => by have := hs s h; omega
    have hc := own_cap hown
    have OL := Lib.hid hown
    have HL1 := Lib.hid hl1
    have E1 := Lib.hid (StAt.own' hown hl1)
    have ci := Lib.hid (fun w e1 hx => impl_readFeed b n qc l w e1 hl1 (by unfold maxLen; omega) hss hx)
    have cs := Lib.hid (fun w e1 => spec_readFeed b n qc l w e1 hl1 (by unfold maxLen; omega) hss)
    unfold RfGiven at ci cs
    have h8 := rf_len8 l
    have HSS := Lib.hid hss
    cases ho : rdF [] 0 l with
    | none =>
      rw [ho] at ci cs
      have ci : Hid (∀ w, StAt w b l → EscAt w → Calls Tryd.prog 14 #[.slice b n qc] w fun e w' => (∃ (a : Option Addr) (n cap : Nat), e = .returned (.tuple #[.slice a n cap, .int .i64 (-1)]) ∧ w'.ownsRow w.heap.size 41 4 (.slice a n cap) n [] ∧ 0 = n ∧ n ≤ cap ∧ cap ≤ maxLen) ∧ Below w.heap.size w w') := ci
      have cs : Hid (∀ w, StAt w b l → Calls Tryd.prog 12 #[.slice b n qc] w fun e w' => (∃ (a : Option Addr) (n cap : Nat), e = .returned (.tuple #[.slice a n cap, .int .i64 (-1)]) ∧ w'.ownsRow w.heap.size 41 4 (.slice a n cap) n [] ∧ 0 = n ∧ n ≤ cap ∧ cap ≤ maxLen) ∧ Below w.heap.size w w') := cs
      clear ho hown hl1 hs hss h8
      go_wp2_with fail
      refine (ci.out _ E1.out (HX.out.old hb)).mono ?_
      rintro e w2 ⟨⟨ax, nx, cx, rfl, _, rfl, _, _⟩, hb2⟩
      go_wp2_with fail
      refine (cs.out _ (E1.out.old hb2)).mono ?_
      rintro e w3 ⟨⟨ay, ny, cy, rfl, _, rfl, _, _⟩, hb3⟩
      have D3 := hb2.trans (hb3.mono hb2.size)
      go_wp2_with fail
      refine (sameFeed_any _ _ 0 cx cy [] _ (ItAt.nil _ _) (ItAt.nil _ _) rfl (by unfold maxLen; omega)).mono ?_
      rintro e w4 ⟨rfl, hb4⟩
      have D4 := D3.trans (hb4.mono D3.size)
      go_wp2_with fail
      refine (alive_any _).mono ?_
      rintro e w' ⟨rfl, rfl⟩
      go_wp2
      go_ret
      exact ⟨rfl, hb.trans (D4.mono hb.size)⟩
    | some p =>
      obtain ⟨x, c⟩ := p
      rw [ho] at ci cs h8
      have h8 : x.length ≤ 8 := h8
      have ci : Hid (∀ w, StAt w b l → EscAt w → Calls Tryd.prog 14 #[.slice b n qc] w fun e w' => (∃ (a : Option Addr) (n cap : Nat), e = .returned (.tuple #[.slice a n cap, .int .i64 (c : Int)]) ∧ w'.ownsRow w.heap.size 41 4 (.slice a n cap) n (flatI x) ∧ x.length = n ∧ n ≤ cap ∧ cap ≤ maxLen) ∧ Below w.heap.size w w') := ci
      have cs : Hid (∀ w, StAt w b l → Calls Tryd.prog 12 #[.slice b n qc] w fun e w' => (∃ (a : Option Addr) (n cap : Nat), e = .returned (.tuple #[.slice a n cap, .int .i64 (c : Int)]) ∧ w'.ownsRow w.heap.size 41 4 (.slice a n cap) n (flatI x) ∧ x.length = n ∧ n ≤ cap ∧ cap ≤ maxLen) ∧ Below w.heap.size w w') := cs
      obtain ⟨ht1, ht2, ht3⟩ := rdF_twice ho
      have HT := Lib.hid ht1
      have HV := Lib.hid ht2
      have hc19 : c ≤ 19 := by omega
      clear ho hown hl1 hs hss ht1 ht2 ht3
      go_wp2_with fail
      refine (ci.out _ E1.out (HX.out.old hb)).mono ?_
      rintro e w2 ⟨⟨ax, nx, cx, rfl, ox, hlx, hcx1, hcx2⟩, hb2⟩
      have EX := Lib.hid (ItAt.own' ox hlx)
      have HL := Lib.hid hlx
      have n8 : nx ≤ 8 := by omega
      clear ox hlx
      go_wp2_with fail
      refine (cs.out _ (E1.out.old hb2)).mono ?_
      rintro e w3 ⟨⟨ay, ny, cy, rfl, oy, hly, _, _⟩, hb3⟩
      have hyx : ny = nx := by rw [← hly]; exact HL.out
      subst hyx
      have D3 := hb2.trans (hb3.mono hb2.size)
      have EX3 := Lib.hid (EX.out.old hb3)
      have EY3 := Lib.hid (ItAt.own' oy hly)
      clear oy hly
      go_wp2_with fail
      refine (sameFeed_any _ _ ny cx cy x _ EX3.out EY3.out HL.out (by unfold maxLen; omega)).mono ?_
      rintro e w4 ⟨rfl, hb4⟩
      have D4 := Lib.hid (D3.trans (hb4.mono D3.size))
      have EX4 := Lib.hid (EX3.out.old hb4)
      have OL4 := Lib.hid (own_low' OL.out D4.out)
      have hcn : ¬ (c : Int) < 0 := by omega
      have hbN : w4.heap.size ≤ w4.heap.size := Nat.le_refl _
      clear hb2 hb3 hb4 D3 EY3 EX3
      have hlb := own_blk OL4.out
      have D4a := D4.out.alloc D4.out.size (.cells #[] 9)
      have hD4s := D4.out.size
      have hrfT := Lib.hid (fun (x : It) (h : x ∈ ([] : List It)) => h)
      go_wp2_with (first
        | (at_builtin; refine wpList_append_row rfl (.tmp 47) (.tmp 48) 22 rfl w4.heap.size 9 ti _ 1 16 Tryd.underlying22 hti iz0 iz1 iz2 rfl (by decide) _ 0 [] rfl (own_made1 w4 w4.heap.size hbN) b n qc (flatS l) w.heap.size rfl (OL4.out.alloc _) (flatS_one _) (by unfold maxLen; omega) (by omega) (by simp) ?_; intro v5 w5 hown5 hgrow5; rw [Nat.zero_add, List.nil_append] at hown5; have hgrow5 : (w4.alloc (.cells #[] 9)).grownBy w5 (some w4.heap.size) := hgrow5; have OL5 := own_other (OL4.out.alloc _) hgrow5 (fun x e => by have := hlb x e; omega); have D5 := D4a.grown hgrow5 D4a.size (fun j e => by injection e with e; omega))
        | (at_builtin; refine wpList_append_row rfl (.tmp 49) (.tmp 50) 22 rfl w4.heap.size 9 ti _ 1 16 Tryd.underlying22 hti iz0 iz1 iz2 rfl (by decide) v5 n (flatS l) rfl hown5 b n qc (flatS l) w.heap.size rfl OL5 (flatS_one _) (by unfold maxLen; omega) (by omega) (by have := hgrow5.size; simp at this; omega) ?_; intro v6 w6 hown6 hgrow6; have D6 := D5.grown hgrow6 D5.size (fun j e => by have := (hown5.lt j e).1; omega); obtain ⟨a6, c6, hv6⟩ := own_slice hown6; subst hv6))
      rw [← flatS_app] at hown6
      have hl6 : (l ++ l).length = n + n := by rw [List.length_append, HL1.out]
      have cr := impl_readFeed a6 (n + n) c6 (l ++ l) w6 (StAt.own' hown6 hl6) hl6 (by unfold maxLen; omega) (fun s hs => by
        rcases List.mem_append.1 hs with hs | hs
        · exact HSS.out s hs
        · exact HSS.out s hs) (HX.out.old (hb.trans (D6.mono hb.size)))
      unfold RfGiven at cr
      rw [HT.out] at cr
      have cr : Calls Tryd.prog 14 #[.slice a6 (n + n) c6] w6 fun e w' => (∃ (a : Option Addr) (n cap : Nat), e = .returned (.tuple #[.slice a n cap, .int .i64 ((2 * c : Nat) : Int)]) ∧ w'.ownsRow w6.heap.size 41 4 (.slice a n cap) n (flatI x) ∧ x.length = n ∧ n ≤ cap ∧ cap ≤ maxLen) ∧ Below w6.heap.size w6 w' := cr
      have EX6 := Lib.hid (fun W (h : Below w4.heap.size w4 W) => EX4.out.old h)
      have D46 : Below w4.heap.size w4 w6 := (((Below.refl w4.heap.size w4).alloc (Nat.le_refl _) (.cells #[] 9)).grown hgrow5 (by simp) (fun j e => by injection e with e; omega)).grown hgrow6 (by have := hgrow5.size; simp at this; omega) (fun j e => (hown5.lt j e).1)
      have E6 := Lib.hid (EX4.out.old D46)
      clear hown5 hown6 hgrow5 hgrow6 OL5 EX6 hrfT hl6
      refine cr.mono ?_
      rintro e w7 ⟨⟨az, nz, cz, rfl, oz, hlz, _, _⟩, hb7⟩
      have hzn : nz = ny := by rw [← hlz]; exact HL.out
      subst hzn
      have D7 := D6.trans (hb7.mono D6.size)
      have E7 := Lib.hid (E6.out.old hb7)
      have EZ := Lib.hid (ItAt.own' oz hlz)
      have cf := impl_feedValid ax nz cx x w7 E7.out HL.out hcx1 hcx2 (feed_sz HV.out)
      rw [HV.out] at cf
      clear oz hlz cr D46
      go_wp2_with fail
      refine cf.mono ?_
      rintro e w8 ⟨rfl, hb8⟩
      have D8 := D7.trans (hb8.mono D7.size)
      go_wp2_with fail
      refine (sameFeed_any _ _ nz cz cx x _ (EZ.out.old hb8) (E7.out.old hb8) HL.out (by unfold maxLen; omega)).mono ?_
      rintro e w9 ⟨rfl, hb9⟩
      have D9 := D8.trans (hb9.mono D8.size)
      have hwr : IntKind.i64.wrap (2 * (c : Int)) = 2 * (c : Int) := IntWalk.i64_in _ (by omega)
      have hbeq : (2 * (c : Int) == 2 * (c : Int)) = true := by simp
      go_wp2
      go_ret
      exact ⟨rfl, hb.trans (D9.mono hb.size)⟩

theorem fnReadFeed_own : ownKnob Tryd.prog.godebug = none := by kernel_rfl
theorem fnReadFeed_laidOut : laidOutB Tryd.prog = true := by kernel_rfl
set_option maxRecDepth 100000 in
theorem fnReadFeed_lifted (os : Os) (started : os.Started) (H : Type) (enc : TypeId × Value → H) :
    ReturnsInHanded {} Tryd.checked os 4 .any (fun w args => (Rows.fnReadFeedSpec.pre enc Tryd.prog Tryd.f4 [] false w args ∧ laidMetH Tryd.prog escLaid w) ∧ sizedMet enc Tryd.prog Tryd.f4 (OpenSpec.ofChange Rows.fnReadFeedSpec) false w args)
      (Rows.fnReadFeedSpec.post enc Tryd.prog Tryd.f4 false true false false) := by
  refine returnsInHanded_of_change_and (C := Tryd.checked) (X := fun w _ => laidMetH Tryd.prog escLaid w) (fun _ _ _ hh h => h.of_heap hh) fnReadFeed_own started (by kernel_rfl) Tryd.func4
    (ChangeSpec.witness_shaped (enc := enc) (C := Tryd.checked) (os := os) (X := fun w _ => laidMetH Tryd.prog escLaid w) false (World.doorLaid Tryd.prog 400 os) #[.slice none 0 0] 8 rfl (World.shaped_of_RefB (by kernel_rfl) (by kernel_rfl)) (by kernel_rfl) (by kernel_rfl) (by kernel_rfl) (esc_met os _)) ?_
  intro W base args ds gs before hval0 hW _ _ hL _
  have hval : ∀ (j : Nat) t v, Tryd.f4.params[j]? = some t → args[j]? = some v → Value.okWide Tryd.prog W .any base t v := hval0
  have hW' := hW
  obtain ⟨p, q, hA0, hV0, rfl, hfz, hnd⟩ := hW
  have hV : DataW.TrodVars enc Tryd.prog W (fun _ => true) [escName] gs q := hV0
  have hA : DataW.TrodAll enc Tryd.prog W 0 (fun _ => true) true Tryd.f4.params.toList args.toList ds p := hA0
  rw [Tryd.params4] at hA hval
  obtain ⟨v0, vs0, d0, ds0, p0, q0, hargs0, rfl, rfl, h0, r0⟩ := trodAll_cons hA
  obtain ⟨rfl, rfl, rfl⟩ := trodAll_nil r0
  obtain rfl : args = #[v0] := by cases args; simp_all
  obtain ⟨g, t, cs, fuel, d, p', rfl, hg, ht, hvar, hd, rfl⟩ := trodVars_one hV
  obtain rfl := Option.some.inj (esc_global.symm.trans hg)
  obtain rfl := Option.some.inj (esc_type.symm.trans ht)
  have hv8 := esc_cells_of hL
  obtain rfl : cs = escCells := Option.some.inj (hvar.symm.trans hv8)
  obtain ⟨rfl, rfl⟩ := DataW.Trod.unique (v := .agg escCells) ⟨fuel, hd⟩ ⟨4, reads_esc enc W _⟩
  have hEA := esc_at_of hv8
  have k0 := h0
  have lt0 : ∀ x ∈ p0, x.block < W.heap.size := by obtain ⟨m, hm⟩ := k0; exact DataW.trod_lt m _ _ _ hm
  obtain ⟨a0, len0, cap0, rfl⟩ := okWide_slice Tryd.underlying32 (hval 0 32 v0 rfl rfl)
  obtain ⟨z0, w0⟩ : ∃ zs, IsRow .u8 W a0 len0 cap0 zs := by
    obtain ⟨fuel, hf⟩ := h0
    rcases open_ints Tryd.underlying32 Tryd.underlying5 (by kernel_rfl) hf with ⟨hcs, _⟩ | ⟨x, l, c, zs, hcs, _, hl, hm, hz, _, hcell, hwz⟩
    · simp [Value.cells] at hcs
      obtain ⟨rfl, rfl, rfl⟩ := hcs
      exact ⟨[], .inl ⟨rfl, rfl, rfl, rfl⟩⟩
    · simp [Value.cells] at hcs
      obtain ⟨rfl, rfl, rfl⟩ := hcs
      exact ⟨zs, .inr ⟨_, rfl, hl, hm, by simpa using hz, hcell, hwz⟩⟩
  clear hA0 hval0
  refine (fnReadFeed_walk a0 len0 cap0 z0 W w0 hEA).mono fun e W' ⟨he, bel⟩ => ?_
  subst he
  exact ⟨_, rfl, _, _, _, [], _, MemPlace.row ⟨0, 0, none⟩ 8 ++ [], hW', trodAll_mk1 (shut_bool Tryd.underlying4 _), (trodAll_cons_mk (Below.trod fnReadFeed_laidOut (by kernel_rfl) (of_decide_eq_true (by kernel_rfl)) k0 bel lt0) trodAll_mk0), esc_vars enc _ (esc_var_old hv8 bel), bel.frame _, fun h => by cases h⟩

theorem fnReadFeed_closed : joinedFacts Tryd.pinned.checked.prog 4 Tryd.f4 Rows.fnReadFeedSpec Rows.fnReadFeedRow = true := by
  show joinedFacts Tryd.prog 4 Tryd.f4 Rows.fnReadFeedSpec Rows.fnReadFeedRow = true
  simp only [joinedFacts, Bool.and_eq_true]
  repeat' apply And.intro
  all_goals first | with_reducible exact head_may | (rw [head_final]; kernel_rfl) | (rw [head_make]; kernel_rfl) | as_aux_lemma => kernel_rfl
theorem fnReadFeed_over : Rows.fnReadFeedRow.holds Tryd.pinned (OpenSpec.ofChange Rows.fnReadFeedSpec) :=
  OpenClaim.holds_of_wide 4 Tryd.f4 rfl rfl rfl rfl rfl rfl rfl ⟨rfl, rfl, rfl, rfl, rfl⟩ rfl rfl rfl rfl rfl (by kernel_rfl) Tryd.func4 fnReadFeed_closed
    (of_decide_eq_true (by kernel_rfl)) (by unfold Func.isWrapper; first | (rw [if_pos (by decide +kernel)]; kernel_rfl) | (rw [if_neg (by decide +kernel)]; exact ⟨rfl, rfl⟩))
    (fun os started H enc _ => fnReadFeed_lifted os started H enc)

/-- The statement. -/
theorem fnReadFeed_holds : Rows.FnReadFeedCardSaid :=
  Claim7.holds_tied_plain_at .later [] [.data] true Rows.fnReadFeedCard.stood.harness false
    fnReadFeed_over (fun _ h => by cases h) (by kernel_rfl) (fun _ h => by cases h) fnReadFeed_row_tie rfl ⟨rfl, rfl⟩ (by kernel_rfl) rfl
    (fun f fn hf hfn => by
      obtain rfl : f = 4 := Option.some.inj ((show Tryd.prog.funcNamed Rows.fnReadFeedRow.func = some 4 by kernel_rfl).symm.trans hf) |>.symm
      obtain rfl : fn = Tryd.f4 := (Option.some.inj (Tryd.func4.symm.trans hfn)).symm
      exact ⟨by kernel_rfl, fun j t ht => by
        rw [Tryd.params4] at ht
        have hm : t ∈ [32] := by simpa using Array.mem_of_getElem? ht
        have hall : ([32].all fun u => !Tryd.prog.wantsStandIn u) = true := by kernel_rfl
        exact (show Tryd.prog.wantsStandIn t = false by simpa using List.all_eq_true.1 hall t hm)⟩)
    (by kernel_rfl)

end Go.Proofs.YtldllhfadihmeaaDoor
