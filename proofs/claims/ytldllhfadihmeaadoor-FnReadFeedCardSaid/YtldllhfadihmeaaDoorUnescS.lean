/- UnescapeText of the reference computes unE. -/
import Derived.Test.YtldllhfadihmeaaDoorUnescW
import Derived.Test.YtldllhfadihmeaaDoorPlM
import Derived.Deep.LoopGhost
namespace Go.Proofs.YtldllhfadihmeaaDoor
open Go.RowKit

/-- What a round of the loop keeps: whatever text is written so, it begins with what was read. -/
def SuTo (s : ByteArray) (k : Nat) (u : ByteArray) : Prop := k ≤ s.size ∧ ∀ t, textV t = true → esc t = s.data.toList → ∃ r, t = u.data.toList ++ r ∧ esc r = s.data.toList.drop k
theorem SuTo.zero (s : ByteArray) : SuTo s 0 ⟨#[]⟩ := ⟨by omega, fun t _ h => ⟨t, rfl, by rw [List.drop_zero]; exact h⟩⟩
theorem SuTo.step {s : ByteArray} {k m : Nat} {u v : ByteArray} {d : UInt8} (h : SuTo s k u) (hv : v.data.toList = [d]) (hm : k + m ≤ s.size) (hk : k < s.size)
    (hd : ∀ e : UInt8, escB e <+: s.data.toList.drop k → e = d ∧ (escB e).length = m) : SuTo s (k + m) (u ++ v) := by
  refine ⟨hm, fun t ht he => ?_⟩
  obtain ⟨r, rfl, hr⟩ := h.2 t ht he
  cases r with
  | nil => exact absurd hr.symm (drop_ne hk)
  | cons e r =>
    rw [esc_cons] at hr
    obtain ⟨rfl, hl⟩ := hd e ⟨esc r, hr⟩
    refine ⟨r, by rw [ba_app, hv, List.append_assoc]; rfl, ?_⟩
    have : s.data.toList.drop (k + m) = (s.data.toList.drop k).drop m := by rw [List.drop_drop]
    rw [this, ← hr, ← hl, List.drop_left]
theorem head_drop {s : ByteArray} {k : Nat} (hk : k < s.size) {d : UInt8} (h : escB d <+: s.data.toList.drop k) : (s[k].toNat = 38 ∧ (d = 38 ∨ d = 60 ∨ d = 62 ∨ d = 34)) ∨ (d = s[k] ∧ escB d = [s[k]]) := by
  rw [drop_at s k hk] at h
  rcases escB_cases d with ⟨hd, e⟩ | ⟨hd, e⟩ | ⟨hd, e⟩ | ⟨hd, e⟩ | ⟨h1, h2, h3, h4, e⟩
  all_goals rw [e] at h
  · left; have := (List.cons_prefix_cons.1 h).1; exact ⟨by rw [← this]; rfl, .inl hd⟩
  · left; have := (List.cons_prefix_cons.1 h).1; exact ⟨by rw [← this]; rfl, .inr (.inl hd)⟩
  · left; have := (List.cons_prefix_cons.1 h).1; exact ⟨by rw [← this]; rfl, .inr (.inr (.inl hd))⟩
  · left; have := (List.cons_prefix_cons.1 h).1; exact ⟨by rw [← this]; rfl, .inr (.inr (.inr hd))⟩
  · right; have := (List.cons_prefix_cons.1 h).1; exact ⟨this, by rw [e, this]⟩
theorem SuTo.plain {s : ByteArray} {k : Nat} {u v : ByteArray} (h : SuTo s k u) (hk : k < s.size) (hc : s[k].toNat ≠ 38) (hv : v.data.toList = [s[k]]) : SuTo s (k + 1) (u ++ v) :=
  h.step hv (by omega) hk fun e he => by
    rcases head_drop hk he with ⟨h1, _⟩ | ⟨h1, h2⟩
    · exact absurd h1 hc
    · exact ⟨h1, by rw [h2]; rfl⟩
/-- No name of a byte from 34 up to j begins the rest. -/
def NoName (s : ByteArray) (k j : Nat) : Prop := ∀ i : Nat, 34 ≤ i → i < j → nameI i ≠ [] → ¬ nameI i <+: s.data.toList.drop k
theorem NoName.zero (s : ByteArray) (k : Nat) : NoName s k 34 := fun i h1 h2 => by omega
theorem NoName.next {s : ByteArray} {k j : Nat} (h : NoName s k j) (hj : nameI j = [] ∨ ¬ nameI j <+: s.data.toList.drop k) : NoName s k (j + 1) := fun i h1 h2 h3 => by
  rcases Nat.lt_or_ge i j with hlt | hge
  · exact h i h1 hlt h3
  · obtain rfl : i = j := by omega
    rcases hj with hj | hj
    · exact absurd hj h3
    · exact hj
theorem nameI_esc {j : Nat} (h : nameI j ≠ []) : j ≤ 62 ∧ escB (UInt8.ofNat j) = nameI j := by
  by_cases h1 : (j : Int) = 38
  · obtain rfl : j = 38 := by omega
    exact ⟨by omega, rfl⟩
  · by_cases h2 : (j : Int) = 60
    · obtain rfl : j = 60 := by omega
      exact ⟨by omega, rfl⟩
    · by_cases h3 : (j : Int) = 62
      · obtain rfl : j = 62 := by omega
        exact ⟨by omega, rfl⟩
      · by_cases h4 : (j : Int) = 34
        · obtain rfl : j = 34 := by omega
          exact ⟨by omega, rfl⟩
        · exact absurd (nameI_none h1 h2 h3 h4) h
theorem two_pre {a b : UInt8} {l : List UInt8} (h1 : escB a <+: l) (h2 : escB b <+: l) : a = b := by
  obtain ⟨x, hx⟩ := h1
  obtain ⟨y, hy⟩ := h2
  exact (escB_free (hx.trans hy.symm)).1
theorem SuTo.name {s : ByteArray} {k j : Nat} {u v nm : ByteArray} (h : SuTo s k u) (hk : k < s.size) (hnm : nm.data.toList = nameI j) (hne : nameI j ≠ []) (hp : nameI j <+: s.data.toList.drop k) (hv : v.data.toList = [UInt8.ofNat j]) : SuTo s (k + nm.size) (u ++ v) := by
  obtain ⟨_, he⟩ := nameI_esc hne
  rw [← he] at hp
  have hl : nm.size = (escB (UInt8.ofNat j)).length := by rw [← size_toList, hnm, he]
  have h3 := hp.length_le
  rw [List.length_drop, size_toList] at h3
  refine h.step hv (by omega) hk fun e h2 => ?_
  obtain rfl := two_pre h2 hp
  exact ⟨rfl, hl.symm⟩
theorem SuTo.lone {s : ByteArray} {k : Nat} {u v : ByteArray} (h : SuTo s k u) (hk : k < s.size) (hn : NoName s k 63) (hv : v.data.toList = [s[k]]) : SuTo s (k + 1) (u ++ v) :=
  h.step hv (by omega) hk fun e he => by
    rcases head_drop hk he with ⟨_, h1⟩ | ⟨h1, h2⟩
    · exfalso
      rcases h1 with rfl | rfl | rfl | rfl
      · exact hn 38 (by omega) (by omega) (by decide) he
      · exact hn 60 (by omega) (by omega) (by decide) he
      · exact hn 62 (by omega) (by omega) (by decide) he
      · exact hn 34 (by omega) (by omega) (by decide) he
    · exact ⟨h1, by rw [h2]; rfl⟩
theorem pre_ext {s nm : ByteArray} {k : Nat} (_h : k + nm.size ≤ s.size) : ((s.extract k (k + nm.size)).toList == nm.toList) = true ↔ nm.data.toList <+: s.data.toList.drop k := by
  rw [ByteArray.toList_eq, ByteArray.toList_eq, beq_iff_eq, Lib.extract_data, show k + nm.size - k = nm.size from by omega, List.prefix_iff_eq_take, size_toList]
  exact eq_comm
theorem SuTo.bad {s : ByteArray} {k : Nat} {u : ByteArray} (h : SuTo s k u) (hv : textV u.data.toList = false) : unE s.data.toList = none := by
  apply unE_no
  intro t ht he
  obtain ⟨r, rfl, _⟩ := h.2 t ht he
  have : textV u.data.toList = true := by
    have h1 := textV_len ht
    have h2 := textV_all ht
    rw [List.length_append] at h1
    rw [List.all_append, Bool.and_eq_true] at h2
    exact textV_mk (by omega) h2.1
  rw [this] at hv; cases hv
theorem SuTo.other {s : ByteArray} {k : Nat} {u : ByteArray} (h : SuTo s k u) (hk : s.size ≤ k ∨ 80 < u.size) (hv : textV u.data.toList = true) (hne : esc u.data.toList ≠ s.data.toList) : unE s.data.toList = none := by
  apply unE_no
  intro t ht he
  obtain ⟨r, rfl, hr⟩ := h.2 t ht he
  rcases hk with hk | hk
  · rw [List.drop_of_length_le (by rw [size_toList]; exact hk)] at hr
    have : r = [] := by
      cases r with
      | nil => rfl
      | cons e r => rw [esc_cons] at hr; exact absurd (List.append_eq_nil_iff.1 hr).1 (escB_ne e)
    rw [this, List.append_nil] at he
    exact hne he
  · have := textV_size hv; omega

set_option maxHeartbeats 4000000 in
theorem spec_unescapeText (s : ByteArray) (w : World) (hs : s.size ≤ 1000000000) :
    Calls Tryd.prog 82 #[.string s] w fun e w' => e = .returned (strOpt (unB s.data.toList)) ∧ Below w.heap.size w w' := by
  go_enter Tryd.func82, Tryd.ntmps82
  go_wp2
  go_loopw [4, 5] (fun o i wr => ∃ (k : Nat) (u : ByteArray), o = .string u ∧ i = .int .i64 k ∧ k ≤ s.size ∧ u.size ≤ 81 ∧ Hid (SuTo s k u) ∧ Below w.heap.size w wr) (fun _ i _ => s.size - (intOf i).toNat)
  case atStart => exact ⟨0, ⟨#[]⟩, rfl, rfl, by omega, by decide, SuTo.zero s, Below.refl _ _⟩
  case round =>
    obtain ⟨k, u, rfl, rfl, hk, hu, ho, hbr⟩ := hrel
    by_cases hlt : k < s.size ∧ u.size ≤ 80
    · obtain ⟨hlt, hu80⟩ := hlt
      have hcv := conv1
      have z2 : ∀ x : UInt8, (⟨[x].toArray⟩ : ByteArray).size = 1 := fun _ => rfl
      have hd80 : decide ((u.size : Int) ≤ 80) = true := decide_eq_true (by omega)
      have hc255 : (s[k].toNat : Int) ≤ 255 := by have := s[k].toNat_lt; omega
      by_cases hc : s[k].toNat = 38
      · have hb : ((s[k].toNat : Int) == 38) = true := by rw [beq_iff_eq]; omega
        have HLone := Lib.hid (fun v hn hv => ho.out.lone (v := v) hlt hn hv)
        have HName := Lib.hid (fun j nm v h1 h2 h3 h4 => ho.out.name (j := j) (v := v) (nm := nm) hlt h1 h2 h3 h4)
        clear hc ho
        go_wp2
        go_loopg [5, 6, 7] 29 (fun gn i f b wx => ∃ (j k1 : Nat) (f1 : Int), i = .int .i64 k1 ∧ f = .int .u8 f1 ∧ b = .int .i64 j ∧ 34 ≤ j ∧ j ≤ 63 ∧ 63 ≤ j + gn ∧ Hid (k = k1 ∧ (s[k].toNat : Int) = f1 ∧ wr = wx) ∧ Hid (NoName s k j))
        case atStart => exact ⟨34, k, _, rfl, rfl, rfl, by omega, by omega, by omega, ⟨rfl, rfl, rfl⟩, NoName.zero s k⟩
        case round =>
          obtain ⟨j, k1, f1, rfl, rfl, rfl, j34, j63, jg, hkf, hn⟩ := hrel
          obtain ⟨hk1, hf1, hw1⟩ := hkf
          subst hk1
          subst hf1
          subst hw1
          by_cases hj : j ≤ 62
          · have c1 := Lib.hid (fun w => spec_l3Name (j : Int) w)
            obtain ⟨nm, hnm⟩ : ∃ nm : ByteArray, nm = ⟨(nameI (j : Int)).toArray⟩ := ⟨_, rfl⟩
            have hnl : nm.data.toList = nameI (j : Int) := by rw [hnm]
            rw [← hnm] at c1
            have hnz : nm.size ≤ 6 := by
              rw [← size_toList, hnl]
              unfold nameI; (repeat' split) <;> simp [ampN, ltN, gtN, quotN]
            clear hnm
            have HNL := Lib.hid hnl
            clear hnl
            have hu8 : IntKind.u8.wrap (j : Int) = (j : Int) := IntWalk.u8_in _ (by omega)
            cases he : nm.toList.isEmpty
            · have hne : nameI (j : Int) ≠ [] := by
                rw [← HNL.out, ← ByteArray.toList_eq]; exact List.isEmpty_eq_false_iff.1 he
              have hnz1 : 1 ≤ nm.size := by
                rcases Nat.eq_zero_or_pos nm.size with h0 | h0
                · exfalso; apply hne; rw [← HNL.out]; exact List.length_eq_zero_iff.1 (by rw [size_toList]; exact h0)
                · exact h0
              have HNE := Lib.hid hne
              clear hne
              by_cases hle : k + nm.size ≤ s.size
              · have HPE := Lib.hid (pre_ext hle)
                cases hp : ((s.extract k (k + nm.size)).toList == nm.toList)
                · have HN : Hid (NoName s k (j + 1)) := hn.out.next (.inr (by rw [← HNL.out, ← HPE.out, hp]; simp))
                  go_wp2_with fail
                  refine (c1.out _).mono ?_
                  rintro e w' ⟨rfl, rfl⟩
                  go_wp2
                  go_roundg (gk - 1)
                  case rel => exact ⟨j + 1, k, _, rfl, rfl, by go_num, by omega, by omega, by omega, ⟨rfl, rfl, rfl⟩, HN.out⟩
                  case measure => omega
                · have HP : Hid (nameI (j : Int) <+: s.data.toList.drop k) := by
                    have := HPE.out.1 hp; rw [HNL.out] at this; exact this
                  have HS := Lib.hid (HName.out j nm ⟨[UInt8.ofNat (j : Int).toNat].toArray⟩ HNL.out HNE.out HP.out (by simp))
                  have ek : ((k + nm.size : Nat) : Int) = (k : Int) + (nm.size : Int) - 1 + 1 := by omega
                  have z3 := z2 (UInt8.ofNat (j : Int).toNat)
                  clear z2
                  go_wp2_with fail
                  refine (c1.out _).mono ?_
                  rintro e w' ⟨rfl, rfl⟩
                  go_wp2
                  go_roundw
                  case rel => exact ⟨k + nm.size, _, rfl, by go_num, hle, by rw [ByteArray.size_append]; show u.size + (⟨[UInt8.ofNat (j : Int).toNat].toArray⟩ : ByteArray).size ≤ 81; rw [z3]; omega, HS.out, hbr.alloc hbr.size _⟩
                  case measure => simp [intOf]; omega
              · have HN : Hid (NoName s k (j + 1)) := hn.out.next (.inr (fun h => hle (by
                  have := h.length_le
                  rw [← HNL.out, List.length_drop, size_toList, size_toList] at this
                  omega)))
                go_wp2_with fail
                refine (c1.out _).mono ?_
                rintro e w' ⟨rfl, rfl⟩
                go_wp2
                go_roundg (gk - 1)
                case rel => exact ⟨j + 1, k, _, rfl, rfl, by go_num, by omega, by omega, by omega, ⟨rfl, rfl, rfl⟩, HN.out⟩
                case measure => omega
            · have HN : Hid (NoName s k (j + 1)) := hn.out.next (.inl (by
                rw [← HNL.out, ← ByteArray.toList_eq]; exact List.isEmpty_iff.1 he))
              go_wp2_with fail
              refine (c1.out _).mono ?_
              rintro e w' ⟨rfl, rfl⟩
              go_wp2
              go_roundg (gk - 1)
              case rel => exact ⟨j + 1, k, _, rfl, rfl, by go_num, by omega, by omega, by omega, ⟨rfl, rfl, rfl⟩, HN.out⟩
              case measure => omega
          · have HN : Hid (NoName s k 63) := by
              have := hn.out
              rw [show j = 63 from by omega] at this; exact this
            have z3 := z2 (UInt8.ofNat (s[k].toNat : Int).toNat)
            have HS := Lib.hid (HLone.out ⟨#[s[k]]⟩ HN.out rfl)
            clear z2
            go_wp2
            go_roundw
            case rel => exact ⟨k + 1, _, rfl, by go_num, by omega, by rw [ByteArray.size_append]; show u.size + 1 ≤ 81; omega, HS.out, hbr.alloc hbr.size _⟩
            case measure => simp [intOf]; omega
      · have hb : ((s[k].toNat : Int) == 38) = false := by rw [beq_eq_false_iff_ne]; omega
        have z3 := z2 (UInt8.ofNat (s[k].toNat : Int).toNat)
        have HS := Lib.hid (ho.out.plain (v := ⟨#[s[k]]⟩) hlt hc rfl)
        clear z2 hc
        go_wp2
        go_roundw
        case rel => exact ⟨k + 1, _, rfl, by go_num, by omega, by rw [ByteArray.size_append]; show u.size + 1 ≤ 81; omega, HS.out, hbr.alloc hbr.size _⟩
        case measure => simp [intOf]; omega
    · have hend : Hid (s.size ≤ k ∨ 80 < u.size) := by
        show _ ∨ _
        omega
      have hus : u.size ≤ maxLen := by unfold maxLen; omega
      have c1 := Lib.hid (fun w => spec_textValid u w hus)
      have c2 := Lib.hid (fun w => spec_escapeText u w hus)
      have hex : (k < s.size ∧ ¬ u.size ≤ 80) ∨ ¬ k < s.size := by omega
      clear hlt
      cases hv : textV u.data.toList
      · rw [hv] at c1
        have E := Lib.hid (unB_none (ho.out.bad hv))
        clear hv
        rcases hex with ⟨x1, x2⟩ | x1
        all_goals
          go_wp2_with fail
          refine (c1.out _).mono ?_
          rintro e w' ⟨rfl, rfl⟩
          go_wp2
          go_ret2
          exact ⟨ret_non E.out, hbr⟩
      · rw [hv] at c1
        obtain ⟨X, hX⟩ : ∃ X : ByteArray, X = ⟨(escT u.data.toList).toArray⟩ := ⟨_, rfl⟩
        have hXl : X.data.toList = esc u.data.toList := by rw [hX, escT_yes hv]
        rw [← hX] at c2
        clear hX
        cases hq : eqS X s
        · have hne : esc u.data.toList ≠ s.data.toList := by
            intro e
            rw [← Bool.not_eq_true, eqS_iff] at hq
            apply hq
            rw [← hXl] at e
            exact ba_inj e
          have E := Lib.hid (unB_none (ho.out.other hend.out hv hne))
          have hq2 : (X.toList == s.toList) = false := hq
          clear hv hq hne hXl
          rcases hex with ⟨x1, x2⟩ | x1
          all_goals
            go_wp2_with fail
            refine (c1.out _).mono ?_
            rintro e w' ⟨rfl, rfl⟩
            go_wp2_with fail
            refine (c2.out _).mono ?_
            rintro e w' ⟨rfl, rfl⟩
            go_wp2
            go_ret2
            exact ⟨ret_non E.out, hbr⟩
        · have E := Lib.hid (unB_some (unE_yes hv (hXl.symm.trans (congrArg (fun x : ByteArray => x.data.toList) ((eqS_iff X s).1 hq)))))
          have hq2 : (X.toList == s.toList) = true := hq
          clear hv hq hXl
          rcases hex with ⟨x1, x2⟩ | x1
          all_goals
            go_wp2_with fail
            refine (c1.out _).mono ?_
            rintro e w' ⟨rfl, rfl⟩
            go_wp2_with fail
            refine (c2.out _).mono ?_
            rintro e w' ⟨rfl, rfl⟩
            go_wp2
            go_ret2
            exact ⟨ret_opt E.out, hbr⟩
end Go.Proofs.YtldllhfadihmeaaDoor
