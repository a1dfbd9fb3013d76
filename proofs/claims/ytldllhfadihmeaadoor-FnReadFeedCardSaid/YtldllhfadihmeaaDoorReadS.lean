/- ReadElements of the reference reads a text of elements. -/
import Derived.Test.YtldllhfadihmeaaDoorReadP
import Derived.Test.YtldllhfadihmeaaDoorReadW
import Derived.Test.YtldllhfadihmeaaDoorUnescS
import Derived.Test.YtldllhfadihmeaaDoorElsW
import Derived.Deep.CutBlock
import Derived.Deep.CutRange
import Derived.Says
namespace Go.Proofs.YtldllhfadihmeaaDoor
open Go.RowKit

theorem ScanC.mk' {s : ByteArray} {c : UInt8} {i j : Nat} (h1 : i ≤ j) (h2 : j ≤ s.size) (h3 : FreeC s.data.toList c i j) (h4 : j = s.size ∨ s.data.toList[j]? = some c) : ScanC s.data.toList c i j :=
  ⟨h1, by rw [size_toList]; exact h2, h3, by rw [size_toList]; exact h4⟩
theorem byte_at' {s : ByteArray} {k : Nat} (h : k < s.size) : s.data.toList[k]? = some s[k] := by
  rw [List.getElem?_eq_getElem (by rw [size_toList]; exact h)]; rfl
theorem byte_is {s : ByteArray} {k : Nat} (h : k < s.size) (c : UInt8) (hc : s[k].toNat = c.toNat) : s.data.toList[k]? = some c := by
  rw [byte_at' h, UInt8.toNat_inj.1 hc]
theorem byte_not {s : ByteArray} {k : Nat} (h : k < s.size) (c : UInt8) (hc : ¬ s[k].toNat = c.toNat) : s.data.toList[k]? ≠ some c := by
  rw [byte_at' h]
  intro e
  injection e with e
  exact hc (by rw [e])

theorem World.ownsRow_made' (w : World) (base : Nat) (h : base ≤ w.heap.size) : (w.alloc (.cells #[] 67)).ownsRow base 67 2 (.slice (some ⟨w.heap.size, 0, none⟩) 0 0) 0 [] := by
  have := World.ownsRow_made (e := 67) (size := 2) w #[] 0 (Nat.le_refl _) (by unfold maxLen; omega) rfl
  obtain ⟨h1, h2⟩ := this
  refine ⟨h1, ?_⟩
  rcases h2 with h2 | ⟨g, cap, cur, hv, hg, r⟩
  · exact .inl h2
  · exact .inr ⟨g, cap, cur, hv, Nat.le_trans h hg, r⟩

theorem World.ownsRow_madeq (w : World) (base : Nat) (h : base ≤ w.heap.size) (q : Nat) (hq : w.heap.size = q) : (w.alloc (.cells #[] 67)).ownsRow base 67 2 (.slice (some ⟨q, 0, none⟩) 0 0) 0 [] := by
  subst hq; exact World.ownsRow_made' w base h
theorem own_drewN {w : World} {base t size n : Nat} {v : Value} {xs : List Value} (h : w.ownsRow base t size v n xs) (q : Nat) : (w.drewN q).ownsRow base t size v n xs := h
theorem cell_two_newQ (W : World) (o : Obj) (q : Nat) (a b : Value) (t : TypeId) : ∀ j u, [a, b][j]? = some u → (((W.alloc o).drewN q).alloc (.cells #[a, b] t)).cell? ((⟨W.heap.size + 1, 0, none⟩ : Addr).add j) = some u := by
  have := cell_two_new ((W.alloc o).drewN q) a b t
  simpa using this
theorem els_cap {l : List El} {x y : ByteArray} (h : ∀ e ∈ l, e.1.size ≤ maxLen ∧ e.2.size ≤ maxLen) (hx : x.size ≤ maxLen) (hy : y.size ≤ maxLen) : ∀ e ∈ l ++ [(x, y)], e.1.size ≤ maxLen ∧ e.2.size ≤ maxLen := by
  intro e he
  rw [List.mem_append, List.mem_singleton] at he
  rcases he with he | rfl
  · exact h e he
  · exact ⟨hx, hy⟩
theorem ElAt.own' {w : World} {base t n cap : Nat} {a : Option Addr} {l : List El} (h : w.ownsRow base t 2 (.slice a n cap) n (flatE l)) (hn : l.length = n) : ElAt w a l := by
  by_cases h0 : 0 < n
  · obtain ⟨g, c, hv, _⟩ := h.form h0
    injection hv with e1 e2 e3
    subst e1; subst e3
    exact ElAt.own h hn
  · obtain rfl : l = [] := List.eq_nil_of_length_eq_zero (by omega)
    exact ElAt.nil _ _

set_option maxRecDepth 100000 in
set_option maxHeartbeats 2000000 in
theorem spec_readElements (s : ByteArray) (w : World) (hs : s.size ≤ 1000000000) :
    Calls Tryd.prog 62 #[.string s] w (ElsRead (readE s.data.toList) w) := by
  obtain ⟨ti, hti, iz0, iz1, iz2⟩ := info_parts Tryd.infoE
  go_enter Tryd.func62, Tryd.ntmps62
  go_wp2_with fail
  go_loopw [4, 5] (fun o t wr => ∃ (a : Option Addr) (k cap p : Nat) (l : List El), o = .slice a k cap ∧ t = .int .i64 p ∧ k ≤ 8 ∧ l.length = k ∧ p ≤ s.size ∧ Hid (SpTo s l p) ∧ Hid (∀ e ∈ l, e.1.size ≤ maxLen ∧ e.2.size ≤ maxLen) ∧ wr.ownsRow w.heap.size 67 2 (.slice a k cap) k (flatE l) ∧ Below w.heap.size w wr) (fun _ t _ => s.size - (intOf t).toNat)
  case atStart => exact ⟨some ⟨w.heap.size, 0, none⟩, 0, 0, 0, [], rfl, rfl, by omega, rfl, by omega, SpTo.zero s, (fun e h => by simp at h), World.ownsRow_made w #[] 0 (Nat.le_refl _) (by unfold maxLen; omega) rfl, (Below.refl _ _).alloc (Nat.le_refl _) _⟩
  case round =>
    obtain ⟨a, k, cap, p, l, rfl, rfl, hk, hl, hps, ho, hsz, hown, hbr⟩ := hrel
    have HL := Lib.hid hl
    clear hl
    by_cases h0 : p < s.size
    · skip
      go_upto_block 2 with (fail)
      go_cut [6] from 13 to 109 (fun t wx => ∃ j : Nat, t = .int .i64 j ∧ p + 1 ≤ j ∧ j ≤ s.size ∧ Hid (ScanC s.data.toList 62 (p + 1) j) ∧ wr = wx)
      case first =>
        go_wp2_with fail
        go_loopg [6] s.size (fun gn t wx => ∃ j : Nat, t = .int .i64 j ∧ p + 1 ≤ j ∧ j ≤ s.size ∧ s.size ≤ j + gn ∧ Hid (FreeC s.data.toList 62 (p + 1) j) ∧ Hid (wr = wx))
        case atStart => exact ⟨p + 1, rfl, by omega, by omega, by omega, FreeC.zero _ _ _, rfl⟩
        case round =>
          obtain ⟨j, rfl, hj1, hj2, hjg, hf, hw⟩ := hrel
          have hw0 := hw.out
          subst hw0
          by_cases hj : j < s.size
          · by_cases hc : s[j].toNat = 62
            · have hb : ((s[j].toNat : Int) != 62) = false := by rw [bne_eq_false_iff_eq]; omega
              have HS := Lib.hid (ScanC.mk' hj1 hj2 hf.out (.inr (byte_is hj 62 hc)))
              clear hc
              go_wp2
              go_meet
              exact ⟨j, rfl, hj1, hj2, HS.out, rfl⟩
            · have hb : ((s[j].toNat : Int) != 62) = true := by rw [bne_iff_ne]; omega
              have HF := Lib.hid (hf.out.next (byte_not hj 62 hc))
              clear hc
              go_wp2
              go_roundg (gk - 1)
              case rel => exact ⟨j + 1, by go_num, by omega, by omega, by omega, HF.out, rfl⟩
              case measure => omega
          · have HS := Lib.hid (ScanC.mk' hj1 hj2 hf.out (.inl (by omega)))
            go_wp2
            go_meet
            exact ⟨j, rfl, hj1, hj2, HS.out, rfl⟩
      obtain ⟨n, rfl, n1, n2, Hn, rfl⟩ := hcut
      go_upto_block 4 with (fail)
      go_cut [7] from 13 to 109 (fun t wx => ∃ j : Nat, t = .int .i64 j ∧ n ≤ j ∧ j ≤ s.size ∧ Hid (ScanC s.data.toList 60 (n) j) ∧ wr = wx)
      case first =>
        go_wp2_with fail
        go_loopg [7] s.size (fun gn t wx => ∃ j : Nat, t = .int .i64 j ∧ n ≤ j ∧ j ≤ s.size ∧ s.size ≤ j + gn ∧ Hid (FreeC s.data.toList 60 (n) j) ∧ Hid (wr = wx))
        case atStart => exact ⟨n, rfl, by omega, by omega, by omega, FreeC.zero _ _ _, rfl⟩
        case round =>
          obtain ⟨j, rfl, hj1, hj2, hjg, hf, hw⟩ := hrel
          have hw0 := hw.out
          subst hw0
          by_cases hj : j < s.size
          · by_cases hc : s[j].toNat = 60
            · have hb : ((s[j].toNat : Int) != 60) = false := by rw [bne_eq_false_iff_eq]; omega
              have HS := Lib.hid (ScanC.mk' hj1 hj2 hf.out (.inr (byte_is hj 60 hc)))
              clear hc
              go_wp2
              go_meet
              exact ⟨j, rfl, hj1, hj2, HS.out, rfl⟩
            · have hb : ((s[j].toNat : Int) != 60) = true := by rw [bne_iff_ne]; omega
              have HF := Lib.hid (hf.out.next (byte_not hj 60 hc))
              clear hc
              go_wp2
              go_roundg (gk - 1)
              case rel => exact ⟨j + 1, by go_num, by omega, by omega, by omega, HF.out, rfl⟩
              case measure => omega
          · have HS := Lib.hid (ScanC.mk' hj1 hj2 hf.out (.inl (by omega)))
            go_wp2
            go_meet
            exact ⟨j, rfl, hj1, hj2, HS.out, rfl⟩
      obtain ⟨e, rfl, e1, e2, He, rfl⟩ := hcut
      go_upto_block 6 with (fail)
      go_cut [8] from 13 to 109 (fun t wx => ∃ j : Nat, t = .int .i64 j ∧ e ≤ j ∧ j ≤ s.size ∧ Hid (ScanC s.data.toList 62 (e) j) ∧ wr = wx)
      case first =>
        go_wp2_with fail
        go_loopg [8] s.size (fun gn t wx => ∃ j : Nat, t = .int .i64 j ∧ e ≤ j ∧ j ≤ s.size ∧ s.size ≤ j + gn ∧ Hid (FreeC s.data.toList 62 (e) j) ∧ Hid (wr = wx))
        case atStart => exact ⟨e, rfl, by omega, by omega, by omega, FreeC.zero _ _ _, rfl⟩
        case round =>
          obtain ⟨j, rfl, hj1, hj2, hjg, hf, hw⟩ := hrel
          have hw0 := hw.out
          subst hw0
          by_cases hj : j < s.size
          · by_cases hc : s[j].toNat = 62
            · have hb : ((s[j].toNat : Int) != 62) = false := by rw [bne_eq_false_iff_eq]; omega
              have HS := Lib.hid (ScanC.mk' hj1 hj2 hf.out (.inr (byte_is hj 62 hc)))
              clear hc
              go_wp2
              go_meet
              exact ⟨j, rfl, hj1, hj2, HS.out, rfl⟩
            · have hb : ((s[j].toNat : Int) != 62) = true := by rw [bne_iff_ne]; omega
              have HF := Lib.hid (hf.out.next (byte_not hj 62 hc))
              clear hc
              go_wp2
              go_roundg (gk - 1)
              case rel => exact ⟨j + 1, by go_num, by omega, by omega, by omega, HF.out, rfl⟩
              case measure => omega
          · have HS := Lib.hid (ScanC.mk' hj1 hj2 hf.out (.inl (by omega)))
            go_wp2
            go_meet
            exact ⟨j, rfl, hj1, hj2, HS.out, rfl⟩
      obtain ⟨c, rfl, c1, c2, Hc, rfl⟩ := hcut
      have hb2 : Hid (∀ f, elV f = true → elL f <+: s.data.toList.drop p → c < s.size ∧ s.data.toList[p]? = some 60 ∧ (s.extract (p + 1) n).data.toList = f.n ∧ (s.extract (n + 1) e).data.toList = esc f.t ∧ (s.extract e (c + 1)).data.toList = 60 :: 47 :: (f.n ++ [62])) :=
        fun f hf h => scans_valid Hn.out He.out Hc.out hf h
      by_cases hcs : c < s.size
      · have hq1 : ((c : Int) == (s.size : Int)) = false := by rw [beq_eq_false_iff_ne]; omega
        by_cases hp60 : s[p].toNat = 60
        · have hq2 : ((s[p].toNat : Int) != 60) = false := by rw [bne_eq_false_iff_eq]; omega
          have HP := Lib.hid (byte_is h0 60 hp60)
          clear hp60
          by_cases h8 : k = 8
          · have E := Lib.hid (ho.out.full h0 (HL.out.trans h8))
            subst h8
            go_wp2
            go_ret2
            exact elsRead_no E.out _ _ (World.ownsRow_made' _ _ hbr.size) (hbr.alloc hbr.size _)
          · have hq3 : ((k : Int) == 8) = false := by rw [beq_eq_false_iff_ne]; omega
            have hne : n < e := by
              have g1 : s.data.toList[n]? = some 62 := Hn.out.2.2.2.resolve_left (by rw [size_toList]; omega)
              have g2 : s.data.toList[e]? = some 60 := He.out.2.2.2.resolve_left (by rw [size_toList]; omega)
              by_cases hh : n = e
              · rw [hh, g2] at g1; exact absurd g1 (by decide)
              · omega
            have hz1 : (s.extract (n + 1) e).size ≤ 1000000000 := by rw [ByteArray.size_extract]; omega
            have c2 := Lib.hid (fun w => spec_unescapeText (s.extract (n + 1) e) w hz1)
            have hz2 : (s.extract (p + 1) n).size ≤ 1000000000 := by rw [ByteArray.size_extract]; omega
            obtain ⟨A, hA⟩ : ∃ A, A = s.extract (p + 1) n := ⟨_, rfl⟩
            rw [← hA] at hz2
            have q1 : (⟨#[60, 47]⟩ : ByteArray).size = 2 := rfl
            have q2 : (⟨#[62]⟩ : ByteArray).size = 1 := rfl
            have hAz : A.size = n - (p + 1) := by rw [hA, ByteArray.size_extract]; omega
            subst hA
            have q3 : ¬ 9223372036854775807 < 2 + (n - (p + 1)) := by omega
            have q4 : ¬ 9223372036854775807 < 2 + (n - (p + 1)) + 1 := by omega
            have hX : Hid (∀ w2 t, Below wr.heap.size wr w2 → Below w.heap.size w (w2.alloc (.cells #[.string (s.extract (p + 1) n), .string t] 67))) := fun w2 t h => (hbr.trans (h.mono hbr.size)).alloc (hbr.trans (h.mono hbr.size)).size _
            have hu0 : unE (s.extract (n + 1) e).data.toList = none ∨ ∃ t, unE (s.extract (n + 1) e).data.toList = some t := by
              cases unE (s.extract (n + 1) e).data.toList with
              | none => exact .inl rfl
              | some t => exact .inr ⟨t, rfl⟩
            rcases hu0 with hu | ⟨t, hu⟩
            · have E := Lib.hid (ho.out.bad h0 (fun f hf h => unE_none hu f.t ((elV_iff f).1 hf).2 (hb2.out f hf h).2.2.2.1.symm))
              rw [unB_none hu] at c2
              unfold strOpt at c2
              clear hu
              go_wp2_with fail
              refine (c2.out _).mono ?_
              rintro e1 w2 ⟨rfl, hbx⟩
              have hbz := hX.out w2 ⟨#[]⟩ hbx
              go_wp2_with fail
              go_quiet (fail)
              have hbq := below_drewN' hbz nq
              go_wp2
              go_ret2
              exact elsRead_no E.out _ _ (World.ownsRow_madeq _ _ hbq.size _ (by simp)) (hbq.alloc hbq.size _)
            · obtain ⟨tb, htb⟩ : ∃ tb : ByteArray, tb = ⟨t.toArray⟩ := ⟨_, rfl⟩
              have htl : tb.data.toList = t := by rw [htb]
              rw [unB_some hu, ← htb] at c2
              unfold strOpt at c2
              have htz : tb.size ≤ 80 := by rw [← size_toList, htl]; exact textV_len (unE_some hu).1
              have hcl : ((⟨#[60, 47]⟩ : ByteArray) ++ s.extract (p + 1) n ++ ⟨#[62]⟩).data.toList = 60 :: 47 :: ((s.extract (p + 1) n).data.toList ++ [62]) := by rw [ba_app, ba_app]; simp
              have hX2 : Hid (∀ w2, Below wr.heap.size wr w2 → Below w.heap.size w (w2.alloc (.cells #[.string (s.extract (p + 1) n), .string tb] 67))) := fun w2 h => hX.out w2 tb h
              have hkept : Hid (∀ w2, Below wr.heap.size wr w2 → w2.ownsRow w.heap.size 67 2 (.slice a k cap) k (flatE l)) := fun w2 h => hown.kept (below_grown h) (by cases (Value.slice a k cap).ownBlock <;> simp)
              have hlow : Hid (∀ j, (Value.slice a k cap).ownBlock = some j → w.heap.size ≤ j) := fun j e => (hown.lt j e).1
              by_cases heq : (s.extract e (c + 1)).data.toList = 60 :: 47 :: ((s.extract (p + 1) n).data.toList ++ [62])
              · have hq : ((s.extract e (c + 1)).toList == ((⟨#[60, 47]⟩ : ByteArray) ++ s.extract (p + 1) n ++ ⟨#[62]⟩).toList) = true := by rw [beq_iff_eq, ByteArray.toList_eq, ByteArray.toList_eq, hcl]; exact heq
                have HO := Lib.hid (ho.out.next Hn.out He.out Hc.out HP.out hcs hu heq (f := (s.extract (p + 1) n, tb)) rfl htl)
                have HZ := Lib.hid (els_cap hsz.out (x := s.extract (p + 1) n) (y := tb) (by unfold maxLen; omega) (by unfold maxLen; omega))
                clear heq hu hcl htl htb hown hsz ho
                go_wp2_with fail
                refine (c2.out _).mono ?_
                rintro e1 w2 ⟨rfl, hbx⟩
                have hbz := hX2.out w2 hbx
                have own2 := hkept.out w2 hbx
                go_wp2_with fail
                go_quiet (fail)
                have hbq := below_drewN' hbz nq
                have own3 := Lib.hid (own_drewN (own2.alloc (.cells #[.string (s.extract (p + 1) n), .string tb] 67)) nq)
                clear own2
                go_wp2_with (at_builtin; refine wpList_append_lies _ rfl _ _ 68 rfl w.heap.size 67 ti _ 2 32 Tryd.underlying68 hti iz0 iz1 iz2 rfl (by decide) _ k (flatE l) rfl (own3.out.alloc _) ⟨w2.heap.size + 1, 0, none⟩ 1 1 [.string (s.extract (p + 1) n), .string tb] rfl rfl (cell_two_newQ _ _ _ _ _ _) (fun x hx => by simp at hx; rcases hx with rfl | rfl <;> rfl) (by omega) (by unfold maxLen; omega) (by omega) (by have := hbz.size; simp at this; simp; omega) _ rfl ?_; intro q2 cap2 w5 hown5 hgrow5 hat5 hlt5)
                have hb5 := Below.grown (hbq.alloc hbq.size _) hgrow5 (by have := hbq.size; simp at this; simp; omega) hlow.out
                have HO5 := Lib.hid hown5
                clear hown5 hgrow5 hat5
                go_wp2
                go_roundw
                case rel => exact ⟨some ⟨q2, 0, none⟩, k + 1, cap2, c + 1, l ++ [(s.extract (p + 1) n, tb)], rfl, by go_num, by omega, by simp [HL.out], by omega, HO.out, HZ.out, by rw [flatE_app]; exact HO5.out, hb5⟩
                case measure => simp [intOf]; omega
              · have hq : ((s.extract e (c + 1)).toList == ((⟨#[60, 47]⟩ : ByteArray) ++ s.extract (p + 1) n ++ ⟨#[62]⟩).toList) = false := by rw [beq_eq_false_iff_ne, ByteArray.toList_eq, ByteArray.toList_eq, hcl]; exact heq
                have E := Lib.hid (ho.out.bad h0 (fun f hf h => by
                  obtain ⟨_, _, g1, _, g2⟩ := hb2.out f hf h
                  exact heq (by rw [g1]; exact g2)))
                clear heq hu hcl htl htb hown hsz ho
                go_wp2_with fail
                refine (c2.out _).mono ?_
                rintro e1 w2 ⟨rfl, hbx⟩
                have hbz := hX2.out w2 hbx
                go_wp2_with fail
                go_quiet (fail)
                have hbq := below_drewN' hbz nq
                go_wp2
                go_ret2
                exact elsRead_no E.out _ _ (World.ownsRow_madeq _ _ hbq.size _ (by simp)) (hbq.alloc hbq.size _)
        · have hq2 : ((s[p].toNat : Int) != 60) = true := by rw [bne_iff_ne]; omega
          have E := Lib.hid (ho.out.bad h0 (fun f hf h => byte_not h0 60 hp60 (hb2.out f hf h).2.1))
          clear hp60
          go_wp2
          go_ret2
          exact elsRead_no E.out _ _ (World.ownsRow_made' _ _ hbr.size) (hbr.alloc hbr.size _)
      · have hq1 : ((c : Int) == (s.size : Int)) = true := by rw [beq_iff_eq]; omega
        have E := Lib.hid (ho.out.bad h0 (fun f hf h => hcs (hb2.out f hf h).1))
        go_wp2
        go_ret2
        exact elsRead_no E.out _ _ (World.ownsRow_made' _ _ hbr.size) (hbr.alloc hbr.size _)
    · have EA := Lib.hid (ElAt.own' hown HL.out)
      have c1 := Lib.hid (fun w h => spec_elementsValid a k cap l w h HL.out (by unfold maxLen; omega) hsz.out)
      cases hv : elsV l
      · rw [hv] at c1
        have E := Lib.hid (ho.out.no h0 hv)
        clear hv
        go_wp2_with fail
        refine (c1.out _ EA.out).mono ?_
        rintro e w' ⟨rfl, rfl⟩
        go_wp2
        go_ret2
        exact elsRead_no E.out _ _ (World.ownsRow_made' _ _ hbr.size) (hbr.alloc hbr.size _)
      · rw [hv] at c1
        have E := Lib.hid (ho.out.yes h0 hv)
        clear hv
        go_wp2_with fail
        refine (c1.out _ EA.out).mono ?_
        rintro e w' ⟨rfl, rfl⟩
        go_wp2
        go_ret2
        exact elsRead_yes E.out a k cap hown HL.out hbr
end Go.Proofs.YtldllhfadihmeaaDoor
