/- Items: their texts can be read. Plain facts, no program. No condition. -/
import Derived.Test.YtldllhfadihmeaaElem
import Derived.Test.YtldllhfadihmeaaDate
namespace Go.Proofs.Ytldllhfadihmeaa

/-- An item: key, title, body, day. -/
structure It where
  key : ByteArray
  title : ByteArray
  body : ByteArray
  day : Int
def itV (i : It) : Bool := wordV i.key.data.toList && textV i.title.data.toList && !i.title.data.toList.isEmpty && textV i.body.data.toList && inB i.day 0 1460969
theorem itV_iff (i : It) : itV i = true ↔ wordV i.key.data.toList = true ∧ textV i.title.data.toList = true ∧ i.title.data.toList.isEmpty = false ∧ textV i.body.data.toList = true ∧ 0 ≤ i.day ∧ i.day ≤ 1460969 := by
  unfold itV
  simp only [Bool.and_eq_true, Bool.not_eq_true', inB_iff]
  constructor
  · rintro ⟨⟨⟨⟨a, b⟩, c⟩, d⟩, e⟩; exact ⟨a, b, c, d, e⟩
  · rintro ⟨a, b, c, d, e⟩; exact ⟨⟨⟨⟨a, b⟩, c⟩, d⟩, e⟩
theorem itV_day (n : Int) : (dateT n).isEmpty = !inB n 0 1460969 := by
  by_cases h : 0 ≤ n ∧ n ≤ 1460969
  · rw [inB_true h.1 h.2]; exact List.isEmpty_eq_false_iff.2 (date_ne h.1 h.2)
  · rw [date_none (by omega), show inB n 0 1460969 = false from inB_not.2 (by omega)]; rfl

def bs (l : List UInt8) : ByteArray := ⟨l.toArray⟩
theorem bs_list (l : List UInt8) : (bs l).data.toList = l := rfl
theorem bs_of (s : ByteArray) : bs s.data.toList = s := rfl
def kKey : ByteArray := ⟨#[107, 101, 121]⟩
def kTitle : ByteArray := ⟨#[116, 105, 116, 108, 101]⟩
def kBody : ByteArray := ⟨#[98, 111, 100, 121]⟩
def kDay : ByteArray := ⟨#[100, 97, 121]⟩
theorem k_ne : kKey ≠ kTitle ∧ kKey ≠ kBody ∧ kKey ≠ kDay ∧ kTitle ≠ kBody ∧ kTitle ≠ kDay ∧ kBody ≠ kDay := by decide
noncomputable def itEs (i : It) : List El := [(kKey, i.key), (kTitle, i.title), (kBody, i.body), (kDay, bs (dateT i.day))]
theorem okB_digit {c : UInt8} (h : digit c = true) : okB c = true := by
  rw [digit_iff] at h; exact okB_true (by omega) (by omega)
theorem fmt_ok (y m d : Nat) : (fmt y m d).all okB = true := by
  have hp : ∀ w n, (pad w n).all okB = true := fun w n => by
    have h := pad_digits w n
    rw [List.all_eq_true] at h ⊢
    exact fun x hx => okB_digit (h x hx)
  unfold fmt
  simp only [List.all_append, List.all_cons, hp, Bool.and_true, Bool.true_and]
  decide
theorem date_text (n : Int) : textV (dateT n) = true := by
  by_cases h : 0 ≤ n ∧ n ≤ 1460969
  · obtain ⟨y, m, d, rfl, hd⟩ := date_ex h.1 h.2
    rw [date_of hd]
    exact textV_mk (by rw [fmt_len]; omega) (fmt_ok _ _ _)
  · rw [date_none (by omega)]; decide
theorem word_kKey : wordV kKey.data.toList = true := by decide
theorem word_kTitle : wordV kTitle.data.toList = true := by decide
theorem word_kBody : wordV kBody.data.toList = true := by decide
theorem word_kDay : wordV kDay.data.toList = true := by decide
theorem wordV_text {l : List UInt8} (h : wordV l = true) : textV l = true := by
  obtain ⟨h1, h2, h3⟩ := wordV_all h
  refine textV_mk (by omega) ?_
  rw [List.all_eq_true] at h3 ⊢
  intro x hx
  have := h3 x hx
  rw [lodB_iff] at this
  exact okB_true (by omega) (by omega)
theorem itEs_valid {i : It} (h : itV i = true) : (itEs i).all elV = true := by
  obtain ⟨h1, h2, h3, h4, h5⟩ := (itV_iff i).1 h
  simp only [itEs, List.all_cons, List.all_nil, Bool.and_true, Bool.and_eq_true, elV_iff]
  exact ⟨⟨word_kKey, wordV_text h1⟩, ⟨word_kTitle, h2⟩, ⟨word_kBody, h4⟩, ⟨word_kDay, date_text _⟩⟩
theorem itEs_v {i : It} (h : itV i = true) : elsV (itEs i) = true := (elsV_iff _).2 ⟨by simp [itEs], itEs_valid h⟩
noncomputable def itT (i : It) : List UInt8 := if itV i = true then elsL (itEs i) else []
theorem itT_yes {i : It} (h : itV i = true) : itT i = elsL (itEs i) := by unfold itT; rw [if_pos h]
theorem itT_no {i : It} (h : itV i = false) : itT i = [] := by unfold itT; rw [h]; rfl
theorem itT_els {i : It} (h : itV i = true) : itT i = elsT (itEs i) := by rw [itT_yes h, elsT_yes (itEs_v h)]
theorem itT_len (i : It) : (itT i).length ≤ 4008 := by
  cases h : itV i
  · rw [itT_no h]; simp
  · rw [itT_els h]; exact elsT_len _

/-- How many elements have a name; the text of the first one. -/
def cntE (l : List El) (n : ByteArray) : Nat := l.countP (fun e => eqS e.1 n)
def fstE (l : List El) (n : ByteArray) : ByteArray := ((l.find? (fun e => eqS e.1 n)).map (·.2)).getD ⟨#[]⟩
noncomputable def mkI (l : List El) : It := ⟨fstE l kKey, fstE l kTitle, fstE l kBody, readD (fstE l kDay).data.toList⟩
def onceE (l : List El) : Bool := decide (cntE l kKey = 1) && decide (cntE l kTitle = 1) && decide (cntE l kDay = 1) && decide (cntE l kBody ≤ 1)
theorem onceE_iff (l : List El) : onceE l = true ↔ cntE l kKey = 1 ∧ cntE l kTitle = 1 ∧ cntE l kDay = 1 ∧ cntE l kBody ≤ 1 := by
  simp [onceE, and_assoc]
noncomputable def ofE (l : List El) : Option It := if onceE l = true ∧ itV (mkI l) = true then some (mkI l) else none
noncomputable def readI (s : List UInt8) : Option It := (readE s).bind ofE
theorem readI_none {s : List UInt8} (h : readE s = none) : readI s = none := by unfold readI; rw [h]; rfl
theorem readI_els {s : List UInt8} {l : List El} (h : readE s = some l) : readI s = ofE l := by unfold readI; rw [h]; rfl
theorem ofE_yes {l : List El} (h1 : onceE l = true) (h2 : itV (mkI l) = true) : ofE l = some (mkI l) := by unfold ofE; rw [if_pos ⟨h1, h2⟩]
theorem ofE_no {l : List El} (h : onceE l = false ∨ itV (mkI l) = false) : ofE l = none := by
  unfold ofE; rw [if_neg]; rintro ⟨h1, h2⟩
  rcases h with h | h
  · rw [h] at h1; cases h1
  · rw [h] at h2; cases h2
theorem ofE_some {l : List El} {i : It} (h : ofE l = some i) : onceE l = true ∧ itV i = true ∧ i = mkI l := by
  unfold ofE at h
  split at h
  · rename_i hx; injection h with h; subst h; exact ⟨hx.1, hx.2, rfl⟩
  · cases h
theorem readI_some {s : List UInt8} {i : It} (h : readI s = some i) : ∃ l, readE s = some l ∧ onceE l = true ∧ itV i = true ∧ i = mkI l := by
  cases hl : readE s with
  | none => rw [readI_none hl] at h; cases h
  | some l => rw [readI_els hl] at h; exact ⟨l, rfl, ofE_some h⟩
theorem readI_valid {s : List UInt8} {i : It} (h : readI s = some i) : itV i = true := by
  obtain ⟨l, _, _, h2, _⟩ := readI_some h; exact h2
theorem itEs_once (i : It) : onceE (itEs i) = true := by
  obtain ⟨a, b, c, d, e, f⟩ := k_ne
  rw [onceE_iff]
  simp only [cntE, itEs, List.countP_cons, List.countP_nil, eqS_self, eqS_ne a, eqS_ne b, eqS_ne c, eqS_ne d, eqS_ne e, eqS_ne f, eqS_ne a.symm, eqS_ne b.symm, eqS_ne c.symm, eqS_ne d.symm, eqS_ne e.symm, eqS_ne f.symm]
  decide
theorem itEs_mk {i : It} (h : itV i = true) : mkI (itEs i) = i := by
  obtain ⟨a, b, c, d, e, f⟩ := k_ne
  obtain ⟨_, _, _, _, h0, h1⟩ := (itV_iff i).1 h
  obtain ⟨k, t, o, n⟩ := i
  simp only [mkI, fstE, itEs, List.find?_cons, eqS_self, eqS_ne a, eqS_ne b, eqS_ne c, eqS_ne d, eqS_ne e, eqS_ne f, Option.map_some, Option.getD_some]
  rw [bs_list, read_date h0 h1]
theorem read_item {i : It} (h : itV i = true) : readI (itT i) = some i := by
  rw [itT_els h, readI_els (read_els (itEs_v h)), ofE_yes (itEs_once i) (by rw [itEs_mk h]; exact h), itEs_mk h]

/-- Another element before it. -/
def kOther : ByteArray := ⟨#[111, 116, 104, 101, 114]⟩
def oX : El := (kOther, ⟨#[120]⟩)
theorem oX_text : elL oX = [60, 111, 116, 104, 101, 114, 62, 120, 60, 47, 111, 116, 104, 101, 114, 62] := by decide
theorem oX_valid : elV oX = true := by decide
theorem o_ne : kOther ≠ kKey ∧ kOther ≠ kTitle ∧ kOther ≠ kBody ∧ kOther ≠ kDay := by decide
theorem read_other {i : It} (h : itV i = true) : readI (elL oX ++ itT i) = some i := by
  have hv : elsV (oX :: itEs i) = true := (elsV_iff _).2 ⟨by simp [itEs], by rw [List.all_cons, oX_valid, itEs_valid h]; rfl⟩
  have hr : readE (elL oX ++ itT i) = some (oX :: itEs i) := readE_yes hv (by rw [elsL_cons, itT_yes h])
  obtain ⟨a, b, c, d⟩ := o_ne
  have e0 : ∀ n, n ≠ kOther → fstE (oX :: itEs i) n = fstE (itEs i) n := fun n hn => by
    unfold fstE; rw [List.find?_cons]; simp [oX, eqS_ne hn.symm]
  have e1 : ∀ n, n ≠ kOther → cntE (oX :: itEs i) n = cntE (itEs i) n := fun n hn => by
    unfold cntE; rw [List.countP_cons]; simp [oX, eqS_ne hn.symm]
  have ho : onceE (oX :: itEs i) = true := by
    have := itEs_once i
    rw [onceE_iff] at this ⊢
    rw [e1 _ a.symm, e1 _ b.symm, e1 _ c.symm, e1 _ d.symm]; exact this
  have hm : mkI (oX :: itEs i) = i := by
    have := itEs_mk h
    unfold mkI at this ⊢
    rw [e0 _ a.symm, e0 _ b.symm, e0 _ c.symm, e0 _ d.symm]; exact this
  rw [readI_els hr, ofE_yes ho (by rw [hm]; exact h), hm]
/-- A second key behind it. -/
def kX : El := (kKey, ⟨#[107]⟩)
theorem kX_text : elL kX = [60, 107, 101, 121, 62, 107, 60, 47, 107, 101, 121, 62] := by decide
theorem kX_valid : elV kX = true := by decide
theorem read_second {s : List UInt8} {i : It} (h : readI s = some i) : readI (s ++ elL kX) = none := by
  obtain ⟨l, hl, ho, _, _⟩ := readI_some h
  obtain ⟨hv, hs⟩ := readE_some hl
  have ha := ((elsV_iff l).1 hv).2
  by_cases h8 : l.length < 8
  · have hr : readE (s ++ elL kX) = some (l ++ [kX]) := readE_yes ((elsV_iff _).2 ⟨by simp; omega, by rw [List.all_append, ha]; rfl⟩) (by rw [elsL_snoc, hs])
    rw [readI_els hr]
    apply ofE_no; left
    rw [← Bool.not_eq_true, onceE_iff]
    rintro ⟨h1, _⟩
    rw [onceE_iff] at ho
    have : cntE (l ++ [kX]) kKey = cntE l kKey + 1 := by unfold cntE; rw [List.countP_append, List.countP_cons, List.countP_nil, show kX.1 = kKey from rfl, eqS_self]; rfl
    omega
  · apply readI_none
    exact firstE_more ha (by rw [hs]) (elL_ne kX) (by have := ((elsV_iff l).1 hv).1; omega)
end Go.Proofs.Ytldllhfadihmeaa
