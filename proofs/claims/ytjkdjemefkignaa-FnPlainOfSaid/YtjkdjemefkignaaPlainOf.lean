/- Plain texts: what is between < and > is left out. Plain facts, no program. No condition. -/
import Derived.Test.YtjkdjemefkignaaPlain
namespace Go.Proofs.Ytjkdjemefkignaa

def plainF : Bool → List UInt8 → List UInt8
  | _, [] => []
  | true, c :: l => if c = 62 then plainF false l else plainF true l
  | false, c :: l => if c = 60 then plainF true l else c :: plainF false l
theorem plainF_nil (b : Bool) : plainF b [] = [] := by cases b <;> rfl
theorem plainF_out (a : List UInt8) (l : List UInt8) (h : 60 ∉ a) : plainF false (a ++ l) = a ++ plainF false l := by
  induction a with
  | nil => rfl
  | cons c a ih =>
    have h1 : c ≠ 60 := fun e => h (by rw [e]; exact List.mem_cons_self ..)
    rw [List.cons_append, plainF, if_neg h1, ih (fun e => h (List.mem_cons_of_mem _ e))]; rfl
theorem plainF_open (l : List UInt8) : plainF false (60 :: l) = plainF true l := by rw [plainF, if_pos rfl]
theorem plainF_in (a : List UInt8) (l : List UInt8) (h : 62 ∉ a) : plainF true (a ++ 62 :: l) = plainF false l := by
  induction a with
  | nil => rw [List.nil_append, plainF, if_pos rfl]
  | cons c a ih =>
    have h1 : c ≠ 62 := fun e => h (by rw [e]; exact List.mem_cons_self ..)
    rw [List.cons_append, plainF, if_neg h1, ih (fun e => h (List.mem_cons_of_mem _ e))]
theorem plainF_end (a : List UInt8) (h : 62 ∉ a) : plainF true a = [] := by
  induction a with
  | nil => rfl
  | cons c a ih =>
    have h1 : c ≠ 62 := fun e => h (by rw [e]; exact List.mem_cons_self ..)
    rw [plainF, if_neg h1, ih (fun e => h (List.mem_cons_of_mem _ e))]
theorem plainF_same (a : List UInt8) (h : 60 ∉ a) : plainF false a = a := by
  have := plainF_out a [] h; rwa [plainF_nil, List.append_nil] at this
theorem plainF_no (l : List UInt8) : ∀ b, 60 ∉ plainF b l := by
  induction l with
  | nil => intro b; rw [plainF_nil]; simp
  | cons c l ih =>
    intro b
    cases b
    · rw [plainF]; split
      · exact ih _
      · rename_i h; intro e; rcases List.mem_cons.1 e with e | e
        · exact h e.symm
        · exact ih _ e
    · rw [plainF]; split <;> exact ih _
theorem plainF_sub (l : List UInt8) : ∀ b, (plainF b l).Sublist l := by
  induction l with
  | nil => intro b; rw [plainF_nil]; exact List.Sublist.slnil
  | cons c l ih =>
    intro b
    cases b
    · rw [plainF]; split
      · exact (ih _).cons _
      · exact (ih _).cons_cons _
    · rw [plainF]; split <;> exact (ih _).cons _
def plainT (l : List UInt8) : List UInt8 := if textV l = true then plainF false l else []
theorem plainT_yes {l : List UInt8} (h : textV l = true) : plainT l = plainF false l := by unfold plainT; rw [if_pos h]
theorem plainT_no {l : List UInt8} (h : textV l = false) : plainT l = [] := by unfold plainT; rw [h]; rfl
theorem plainT_none (l : List UInt8) : 60 ∉ plainT l := by
  cases h : textV l
  · rw [plainT_no h]; simp
  · rw [plainT_yes h]; exact plainF_no l _
theorem plainT_sub (l : List UInt8) : (plainT l).Sublist l := by
  cases h : textV l
  · rw [plainT_no h]; exact List.nil_sublist l
  · rw [plainT_yes h]; exact plainF_sub l _
theorem textV_sub {a b : List UInt8} (h : a.Sublist b) (hb : textV b = true) : textV a = true := by
  simp only [textV, Bool.and_eq_true, decide_eq_true_eq] at hb ⊢
  refine ⟨Nat.le_trans h.length_le hb.1, ?_⟩
  have h2 := hb.2
  rw [List.all_eq_true] at h2 ⊢
  exact fun x hx => h2 x (h.subset hx)
theorem plainT_valid (l : List UInt8) : textV (plainT l) = true := by
  cases h : textV l
  · rw [plainT_no h]; decide
  · exact textV_sub (plainT_sub l) h
theorem plainT_twice (l : List UInt8) : plainT (plainT l) = plainT l := by
  rw [plainT_yes (plainT_valid l), plainF_same _ (plainT_none l)]
theorem plainT_len (l : List UInt8) : (plainT l).length ≤ l.length := (plainT_sub l).length_le
theorem plainT_len80 (l : List UInt8) : (plainT l).length ≤ 80 := by
  have := plainT_valid l
  simp only [textV, Bool.and_eq_true, decide_eq_true_eq] at this; exact this.1
end Go.Proofs.Ytjkdjemefkignaa
