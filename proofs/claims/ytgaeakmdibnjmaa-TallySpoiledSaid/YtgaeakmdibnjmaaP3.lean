/- Plain laws of adding, for TallyLater: the later state takes the earlier one in, and no other device changes. -/
import Derived.Test.YtgaeakmdibnjmaaP2
set_option linter.unusedSimpArgs false
namespace Go.Proofs.Ytgaeakmdibnjmaa
namespace E
open Go

theorem merge_ins {l : List Tally} {d s n : Int} (hok : okFrom (-1) l = true) (hw : within d s = true) (hf : fresh l d s = true) : mergeT l (ins l d s n) = ins l d s n := by
  have h1 := ins_ok (n := n) hok hw (within_pos hw)
  refine sorted_ext (merge_ok hok h1) h1 fun x => ?_
  rw [lk_merge hok h1, lk_ins hok]
  by_cases e : x = d
  · subst e
    rw [if_pos rfl]
    unfold fresh at hf
    cases hl : lk l x with
    | none => rfl
    | some p =>
      obtain ⟨s0, n0⟩ := p
      rw [hl] at hf
      have : s0 < s := by simpa using hf
      simp only [mx]
      rw [if_pos (.inl this)]
  · rw [if_neg e, mx_idem]

def oth (d : Int) (l : List Tally) : Nat := l.countP (fun t => decide (t.dev ≠ d))
theorem oth_low {d : Int} : ∀ {l : List Tally}, okFrom d l = true → oth d l = l.length
  | [], _ => rfl
  | t :: l, h => by
    simp only [okFrom, Bool.and_eq_true, decide_eq_true_eq] at h
    have h2 : okFrom d l = true := by
      revert h; intro h
      have := h.2
      have h3 := h.1.2
      clear h
      induction l with
      | nil => rfl
      | cons y l ih => simp only [okFrom, Bool.and_eq_true, decide_eq_true_eq] at this ⊢; exact ⟨⟨this.1.1, by omega⟩, this.2⟩
    have ih := oth_low h2
    unfold oth at ih ⊢
    rw [List.countP_cons_of_pos (by simp; omega), ih, List.length_cons]
theorem oth_ins {last d s n : Int} : ∀ {l : List Tally}, okFrom last l = true → oth d (ins l d s n) + 1 = (ins l d s n).length
  | [], _ => by simp [ins, oth]
  | x :: l, h => by
    have h0 := h
    simp only [okFrom, Bool.and_eq_true, decide_eq_true_eq] at h
    rw [ins]
    split
    · have ih := oth_ins (s := s) (n := n) (d := d) h.2
      unfold oth at ih ⊢
      rw [List.countP_cons_of_pos (by simp; omega), List.length_cons, ih]
    · split
      · have : okFrom d (x :: l) = true := by
          simp only [okFrom, Bool.and_eq_true, decide_eq_true_eq]; exact ⟨⟨h.1.1, by omega⟩, h.2⟩
        have e := oth_low this
        unfold oth at e ⊢
        rw [List.countP_cons_of_neg (by simp), e]; rfl
      · have e0 : x.dev = d := by omega
        have e := oth_low (d := d) (by rw [← e0]; exact h.2)
        unfold oth at e ⊢
        rw [List.countP_cons_of_neg (by simp [e0]), e, List.length_cons]
theorem dev_gt {last : Int} : ∀ {l : List Tally}, okFrom last l = true → ∀ t ∈ l, last < t.dev
  | [], _, t, ht => by simp at ht
  | x :: l, h, t, ht => by
    simp only [okFrom, Bool.and_eq_true, decide_eq_true_eq] at h
    rcases List.mem_cons.1 ht with rfl | ht
    · exact h.1.2
    · have := dev_gt h.2 t ht; omega
theorem ins_mem {last d s n : Int} : ∀ {l : List Tally}, okFrom last l = true → ∀ t ∈ ins l d s n, (t.dev = d → t.seq = s) ∧ (t.dev ≠ d → t ∈ l)
  | [], _, t, ht => by simp [ins] at ht; subst ht; simp
  | x :: l, h, t, ht => by
    simp only [okFrom, Bool.and_eq_true, decide_eq_true_eq] at h
    rw [ins] at ht
    split at ht
    · rcases List.mem_cons.1 ht with rfl | ht
      · exact ⟨fun e => by omega, fun _ => List.mem_cons_self⟩
      · have := ins_mem h.2 t ht
        exact ⟨this.1, fun hne => List.mem_cons_of_mem _ (this.2 hne)⟩
    · split at ht
      · rcases List.mem_cons.1 ht with rfl | ht
        · exact ⟨fun _ => rfl, fun h => (h rfl).elim⟩
        · refine ⟨fun e => ?_, fun _ => ht⟩
          rcases List.mem_cons.1 ht with rfl | ht
          · omega
          · have := dev_gt h.2 t ht; omega
      · rcases List.mem_cons.1 ht with rfl | ht
        · exact ⟨fun _ => rfl, fun h => (h (by simp only; omega)).elim⟩
        · refine ⟨fun e => ?_, fun _ => List.mem_cons_of_mem _ ht⟩
          have := dev_gt h.2 t ht; omega
theorem getD_mem {l : List Tally} {i : Nat} (h : i < l.length) : l.getD i default ∈ l := by
  simp [List.getD, h]
theorem oth_take {d : Int} {l : List Tally} {i : Nat} (h : i < l.length) : oth d (l.take (i + 1)) = oth d (l.take i) + if (l.getD i default).dev = d then 0 else 1 := by
  rw [take_succ_getD h, oth, List.countP_append]
  by_cases e : (l.getD i default).dev = d
  · simp only [e, if_true, oth, List.countP_cons, List.countP_nil]; simp
  · have e2 : decide ((l.getD i default).dev ≠ d) = true := decide_eq_true e
    simp only [e, if_false, oth, List.countP_cons, List.countP_nil, e2, if_true]

end E
end Go.Proofs.Ytgaeakmdibnjmaa
