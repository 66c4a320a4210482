/- Plain laws of sorting cells by their stamps, the greatest first. -/
import Derived.Test.YtlkchnfgeedghaaS8
import Derived.Test.YtlkchnfgeedghaaPA
set_option linter.unusedSimpArgs false
namespace Go.Proofs.Ytlkchnfgeedghaa
namespace E
open Go

theorem cmpI_zero {a b : Int} : cmpI a b = 0 ↔ a = b := by
  unfold cmpI; split
  · simp; omega
  · split
    · simp; omega
    · simp; omega
/-- The comparison is the order of the stamps. -/
theorem cmpC_neg (a b : Cell) : (cmpC a b < 0) ↔ gtC a b = true := by
  unfold cmpC stampL gtC
  simp only [cmpF, cmpI_zero]
  by_cases h1 : a.time = b.time
  · simp only [h1, if_true, ne_eq, not_true_eq_false, if_false]
    by_cases h2 : a.id.dev = b.id.dev
    · simp only [h2, if_true, not_true_eq_false, if_false]
      by_cases h3 : a.id.seq = b.id.seq
      · simp only [h3, if_true, not_true_eq_false, if_false]
        by_cases h4 : a.id.pos = b.id.pos
        · simp [h4]
        · simp only [h4, if_false, decide_eq_true_eq]
          unfold cmpI; split <;> (try split) <;> simp <;> omega
      · simp only [h3, if_false, not_false_eq_true, if_true, decide_eq_true_eq]
        unfold cmpI; split <;> (try split) <;> simp <;> omega
    · simp only [h2, if_false, not_false_eq_true, if_true, decide_eq_true_eq]
      unfold cmpI; split <;> (try split) <;> simp <;> omega
  · simp only [h1, if_false, ne_eq, not_false_eq_true, if_true, decide_eq_true_eq]
    unfold cmpI; split <;> (try split) <;> simp <;> omega

theorem gtC_iff (a b : Cell) : gtC a b = true ↔ (b.time < a.time ∨ (a.time = b.time ∧ (b.id.dev < a.id.dev ∨ (a.id.dev = b.id.dev ∧ (b.id.seq < a.id.seq ∨ (a.id.seq = b.id.seq ∧ b.id.pos < a.id.pos)))))) := by
  unfold gtC
  split
  · rename_i h; simp only [decide_eq_true_eq]; constructor
    · intro h; exact .inl h
    · rintro (h | ⟨h2, _⟩)
      · exact h
      · exact absurd h2 h
  · rename_i h
    have h : a.time = b.time := by simpa using h
    split
    · rename_i h2
      simp only [decide_eq_true_eq]; constructor
      · intro h3; exact .inr ⟨h, .inl h3⟩
      · rintro (h3 | ⟨_, h3 | ⟨h3, _⟩⟩)
        · omega
        · exact h3
        · exact absurd h3 h2
    · rename_i h2
      have h2 : a.id.dev = b.id.dev := by simpa using h2
      split
      · rename_i h3
        simp only [decide_eq_true_eq]; constructor
        · intro h4; exact .inr ⟨h, .inr ⟨h2, .inl h4⟩⟩
        · rintro (h4 | ⟨_, h4 | ⟨_, h4 | ⟨h4, _⟩⟩⟩)
          · omega
          · omega
          · exact h4
          · exact absurd h4 h3
      · rename_i h3
        have h3 : a.id.seq = b.id.seq := by simpa using h3
        simp only [decide_eq_true_eq]; constructor
        · intro h4; exact .inr ⟨h, .inr ⟨h2, .inr ⟨h3, h4⟩⟩⟩
        · rintro (h4 | ⟨_, h4 | ⟨_, h4 | ⟨_, h4⟩⟩⟩) <;> omega
theorem gtC_trans {a b c : Cell} (h1 : gtC a b = true) (h2 : gtC b c = true) : gtC a c = true := by
  rw [gtC_iff] at *; omega
theorem gtC_asymm {a b : Cell} (h1 : gtC a b = true) : gtC b a = false := by
  cases h : gtC b a with
  | false => rfl
  | true => rw [gtC_iff] at h1 h; omega
theorem gtC_total {a b : Cell} (h : a.id ≠ b.id) : gtC a b = true ∨ gtC b a = true := by
  rw [gtC_iff, gtC_iff]
  have : ¬ (a.id.dev = b.id.dev ∧ a.id.seq = b.id.seq ∧ a.id.pos = b.id.pos) := fun ⟨e1, e2, e3⟩ => h (by
    obtain ⟨⟨_, _, _⟩, _, _, _, _⟩ := a
    obtain ⟨⟨_, _, _⟩, _, _, _, _⟩ := b
    simp_all)
  omega

def sortedC (l : List Cell) : Prop := l.Pairwise fun a b => gtC a b = true
/-- A sorted permutation is the only one. -/
theorem sorted_unique : ∀ {a b : List Cell}, sortedC a → sortedC b → a.Perm b → a = b
  | [], b, _, _, h => (List.nil_perm.1 h).symm
  | x :: a, [], _, _, h => by have := h.length_eq; simp at this
  | x :: a, y :: b, ha, hb, h => by
    have ha' := List.pairwise_cons.1 ha
    have hb' := List.pairwise_cons.1 hb
    have hxy : x = y := by
      have h1 : x ∈ y :: b := h.subset List.mem_cons_self
      have h2 : y ∈ x :: a := h.symm.subset List.mem_cons_self
      rcases List.mem_cons.1 h1 with e | h1
      · exact e
      · rcases List.mem_cons.1 h2 with e | h2
        · exact e.symm
        · have g1 := hb'.1 x h1
          have g2 := ha'.1 y h2
          rw [gtC_asymm g1] at g2; cases g2
    subst hxy
    rw [sorted_unique ha'.2 hb'.2 ((List.perm_cons x).1 h)]
theorem insP_sorted {ys : List Cell} {c : Cell} (h : sortedC ys) (hn : ∀ y ∈ ys, y.id ≠ c.id) : sortedC (insP ys c) := by
  induction ys with
  | nil => simp [insP, posC, sortedC]
  | cons y ys ih =>
    have h' := List.pairwise_cons.1 h
    by_cases g : gtC y c = true
    · have e : insP (y :: ys) c = y :: insP ys c := by simp [insP, posC, List.takeWhile_cons, g]
      rw [e, sortedC, List.pairwise_cons]
      refine ⟨fun z hz => ?_, ih h'.2 fun z hz => hn z (List.mem_cons_of_mem _ hz)⟩
      rcases List.mem_cons.1 ((insP_perm ys c).subset hz) with rfl | hz
      · exact g
      · exact h'.1 z hz
    · have e : insP (y :: ys) c = c :: y :: ys := by simp [insP, posC, List.takeWhile_cons, g]
      have hcy : gtC c y = true := (gtC_total (hn y List.mem_cons_self)).resolve_left g
      rw [e, sortedC, List.pairwise_cons]
      refine ⟨fun z hz => ?_, h⟩
      rcases List.mem_cons.1 hz with rfl | hz
      · exact hcy
      · exact gtC_trans hcy (h'.1 z hz)
/-- The children, sorted. -/
theorem kids_sorted {l : List Cell} (hd : distinct l) (x : Id3) : sortedC (kidsL l x) := by
  have key : ∀ (l ch : List Cell), ((ch ++ l).map Cell.id).Nodup → sortedC ch → sortedC (l.foldl (fun ch c => if c.after = x then insP ch c else ch) ch) := by
    intro l
    induction l with
    | nil => intro ch _ h; exact h
    | cons c l ih =>
      intro ch hn h
      rw [List.foldl_cons]
      have hn2 : ((c :: ch ++ l).map Cell.id).Nodup := by
        refine (List.Perm.nodup_iff ?_).1 hn
        exact (List.perm_middle).map _
      by_cases e : c.after = x
      · rw [if_pos e]
        refine ih _ ?_ (insP_sorted h fun y hy he => ?_)
        · refine (List.Perm.nodup_iff ?_).1 hn2
          exact (((insP_perm ch c).symm).append_right l).map _
        · rw [List.cons_append, List.map_cons, List.nodup_cons] at hn2
          exact hn2.1 (by rw [← he]; exact List.mem_map_of_mem (List.mem_append_left _ hy))
      · rw [if_neg e]
        refine ih _ ?_ h
        rw [List.cons_append, List.map_cons, List.nodup_cons] at hn2
        exact hn2.2
  exact key l [] (by simpa using hd.1) List.Pairwise.nil

end E
end Go.Proofs.Ytlkchnfgeedghaa
