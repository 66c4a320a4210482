/- Plain laws: two sorted rows are merged commutatively, associatively and idempotently, shown by look-ups. -/
import Derived.Test.YtgaeakmdibnjmaaW7
set_option linter.unusedSimpArgs false
namespace Go.Proofs.Ytgaeakmdibnjmaa
namespace E
open Go

def lk : List Tally → Int → Option (Int × Int)
  | [], _ => none
  | t :: l, d => if t.dev = d then some (t.seq, t.n) else lk l d

theorem lk_low {last : Int} : ∀ {l : List Tally}, okFrom last l = true → ∀ d, d ≤ last → lk l d = none
  | [], _, _, _ => rfl
  | t :: l, h, d, hd => by
    simp only [okFrom, Bool.and_eq_true, decide_eq_true_eq] at h
    rw [lk, if_neg (by omega)]
    exact lk_low h.2 d (by omega)

theorem sorted_ext : ∀ {a b : List Tally} {last : Int}, okFrom last a = true → okFrom last b = true → (∀ d, lk a d = lk b d) → a = b
  | [], [], _, _, _, _ => rfl
  | [], y :: b, _, _, hb, h => by have := h y.dev; simp [lk] at this
  | x :: a, [], _, ha, _, h => by have := h x.dev; simp [lk] at this
  | x :: a, y :: b, last, ha, hb, h => by
    simp only [okFrom, Bool.and_eq_true, decide_eq_true_eq] at ha hb
    have e : x.dev = y.dev := by
      rcases Int.lt_trichotomy x.dev y.dev with c | c | c
      · have := h x.dev
        rw [lk, if_pos rfl, lk, if_neg (by omega), lk_low hb.2 x.dev (by omega)] at this
        cases this
      · exact c
      · have := h y.dev
        rw [lk, if_neg (by omega), lk_low ha.2 y.dev (by omega), lk, if_pos rfl] at this
        cases this
    have e2 := h x.dev
    rw [lk, if_pos rfl, lk, if_pos e.symm] at e2
    simp only [Option.some.injEq, Prod.mk.injEq] at e2
    have hxy : x = y := tally_ext e e2.1 e2.2
    subst hxy
    congr 1
    refine sorted_ext ha.2 hb.2 fun d => ?_
    by_cases c : x.dev = d
    · subst c
      rw [lk_low ha.2 _ (Int.le_refl _), lk_low hb.2 _ (Int.le_refl _)]
    · have := h d
      rwa [lk, if_neg c, lk, if_neg c] at this

def ltP (x y : Int × Int) : Prop := x.1 < y.1 ∨ (y.1 = x.1 ∧ x.2 < y.2)
instance (x y : Int × Int) : Decidable (ltP x y) := by unfold ltP; exact inferInstance
def mx : Option (Int × Int) → Option (Int × Int) → Option (Int × Int)
  | none, y => y
  | some x, none => some x
  | some x, some y => if ltP x y then some y else some x

theorem later_lt (y x : Tally) : (later y x = true) ↔ ltP (x.seq, x.n) (y.seq, y.n) := by
  simp [later, ltP]

theorem merge_ok : ∀ {a b : List Tally} {last : Int}, okFrom last a = true → okFrom last b = true → okFrom last (mergeT a b) = true
  | [], b, _, _, hb => by rw [mergeT_nil_left]; exact hb
  | x :: a, [], _, ha, _ => by rw [mergeT_nil_right]; exact ha
  | x :: a, y :: b, last, ha, hb => by
    have ha' := ha
    have hb' := hb
    simp only [okFrom, Bool.and_eq_true, decide_eq_true_eq] at ha hb
    rw [mergeT]
    by_cases c : x.dev < y.dev
    · rw [if_pos c]
      simp only [okFrom, Bool.and_eq_true, decide_eq_true_eq]
      exact ⟨ha.1, merge_ok ha.2 (by simp only [okFrom, Bool.and_eq_true, decide_eq_true_eq]; exact ⟨⟨hb.1.1, c⟩, hb.2⟩)⟩
    · rw [if_neg c]
      by_cases c2 : y.dev < x.dev
      · rw [if_pos c2]
        simp only [okFrom, Bool.and_eq_true, decide_eq_true_eq]
        exact ⟨hb.1, merge_ok (by simp only [okFrom, Bool.and_eq_true, decide_eq_true_eq]; exact ⟨⟨ha.1.1, c2⟩, ha.2⟩) hb.2⟩
      · rw [if_neg c2]
        have e : x.dev = y.dev := by omega
        have hb2 : okFrom x.dev b = true := by rw [e]; exact hb.2
        split
        · simp only [okFrom, Bool.and_eq_true, decide_eq_true_eq]
          exact ⟨hb.1, by rw [← e]; exact merge_ok ha.2 hb2⟩
        · simp only [okFrom, Bool.and_eq_true, decide_eq_true_eq]
          exact ⟨ha.1, merge_ok ha.2 hb2⟩
termination_by a b => a.length + b.length

theorem mx_none_right (x : Option (Int × Int)) : mx x none = x := by cases x <;> rfl

theorem lk_merge : ∀ {a b : List Tally} {last : Int}, okFrom last a = true → okFrom last b = true → ∀ d, lk (mergeT a b) d = mx (lk a d) (lk b d)
  | [], b, _, _, hb, d => by rw [mergeT_nil_left]; rfl
  | x :: a, [], _, ha, _, d => by rw [mergeT_nil_right]; exact (mx_none_right _).symm
  | x :: a, y :: b, last, ha, hb, d => by
    simp only [okFrom, Bool.and_eq_true, decide_eq_true_eq] at ha hb
    rw [mergeT]
    by_cases c : x.dev < y.dev
    · have hb2 : okFrom x.dev (y :: b) = true := by simp only [okFrom, Bool.and_eq_true, decide_eq_true_eq]; exact ⟨⟨hb.1.1, c⟩, hb.2⟩
      rw [if_pos c, lk, lk_merge ha.2 hb2 d]
      by_cases e : x.dev = d
      · rw [if_pos e, lk, if_pos e, lk_low hb2 d (by omega)]; rfl
      · rw [if_neg e]; conv => rhs; rw [lk, if_neg e]
    · rw [if_neg c]
      by_cases c2 : y.dev < x.dev
      · have ha2 : okFrom y.dev (x :: a) = true := by simp only [okFrom, Bool.and_eq_true, decide_eq_true_eq]; exact ⟨⟨ha.1.1, c2⟩, ha.2⟩
        rw [if_pos c2, lk, lk_merge ha2 hb.2 d]
        by_cases e : y.dev = d
        · rw [if_pos e, lk_low ha2 d (by omega), lk, if_pos e]; rfl
        · rw [if_neg e]
          have : lk (y :: b) d = lk b d := by rw [lk, if_neg e]
          rw [this]
      · rw [if_neg c2]
        have exy : x.dev = y.dev := by omega
        have hb2 : okFrom x.dev b = true := by rw [exy]; exact hb.2
        have ha1 : lk (x :: a) d = if x.dev = d then some (x.seq, x.n) else lk a d := rfl
        have hb1 : lk (y :: b) d = if y.dev = d then some (y.seq, y.n) else lk b d := rfl
        have hl := later_lt y x
        rw [ha1, hb1, lk, lk_merge ha.2 hb2 d]
        by_cases e : x.dev = d
        · have e2 : y.dev = d := by omega
          rw [if_pos e, if_pos e2]
          by_cases hq : later y x = true
          · have hq2 := hl.1 hq
            simp only [hq, if_true, mx, if_pos hq2, e2]
          · have hq2 : ¬ ltP (x.seq, x.n) (y.seq, y.n) := fun h => hq (hl.2 h)
            simp only [hq, mx, if_neg hq2]
            simp [e]
        · have e2 : ¬ y.dev = d := by omega
          rw [if_neg e, if_neg e2]
          by_cases hq : later y x = true
          · simp [hq, e2]
          · simp [hq, e]
termination_by a b => a.length + b.length

theorem ltP_iff (a b c d : Int) : ltP (a, b) (c, d) ↔ (a < c ∨ (c = a ∧ b < d)) := Iff.rfl
theorem mx_comm (x y : Option (Int × Int)) : mx x y = mx y x := by
  cases x with
  | none => rw [mx_none_right]; rfl
  | some x =>
    cases y with
    | none => rfl
    | some y =>
      obtain ⟨a, b⟩ := x
      obtain ⟨c, d⟩ := y
      simp only [mx]
      have k1 := ltP_iff a b c d
      have k2 := ltP_iff c d a b
      by_cases h1 : ltP (a, b) (c, d)
      · have h2 : ¬ ltP (c, d) (a, b) := fun h => by have := k1.1 h1; have := k2.1 h; omega
        rw [if_pos h1, if_neg h2]
      · rw [if_neg h1]
        by_cases h2 : ltP (c, d) (a, b)
        · rw [if_pos h2]
        · rw [if_neg h2]
          have n1 : ¬ (a < c ∨ (c = a ∧ b < d)) := fun h => h1 (k1.2 h)
          have n2 : ¬ (c < a ∨ (a = c ∧ d < b)) := fun h => h2 (k2.2 h)
          have e1 : a = c := by omega
          have e2 : b = d := by omega
          rw [e1, e2]
theorem mx_idem (x : Option (Int × Int)) : mx x x = x := by
  cases x with
  | none => rfl
  | some x =>
    obtain ⟨a, b⟩ := x
    simp [mx, ltP]
theorem mx_assoc (x y z : Option (Int × Int)) : mx (mx x y) z = mx x (mx y z) := by
  cases x with
  | none => rfl
  | some x =>
    cases y with
    | none => rfl
    | some y =>
      cases z with
      | none => rw [mx_none_right, mx_none_right]
      | some z =>
        obtain ⟨a, b⟩ := x
        obtain ⟨c, d⟩ := y
        obtain ⟨e, f⟩ := z
        have k1 := ltP_iff a b c d
        have k2 := ltP_iff c d e f
        have k3 := ltP_iff a b e f
        by_cases h1 : ltP (a, b) (c, d)
        · by_cases h2 : ltP (c, d) (e, f)
          · have h3 : ltP (a, b) (e, f) := k3.2 (by have := k1.1 h1; have := k2.1 h2; omega)
            simp only [mx, if_pos h1, if_pos h2, if_pos h3]
          · simp only [mx, if_pos h1, if_neg h2]
        · by_cases h2 : ltP (c, d) (e, f)
          · simp only [mx, if_neg h1, if_pos h2]
          · have h3 : ¬ ltP (a, b) (e, f) := fun h => by
              have n1 : ¬ (a < c ∨ (c = a ∧ b < d)) := fun h => h1 (k1.2 h)
              have n2 : ¬ (c < e ∨ (e = c ∧ d < f)) := fun h => h2 (k2.2 h)
              have := k3.1 h
              omega
            simp only [mx, if_neg h1, if_neg h2, if_neg h3]

theorem merge_comm {a b : List Tally} (ha : okFrom (-1) a = true) (hb : okFrom (-1) b = true) : mergeT a b = mergeT b a :=
  sorted_ext (merge_ok ha hb) (merge_ok hb ha) fun d => by rw [lk_merge ha hb, lk_merge hb ha, mx_comm]
theorem merge_assoc {a b c : List Tally} (ha : okFrom (-1) a = true) (hb : okFrom (-1) b = true) (hc : okFrom (-1) c = true) : mergeT (mergeT a b) c = mergeT a (mergeT b c) :=
  sorted_ext (merge_ok (merge_ok ha hb) hc) (merge_ok ha (merge_ok hb hc)) fun d => by rw [lk_merge (merge_ok ha hb) hc, lk_merge ha hb, lk_merge ha (merge_ok hb hc), lk_merge hb hc, mx_assoc]
theorem merge_self {a : List Tally} (ha : okFrom (-1) a = true) : mergeT a a = a :=
  sorted_ext (merge_ok ha ha) ha fun d => by rw [lk_merge ha ha, mx_idem]
theorem merge_again {a b : List Tally} (ha : okFrom (-1) a = true) (hb : okFrom (-1) b = true) : mergeT (mergeT a b) b = mergeT a b := by
  rw [merge_assoc ha hb hb, merge_self hb]

end E
end Go.Proofs.Ytgaeakmdibnjmaa
