/- Plain laws of the walk below the beginning: no cell comes twice, and it is never deeper than there are cells. -/
import Derived.Test.YtlkchnfgeedghaaPA
set_option linter.unusedSimpArgs false
namespace Go.Proofs.Ytlkchnfgeedghaa
namespace E
open Go

theorem occ_le_one {l : List Cell} (hd : distinct l) : ∀ (f : Nat) (c : Cell), c ∈ l → occ l f zId c ≤ 1
  | 0, c, _ => by simp [occ, belowN]
  | f + 1, c, hc => by
    rw [occ_parent hd hc]
    by_cases e : c.after = zId
    · rw [e, findL_zero hd]; simp [one']
    · cases hp : findL l c.after with
      | none => simp [one', e]
      | some i =>
        have := occ_le_one hd f _ (findL_some_mem hp)
        simp only [one', if_neg e]
        omega
theorem nodup_of_count : ∀ {l : List Cell}, (∀ c, l.count c ≤ 1) → l.Nodup
  | [], _ => List.nodup_nil
  | a :: l, h => by
    rw [List.nodup_cons]
    have ha := h a
    rw [List.count_cons_self] at ha
    refine ⟨fun hm => ?_, nodup_of_count fun c => ?_⟩
    · have := List.count_pos_iff.2 hm
      omega
    · have := h c
      have h2 : l.count c ≤ (a :: l).count c := List.count_le_count_cons
      omega
theorem below_nodup {l : List Cell} (hd : distinct l) (f : Nat) : (belowN l f zId).Nodup := nodup_of_count fun c => by
  by_cases hc : c ∈ l
  · exact occ_le_one hd f c hc
  · rw [List.count_eq_zero.2 fun h => hc (below_mem f zId c h)]; omega
theorem nodup_len {a l : List Cell} (ha : a.Nodup) (hl : l.Nodup) (hs : ∀ c ∈ a, c ∈ l) : a.Perm (l.filter fun c => decide (c ∈ a)) := by
  rw [List.perm_iff_count]
  intro c
  by_cases h : c ∈ a
  · rw [ha.count, if_pos h, List.count_filter (by simpa using h), hl.count, if_pos (hs c h)]
  · rw [List.count_eq_zero.2 h, List.count_eq_zero.2 fun h2 => h (by have := (List.mem_filter.1 h2).2; simpa using this)]
theorem below_len {l : List Cell} (hd : distinct l) (f : Nat) : (belowN l f zId).length ≤ l.length := by
  rw [(nodup_len (below_nodup hd f) (distinct_nodup hd) (below_mem f zId)).length_eq]
  exact List.length_filter_le _ _
theorem not_deep (l : List Cell) : ∀ (f : Nat) (x : Id3), ¬ deepB l f x → f ≤ (belowN l f x).length
  | 0, _, _ => Nat.zero_le _
  | f + 1, x, h => by
    have : ∃ c ∈ kidsL l x, ¬ deepB l f c.id := by
      refine Classical.byContradiction fun hn => h fun c hc => Classical.byContradiction fun h2 => hn ⟨c, hc, h2⟩
    obtain ⟨c, hc, h2⟩ := this
    have ih := not_deep l f c.id h2
    rw [belowN]
    obtain ⟨s, t, e⟩ := List.append_of_mem hc
    rw [e, List.flatMap_append, List.flatMap_cons]
    simp only [List.length_append, List.length_cons]
    omega
/-- The walk below the beginning ends, whether all cells are rooted or not. -/
theorem deep_all {l : List Cell} (hd : distinct l) : deepB l (l.length + 1) zId := Classical.byContradiction fun h => by
  have h1 := not_deep l _ _ h
  have h2 := below_len hd (l.length + 1)
  omega
theorem below_more {l : List Cell} : ∀ (f : Nat) (x : Id3), deepB l f x → belowN l (f + 1) x = belowN l f x
  | 0, x, h => h.elim
  | f + 1, x, h => by
    rw [belowN, belowN]
    have : ∀ c ∈ kidsL l x, (c :: belowN l (f + 1) c.id) = c :: belowN l f c.id := fun c hc => by rw [below_more f c.id (h c hc)]
    generalize kidsL l x = ks at this
    induction ks with
    | nil => rfl
    | cons a ks ih => rw [List.flatMap_cons, List.flatMap_cons, this a List.mem_cons_self, ih fun c hc => this c (List.mem_cons_of_mem _ hc)]
theorem rootN_mono {l : List Cell} : ∀ (n m : Nat) (a : Id3), n ≤ m → rootN l n a = true → rootN l m a = true
  | 0, _, _, _, h => by simp [rootN] at h
  | n + 1, 0, _, h, _ => by omega
  | n + 1, m + 1, a, h, hr => by
    rw [rootN] at hr ⊢
    by_cases e : a = zId
    · rw [if_pos e]
    · rw [if_neg e] at hr ⊢
      cases hf : findL l a with
      | none => rw [hf] at hr; cases hr
      | some i =>
        rw [hf] at hr
        exact rootN_mono n m _ (by omega) hr
theorem below_rooted {l : List Cell} (hd : distinct l) : ∀ (f j : Nat) (x : Id3), (x = zId ∧ j = 0 ∨ ∃ p ∈ l, p.id = x ∧ rootN l j p.after = true) → ∀ c ∈ belowN l f x, rootN l (j + f) c.after = true
  | 0, j, x, _, c, hc => by simp [belowN] at hc
  | f + 1, j, x, h, c, hc => by
    rw [belowN, List.mem_flatMap] at hc
    obtain ⟨k, hk, hc⟩ := hc
    obtain ⟨hkl, hka⟩ := mem_kids.1 hk
    have hroot : rootN l (j + 1) k.after = true := by
      rw [hka]
      rcases h with ⟨rfl, rfl⟩ | ⟨p, hp, rfl, hr⟩
      · rw [rootN, if_pos rfl]
      · rw [rootN, if_neg (hd.2 p hp)]
        obtain ⟨i, h1, h2⟩ := findL_of_mem hd hp
        rw [h1]
        simp only [h2]
        exact hr
    rcases List.mem_cons.1 hc with rfl | hc
    · exact rootN_mono (j + 1) _ _ (by omega) hroot
    · have := below_rooted hd f (j + 1) k.id (.inr ⟨k, hkl, rfl, hroot⟩) c hc
      rw [show j + (f + 1) = j + 1 + f by omega]
      exact this
/-- The order of cells, as the program finds it. -/
theorem order_eq (l : List Cell) : orderL l = if fineC l then (if (belowN l (l.length + 1) zId).length = l.length then (belowN l (l.length + 1) zId, 0) else ([], 130)) else ([], 130) := by
  cases hf : fineC l with
  | false => simp [orderL, forms, hf]
  | true =>
    have hd := forms_distinct hf
    rw [if_pos rfl]
    by_cases hlen : (belowN l (l.length + 1) zId).length = l.length
    · rw [if_pos hlen]
      have hall : ∀ c ∈ l, c ∈ belowN l (l.length + 1) zId := fun c hc => by
        have hp := nodup_len (below_nodup hd (l.length + 1)) (distinct_nodup hd) (below_mem _ zId)
        have h1 := hp.length_eq
        have h2 : (l.filter fun c => decide (c ∈ belowN l (l.length + 1) zId)).length = l.length := by omega
        have h3 := List.length_filter_eq_length_iff.1 h2 c hc
        simpa using h3
      have hr : forms l = true := by
        simp only [forms, hf, Bool.true_and, List.all_eq_true, List.mem_range]
        intro j hj
        have hm : l.getD j default ∈ l := by simp [List.getD, hj]
        have := below_rooted hd (l.length + 1) 0 zId (.inl ⟨rfl, rfl⟩) _ (hall _ hm)
        rw [Nat.zero_add] at this
        exact this
      simp only [orderL, hr, if_true]
      rw [below_more _ _ (deep_all hd)]
    · rw [if_neg hlen]
      have hr : forms l = false := by
        cases hr : forms l with
        | false => rfl
        | true =>
          exact absurd (below_perm hd (forms_rooted hr).2 (f := l.length + 1) (by omega)).length_eq hlen
      simp [orderL, hr]

end E
end Go.Proofs.Ytlkchnfgeedghaa
