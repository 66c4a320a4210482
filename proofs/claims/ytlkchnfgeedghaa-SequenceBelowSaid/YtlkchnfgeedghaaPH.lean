/- Plain laws for the statements SequenceAnyOrder and SequenceErases. -/
import Derived.Test.YtlkchnfgeedghaaPG
set_option linter.unusedSimpArgs false
set_option linter.unusedVariables false
namespace Go.Proofs.Ytlkchnfgeedghaa
namespace E
open Go

/-- The cells turned: from k on backwards. -/
def turnL (l : List Cell) (k i : Nat) : List Cell := (List.range i).map fun j => l.getD ((k + l.length - j) % l.length) default
theorem turnL_zero (l : List Cell) (k : Nat) : turnL l k 0 = [] := rfl
theorem turnL_succ (l : List Cell) (k i : Nat) : turnL l k (i + 1) = turnL l k i ++ [l.getD ((k + l.length - i) % l.length) default] := by
  rw [turnL, List.range_succ, List.map_append]; rfl
theorem turnL_len (l : List Cell) (k i : Nat) : (turnL l k i).length = i := by simp [turnL]
theorem turnL_perm {l : List Cell} {k : Nat} (hk : k < l.length) : (turnL l k l.length).Perm l := by
  have e : turnL l k l.length = (l.take (k + 1)).reverse ++ (l.drop (k + 1)).reverse := by
    refine List.ext_getElem (by simp [turnL]; omega) fun j h1 h2 => ?_
    rw [turnL_len] at h1
    simp only [turnL, List.getElem_map, List.getElem_range]
    by_cases c : j < k + 1
    · rw [List.getElem_append_left (by simp; omega), List.getElem_reverse, List.getElem_take]
      have h3 : (k + l.length - j) % l.length = k - j := by
        rw [show k + l.length - j = (k - j) + l.length by omega, Nat.add_mod_right, Nat.mod_eq_of_lt (by omega)]
      have h4 : (l.take (k + 1)).length - 1 - j = k - j := by simp; omega
      simp only [h3, h4]
      simp [List.getD, (by omega : k - j < l.length)]
    · rw [List.getElem_append_right (by simp; omega), List.getElem_reverse, List.getElem_drop]
      have h3 : (k + l.length - j) % l.length = k + l.length - j := Nat.mod_eq_of_lt (by omega)
      have h4 : k + 1 + ((l.drop (k + 1)).length - 1 - (j - (l.take (k + 1)).reverse.length)) = k + l.length - j := by simp; omega
      simp only [h3, h4]
      simp [List.getD, (by omega : k + l.length - j < l.length)]
  rw [e]
  refine ((List.reverse_perm _).append (List.reverse_perm _)).trans ?_
  rw [List.take_append_drop]

theorem vis_gone {l : List Cell} (hd : distinct l) {x : Id3} {i : Nat} (h : findL l x = some i) : (visL (l.map (goneAt x))).length + (if (l.getD i default).gone then 0 else 1) = (visL l).length := by
  obtain ⟨s, c, t, e, hs, hc⟩ := split_at h
  have hn := hd.1
  have hg : l.getD i default = c := by simp [e, ← hs]
  rw [hg]
  have hne : ∀ d ∈ s ++ t, goneAt x d = d := fun d hd' => by
    rw [goneAt, if_neg]
    intro he
    rw [e, List.map_append, List.map_cons] at hn
    have h2 := List.perm_middle.nodup_iff.1 hn
    rw [List.nodup_cons] at h2
    exact h2.1 (by rw [hc, ← he, ← List.map_append]; exact List.mem_map_of_mem hd')
  have hs' : s.map (goneAt x) = s := by
    conv => rhs; rw [← List.map_id s]
    exact List.map_congr_left fun d hd' => hne d (List.mem_append_left _ hd')
  have ht' : t.map (goneAt x) = t := by
    conv => rhs; rw [← List.map_id t]
    exact List.map_congr_left fun d hd' => hne d (List.mem_append_right _ hd')
  rw [e, List.map_append, List.map_cons, hs', ht']
  have hcg : (goneAt x c).gone = true := by rw [goneAt_gone]; simp [hc]
  simp only [visL, List.length_map, List.filter_append, List.filter_cons, hcg, Bool.not_true, List.length_append]
  cases c.gone <;> simp <;> omega

/-- A cell inserted into a list and into the same with one cell gone. -/
theorem ins_gone {l : List Cell} (h : inOrd l) {a : Id3} (ha : a ∈ l.map Cell.id) (c : Cell) :
    ∃ u v k, insL l c = (u, k) ∧ insL (l.map (goneAt a)) c = (v, k) ∧ u.length ≤ l.length + 1 ∧ v.length ≤ l.length + 1 ∧ ((k = 130 ∧ eraseL u a = ([], 130)) ∨ (k = 0 ∧ eraseL u a = (v, 0))) := by
  have h2 := inOrd.map (goneAt_keeps a) h
  have bad : eraseL [] a = ([], 130) := by rw [erase_ord inOrd_nil]; rfl
  rw [ins_ord h, ins_ord h2]
  by_cases hg : c.gone = true
  · rw [if_pos hg, if_pos hg]
    exact ⟨[], [], 130, rfl, rfl, Nat.zero_le _, Nat.zero_le _, .inl ⟨rfl, bad⟩⟩
  · rw [if_neg hg, if_neg hg]
    by_cases hc : c.id = a
    · rw [order_no (forms_clash (by rw [hc]; exact ha)), order_no (forms_clash (by rw [map_ids (goneAt_keeps a), hc]; exact ha))]
      exact ⟨[], [], 130, rfl, rfl, Nat.zero_le _, Nat.zero_le _, .inl ⟨rfl, bad⟩⟩
    · have e : l.map (goneAt a) ++ [c] = (l ++ [c]).map (goneAt a) := by
        rw [List.map_append, List.map_cons, List.map_nil, goneAt, if_neg hc]
      rw [e, orderL_map (goneAt_keeps a)]
      refine ⟨(orderL (l ++ [c])).1, (orderL (l ++ [c])).1.map (goneAt a), (orderL (l ++ [c])).2, rfl, rfl, ?_, ?_, ?_⟩
      · have := order_len (l := l ++ [c]); simpa using this
      · have := order_len (l := l ++ [c]); simpa using this
      · rcases order_err (l ++ [c]) with e2 | ⟨hf, e2⟩
        · rw [e2]; exact .inl ⟨rfl, bad⟩
        · have h3 := order_ord (l := l ++ [c]) (by rw [e2])
          refine .inr ⟨by rw [e2], ?_⟩
          rw [erase_ord h3.1, if_pos]
          rw [(h3.2.map Cell.id).mem_iff, List.map_append]
          exact List.mem_append_left _ ha

theorem order_cases (l : List Cell) : orderL l = ([], 130) ∨ ∃ a, orderL l = (a, 0) ∧ inOrd a ∧ a.Perm l := by
  rcases order_err l with e | ⟨hf, e⟩
  · exact .inl e
  · have := order_ord (l := l) (by rw [e])
    exact .inr ⟨_, e, this.1, this.2⟩
theorem erase_nil (x : Id3) : eraseL [] x = ([], 130) := by rw [erase_ord inOrd_nil]; rfl

/-- Erasing one of two, or both, in either order. -/
theorem erase_two {l : List Cell} (h : inOrd l) {a : Id3} (ha : a ∈ l.map Cell.id) (b : Id3) :
    ∃ y p k, eraseL l b = (y, k) ∧ eraseL (l.map (goneAt a)) b = (p, k) ∧ y.length ≤ l.length ∧ p.length ≤ l.length ∧ ((k = 130 ∧ eraseL y a = ([], 130)) ∨ (k = 0 ∧ eraseL y a = (p, 0))) := by
  have h2 := inOrd.map (goneAt_keeps a) h
  rw [erase_ord h, erase_ord h2, map_ids (goneAt_keeps a)]
  by_cases hb : b ∈ l.map Cell.id
  · rw [if_pos hb, if_pos hb]
    refine ⟨_, _, 0, rfl, rfl, by simp, by simp, .inr ⟨rfl, ?_⟩⟩
    rw [erase_ord (inOrd.map (goneAt_keeps b) h), map_ids (goneAt_keeps b), if_pos ha, List.map_map, List.map_map]
    congr 1
    exact List.map_congr_left fun c _ => goneAt_comm a b c
  · rw [if_neg hb, if_neg hb]
    exact ⟨[], [], 130, rfl, rfl, Nat.zero_le _, Nat.zero_le _, .inl ⟨rfl, erase_nil a⟩⟩
theorem erase_again {l : List Cell} (h : inOrd l) {a : Id3} (ha : a ∈ l.map Cell.id) : eraseL (l.map (goneAt a)) a = (l.map (goneAt a), 0) := by
  rw [erase_ord (inOrd.map (goneAt_keeps a) h), map_ids (goneAt_keeps a), if_pos ha, List.map_map]
  congr 1
  exact List.map_congr_left fun c _ => goneAt_idem a c
theorem findR_some {l : List Cell} {x : Id3} {i : Nat} (h : findL l x = some i) : findR l x = ((i : Int), true) := by simp only [findR, h]
theorem findR_none {l : List Cell} {x : Id3} (h : findL l x = none) : findR l x = (0, false) := by simp only [findR, h]
/-- Inserting into a list that is in order. -/
theorem ins_new {l : List Cell} (h : inOrd l) (c : Cell) : insL l c = ([], 130) ∨ ∃ s t, insL l c = (s ++ c :: t, 0) ∧ s ++ t = l ∧ findL (s ++ c :: t) c.id = some s.length ∧ NewC l c ∧ (orderL (l ++ [c])).1 = s ++ c :: t := by
  rw [ins_ord h]
  by_cases hg : c.gone = true
  · rw [if_pos hg]; exact .inl rfl
  · rw [if_neg hg]
    rcases order_err (l ++ [c]) with e | ⟨hf, e⟩
    · exact .inl e
    · have hn : NewC l c := ⟨h.forms, hf⟩
      obtain ⟨s, t, e1, e2, e3⟩ := hn.place h
      refine .inr ⟨s, t, ?_, e2, ?_, hn, e1⟩
      · rw [e, e1]
      · rw [← e1]; exact e3

end E
end Go.Proofs.Ytlkchnfgeedghaa
