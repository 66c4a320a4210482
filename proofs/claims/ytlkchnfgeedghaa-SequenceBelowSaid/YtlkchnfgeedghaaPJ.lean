/- Plain laws for the statement SequenceBelow: what stands between a cell and its parent. -/
import Derived.Test.YtlkchnfgeedghaaPH
import Derived.Test.YtlkchnfgeedghaaPE
set_option linter.unusedSimpArgs false
set_option linter.unusedVariables false
namespace Go.Proofs.Ytlkchnfgeedghaa
namespace E
open Go

/-- An ID stands above a cell, or is its own. -/
inductive Up (q : List Cell) : Nat → Id3 → Prop
  | self (k : Nat) : k < q.length → Up q k (q.getD k default).id
  | up (k j : Nat) (x : Id3) : k < q.length → findL q (q.getD k default).after = some j → Up q j x → Up q k x
theorem Up.trans {q : List Cell} (hd : distinct q) {m j : Nat} {y x : Id3} (h : Up q m y) (hj : j < q.length) (e : (q.getD j default).id = y) (h2 : Up q j x) : Up q m x := by
  induction h with
  | self k hk =>
    have h3 := findL_split hd (s := q.take k) (p := q[k]) (t := q.drop (k + 1)) (by rw [← List.drop_eq_getElem_cons hk, List.take_append_drop])
    have h4 := findL_split hd (s := q.take j) (p := q[j]) (t := q.drop (j + 1)) (by rw [← List.drop_eq_getElem_cons hj, List.take_append_drop])
    simp only [List.getD, List.getElem?_eq_getElem hk, List.getElem?_eq_getElem hj, Option.getD_some] at e
    rw [e, h3] at h4
    simp only [Option.some.injEq, List.length_take] at h4
    have : k = j := by omega
    subst this
    exact h2
  | up k j' x' hk hf _ ih => exact .up k j' x hk hf (ih e)
theorem split_unique {s s' t t' : List Cell} {c : Cell} (hn : (s ++ c :: t).Nodup) (h : s ++ c :: t = s' ++ c :: t') : s = s' := by
  have hc : c ∉ s := fun hc => by
    rw [List.nodup_append] at hn
    exact hn.2.2 c hc c (by simp) rfl
  have hc' : c ∉ s' := fun hc => by
    rw [h, List.nodup_append] at hn
    exact hn.2.2 c hc c (by simp) rfl
  induction s generalizing s' with
  | nil =>
    cases s' with
    | nil => rfl
    | cons y s' => simp at h; exact absurd (by rw [h.1]; exact List.mem_cons_self) hc'
  | cons x s ih =>
    cases s' with
    | nil => simp at h; exact absurd (by rw [h.1]; exact List.mem_cons_self) hc
    | cons y s' =>
      simp only [List.cons_append, List.cons.injEq] at h
      obtain ⟨rfl, h⟩ := h
      rw [List.cons_append, List.nodup_cons] at hn
      rw [ih hn.2 h (fun h => hc (List.mem_cons_of_mem _ h)) (fun h => hc' (List.mem_cons_of_mem _ h))]
/-- Siblings stand in their order. -/
theorem sib_order {q : List Cell} (hd : distinct q) {f : Nat} {x : Id3} {s t : List Cell} {c : Cell} (h : belowN q (f + 1) x = s ++ c :: t) (hn : (s ++ c :: t).Nodup) (hc : c ∈ q) (hca : c.after = x) : ∀ d ∈ s, d.after = x → gtC d c = true := by
  intro d hds hda
  have hk : c ∈ kidsL q x := mem_kids.2 ⟨hc, hca⟩
  obtain ⟨k1, k2, e⟩ := List.append_of_mem hk
  have hb : belowN q (f + 1) x = (k1.flatMap fun k => k :: belowN q f k.id) ++ c :: (belowN q f c.id ++ k2.flatMap fun k => k :: belowN q f k.id) := by
    rw [belowN, e, List.flatMap_append, List.flatMap_cons]; simp
  have hs := split_unique hn (h.symm.trans hb)
  have hsort := kids_sorted hd x
  have hdq : d ∈ q := below_mem (f + 1) x d (by rw [h]; exact List.mem_append_left _ hds)
  have hdk : d ∈ kidsL q x := mem_kids.2 ⟨hdq, hda⟩
  rw [e] at hdk hsort
  rw [h.symm.trans hb] at hn
  rw [List.nodup_append] at hn
  rw [hs] at hds
  rcases List.mem_append.1 hdk with h1 | h1
  · exact (List.pairwise_append.1 hsort).2.2 d h1 c (by simp)
  · rcases List.mem_cons.1 h1 with rfl | h1
    · exact absurd rfl (hn.2.2 d hds d (by simp))
    · refine absurd rfl (hn.2.2 d hds d ?_)
      exact List.mem_cons_of_mem _ (List.mem_append_right _ (List.mem_flatMap.2 ⟨d, h1, List.mem_cons_self⟩))
theorem idx_of {q : List Cell} (hd : distinct q) {d : Cell} (h : d ∈ q) : ∃ m, m < q.length ∧ q.getD m default = d ∧ findL q d.id = some m := by
  obtain ⟨m, h1, h2⟩ := findL_of_mem hd h
  exact ⟨m, findL_lt h1, h2, h1⟩
/-- What stands below an ID has it above. -/
theorem below_up {q : List Cell} (hd : distinct q) : ∀ (f : Nat) (p : Cell), p ∈ q → ∀ d ∈ belowN q f p.id, ∀ m, m < q.length → q.getD m default = d → Up q m p.id
  | 0, p, _, d, h, _, _, _ => by simp [belowN] at h
  | f + 1, p, hp, d, h, m, hm, hmd => by
    rw [belowN, List.mem_flatMap] at h
    obtain ⟨k, hk, h⟩ := h
    obtain ⟨hkq, hka⟩ := mem_kids.1 hk
    obtain ⟨j, hj, hjp, hfj⟩ := idx_of hd hp
    have hself : Up q j p.id := by rw [← hjp]; exact .self j hj
    obtain ⟨i, hi, hik, hfi⟩ := idx_of hd hkq
    have hkup : Up q i p.id := .up i j _ hi (by rw [hik, hka]; exact hfj) hself
    rcases List.mem_cons.1 h with rfl | h
    · refine .up m j _ hm (by rw [hmd, hka]; exact hfj) hself
    · exact (below_up hd f k hkq d h m hm hmd).trans hd hi (by rw [hik]) hkup

/-- What stands between a cell and its parent is below the parent; siblings ahead are greater. -/
theorem below_law {q : List Cell} (ho : inOrd q) {i : Nat} (hi : i < q.length) :
    ((q.getD i default).after = zId → ∀ k, k < i → (q.getD k default).after = zId → gtC (q.getD k default) (q.getD i default) = true) ∧
    ((q.getD i default).after ≠ zId → ∃ a, a < i ∧ findL q (q.getD i default).after = some a ∧ findL (q.take i) (q.getD i default).after = some a ∧
      ∀ k, a < k → k < i → Up q k (q.getD i default).after ∧ ((q.getD k default).after = (q.getD i default).after → gtC (q.getD k default) (q.getD i default) = true)) := by
  have hd := ho.distinct
  have hn := distinct_nodup hd
  have hq : belowN q (q.length + 2) zId = q := by
    have := ho; rw [inOrd, order_of ho.forms] at this; exact congrArg Prod.fst this
  have hget : ∀ (s : List Cell) (c : Cell) (t : List Cell) (k : Nat), q = s ++ c :: t → k < s.length → q.getD k default ∈ s := fun s c t k e hk => by
    have : q.getD k default = s[k] := by simp [e, List.getD, List.getElem?_append_left hk, hk]
    rw [this]; exact List.getElem_mem hk
  have hsplit : q = q.take i ++ q.getD i default :: q.drop (i + 1) := by
    have : q.getD i default = q[i] := by simp [List.getD, hi]
    rw [this, ← List.drop_eq_getElem_cons hi, List.take_append_drop]
  have hci : q.getD i default ∈ q := by simp [List.getD, hi]
  generalize hc : q.getD i default = c at *
  have hti : (q.take i).length = i := by simp; omega
  refine ⟨fun hz k hk hka => ?_, fun hz => ?_⟩
  · have h1 : belowN q (q.length + 1 + 1) zId = q.take i ++ c :: q.drop (i + 1) := by rw [show q.length + 1 + 1 = q.length + 2 by omega, hq]; exact hsplit
    exact sib_order hd h1 (by rw [← hsplit]; exact hn) hci hz _ (hget _ _ _ k hsplit (by omega)) hka
  · have hr := ((forms_iff q).1 ho.forms).2 c hci
    rw [rootN_succ, if_neg hz] at hr
    cases hp : par q c.after with
    | none => rw [hp] at hr; cases hr
    | some p =>
      obtain ⟨hpq, hpid⟩ := par_some hp
      obtain ⟨s0, t0, g, e, hg⟩ := block _ _ (order_deep ho.forms) p (by rw [hq]; exact hpq)
      rw [hq] at e
      cases g with
      | zero => exact hg.elim
      | succ g =>
        have hcb : c ∈ belowN q (g + 1) p.id := by
          rw [belowN, List.mem_flatMap]
          exact ⟨c, mem_kids.2 ⟨hci, hpid.symm⟩, List.mem_cons_self⟩
        obtain ⟨s, t, eb⟩ := List.append_of_mem hcb
        have eq1 : q = (s0 ++ p :: s) ++ c :: (t ++ t0) := by
          conv => lhs; rw [e, eb]
          simp
        have hs := split_unique (by rw [← hsplit]; exact hn) (hsplit.symm.trans eq1)
        have hlen : i = s0.length + 1 + s.length := by
          have := congrArg List.length hs
          rw [hti] at this
          simp at this; omega
        have hnb : (s ++ c :: t).Nodup := by
          have : (s0 ++ p :: (s ++ c :: t ++ t0)).Nodup := by rw [← eb, ← e]; exact hn
          exact (List.nodup_append.1 (List.nodup_cons.1 (List.nodup_append.1 this).2.1).2).1
        have hdt : distinct (q.take i) := by
          refine ⟨?_, fun x hx => hd.2 x (List.mem_of_mem_take hx)⟩
          rw [List.map_take]
          exact (List.take_sublist _ _).nodup hd.1
        refine ⟨s0.length, by omega, ?_, ?_, fun k hk1 hk2 => ?_⟩
        · rw [← hpid]; exact findL_split hd e
        · rw [← hpid]; exact findL_split hdt hs
        · have hkq : k < q.length := by omega
          have hks : q.getD k default ∈ s := by
            obtain ⟨m, rfl⟩ : ∃ m, k = s0.length + 1 + m := ⟨k - (s0.length + 1), by omega⟩
            have hm : m < s.length := by omega
            have : q.getD (s0.length + 1 + m) default = s[m] := by
              rw [eq1]
              have e1 : (s0 ++ p :: s) ++ c :: (t ++ t0) = (s0 ++ [p]) ++ (s ++ c :: (t ++ t0)) := by simp
              rw [e1, List.getD, List.getElem?_append_right (by simp only [List.length_append, List.length_cons, List.length_nil]; omega)]
              have e2 : s0.length + 1 + m - (s0 ++ [p]).length = m := by simp only [List.length_append, List.length_cons, List.length_nil]; omega
              rw [e2, List.getElem?_append_left hm]
              simp [hm]
            rw [this]; exact List.getElem_mem hm
          refine ⟨?_, fun hka => ?_⟩
          · rw [← hpid]
            exact below_up hd (g + 1) p hpq _ (by rw [eb]; exact List.mem_append_left _ hks) k hkq rfl
          · exact sib_order hd eb hnb hci hpid.symm _ hks (hka.trans hpid.symm)

/-! the sets, as maps -/
theorem Up.root {q : List Cell} (hd : distinct q) {k : Nat} (hk : k < q.length) (hz : (q.getD k default).after = zId) (x : Id3) : Up q k x ↔ x = (q.getD k default).id := by
  refine ⟨fun h => ?_, fun h => h ▸ .self k hk⟩
  cases h with
  | self _ => rfl
  | up _ j _ _ hf _ => rw [hz, findL_zero hd] at hf; cases hf
theorem Up.kid {q : List Cell} {k a : Nat} (hk : k < q.length) (hf : findL q (q.getD k default).after = some a) (x : Id3) : Up q k x ↔ x = (q.getD k default).id ∨ Up q a x := by
  refine ⟨fun h => ?_, fun h => h.elim (fun h => h ▸ .self k hk) (fun h => .up k a x hk hf h)⟩
  cases h with
  | self _ => exact .inl rfl
  | up _ j _ _ hf' h' => rw [hf] at hf'; cases hf'; exact .inr h'

/-- A map from IDs to true. -/
structure IsSet (A : List (List Int × Value)) (P : Id3 → Prop) : Prop where
  key : ∀ e ∈ A, e.2 = .bool true ∧ ∃ x, e.1 = keyI x
  look : ∀ x, lookK A (keyI x) (.bool false) = .bool true ↔ P x
theorem IsSet.len {A : List (List Int × Value)} {P : Id3 → Prop} (h : IsSet A P) : ∀ e ∈ A, e.1.length = 3 := fun e he => by
  obtain ⟨x, hx⟩ := (h.key e he).2
  rw [hx]; rfl
theorem IsSet.nil : IsSet [] fun _ => False := ⟨fun e h => by simp at h, fun x => by simp [lookK]⟩
theorem mem_setK' {m : List (List Int × Value)} {k : List Int} {v : Value} {e : List Int × Value} (h : e ∈ setK m k v) : e = (k, v) ∨ e ∈ m := by
  unfold setK at h
  cases hi : idxK m k with
  | none => rw [hi] at h; simp at h; exact h.symm
  | some j => rw [hi] at h; exact (List.mem_or_eq_of_mem_set h).symm
theorem IsSet.add {A : List (List Int × Value)} {P : Id3 → Prop} (h : IsSet A P) (y : Id3) : IsSet (setK A (keyI y) (.bool true)) fun x => P x ∨ x = y := by
  refine ⟨fun e he => ?_, fun x => ?_⟩
  · rcases mem_setK' he with rfl | he
    · exact ⟨rfl, y, rfl⟩
    · exact h.key e he
  · rw [look_set]
    by_cases e : keyI y = keyI x
    · rw [if_pos e]; exact ⟨fun _ => .inr (keyI_inj e).symm, fun _ => rfl⟩
    · rw [if_neg e, h.look x]
      refine ⟨.inl, fun h => h.resolve_right fun h2 => e (by rw [h2])⟩
theorem IsSet.congr {A : List (List Int × Value)} {P P' : Id3 → Prop} (h : IsSet A P) (hp : ∀ x, P x ↔ P' x) : IsSet A P' := ⟨h.key, fun x => (h.look x).trans (hp x)⟩
theorem find_keyed {A : List (List Int × Value)} {k : List Int} {z v : Value} (h : lookK A k z = v) (hz : v ≠ z) : ∃ i, i < A.length ∧ (A.getD i default).1 = k := by
  unfold lookK at h
  cases hf : A.find? (fun x => decide (x.1 = k)) with
  | none => rw [hf] at h; exact absurd h.symm hz
  | some e =>
    obtain ⟨i, hi, he⟩ := List.mem_iff_getElem.1 (List.mem_of_find?_eq_some hf)
    have := List.find?_some hf
    exact ⟨i, hi, by simp only [List.getD, List.getElem?_eq_getElem hi, Option.getD_some, he]; simpa using this⟩
theorem IsSet.all {A : List (List Int × Value)} {P : Id3 → Prop} (h : IsSet A P) {x : Id3} (hx : P x) : ∃ i, i < A.length ∧ (A.getD i default).1 = keyI x :=
  find_keyed ((h.look x).2 hx) (by simp)
theorem IsSet.at {A : List (List Int × Value)} {P : Id3 → Prop} (h : IsSet A P) {i : Nat} (hi : i < A.length) : ∃ x, (A.getD i default).1 = keyI x ∧ P x := by
  have hm : A[i] ∈ A := List.getElem_mem hi
  obtain ⟨hv, x, hx⟩ := h.key _ hm
  refine ⟨x, by simp only [List.getD, List.getElem?_eq_getElem hi, Option.getD_some]; exact hx, (h.look x).1 ?_⟩
  unfold lookK
  cases hf : A.find? (fun y => decide (y.1 = keyI x)) with
  | none =>
    have := List.find?_eq_none.1 hf _ hm
    simp [hx] at this
  | some e => exact (h.key e (List.mem_of_find?_eq_some hf)).1
theorem IsSet.val {A : List (List Int × Value)} {P : Id3 → Prop} (h : IsSet A P) {x : Id3} (hx : P x) : lookK A (keyI x) (.bool false) = .bool true := (h.look x).2 hx

/-- The map from the cells' IDs to the sets of those above. -/
structure UnderOK (q : List Cell) (i : Nat) (U : List (List Int × Value)) (fs : List (Value × Froz)) : Prop where
  len : ∀ e ∈ U, e.1.length = 3
  at' : ∀ k, k < i → ∃ b A, lookK U (keyI (q.getD k default).id) (.map none) = .map (some b) ∧ (Value.map (some b), Froz.map A) ∈ fs ∧ IsSet A (Up q k)
theorem UnderOK.nil (q : List Cell) : UnderOK q 0 [] [] := ⟨fun e h => by simp at h, fun k hk => by omega⟩
theorem UnderOK.step {q : List Cell} (hd : distinct q) {i : Nat} (hi : i < q.length) {U A : List (List Int × Value)} {fs : List (Value × Froz)} (h : UnderOK q i U fs) (hA : IsSet A (Up q i)) (b : Nat) :
    UnderOK q (i + 1) (setK U (keyI (q.getD i default).id) (.map (some b))) ((.map (some b), .map A) :: fs) := by
  refine ⟨fun e he => ?_, fun k hk => ?_⟩
  · rcases mem_setK' he with rfl | he
    · rfl
    · exact h.len e he
  · rw [look_set]
    by_cases e : k = i
    · subst e
      exact ⟨b, A, by simp, by simp, hA⟩
    · have hne : ¬ keyI (q.getD i default).id = keyI (q.getD k default).id := fun h2 => by
        have h2 := keyI_inj h2
        have hki : k < q.length := by omega
        have e1 := findL_split hd (s := q.take k) (p := q[k]) (t := q.drop (k + 1)) (by rw [← List.drop_eq_getElem_cons hki, List.take_append_drop])
        have e2 := findL_split hd (s := q.take i) (p := q[i]) (t := q.drop (i + 1)) (by rw [← List.drop_eq_getElem_cons hi, List.take_append_drop])
        simp only [List.getD, List.getElem?_eq_getElem hki, List.getElem?_eq_getElem hi, Option.getD_some] at h2
        rw [← h2, e2] at e1
        simp only [Option.some.injEq, List.length_take] at e1
        omega
      rw [if_neg hne]
      obtain ⟨b', A', h1, h2, h3⟩ := h.at' k (by omega)
      exact ⟨b', A', h1, List.mem_cons_of_mem _ h2, h3⟩

/-- How much is left to range over. -/
def leftOf (n : Nat) (seen : List Nat) : Nat := ((List.range n).filter fun i => decide (i ∉ seen)).length
theorem leftOf_lt {n : Nat} {seen : List Nat} {j : Nat} (hj : j < n) (hs : j ∉ seen) : leftOf n (seen ++ [j]) < leftOf n seen := by
  have e : (List.range n).filter (fun i => decide (i ∉ seen ++ [j])) = ((List.range n).filter fun i => decide (i ∉ seen)).filter fun i => decide (i ≠ j) := by
    rw [List.filter_filter]
    congr 1
    funext i
    simp only [List.mem_append, List.mem_singleton, not_or, Bool.decide_and, Bool.and_comm]
  rw [leftOf, leftOf, e]
  have hm : j ∈ (List.range n).filter fun i => decide (i ∉ seen) := by simp [hj, hs]
  exact List.length_filter_lt_length_iff_exists.2 ⟨j, hm, by simp⟩

end E
end Go.Proofs.Ytlkchnfgeedghaa
