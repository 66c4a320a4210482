/- Plain laws of the order of cells: the children are a sorted permutation; a list that forms a tree is ordered to a permutation of itself. -/
import Derived.Test.YtlkchnfgeedghaaS3
set_option linter.unusedSimpArgs false
namespace Go.Proofs.Ytlkchnfgeedghaa
namespace E
open Go

theorem insP_perm (ys : List Cell) (c : Cell) : (insP ys c).Perm (c :: ys) := by
  unfold insP
  refine List.perm_middle.trans ?_
  rw [List.take_append_drop]
theorem fold_perm (x : Id3) : ∀ (l ch : List Cell), (l.foldl (fun ch c => if c.after = x then insP ch c else ch) ch).Perm (ch ++ l.filter (fun c => decide (c.after = x)))
  | [], ch => by simp
  | c :: l, ch => by
    rw [List.foldl_cons]
    refine (fold_perm x l _).trans ?_
    by_cases h : c.after = x
    · rw [if_pos h, List.filter_cons_of_pos (by simpa using h)]
      refine ((insP_perm ch c).append_right _).trans ?_
      exact List.perm_middle.symm
    · rw [if_neg h, List.filter_cons_of_neg (by simpa using h)]
theorem kids_perm (l : List Cell) (x : Id3) : (kidsL l x).Perm (l.filter (fun c => decide (c.after = x))) := by
  have := fold_perm x l []
  simpa [kidsL] using this
theorem mem_kids {l : List Cell} {x : Id3} {c : Cell} : c ∈ kidsL l x ↔ c ∈ l ∧ c.after = x := by
  rw [(kids_perm l x).mem_iff, List.mem_filter, decide_eq_true_eq]

/-- All IDs differ and none is zero. -/
def distinct (l : List Cell) : Prop := (l.map Cell.id).Nodup ∧ ∀ c ∈ l, c.id ≠ zId
theorem findL_of_mem {l : List Cell} (hd : distinct l) {c : Cell} (h : c ∈ l) : ∃ i, findL l c.id = some i ∧ l.getD i default = c := by
  obtain ⟨i, hi, rfl⟩ := List.mem_iff_getElem.1 h
  refine ⟨i, ?_, by simp [List.getD, hi]⟩
  rw [findL, List.findIdx?_eq_some_iff_getElem]
  refine ⟨hi, by simp, fun j hj => ?_⟩
  have hn := hd.1
  rw [List.nodup_iff_pairwise_ne, List.pairwise_iff_getElem] at hn
  have := hn j i (by simp; omega) (by simp; omega) hj
  simpa using this
theorem id_inj {l : List Cell} (hd : distinct l) {c d : Cell} (hc : c ∈ l) (hd' : d ∈ l) (h : c.id = d.id) : c = d := by
  obtain ⟨i, h1, h2⟩ := findL_of_mem hd hc
  obtain ⟨j, h3, h4⟩ := findL_of_mem hd hd'
  rw [h] at h1
  rw [h3] at h1; cases h1
  rw [← h2, ← h4]
theorem distinct_nodup {l : List Cell} (hd : distinct l) : l.Nodup := by
  have := hd.1
  rw [List.nodup_iff_pairwise_ne, List.pairwise_map] at this
  exact this.imp fun h e => h (by rw [e])
theorem findL_some_mem {l : List Cell} {x : Id3} {i : Nat} (h : findL l x = some i) : l.getD i default ∈ l := by
  have := findL_lt h
  simp [List.getD, this]
theorem findL_zero {l : List Cell} (hd : distinct l) : findL l zId = none := by
  cases h : findL l zId with
  | none => rfl
  | some i => exact absurd (findL_id h) (hd.2 _ (findL_some_mem h))

/-- What is rooted lies at most so deep. -/
def far (l : List Cell) (j : Nat) (c : Cell) : Prop := ∀ n, rootN l n c.after = true → j ≤ n
theorem far_kid {l : List Cell} (hd : distinct l) {j : Nat} {p c : Cell} (hp : p ∈ l) (h : far l j p) (ha : c.after = p.id) : far l (j + 1) c := by
  intro n hn
  cases n with
  | zero => simp [rootN] at hn
  | succ n =>
    rw [rootN, ha, if_neg (hd.2 p hp)] at hn
    obtain ⟨i, h1, h2⟩ := findL_of_mem hd hp
    rw [h1] at hn
    simp only [h2] at hn
    have := h n hn
    omega
theorem far_one (l : List Cell) (c : Cell) : far l 1 c := by
  intro n hn
  cases n with
  | zero => simp [rootN] at hn
  | succ n => omega
theorem deep_of {l : List Cell} (hd : distinct l) (hr : ∀ c ∈ l, rooted l c = true) : ∀ (f j : Nat) (x : Id3), ((x = zId ∧ j = 0) ∨ ∃ c ∈ l, c.id = x ∧ far l j c) → l.length + 2 ≤ f + j → deepB l f x
  | 0, j, x, h, hle => by
    rcases h with ⟨_, rfl⟩ | ⟨c, hc, _, hf⟩
    · omega
    · have := hf _ (hr c hc)
      omega
  | f + 1, j, x, h, hle => by
    intro c hc
    obtain ⟨hcl, hca⟩ := mem_kids.1 hc
    refine deep_of hd hr f (j + 1) c.id (.inr ⟨c, hcl, rfl, ?_⟩) (by omega)
    rcases h with ⟨rfl, rfl⟩ | ⟨p, hp, rfl, hf⟩
    · exact far_one l c
    · exact far_kid hd hp hf hca

theorem below_mem {l : List Cell} : ∀ (f : Nat) (x : Id3), ∀ c ∈ belowN l f x, c ∈ l
  | 0, x, c, h => by simp [belowN] at h
  | f + 1, x, c, h => by
    rw [belowN, List.mem_flatMap] at h
    obtain ⟨k, hk, h⟩ := h
    rcases List.mem_cons.1 h with rfl | h
    · exact (mem_kids.1 hk).1
    · exact below_mem f _ c h

def occ (l : List Cell) (f : Nat) (x : Id3) (c : Cell) : Nat := (belowN l f x).count c
def one' (p : Prop) [Decidable p] : Nat := if p then 1 else 0
theorem occ_succ (l : List Cell) (f : Nat) (x : Id3) (c : Cell) : occ l (f + 1) x c = ((kidsL l x).map fun k => one' (k = c) + occ l f k.id c).sum := by
  unfold occ
  rw [belowN, List.count_flatMap]
  congr 1
  refine List.map_congr_left fun k _ => ?_
  simp only [Function.comp, List.count_cons, one']
  by_cases e : k = c
  · simp [e]; omega
  · simp [e]
theorem sum_add {α : Type} (f g : α → Nat) : ∀ l : List α, (l.map fun k => f k + g k).sum = (l.map f).sum + (l.map g).sum
  | [] => rfl
  | a :: l => by simp only [List.map_cons, List.sum_cons, sum_add f g l]; omega
theorem sum_one {c : Cell} : ∀ l : List Cell, (l.map fun k => one' (k = c)).sum = l.count c
  | [] => rfl
  | a :: l => by
    rw [List.map_cons, List.sum_cons, sum_one l, List.count_cons]
    unfold one'
    by_cases e : a = c
    · rw [if_pos e, if_pos (by simpa using e), Nat.add_comm]
    · rw [if_neg e, if_neg (by simpa using e)]; omega
theorem count_kids {l : List Cell} (hd : distinct l) {x : Id3} {c : Cell} (hc : c ∈ l) : (kidsL l x).count c = one' (c.after = x) := by
  rw [(kids_perm l x).count_eq]
  unfold one'
  have hn := distinct_nodup hd
  split
  · rename_i h
    rw [List.count_filter (by simpa using h)]
    rw [hn.count, if_pos hc]
  · rename_i h
    rw [List.count_eq_zero]
    intro hm
    rw [List.mem_filter] at hm
    exact h (by simpa using hm.2)
/-- A cell occurs where its parent does, one deeper. -/
theorem occ_parent {l : List Cell} (hd : distinct l) {c : Cell} (hc : c ∈ l) : ∀ (f : Nat) (x : Id3), occ l (f + 1) x c = one' (c.after = x) + (match findL l c.after with | some i => occ l f x (l.getD i default) | none => 0)
  | 0, x => by
    rw [occ_succ]
    have h0 : ∀ k : Cell, occ l 0 k.id c = 0 := fun k => rfl
    simp only [h0, Nat.add_zero, sum_one]
    rw [count_kids hd hc]
    cases findL l c.after <;> simp [occ, belowN]
  | f + 1, x => by
    rw [occ_succ, sum_add, sum_one, count_kids hd hc]
    congr 1
    have hk : ∀ k ∈ kidsL l x, occ l (f + 1) k.id c = one' (c.after = k.id) + (match findL l c.after with | some i => occ l f k.id (l.getD i default) | none => 0) := fun k _ => occ_parent hd hc f k.id
    rw [List.map_congr_left hk]
    cases hf : findL l c.after with
    | none =>
      simp only [Nat.add_zero]
      have : ∀ k ∈ kidsL l x, one' (c.after = k.id) = 0 := fun k hk => by
        unfold one'
        rw [if_neg]
        intro e
        obtain ⟨i, h1, _⟩ := findL_of_mem hd (mem_kids.1 hk).1
        rw [← e, hf] at h1; cases h1
      rw [List.map_congr_left this]
      induction kidsL l x with
      | nil => rfl
      | cons a l ih => simp [ih]
    | some i =>
      simp only
      rw [occ_succ]
      congr 1
      refine List.map_congr_left fun k hk => ?_
      congr 1
      unfold one'
      have h1 := findL_id hf
      have h2 := findL_some_mem hf
      have h3 := (mem_kids.1 hk).1
      by_cases e : k = l.getD i default
      · rw [if_pos (by rw [e, h1]), if_pos e]
      · rw [if_neg (fun e2 => e (id_inj hd h3 h2 (by rw [h1, e2]))), if_neg e]
theorem occ_root {l : List Cell} (hd : distinct l) : ∀ (n : Nat) (c : Cell), c ∈ l → rootN l n c.after = true → ∀ f, n ≤ f → occ l f zId c = 1
  | 0, c, _, h, _, _ => by simp [rootN] at h
  | n + 1, c, hc, h, f, hf => by
    obtain ⟨g, rfl⟩ : ∃ g, f = g + 1 := ⟨f - 1, by omega⟩
    rw [occ_parent hd hc]
    rw [rootN] at h
    by_cases e : c.after = zId
    · rw [e, findL_zero hd]; simp [one']
    · rw [if_neg e] at h
      cases hp : findL l c.after with
      | none => rw [hp] at h; cases h
      | some i =>
        rw [hp] at h
        simp only at h ⊢
        rw [occ_root hd n _ (findL_some_mem hp) h g (by omega)]
        simp [one', e]
theorem below_perm {l : List Cell} (hd : distinct l) (hr : ∀ c ∈ l, rooted l c = true) {f : Nat} (hf : l.length + 1 ≤ f) : (belowN l f zId).Perm l := by
  rw [List.perm_iff_count]
  intro c
  by_cases hc : c ∈ l
  · have := occ_root hd (l.length + 1) c hc (hr c hc) f hf
    unfold occ at this
    rw [this, (distinct_nodup hd).count, if_pos hc]
  · rw [List.count_eq_zero.2 hc, List.count_eq_zero.2 fun h => hc (below_mem f zId c h)]

theorem validI_ne {x : Id3} (h : validI x = true) : x ≠ zId := by
  intro e; subst e; simp [validI, zId] at h
theorem forms_distinct {l : List Cell} (h : fineC l = true) : distinct l := by
  have h1 := (fineC_iff l).1 h
  refine ⟨?_, fun c hc => ?_⟩
  · rw [List.nodup_iff_pairwise_ne, List.pairwise_iff_getElem]
    intro i j hi hj hij e
    simp only [List.length_map] at hi hj
    have := (h1 j hj).2 i hij
    simp only [List.getElem_map] at e
    simp [clash, List.getD, hi, hj, e] at this
  · obtain ⟨i, hi, rfl⟩ := List.mem_iff_getElem.1 hc
    have := (h1 i hi).1
    simp only [List.getD, List.getElem?_eq_getElem hi, Option.getD_some, validC, Bool.and_eq_true] at this
    exact validI_ne this.1
theorem forms_rooted {l : List Cell} (h : forms l = true) : fineC l = true ∧ ∀ c ∈ l, rooted l c = true := by
  simp only [forms, Bool.and_eq_true, List.all_eq_true, List.mem_range] at h
  refine ⟨h.1, fun c hc => ?_⟩
  obtain ⟨i, hi, rfl⟩ := List.mem_iff_getElem.1 hc
  have := h.2 i hi
  simpa [List.getD, hi] using this

/-- The order of cells, by the reference. -/
def orderL (l : List Cell) : List Cell × Int := if forms l then (belowN l (l.length + 2) zId, 0) else ([], 130)
theorem order_deep {l : List Cell} (h : forms l = true) : deepB l (l.length + 2) zId :=
  deep_of (forms_distinct (forms_rooted h).1) (forms_rooted h).2 _ 0 zId (.inl ⟨rfl, rfl⟩) (by omega)
theorem order_perm {l : List Cell} (h : forms l = true) : (belowN l (l.length + 2) zId).Perm l :=
  below_perm (forms_distinct (forms_rooted h).1) (forms_rooted h).2 (by omega)


theorem occ_le_one {l : List Cell} (hd : distinct l) : ∀ (f : Nat) (c : Cell), c ∈ l → occ l f zId c ≤ 1
  | 0, c, _ => by simp [occ, belowN]
  | f + 1, c, hc => by
    rw [occ_parent hd hc]
    by_cases e : c.after = zId
    · rw [e, findL_zero hd]; simp [one']
    · cases hp : findL l c.after with
      | none => simp [one', e]
      | some i =>
        have := occ_le_one hd f _ (findL_some_mem hp)
        simp only [one', if_neg e]
        omega
theorem nodup_of_count : ∀ {l : List Cell}, (∀ c, l.count c ≤ 1) → l.Nodup
  | [], _ => List.nodup_nil
  | a :: l, h => by
    rw [List.nodup_cons]
    have ha := h a
    rw [List.count_cons_self] at ha
    refine ⟨fun hm => ?_, nodup_of_count fun c => ?_⟩
    · have := List.count_pos_iff.2 hm
      omega
    · have := h c
      have h2 : l.count c ≤ (a :: l).count c := List.count_le_count_cons
      omega
theorem below_nodup {l : List Cell} (hd : distinct l) (f : Nat) : (belowN l f zId).Nodup := nodup_of_count fun c => by
  by_cases hc : c ∈ l
  · exact occ_le_one hd f c hc
  · rw [List.count_eq_zero.2 fun h => hc (below_mem f zId c h)]; omega
theorem nodup_len {a l : List Cell} (ha : a.Nodup) (hl : l.Nodup) (hs : ∀ c ∈ a, c ∈ l) : a.Perm (l.filter fun c => decide (c ∈ a)) := by
  rw [List.perm_iff_count]
  intro c
  by_cases h : c ∈ a
  · rw [ha.count, if_pos h, List.count_filter (by simpa using h), hl.count, if_pos (hs c h)]
  · rw [List.count_eq_zero.2 h, List.count_eq_zero.2 fun h2 => h (by have := (List.mem_filter.1 h2).2; simpa using this)]
theorem below_len {l : List Cell} (hd : distinct l) (f : Nat) : (belowN l f zId).length ≤ l.length := by
  rw [(nodup_len (below_nodup hd f) (distinct_nodup hd) (below_mem f zId)).length_eq]
  exact List.length_filter_le _ _
theorem not_deep (l : List Cell) : ∀ (f : Nat) (x : Id3), ¬ deepB l f x → f ≤ (belowN l f x).length
  | 0, _, _ => Nat.zero_le _
  | f + 1, x, h => by
    have : ∃ c ∈ kidsL l x, ¬ deepB l f c.id := by
      refine Classical.byContradiction fun hn => h fun c hc => Classical.byContradiction fun h2 => hn ⟨c, hc, h2⟩
    obtain ⟨c, hc, h2⟩ := this
    have ih := not_deep l f c.id h2
    rw [belowN]
    obtain ⟨s, t, e⟩ := List.append_of_mem hc
    rw [e, List.flatMap_append, List.flatMap_cons]
    simp only [List.length_append, List.length_cons]
    omega
/-- The walk below the beginning ends, whether all cells are rooted or not. -/
theorem deep_all {l : List Cell} (hd : distinct l) : deepB l (l.length + 1) zId := Classical.byContradiction fun h => by
  have h1 := not_deep l _ _ h
  have h2 := below_len hd (l.length + 1)
  omega
theorem below_more {l : List Cell} : ∀ (f : Nat) (x : Id3), deepB l f x → belowN l (f + 1) x = belowN l f x
  | 0, x, h => h.elim
  | f + 1, x, h => by
    rw [belowN, belowN]
    have : ∀ c ∈ kidsL l x, (c :: belowN l (f + 1) c.id) = c :: belowN l f c.id := fun c hc => by rw [below_more f c.id (h c hc)]
    generalize kidsL l x = ks at this
    induction ks with
    | nil => rfl
    | cons a ks ih => rw [List.flatMap_cons, List.flatMap_cons, this a List.mem_cons_self, ih fun c hc => this c (List.mem_cons_of_mem _ hc)]
theorem rootN_mono {l : List Cell} : ∀ (n m : Nat) (a : Id3), n ≤ m → rootN l n a = true → rootN l m a = true
  | 0, _, _, _, h => by simp [rootN] at h
  | n + 1, 0, _, h, _ => by omega
  | n + 1, m + 1, a, h, hr => by
    rw [rootN] at hr ⊢
    by_cases e : a = zId
    · rw [if_pos e]
    · rw [if_neg e] at hr ⊢
      cases hf : findL l a with
      | none => rw [hf] at hr; cases hr
      | some i =>
        rw [hf] at hr
        exact rootN_mono n m _ (by omega) hr
theorem below_rooted {l : List Cell} (hd : distinct l) : ∀ (f j : Nat) (x : Id3), (x = zId ∧ j = 0 ∨ ∃ p ∈ l, p.id = x ∧ rootN l j p.after = true) → ∀ c ∈ belowN l f x, rootN l (j + f) c.after = true
  | 0, j, x, _, c, hc => by simp [belowN] at hc
  | f + 1, j, x, h, c, hc => by
    rw [belowN, List.mem_flatMap] at hc
    obtain ⟨k, hk, hc⟩ := hc
    obtain ⟨hkl, hka⟩ := mem_kids.1 hk
    have hroot : rootN l (j + 1) k.after = true := by
      rw [hka]
      rcases h with ⟨rfl, rfl⟩ | ⟨p, hp, rfl, hr⟩
      · rw [rootN, if_pos rfl]
      · rw [rootN, if_neg (hd.2 p hp)]
        obtain ⟨i, h1, h2⟩ := findL_of_mem hd hp
        rw [h1]
        simp only [h2]
        exact hr
    rcases List.mem_cons.1 hc with rfl | hc
    · exact rootN_mono (j + 1) _ _ (by omega) hroot
    · have := below_rooted hd f (j + 1) k.id (.inr ⟨k, hkl, rfl, hroot⟩) c hc
      rw [show j + (f + 1) = j + 1 + f by omega]
      exact this
/-- The order of cells, as the program finds it. -/
theorem order_eq (l : List Cell) : orderL l = if fineC l then (if (belowN l (l.length + 1) zId).length = l.length then (belowN l (l.length + 1) zId, 0) else ([], 130)) else ([], 130) := by
  cases hf : fineC l with
  | false => simp [orderL, forms, hf]
  | true =>
    have hd := forms_distinct hf
    rw [if_pos rfl]
    by_cases hlen : (belowN l (l.length + 1) zId).length = l.length
    · rw [if_pos hlen]
      have hall : ∀ c ∈ l, c ∈ belowN l (l.length + 1) zId := fun c hc => by
        have hp := nodup_len (below_nodup hd (l.length + 1)) (distinct_nodup hd) (below_mem _ zId)
        have h1 := hp.length_eq
        have h2 : (l.filter fun c => decide (c ∈ belowN l (l.length + 1) zId)).length = l.length := by omega
        have h3 := List.length_filter_eq_length_iff.1 h2 c hc
        simpa using h3
      have hr : forms l = true := by
        simp only [forms, hf, Bool.true_and, List.all_eq_true, List.mem_range]
        intro j hj
        have hm : l.getD j default ∈ l := by simp [List.getD, hj]
        have := below_rooted hd (l.length + 1) 0 zId (.inl ⟨rfl, rfl⟩) _ (hall _ hm)
        rw [Nat.zero_add] at this
        exact this
      simp only [orderL, hr, if_true]
      rw [below_more _ _ (deep_all hd)]
    · rw [if_neg hlen]
      have hr : forms l = false := by
        cases hr : forms l with
        | false => rfl
        | true =>
          exact absurd (below_perm hd (forms_rooted hr).2 (f := l.length + 1) (by omega)).length_eq hlen
      simp [orderL, hr]

end E
end Go.Proofs.Ytlkchnfgeedghaa
