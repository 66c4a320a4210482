/- Plain laws of inserting a cell: all others keep their order; where the new one stands. -/
import Derived.Test.YtlkchnfgeedghaaPF
set_option linter.unusedSimpArgs false
set_option linter.unusedVariables false
namespace Go.Proofs.Ytlkchnfgeedghaa
namespace E
open Go

theorem kids_snoc (l : List Cell) (c : Cell) (x : Id3) : kidsL (l ++ [c]) x = if c.after = x then insP (kidsL l x) c else kidsL l x := by
  rw [kidsL, List.foldl_append]; rfl
theorem no_kids {l : List Cell} (hf : forms l = true) {x : Id3} (hx : x ∉ l.map Cell.id) (hz : x ≠ zId) : kidsL l x = [] := by
  rw [List.eq_nil_iff_forall_not_mem]
  intro c hc
  obtain ⟨h1, h2⟩ := mem_kids.1 hc
  have := ((forms_iff l).1 hf).2 c h1
  rw [rootN_succ, h2, if_neg hz, par, (findL_none_iff l x).2 hx] at this
  cases this
/-- A cell that is new, and what it may be put into. -/
structure NewC (l : List Cell) (c : Cell) : Prop where
  f : forms l = true
  g : forms (l ++ [c]) = true
theorem NewC.id {l : List Cell} {c : Cell} (h : NewC l c) : c.id ∉ l.map Cell.id := fun hc => by
  have := forms_clash hc; rw [h.g] at this; cases this
theorem NewC.mem {l : List Cell} {c : Cell} (h : NewC l c) : c ∉ l := fun hc => h.id (List.mem_map_of_mem hc)
theorem NewC.dist {l : List Cell} {c : Cell} (h : NewC l c) : distinct (l ++ [c]) := forms_distinct (forms_rooted h.g).1
theorem NewC.nz {l : List Cell} {c : Cell} (h : NewC l c) : c.id ≠ zId := h.dist.2 c (by simp)
theorem NewC.up {l : List Cell} {c : Cell} (h : NewC l c) : c.after ≠ c.id := fun e => by
  have hr := ((forms_iff _).1 h.g).2 c (by simp)
  have key : ∀ n, rootN (l ++ [c]) n c.id = false := by
    intro n
    induction n with
    | zero => rfl
    | succ n ih =>
      rw [rootN_succ, if_neg h.nz, par_of h.dist (by simp)]
      simp only [Option.map_some, e, ih]
  rw [e, key] at hr; cases hr
theorem NewC.none {l : List Cell} {c : Cell} (h : NewC l c) : kidsL (l ++ [c]) c.id = [] := by
  rw [kids_snoc, if_neg h.up, no_kids h.f h.id h.nz]
theorem NewC.leaf {l : List Cell} {c : Cell} (h : NewC l c) (f : Nat) : belowN (l ++ [c]) f c.id = [] := by
  cases f with
  | zero => rfl
  | succ f => rw [belowN, h.none]; rfl
theorem NewC.del {l : List Cell} {c : Cell} (h : NewC l c) : ∀ (f : Nat) (x : Id3), (belowN (l ++ [c]) f x).filter (fun d => decide (d ≠ c)) = belowN l f x
  | 0, _ => rfl
  | f + 1, x => by
    have key : ∀ ks : List Cell, (∀ d ∈ ks, d ∈ l) → (ks.flatMap fun d => d :: belowN (l ++ [c]) f d.id).filter (fun d => decide (d ≠ c)) = ks.flatMap fun d => d :: belowN l f d.id := by
      intro ks hks
      induction ks with
      | nil => rfl
      | cons d ks ih =>
        have hd : d ≠ c := fun e => h.mem (e ▸ hks d List.mem_cons_self)
        rw [List.flatMap_cons, List.flatMap_cons, List.filter_append, ih fun e he => hks e (List.mem_cons_of_mem _ he), List.filter_cons_of_pos (by simpa using hd), h.del f d.id]
    have hm : ∀ d ∈ kidsL l x, d ∈ l := fun d hd => (mem_kids.1 hd).1
    rw [belowN, belowN, kids_snoc]
    split
    · rename_i e
      rw [insP, List.flatMap_append, List.flatMap_cons, h.leaf, List.filter_append, List.filter_append, key _ fun d hd => hm d (List.mem_of_mem_take hd), key _ fun d hd => hm d (List.mem_of_mem_drop hd)]
      rw [List.filter_cons_of_neg (by simp), List.filter_nil, List.nil_append, ← List.flatMap_append, List.take_append_drop]
    · exact key _ hm
/-- The others keep their order. -/
theorem NewC.order {l : List Cell} {c : Cell} (h : NewC l c) : (orderL (l ++ [c])).1.filter (fun d => decide (d ≠ c)) = (orderL l).1 := by
  rw [order_of h.g, order_of h.f]
  simp only [List.length_append, List.length_cons, List.length_nil]
  rw [h.del, show l.length + (0 + 1) + 2 = l.length + 2 + 1 by omega, below_more _ _ (order_deep h.f)]

/-- What stands at and below a cell. -/
theorem block {l : List Cell} : ∀ (f : Nat) (x : Id3), deepB l f x → ∀ p ∈ belowN l f x, ∃ s t g, belowN l f x = s ++ p :: (belowN l g p.id ++ t) ∧ deepB l g p.id
  | 0, _, h, _, _ => h.elim
  | f + 1, x, h, p, hp => by
    rw [belowN] at hp ⊢
    obtain ⟨k, hk, hpk⟩ := List.mem_flatMap.1 hp
    obtain ⟨k1, k2, e⟩ := List.append_of_mem hk
    have hdk := h k hk
    rw [e, List.flatMap_append, List.flatMap_cons]
    rcases List.mem_cons.1 hpk with rfl | hpk
    · exact ⟨k1.flatMap fun c => c :: belowN l f c.id, k2.flatMap fun c => c :: belowN l f c.id, f, by simp, hdk⟩
    · obtain ⟨s, t, g, e2, hg⟩ := block f k.id hdk p hpk
      refine ⟨(k1.flatMap fun c => c :: belowN l f c.id) ++ k :: s, t ++ k2.flatMap fun c => c :: belowN l f c.id, g, ?_, hg⟩
      rw [e2]
      simp
theorem findL_split {l s t : List Cell} {p : Cell} (hd : distinct l) (h : l = s ++ p :: t) : findL l p.id = some s.length := by
  obtain ⟨i, h1, h2⟩ := findL_of_mem hd (c := p) (by rw [h]; simp)
  have hi := findL_lt h1
  have hs : s.length < l.length := by rw [h]; simp
  have h3 : l[s.length] = p := by simp [h]
  have h4 : l[i] = p := by simpa [List.getD, hi] using h2
  have hn := distinct_nodup hd
  rw [List.nodup_iff_pairwise_ne, List.pairwise_iff_getElem] at hn
  rw [h1]
  congr 1
  rcases Nat.lt_trichotomy i s.length with c | c | c
  · exact absurd (h4.trans h3.symm) (hn i _ hi hs c)
  · exact c
  · exact absurd (h3.trans h4.symm) (hn _ i hs hi c)
theorem split_at {l : List Cell} {x : Id3} {i : Nat} (h : findL l x = some i) : ∃ s c t, l = s ++ c :: t ∧ s.length = i ∧ c.id = x := by
  have hi := findL_lt h
  refine ⟨l.take i, l[i], l.drop (i + 1), by rw [← List.drop_eq_getElem_cons hi, List.take_append_drop], by simp; omega, ?_⟩
  have := findL_id h
  simpa [List.getD, hi] using this
theorem filter_split {s t : List Cell} {c : Cell} (hn : (s ++ c :: t).Nodup) : (s ++ c :: t).filter (fun d => decide (d ≠ c)) = s ++ t := by
  rw [List.nodup_append] at hn
  obtain ⟨h1, h2, h3⟩ := hn
  rw [List.nodup_cons] at h2
  rw [List.filter_append, List.filter_cons_of_neg (by simp)]
  congr 1
  · rw [List.filter_eq_self]; intro d hd; simpa using fun e => h3 d hd c (by simp) e
  · rw [List.filter_eq_self]; intro d hd
    have : d ≠ c := fun e => h2.1 (by rw [← e]; exact hd)
    simpa using this

/-- Inserted: the list without the new cell, and the place of the new cell. -/
theorem NewC.place {l : List Cell} {c : Cell} (h : NewC l c) (ho : inOrd l) : ∃ s t, (orderL (l ++ [c])).1 = s ++ c :: t ∧ s ++ t = l ∧ findL (orderL (l ++ [c])).1 c.id = some s.length := by
  have h2 := order_ord (l := l ++ [c]) (by rw [order_of h.g])
  have hm : c ∈ (orderL (l ++ [c])).1 := h2.2.mem_iff.2 (by simp)
  obtain ⟨s, t, e⟩ := List.append_of_mem hm
  have hd := h2.1.distinct
  refine ⟨s, t, e, ?_, findL_split hd e⟩
  have h3 := h.order
  have hn := distinct_nodup hd
  rw [e] at h3 hn
  rw [filter_split hn, ho] at h3
  exact h3
theorem first_kid {l : List Cell} {c : Cell} (h : ∀ s ∈ l, s.after = c.after → gtC s c = false) : kidsL (l ++ [c]) c.after = c :: kidsL l c.after := by
  rw [kids_snoc, if_pos rfl]
  have hz : posC (kidsL l c.after) c = 0 := by
    unfold posC
    cases hk : kidsL l c.after with
    | nil => rfl
    | cons y ys =>
      have hy := mem_kids.1 (show y ∈ kidsL l c.after by rw [hk]; exact List.mem_cons_self)
      rw [List.takeWhile_cons, h y hy.1 hy.2]; rfl
  rw [insP, hz]; rfl
/-- .. directly behind its parent, if no sibling is greater. -/
theorem NewC.first {l : List Cell} {c : Cell} (h : NewC l c) (ho : inOrd l) (hs : ∀ s ∈ l, s.after = c.after → gtC s c = false) :
    (c.after = zId ∧ findL (orderL (l ++ [c])).1 c.id = some 0) ∨ ∃ i, findL l c.after = some i ∧ findL (orderL (l ++ [c])).1 c.id = some (i + 1) := by
  have h2 := order_ord (l := l ++ [c]) (by rw [order_of h.g])
  have hd := h2.1.distinct
  by_cases hz : c.after = zId
  · refine .inl ⟨hz, ?_⟩
    have e : (orderL (l ++ [c])).1 = [] ++ c :: (belowN (l ++ [c]) ((l ++ [c]).length + 1) c.id ++ (kidsL l c.after).flatMap fun d => d :: belowN (l ++ [c]) ((l ++ [c]).length + 1) d.id) := by
      rw [order_of h.g, belowN, ← hz, first_kid hs]; rfl
    exact findL_split hd e
  · refine .inr ?_
    have hr := ((forms_iff _).1 h.g).2 c (by simp)
    rw [rootN_succ, if_neg hz] at hr
    cases hp : par (l ++ [c]) c.after with
    | none => rw [hp] at hr; cases hr
    | some p =>
      obtain ⟨h3, h4⟩ := par_some hp
      have hpc : p ≠ c := fun e => h.up (by rw [← h4, e])
      have hpl : p ∈ l := by simpa [hpc] using h3
      have hpo : p ∈ belowN (l ++ [c]) ((l ++ [c]).length + 2) zId := by
        have := h2.2.mem_iff.2 h3; rw [order_of h.g] at this; exact this
      obtain ⟨s, t, g, e, hg⟩ := block _ _ (order_deep h.g) p hpo
      cases g with
      | zero => exact hg.elim
      | succ g =>
        have eb : belowN (l ++ [c]) (g + 1) p.id = (kidsL (l ++ [c]) p.id).flatMap fun d => d :: belowN (l ++ [c]) g d.id := rfl
        rw [eb, h4, first_kid hs, List.flatMap_cons] at e
        have e1 : (orderL (l ++ [c])).1 = (s ++ [p]) ++ c :: (belowN (l ++ [c]) g c.id ++ ((kidsL l c.after).flatMap fun d => d :: belowN (l ++ [c]) g d.id) ++ t) := by
          rw [order_of h.g]
          simp only
          rw [e]
          simp
        have h5 := findL_split hd e1
        have h6 := h.order
        have hn := distinct_nodup hd
        rw [e1] at h6 hn
        rw [filter_split hn, ho] at h6
        simp only at h6
        have h7 := findL_split ho.distinct (s := s) (p := p) (t := belowN (l ++ [c]) g c.id ++ ((kidsL l c.after).flatMap fun d => d :: belowN (l ++ [c]) g d.id) ++ t) (h6.symm.trans (by simp only [List.append_assoc, List.cons_append, List.nil_append]))
        refine ⟨s.length, by rw [← h4]; exact h7, ?_⟩
        rw [h5]; simp

end E
end Go.Proofs.Ytlkchnfgeedghaa
