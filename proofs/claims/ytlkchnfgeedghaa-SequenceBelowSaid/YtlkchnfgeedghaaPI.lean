/- Plain laws for the statement SequenceConverges. -/
import Derived.Test.YtlkchnfgeedghaaPH
set_option linter.unusedSimpArgs false
set_option linter.unusedVariables false
namespace Go.Proofs.Ytlkchnfgeedghaa
namespace E
open Go

/-- A cell may be put in: its parent is there. -/
def canIn (d : List Cell) (c : Cell) : Prop := c.after = zId ∨ c.after ∈ d.map Cell.id
instance (d : List Cell) (c : Cell) : Decidable (canIn d c) := by unfold canIn; infer_instance

theorem fine_part {a d r : List Cell} (hp : (d ++ r).Perm a) (h : fineC a = true) : fineC d = true := by
  have := (fine_perm hp).2 h
  rw [fine_pair] at this ⊢
  rw [List.pairwise_append] at this
  exact ⟨fun c hc => this.1 c (List.mem_append_left _ hc), this.2.1⟩
theorem par_snoc {d : List Cell} {c : Cell} (hd : distinct (d ++ [c])) {x : Id3} (hx : x ≠ c.id) : par (d ++ [c]) x = par d x := by
  have hdd : distinct d := ⟨by have := hd.1; rw [List.map_append] at this; exact (List.nodup_append.1 this).1, fun y hy => hd.2 y (List.mem_append_left _ hy)⟩
  cases h : par (d ++ [c]) x with
  | some p =>
    obtain ⟨h1, rfl⟩ := par_some h
    have : p ∈ d := by
      rcases List.mem_append.1 h1 with h1 | h1
      · exact h1
      · simp at h1; exact absurd (by rw [h1]) hx
    exact (par_of hdd this).symm
  | none =>
    cases h' : par d x with
    | none => rfl
    | some p =>
      obtain ⟨h1, rfl⟩ := par_some h'
      rw [par_of hd (List.mem_append_left _ h1)] at h; cases h
/-- A list with one more cell whose parent is there forms a list. -/
theorem forms_snoc {d : List Cell} {c : Cell} (hf : forms d = true) (hfi : fineC (d ++ [c]) = true) (hc : canIn d c) : forms (d ++ [c]) = true := by
  have hd := forms_distinct hfi
  have hne : ∀ x ∈ d, x.id ≠ c.id := fun x hx e => by
    have := hd.1
    rw [List.map_append, List.nodup_append] at this
    exact this.2.2 x.id (List.mem_map_of_mem hx) c.id (by simp) e
  rw [forms_iff] at hf ⊢
  refine ⟨hfi, fun y hy => ?_⟩
  have key : ∀ n x, rootN d n x = true → rootN (d ++ [c]) n x = true := by
    intro n
    induction n with
    | zero => intro x h; exact h
    | succ n ih =>
      intro x h
      rw [rootN_succ] at h ⊢
      by_cases hz : x = zId
      · rw [if_pos hz]
      · rw [if_neg hz] at h ⊢
        cases hp : par d x with
        | none => rw [hp] at h; cases h
        | some p =>
          obtain ⟨h1, h2⟩ := par_some hp
          have hxc : x ≠ c.id := by rw [← h2]; exact hne p h1
          rw [par_snoc hd hxc, hp]
          rw [hp] at h
          exact ih _ h
  have hlen : (d ++ [c]).length + 1 = d.length + 1 + 1 := by simp
  rw [hlen]
  rcases List.mem_append.1 hy with hy | hy
  · exact rootN_mono _ _ _ (by omega) (key _ _ (hf.2 y hy))
  · simp at hy; subst hy
    rw [rootN_succ]
    by_cases hz : y.after = zId
    · rw [if_pos hz]
    · rw [if_neg hz]
      obtain ⟨p, hp, he⟩ := List.mem_map.1 (hc.resolve_left hz)
      rw [← he, par_of hd (List.mem_append_left _ hp)]
      exact key _ _ (hf.2 p hp)
/-- Something can be put in, as long as something is left. -/
theorem some_can {a d left : List Cell} (hf : forms a = true) (hp : (d ++ left).Perm a) {c : Cell} (hc : c ∈ left) : ∃ c' ∈ left, canIn d c' := by
  have hfi := (forms_iff a).1 hf
  have hd := forms_distinct hfi.1
  have key : ∀ (n : Nat) (c : Cell), c ∈ left → rootN a n c.after = true → ∃ c' ∈ left, canIn d c' := by
    intro n
    induction n with
    | zero => intro c _ h; simp [rootN] at h
    | succ n ih =>
      intro c hc h
      rw [rootN_succ] at h
      by_cases hz : c.after = zId
      · exact ⟨c, hc, .inl hz⟩
      · rw [if_neg hz] at h
        cases hpar : par a c.after with
        | none => rw [hpar] at h; cases h
        | some p =>
          rw [hpar] at h
          obtain ⟨h1, h2⟩ := par_some hpar
          rcases List.mem_append.1 (hp.mem_iff.2 h1) with h3 | h3
          · exact ⟨c, hc, .inr (by rw [← h2]; exact List.mem_map_of_mem h3)⟩
          · exact ih p h3 h
  exact key _ c hc (hfi.2 c (hp.mem_iff.1 (List.mem_append_right _ hc)))

/-- A cell as it stands while some are still to be erased. -/
def cur (late : List Id3) (c : Cell) : Cell := { c with gone := c.gone && !decide (c.id ∈ late) }
theorem cur_keeps (late : List Id3) : Keeps (cur late) := fun c => ⟨rfl, rfl, rfl, rfl⟩
theorem cur_nil (c : Cell) : cur [] c = c := by simp [cur]

/-- What holds while cells are put in: those that are in, those that are left, those that are to be erased, the list. -/
structure ConvI (a d left : List Cell) (late : List Id3) (l : List Cell) : Prop where
  perm : (d ++ left).Perm a
  ok : forms d = true
  list : l = (orderL d).1.map (cur late)
  gones : ∀ x ∈ late, ∃ c ∈ d, c.id = x ∧ c.gone = true
  once : late.Nodup
theorem ConvI.start {a : List Cell} : ConvI a [] a [] [] := ⟨List.Perm.refl _, rfl, rfl, fun x hx => by simp at hx, List.nodup_nil⟩
theorem ConvI.ord {a d left : List Cell} {late : List Id3} {l : List Cell} (h : ConvI a d left late l) : inOrd l ∧ (l.map Cell.id).Perm (d.map Cell.id) := by
  have h1 := order_ord (l := d) (by rw [order_of h.ok])
  rw [h.list]
  refine ⟨inOrd.map (cur_keeps late) h1.1, ?_⟩
  rw [map_ids (cur_keeps late)]
  exact h1.2.map Cell.id
theorem ConvI.can {a d left : List Cell} {late : List Id3} {l : List Cell} (h : ConvI a d left late l) (c : Cell) : canIn l c ↔ canIn d c := by
  unfold canIn; rw [h.ord.2.mem_iff]
theorem cur_other {late : List Id3} {c d : Cell} (h : d.id ≠ c.id) : cur (late ++ [c.id]) d = cur late d := by
  unfold cur
  have : decide (d.id ∈ late ++ [c.id]) = decide (d.id ∈ late) := by simp [h]
  rw [this]
/-- One more cell is put in. -/
theorem ConvI.step {a d s t : List Cell} {c : Cell} {late : List Id3} {l : List Cell} (ha : forms a = true) (h : ConvI a d (s ++ c :: t) late l) (hc : canIn d c) :
    ∃ x, insL l { c with gone := false } = (x, 0) ∧ x.length = l.length + 1 ∧ (c.gone = false → ConvI a (d ++ [c]) (s ++ t) late x) ∧ (c.gone = true → ConvI a (d ++ [c]) (s ++ t) (late ++ [c.id]) x ∧ ∃ y, eraseL x c.id = (y, 0) ∧ ConvI a (d ++ [c]) (s ++ t) late y) := by
  have hperm : (d ++ [c] ++ (s ++ t)).Perm a := by
    refine List.Perm.trans ?_ h.perm
    rw [List.append_assoc]
    refine List.Perm.append_left d ?_
    rw [List.cons_append, List.nil_append]
    exact List.perm_middle.symm
  have hfa := (forms_iff a).1 ha
  have hfi : fineC (d ++ [c]) = true := fine_part hperm hfa.1
  have hf := forms_snoc h.ok hfi hc
  have hd := forms_distinct hfi
  have hne : ∀ x ∈ d, x.id ≠ c.id := fun x hx e => by
    have := hd.1
    rw [List.map_append, List.nodup_append] at this
    exact this.2.2 x.id (List.mem_map_of_mem hx) c.id (by simp) e
  have hcl : c.id ∉ late := fun hm => by
    obtain ⟨x, hx, e, _⟩ := h.gones _ hm
    exact hne x hx e
  obtain ⟨ho, hids⟩ := h.ord
  have hod := order_ord (l := d) (by rw [order_of h.ok])
  have hoc := order_ord (l := d ++ [c]) (by rw [order_of hf])
  have hg : Keeps (cur (late ++ [c.id])) := cur_keeps _
  have hx : (orderL (l ++ [{ c with gone := false }])) = ((orderL (d ++ [c])).1.map (cur (late ++ [c.id])), 0) := by
    have hp : (l ++ [{ c with gone := false }]).Perm ((d ++ [c]).map (cur (late ++ [c.id]))) := by
      rw [List.map_append, List.map_cons, List.map_nil]
      refine List.Perm.append ?_ ?_
      · rw [h.list]
        refine (hod.2.map _).trans ?_
        rw [List.map_congr_left fun x hx => (cur_other (late := late) (hne x hx)).symm]
      · have : cur (late ++ [c.id]) c = { c with gone := false } := by simp [cur]
        rw [this]
    rw [orderL_perm hp, orderL_map hg, order_of hf]
  have hins : insL l { c with gone := false } = ((orderL (d ++ [c])).1.map (cur (late ++ [c.id])), 0) := by
    rw [ins_ord ho, if_neg (by simp), hx]
  have hlen : ((orderL (d ++ [c])).1.map (cur (late ++ [c.id]))).length = l.length + 1 := by
    rw [List.length_map, hoc.2.length_eq, h.list, List.length_map, hod.2.length_eq]; simp
  have hlate : ∀ x ∈ late, ∃ y ∈ d ++ [c], y.id = x ∧ y.gone = true := fun x hx => by
    obtain ⟨y, h1, h2⟩ := h.gones x hx
    exact ⟨y, List.mem_append_left _ h1, h2⟩
  refine ⟨_, hins, hlen, fun hgo => ?_, fun hgo => ?_⟩
  · refine ⟨hperm, hf, ?_, hlate, h.once⟩
    refine List.map_congr_left fun x hx => ?_
    rcases List.mem_append.1 (hoc.2.mem_iff.1 hx) with h1 | h1
    · exact cur_other (hne x h1)
    · simp at h1; subst h1; simp [cur, hgo]
  · have hI : ConvI a (d ++ [c]) (s ++ t) (late ++ [c.id]) ((orderL (d ++ [c])).1.map (cur (late ++ [c.id]))) := by
      refine ⟨hperm, hf, rfl, fun x hx => ?_, ?_⟩
      · rcases List.mem_append.1 hx with hx | hx
        · exact hlate x hx
        · simp at hx; subst hx; exact ⟨c, by simp, rfl, hgo⟩
      · rw [List.nodup_append]
        exact ⟨h.once, by simp, fun x hx y hy e => by simp at hy; subst hy; subst e; exact hcl hx⟩
    refine ⟨hI, (orderL (d ++ [c])).1.map (cur late), ?_, hperm, hf, rfl, hlate, h.once⟩
    rw [erase_ord (inOrd.map hg hoc.1), map_ids hg, if_pos (by rw [(hoc.2.map Cell.id).mem_iff]; simp), List.map_map]
    congr 1
    refine List.map_congr_left fun x hx => ?_
    rcases List.mem_append.1 (hoc.2.mem_iff.1 hx) with h1 | h1
    · simp only [Function.comp, cur_other (hne x h1)]
      rw [goneAt, if_neg (show (cur late x).id ≠ c.id from hne x h1)]
    · simp at h1; subst h1
      simp [Function.comp, goneAt_eq, cur, hgo, hcl]
/-- All are in; those that are late are erased, one by one. -/
theorem conv_late {a d : List Cell} {late : List Id3} {l : List Cell} (ha : forms a = true) (h : ConvI a d [] late l) : l = (orderL a).1.map (cur late) := by
  rw [h.list]
  have hp : d.Perm a := by simpa using h.perm
  rw [orderL_perm hp]
theorem late_step {a d : List Cell} {late : List Id3} {l : List Cell} (ha : forms a = true) (h : ConvI a d [] late l) {i : Nat} (hi : i < late.length) :
    eraseL ((orderL a).1.map (cur (late.drop i))) (late.getD i default) = ((orderL a).1.map (cur (late.drop (i + 1))), 0) := by
  have hp : d.Perm a := by simpa using h.perm
  have hoa := order_ord (l := a) (by rw [order_of ha])
  have hdl : late.drop i = late.getD i default :: late.drop (i + 1) := by
    rw [List.drop_eq_getElem_cons hi]; simp [List.getD, hi]
  have hmem : late.getD i default ∈ late := by simp [List.getD, hi]
  obtain ⟨c, hc, he, hg⟩ := h.gones _ hmem
  have hca : c ∈ (orderL a).1 := hoa.2.mem_iff.2 (hp.mem_iff.1 hc)
  have hn : (late.getD i default) ∉ late.drop (i + 1) := by
    have := h.once
    have h2 : (late.drop i).Nodup := (List.drop_sublist i late).nodup this
    rw [hdl, List.nodup_cons] at h2
    exact h2.1
  rw [erase_ord (inOrd.map (cur_keeps _) hoa.1), map_ids (cur_keeps _), if_pos (by rw [← he]; exact List.mem_map_of_mem hca), List.map_map]
  congr 1
  refine List.map_congr_left fun x hx => ?_
  simp only [Function.comp, goneAt_eq]
  by_cases e : x.id = late.getD i default
  · have hxc : x = c := id_inj hoa.1.distinct hx hca (e.trans he.symm)
    subst hxc
    have h3 : x.id ∉ late.drop (i + 1) := by rw [e]; exact hn
    simp only [cur, hg, e, hn, decide_true, decide_false, Bool.or_true, Bool.not_false, Bool.and_true]
  · have h3 : decide (x.id ∈ late.drop i) = decide (x.id ∈ late.drop (i + 1)) := by
      generalize late.getD i default = y at *
      rw [hdl]; simp [e]
    simp only [cur, h3, e, decide_false, Bool.or_false]
theorem map_cur_nil (l : List Cell) : l.map (cur []) = l := by
  rw [List.map_congr_left fun c _ => cur_nil c]; simp

end E
end Go.Proofs.Ytlkchnfgeedghaa
