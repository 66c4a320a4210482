/- Plain laws: the order of cells hangs neither on the order in which they are given nor on which are gone. -/
import Derived.Test.YtlkchnfgeedghaaS5
import Derived.Test.YtlkchnfgeedghaaPC
set_option linter.unusedSimpArgs false
set_option linter.unusedVariables false
namespace Go.Proofs.Ytlkchnfgeedghaa
namespace E
open Go

theorem clash_symm (x y : Cell) : clash x y = clash y x := by
  simp only [clash, eq_comm]
theorem fine_pair (l : List Cell) : fineC l = true ↔ (∀ c ∈ l, validC c = true) ∧ l.Pairwise (fun a b => clash a b = false) := by
  rw [fineC_iff]
  constructor
  · intro h
    refine ⟨fun c hc => ?_, ?_⟩
    · obtain ⟨i, hi, rfl⟩ := List.mem_iff_getElem.1 hc
      have := (h i hi).1
      simpa [List.getD, hi] using this
    · rw [List.pairwise_iff_getElem]
      intro i j hi hj hij
      have := (h j hj).2 i hij
      rw [clash_symm]
      simpa [List.getD, hi, hj] using this
  · rintro ⟨h1, h2⟩ j hj
    rw [List.pairwise_iff_getElem] at h2
    refine ⟨?_, fun k hk => ?_⟩
    · have := h1 l[j] (List.getElem_mem hj)
      simpa [List.getD, hj] using this
    · have hk' : k < l.length := by omega
      have := h2 k j hk' hj hk
      rw [clash_symm] at this
      simpa [List.getD, hk', hj] using this
/-- The parent with an ID. -/
def par (l : List Cell) (a : Id3) : Option Cell := (findL l a).map fun i => l.getD i default
theorem rootN_succ (l : List Cell) (k : Nat) (a : Id3) : rootN l (k + 1) a = if a = zId then true else match (par l a).map Cell.after with | none => false | some b => rootN l k b := by
  rw [rootN, par]
  split
  · rfl
  · cases findL l a <;> rfl
theorem rootN_par {l l' : List Cell} (h : ∀ a, (par l a).map Cell.after = (par l' a).map Cell.after) : ∀ (n : Nat) (a : Id3), rootN l n a = rootN l' n a
  | 0, _ => rfl
  | n + 1, a => by
    rw [rootN_succ, rootN_succ, h a]
    split
    · rfl
    · cases (par l' a).map Cell.after with
      | none => rfl
      | some b => exact rootN_par h n b
theorem par_some {l : List Cell} {a : Id3} {p : Cell} (h : par l a = some p) : p ∈ l ∧ p.id = a := by
  obtain ⟨i, h1, rfl⟩ := Option.map_eq_some_iff.1 h
  exact ⟨findL_some_mem h1, findL_id h1⟩
theorem par_of {l : List Cell} (hd : distinct l) {p : Cell} (h : p ∈ l) : par l p.id = some p := by
  obtain ⟨i, h1, h2⟩ := findL_of_mem hd h
  simp only [par, h1, Option.map_some, h2]
theorem distinct_perm {l l' : List Cell} (hp : l.Perm l') (hd : distinct l) : distinct l' :=
  ⟨(hp.map Cell.id).nodup_iff.1 hd.1, fun c hc => hd.2 c (hp.mem_iff.2 hc)⟩
theorem par_perm {l l' : List Cell} (hp : l.Perm l') (hd : distinct l) (a : Id3) : par l a = par l' a := by
  have hd' := distinct_perm hp hd
  cases h : par l a with
  | some p =>
    obtain ⟨h1, rfl⟩ := par_some h
    exact (par_of hd' (hp.mem_iff.1 h1)).symm
  | none =>
    cases h' : par l' a with
    | none => rfl
    | some p =>
      obtain ⟨h1, rfl⟩ := par_some h'
      rw [par_of hd (hp.mem_iff.2 h1)] at h; cases h
theorem forms_iff (l : List Cell) : forms l = true ↔ fineC l = true ∧ ∀ c ∈ l, rootN l (l.length + 1) c.after = true := by
  constructor
  · exact forms_rooted
  · rintro ⟨h1, h2⟩
    simp only [forms, h1, Bool.true_and, List.all_eq_true, List.mem_range]
    intro j hj
    exact h2 _ (by simp [List.getD, hj])
theorem fine_perm {l l' : List Cell} (hp : l.Perm l') : fineC l = true ↔ fineC l' = true := by
  rw [fine_pair, fine_pair]
  refine and_congr ⟨fun h c hc => h c (hp.mem_iff.2 hc), fun h c hc => h c (hp.mem_iff.1 hc)⟩ ?_
  exact List.Perm.pairwise_iff (fun {x y} h => by rw [clash_symm]; exact h) hp
theorem forms_perm {l l' : List Cell} (hp : l.Perm l') (h : forms l = true) : forms l' = true := by
  rw [forms_iff] at h ⊢
  have hd := forms_distinct h.1
  refine ⟨(fine_perm hp).1 h.1, fun c hc => ?_⟩
  rw [← rootN_par (fun a => by rw [par_perm hp hd a]), ← hp.length_eq]
  exact h.2 c (hp.mem_iff.2 hc)
theorem kids_same {l l' : List Cell} (hp : l.Perm l') (hd : distinct l) (x : Id3) : kidsL l x = kidsL l' x :=
  sorted_unique (kids_sorted hd x) (kids_sorted (distinct_perm hp hd) x) ((kids_perm l x).trans ((hp.filter _).trans (kids_perm l' x).symm))
theorem below_same {l l' : List Cell} (h : ∀ x, kidsL l x = kidsL l' x) : ∀ (f : Nat) (x : Id3), belowN l f x = belowN l' f x
  | 0, _ => rfl
  | f + 1, x => by
    rw [belowN, belowN, h x]
    congr 1
    funext c
    rw [below_same h f c.id]
/-- The order in which cells are given has no effect. -/
theorem orderL_perm {l l' : List Cell} (hp : l.Perm l') : orderL l = orderL l' := by
  unfold orderL
  cases h : forms l with
  | true =>
    rw [forms_perm hp h, if_pos rfl, if_pos rfl, hp.length_eq, below_same (kids_same hp (forms_distinct (forms_rooted h).1))]
  | false =>
    cases h' : forms l' with
    | false => rfl
    | true => rw [forms_perm hp.symm h'] at h; cases h

/-- A list in order. -/
def inOrd (l : List Cell) : Prop := orderL l = (l, 0)
theorem checkL_iff (l : List Cell) : checkL l = 0 ↔ inOrd l := by
  unfold checkL inOrd
  constructor
  · intro h
    split at h
    · rename_i h2; rw [← h2.1]; exact Prod.ext h2.2 rfl
    · cases h
  · intro h; rw [h, if_pos ⟨rfl, rfl⟩]
theorem checkL_bad {l : List Cell} (h : ¬ inOrd l) : checkL l = 130 := (check_two l).resolve_left fun e => h ((checkL_iff l).1 e)
theorem order_forms {l : List Cell} (h : (orderL l).2 = 0) : forms l = true := by
  unfold orderL at h
  cases hf : forms l with
  | true => rfl
  | false => rw [hf] at h; cases h
theorem order_of {l : List Cell} (h : forms l = true) : orderL l = (belowN l (l.length + 2) zId, 0) := by unfold orderL; rw [if_pos h]
theorem order_no {l : List Cell} (h : forms l = false) : orderL l = ([], 130) := by unfold orderL; rw [h]; rfl
theorem order_ord {l : List Cell} (h : (orderL l).2 = 0) : inOrd (orderL l).1 ∧ (orderL l).1.Perm l := by
  have hf := order_forms h
  have hp : (orderL l).1.Perm l := by rw [order_of hf]; exact order_perm hf
  exact ⟨by rw [inOrd, orderL_perm hp]; exact Prod.ext rfl h, hp⟩
theorem inOrd.forms {l : List Cell} (h : inOrd l) : forms l = true := order_forms (by rw [h])
theorem inOrd.distinct {l : List Cell} (h : inOrd l) : distinct l := forms_distinct (forms_rooted h.forms).1
theorem inOrd_nil : inOrd [] := rfl

/-- What changes no stamp, no parent, no value. -/
def Keeps (g : Cell → Cell) : Prop := ∀ c, (g c).id = c.id ∧ (g c).after = c.after ∧ (g c).time = c.time ∧ (g c).val = c.val
section
variable {g : Cell → Cell} (hg : Keeps g)
include hg
theorem gtC_map (a b : Cell) : gtC (g a) (g b) = gtC a b := by
  simp only [gtC, (hg a).1, (hg b).1, (hg a).2.2.1, (hg b).2.2.1]
theorem posC_map (ys : List Cell) (c : Cell) : posC (ys.map g) (g c) = posC ys c := by
  induction ys with
  | nil => rfl
  | cons y ys ih =>
    simp only [posC, List.map_cons, List.takeWhile_cons, gtC_map hg] at ih ⊢
    split
    · simp only [List.length_cons, ih]
    · rfl
theorem insP_map (ys : List Cell) (c : Cell) : insP (ys.map g) (g c) = (insP ys c).map g := by
  simp only [insP, posC_map hg, List.map_append, List.map_cons, List.map_take, List.map_drop]
theorem kidsL_map (l : List Cell) (x : Id3) : kidsL (l.map g) x = (kidsL l x).map g := by
  have key : ∀ (l ch : List Cell), (l.map g).foldl (fun ch c => if c.after = x then insP ch c else ch) (ch.map g) = (l.foldl (fun ch c => if c.after = x then insP ch c else ch) ch).map g := by
    intro l
    induction l with
    | nil => intro ch; rfl
    | cons c l ih =>
      intro ch
      rw [List.map_cons, List.foldl_cons, List.foldl_cons, (hg c).2.1]
      split
      · rw [insP_map hg, ih]
      · rw [ih]
  exact key l []
theorem below_map (l : List Cell) : ∀ (f : Nat) (x : Id3), belowN (l.map g) f x = (belowN l f x).map g
  | 0, _ => rfl
  | f + 1, x => by
    rw [belowN, belowN, kidsL_map hg, List.map_flatMap, List.flatMap_map]
    congr 1
    funext c
    simp only [Function.comp, List.map_cons, (hg c).1, below_map l f c.id]
theorem findL_map (l : List Cell) (a : Id3) : findL (l.map g) a = findL l a := by
  simp only [findL, List.findIdx?_map]
  congr 1
  funext c
  simp only [Function.comp, (hg c).1]
theorem par_map (l : List Cell) (a : Id3) : par (l.map g) a = (par l a).map g := by
  rw [par, par, findL_map hg]
  cases h : findL l a with
  | none => rfl
  | some i =>
    have := findL_lt h
    simp [List.getD, this]
theorem validC_map (c : Cell) : validC (g c) = validC c := by
  simp only [validC, (hg c).1, (hg c).2.1, (hg c).2.2.1, (hg c).2.2.2]
theorem clash_map (a b : Cell) : clash (g a) (g b) = clash a b := by
  simp only [clash, (hg a).1, (hg b).1, (hg a).2.2.1, (hg b).2.2.1]
theorem fine_map (l : List Cell) : fineC (l.map g) = fineC l := by
  rw [Bool.eq_iff_iff, fine_pair, fine_pair, List.pairwise_map]
  simp only [List.mem_map, forall_exists_index, and_imp, forall_apply_eq_imp_iff₂, validC_map hg, clash_map hg]
theorem forms_map (l : List Cell) : forms (l.map g) = forms l := by
  rw [Bool.eq_iff_iff, forms_iff, forms_iff, fine_map hg]
  have hr : ∀ n a, rootN (l.map g) n a = rootN l n a := rootN_par fun a => by
    rw [par_map hg, Option.map_map]
    congr 1
    funext c
    exact (hg c).2.1
  simp only [List.mem_map, forall_exists_index, and_imp, forall_apply_eq_imp_iff₂, hr, List.length_map, (hg _).2.1]
/-- What is gone has no effect on the order. -/
theorem orderL_map (l : List Cell) : orderL (l.map g) = ((orderL l).1.map g, (orderL l).2) := by
  unfold orderL
  rw [forms_map hg]
  cases forms l with
  | true => simp only [if_true, below_map hg, List.length_map]
  | false => rfl
theorem inOrd.map {l : List Cell} (h : inOrd l) : inOrd (l.map g) := by rw [inOrd, orderL_map hg, h]
end

/-- One cell goes. -/
def goneAt (x : Id3) (c : Cell) : Cell := if c.id = x then { c with gone := true } else c
theorem goneAt_keeps (x : Id3) : Keeps (goneAt x) := fun c => by
  unfold goneAt; split <;> exact ⟨rfl, rfl, rfl, rfl⟩
theorem goneAt_gone (x : Id3) (c : Cell) : (goneAt x c).gone = (c.gone || decide (c.id = x)) := by
  unfold goneAt; split
  · rename_i h; simp [h]
  · rename_i h; simp [h]
theorem set_gone {l : List Cell} (hd : distinct l) {x : Id3} {i : Nat} (h : findL l x = some i) : l.set i { l.getD i default with gone := true } = l.map (goneAt x) := by
  have hi := findL_lt h
  have hx := findL_id h
  refine List.ext_getElem (by simp) fun j h1 h2 => ?_
  rw [List.getElem_map]
  have hj : j < l.length := by simpa using h1
  by_cases e : i = j
  · subst e
    rw [List.getElem_set_self]
    simp only [List.getD, List.getElem?_eq_getElem hi, Option.getD_some] at hx ⊢
    rw [goneAt, if_pos hx]
  · rw [List.getElem_set_ne e, goneAt, if_neg]
    intro hx'
    have := id_inj hd (List.getElem_mem hj) (findL_some_mem h) (hx'.trans hx.symm)
    have hn := distinct_nodup hd
    rw [List.nodup_iff_pairwise_ne, List.pairwise_iff_getElem] at hn
    simp only [List.getD, List.getElem?_eq_getElem hi, Option.getD_some] at this
    rcases Nat.lt_or_gt_of_ne e with c | c
    · exact hn i j hi hj c this.symm
    · exact hn j i hj hi c this
theorem goneAt_eq (x : Id3) (c : Cell) : goneAt x c = { c with gone := c.gone || decide (c.id = x) } := by
  unfold goneAt; split
  · rename_i h; simp [h]
  · rename_i h; simp [h]
theorem goneAt_comm (a b : Id3) (c : Cell) : goneAt a (goneAt b c) = goneAt b (goneAt a c) := by
  simp only [goneAt_eq, Bool.or_assoc]
  rw [Bool.or_comm (decide (c.id = b))]
theorem goneAt_idem (a : Id3) (c : Cell) : goneAt a (goneAt a c) = goneAt a c := by
  simp only [goneAt_eq, Bool.or_assoc, Bool.or_self]
theorem findL_none_iff (l : List Cell) (x : Id3) : findL l x = none ↔ x ∉ l.map Cell.id := by
  rw [findL, List.findIdx?_eq_none_iff]
  simp only [List.mem_map, not_exists, not_and]
  constructor
  · intro h c hc e; have := h c hc; simp [e] at this
  · intro h c hc; simpa using h c hc
theorem findL_isSome {l : List Cell} {x : Id3} (h : x ∈ l.map Cell.id) : ∃ i, findL l x = some i := by
  cases hf : findL l x with
  | some i => exact ⟨i, rfl⟩
  | none => exact absurd h ((findL_none_iff l x).1 hf)
/-- Erasing in a list that is in order. -/
theorem erase_ord {l : List Cell} (h : inOrd l) (x : Id3) : eraseL l x = if x ∈ l.map Cell.id then (l.map (goneAt x), 0) else ([], 130) := by
  unfold eraseL
  rw [if_pos ((checkL_iff l).2 h)]
  by_cases hx : x ∈ l.map Cell.id
  · obtain ⟨i, hi⟩ := findL_isSome hx
    rw [hi, if_pos hx]
    simp only [set_gone h.distinct hi]
  · rw [(findL_none_iff l x).2 hx, if_neg hx]
theorem erase_bad {l : List Cell} (h : ¬ inOrd l) (x : Id3) : eraseL l x = ([], 130) := by
  unfold eraseL; rw [if_neg fun e => h ((checkL_iff l).1 e)]
theorem ins_ord {l : List Cell} (h : inOrd l) (c : Cell) : insL l c = if c.gone then ([], 130) else orderL (l ++ [c]) := by
  unfold insL; rw [if_pos ((checkL_iff l).2 h)]
theorem ins_bad {l : List Cell} (h : ¬ inOrd l) (c : Cell) : insL l c = ([], 130) := by
  unfold insL; rw [if_neg fun e => h ((checkL_iff l).1 e)]
theorem map_ids {g : Cell → Cell} (hg : Keeps g) (l : List Cell) : (l.map g).map Cell.id = l.map Cell.id := by
  rw [List.map_map]; congr 1; funext c; exact (hg c).1
theorem forms_clash {l : List Cell} {c : Cell} (h : c.id ∈ l.map Cell.id) : forms (l ++ [c]) = false := by
  cases hf : forms (l ++ [c]) with
  | false => rfl
  | true =>
    have := ((fine_pair _).1 (forms_rooted hf).1).2
    rw [List.pairwise_append] at this
    obtain ⟨d, hd, he⟩ := List.mem_map.1 h
    have := this.2.2 d hd c (by simp)
    simp [clash, he] at this

end E
end Go.Proofs.Ytlkchnfgeedghaa
