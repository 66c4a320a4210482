/- Plain laws of sequence.Order's two plain maps. -/
import Derived.Test.YtlkchnfgeedghaaSB
set_option linter.unusedSimpArgs false
set_option linter.unusedVariables false
namespace Go.Proofs.Ytlkchnfgeedghaa
namespace E
open Go

theorem look_set (m : List (List Int × Value)) (k k' : List Int) (v z : Value) : lookK (setK m k v) k' z = if k = k' then v else lookK m k' z := by
  rw [lookK_idx, lookK_idx, setK]
  cases hi : idxK m k with
  | none =>
    simp only
    rw [idxK_append]
    cases hi' : idxK m k' with
    | some j =>
      simp only
      have hne : ¬ k = k' := fun e => by rw [e, hi'] at hi; cases hi
      rw [if_neg hne]
      have := idxK_lt hi'
      simp [List.getD, List.getElem?_append_left this]
    | none =>
      by_cases e : k = k'
      · simp [e, List.getD]
      · simp [e]
  | some j =>
    simp only
    obtain ⟨hj, hk⟩ := idxK_key' hi
    have hs : m.set j (k, v) = m.set j (m[j].1, v) := by rw [hk]
    rw [hs, idxK_set hj]
    cases hi' : idxK m k' with
    | none =>
      have hne : ¬ k = k' := fun e => by rw [e, hi'] at hi; cases hi
      simp [hne]
    | some j' =>
      obtain ⟨hj', hk'⟩ := idxK_key' hi'
      by_cases e : k = k'
      · subst e
        rw [hi] at hi'; cases hi'
        simp [List.getD, hj]
      · have hne : ¬ j = j' := fun h => by subst h; exact e (hk.symm.trans hk')
        simp [List.getD, List.getElem?_set_ne hne, e]
theorem mem_setK {m : List (List Int × Value)} {k : List Int} {v : Value} {e : List Int × Value} (h : e ∈ setK m k v) : e.1 = k ∨ e ∈ m := by
  unfold setK at h
  split at h
  · rcases List.mem_or_eq_of_mem_set h with h | rfl
    · exact .inr h
    · exact .inl rfl
  · rcases List.mem_append.1 h with h | h
    · exact .inr h
    · simp at h; subst h; exact .inl rfl

structure KnownOK (p : List Cell) (kn : List (List Int × Value)) : Prop where
  len : ∀ e ∈ kn, e.1.length = 3
  look : ∀ x, lookK kn (keyI x) (.bool false) = .bool (decide (x ∈ p.map Cell.id))
theorem KnownOK.nil : KnownOK [] [] := ⟨fun e h => by simp at h, fun x => rfl⟩
theorem KnownOK.step {p : List Cell} {kn : List (List Int × Value)} (h : KnownOK p kn) (c : Cell) : KnownOK (p ++ [c]) (setK kn (keyI c.id) (.bool true)) := by
  refine ⟨fun e he => ?_, fun x => ?_⟩
  · rcases mem_setK he with he | he
    · rw [he]; rfl
    · exact h.len e he
  · rw [look_set, h.look]
    by_cases e : keyI c.id = keyI x
    · rw [if_pos e, ← keyI_inj e]; simp
    · rw [if_neg e]
      have : ¬ x = c.id := fun e' => e (by rw [e'])
      simp [this]

def dotOf (c : Cell) (d s : Int) : Prop := c.id.dev = d ∧ c.id.seq = s
structure TimesOK (p : List Cell) (ti : List (List Int × Value)) : Prop where
  len : ∀ e ∈ ti, e.1.length = 2
  look : ∀ d s, ∃ t, lookK ti [d, s] (.int .i64 0) = .int .i64 t ∧ ((t = 0 ∧ ∀ c ∈ p, ¬ dotOf c d s) ∨ (1 ≤ t ∧ (∃ c ∈ p, dotOf c d s) ∧ ∀ c ∈ p, dotOf c d s → c.time = t))
theorem TimesOK.nil : TimesOK [] [] := ⟨fun e h => by simp at h, fun d s => ⟨0, rfl, .inl ⟨rfl, fun c hc => by simp at hc⟩⟩⟩
theorem TimesOK.step {p : List Cell} {ti : List (List Int × Value)} (h : TimesOK p ti) {c : Cell} (h1 : 1 ≤ c.time) (hc : ∀ x ∈ p, dotOf x c.id.dev c.id.seq → x.time = c.time) : TimesOK (p ++ [c]) (setK ti [c.id.dev, c.id.seq] (.int .i64 c.time)) := by
  refine ⟨fun e he => ?_, fun d s => ?_⟩
  · rcases mem_setK he with he | he
    · rw [he]; rfl
    · exact h.len e he
  · rw [look_set]
    by_cases e : [c.id.dev, c.id.seq] = [d, s]
    · rw [if_pos e]
      simp only [List.cons.injEq, and_true] at e
      obtain ⟨rfl, rfl⟩ := e
      refine ⟨_, rfl, .inr ⟨h1, ⟨c, by simp, rfl, rfl⟩, fun x hx hd => ?_⟩⟩
      rcases List.mem_append.1 hx with hx | hx
      · exact hc x hx hd
      · simp at hx; rw [hx]
    · rw [if_neg e]
      have hnd : ¬ dotOf c d s := fun ⟨a, b⟩ => e (by rw [a, b])
      obtain ⟨t, h2, h3⟩ := h.look d s
      refine ⟨t, h2, ?_⟩
      rcases h3 with ⟨h3, h4⟩ | ⟨h3, ⟨x, hx, hxd⟩, h5⟩
      · refine .inl ⟨h3, fun x hx => ?_⟩
        rcases List.mem_append.1 hx with hx | hx
        · exact h4 x hx
        · simp at hx; rw [hx]; exact hnd
      · refine .inr ⟨h3, ⟨x, by simp [hx], hxd⟩, fun y hy hyd => ?_⟩
        rcases List.mem_append.1 hy with hy | hy
        · exact h5 y hy hyd
        · simp at hy; rw [hy] at hyd; exact (hnd hyd).elim

theorem mem_take_iff {l : List Cell} {i : Nat} (h : i ≤ l.length) (x : Cell) : x ∈ l.take i ↔ ∃ k, k < i ∧ l.getD k default = x := by
  constructor
  · intro hx
    obtain ⟨k, hk, rfl⟩ := List.mem_iff_getElem.1 hx
    rw [List.length_take] at hk
    exact ⟨k, by omega, by simp [List.getD, (by omega : k < l.length)]⟩
  · rintro ⟨k, hk, rfl⟩
    have hk' : k < l.length := by omega
    have hkt : k < (l.take i).length := by rw [List.length_take]; omega
    have : (l.take i)[k] = l.getD k default := by simp [List.getD, hk']
    rw [← this]; exact List.getElem_mem hkt
theorem clash_iff (x y : Cell) : clash x y = true ↔ (x.id = y.id ∨ (dotOf y x.id.dev x.id.seq ∧ x.time ≠ y.time)) := by
  simp only [clash, Bool.or_eq_true, Bool.and_eq_true, decide_eq_true_eq, Bool.not_eq_true', decide_eq_false_iff_not, dotOf]
  constructor
  · rintro (h | ⟨h1, h2, h3⟩)
    · exact .inl h
    · exact .inr ⟨⟨h1.symm, h2.symm⟩, h3⟩
  · rintro (h | ⟨⟨h1, h2⟩, h3⟩)
    · exact .inl h
    · exact .inr ⟨h1.symm, h2.symm, h3⟩
theorem validC_time {c : Cell} (h : validC c = true) : 1 ≤ c.time := by
  simp only [validC, Bool.and_eq_true, decide_eq_true_eq] at h; omega

/-- A cell that the maps let in. -/
theorem okTo_step {l : List Cell} {i : Nat} (hi : i < l.length) (hok : okTo l i) (hv : validC (l.getD i default) = true) (hid : (l.getD i default).id ∉ (l.take i).map Cell.id)
    (hti : ∀ x ∈ l.take i, dotOf x (l.getD i default).id.dev (l.getD i default).id.seq → x.time = (l.getD i default).time) : okTo l (i + 1) := by
  intro j hj
  rcases Nat.lt_or_ge j i with h | h
  · exact hok j h
  · obtain rfl : j = i := by omega
    refine ⟨hv, fun k hk => ?_⟩
    cases hc : clash (l.getD j default) (l.getD k default) with
    | false => rfl
    | true =>
      have hm : l.getD k default ∈ l.take j := (mem_take_iff (by omega) _).2 ⟨k, hk, rfl⟩
      rcases (clash_iff _ _).1 hc with h1 | ⟨h1, h2⟩
      · exact (hid (by rw [h1]; exact List.mem_map_of_mem hm)).elim
      · exact (h2 (hti _ hm h1).symm).elim
/-- One that they refuse. -/
theorem not_fine_v {l : List Cell} {i : Nat} (hi : i < l.length) (hv : validC (l.getD i default) = false) : fineC l = false := by
  cases h : fineC l with
  | false => rfl
  | true => have := ((fineC_iff l).1 h i hi).1; rw [hv] at this; cases this
theorem not_fine_id {l : List Cell} {i : Nat} (hi : i < l.length) (hid : (l.getD i default).id ∈ (l.take i).map Cell.id) : fineC l = false := by
  cases h : fineC l with
  | false => rfl
  | true =>
    obtain ⟨x, hx, he⟩ := List.mem_map.1 hid
    obtain ⟨k, hk, rfl⟩ := (mem_take_iff (by omega) x).1 hx
    have := ((fineC_iff l).1 h i hi).2 k hk
    rw [(clash_iff _ _).2 (.inl he.symm)] at this; cases this
theorem not_fine_t {l : List Cell} {i : Nat} (hi : i < l.length) {x : Cell} (hx : x ∈ l.take i) (hd : dotOf x (l.getD i default).id.dev (l.getD i default).id.seq) (ht : x.time ≠ (l.getD i default).time) : fineC l = false := by
  cases h : fineC l with
  | false => rfl
  | true =>
    obtain ⟨k, hk, rfl⟩ := (mem_take_iff (by omega) x).1 hx
    have := ((fineC_iff l).1 h i hi).2 k hk
    rw [(clash_iff _ _).2 (.inr ⟨hd, fun e => ht e.symm⟩)] at this; cases this
theorem order_bad {l : List Cell} (h : fineC l = false) : orderL l = ([], 130) := by rw [order_eq, h]; rfl

end E
end Go.Proofs.Ytlkchnfgeedghaa
