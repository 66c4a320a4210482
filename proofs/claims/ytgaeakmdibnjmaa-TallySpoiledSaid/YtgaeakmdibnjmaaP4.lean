/- Plain laws of adding many at one device, and of merging what two devices added apart. -/
import Derived.Test.YtgaeakmdibnjmaaP3
set_option linter.unusedSimpArgs false
namespace Go.Proofs.Ytgaeakmdibnjmaa
namespace E
open Go

def seqOf (l : List Tally) (d : Int) : Int := l.foldl (fun s t => if t.dev = d then t.seq else s) 0
def seqP (o : Option (Int × Int)) : Int := match o with | some p => p.1 | none => 0

theorem seqOf_low {d : Int} : ∀ {l : List Tally} (q : Int), okFrom d l = true → l.foldl (fun s t => if t.dev = d then t.seq else s) q = q
  | [], _, _ => rfl
  | t :: l, q, h => by
    have hg := dev_gt h
    have h1 := hg t List.mem_cons_self
    rw [List.foldl_cons, if_neg (by omega)]
    have : ∀ t ∈ l, d < t.dev := fun x hx => hg x (List.mem_cons_of_mem _ hx)
    clear h hg h1
    induction l with
    | nil => rfl
    | cons y l ih =>
      rw [List.foldl_cons, if_neg (by have := this y List.mem_cons_self; omega)]
      exact ih fun x hx => this x (List.mem_cons_of_mem _ hx)
theorem seqOf_lk {d : Int} : ∀ {l : List Tally} {last : Int}, okFrom last l = true → seqOf l d = seqP (lk l d)
  | [], _, _ => rfl
  | t :: l, last, h => by
    simp only [okFrom, Bool.and_eq_true, decide_eq_true_eq] at h
    rw [lk]
    by_cases e : t.dev = d
    · rw [if_pos e]
      show (t :: l).foldl _ 0 = _
      rw [List.foldl_cons, if_pos e, seqOf_low _ (by rw [← e]; exact h.2)]
      rfl
    · rw [if_neg e, ← seqOf_lk h.2]
      show (t :: l).foldl _ 0 = _
      rw [List.foldl_cons, if_neg e]
      rfl

def adds (d : Int) : Int → List Int → List Tally → Option (List Tally)
  | _, [], l => some l
  | s, n :: ns, l => if (addL l d s n).2 = 0 then adds d (s + 1) ns (addL l d s n).1 else none
def insA (d : Int) : Int → List Int → List Tally → List Tally
  | _, [], l => l
  | s, n :: ns, l => insA d (s + 1) ns (ins l d s n)
def allow (d : Int) : Int → List Int → Bool
  | _, [] => true
  | s, _ :: ns => within d s && allow d (s + 1) ns
theorem fresh_next {l : List Tally} {last d s n : Int} (h : okFrom last l = true) : fresh (ins l d s n) d (s + 1) = true := by
  rw [fresh, lk_ins h, if_pos rfl]
  exact decide_eq_true (by omega)
theorem adds_eq {d : Int} : ∀ {ns : List Int} {s : Int} {l : List Tally}, okFrom (-1) l = true → fresh l d s = true → adds d s ns l = if allow d s ns then some (insA d s ns l) else none
  | [], _, _, _, _ => rfl
  | n :: ns, s, l, h, hf => by
    rw [adds, allow, insA]
    cases hw : within d s with
    | false =>
      have : addL l d s n = ([], 150) := by rw [addL_eq, h, hw]; rfl
      rw [this]; rfl
    | true =>
      rw [addL_good h hw hf, if_pos rfl, adds_eq (ins_ok h hw (within_pos hw)) (fresh_next h)]
      rfl
theorem insA_ok {d : Int} : ∀ {ns : List Int} {s : Int} {l : List Tally}, okFrom (-1) l = true → allow d s ns = true → okFrom (-1) (insA d s ns l) = true
  | [], _, _, h, _ => h
  | n :: ns, s, l, h, ha => by
    simp only [allow, Bool.and_eq_true] at ha
    rw [insA]
    exact insA_ok (ins_ok h ha.1 (within_pos ha.1)) ha.2
theorem insA_len {d : Int} : ∀ (ns : List Int) (s : Int) (l : List Tally), (insA d s ns l).length ≤ l.length + ns.length
  | [], _, _ => by simp [insA]
  | n :: ns, s, l => by
    have h1 := insA_len (d := d) ns (s + 1) (ins l d s n)
    have h2 := ins_len l d s n
    rw [insA, List.length_cons]; omega
def gA : Int → List Int → Option (Int × Int) → Option (Int × Int)
  | _, [], o => o
  | s, n :: ns, o => gA (s + 1) ns (some (s, plusN o n))
theorem lk_insA {d : Int} : ∀ {ns : List Int} {s : Int} {l : List Tally}, okFrom (-1) l = true → allow d s ns = true → ∀ x, lk (insA d s ns l) x = if x = d then gA s ns (lk l d) else lk l x
  | [], _, l, _, _, x => by
    rw [insA, gA]
    by_cases e : x = d
    · rw [if_pos e, e]
    · rw [if_neg e]
  | n :: ns, s, l, h, ha, x => by
    simp only [allow, Bool.and_eq_true] at ha
    rw [insA, lk_insA (ins_ok h ha.1 (within_pos ha.1)) ha.2, lk_ins h, lk_ins h, if_pos rfl, gA]
    by_cases e : x = d
    · rw [if_pos e, if_pos e]
    · rw [if_neg e, if_neg e, if_neg e]
theorem gA_seq : ∀ (ns : List Int) (s : Int) (q : Int × Int), q.1 < s → ∃ q', gA s ns (some q) = some q' ∧ (q' = q ∨ q.1 < q'.1)
  | [], _, q, _ => ⟨q, rfl, .inl rfl⟩
  | n :: ns, s, q, h => by
    obtain ⟨q', h1, h2⟩ := gA_seq ns (s + 1) (s, plusN (some q) n) (by simp only; omega)
    refine ⟨q', h1, .inr ?_⟩
    rcases h2 with rfl | h2
    · exact h
    · simp only at h2; omega
theorem mx_gA {o : Option (Int × Int)} {s : Int} (ns : List Int) (h : seqP o < s) : mx o (gA s ns o) = gA s ns o := by
  cases o with
  | none => cases gA s ns none <;> rfl
  | some q =>
    obtain ⟨q', h1, h2⟩ := gA_seq ns s q h
    rw [h1]
    rcases h2 with rfl | h2
    · exact mx_idem _
    · simp only [mx]; rw [if_pos (.inl h2)]
theorem fresh_seq (l : List Tally) (d : Int) : fresh l d (seqP (lk l d) + 1) = true := by
  unfold fresh
  cases lk l d with
  | none => rfl
  | some p => exact decide_eq_true (by simp only [seqP]; omega)
theorem parted {l : List Tally} {m n : Int} {a b : List Int} (h : okFrom (-1) l = true) (hne : m ≠ n) (ha : allow m (seqOf l m + 1) a = true) (hb : allow n (seqOf l n + 1) b = true) :
    seqOf (insA m (seqOf l m + 1) a l) n = seqOf l n ∧
    mergeT (insA m (seqOf l m + 1) a l) (insA n (seqOf l n + 1) b l) = insA n (seqOf l n + 1) b (insA m (seqOf l m + 1) a l) := by
  have hne2 : ¬ n = m := fun e => hne e.symm
  have hX := insA_ok h ha
  have hY := insA_ok h hb
  have hZ := insA_ok hX hb
  refine ⟨by rw [seqOf_lk hX, lk_insA h ha, if_neg hne2, seqOf_lk h], sorted_ext (merge_ok hX hY) hZ fun x => ?_⟩
  rw [lk_merge hX hY, lk_insA hX hb, lk_insA h ha, lk_insA h ha, lk_insA h hb, if_neg hne2]
  by_cases e : x = n
  · subst e
    rw [if_neg hne2, if_pos rfl, mx_gA _ (by rw [seqOf_lk h]; omega)]
  · rw [if_neg e, if_neg e]
    by_cases e2 : x = m
    · subst e2
      rw [if_pos rfl, mx_comm, mx_gA _ (by rw [seqOf_lk h]; omega)]
    · rw [if_neg e2, mx_idem]
theorem seqP_range {last d : Int} : ∀ {l : List Tally}, okFrom last l = true → 0 ≤ seqP (lk l d) ∧ seqP (lk l d) ≤ 1048576
  | [], _ => by simp [lk, seqP]
  | t :: l, h => by
    simp only [okFrom, Bool.and_eq_true, decide_eq_true_eq] at h
    rw [lk]
    split
    · have := h.1.1
      simp only [within, Bool.and_eq_true, decide_eq_true_eq] at this
      simp only [seqP]; omega
    · exact seqP_range h.2
theorem seqOf_take {l : List Tally} {d : Int} {i : Nat} (h : i < l.length) : seqOf (l.take (i + 1)) d = if (l.getD i default).dev = d then (l.getD i default).seq else seqOf (l.take i) d := by
  rw [take_succ_getD h, seqOf, List.foldl_append]; rfl

end E
end Go.Proofs.Ytgaeakmdibnjmaa
