/- Plain laws of adding to a sorted row, told by look-ups. -/
import Derived.Test.YtgaeakmdibnjmaaP1
set_option linter.unusedSimpArgs false
namespace Go.Proofs.Ytgaeakmdibnjmaa
namespace E
open Go

/-- Adding, by recursion: what addL answers where it does not refuse. -/
def ins : List Tally → Int → Int → Int → List Tally
  | [], d, s, n => [⟨d, s, n⟩]
  | x :: l, d, s, n => if x.dev < d then x :: ins l d s n else if d < x.dev then ⟨d, s, n⟩ :: x :: l else ⟨x.dev, s, IntKind.i64.wrap (x.n + n)⟩ :: l

theorem ins_new : ∀ {l : List Tally} {d s n : Int}, found l d = false → ins l d s n = l.take (pos l d) ++ ⟨d, s, n⟩ :: l.drop (pos l d)
  | [], d, s, n, _ => by simp [ins, pos]
  | x :: l, d, s, n, h => by
    rw [ins]
    by_cases h1 : x.dev < d
    · rw [if_pos h1, pos_cons_lt h1, ins_new (by rwa [found_cons_lt h1] at h)]; simp
    · rw [if_neg h1, pos_cons_ge h1]
      have h2 : ¬ x.dev = d := by
        intro e; simp [found, pos_cons_ge h1, e] at h
      rw [if_pos (by omega)]; simp
theorem ins_old : ∀ {l : List Tally} {d s n : Int}, found l d = true → ins l d s n = l.set (pos l d) ⟨(l.getD (pos l d) default).dev, s, IntKind.i64.wrap ((l.getD (pos l d) default).n + n)⟩
  | [], d, s, n, h => by simp [found, pos] at h
  | x :: l, d, s, n, h => by
    rw [ins]
    by_cases h1 : x.dev < d
    · rw [if_pos h1, pos_cons_lt h1, ins_old (by rwa [found_cons_lt h1] at h)]
      simp only [List.getD_cons_succ, List.set_cons_succ]
    · rw [if_neg h1, pos_cons_ge h1]
      have h2 : x.dev = d := by
        simp [found, pos_cons_ge h1] at h; exact h
      rw [if_neg (by omega)]
      simp only [List.getD_cons_zero, List.set_cons_zero]

def plusN (o : Option (Int × Int)) (n : Int) : Int :=
  match o with
  | some (_, n0) => IntKind.i64.wrap (n0 + n)
  | none => n
theorem lk_ins : ∀ {l : List Tally} {last d s n : Int}, okFrom last l = true → ∀ d', lk (ins l d s n) d' = if d' = d then some (s, plusN (lk l d) n) else lk l d'
  | [], _, d, s, n, _, d' => by
    by_cases e : d' = d
    · subst e; simp [ins, lk, plusN]
    · have e2 : ¬ d = d' := fun h => e h.symm
      simp [ins, lk, e, e2]
  | x :: l, last, d, s, n, h, d' => by
    simp only [okFrom, Bool.and_eq_true, decide_eq_true_eq] at h
    rw [ins]
    have hx : lk (x :: l) d = if x.dev = d then some (x.seq, x.n) else lk l d := rfl
    have hx' : lk (x :: l) d' = if x.dev = d' then some (x.seq, x.n) else lk l d' := rfl
    by_cases c : x.dev < d
    · have n1 : ¬ x.dev = d := by omega
      rw [if_pos c, lk, lk_ins h.2 d', hx, if_neg n1, hx']
      by_cases e : x.dev = d'
      · have : ¬ d' = d := by omega
        rw [if_pos e, if_neg this, if_pos e]
      · rw [if_neg e, if_neg e]
    · rw [if_neg c]
      by_cases c2 : d < x.dev
      · have n1 : ¬ x.dev = d := by omega
        rw [if_pos c2, hx, if_neg n1, lk_low h.2 d (by omega)]
        by_cases e : d' = d
        · subst e; simp [lk, plusN]
        · have e2 : ¬ d = d' := fun h => e h.symm
          rw [if_neg e, lk, if_neg e2]
      · have e0 : x.dev = d := by omega
        rw [if_neg c2, hx, if_pos e0, lk]
        by_cases e : d' = d
        · have : x.dev = d' := by omega
          rw [if_pos this, if_pos e]; rfl
        · have : ¬ x.dev = d' := by omega
          rw [if_neg this, if_neg e, hx', if_neg this]
theorem ins_ok : ∀ {l : List Tally} {last d s n : Int}, okFrom last l = true → within d s = true → last < d → okFrom last (ins l d s n) = true
  | [], last, d, s, n, _, h2, h3 => by simp [ins, okFrom, h2, h3]
  | x :: l, last, d, s, n, h1, h2, h3 => by
    simp only [okFrom, Bool.and_eq_true, decide_eq_true_eq] at h1
    rw [ins]
    by_cases c : x.dev < d
    · rw [if_pos c]; simp only [okFrom, Bool.and_eq_true, decide_eq_true_eq]
      exact ⟨h1.1, ins_ok h1.2 h2 c⟩
    · rw [if_neg c]
      by_cases c2 : d < x.dev
      · rw [if_pos c2]; simp only [okFrom, Bool.and_eq_true, decide_eq_true_eq]
        exact ⟨⟨h2, h3⟩, ⟨h1.1.1, c2⟩, h1.2⟩
      · have e : x.dev = d := by omega
        rw [if_neg c2]; simp only [okFrom, Bool.and_eq_true, decide_eq_true_eq]
        exact ⟨⟨by rw [e]; exact h2, h1.1.2⟩, h1.2⟩

theorem lk_found : ∀ {l : List Tally} {last d : Int}, okFrom last l = true → lk l d = if found l d then some ((l.getD (pos l d) default).seq, (l.getD (pos l d) default).n) else none
  | [], _, d, _ => by simp [lk, found, pos]
  | x :: l, last, d, h => by
    simp only [okFrom, Bool.and_eq_true, decide_eq_true_eq] at h
    rw [lk]
    by_cases c : x.dev < d
    · rw [if_neg (by omega), found_cons_lt c, pos_cons_lt c, lk_found h.2]
      simp only [List.getD_cons_succ]
    · rw [pos_cons_ge c]
      by_cases e : x.dev = d
      · have : found (x :: l) d = true := by simp [found, pos_cons_ge c, e]
        rw [if_pos e, this, if_pos rfl]; simp
      · have : found (x :: l) d = false := by simp [found, pos_cons_ge c, e]
        rw [if_neg e, this, lk_low h.2 d (by omega)]; simp

def fresh (l : List Tally) (d s : Int) : Bool :=
  match lk l d with
  | none => true
  | some (s0, _) => decide (s0 < s)
theorem addL_eq {l : List Tally} {d s n : Int} : addL l d s n = if okFrom (-1) l && within d s && fresh l d s then (ins l d s n, 0) else ([], if okFrom (-1) l && within d s then 182 else 150) := by
  cases hok : okFrom (-1) l with
  | false => simp [addL, hok]
  | true =>
    cases hw : within d s with
    | false => simp [addL, hok, hw]
    | true =>
      have hl := lk_found (d := d) hok
      cases hf : found l d with
      | false =>
        rw [hf, if_neg (by simp)] at hl
        have hfr : fresh l d s = true := by simp only [fresh, hl]
        simp [addL, hok, hw, hf, hfr, ins_new hf]
      | true =>
        rw [hf, if_pos rfl] at hl
        by_cases c : s ≤ (l.getD (pos l d) default).seq
        · have hfr : fresh l d s = false := by simp only [fresh, hl]; exact decide_eq_false (by omega)
          simp only [addL, hok, hw, hf, hfr, if_pos c]; rfl
        · have hfr : fresh l d s = true := by simp only [fresh, hl]; exact decide_eq_true (by omega)
          simp only [addL, hok, hw, hf, hfr, if_neg c, ins_old hf]; rfl

def tot (l : List Tally) : Int := (l.map Tally.n).sum
theorem wrap_mod (a b : Int) (h : (a - b) % 18446744073709551616 = 0) : IntKind.i64.wrap a = IntKind.i64.wrap b := by
  rw [IntKind.wrap_i64, IntKind.wrap_i64]; omega
theorem foldW (l : List Tally) : ∀ s : Int, l.foldl (fun s t => IntKind.i64.wrap (s + t.n)) (IntKind.i64.wrap s) = IntKind.i64.wrap (s + tot l) := by
  induction l with
  | nil => intro s; simp [tot]
  | cons t l ih =>
    intro s
    rw [List.foldl_cons, wrap_mod (IntKind.i64.wrap s + t.n) (s + t.n) (by rw [IntKind.wrap_i64]; omega), ih]
    simp only [tot, List.map_cons, List.sum_cons]
    congr 1
    omega
theorem sumW_tot (l : List Tally) : sumW l = IntKind.i64.wrap (tot l) := by
  have := foldW l 0
  rw [Int.zero_add] at this
  exact this
theorem tot_ins : ∀ (l : List Tally) (d s n : Int), (tot (ins l d s n) - (tot l + n)) % 18446744073709551616 = 0
  | [], d, s, n => by simp [ins, tot]
  | x :: l, d, s, n => by
    have ih := tot_ins l d s n
    simp only [tot] at ih
    rw [ins]
    split
    · simp only [tot, List.map_cons, List.sum_cons]; omega
    · split
      · simp only [tot, List.map_cons, List.sum_cons]; omega
      · simp only [tot, List.map_cons, List.sum_cons, IntKind.wrap_i64]; omega
theorem sumW_ins (l : List Tally) (d s n : Int) : sumW (ins l d s n) = IntKind.i64.wrap (sumW l + n) := by
  rw [sumW_tot, sumW_tot]
  refine wrap_mod _ _ ?_
  have := tot_ins l d s n
  rw [IntKind.wrap_i64]
  omega

/-- Adding at two devices, in either order. -/
theorem ins_comm {l : List Tally} {d s n d2 s2 n2 : Int} (hok : okFrom (-1) l = true) (hw : within d s = true) (hw2 : within d2 s2 = true) (hne : d ≠ d2) : ins (ins l d s n) d2 s2 n2 = ins (ins l d2 s2 n2) d s n := by
  have hd : -1 < d := by simp [within] at hw; omega
  have hd2 : -1 < d2 := by simp [within] at hw2; omega
  have h1 := ins_ok (n := n) hok hw hd
  have h2 := ins_ok (n := n2) hok hw2 hd2
  refine sorted_ext (ins_ok h1 hw2 hd2) (ins_ok h2 hw hd) fun x => ?_
  have hne2 : ¬ d2 = d := fun h => hne h.symm
  rw [lk_ins h1, lk_ins h2, lk_ins hok, lk_ins hok, lk_ins hok, lk_ins hok, if_neg hne2, if_neg hne]
  by_cases e : x = d
  · subst e; simp [hne]
  · by_cases e2 : x = d2
    · subst e2; simp [hne2]
    · simp [e, e2]

/-- What adding answers: the new row, or one of two errors. -/
theorem addL_cases (l : List Tally) (d s n : Int) : (okFrom (-1) l = true ∧ within d s = true ∧ fresh l d s = true ∧ addL l d s n = (ins l d s n, 0)) ∨ addL l d s n = ([], 182) ∨ addL l d s n = ([], 150) := by
  rw [addL_eq]
  cases okFrom (-1) l <;> cases within d s <;> cases fresh l d s <;> simp
theorem addL_good {l : List Tally} {d s n : Int} (h1 : okFrom (-1) l = true) (h2 : within d s = true) (h3 : fresh l d s = true) : addL l d s n = (ins l d s n, 0) := by
  rw [addL_eq, h1, h2, h3]; rfl
theorem within_pos {d s : Int} (h : within d s = true) : -1 < d := by simp [within] at h; omega
theorem ins_len : ∀ (l : List Tally) (d s n : Int), (ins l d s n).length ≤ l.length + 1
  | [], _, _, _ => by simp [ins]
  | x :: l, d, s, n => by
    have := ins_len l d s n
    rw [ins]
    split
    · simp; omega
    · split <;> simp
theorem fresh_other {l : List Tally} {d s n d2 s2 : Int} (hok : okFrom (-1) l = true) (hne : d ≠ d2) : fresh (ins l d s n) d2 s2 = fresh l d2 s2 := by
  have hne2 : ¬ d2 = d := fun h => hne h.symm
  simp only [fresh, lk_ins hok, if_neg hne2]

end E
end Go.Proofs.Ytgaeakmdibnjmaa
