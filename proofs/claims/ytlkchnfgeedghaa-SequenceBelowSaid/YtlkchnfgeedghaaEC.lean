/- When one symbolic state is as good as another; regions that draw their order. It states nothing about the program. -/
import Derived.Test.YtlkchnfgeedghaaEB
namespace Go.Proofs.Ytlkchnfgeedghaa
namespace E
open Go

/-- A renaming, as a list. -/
def sg (L : List (Nat × Nat)) (p : Nat) : Nat :=
  match L with
  | [] => p
  | (a, b) :: L => if p = a then b else sg L p

mutual
def mp (L : List (Nat × Nat)) : SV → SV
  | .junk => .junk
  | .v x => .v x
  | .ptr p f => .ptr (sg L p) f
  | .eptr p i f => .eptr (sg L p) i f
  | .full p => .full (sg L p)
  | .sl p l n => .sl (sg L p) l n
  | .clo f cs => .clo f (cs.map (sg L))
  | .mp p => .mp (sg L p)
  | .agg xs => .agg (mps L xs)
  | .tup xs => .tup (mps L xs)
def mps (L : List (Nat × Nat)) : List SV → List SV
  | [] => []
  | x :: xs => mp L x :: mps L xs
end

mutual
/-- All names below n. -/
def bd (n : Nat) : SV → Bool
  | .ptr p _ => decide (p < n)
  | .eptr p _ _ => decide (p < n)
  | .full p => decide (p < n)
  | .sl p _ _ => decide (p < n)
  | .clo _ cs => cs.all (fun p => decide (p < n))
  | .mp p => decide (p < n)
  | .agg xs => bds n xs
  | .tup xs => bds n xs
  | _ => true
def bds (n : Nat) : List SV → Bool
  | [] => true
  | x :: xs => bd n x && bds n xs
end

theorem mps_get (L : List (Nat × Nat)) : ∀ (xs : List SV) (i : Nat), (mps L xs)[i]? = (xs[i]?).map (mp L)
  | [], i => by simp [mps]
  | x :: xs, 0 => by simp [mps]
  | x :: xs, i + 1 => by simp [mps, mps_get L xs i]
theorem mps_length (L : List (Nat × Nat)) (xs : List SV) : (mps L xs).length = xs.length := by
  induction xs with
  | nil => rfl
  | cons x xs ih => simp [mps, ih]
theorem bds_get {n : Nat} : ∀ {xs : List SV}, bds n xs = true → ∀ (i : Nat) (s : SV), xs[i]? = some s → bd n s = true
  | x :: xs, h, 0, s, hi => by cases hi; simp [bds] at h; exact h.1
  | x :: xs, h, i + 1, s, hi => by simp [bds] at h; exact bds_get h.2 i s (by simpa using hi)

theorem one_mp {β β' : Names} {L : List (Nat × Nat)} {n : Nat} (h : ∀ p, p < n → β' p = β (sg L p)) {s : SV} {u : Value} (hb : bd n s = true) (hr : one β (mp L s) u) : one β' s u := by
  cases s <;> simp only [mp, bd, decide_eq_true_eq] at hr hb <;> try exact hr
  case ptr p f => obtain ⟨r, h1, h2⟩ := hr; exact ⟨r, by rw [h p hb]; exact h1, h2⟩
  case eptr p i f => obtain ⟨r, h1, h2⟩ := hr; exact ⟨r, by rw [h p hb]; exact h1, h2⟩
  case full p => obtain ⟨r, h1, h2⟩ := hr; exact ⟨r, by rw [h p hb]; exact h1, h2⟩
  case mp p => obtain ⟨r, h1, h2⟩ := hr; exact ⟨r, by rw [h p hb]; exact h1, h2⟩
  case sl p l m => obtain ⟨r, h1, h2⟩ := hr; exact ⟨r, by rw [h p hb]; exact h1, h2⟩
  case clo f cs =>
    obtain ⟨ys, h1, h2, h3⟩ := hr
    refine ⟨ys, h1, by simpa using h2, fun i p hp => ?_⟩
    obtain ⟨r, h4, h5⟩ := h3 i (sg L p) (by simp [hp])
    have hlt : p < n := by simpa using List.all_eq_true.1 hb p (List.mem_of_getElem? hp)
    exact ⟨r, by rw [h p hlt]; exact h4, h5⟩

theorem R1_mp {β β' : Names} {L : List (Nat × Nat)} {n : Nat} (h : ∀ p, p < n → β' p = β (sg L p)) {s : SV} {u : Value} (hb : bd n s = true) (hr : R1 β (mp L s) u) : R1 β' s u := by
  cases s
  case agg xs =>
    obtain ⟨ys, h1, h2, h3, h4⟩ := hr
    simp only [bd] at hb
    refine ⟨ys, h1, by simpa [mps_length] using h2, fun i s hi => ?_, h4⟩
    obtain ⟨u, a, b⟩ := h3 i (mp L s) (by simp [mps_get, hi])
    exact ⟨u, a, one_mp h (bds_get hb i s hi) b⟩
  all_goals
    rcases R1_cases hr with h1 | ⟨xs, e⟩
    · exact one_mp h hb h1
    · cases e

theorem R_mp {β β' : Names} {L : List (Nat × Nat)} {n : Nat} (h : ∀ p, p < n → β' p = β (sg L p)) {s : SV} {u : Value} (hb : bd n s = true) (hr : R β (mp L s) u) : R β' s u := by
  cases s
  case tup xs =>
    obtain ⟨ys, h1, h2, h3⟩ := hr
    simp only [bd] at hb
    refine ⟨ys, h1, by simpa [mps_length] using h2, fun i s hi => ?_⟩
    obtain ⟨u, a, b⟩ := h3 i (mp L s) (by simp [mps_get, hi])
    exact ⟨u, a, R1_mp h (bds_get hb i s hi) b⟩
  all_goals
    rcases R_cases hr with h1 | ⟨xs, e⟩
    · exact R1_mp h hb h1
    · cases e

def mpC (L : List (Nat × Nat)) : Chunk → Chunk
  | .box t cs => .box t (mps L cs)
  | .row t c => .row t c
  | .cap p n => .cap (sg L p) n
  | .mp l => .mp l
  | .kids t l out => .kids t l out
  | .pool l => .pool l
  | .iter u n s => .iter u n s
def bdC (n : Nat) : Chunk → Bool
  | .box _ cs => bds n cs
  | .row _ _ => true
  | .cap p _ => decide (p < n)
  | .mp _ => true
  | .kids _ _ _ => true
  | .pool _ => true
  | .iter _ _ _ => true

/-- The slots of the state that is asked for, against those that are there. -/
def entT (L : List (Nat × Nat)) (n : Nat) : List SV → List SV → Prop
  | [], [] => True
  | .junk :: as, _ :: bs => entT L n as bs
  | a :: as, b :: bs => b = mp L a ∧ bd n a = true ∧ entT L n as bs
  | _, _ => False
def entH (L : List (Nat × Nat)) (n : Nat) (H : Heap) : Heap → Prop
  | [] => True
  | (p, o, ch) :: H' => p < n ∧ get (sg L p) H = some (o, mpC L ch) ∧ bdC n ch = true ∧ entH L n H H'
def entI (L : List (Nat × Nat)) : Heap → Prop
  | [] => True
  | (p, true, _) :: H' => (∀ x ∈ H', x.2.1 = true → x.1 ≠ p → sg L x.1 ≠ sg L p) ∧ entI L H'
  | (_, false, _) :: H' => entI L H'

theorem entT_get {L : List (Nat × Nat)} {n : Nat} : ∀ {as bs : List SV}, entT L n as bs → as.length = bs.length ∧ ∀ (i : Nat) (s : SV), as[i]? = some s → s = .junk ∨ (bd n s = true ∧ bs[i]? = some (mp L s))
  | [], [], _ => ⟨rfl, fun i s h => by simp at h⟩
  | [], _ :: _, h => by simp [entT] at h
  | a :: as, [], h => by cases a <;> simp [entT] at h
  | a :: as, b :: bs, h => by
    have step : entT L n as bs → (a = .junk ∨ (bd n a = true ∧ b = mp L a)) → (a :: as).length = (b :: bs).length ∧ ∀ (i : Nat) (s : SV), (a :: as)[i]? = some s → s = .junk ∨ (bd n s = true ∧ (b :: bs)[i]? = some (mp L s)) := fun h1 h2 => by
      obtain ⟨g1, g2⟩ := entT_get h1
      refine ⟨by simp [g1], fun i s hi => ?_⟩
      cases i with
      | zero => cases hi; rcases h2 with h2 | ⟨h2, rfl⟩; exact .inl h2; exact .inr ⟨h2, rfl⟩
      | succ i => simpa using g2 i s (by simpa using hi)
    cases a
    case junk => exact step h (.inl rfl)
    all_goals exact step h.2.2 (.inr ⟨h.2.1, h.1⟩)

theorem entH_mem {L : List (Nat × Nat)} {n : Nat} {H : Heap} : ∀ {H' : Heap}, entH L n H H' → ∀ p o ch, (p, o, ch) ∈ H' → p < n ∧ (sg L p, o, mpC L ch) ∈ H ∧ bdC n ch = true
  | (q, o', c') :: H', h, p, o, ch, hm => by
    rcases List.mem_cons.1 hm with e | hm
    · cases e; exact ⟨h.1, get_mem h.2.1, h.2.2.1⟩
    · exact entH_mem h.2.2.2 p o ch hm
theorem entI_mem {L : List (Nat × Nat)} : ∀ {H' : Heap}, entI L H' → ∀ p q cp cq, (p, true, cp) ∈ H' → (q, true, cq) ∈ H' → p ≠ q → sg L p ≠ sg L q
  | (r, true, c) :: H', h, p, q, cp, cq, hp, hq, hne => by
    rcases List.mem_cons.1 hp with e | hp <;> rcases List.mem_cons.1 hq with e' | hq
    · cases e; cases e'; exact absurd rfl hne
    · cases e; exact (h.1 _ hq rfl (Ne.symm hne)).symm
    · cases e'; exact h.1 _ hp rfl hne
    · exact entI_mem h.2 p q cp cq hp hq hne
  | (r, false, c) :: H', h, p, q, cp, cq, hp, hq, hne => by
    rcases List.mem_cons.1 hp with e | hp <;> rcases List.mem_cons.1 hq with e' | hq
    · cases e
    · cases e
    · cases e'
    · exact entI_mem (H' := H') h p q cp cq hp hq hne

section
variable {C : Cx} {T : Tys} {wr : List Nat}

theorem SatC_mp {β β' : Names} {L : List (Nat × Nat)} {n : Nat} (h : ∀ p, p < n → β' p = β (sg L p)) {w : World} {own : Bool} {r : Ref} {ch : Chunk} (hb : bdC n ch = true) (hs : SatC β w own r (mpC L ch)) : SatC β' w own r ch := by
  cases ch with
  | row t c => exact hs
  | mp l => exact hs
  | kids t l out => exact hs
  | pool l => exact hs
  | iter u n s => exact hs
  | cap p m =>
    obtain ⟨rp, h1, h2⟩ := hs
    exact ⟨rp, by rw [h p (by simpa [bdC] using hb)]; exact h1, h2⟩
  | box t cs =>
    obtain ⟨arr, h1, h2, h3, h4, h5, h6⟩ := hs
    refine ⟨arr, h1, by simpa [mps_length] using h2, h3, h4, fun i s hi => ?_, h6⟩
    obtain ⟨u, a, b⟩ := h5 i (mp L s) (by simp [mps_get, hi])
    exact ⟨u, a, one_mp h (bds_get hb i s hi) b⟩

theorem foot_mp (L : List (Nat × Nat)) {w : World} {r : Ref} {ch : Chunk} : footC w r (mpC L ch) = footC w r ch := by cases ch <;> rfl
theorem ent_of {S S' : St} (L : List (Nat × Nat)) (hk : C.k ≤ S'.nx) (hL : ∀ x ∈ L, C.k ≤ x.1) (ht : entT L S'.nx S'.ts S.ts) (hH : entH L S'.nx S.H S'.H) (hI : entI L S'.H) : Ent C S S' := by
  intro β a w hs
  have hsg : ∀ p, p < C.k → sg L p = p := by
    intro p hp
    clear ht hH hI
    induction L with
    | nil => rfl
    | cons x L ih =>
      have := hL x List.mem_cons_self
      simp only [sg]
      rw [if_neg (by omega)]
      exact ih (fun y hy => hL y (List.mem_cons_of_mem _ hy))
  have hβ : ∀ p, p < S'.nx → (fun p => if p < S'.nx then β (sg L p) else none : Names) p = β (sg L p) := fun p hp => by simp [hp]
  obtain ⟨g1, g2⟩ := entT_get ht
  refine ⟨fun p => if p < S'.nx then β (sg L p) else none, ⟨hs.heap.fr, hs.heap.xs, fun p o ch hp => ?_, fun p o c o' c' h1 h2 => ?_, fun p q cp cq rp rq hp hq hne hrp hrq hnp hnq => ?_, fun p o c r k hp hr hk => ?_⟩, fun p r hp => ?_, hs.bk, fun p hp => if_neg (by omega), hs.defers, by rw [hs.size, g1], fun i s hi => ?_⟩
  · obtain ⟨h1, h2, h3⟩ := entH_mem hH p o ch hp
    obtain ⟨r, e, s, l⟩ := hs.heap.sat _ _ _ h2
    refine ⟨r, by show (if p < S'.nx then β (sg L p) else none) = some r; rw [if_pos h1]; exact e, SatC_mp hβ h3 s, ?_⟩
    cases ch <;> exact l
  · have a1 := (entH_mem hH p o c h1).2.1
    have a2 := (entH_mem hH p o' c' h2).2.1
    exact hs.heap.uniq _ _ _ _ _ a1 a2
  · obtain ⟨a1, a2, _⟩ := entH_mem hH p true cp hp
    obtain ⟨b1, b2, _⟩ := entH_mem hH q true cq hq
    simp only [if_pos a1] at hrp; simp only [if_pos b1] at hrq
    exact hs.heap.apart _ _ _ _ _ _ a2 b2 (entI_mem hI p q cp cq hp hq hne) hrp hrq hnp hnq
  · obtain ⟨a1, a2, _⟩ := entH_mem hH p o c hp
    simp only [if_pos a1] at hr
    rw [← foot_mp L] at hk
    obtain ⟨b1, b2, b3, b4, b5⟩ := hs.heap.kid _ _ _ _ _ a2 hr hk
    refine ⟨b1, b2, b3, fun q cq rq hq hrq hnq => ?_, fun q o' cq rq hq hqp hrq hkq => ?_⟩
    · obtain ⟨c1, c2, _⟩ := entH_mem hH q true cq hq
      simp only [if_pos c1] at hrq
      exact b4 _ _ _ c2 hrq hnq
    · obtain ⟨c1, c2, _⟩ := entH_mem hH q o' cq hq
      simp only [if_pos c1] at hrq
      rw [← foot_mp L] at hkq
      have d1 := (hs.heap.kid _ _ _ _ _ c2 hrq hkq).1
      subst b1; subst d1
      exact b5 _ _ _ _ c2 (entI_mem hI q p cq c hq hp hqp) hrq hkq
  · have hlt : p < C.k := by
      rcases Nat.lt_or_ge p C.k with h | h
      · exact h
      · rw [hs.bk p h] at hp; cases hp
    show (if p < S'.nx then β (sg L p) else none) = some r
    rw [if_pos (by omega), hsg p hlt]
    exact hs.base p r hp
  · rcases g2 i s hi with rfl | ⟨hb, h2⟩
    · have hlt : i < a.tmps.size := by rw [hs.size, ← g1]; exact (List.getElem?_eq_some_iff.1 hi).1
      exact ⟨_, Array.getElem?_eq_getElem hlt, trivial⟩
    · obtain ⟨u, hu, hR⟩ := hs.ts i _ h2
      exact ⟨u, hu, R_mp hβ hb hR⟩

end
end E
end Go.Proofs.Ytlkchnfgeedghaa
