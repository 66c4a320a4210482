/- Contracts that change memory which the caller owns, and their use at a call. It states nothing about the program. -/
import Derived.Test.YtlkchnfgeedghaaEL
set_option linter.unusedVariables false
namespace Go.Proofs.Ytlkchnfgeedghaa
namespace E
open Go

section
variable {C : Cx} {T : Tys} {wr : List Nat}

structure SpecM (P : Program) (f : FuncId) (H0 : Heap) (k : Nat) (args : List SV) (ret : SV) (H1 : Heap) (k1 : Nat) : Prop where
  enters : Enters P f
  out : ∀ X β w, SatH ⟨P, w, X, β, k⟩ β H0 w → (∀ p, k ≤ p → β p = none) → ∀ vs, RL β args vs → Calls P f vs.toArray w fun e w' =>
    ∃ β' u, e = .returned u ∧ Le β β' ∧ SatH ⟨P, w, X, β, k⟩ β' H1 w' ∧ (∀ p, k1 ≤ p → β' p = none) ∧ R β' ret u

/-- What is asked at the return of such a function. -/
def FinM (C : Cx) (H1 : Heap) (k k1 : Nat) (ret : SV) (r : SV) (S : St) : Prop :=
  ∀ β w u, SatH C β S.H w → Le C.b0 β → (∀ p, k ≤ p → C.b0 p = none) → (∀ p, S.nx ≤ p → β p = none) → R β r u → ∃ β', Le C.b0 β' ∧ SatH C β' H1 w ∧ (∀ p, k1 ≤ p → β' p = none) ∧ R β' ret u

theorem specM_of_ex {P : Program} {f : FuncId} {fn : Func} {c : Code} {H0 H1 : Heap} {k k1 : Nat} {args : List SV} {ret : SV} (hT : TysOK P T) (hf : P.funcs[f]? = some fn) (hb : fn.body = some c) (hname : (fn.name == "runtime.NumGoroutine") = false)
    (h : ∀ C : Cx, C.P = P → C.k = k → Ex C T wr c ⟨ini args fn.ntmps, H0, k⟩ (RetK T fn.results (FinM C H1 k k1 ret))) : SpecM P f H0 k args ret H1 k1 := by
  refine ⟨⟨fn, hf, hname, by rw [hb]; rfl⟩, fun X β w hs hk vs hvs => ?_⟩
  refine calls_of_wp hf hb ?_
  have hsat : Sat ⟨P, w, X, β, k⟩ β ⟨ini args fn.ntmps, H0, k⟩ { tmps := vs.toArray ++ Array.replicate (fn.ntmps - vs.toArray.size) undef, defers := [] } w := by
    obtain ⟨hl, hrel⟩ := hvs
    refine ⟨hs, Le.refl _, hk, hk, rfl, by simp [ini, hl], fun i s hi => ?_⟩
    unfold ini at hi
    by_cases hlt : i < args.length
    · rw [List.getElem?_append_left hlt] at hi
      obtain ⟨u, hu, hR⟩ := hrel i s hi
      exact ⟨u, by rw [Array.getElem?_append_left (by simp; omega)]; simpa using hu, hR⟩
    · rw [List.getElem?_append_right (by omega)] at hi
      have hlt2 := (List.getElem?_eq_some_iff.1 hi).1
      simp only [List.length_replicate] at hlt2
      rw [List.getElem?_replicate_of_lt hlt2] at hi
      cases hi
      exact ⟨undef, by rw [Array.getElem?_append_right (by simp; omega), Array.getElem?_replicate, if_pos (by simp [hl]; omega)], trivial⟩
  refine wp_mono (Ex_ok (C := ⟨P, w, X, β, k⟩) hT c _ _ (h _ rfl rfl) β _ w hsat) ?_
  rintro e a' w' ⟨β', S', hs', hq⟩
  have fin : ∀ l, resOf T S' fn.results.toList = some l → FinM ⟨P, w, X, β, k⟩ H1 k k1 ret (packR l) S' → a'.defers = [] ∧ ∃ v, (results fn a'.tmps).run P w' = .ok v w' ∧ (∃ β' u, Ending.returned v = .returned u ∧ Le β β' ∧ SatH ⟨P, w, X, β, k⟩ β' H1 w' ∧ (∀ p, k1 ≤ p → β' p = none) ∧ R β' ret u) := fun l hl hfin => by
    obtain ⟨u, hu, hR⟩ := results_ok (C := ⟨P, w, X, β, k⟩) hT hs' hl
    obtain ⟨β'', g1, g2, g3, g4⟩ := hfin β' w' u hs'.heap hs'.base hk hs'.names hR
    exact ⟨hs'.defers, u, hu, β'', u, rfl, g1, g2, g3, g4⟩
  unfold RetK at hq
  cases e with
  | normal => simp only at hq; split at hq <;> first | exact fin _ ‹_› hq | exact hq.elim
  | ret => simp only at hq; split at hq <;> first | exact fin _ ‹_› hq | exact hq.elim
  | exit id => exact hq.elim
  | goto l => exact hq.elim
  | panic ch => exact hq.elim
  | outgrown => exact hq.elim

theorem finM_of {H1 : Heap} {k k1 : Nat} {ret r : SV} {S : St} (L : List (Nat × Nat)) (hCk : C.k = k) (hk : k ≤ k1) (hL : ∀ x ∈ L, k ≤ x.1) (hr : r = mp L ret) (hb : bd k1 ret = true) (hH : entH L k1 S.H H1) (hI : entI L H1) : FinM C H1 k k1 ret r S := by
  intro β w u hs hle hb0 hno hR
  have ht : entT L k1 [ret] [r] := by
    cases ret <;> simp only [entT] <;> first | trivial | exact ⟨hr, hb, trivial⟩
  obtain ⟨β', hs'⟩ := ent_of (S := ⟨[r], S.H, S.nx⟩) (S' := ⟨[ret], H1, k1⟩) L (by rw [hCk]; exact hk) (fun x hx => by rw [hCk]; exact hL x hx) ht hH hI β { tmps := #[u], defers := [] } w
    ⟨hs, hle, fun p hp => hb0 p (by rw [hCk] at hp; exact hp), hno, rfl, rfl, fun i s hi => by
      cases i with
      | zero => cases hi; exact ⟨u, rfl, hR⟩
      | succ i => simp at hi⟩
  obtain ⟨u', hu', hR'⟩ := hs'.ts 0 ret rfl
  cases hu'
  exact ⟨β', hs'.base, hs'.heap, hs'.names, hR'⟩

/-! names of the contract at the caller -/
theorem one_pm {β' β'' : Names} {L : List (Nat × Nat)} {n : Nat} (h : ∀ p, p < n → β'' (sg L p) = β' p) {s : SV} {u : Value} (hb : bd n s = true) (hr : one β' s u) : one β'' (mp L s) u := by
  cases s <;> simp only [bd, decide_eq_true_eq] at hb <;> simp only [mp]
  case ptr p f => obtain ⟨r, h1, h2⟩ := hr; exact ⟨r, by rw [h p hb]; exact h1, h2⟩
  case eptr p i f => obtain ⟨r, h1, h2⟩ := hr; exact ⟨r, by rw [h p hb]; exact h1, h2⟩
  case full p => obtain ⟨r, h1, h2⟩ := hr; exact ⟨r, by rw [h p hb]; exact h1, h2⟩
  case mp p => obtain ⟨r, h1, h2⟩ := hr; exact ⟨r, by rw [h p hb]; exact h1, h2⟩
  case sl p l m => obtain ⟨r, h1, h2⟩ := hr; exact ⟨r, by rw [h p hb]; exact h1, h2⟩
  case clo f cs =>
    obtain ⟨ys, h1, h2, h3⟩ := hr
    refine ⟨ys, h1, by simpa using h2, fun i p hp => ?_⟩
    simp only [List.getElem?_map, Option.map_eq_some_iff] at hp
    obtain ⟨q, hq, rfl⟩ := hp
    obtain ⟨r, h4, h5⟩ := h3 i q hq
    have hlt : q < n := by simpa using List.all_eq_true.1 hb q (List.mem_of_getElem? hq)
    exact ⟨r, by rw [h q hlt]; exact h4, h5⟩
  all_goals exact hr
theorem R1_pm {β' β'' : Names} {L : List (Nat × Nat)} {n : Nat} (h : ∀ p, p < n → β'' (sg L p) = β' p) {s : SV} {u : Value} (hb : bd n s = true) (hr : R1 β' s u) : R1 β'' (mp L s) u := by
  cases s
  case agg xs =>
    obtain ⟨ys, h1, h2, h3, h4⟩ := hr
    simp only [bd] at hb
    refine ⟨ys, h1, by simpa [mps_length] using h2, fun i s hi => ?_, h4⟩
    rw [mps_get] at hi
    obtain ⟨s', hs', rfl⟩ := Option.map_eq_some_iff.1 hi
    obtain ⟨u, a, b⟩ := h3 i s' hs'
    exact ⟨u, a, one_pm h (bds_get hb i s' hs') b⟩
  all_goals
    have := one_pm h hb (show one β' _ u from hr)
    simp only [mp] at this ⊢
    exact this
theorem R_pm {β' β'' : Names} {L : List (Nat × Nat)} {n : Nat} (h : ∀ p, p < n → β'' (sg L p) = β' p) {s : SV} {u : Value} (hb : bd n s = true) (hr : R β' s u) : R β'' (mp L s) u := by
  cases s
  case tup xs =>
    obtain ⟨ys, h1, h2, h3⟩ := hr
    simp only [bd] at hb
    refine ⟨ys, h1, by simpa [mps_length] using h2, fun i s hi => ?_⟩
    rw [mps_get] at hi
    obtain ⟨s', hs', rfl⟩ := Option.map_eq_some_iff.1 hi
    obtain ⟨u, a, b⟩ := h3 i s' hs'
    exact ⟨u, a, R1_pm h (bds_get hb i s' hs') b⟩
  all_goals
    have := R1_pm h hb (show R1 β' _ u from hr)
    simp only [mp] at this ⊢
    exact this
theorem SatC_pm {β' β'' : Names} {L : List (Nat × Nat)} {n : Nat} (h : ∀ p, p < n → β'' (sg L p) = β' p) {w : World} {own : Bool} {r : Ref} {ch : Chunk} (hb : bdC n ch = true) (hs : SatC β' w own r ch) : SatC β'' w own r (mpC L ch) := by
  cases ch with
  | row t c => exact hs
  | mp l => exact hs
  | kids t l out => exact hs
  | pool l => exact hs
  | iter u n s => exact hs
  | cap p m =>
    obtain ⟨rp, h1, h2⟩ := hs
    exact ⟨rp, by rw [h p (by simpa [bdC] using hb)]; exact h1, h2⟩
  | box t cs =>
    obtain ⟨arr, h1, h2, h3, h4, h5, h6⟩ := hs
    refine ⟨arr, h1, by simpa [mps_length] using h2, h3, h4, fun i s hi => ?_, h6⟩
    rw [mps_get] at hi
    obtain ⟨s', hs', rfl⟩ := Option.map_eq_some_iff.1 hi
    obtain ⟨u, a, b⟩ := h5 i s' hs'
    exact ⟨u, a, one_pm h (bds_get hb i s' hs') b⟩
theorem solid_mp (L : List (Nat × Nat)) (r : Ref) (ch : Chunk) : solid r (mpC L ch) ↔ solid r ch := by cases ch <;> exact Iff.rfl

/-- The contract's memory under the caller's names. -/
def renH (L : List (Nat × Nat)) (H : Heap) : Heap := H.map fun x => (sg L x.1, x.2.1, mpC L x.2.2)
/-- The caller's memory without what it lent. -/
def lentH (L : List (Nat × Nat)) : Heap → Heap → Heap
  | [], H => H
  | (p, true, _) :: H0, H => lentH L H0 (delC (sg L p) H)
  | (_, false, _) :: H0, H => lentH L H0 H
theorem mem_lentH {L : List (Nat × Nat)} {x : Nat × Bool × Chunk} : ∀ {H0 H : Heap}, x ∈ lentH L H0 H → x ∈ H ∧ ∀ p ch, (p, true, ch) ∈ H0 → x.1 ≠ sg L p
  | [], H, h => ⟨h, fun p ch hp => by simp at hp⟩
  | (p, true, c) :: H0, H, h => by
    obtain ⟨h1, h2⟩ := mem_lentH (H0 := H0) h
    obtain ⟨q, y⟩ := x
    obtain ⟨h3, h4⟩ := mem_delC h1
    refine ⟨h4, fun p' ch hp => ?_⟩
    rcases List.mem_cons.1 hp with e | hp
    · cases e; exact h3
    · exact h2 p' ch hp
  | (p, false, c) :: H0, H, h => by
    obtain ⟨h1, h2⟩ := mem_lentH (H0 := H0) h
    refine ⟨h1, fun p' ch hp => ?_⟩
    rcases List.mem_cons.1 hp with e | hp
    · cases e
    · exact h2 p' ch hp

theorem callM_is {P : Program} (hP : C.P = P) {f : FuncId} {H0 H1 : Heap} {k k1 : Nat} {args cargs : List SV} {ret : SV} {S : St} {K : SV → St → Prop} (L : List (Nat × Nat)) (hsp : SpecM P f H0 k args ret H1 k1) (hkk : k ≤ k1)
    (hL2 : ∀ p, k ≤ p → p < k1 → sg L p = S.nx + (p - k)) (hH : entH L k S.H H0) (hI : entI L H0) (hall : ∀ p, p < k → ∃ o ch, (p, o, ch) ∈ H0) (ha : cargs = mps L args) (hba : bds k args = true)
    (hH1 : ∀ p o ch, (p, o, ch) ∈ H1 → o = true ∧ p < k1 ∧ bdC k1 ch = true ∧ (p < k → ∃ ch, (p, true, ch) ∈ H0)) (hbr : bd k1 ret = true)
    (hK : K (mp L ret) { S with H := renH L H1 ++ lentH L H0 S.H, nx := S.nx + (k1 - k) }) : CallP C f cargs S K := by
  subst hP
  refine .of hsp.enters fun β a w hs vs hvs => ?_
  obtain ⟨β0, hβ0⟩ : ∃ β0 : Names, β0 = fun p => if p < k then β (sg L p) else none := ⟨_, rfl⟩
  have h0 : ∀ p, p < k → β0 p = β (sg L p) := fun p hp => by simp [hβ0, hp]
  have hno0 : ∀ p, k ≤ p → β0 p = none := fun p hp => by rw [hβ0]; exact if_neg (by omega)
  have hm := entH_mem hH
  obtain ⟨X0, hX0⟩ : ∃ X0 : Nat → Prop, X0 = fun b => ∃ p ch r, (p, true, ch) ∈ H0 ∧ β (sg L p) = some r ∧ ((r.nil = false ∧ r.blk = b) ∨ b ∈ footC w r (mpC L ch)) := ⟨_, rfl⟩
  have hX : ∀ b, X0 b → b < w.heap.size ∧ (C.w0.heap.size ≤ b ∨ C.X b) := fun b hb => by
    rw [hX0] at hb
    obtain ⟨p, ch, r, h1, h2, h3⟩ := hb
    obtain ⟨_, g2, _⟩ := hm p true ch h1
    obtain ⟨r', e, s, l⟩ := hs.heap.sat _ _ _ g2
    rw [h2] at e; cases e
    rcases h3 with ⟨h3, rfl⟩ | h3
    · simp only [Lies, if_true] at l; exact l h3
    · obtain ⟨_, a2, a3, _⟩ := hs.heap.kid _ _ _ _ _ g2 h2 h3
      exact ⟨a2, a3⟩
  -- what the caller keeps does not lie there
  have hkeep : ∀ {q o c r}, (q, o, c) ∈ S.H → (∀ p ch, (p, true, ch) ∈ H0 → q ≠ sg L p) → β q = some r → (solid r c ∨ (o = true ∧ r.nil = false)) → r.blk < w.heap.size ∧ ¬ X0 r.blk := fun {q o c r} hq hne hr hso => by
    obtain ⟨r', e, s, l⟩ := hs.heap.sat _ _ _ hq
    rw [hr] at e; cases e
    have hnil : r.nil = false := by
      rcases hso with h | h
      · exact s.solid_or h
      · exact h.2
    refine ⟨?_, fun hx => ?_⟩
    · unfold Lies at l
      cases o with
      | true => simp only [if_true] at l; exact (l hnil).1
      | false =>
        simp only [Bool.false_eq_true, if_false] at l
        rcases hso with h | h
        · exact Nat.lt_of_lt_of_le (l h).1 hs.heap.fr.size
        · cases h.1
    · rw [hX0] at hx
      obtain ⟨p, ch, rp, h1, h2, h3⟩ := hx
      obtain ⟨_, g2, _⟩ := hm p true ch h1
      rcases h3 with ⟨h3, h4⟩ | h3
      · exact hs.heap.blk_ne g2 hq (hne p ch h1) h2 hr h3 hso h4.symm
      · obtain ⟨_, a2, a3, a4, a5⟩ := hs.heap.kid _ _ _ _ _ g2 h2 h3
        cases o with
        | true => exact a4 _ _ _ hq hr hnil rfl
        | false =>
          simp only [Lies, Bool.false_eq_true, if_false] at l
          rcases hso with h | h
          · obtain ⟨l1, l2⟩ := l h
            rcases a3 with a3 | a3
            · omega
            · exact l2 a3
          · cases h.1
  have hkeepF : ∀ {q o c r b}, (q, o, c) ∈ S.H → (∀ p ch, (p, true, ch) ∈ H0 → q ≠ sg L p) → β q = some r → b ∈ footC w r c → b < w.heap.size ∧ ¬ X0 b := fun {q o c r b} hq hne hr hb => by
    obtain ⟨a1, a2, a3, a4, a5⟩ := hs.heap.kid _ _ _ _ _ hq hr hb
    refine ⟨a2, fun hx => ?_⟩
    rw [hX0] at hx
    obtain ⟨p, ch, rp, h1, h2, h3⟩ := hx
    obtain ⟨_, g2, _⟩ := hm p true ch h1
    rcases h3 with ⟨h3, h4⟩ | h3
    · exact a4 _ _ _ g2 h2 h3 h4
    · exact a5 _ _ _ _ g2 (fun e => hne p ch h1 e.symm) h2 h3
  have hsat0 : SatH ⟨C.P, w, X0, β0, k⟩ β0 H0 w := by
    refine ⟨⟨rfl, rfl, rfl, Nat.le_refl _, fun _ _ _ => rfl, Nat.le_refl _⟩, fun b hb => (hX b hb).1, fun p o ch hp => ?_, fun p o c o' c' h1 h2 => ?_, fun p q cp cq rp rq hp hq hne hrp hrq hnp hnq => ?_, fun p o c r b hp hr hb => ?_⟩
    · obtain ⟨g1, g2, g3⟩ := hm p o ch hp
      obtain ⟨r, e, s, l⟩ := hs.heap.sat _ _ _ g2
      refine ⟨r, by rw [h0 p g1]; exact e, SatC_mp h0 g3 s, ?_⟩
      cases o with
      | true =>
        simp only [Lies, if_true] at l ⊢
        exact fun hn => ⟨(l hn).1, .inr (by rw [hX0]; exact ⟨p, ch, r, hp, e, .inl ⟨hn, rfl⟩⟩)⟩
      | false =>
        simp only [Lies, Bool.false_eq_true, if_false] at l ⊢
        intro hso
        have hso' := (solid_mp L r ch).2 hso
        refine ⟨Nat.lt_of_lt_of_le (l hso').1 hs.heap.fr.size, fun hx => ?_⟩
        rcases (hX _ hx).2 with h | h
        · have := (l hso').1; omega
        · exact (l hso').2 h
    · obtain ⟨_, a1, _⟩ := hm p o c h1
      obtain ⟨_, a2, _⟩ := hm p o' c' h2
      exact hs.heap.uniq _ _ _ _ _ a1 a2
    · obtain ⟨a1, a2, _⟩ := hm p true cp hp
      obtain ⟨b1, b2, _⟩ := hm q true cq hq
      rw [h0 p a1] at hrp; rw [h0 q b1] at hrq
      exact hs.heap.apart _ _ _ _ _ _ a2 b2 (entI_mem hI p q cp cq hp hq hne) hrp hrq hnp hnq
    · obtain ⟨a1, a2, _⟩ := hm p o c hp
      rw [h0 p a1] at hr
      rw [← foot_mp L] at hb
      obtain ⟨c1, c2, c3, c4, c5⟩ := hs.heap.kid _ _ _ _ _ a2 hr hb
      subst c1
      refine ⟨rfl, c2, .inr (by rw [hX0]; exact ⟨p, c, r, hp, hr, .inr hb⟩), fun q cq rq hq hrq hnq => ?_, fun q o' cq rq hq hqp hrq hbq => ?_⟩
      · obtain ⟨d1, d2, _⟩ := hm q true cq hq
        rw [h0 q d1] at hrq
        exact c4 _ _ _ d2 hrq hnq
      · obtain ⟨d1, d2, _⟩ := hm q o' cq hq
        rw [h0 q d1] at hrq
        rw [← foot_mp L] at hbq
        have d3 := (hs.heap.kid _ _ _ _ _ d2 hrq hbq).1
        subst d3
        exact c5 _ _ _ _ d2 (entI_mem hI q p cq c hq hp hqp) hrq hbq
  have hargs : RL β0 args vs := by
    subst ha
    obtain ⟨hl, hrel⟩ := hvs
    refine ⟨by rw [hl, mps_length], fun i s hi => ?_⟩
    obtain ⟨u, hu, hR⟩ := hrel i (mp L s) (by rw [mps_get, hi]; rfl)
    exact ⟨u, hu, R_mp h0 (bds_get hba i s hi) hR⟩
  refine (hsp.out X0 β0 w hsat0 hno0 vs hargs).mono ?_
  rintro e w' ⟨β', u, rfl, hle, hsat', hno', hR⟩
  have hfr := hsat'.fr
  have hsz : w.heap.size ≤ w'.heap.size := hfr.size
  have hblk : ∀ b, b < w.heap.size → ¬ X0 b → w'.heap[b]? = w.heap[b]? := fun b h1 h2 => hfr.block b h1 h2
  obtain ⟨B, hB⟩ : ∃ B : Names, B = fun q => if q < S.nx then β q else if q < S.nx + (k1 - k) then β' (k + (q - S.nx)) else none := ⟨_, rfl⟩
  have hold : ∀ q, q < S.nx → B q = β q := fun q hq => by simp [hB, hq]
  have hleB : Le β B := fun q r hq => by
    rcases Nat.lt_or_ge q S.nx with h | h
    · rw [hold q h]; exact hq
    · rw [hs.names q h] at hq; cases hq
  have hBp : ∀ p, p < k1 → B (sg L p) = β' p := fun p hp => by
    rcases Nat.lt_or_ge p k with h | h
    · obtain ⟨o, ch, hpm⟩ := hall p h
      obtain ⟨_, g2, _⟩ := hm p o ch hpm
      obtain ⟨r, e, _⟩ := hs.heap.sat _ _ _ g2
      rw [hleB _ _ e, hle p r (by rw [h0 p h]; exact e)]
    · rw [hL2 p h hp, hB]
      simp only
      rw [if_neg (by omega), if_pos (by omega), show k + (S.nx + (p - k) - S.nx) = p by omega]
  have hinH : ∀ {q o c}, (q, o, c) ∈ S.H → q < S.nx := fun {q o c} h => by
    obtain ⟨r, e, _⟩ := hs.heap.sat _ _ _ h
    rcases Nat.lt_or_ge q S.nx with h | h
    · exact h
    · rw [hs.names q h] at e; cases e
  have hrest : ∀ {q o c}, (q, o, c) ∈ lentH L H0 S.H → (q, o, c) ∈ S.H ∧ ∀ p ch, (p, true, ch) ∈ H0 → q ≠ sg L p := fun {q o c} h => mem_lentH h
  have hren : ∀ {q o c}, (q, o, c) ∈ renH L H1 → ∃ p c', (p, o, c') ∈ H1 ∧ q = sg L p ∧ c = mpC L c' := fun {q o c} h => by
    obtain ⟨⟨p, o', c'⟩, h1, h2⟩ := List.mem_map.1 h
    simp only [Prod.mk.injEq] at h2
    obtain ⟨rfl, rfl, rfl⟩ := h2
    exact ⟨p, c', h1, rfl, rfl⟩
  -- a chunk that comes back lies in new blocks, or where the lent ones lay
  have hback : ∀ {b}, (w.heap.size ≤ b ∨ X0 b) → (C.w0.heap.size ≤ b ∨ C.X b) := fun {b} h => by
    rcases h with h | h
    · exact .inl (Nat.le_trans hs.heap.fr.size h)
    · exact (hX b h).2
  have hown1 : ∀ {p c r}, (p, true, c) ∈ H1 → β' p = some r → r.nil = false → r.blk < w'.heap.size ∧ (w.heap.size ≤ r.blk ∨ X0 r.blk) := fun {p c r} hp hr hn => by
    obtain ⟨r', e, _, l⟩ := hsat'.sat _ _ _ hp
    rw [hr] at e; cases e
    simp only [Lies, if_true] at l
    exact l hn
  have hfootR : ∀ {q o c r}, (q, o, c) ∈ S.H → (∀ p ch, (p, true, ch) ∈ H0 → q ≠ sg L p) → β q = some r → footC w' r c = footC w r c := fun {q o c r} hq hne hr => foot_stay fun hso => by
    obtain ⟨h1, h2⟩ := hkeep hq hne hr (.inl hso)
    exact hblk _ h1 h2
  refine ⟨B, mp L ret, u, { S with H := renH L H1 ++ lentH L H0 S.H, nx := S.nx + (k1 - k) }, rfl, ⟨⟨⟨hfr.os.trans hs.heap.fr.os, hfr.tape.trans hs.heap.fr.tape, hfr.output.trans hs.heap.fr.output, Nat.le_trans hs.heap.fr.size hsz, fun b hb hx => ?_, Nat.le_trans hs.heap.fr.drawn hfr.drawn⟩, hs.heap.xs, fun q o c hq => ?_, fun q o c o' c' h1 h2 => ?_, fun q q' c c' rq rq' hq hq' hne hrq hrq' hnq hnq' => ?_, fun q o c r b hq hr hb => ?_⟩, hs.base.trans hleB, hs.bk, fun q hq => ?_, hs.defers, hs.size, fun i s hi => ?_⟩, R_pm hBp hbr hR, hK⟩
  · rw [hblk b (Nat.lt_of_lt_of_le hb hs.heap.fr.size) (fun h => ?_)]
    · exact hs.heap.fr.block b hb hx
    · rcases (hX b h).2 with h | h
      · omega
      · exact hx h
  · rcases List.mem_append.1 hq with hq | hq
    · obtain ⟨p, c', hp, rfl, rfl⟩ := hren hq
      obtain ⟨rfl, g1, g2, _⟩ := hH1 p o c' hp
      obtain ⟨r, e, s, l⟩ := hsat'.sat _ _ _ hp
      refine ⟨r, by rw [hBp p g1]; exact e, SatC_pm hBp g2 s, ?_⟩
      simp only [Lies, if_true] at l ⊢
      exact fun hn => ⟨(l hn).1, hback (l hn).2⟩
    · obtain ⟨h1, h2⟩ := hrest hq
      obtain ⟨r, e, s, l⟩ := hs.heap.sat _ _ _ h1
      refine ⟨r, hleB _ _ e, SatC_same hleB (fun hso => ?_) (fun b hb => ?_) s, ?_⟩
      · obtain ⟨g1, g2⟩ := hkeep h1 h2 e hso
        exact hblk _ g1 g2
      · obtain ⟨g1, g2⟩ := hkeepF h1 h2 e hb
        exact hblk _ g1 g2
      · unfold Lies at l ⊢
        split
        · rename_i ho; simp only [ho, if_true] at l; exact fun hn => ⟨Nat.lt_of_lt_of_le (l hn).1 hsz, (l hn).2⟩
        · rename_i ho; simp only [ho, Bool.false_eq_true, if_false] at l; exact l
  · have key : ∀ {q o c}, (q, o, c) ∈ renH L H1 → ∀ {o' c'}, (q, o', c') ∈ lentH L H0 S.H → False := fun {q o c} h1 {o' c'} h2 => by
      obtain ⟨p, c1, hp, rfl, rfl⟩ := hren h1
      obtain ⟨rfl, g1, _, g3⟩ := hH1 p o c1 hp
      obtain ⟨r1, r2⟩ := hrest h2
      rcases Nat.lt_or_ge p k with h | h
      · obtain ⟨ch, hch⟩ := g3 h
        exact r2 p ch hch rfl
      · have := hinH r1
        rw [hL2 p h g1] at this
        omega
    rcases List.mem_append.1 h1 with h1 | h1 <;> rcases List.mem_append.1 h2 with h2 | h2
    · obtain ⟨p, c1, hp, _, _⟩ := hren h1
      obtain ⟨p', c1', hp', _, _⟩ := hren h2
      rw [(hH1 _ _ _ hp).1, (hH1 _ _ _ hp').1]
    · exact (key h1 h2).elim
    · exact (key h2 h1).elim
    · exact hs.heap.uniq _ _ _ _ _ (hrest h1).1 (hrest h2).1
  · have mix : ∀ {q q' c c' rq rq'}, (q, true, c) ∈ renH L H1 → (q', true, c') ∈ lentH L H0 S.H → B q = some rq → B q' = some rq' → rq.nil = false → rq'.nil = false → rq.blk ≠ rq'.blk := fun {q q' c c' rq rq'} h1 h2 e1 e2 n1 n2 => by
      obtain ⟨p, c1, hp, rfl, rfl⟩ := hren h1
      obtain ⟨_, g1, _, _⟩ := hH1 p true c1 hp
      rw [hBp p g1] at e1
      obtain ⟨_, a2⟩ := hown1 hp e1 n1
      obtain ⟨r1, r2⟩ := hrest h2
      rw [hold _ (hinH r1)] at e2
      obtain ⟨b1, b2⟩ := hkeep r1 r2 e2 (.inr ⟨rfl, n2⟩)
      intro e
      rw [e] at a2
      rcases a2 with a2 | a2
      · omega
      · exact b2 a2
    rcases List.mem_append.1 hq with hq | hq <;> rcases List.mem_append.1 hq' with hq' | hq'
    · obtain ⟨p, c1, hp, rfl, rfl⟩ := hren hq
      obtain ⟨p', c1', hp', rfl, rfl⟩ := hren hq'
      rw [hBp p (hH1 _ _ _ hp).2.1] at hrq
      rw [hBp p' (hH1 _ _ _ hp').2.1] at hrq'
      exact hsat'.apart _ _ _ _ _ _ hp hp' (fun e => hne (by rw [e])) hrq hrq' hnq hnq'
    · exact mix hq hq' hrq hrq' hnq hnq'
    · exact (mix hq' hq hrq' hrq hnq' hnq).symm
    · obtain ⟨r1, _⟩ := hrest hq
      obtain ⟨r2, _⟩ := hrest hq'
      rw [hold _ (hinH r1)] at hrq
      rw [hold _ (hinH r2)] at hrq'
      exact hs.heap.apart _ _ _ _ _ _ r1 r2 hne hrq hrq' hnq hnq'
  · rcases List.mem_append.1 hq with hq | hq
    · obtain ⟨p, c1, hp, rfl, rfl⟩ := hren hq
      obtain ⟨rfl, g1, _, _⟩ := hH1 p o c1 hp
      rw [hBp p g1] at hr
      rw [foot_mp L] at hb
      obtain ⟨a1, a2, a3, a4, a5⟩ := hsat'.kid _ _ _ _ _ hp hr hb
      refine ⟨rfl, a2, hback a3, fun q' cq rq' hq' hrq' hnq' => ?_, fun q' o' cq rq' hq' hne' hrq' hb' => ?_⟩
      · rcases List.mem_append.1 hq' with hq' | hq'
        · obtain ⟨p', c1', hp', rfl, rfl⟩ := hren hq'
          rw [hBp p' (hH1 _ _ _ hp').2.1] at hrq'
          exact a4 _ _ _ hp' hrq' hnq'
        · obtain ⟨r1, r2⟩ := hrest hq'
          rw [hold _ (hinH r1)] at hrq'
          obtain ⟨b1, b2⟩ := hkeep r1 r2 hrq' (.inr ⟨rfl, hnq'⟩)
          intro e
          rw [← e] at a3
          rcases a3 with a3 | a3
          · have a3 : w.heap.size ≤ rq'.blk := a3
            omega
          · exact b2 a3
      · rcases List.mem_append.1 hq' with hq' | hq'
        · obtain ⟨p', c1', hp', rfl, rfl⟩ := hren hq'
          rw [hBp p' (hH1 _ _ _ hp').2.1] at hrq'
          rw [foot_mp L] at hb'
          exact a5 _ _ _ _ hp' (fun e => hne' (by rw [e])) hrq' hb'
        · obtain ⟨r1, r2⟩ := hrest hq'
          rw [hold _ (hinH r1)] at hrq'
          rw [hfootR r1 r2 hrq'] at hb'
          obtain ⟨b1, b2⟩ := hkeepF r1 r2 hrq' hb'
          rcases a3 with a3 | a3
          · have a3 : w.heap.size ≤ b := a3
            omega
          · exact b2 a3
    · obtain ⟨r1, r2⟩ := hrest hq
      rw [hold _ (hinH r1)] at hr
      rw [hfootR r1 r2 hr] at hb
      obtain ⟨a1, a2, a3, a4, a5⟩ := hs.heap.kid _ _ _ _ _ r1 hr hb
      obtain ⟨k1', k2'⟩ := hkeepF r1 r2 hr hb
      refine ⟨a1, Nat.lt_of_lt_of_le a2 hsz, a3, fun q' cq rq' hq' hrq' hnq' => ?_, fun q' o' cq rq' hq' hne' hrq' hb' => ?_⟩
      · rcases List.mem_append.1 hq' with hq' | hq'
        · obtain ⟨p', c1', hp', rfl, rfl⟩ := hren hq'
          rw [hBp p' (hH1 _ _ _ hp').2.1] at hrq'
          obtain ⟨_, c2⟩ := hown1 hp' hrq' hnq'
          intro e
          rw [e] at c2
          rcases c2 with c2 | c2
          · omega
          · exact k2' c2
        · obtain ⟨s1, s2⟩ := hrest hq'
          rw [hold _ (hinH s1)] at hrq'
          exact a4 _ _ _ s1 hrq' hnq'
      · rcases List.mem_append.1 hq' with hq' | hq'
        · obtain ⟨p', c1', hp', rfl, rfl⟩ := hren hq'
          obtain ⟨_, e1, _, _⟩ := hH1 _ _ _ hp'
          rw [hBp p' e1] at hrq'
          rw [foot_mp L] at hb'
          obtain ⟨_, _, c3, _⟩ := hsat'.kid _ _ _ _ _ hp' hrq' hb'
          rcases c3 with c3 | c3
          · have c3 : w.heap.size ≤ b := c3
            omega
          · exact k2' c3
        · obtain ⟨s1, s2⟩ := hrest hq'
          rw [hold _ (hinH s1)] at hrq'
          rw [hfootR s1 s2 hrq'] at hb'
          exact a5 _ _ _ _ s1 hne' hrq' hb'
  · rw [hB]
    simp only at hq ⊢
    rw [if_neg (by omega), if_neg (by omega)]
  · obtain ⟨v, h1, h2⟩ := hs.ts i s hi
    exact ⟨v, h1, R_mono hleB h2⟩

end
end E
end Go.Proofs.Ytlkchnfgeedghaa
