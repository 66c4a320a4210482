/- A contract used at a call. It states nothing about the program. -/
import Derived.Test.YtlkchnfgeedghaaEA
namespace Go.Proofs.Ytlkchnfgeedghaa
namespace E
open Go

section
variable {C : Cx} {T : Tys} {wr : List Nat}

/-- The rows that came in, names from k on. -/
def inH (k : Nat) : List (TypeId × RowC) → Heap
  | [] => []
  | (t, c) :: l => (k, false, .row t c) :: inH (k + 1) l

theorem mem_inH {k : Nat} {l : List (TypeId × RowC)} {p : Nat} {o : Bool} {ch : Chunk} (h : (p, o, ch) ∈ inH k l) : o = false ∧ ∃ (i : Nat) (t : TypeId) (c : RowC), l[i]? = some (t, c) ∧ p = k + i ∧ ch = .row t c := by
  induction l generalizing k with
  | nil => simp [inH] at h
  | cons x l ih =>
    obtain ⟨t, c⟩ := x
    simp only [inH, List.mem_cons] at h
    rcases h with h | h
    · cases h; exact ⟨rfl, 0, t, c, rfl, rfl, rfl⟩
    · obtain ⟨h1, i, t', c', h2, h3, h4⟩ := ih h
      exact ⟨h1, i + 1, t', c', by simpa using h2, by omega, h4⟩
theorem inH_all (k : Nat) (l : List (TypeId × RowC)) : (inH k l).all (fun x => !x.2.1) = true := by
  induction l generalizing k with
  | nil => rfl
  | cons x l ih => simp [inH, ih]

/-- A caller's value in the place of a row. -/
def rowM (H : Heap) (t : TypeId) (c : RowC) : SV → Prop
  | .full p => ∃ o, get p H = some (o, .row t c)
  | .sl p l n => ∃ o c', get p H = some (o, .row t c') ∧ l + n ≤ c'.len ∧ c.len = n ∧ c.sz = c'.sz ∧ ∀ i, i < n → c.get i = c'.get (l + i)
  | .v (.slice none n m) => n = 0 ∧ m = 0 ∧ c.len = 0
  | .v (.slice (some a) n m) => ∃ p o l, get p H = some (o, .pool l) ∧ (.slice (some a) n m, .row t c) ∈ l
  | _ => False

def refM (β : Names) (c : RowC) : SV → Option Ref
  | .full p => β p
  | .v (.slice (some a) n m) => some ⟨a.block, 0, false, m, n, c.sz⟩
  | .sl p l n => (β p).map fun r => ⟨r.blk, if r.cap = l then r.off else r.off + l * r.sz, r.nil, r.cap - l, n, r.sz⟩
  | _ => some ⟨0, 0, true, 0, 0, c.sz⟩

theorem rowM_ok {β : Names} {S : St} {a : Act} {w : World} (hs : Sat C β S a w) {t : TypeId} {c : RowC} {b : SV} (h : rowM S.H t c b) :
    ∃ r, refM β c b = some r ∧ (∀ β', SatC β' w false r (.row t c)) ∧ (solid r (.row t c) → r.blk < w.heap.size) ∧ ∀ u, R β b u → u = .slice r.base r.n r.cap := by
  unfold rowM at h
  have lt : ∀ {p o ch r}, get p S.H = some (o, ch) → β p = some r → solid r ch → r.blk < w.heap.size := fun {p o ch r} hg hr hso => by
    obtain ⟨r', hr', hsat, hl⟩ := hs.chunk hg
    rw [hr] at hr'; cases hr'
    have hn := hsat.solid_or hso
    unfold Lies at hl
    cases o with
    | true => simp only [if_true] at hl; exact (hl hn).1
    | false => simp only [Bool.false_eq_true, if_false] at hl; exact Nat.lt_of_lt_of_le (hl hso).1 hs.heap.fr.size
  split at h
  · rename_i p
    obtain ⟨o, hg⟩ := h
    obtain ⟨r, hr, hsat, _⟩ := hs.chunk hg
    obtain ⟨h1, h2, h3, h4, h5, h6⟩ := hsat
    refine ⟨r, hr, fun β' => ⟨h1, h2, h3, h4, h5, fun h => by cases h⟩, lt hg hr, fun u hu => ?_⟩
    obtain ⟨r', hr', hu⟩ := hu
    rw [hr] at hr'; cases hr'
    exact hu
  · rename_i p l n
    obtain ⟨o, c', hg, hln, hcn, hsz, hget⟩ := h
    obtain ⟨r, hr, hsat, _⟩ := hs.chunk hg
    obtain ⟨h1, h2, h3, h4, h5, h6⟩ := hsat
    refine ⟨⟨r.blk, if r.cap = l then r.off else r.off + l * r.sz, r.nil, r.cap - l, n, r.sz⟩, by simp [refM, hr], fun β' => ⟨hcn.symm, by rw [hsz]; exact h2, ?_, ?_, fun i hi q u hu => ?_, fun h => by cases h⟩, fun hso => (show r.blk < w.heap.size from lt hg hr ?_), fun u hu => ?_⟩
    · simp only; omega
    · intro hn; have := h4 hn; simp only; omega
    · rw [hcn] at hi
      rw [hget i hi] at hu
      have := h5 (l + i) (by omega) q u hu
      have hne : ¬ r.cap = l := by omega
      simp only [if_neg hne]
      rw [h2, hsz, Nat.add_assoc r.off, ← Nat.add_mul]
      exact this
    · obtain ⟨a1, a2⟩ := hso
      simp only [hcn] at a2
      refine ⟨a1, ?_⟩
      rcases a2 with a2 | a2
      · exact .inl (by omega)
      · exact .inr (by have : 0 < r.cap - l := a2; omega)
    · obtain ⟨r', hr', _, hu⟩ := hu
      rw [hr] at hr'; cases hr'
      rw [hu]
      congr 1
      unfold Ref.from Ref.base
      split
      · rfl
      · split <;> rfl
  · rename_i n m
    obtain ⟨rfl, rfl, hc⟩ := h
    refine ⟨⟨0, 0, true, 0, 0, c.sz⟩, rfl, fun β' => ⟨hc.symm, rfl, by omega, fun _ => rfl, fun i hi => by omega, fun h => by cases h⟩, (fun hso => by cases hso.1), fun u hu => ?_⟩
    obtain rfl : u = _ := hu
    simp [Ref.base]
  · rename_i a' n m
    obtain ⟨p, o, l, hg, hm⟩ := h
    obtain ⟨r, hr, hsat, hl⟩ := hs.chunk hg
    obtain ⟨_, hf⟩ := hsat
    rcases hf _ hm with ⟨_, e⟩ | ⟨b, cap, e, hrow⟩
    · cases e
    · cases e
      have hk : b ∈ footC w r (.pool l) := List.mem_filterMap.2 ⟨_, hm, rfl⟩
      have hlt := (hs.heap.kid p o (.pool l) r b (get_mem hg) hr hk).2.1
      obtain ⟨h0, arr, e, g1, g2, g3, g4, g5, g6⟩ := hrow
      refine ⟨⟨b, 0, false, m, c.len, c.sz⟩, rfl, fun β' => ⟨rfl, rfl, h0, (fun h => by cases h), fun i hi q u hu => by rw [cell_of_row _ _ _ _ _ _ g1, Nat.zero_add]; exact g5 i hi q u hu, fun h => by cases h⟩, fun _ => hlt, fun u hu => ?_⟩
      obtain rfl : u = _ := hu
      simp [Ref.base]
  · exact h.elim

/-- The arguments of a contract against a caller's values. -/
def argsM (H : Heap) : Nat → List (TypeId × RowC) → List SV → List SV → Prop
  | _, [], [], [] => True
  | j, (t, c) :: rows, .full i :: as, b :: bs => i = j ∧ rowM H t c b ∧ argsM H (j + 1) rows as bs
  | j, rows, .v x :: as, b :: bs => b = .v x ∧ argsM H j rows as bs
  | j, rows, .clo f [] :: as, b :: bs => b = .clo f [] ∧ argsM H j rows as bs
  | j, rows, .agg xs :: as, b :: bs => b = .agg xs ∧ (∀ x ∈ xs, ∃ u, x = .v u) ∧ argsM H j rows as bs
  | _, _, _, _ => False

/-- The callers' values in the rows' places. -/
def rowsOf : List SV → List SV → List SV
  | .full _ :: as, b :: bs => b :: rowsOf as bs
  | _ :: as, _ :: bs => rowsOf as bs
  | _, _ => []

def names0 (β : Names) (rows : List (TypeId × RowC)) (bs : List SV) : Names := fun p =>
  match rows[p]?, bs[p]? with
  | some (_, c), some b => refM β c b
  | _, _ => none

theorem one_plain {β β' : Names} {xs : List SV} (h : ∀ x ∈ xs, ∃ u, x = .v u) {y : Value} (hr : R β (.agg xs) y) : R β' (.agg xs) y := by
  obtain ⟨ys, h1, h2, h3, h4⟩ := hr
  refine ⟨ys, h1, h2, fun i s hs => ?_, h4⟩
  obtain ⟨u, a, b⟩ := h3 i s hs
  obtain ⟨v, rfl⟩ := h s (List.mem_of_getElem? hs)
  exact ⟨u, a, b⟩

theorem argsM_ok {β : Names} {S : St} {a : Act} {w : World} (hs : Sat C β S a w) (all : List (TypeId × RowC)) (allb : List SV) : ∀ (args cargs : List SV) (j : Nat) (rows : List (TypeId × RowC)), argsM S.H j rows args cargs →
    (∀ i, rows[i]? = all[j + i]?) → (∀ i, (rowsOf args cargs)[i]? = allb[j + i]?) →
    (∀ vs, RL β cargs vs → RL (names0 β all allb) args vs) ∧ (rowsOf args cargs).length = rows.length ∧ ∀ (i : Nat) (t : TypeId) (c : RowC), rows[i]? = some (t, c) → ∃ b, (rowsOf args cargs)[i]? = some b ∧ rowM S.H t c b
  | [], [], j, [], h, _, _ => ⟨fun vs hv => ⟨hv.1, fun i s hi => by simp at hi⟩, rfl, fun i t c hi => by simp at hi⟩
  | .full i :: as, b :: bs, j, (t, c) :: rows, h, h1, h2 => by
    obtain ⟨rfl, hrow, hrest⟩ := h
    obtain ⟨g1, g2, g3⟩ := argsM_ok hs all allb as bs (i + 1) rows hrest (fun k => by have := h1 (k + 1); simpa [Nat.add_assoc, Nat.add_comm 1 k] using this) (fun k => by have := h2 (k + 1); simpa [rowsOf, Nat.add_assoc, Nat.add_comm 1 k] using this)
    refine ⟨fun vs hv => ?_, by simp [rowsOf, g2], fun k t' c' hk => ?_⟩
    · obtain ⟨hl, hv⟩ := hv
      rcases vs with _ | ⟨v, vs⟩
      · simp at hl
      · obtain ⟨hl', hv'⟩ := g1 vs ⟨by simpa using hl, fun k s hk => by simpa using hv (k + 1) s (by simpa using hk)⟩
        refine ⟨by simpa using hl', fun k s hk => ?_⟩
        cases k with
        | zero =>
          cases hk
          obtain ⟨u, hu, hR⟩ := hv 0 b rfl
          cases hu
          obtain ⟨r, hr, _, _, hval⟩ := rowM_ok hs hrow
          refine ⟨v, rfl, r, ?_, hval v hR⟩
          have e1 := h1 0
          have e2 := h2 0
          simp only [rowsOf, List.getElem?_cons_zero, Nat.add_zero] at e1 e2
          unfold names0
          rw [← e1, ← e2]
          exact hr
        | succ k => simpa using hv' k s (by simpa using hk)
    · cases k with
      | zero => cases hk; exact ⟨b, rfl, hrow⟩
      | succ k => simpa [rowsOf] using g3 k t' c' (by simpa using hk)
  | .v x :: as, b :: bs, j, rows, h, h1, h2 => by
    have h : b = .v x ∧ argsM S.H j rows as bs := by
      cases rows <;> exact h
    obtain ⟨rfl, hrest⟩ := h
    obtain ⟨g1, g2, g3⟩ := argsM_ok hs all allb as bs j rows hrest h1 (fun k => by simpa [rowsOf] using h2 k)
    refine ⟨fun vs hv => ?_, by simpa [rowsOf] using g2, fun k t' c' hk => by simpa [rowsOf] using g3 k t' c' hk⟩
    obtain ⟨hl, hv⟩ := hv
    rcases vs with _ | ⟨v, vs⟩
    · simp at hl
    · obtain ⟨hl', hv'⟩ := g1 vs ⟨by simpa using hl, fun k s hk => by simpa using hv (k + 1) s (by simpa using hk)⟩
      refine ⟨by simpa using hl', fun k s hk => ?_⟩
      cases k with
      | zero => cases hk; obtain ⟨u, hu, hR⟩ := hv 0 _ rfl; cases hu; exact ⟨v, rfl, hR⟩
      | succ k => simpa using hv' k s (by simpa using hk)
  | .agg xs :: as, b :: bs, j, rows, h, h1, h2 => by
    have h : b = .agg xs ∧ (∀ x ∈ xs, ∃ u, x = .v u) ∧ argsM S.H j rows as bs := by
      cases rows <;> exact h
    obtain ⟨rfl, hp, hrest⟩ := h
    obtain ⟨g1, g2, g3⟩ := argsM_ok hs all allb as bs j rows hrest h1 (fun k => by simpa [rowsOf] using h2 k)
    refine ⟨fun vs hv => ?_, by simpa [rowsOf] using g2, fun k t' c' hk => by simpa [rowsOf] using g3 k t' c' hk⟩
    obtain ⟨hl, hv⟩ := hv
    rcases vs with _ | ⟨v, vs⟩
    · simp at hl
    · obtain ⟨hl', hv'⟩ := g1 vs ⟨by simpa using hl, fun k s hk => by simpa using hv (k + 1) s (by simpa using hk)⟩
      refine ⟨by simpa using hl', fun k s hk => ?_⟩
      cases k with
      | zero => cases hk; obtain ⟨u, hu, hR⟩ := hv 0 _ rfl; cases hu; exact ⟨v, rfl, one_plain hp hR⟩
      | succ k => simpa using hv' k s (by simpa using hk)
  | [], [], j, _ :: _, h, _, _ => by cases h
  | [], _ :: _, j, rows, h, _, _ => by cases rows <;> cases h
  | .full _ :: _, [], j, rows, h, _, _ => by cases rows <;> cases h
  | .full _ :: _, _ :: _, j, [], h, _, _ => by cases h
  | .v _ :: _, [], j, rows, h, _, _ => by cases rows <;> cases h
  | .agg _ :: _, [], j, rows, h, _, _ => by cases rows <;> cases h
  | .junk :: _, bs, j, rows, h, _, _ => by cases rows <;> cases bs <;> cases h
  | .ptr _ _ :: _, bs, j, rows, h, _, _ => by cases rows <;> cases bs <;> cases h
  | .eptr _ _ _ :: _, bs, j, rows, h, _, _ => by cases rows <;> cases bs <;> cases h
  | .sl _ _ _ :: _, bs, j, rows, h, _, _ => by cases rows <;> cases bs <;> cases h
  | .mp _ :: _, bs, j, rows, h, _, _ => by cases rows <;> cases bs <;> cases h
  | .clo f [] :: as, b :: bs, j, rows, h, h1, h2 => by
    have h : b = .clo f [] ∧ argsM S.H j rows as bs := by
      cases rows <;> exact h
    obtain ⟨rfl, hrest⟩ := h
    obtain ⟨g1, g2, g3⟩ := argsM_ok hs all allb as bs j rows hrest h1 (fun k => by simpa [rowsOf] using h2 k)
    refine ⟨fun vs hv => ?_, by simpa [rowsOf] using g2, fun k t' c' hk => by simpa [rowsOf] using g3 k t' c' hk⟩
    obtain ⟨hl, hv⟩ := hv
    rcases vs with _ | ⟨v, vs⟩
    · simp at hl
    · obtain ⟨hl', hv'⟩ := g1 vs ⟨by simpa using hl, fun k s hk => by simpa using hv (k + 1) s (by simpa using hk)⟩
      refine ⟨by simpa using hl', fun k s hk => ?_⟩
      cases k with
      | zero =>
        cases hk
        obtain ⟨u, hu, ys, h1, h2, h3⟩ := hv 0 _ rfl
        cases hu
        exact ⟨v, rfl, ys, h1, h2, fun i p hp => by simp at hp⟩
      | succ k => simpa using hv' k s (by simpa using hk)
  | .clo f [] :: as, [], j, rows, h, _, _ => by cases rows <;> cases h
  | .clo _ (_ :: _) :: _, bs, j, rows, h, _, _ => by cases rows <;> cases bs <;> cases h
  | .tup _ :: _, bs, j, rows, h, _, _ => by cases rows <;> cases bs <;> cases h


/-! results at the caller -/
/-- A name of the contract at the caller. -/
def toC (bs : List SV) (k nx : Nat) (p : Nat) : Option Nat :=
  if p < k then match bs[p]? with | some (.full q) => some q | _ => none else some (nx + (p - k))
def renA (bs : List SV) (k nx : Nat) : SV → SV
  | .full p => match toC bs k nx p with | some q => .full q | none => .junk
  | .ptr p f => match toC bs k nx p with | some q => .ptr q f | none => .junk
  | .sl p l n => match toC bs k nx p with | some q => .sl q l n | none => .junk
  | .v x => .v x
  | _ => .junk
def renB (bs : List SV) (k nx : Nat) : SV → SV
  | .agg xs => .agg (xs.map (renA bs k nx))
  | s => renA bs k nx s
def ren (bs : List SV) (k nx : Nat) : SV → SV
  | .tup xs => .tup (xs.map (renB bs k nx))
  | s => renB bs k nx s

theorem renA_ok {β β' : Names} {bs : List SV} {k nx : Nat} (h : ∀ p q r, toC bs k nx p = some q → β p = some r → β' q = some r) {s : SV} {u : Value} (hr : one β s u) : one β' (renA bs k nx s) u := by
  cases s <;> simp only [renA] <;> first | trivial | exact hr | skip
  case ptr p f =>
    obtain ⟨r, h1, h2⟩ := hr
    split
    · rename_i q hq; exact ⟨r, h _ _ _ hq h1, h2⟩
    · trivial
  case full p =>
    obtain ⟨r, h1, h2⟩ := hr
    split
    · rename_i q hq; exact ⟨r, h _ _ _ hq h1, h2⟩
    · trivial
  case sl p l n =>
    obtain ⟨r, h1, h2⟩ := hr
    split
    · rename_i q hq; exact ⟨r, h _ _ _ hq h1, h2⟩
    · trivial

theorem renA_one {bs : List SV} {k nx : Nat} {β : Names} {s : SV} {u : Value} (h : one β (renA bs k nx s) u) : R1 β (renA bs k nx s) u := by
  revert h
  cases s <;> simp only [renA] <;> (repeat' split) <;> exact id

theorem renB_ok {β β' : Names} {bs : List SV} {k nx : Nat} (h : ∀ p q r, toC bs k nx p = some q → β p = some r → β' q = some r) {s : SV} {u : Value} (hr : R1 β s u) : R1 β' (renB bs k nx s) u := by
  cases s
  case agg xs =>
    obtain ⟨ys, h1, h2, h3, h4⟩ := hr
    refine ⟨ys, h1, by simpa using h2, fun i s hi => ?_, h4⟩
    simp only [List.getElem?_map, Option.map_eq_some_iff] at hi
    obtain ⟨s', hs', rfl⟩ := hi
    obtain ⟨u, a, b⟩ := h3 i s' hs'
    exact ⟨u, a, renA_ok h b⟩
  all_goals
    rcases R1_cases hr with h1 | ⟨xs, e⟩
    · exact renA_one (renA_ok h h1)
    · cases e

theorem ren_ok {β β' : Names} {bs : List SV} {k nx : Nat} (h : ∀ p q r, toC bs k nx p = some q → β p = some r → β' q = some r) {s : SV} {u : Value} (hr : R β s u) : R β' (ren bs k nx s) u := by
  have lift : ∀ s', R1 β' (renB bs k nx s') u → R β' (renB bs k nx s') u := fun s' h => by
    cases s'
    case agg xs => exact h
    all_goals
      revert h
      simp only [renB, renA] <;> (repeat' split) <;> exact id
  cases s
  case tup xs =>
    obtain ⟨ys, h1, h2, h3⟩ := hr
    refine ⟨ys, h1, by simpa using h2, fun i s hi => ?_⟩
    simp only [List.getElem?_map, Option.map_eq_some_iff] at hi
    obtain ⟨s', hs', rfl⟩ := hi
    obtain ⟨u, a, b⟩ := h3 i s' hs'
    exact ⟨u, a, renB_ok h b⟩
  all_goals
    rcases R_cases hr with h1 | ⟨xs, e⟩
    · exact lift _ (renB_ok h h1)
    · cases e

/-- The caller's names behind the call. -/
def backN (β β' : Names) (k nx : Nat) (n : Nat) : Names := fun q => if q < nx then β q else if q < nx + n then β' (k + (q - nx)) else none

theorem entry_ok {rows : List (TypeId × RowC)} {args cargs : List SV} {β : Names} {S : St} {a : Act} {w : World} (hs : Sat C β S a w) (ha : argsM S.H 0 rows args cargs) :
    (∀ vs, RL β cargs vs → RL (names0 β rows (rowsOf args cargs)) args vs) ∧ (∀ (i : Nat) (t : TypeId) (c : RowC), rows[i]? = some (t, c) → ∃ b, (rowsOf args cargs)[i]? = some b ∧ rowM S.H t c b ∧ names0 β rows (rowsOf args cargs) i = refM β c b) ∧
      (∀ p, rows.length ≤ p → names0 β rows (rowsOf args cargs) p = none) ∧ SatH ⟨C.P, w, fun _ => False, names0 β rows (rowsOf args cargs), rows.length⟩ (names0 β rows (rowsOf args cargs)) (inH 0 rows) w := by
  obtain ⟨g1, g2, g3⟩ := argsM_ok hs rows (rowsOf args cargs) args cargs 0 rows ha (fun i => by rw [Nat.zero_add]) (fun i => by rw [Nat.zero_add])
  have hnm : ∀ (i : Nat) (t : TypeId) (c : RowC), rows[i]? = some (t, c) → ∃ b, (rowsOf args cargs)[i]? = some b ∧ rowM S.H t c b ∧ names0 β rows (rowsOf args cargs) i = refM β c b := fun i t c hi => by
    obtain ⟨b, h1, h2⟩ := g3 i t c hi
    exact ⟨b, h1, h2, by simp [names0, hi, h1]⟩
  have hno : ∀ p, rows.length ≤ p → names0 β rows (rowsOf args cargs) p = none := fun p hp => by
    simp [names0, List.getElem?_eq_none hp]
  refine ⟨g1, hnm, hno, ⟨⟨rfl, rfl, rfl, Nat.le_refl _, fun _ _ _ => rfl, Nat.le_refl _⟩, fun _ h => h.elim, fun p o ch hp => ?_, fun p o c o' c' h1 h2 => by rw [(mem_inH h1).1, (mem_inH h2).1], fun p q cp cq rp rq hp => (by have := (mem_inH hp).1; cases this), fun p o c r k hp hr hk => (by obtain ⟨_, i, t, c', _, _, rfl⟩ := mem_inH hp; cases hk)⟩⟩
  obtain ⟨rfl, i, t, c, hi, rfl, rfl⟩ := mem_inH hp
  rw [Nat.zero_add]
  obtain ⟨b, h1, h2, h3⟩ := hnm i t c hi
  obtain ⟨r, hr, hsat, hlt, _⟩ := rowM_ok hs h2
  exact ⟨r, by rw [h3]; exact hr, hsat _, by simp only [Lies, Bool.false_eq_true, if_false]; exact fun hso => ⟨hlt hso, fun h => h⟩⟩

theorem call_spec {f : FuncId} {rows news : List (TypeId × RowC)} {args cargs : List SV} {ret : SV} {S : St} {K : SV → St → Prop} (hsp : Spec C.P f (inH 0 rows) rows.length args ret news) (ha : argsM S.H 0 rows args cargs)
    (hk : K (ren (rowsOf args cargs) rows.length S.nx ret) { S with H := newH S.nx news ++ S.H, nx := S.nx + news.length }) : CallP C f cargs S K := by
  refine .of hsp.enters fun β a w hs vs hvs => ?_
  obtain ⟨g1, hnm, hno, hentry⟩ := entry_ok hs ha
  refine (hsp.out _ w hentry hno vs (g1 vs hvs)).mono ?_
  rintro e w' ⟨β', u, rfl, hle, hsat', hno', hR⟩
  have hold : ∀ q, q < S.nx → backN β β' rows.length S.nx news.length q = β q := fun q hq => by simp [backN, hq]
  have hnew : ∀ i, i < news.length → backN β β' rows.length S.nx news.length (S.nx + i) = β' (rows.length + i) := fun i hi => by
    unfold backN
    rw [if_neg (by omega), if_pos (by omega), show S.nx + i - S.nx = i by omega]
  have hleB : Le β (backN β β' rows.length S.nx news.length) := fun q r hq => by
    rcases Nat.lt_or_ge q S.nx with h | h
    · rw [hold q h]; exact hq
    · rw [hs.names q h] at hq; cases hq
  have hfr := hsat'.fr
  have hblk : ∀ k, k < w.heap.size → w'.heap[k]? = w.heap[k]? := fun k hk => hfr.block k hk (fun h => h)
  have hgrow : SatH C (backN β β' rows.length S.nx news.length) S.H w' := hs.heap.grow hleB hfr.os hfr.tape hfr.output hfr.size hblk hfr.drawn
  refine ⟨backN β β' rows.length S.nx news.length, ren (rowsOf args cargs) rows.length S.nx ret, u, { S with H := newH S.nx news ++ S.H, nx := S.nx + news.length }, rfl, ⟨⟨hgrow.fr, hgrow.xs, fun p o ch hp => ?_, fun p o c o' c' h1 h2 => ?_, fun p q cp cq rp rq hp hq hne hrp hrq hnp hnq => ?_, fun p o c r k' hp hr hk' => ?_⟩, hs.base.trans hleB, hs.bk, fun p hp => ?_, hs.defers, hs.size, fun i s hi => ?_⟩, ren_ok (fun p q r hpq hp => ?_) hR, hk⟩
  · rcases List.mem_append.1 hp with hp | hp
    · obtain ⟨rfl, i, t, c, hi, rfl, rfl⟩ := mem_newH hp
      have hlt : i < news.length := (List.getElem?_eq_some_iff.1 hi).1
      rw [hnew i hlt]
      have hm : (rows.length + i, true, Chunk.row t c) ∈ newH rows.length news ++ inH 0 rows := by
        refine List.mem_append_left _ ?_
        clear hp hno' hsat' hold hnew hleB hgrow
        have : ∀ (l : List (TypeId × RowC)) (k i : Nat), l[i]? = some (t, c) → (k + i, true, Chunk.row t c) ∈ newH k l := by
          intro l
          induction l with
          | nil => intro k i h; simp at h
          | cons x l ih =>
            intro k i h
            obtain ⟨t', c'⟩ := x
            cases i with
            | zero => cases h; exact List.mem_cons_self
            | succ i => have := ih (k + 1) i (by simpa using h); rw [show k + 1 + i = k + (i + 1) by omega] at this; exact List.mem_cons_of_mem _ this
        exact this news rows.length i hi
      obtain ⟨r, e, s, l⟩ := hsat'.sat _ _ _ hm
      refine ⟨r, e, s, ?_⟩
      simp only [Lies, if_true] at l ⊢
      intro hn
      obtain ⟨l1, l2⟩ := l hn
      exact ⟨l1, .inl (Nat.le_trans hs.heap.fr.size (l2.resolve_right (fun h => h)))⟩
    · exact hgrow.sat _ _ _ hp
  · have key : ∀ {p o c}, (p, o, c) ∈ S.H → p < S.nx := fun {p o c} h => by
      obtain ⟨r, e, _⟩ := hs.heap.sat _ _ _ h
      rcases Nat.lt_or_ge p S.nx with h | h
      · exact h
      · rw [hs.names p h] at e; cases e
    rcases List.mem_append.1 h1 with h1 | h1 <;> rcases List.mem_append.1 h2 with h2 | h2
    · rw [(mem_newH h1).1, (mem_newH h2).1]
    · obtain ⟨_, i, _, _, _, e, _⟩ := mem_newH h1; have := key h2; omega
    · obtain ⟨_, i, _, _, _, e, _⟩ := mem_newH h2; have := key h1; omega
    · exact hs.heap.uniq _ _ _ _ _ h1 h2
  · have memN : ∀ {p c}, (p, true, c) ∈ newH S.nx news → ∃ i t c', news[i]? = some (t, c') ∧ p = S.nx + i ∧ c = .row t c' ∧ (rows.length + i, true, Chunk.row t c') ∈ newH rows.length news := fun {p c} h => by
      obtain ⟨_, i, t, c', hi, e1, e2⟩ := mem_newH h
      refine ⟨i, t, c', hi, e1, e2, ?_⟩
      have : ∀ (l : List (TypeId × RowC)) (k i : Nat), l[i]? = some (t, c') → (k + i, true, Chunk.row t c') ∈ newH k l := by
        intro l
        induction l with
        | nil => intro k i h; simp at h
        | cons x l ih =>
          intro k i h
          obtain ⟨t', c''⟩ := x
          cases i with
          | zero => cases h; exact List.mem_cons_self
          | succ i => have := ih (k + 1) i (by simpa using h); rw [show k + 1 + i = k + (i + 1) by omega] at this; exact List.mem_cons_of_mem _ this
      exact this news rows.length i hi
    have ownNew : ∀ {i t c' r}, (rows.length + i, true, Chunk.row t c') ∈ newH rows.length news → β' (rows.length + i) = some r → r.nil = false → w.heap.size ≤ r.blk := fun {i t c' r} hm hr hn => by
      obtain ⟨r', e, s, l⟩ := hsat'.sat _ _ _ (List.mem_append_left _ hm)
      rw [hr] at e; cases e
      simp only [Lies, if_true] at l
      exact (l hn).2.resolve_right (fun h => h)
    have ownOld : ∀ {q c r}, (q, true, c) ∈ S.H → β q = some r → r.nil = false → r.blk < w.heap.size := fun {q c r} hm hr hn => by
      obtain ⟨r', e, s, l⟩ := hs.heap.sat _ _ _ hm
      rw [hr] at e; cases e
      simp only [Lies, if_true] at l
      exact (l hn).1
    have oldN : ∀ {q c}, (q, true, c) ∈ S.H → backN β β' rows.length S.nx news.length q = β q := fun {q c} h => by
      obtain ⟨r, e, _⟩ := hs.heap.sat _ _ _ h
      rw [hleB _ _ e, e]
    rcases List.mem_append.1 hp with hp | hp <;> rcases List.mem_append.1 hq with hq | hq
    · obtain ⟨i, t, c, hi, rfl, rfl, m1⟩ := memN hp
      obtain ⟨j, t', c', hj, rfl, rfl, m2⟩ := memN hq
      rw [hnew i (List.getElem?_eq_some_iff.1 hi).1] at hrp
      rw [hnew j (List.getElem?_eq_some_iff.1 hj).1] at hrq
      exact hsat'.apart _ _ _ _ _ _ (List.mem_append_left _ m1) (List.mem_append_left _ m2) (by omega) hrp hrq hnp hnq
    · obtain ⟨i, t, c, hi, rfl, rfl, m1⟩ := memN hp
      rw [hnew i (List.getElem?_eq_some_iff.1 hi).1] at hrp
      rw [oldN hq] at hrq
      have := ownNew m1 hrp hnp
      have := ownOld hq hrq hnq
      omega
    · obtain ⟨j, t', c', hj, rfl, rfl, m2⟩ := memN hq
      rw [hnew j (List.getElem?_eq_some_iff.1 hj).1] at hrq
      rw [oldN hp] at hrp
      have := ownNew m2 hrq hnq
      have := ownOld hp hrp hnp
      omega
    · rw [oldN hp] at hrp; rw [oldN hq] at hrq
      exact hs.heap.apart _ _ _ _ _ _ hp hq hne hrp hrq hnp hnq
  · rcases List.mem_append.1 hp with hp | hp
    · obtain ⟨_, i, t, c', _, _, rfl⟩ := mem_newH hp
      cases hk'
    · obtain ⟨a1, a2, a3, a4, a5⟩ := hgrow.kid _ _ _ _ _ hp hr hk'
      have hko : k' < w.heap.size := by
        obtain ⟨r2, e2, s2, l2⟩ := hs.heap.sat _ _ _ hp
        have := hleB _ _ e2
        rw [hr] at this; cases this
        subst a1
        simp only [Lies, if_true] at l2
        rw [foot_stay fun hso => hblk _ (l2 (s2.solid_or hso)).1] at hk'
        exact (hs.heap.kid _ _ _ _ _ hp e2 hk').2.1
      refine ⟨a1, a2, a3, fun q cq rq hq hrq hnq => ?_, fun q o' cq rq hq hqp hrq hkq => ?_⟩
      · rcases List.mem_append.1 hq with hq | hq
        · obtain ⟨_, i, t, c', hi, rfl, rfl⟩ := mem_newH hq
          have hm : (rows.length + i, true, Chunk.row t c') ∈ newH rows.length news := by
            have : ∀ (l : List (TypeId × RowC)) (k i : Nat), l[i]? = some (t, c') → (k + i, true, Chunk.row t c') ∈ newH k l := by
              intro l
              induction l with
              | nil => intro k i h; simp at h
              | cons x l ih =>
                intro k i h
                obtain ⟨t', c''⟩ := x
                cases i with
                | zero => cases h; exact List.mem_cons_self
                | succ i => have := ih (k + 1) i (by simpa using h); rw [show k + 1 + i = k + (i + 1) by omega] at this; exact List.mem_cons_of_mem _ this
            exact this news rows.length i hi
          rw [hnew i (List.getElem?_eq_some_iff.1 hi).1] at hrq
          obtain ⟨r', e, s, l⟩ := hsat'.sat _ _ _ (List.mem_append_left _ hm)
          rw [hrq] at e; cases e
          simp only [Lies, if_true] at l
          have := (l hnq).2.resolve_right (fun h => h)
          have h9 : w.heap.size ≤ rq.blk := this
          omega
        · exact a4 _ _ _ hq hrq hnq
      · rcases List.mem_append.1 hq with hq | hq
        · obtain ⟨_, i, t, c', hi, rfl, rfl⟩ := mem_newH hq
          cases hkq
        · exact a5 _ _ _ _ hq hqp hrq hkq
  · unfold backN
    simp only at hp
    rw [if_neg (by omega), if_neg (by omega)]
  · obtain ⟨v, h1, h2⟩ := hs.ts i s hi
    exact ⟨v, h1, R_mono hleB h2⟩
  · unfold toC at hpq
    split at hpq
    · rename_i hlt
      split at hpq
      · rename_i q' hb
        cases hpq
        obtain ⟨⟨t, c⟩, hc⟩ : ∃ x, rows[p]? = some x := ⟨_, List.getElem?_eq_getElem hlt⟩
        obtain ⟨b, h1, h2, h3⟩ := hnm p t c hc
        rw [hb] at h1; cases h1
        obtain ⟨rf, hrf, _⟩ := rowM_ok hs h2
        have e1 : names0 β rows (rowsOf args cargs) p = some rf := by rw [h3]; exact hrf
        have e2 := hle _ _ e1
        rw [hp] at e2; cases e2
        exact hleB _ _ hrf
      · cases hpq
    · rename_i hge
      cases hpq
      have hlt2 : p - rows.length < news.length := by
        rcases Nat.lt_or_ge (p - rows.length) news.length with h | h
        · exact h
        · rw [hno' p (by omega)] at hp; cases hp
      rw [hnew _ hlt2, show rows.length + (p - rows.length) = p by omega]
      exact hp


theorem call_is {P : Program} (hP : C.P = P) {f : FuncId} {rows news : List (TypeId × RowC)} {k : Nat} {args cargs : List SV} {ret : SV} {S : St} {K : SV → St → Prop} (hsp : Spec P f (inH 0 rows) k args ret news) (hk' : k = rows.length) (ha : argsM S.H 0 rows args cargs)
    (hk : K (ren (rowsOf args cargs) k S.nx ret) { S with H := newH S.nx news ++ S.H, nx := S.nx + news.length }) : CallP C f cargs S K := by
  subst hk'
  exact call_spec (hP ▸ hsp) ha hk

end
end E
end Go.Proofs.Ytlkchnfgeedghaa
