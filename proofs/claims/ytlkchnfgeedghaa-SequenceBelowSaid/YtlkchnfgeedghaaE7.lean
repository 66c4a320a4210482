/- What the executor says holds of the model: literals, calls, regions, code. It states nothing about the program. -/
import Derived.Test.YtlkchnfgeedghaaE6
namespace Go.Proofs.Ytlkchnfgeedghaa
namespace E
open Go

section
variable {C : Cx} {T : Tys} {wr : List Nat} {o : Oper} {S : St} {K : SV → St → Prop}

theorem RowC.push_ok {c c' : RowC} {xs : List SV} (h : c.push xs = some c') : c'.sz = c.sz ∧ c'.len = c.len + 1 ∧ ∃ us : List Value, xs = us.map .v ∧ us.length = c.sz ∧ (∀ i, i < c.len → c'.get i = c.get i) ∧ c'.get c.len = us := by
  unfold RowC.push at h
  split at h
  · rename_i k l k' x
    split at h
    · rename_i e; subst e
      cases h
      exact ⟨rfl, by simp [RowC.len], [.int k x], rfl, rfl, fun i c => by simp only [RowC.len] at c; simp [RowC.get, List.getD, List.getElem?_append_left c], by simp [RowC.len, RowC.get, List.getD]⟩
    · cases h
  · rename_i l x1 x2 x3 x4 x5 x6 x7 x8 x9
    cases h
    exact ⟨rfl, by simp [RowC.len], [.int .i64 x1, .int .i64 x2, .int .i64 x3, .int .i64 x4, .int .i64 x5, .int .i64 x6, .int .i64 x7, .string x8, .bool x9], rfl, rfl, fun i c => by simp only [RowC.len] at c; simp [RowC.get, List.getD, List.getElem?_append_left c], by simp [RowC.len, RowC.get, List.getD]⟩
  · rename_i l x
    cases h
    exact ⟨rfl, by simp [RowC.len], [.string x], rfl, rfl, fun i c => by simp only [RowC.len] at c; simp [RowC.get, List.getD, List.getElem?_append_left c], by simp [RowC.len, RowC.get, List.getD]⟩
  · rename_i l x y z
    cases h
    exact ⟨rfl, by simp [RowC.len], [.int .i64 x, .int .i64 y, .int .i64 z], rfl, rfl, fun i c => by simp only [RowC.len] at c; simp [RowC.get, List.getD, List.getElem?_append_left c], by simp [RowC.len, RowC.get, List.getD]⟩
  · rename_i l x y
    cases h
    exact ⟨rfl, by simp [RowC.len], [.int .i64 x, .int .i64 y], rfl, rfl, fun i c => by simp only [RowC.len] at c; simp [RowC.get, List.getD, List.getElem?_append_left c], by simp [RowC.len, RowC.get, List.getD]⟩
  · rename_i l x1 x2 x3 x4 x5 x6 x7 x8 x9 x10 x11
    cases h
    exact ⟨rfl, by simp [RowC.len], [.int .i64 x1, .int .i64 x2, .int .i64 x3, .int .i64 x4, .int .i64 x5, .int .i64 x6, .int .i64 x7, .int .i64 x8, .int .i64 x9, .int .i64 x10, .bool x11], rfl, rfl, fun i c => by simp only [RowC.len] at c; simp [RowC.get, List.getD, List.getElem?_append_left c], by simp [RowC.len, RowC.get, List.getD]⟩
  · rename_i l x1 x2 x3 x4 x5 x6 x7 x8 x9 x10 x11 x12 x13
    cases h
    exact ⟨rfl, by simp [RowC.len], [.int .i64 x1, .int .i64 x2, .int .i64 x3, .int .i64 x4, .int .i64 x5, .int .i64 x6, .int .i64 x7, .int .i64 x8, .int .i64 x9, .int .i64 x10, .bool x11, .int .i64 x12, .int .i64 x13], rfl, rfl, fun i c => by simp only [RowC.len] at c; simp [RowC.get, List.getD, List.getElem?_append_left c], by simp [RowC.len, RowC.get, List.getD]⟩
  · rename_i l x y s u
    split at h
    · rename_i e
      cases h
      exact ⟨rfl, by simp [RowC.len], [.int .i64 x, .int .i64 y, .string s, u], rfl, rfl, fun i c => by simp only [RowC.len] at c; simp [RowC.get, List.getD, List.getElem?_append_left c], by simp [RowC.len, RowC.get, List.getD, OneV.of_v e]⟩
    · cases h
  · rename_i l u
    split at h
    · rename_i e
      cases h
      exact ⟨rfl, by simp [RowC.len], [u], rfl, rfl, fun i c => by simp only [RowC.len] at c; simp [RowC.get, List.getD, List.getElem?_append_left c], by simp [RowC.len, RowC.get, List.getD, OneV.of_v e]⟩
    · cases h
  · cases h

theorem nil_ok {k : EK} {c : RowC} (h : RowC.nil k = some c) : c.len = 0 := by
  cases k <;> simp [RowC.nil] at h <;> subst h <;> rfl

/-- The cells of a row, one after the other. -/
def RowC.cells (c : RowC) : Nat → List Value
  | 0 => []
  | n + 1 => RowC.cells c n ++ c.get n
theorem RowC.cells_length (c : RowC) (n : Nat) : (c.cells n).length = n * c.sz := by
  induction n with
  | zero => simp [RowC.cells]
  | succ n ih => simp [RowC.cells, ih, RowC.get_length, Nat.add_mul]
theorem RowC.cells_get (c : RowC) : ∀ (n i q : Nat) (u : Value), i < n → (c.get i)[q]? = some u → (c.cells n)[i * c.sz + q]? = some u
  | n + 1, i, q, u, hi, hu => by
    have hq : q < c.sz := by have := (List.getElem?_eq_some_iff.1 hu).1; rwa [RowC.get_length] at this
    have hl := c.cells_length n
    rw [RowC.cells]
    by_cases e : i = n
    · subst e
      rw [List.getElem?_append_right (by omega), hl, show i * c.sz + q - i * c.sz = q by omega]
      exact hu
    · have hlt : i < n := by omega
      have : (i + 1) * c.sz ≤ n * c.sz := Nat.mul_le_mul_right _ hlt
      rw [Nat.add_mul, Nat.one_mul] at this
      rw [List.getElem?_append_left (by omega)]
      exact RowC.cells_get c n i q u hlt hu
theorem RowC.cells_congr {c c' : RowC} (h : ∀ i, i < c.len → c'.get i = c.get i) : ∀ n, n ≤ c.len → c'.cells n = c.cells n
  | 0, _ => rfl
  | n + 1, hn => by rw [RowC.cells, RowC.cells, RowC.cells_congr h n (by omega), h n (by omega)]
theorem RowC.cells_one (c : RowC) : ∀ n, ∀ u ∈ c.cells n, u.oneCell' = true
  | 0, u, hu => by simp [RowC.cells] at hu
  | n + 1, u, hu => by
    rw [RowC.cells] at hu
    rcases List.mem_append.1 hu with hu | hu
    · exact RowC.cells_one c n u hu
    · exact c.get_one n u hu

theorem foldl_lay (off : Nat) : ∀ (vs : List Value) (k : Nat) (cs : Array Value), off + k + vs.length ≤ cs.size →
    ∃ cs' : Array Value, (vs.zipIdx k).foldl (fun (cs : Array Value) (p : Value × Nat) => cs.setIfInBounds (off + p.2) p.1) cs = cs' ∧ cs'.size = cs.size ∧ ∀ i, cs'[i]? = if off + k ≤ i ∧ i < off + k + vs.length then vs[i - (off + k)]? else cs[i]?
  | [], k, cs, _ => ⟨cs, rfl, rfl, fun i => by rw [if_neg (by simp)]⟩
  | v :: vs, k, cs, h => by
    obtain ⟨cs', h1, h2, h3⟩ := foldl_lay off vs (k + 1) (cs.setIfInBounds (off + k) v) (by simp at h ⊢; omega)
    refine ⟨cs', by simpa using h1, by rw [h2]; simp, fun i => ?_⟩
    rw [h3 i]
    simp only [List.length_cons] at h ⊢
    by_cases e : i = off + k
    · subst e
      rw [if_neg (by omega), if_pos (by omega), Array.getElem?_setIfInBounds_self_of_lt (by omega)]; simp
    · by_cases c : off + (k + 1) ≤ i ∧ i < off + (k + 1) + vs.length
      · rw [if_pos c, if_pos (by omega), show i - (off + k) = (i - (off + (k + 1))) + 1 by omega]; simp
      · rw [if_neg c, if_neg (by omega), Array.getElem?_setIfInBounds_ne (by omega)]

/-- What 'fill' of the model does with parts that the executor has laid. -/
theorem fill_ok {β : Names} {place place' : Nat → Option (Nat × Nat)} (hp : ∀ i, place' i = place i) : ∀ (parts : List (Nat × SV)) (vals : List (Nat × Value)) (cells : List SV) (cs : Array Value) (xs : List SV), fillO place cells parts = some xs →
    vals.length = parts.length → (∀ (i : Nat) (q : Nat × SV), parts[i]? = some q → ∃ v, vals[i]? = some (q.1, v) ∧ R β q.2 v) →
    cs.size = cells.length → (∀ (i : Nat) (x : SV), cells[i]? = some x → ∃ y, cs[i]? = some y ∧ one β x y) → (∀ y ∈ cs.toList, y.oneCell' = true) →
    ∃ out : Array Value, Instr.fill place' cs vals = some out ∧ out.size = xs.length ∧ (∀ (i : Nat) (x : SV), xs[i]? = some x → ∃ y, out[i]? = some y ∧ one β x y) ∧ ∀ y ∈ out.toList, y.oneCell' = true
  | [], vals, cells, cs, xs, h, hl, _, hs, hr, h1 => by
    simp [fillO] at h; subst h
    cases vals with
    | nil => exact ⟨cs, rfl, hs, hr, h1⟩
    | cons _ _ => simp at hl
  | (j, s) :: parts, [], cells, cs, xs, h, hl, _, _, _, _ => by simp at hl
  | (j, s) :: parts, (j', v) :: vals, cells, cs, xs, h, hl, hv, hs, hr, h1 => by
    obtain ⟨v', e, hR⟩ := hv 0 (j, s) rfl
    cases e
    simp only [fillO] at h
    split at h
    · rename_i off n ys e1 e2
      split at h
      · rename_i hn
        simp only [Option.bind_eq_some_iff] at h
        obtain ⟨cells', hlay, hrest⟩ := h
        obtain ⟨l1, l2, l3⟩ := layO_eq hlay
        obtain ⟨f1, f2, f3⟩ := flat_ok hR e2
        obtain ⟨cs', g1, g2, g3⟩ := foldl_lay off v.cells.toList 0 cs (by simp; omega)
        obtain ⟨out, k1, k2, k3, k4⟩ := fill_ok hp parts vals cells' cs' xs hrest (by simpa using hl) (fun i q hq => hv (i + 1) q hq) (by omega) (fun i x hx => by
          rw [l3 i] at hx
          rw [g3 i]
          simp only [Array.length_toList, Nat.add_zero, f1]
          split at hx
          · rename_i c; rw [if_pos c]; simpa using f2 _ _ hx
          · rename_i c; rw [if_neg c]; exact hr i x hx) (fun y hy => by
          obtain ⟨i, hi⟩ := List.getElem?_of_mem hy
          have hi' : cs'[i]? = some y := by simpa using hi
          rw [g3 i] at hi'
          split at hi'
          · exact f3 y (List.mem_of_getElem? hi')
          · exact h1 y (by simpa using Array.mem_of_getElem? hi'))
        refine ⟨out, ?_, k2, k3, k4⟩
        rw [Instr.fill, hp j, e1]
        have c1 : ¬ ((v.cells.size ≠ n || off + v.cells.size > cs.size) = true) := by simp; omega
        simp only [if_neg c1]
        have hfold : v.cells.zipIdx.foldl (fun (cs : Array Value) (p : Value × Nat) => cs.setIfInBounds (off + p.2) p.1) cs = cs' := by
          rw [← g1, ← Array.foldl_toList, Array.toList_zipIdx]
        exact (congrArg (fun c => Instr.fill place' c vals) hfold).trans k1
      · cases h
    · cases h


theorem vals_of {β : Names} {S : St} {a : Act} {w : World} (hs : Sat C β S a w) (parts : Array (Nat × Operand)) :
    let vals := (parts.map fun (i, x) => (i, a.eval x)).toList
    let ps := parts.toList.map fun p => (p.1, S.ev p.2)
    vals.length = ps.length ∧ ∀ (i : Nat) (q : Nat × SV), ps[i]? = some q → ∃ v, vals[i]? = some (q.1, v) ∧ R β q.2 v := by
  refine ⟨by simp, fun i q hq => ?_⟩
  simp only [List.getElem?_map, Option.map_eq_some_iff] at hq
  obtain ⟨p, hp, rfl⟩ := hq
  exact ⟨a.eval p.2, by simp only [Array.toList_map, List.getElem?_map, hp, Option.map_some], hs.ev p.2⟩

theorem run_mapM {α γ : Type} {P : Program} (f : α → Sem γ) (g : α → γ) (w : World) (xs : Array α) (h : ∀ x ∈ xs, (f x).run P w = .ok (g x) w) : (xs.mapM f).run P w = .ok (xs.map g) w := by
  have key : ∀ l : List α, (∀ x ∈ l, (f x).run P w = .ok (g x) w) → (l.mapM f).run P w = .ok (l.map g) w := by
    intro l
    induction l with
    | nil => intro _; rfl
    | cons x l ih =>
      intro h
      rw [List.mapM_cons, Sem.run_bind, h x List.mem_cons_self]
      simp only [Result.andThen_ok, Sem.run_bind, ih (fun y hy => h y (List.mem_cons_of_mem _ hy)), Sem.run_pure, List.map_cons]
  rw [Array.mapM_eq_mapM_toList, Sem.run_map, key xs.toList (fun x hx => h x (Array.mem_toList_iff.1 hx))]
  simp only [Result.andThen_ok]
  rw [← Array.toList_map, Array.toArray_toList]

theorem build_step (hT : TysOK C.P T) {t : TypeId} {parts : Array (Nat × Operand)} {ti : TI} {fs : List (Nat × Nat × Nat)} {xs : List SV} (ho : o.op = .build t parts) (hti : T t = some ti) (hk : ti.k = .struct fs) (hnz : fs.all (fun f => f.2.2 != 0) = true)
    (hf : fillO (fun i => (fs[i]?).map fun f => (f.1, f.2.2)) (ti.zero.map .v) (parts.toList.map fun p => (p.1, S.ev p.2)) = some xs) (h : K (.agg xs) S) : OpP C o S K := by
  refine ⟨fun β a w hs next Q hn => ?_⟩
  obtain ⟨z, hz, hzl, hz1⟩ := (hT t ti hti).zero
  obtain ⟨d, hd, hd'⟩ := (hT t ti hti).kind
  rw [hk] at hd'
  obtain ⟨fa, rfl, hl⟩ := hd'
  obtain ⟨v1, v2⟩ := vals_of hs parts
  have hplaces : ∀ w : World, (fa.mapM (fun f => do pure (f.offset, ← sizeOf f.type)) : Sem (Array (Nat × Nat))).run C.P w = .ok (fa.map fun f => (f.offset, ((C.P.info? f.type).map (·.size)).getD 0)) w := fun w => by
    refine run_mapM _ (fun f : Field => (f.offset, ((C.P.info? f.type).map (·.size)).getD 0)) w fa fun f hf => ?_
    have hm : (f.offset, f.type, ((C.P.info? f.type).map (·.size)).getD 0) ∈ fs := by
      rw [← hl]; exact List.mem_map.2 ⟨f, Array.mem_toList_iff.2 hf, rfl⟩
    have hne := List.all_eq_true.1 hnz _ hm
    cases hi : C.P.info? f.type with
    | none => simp [hi] at hne
    | some i =>
      have : (C.P.info? f.type).map (·.size) = some i.size := by rw [hi]; rfl
      simp only [Sem.run_bind, run_sizeOf' this, Result.andThen_ok, Sem.run_pure, Option.map_some, Option.getD_some]
  have hpl : ∀ i : Nat, (fa.map fun f => (f.offset, ((C.P.info? f.type).map (·.size)).getD 0))[i]? = (fs[i]?).map (fun f : Nat × Nat × Nat => (f.1, f.2.2)) := fun i => by
    rw [← hl]
    simp only [Array.getElem?_map, List.getElem?_map, Array.getElem?_toList, Option.map_map]
    rfl
  obtain ⟨out, g1, g2, g3, g4⟩ := fill_ok (β := β) hpl _ _ _ z.cells xs hf v1 v2 (by rw [List.length_map, ← hzl]; simp) (fun i x hx => by
    rw [← hzl] at hx
    simp only [List.getElem?_map, Option.map_eq_some_iff] at hx
    obtain ⟨u, hu, rfl⟩ := hx
    exact ⟨u, by simpa using hu, rfl⟩) (List.all_eq_true.1 hz1)
  refine wp_value (w' := w) (u := .agg out) ?_ (hn β (.agg xs) _ S w hs ⟨out.toList, by simp, by simpa using g2, fun i x hx => by simpa using g3 i x hx, g4⟩ h)
  refine run_v (m := Instr.build t (parts.map fun (i, x) => (i, a.eval x))) (by unfold execOp; rw [ho]) ?_
  unfold Instr.build
  simp only [Sem.run_bind, run_zeroValue' hz, Result.andThen_ok, run_underlying hd, hplaces]
  rw [g1]
  rfl

theorem fillRow_ok {β : Names} {esz : Nat} : ∀ (parts : List (Nat × SV)) (vals : List (Nat × Value)) (c c' : RowC) (cs : Array Value), pushAll c c.len parts = some c' → c.sz = esz →
    vals.length = parts.length → (∀ (i : Nat) (q : Nat × SV), parts[i]? = some q → ∃ v, vals[i]? = some (q.1, v) ∧ R β q.2 v) →
    (c.len + parts.length) * esz ≤ cs.size → (∀ i, i < c.len → ∀ (q : Nat) (u : Value), (c.get i)[q]? = some u → cs[i * esz + q]? = some u) → (∀ y ∈ cs.toList, y.oneCell' = true) →
    ∃ out : Array Value, Instr.fill (fun i => some (i * esz, esz)) cs vals = some out ∧ c'.sz = esz ∧ c'.len = c.len + parts.length ∧ out.size = cs.size ∧
      (∀ i, i < c'.len → ∀ (q : Nat) (u : Value), (c'.get i)[q]? = some u → out[i * esz + q]? = some u) ∧ ∀ y ∈ out.toList, y.oneCell' = true
  | [], [], c, c', cs, h, hz, _, _, _, hr, h1 => by
    simp [pushAll] at h; subst h
    exact ⟨cs, rfl, hz, by simp, rfl, hr, h1⟩
  | [], _ :: _, c, c', cs, h, _, hl, _, _, _, _ => by simp at hl
  | (j, s) :: parts, [], c, c', cs, h, _, hl, _, _, _, _ => by simp at hl
  | (j, s) :: parts, (j', v) :: vals, c, c', cs, h, hz, hl, hv, hs, hr, h1 => by
    obtain ⟨v', e, hR⟩ := hv 0 (j, s) rfl
    cases e
    simp only [pushAll] at h
    split at h
    · rename_i hj
      subst hj
      split at h
      · rename_i ys hfl
        simp only [Option.bind_eq_some_iff] at h
        obtain ⟨c1, hp, hrest⟩ := h
        obtain ⟨p1, p2, us, rfl, p4, p5, p6⟩ := RowC.push_ok hp
        obtain ⟨f1, f2, f3⟩ := flat_ok hR hfl
        simp only [List.length_map] at f1
        have hb : c.len * esz + esz ≤ cs.size := by
          have : (c.len + 1) * esz ≤ (c.len + ((c.len, s) :: parts).length) * esz := Nat.mul_le_mul_right _ (by simp only [List.length_cons]; omega)
          rw [Nat.add_mul, Nat.one_mul] at this
          omega
        obtain ⟨cs', g1, g2, g3⟩ := foldl_lay (c.len * esz) v.cells.toList 0 cs (by simp; omega)
        have g3' : ∀ i, cs'[i]? = if c.len * esz ≤ i ∧ i < c.len * esz + esz then us[i - c.len * esz]? else cs[i]? := fun i => by
          rw [g3 i]
          simp only [Nat.add_zero, Array.length_toList, f1, p4, hz]
          by_cases cc : c.len * esz ≤ i ∧ i < c.len * esz + esz
          · rw [if_pos cc, if_pos cc]
            have hlt : i - c.len * esz < us.length := by omega
            obtain ⟨y, hy, hy1⟩ := f2 (i - c.len * esz) (.v us[i - c.len * esz]) (by simp [hlt])
            obtain rfl : y = _ := hy1
            rw [List.getElem?_eq_getElem hlt]
            simpa using hy
          · rw [if_neg cc, if_neg cc]
        rw [← p2] at hrest
        obtain ⟨out, k1, k2, k3, k4, k5, k6⟩ := fillRow_ok (esz := esz) parts vals c1 c' cs' hrest (by omega) (by simpa using hl) (fun i q hq => hv (i + 1) q hq) (by rw [g2, p2]; simp at hs; rw [show c.len + 1 + parts.length = c.len + (parts.length + 1) by omega]; exact hs)
          (fun i hi q u hu => by
            have hq : q < esz := by have := (List.getElem?_eq_some_iff.1 hu).1; rw [RowC.get_length] at this; omega
            rw [g3']
            by_cases e : i = c.len
            · subst e
              rw [p6] at hu
              rw [if_pos (by omega), show c.len * esz + q - c.len * esz = q by omega]
              exact hu
            · have hlt : i < c.len := by omega
              have : (i + 1) * esz ≤ c.len * esz := Nat.mul_le_mul_right _ hlt
              rw [Nat.add_mul, Nat.one_mul] at this
              rw [if_neg (by omega)]
              rw [p5 i hlt] at hu
              exact hr i hlt q u hu)
          (fun y hy => by
            obtain ⟨i, hi⟩ := List.getElem?_of_mem hy
            have hi' : cs'[i]? = some y := by simpa using hi
            rw [g3 i] at hi'
            split at hi'
            · exact f3 y (List.mem_of_getElem? hi')
            · exact h1 y (by simpa using Array.mem_of_getElem? hi'))
        refine ⟨out, ?_, k2, by rw [k3, p2]; simp only [List.length_cons]; omega, by omega, k5, k6⟩
        rw [Instr.fill]
        have c1 : ¬ ((v.cells.size ≠ esz || c.len * esz + v.cells.size > cs.size) = true) := by simp; omega
        simp only [if_neg c1]
        have hfold : v.cells.zipIdx.foldl (fun (cs : Array Value) (p : Value × Nat) => cs.setIfInBounds (c.len * esz + p.2) p.1) cs = cs' := by
          rw [← g1, ← Array.foldl_toList, Array.toList_zipIdx]
        exact (congrArg (fun c => Instr.fill (fun i => some (i * esz, esz)) c vals) hfold).trans k1
      · cases h
    · cases h

end
end E
end Go.Proofs.Ytlkchnfgeedghaa
