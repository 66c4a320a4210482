/- The executor's operations on memory, and that they are the model's. It states nothing about the program. -/
import Derived.Test.YtlkchnfgeedghaaE3
import Derived.Laws.IdiomCopy
namespace Go.Proofs.Ytlkchnfgeedghaa
namespace E
open Go

theorem setCells_drawn (b : Nat) : ∀ (vs : List Value) (o : Nat) (w : World), (w.setCells b o vs).drawn = w.drawn
  | [], _, _ => rfl
  | v :: vs, o, w => by rw [World.setCells, setCells_drawn b vs]; rfl

/-! lists on numerals -/
def takeO : List SV → Nat → Option (List SV)
  | _, 0 => some []
  | [], _ + 1 => none
  | a :: l, n + 1 => (takeO l n).map (a :: ·)
def dropO : List SV → Nat → Option (List SV)
  | l, 0 => some l
  | [], _ + 1 => none
  | _ :: l, n + 1 => dropO l n
def segO (l : List SV) (f n : Nat) : Option (List SV) := (dropO l f).bind (takeO · n)
def nthO : List SV → Nat → Option SV
  | [], _ => none
  | a :: _, 0 => some a
  | _ :: l, n + 1 => nthO l n
/-- The cells 'xs' laid from place f on. -/
def layO : List SV → Nat → List SV → Option (List SV)
  | l, 0, [] => some l
  | [], 0, _ :: _ => none
  | _ :: l, 0, x :: xs => (layO l 0 xs).map (x :: ·)
  | [], _ + 1, _ => none
  | a :: l, f + 1, xs => (layO l f xs).map (a :: ·)

theorem takeO_eq : ∀ {l : List SV} {n : Nat} {ys : List SV}, takeO l n = some ys → ys = l.take n ∧ n ≤ l.length
  | l, 0, ys, h => by simp [takeO] at h; subst h; simp
  | [], n + 1, ys, h => by cases h
  | a :: l, n + 1, ys, h => by
    simp only [takeO, Option.map_eq_some_iff] at h
    obtain ⟨zs, h1, rfl⟩ := h
    obtain ⟨rfl, h2⟩ := takeO_eq h1
    exact ⟨by simp, by simp; omega⟩
theorem dropO_eq : ∀ {l : List SV} {n : Nat} {ys : List SV}, dropO l n = some ys → ys = l.drop n ∧ n ≤ l.length
  | l, 0, ys, h => by simp [dropO] at h; subst h; simp
  | [], n + 1, ys, h => by cases h
  | a :: l, n + 1, ys, h => by
    obtain ⟨rfl, h2⟩ := dropO_eq (l := l) (n := n) h
    exact ⟨by simp, by simp; omega⟩
theorem segO_eq {l : List SV} {f n : Nat} {ys : List SV} (h : segO l f n = some ys) : ys = (l.drop f).take n ∧ f + n ≤ l.length := by
  unfold segO at h
  simp only [Option.bind_eq_some_iff] at h
  obtain ⟨zs, h1, h2⟩ := h
  obtain ⟨rfl, h3⟩ := dropO_eq h1
  obtain ⟨rfl, h4⟩ := takeO_eq h2
  exact ⟨rfl, by simp at h4; omega⟩
theorem nthO_eq : ∀ {l : List SV} {n : Nat} {s : SV}, nthO l n = some s → l[n]? = some s
  | a :: l, 0, s, h => by simpa [nthO] using h
  | a :: l, n + 1, s, h => by simpa using nthO_eq (l := l) (n := n) h
theorem layO_eq : ∀ {l : List SV} {f : Nat} {xs ys : List SV}, layO l f xs = some ys → ys.length = l.length ∧ f + xs.length ≤ l.length ∧ ∀ i, ys[i]? = if f ≤ i ∧ i < f + xs.length then xs[i - f]? else l[i]?
  | l, 0, [], ys, h => by simp [layO] at h; subst h; exact ⟨rfl, by simp, fun i => by rw [if_neg (by simp)]⟩
  | [], 0, _ :: _, ys, h => by cases h
  | a :: l, 0, x :: xs, ys, h => by
    simp only [layO, Option.map_eq_some_iff] at h
    obtain ⟨zs, h1, rfl⟩ := h
    obtain ⟨h2, h3, h4⟩ := layO_eq h1
    refine ⟨by simp [h2], by simp at h3 ⊢; omega, fun i => ?_⟩
    cases i with
    | zero => simp
    | succ i =>
      simp only [List.getElem?_cons_succ, h4 i, List.length_cons]
      by_cases c : i < xs.length
      · rw [if_pos (by omega), if_pos (by omega)]; simp
      · rw [if_neg (by omega), if_neg (by omega)]
  | [], f + 1, xs, ys, h => by cases h
  | a :: l, f + 1, xs, ys, h => by
    simp only [layO, Option.map_eq_some_iff] at h
    obtain ⟨zs, h1, rfl⟩ := h
    obtain ⟨h2, h3, h4⟩ := layO_eq h1
    refine ⟨by simp [h2], by simp; omega, fun i => ?_⟩
    cases i with
    | zero => rw [if_neg (by omega)]; rfl
    | succ i =>
      simp only [List.getElem?_cons_succ, h4 i]
      by_cases c : f ≤ i ∧ i < f + xs.length
      · rw [if_pos c, if_pos (by omega)]; congr 1; omega
      · rw [if_neg c, if_neg (by omega)]

/-! the cells of a value -/
def flat : SV → Option (List SV)
  | .agg xs => some xs
  | .junk => none
  | .tup _ => none
  | .v x => if x.oneCell' then some [.v x] else none
  | s => some [s]

theorem cells_one {u : Value} (h : u.oneCell' = true) : u.cells = #[u] := by
  cases u <;> first | rfl | (simp [Value.oneCell'] at h)

theorem flat_ok {β : Names} {s : SV} {u : Value} {xs : List SV} (hr : R β s u) (h : flat s = some xs) :
    u.cells.size = xs.length ∧ (∀ (i : Nat) (x : SV), xs[i]? = some x → ∃ y, u.cells[i]? = some y ∧ one β x y) ∧ ∀ y ∈ u.cells.toList, y.oneCell' = true := by
  have single : ∀ s' : SV, one β s' u → u.oneCell' = true → xs = [s'] → u.cells.size = xs.length ∧ (∀ (i : Nat) (x : SV), xs[i]? = some x → ∃ y, u.cells[i]? = some y ∧ one β x y) ∧ ∀ y ∈ u.cells.toList, y.oneCell' = true := by
    rintro s' h1 h2 rfl
    rw [cells_one h2]
    refine ⟨rfl, fun i x hx => ?_, by simpa using h2⟩
    cases i with
    | zero => cases hx; exact ⟨u, rfl, h1⟩
    | succ i => cases hx
  cases s with
  | junk => cases h
  | tup _ => cases h
  | agg ys =>
    cases h
    obtain ⟨vs, rfl, hl, hrel, hone⟩ := hr
    exact ⟨by simpa [Value.cells] using hl, fun i x hx => by simpa [Value.cells] using hrel i x hx, by simpa [Value.cells] using hone⟩
  | v x =>
    simp only [flat] at h
    split at h
    · rename_i h1; cases h
      obtain rfl : u = x := hr
      exact single (.v _) rfl h1 rfl
    · cases h
  | ptr p f => cases h; refine single (.ptr p f) hr ?_ rfl; obtain ⟨r, _, rfl⟩ := hr; rfl
  | eptr p i f => cases h; refine single (.eptr p i f) hr ?_ rfl; obtain ⟨r, _, rfl⟩ := hr; rfl
  | full p => cases h; refine single (.full p) hr ?_ rfl; obtain ⟨r, _, rfl⟩ := hr; rfl
  | sl p l n => cases h; refine single (.sl p l n) hr ?_ rfl; obtain ⟨r, _, _, rfl⟩ := hr; rfl
  | clo f cs => cases h; refine single (.clo f cs) hr ?_ rfl; obtain ⟨ys, rfl, _⟩ := hr; rfl
  | mp p => cases h; refine single (.mp p) hr ?_ rfl; obtain ⟨r, _, rfl⟩ := hr; rfl

/-! loads -/
def ld (T : Tys) (H : Heap) (t : TypeId) : SV → Rs
  | .ptr p f =>
    match get p H, T t with
    | some (_, .box _ cs), some i =>
      match i.k.agg with
      | true => match segO cs f i.size with | some ys => .ok (.agg ys) | none => .bad
      | false => match nthO cs f with | some s => .ok s | none => .bad
    | _, _ => .bad
  | .eptr p i f =>
    match get p H, T t with
    | some (_, .row _ c), some ti =>
      match ti.k.agg with
      | true => match segO ((c.get i).map .v) f ti.size with | some ys => .side (i < c.len) (.agg ys) | none => .bad
      | false => match nthO ((c.get i).map .v) f with | some s => .side (i < c.len) s | none => .bad
    | _, _ => .bad
  | _ => .bad

section
variable {C : Cx} {T : Tys} {β : Names} {S : St} {H : Heap} {a : Act} {w : World}

theorem run_loadVar_agg {P : Program} {t : TypeId} {i : TI} (hi : TIok P t i) (hk : i.k.agg = true) (b o : Nat) (vs : List Value) (hl : vs.length = i.size) (hc : ∀ j u, vs[j]? = some u → w.cell? ⟨b, o + j, none⟩ = some u) :
    (loadVar t ⟨b, o, none⟩).run P w = .ok (.agg vs.toArray) w := by
  have ha := hi.isAgg w
  rw [hk] at ha
  have h2 := run_loadCells_list (P := P) w ⟨b, o, none⟩ vs (fun j v hv => by rw [addr_add]; exact hc j v hv)
  unfold loadVar
  simp only [Sem.run_bind, ha, Result.andThen_ok, if_true, run_sizeOf' hi.size, ← hl, h2, Sem.run_pure]

theorem run_loadVar_one {P : Program} {t : TypeId} {i : TI} (hi : TIok P t i) (hk : i.k.agg = false) (A : Addr) (u : Value) (hc : w.cell? A = some u) :
    (loadVar t A).run P w = .ok u w := by
  have ha := hi.isAgg w
  rw [hk] at ha
  unfold loadVar
  simp only [Sem.run_bind, ha, Result.andThen_ok, Bool.false_eq_true, if_false, run_load, hc]

theorem load_op {P : Program} {ρ : Operand → Value} {o : Oper} {t : TypeId} {x : Operand} (ho : o.op = .load t x) {b off : Nat} (hx : ρ x = .pointer (some ⟨b, off, none⟩)) {u : Value} (hl : (loadVar t ⟨b, off, none⟩).run P w = .ok u w) :
    (execOp ρ o).run P w = .ok (.value u) w := by
  refine run_v (m := Instr.loadAt t (ρ x)) (by unfold execOp; rw [ho]) ?_
  simp only [hx, Instr.loadAt, Instr.sureAddr, Sem.run_bind, Sem.run_pure, Result.andThen_ok, hl]

theorem ld_ok (hT : TysOK C.P T) (hH : SatH C β H w) {t : TypeId} {x s : SV} {y : Value} (hx : R β x y) (h : (ld T H t x).Ok s) :
    ∃ b off u, y = .pointer (some ⟨b, off, none⟩) ∧ (loadVar t ⟨b, off, none⟩).run C.P w = .ok u w ∧ R β s u := by
  cases x <;> try exact h.elim
  case ptr p f =>
    simp only [ld] at h
    obtain ⟨r, hr, rfl⟩ := hx
    split at h
    · rename_i own tid cs i e1 e2
      obtain ⟨r', hr', hsat, _⟩ := hH.sat _ _ _ (get_mem e1)
      rw [hr] at hr'; cases hr'
      obtain ⟨arr, hh, hsz, ho, _, hrel, hone⟩ := hsat
      rw [ho, Nat.zero_add]
      split at h
      · rename_i hk
        split at h
        · rename_i ys hys
          obtain rfl := h
          obtain ⟨rfl, hle⟩ := segO_eq hys
          refine ⟨_, _, _, rfl, run_loadVar_agg (hT t i e2) hk _ _ ((arr.toList.drop f).take i.size) (by simp; omega) ?_, (arr.toList.drop f).take i.size, rfl, by simp; omega, ?_, ?_⟩
          · intro j u hu
            rw [cell_of_row w _ _ _ _ _ hh]
            simp only [List.getElem?_take, List.getElem?_drop] at hu
            split at hu
            · simpa using hu
            · cases hu
          · intro j s hs
            simp only [List.getElem?_take, List.getElem?_drop] at hs ⊢
            split at hs
            · rename_i hlt; rw [if_pos hlt]; simpa using hrel _ _ hs
            · cases hs
          · intro u hu
            obtain ⟨j, hj⟩ := List.getElem?_of_mem (List.mem_of_mem_drop (List.mem_of_mem_take hu))
            exact hone j u (by simpa using hj)
        · exact h.elim
      · rename_i hk
        split at h
        · rename_i s' hs'
          obtain rfl := h
          obtain ⟨u, hu, h1⟩ := hrel _ _ (nthO_eq hs')
          exact ⟨_, _, u, rfl, run_loadVar_one (hT t i e2) hk _ _ (by rw [cell_of_row w _ _ _ _ _ hh]; exact hu), R_one h1⟩
        · exact h.elim
    · exact h.elim
  case eptr p i f =>
    simp only [ld] at h
    obtain ⟨r, hr, rfl⟩ := hx
    split at h
    · rename_i own tid c ti e1 e2
      obtain ⟨r', hr', hsat, _⟩ := hH.sat _ _ _ (get_mem e1)
      rw [hr] at hr'; cases hr'
      obtain ⟨h1, h2, h3, h4, hcell, _⟩ := hsat
      rw [h2]
      split at h
      · rename_i hk
        split at h
        · rename_i ys hys
          obtain ⟨hi, rfl⟩ := h
          obtain ⟨rfl, hle⟩ := segO_eq hys
          simp only [List.length_map] at hle
          refine ⟨_, _, _, rfl, run_loadVar_agg (hT t ti e2) hk _ _ (((c.get i).drop f).take ti.size) (by simp; omega) ?_, ((c.get i).drop f).take ti.size, rfl, by simp, ?_, ?_⟩
          · intro j u hu
            simp only [List.getElem?_take, List.getElem?_drop] at hu
            split at hu
            · have := hcell i hi (f + j) u hu; rw [← Nat.add_assoc] at this; exact this
            · cases hu
          · intro j s hs
            simp only [← List.map_drop, ← List.map_take, List.getElem?_map, Option.map_eq_some_iff] at hs
            obtain ⟨u, hu, rfl⟩ := hs
            exact ⟨u, hu, rfl⟩
          · exact fun u hu => c.get_one i u (List.mem_of_mem_drop (List.mem_of_mem_take hu))
        · exact h.elim
      · rename_i hk
        split at h
        · rename_i s' hs'
          obtain ⟨hi, rfl⟩ := h
          have hq := nthO_eq hs'
          simp only [List.getElem?_map, Option.map_eq_some_iff] at hq
          obtain ⟨u, hu, rfl⟩ := hq
          exact ⟨_, _, u, rfl, run_loadVar_one (hT t ti e2) hk _ _ (hcell i hi f u hu), rfl⟩
        · exact h.elim
    · exact h.elim


/-! stores and new blocks -/
def setC (p : Nat) (ch : Chunk) : Heap → Heap
  | [] => []
  | (q, o, c) :: H => if p = q then (q, o, ch) :: setC p ch H else (q, o, c) :: setC p ch H

theorem mem_setC {p q : Nat} {ch c : Chunk} {o : Bool} : ∀ {H : Heap}, (q, o, c) ∈ setC p ch H → (q ≠ p ∧ (q, o, c) ∈ H) ∨ (q = p ∧ c = ch ∧ ∃ c', (q, o, c') ∈ H)
  | (r, o', c') :: H, h => by
    unfold setC at h
    split at h
    · rename_i e; subst e
      rcases List.mem_cons.1 h with h | h
      · cases h; exact .inr ⟨rfl, rfl, c', List.mem_cons_self⟩
      · rcases mem_setC h with ⟨h1, h2⟩ | ⟨h1, h2, c2, h3⟩
        · exact .inl ⟨h1, List.mem_cons_of_mem _ h2⟩
        · exact .inr ⟨h1, h2, c2, List.mem_cons_of_mem _ h3⟩
    · rename_i e
      rcases List.mem_cons.1 h with h | h
      · cases h; exact .inl ⟨fun h => e h.symm, List.mem_cons_self⟩
      · rcases mem_setC h with ⟨h1, h2⟩ | ⟨h1, h2, c2, h3⟩
        · exact .inl ⟨h1, List.mem_cons_of_mem _ h2⟩
        · exact .inr ⟨h1, h2, c2, List.mem_cons_of_mem _ h3⟩

theorem cell_congr {w w' : World} {b : Nat} (h : w'.heap[b]? = w.heap[b]?) (o : Nat) : w'.cell? ⟨b, o, none⟩ = w.cell? ⟨b, o, none⟩ := by
  unfold World.cell?; rw [h]

/-- A chunk whose block has not turned. -/
theorem foot_same {w w' : World} {r : Ref} {ch : Chunk} (h : w'.heap[r.blk]? = w.heap[r.blk]?) : footC w' r ch = footC w r ch := by
  cases ch <;> simp only [footC, kidBlocks, h]
theorem foot_stay {w w' : World} {r : Ref} {ch : Chunk} (h : solid r ch → w'.heap[r.blk]? = w.heap[r.blk]?) : footC w' r ch = footC w r ch := by
  cases ch
  case kids t l out => exact foot_same (h trivial)
  all_goals rfl
theorem foot_row (w : World) (r : Ref) (t : TypeId) (c : RowC) : footC w r (.row t c) = [] := rfl
theorem MapAt.same {w w' : World} {b : Nat} {l : List (Value × Value)} (hs : MapAt w b l) (h : w'.heap[b]? = w.heap[b]?) : MapAt w' b l := by
  obtain ⟨es, h1, h2⟩ := hs
  exact ⟨es, by rw [h]; exact h1, h2⟩
theorem RowAt.same {w w' : World} {b cap : Nat} {t : TypeId} {c : RowC} (hs : RowAt w b cap t c) (h : w'.heap[b]? = w.heap[b]?) : RowAt w' b cap t c := by
  obtain ⟨h0, arr, e, h1, h2⟩ := hs
  exact ⟨h0, arr, e, by rw [h]; exact h1, h2⟩
theorem FrozAt.same {w w' : World} {u : Value} {f : Froz} (hs : FrozAt w u f) (h : ∀ b, blkOf u = some b → w'.heap[b]? = w.heap[b]?) : FrozAt w' u f := by
  cases f with
  | row t c =>
    rcases hs with hs | ⟨b, cap, rfl, hr⟩
    · exact .inl hs
    · exact .inr ⟨b, cap, rfl, hr.same (h b rfl)⟩
  | map l =>
    obtain ⟨b, rfl, hm⟩ := hs
    exact ⟨b, rfl, hm.same (h b rfl)⟩
/-- The blocks that a map of rows holds. -/
theorem mem_kidBlocks {w : World} {b : Nat} {out : List Nat} {l : List (List Int × RowC)} {us : List Value} (hl : us.length = l.length) (h : MapAt w b ((l.zip us).map fun x => (keyV x.1.1, x.2))) {k : Nat} :
    k ∈ kidBlocks w b out ↔ ∃ (i : Nat) (u : Value), us[i]? = some u ∧ i ∉ out ∧ blkOf u = some k := by
  obtain ⟨es, h1, h2, _⟩ := h
  unfold kidBlocks
  rw [h1]
  simp only [List.mem_filterMap]
  have hval : ∀ i : Nat, (es.toList[i]?).map MapEntry.val = us[i]? := fun i => by
    have := congrArg (fun l => (l[i]?).map Prod.snd) h2
    simp only [List.getElem?_map, Option.map_map] at this
    have e1 : (es.toList[i]?).map MapEntry.val = (es.toList[i]?).map (Prod.snd ∘ fun e => (e.key, e.val)) := rfl
    rw [e1, this]
    cases hu : us[i]? with
    | none =>
      have : (l.zip us)[i]? = none := by
        rw [List.getElem?_eq_none]
        have := List.getElem?_eq_none_iff.1 hu
        rw [List.length_zip]; omega
      rw [this]; rfl
    | some u =>
      have hlt := (List.getElem?_eq_some_iff.1 hu).1
      have : (l.zip us)[i]? = some (l[i]'(by omega), u) := by
        rw [List.getElem?_zip_eq_some]
        exact ⟨List.getElem?_eq_getElem (by omega), hu⟩
      rw [this]; rfl
  constructor
  · rintro ⟨⟨e, i⟩, hm, hk⟩
    have hi := List.mem_zipIdx_iff_getElem?.1 hm
    simp only at hk hi
    split at hk
    · cases hk
    · rename_i ho
      have := hval i
      rw [hi] at this
      exact ⟨i, e.val, this.symm, ho, hk⟩
  · rintro ⟨i, u, hu, ho, hk⟩
    have := hval i
    rw [hu] at this
    cases he : es.toList[i]? with
    | none => rw [he] at this; cases this
    | some e =>
      rw [he] at this
      simp only [Option.map_some, Option.some.injEq] at this
      exact ⟨(e, i), List.mem_zipIdx_iff_getElem?.2 he, by simp only [if_neg ho, this, hk]⟩

theorem SatC_same {β β' : Names} {w w' : World} {own : Bool} {r : Ref} {ch : Chunk} (hle : Le β β') (h : solid r ch ∨ (own = true ∧ r.nil = false) → w'.heap[r.blk]? = w.heap[r.blk]?) (hf : ∀ k ∈ footC w r ch, w'.heap[k]? = w.heap[k]?) (hs : SatC β w own r ch) : SatC β' w' own r ch := by
  cases ch with
  | box tid cs =>
    obtain ⟨arr, h1, h2, h3, h4, h5, h6⟩ := hs
    exact ⟨arr, by rw [h (.inl trivial)]; exact h1, h2, h3, h4, fun i s hs => let ⟨u, a, b⟩ := h5 i s hs; ⟨u, a, one_mono hle b⟩, h6⟩
  | row tid c =>
    obtain ⟨h1, h2, h3, h4, h5, h6⟩ := hs
    refine ⟨h1, h2, h3, h4, fun i hi q u hu => ?_, fun ho hn => ?_⟩
    · have hn : r.nil = false := by
        cases hq : r.nil with
        | false => rfl
        | true => have := h4 hq; omega
      rw [cell_congr (h (.inl ⟨hn, .inl (by omega)⟩))]
      exact h5 i hi q u hu
    · obtain ⟨h7, arr, e0, h8, h9⟩ := h6 ho hn
      exact ⟨h7, arr, e0, by rw [h (.inr ⟨ho, hn⟩)]; exact h8, h9⟩
  | cap p n => obtain ⟨rp, h1, h2⟩ := hs; exact ⟨rp, hle _ _ h1, h2⟩
  | mp l => exact ⟨hs.1, hs.2.same (h (.inl trivial))⟩
  | kids t l out =>
    obtain ⟨h1, us, h2, h3, h4, h5⟩ := hs
    refine ⟨h1, us, h2, h3.same (h (.inl trivial)), fun i k c hi ho => ?_, h5⟩
    obtain ⟨b, cap, g1, g2⟩ := h4 i k c hi ho
    exact ⟨b, cap, g1, g2.same (hf b ((mem_kidBlocks h2 h3).2 ⟨i, _, g1, ho, rfl⟩))⟩
  | pool l => exact ⟨hs.1, fun x hx => (hs.2 x hx).same fun b hb => hf b (List.mem_filterMap.2 ⟨x, hx, hb⟩)⟩
  | iter u n seen => obtain ⟨h1, h2, m, h3, h4⟩ := hs; exact ⟨h1, h2, m, h3, by rw [h (.inl trivial)]; exact h4⟩

theorem SatC.solid_or {β : Names} {w : World} {own : Bool} {r : Ref} {ch : Chunk} (hs : SatC β w own r ch) (h : solid r ch) : r.nil = false := by
  cases ch with
  | box tid cs => obtain ⟨_, _, _, _, h4, _⟩ := hs; exact h4
  | row tid c => exact h.1
  | cap p n => exact h.elim
  | mp l => exact hs.1
  | kids t l out => exact hs.1
  | pool l => exact h.elim
  | iter u n seen => exact hs.1

/-- Own blocks and others lie apart. -/
theorem SatH.blk_ne {p q : Nat} {own : Bool} {cp cq : Chunk} {rp rq : Ref} (h : SatH C β H w) (hp : (p, true, cp) ∈ H) (hq : (q, own, cq) ∈ H) (hne : q ≠ p) (hrp : β p = some rp) (hrq : β q = some rq) (hnp : rp.nil = false)
    (hs : solid rq cq ∨ (own = true ∧ rq.nil = false)) : rq.blk ≠ rp.blk := by
  obtain ⟨r1, e1, s1, l1⟩ := h.sat _ _ _ hp
  obtain ⟨r2, e2, s2, l2⟩ := h.sat _ _ _ hq
  rw [hrp] at e1; cases e1
  rw [hrq] at e2; cases e2
  have hnq : rq.nil = false := by
    rcases hs with hs | hs
    · exact s2.solid_or hs
    · exact hs.2
  cases own with
  | true => exact fun e => h.apart p q cp cq rp rq hp hq (Ne.symm hne) hrp hrq hnp hnq e.symm
  | false =>
    have hso : solid rq cq := by
      rcases hs with hs | hs
      · exact hs
      · cases hs.1
    have l2' := l2
    simp only [Lies, Bool.false_eq_true, if_false] at l2'
    obtain ⟨h1, h2⟩ := l2' hso
    simp only [Lies, if_true] at l1
    obtain ⟨h3, h4⟩ := l1 hnp
    intro e
    rcases h4 with h4 | h4
    · omega
    · exact h2 (e ▸ h4)

/-- One own block is given other contents. -/
theorem SatH.put {p : Nat} {ch ch' : Chunk} {r : Ref} (h : SatH C β H w) (hp : (p, true, ch) ∈ H) (hr : β p = some r) (hn : r.nil = false) {w' : World} (hos : w'.os = w.os) (htape : w'.tape = w.tape) (hout : w'.output = w.output)
    (hsize : w'.heap.size = w.heap.size) (hblk : ∀ k, k ≠ r.blk → w'.heap[k]? = w.heap[k]?) (hs : SatC β w' true r ch') (hf : footC w' r ch' = []) (hdr : w.drawn ≤ w'.drawn := by first | exact Nat.le_refl _ | exact Nat.le_succ _ | assumption | (simp only [setCells_drawn]; exact Nat.le_refl _) | (simp; done)) : SatH C β (setC p ch' H) w' := by
  obtain ⟨r1, e1, s1, l1⟩ := h.sat _ _ _ hp
  rw [hr] at e1; cases e1
  simp only [Lies, if_true] at l1
  obtain ⟨hlt, hlies⟩ := l1 hn
  have hkne : ∀ {q o c rq k}, (q, o, c) ∈ H → β q = some rq → k ∈ footC w rq c → k ≠ r.blk := fun {q o c rq k} hq hrq hk e => (h.kid _ _ _ _ _ hq hrq hk).2.2.2.1 _ _ _ hp hr hn e.symm
  have hfoot : ∀ {q o c rq}, (q, o, c) ∈ H → q ≠ p → β q = some rq → footC w' rq c = footC w rq c := fun {q o c rq} hq hqp hrq => foot_stay fun hso => hblk _ (h.blk_ne hp hq hqp hr hrq hn (.inl hso))
  refine ⟨⟨hos.trans h.fr.os, htape.trans h.fr.tape, hout.trans h.fr.output, by rw [hsize]; exact h.fr.size, fun k hk hx => ?_, Nat.le_trans h.fr.drawn hdr⟩, h.xs, fun q own c hq => ?_, fun q o c o' c' hq hq' => ?_, fun q q' c c' rq rq' hq hq' hne hrq hrq' hnq hnq' => ?_, fun q o c rq k hq hrq hk => ?_⟩
  · rw [hblk k (fun e => ?_)]
    · exact h.fr.block k hk hx
    · rcases hlies with hl | hl
      · omega
      · exact hx (e ▸ hl)
  · rcases mem_setC hq with ⟨h1, h2⟩ | ⟨h1, h2, c2, h3⟩
    · obtain ⟨r2, e2, s2, l2⟩ := h.sat _ _ _ h2
      refine ⟨r2, e2, SatC_same (Le.refl _) (fun hso => hblk _ (h.blk_ne hp h2 h1 hr e2 hn hso)) (fun k hk => hblk _ (hkne h2 e2 hk)) s2, ?_⟩
      unfold Lies at l2 ⊢
      split
      · rename_i ho; simp only [ho, if_true] at l2; exact fun hn => by rw [hsize]; exact l2 hn
      · rename_i ho; simp only [ho, Bool.false_eq_true, if_false] at l2; exact l2
    · subst h1; subst h2
      have ho : own = true := h.uniq _ _ _ _ _ h3 hp
      subst ho
      exact ⟨r, hr, hs, by simp only [Lies, if_true]; exact fun _ => ⟨by rw [hsize]; exact hlt, hlies⟩⟩
  · have g : ∀ {q o c}, (q, o, c) ∈ setC p ch' H → ∃ c', (q, o, c') ∈ H := fun {q o c} hq => by
      rcases mem_setC hq with ⟨_, h2⟩ | ⟨_, _, c2, h3⟩
      · exact ⟨_, h2⟩
      · exact ⟨_, h3⟩
    obtain ⟨c1, g1⟩ := g hq
    obtain ⟨c2, g2⟩ := g hq'
    exact h.uniq _ _ _ _ _ g1 g2
  · have g : ∀ {q c}, (q, true, c) ∈ setC p ch' H → ∃ c', (q, true, c') ∈ H := fun {q c} hq => by
      rcases mem_setC hq with ⟨_, h2⟩ | ⟨_, _, c2, h3⟩
      · exact ⟨_, h2⟩
      · exact ⟨_, h3⟩
    obtain ⟨c1, g1⟩ := g hq
    obtain ⟨c2, g2⟩ := g hq'
    exact h.apart q q' c1 c2 rq rq' g1 g2 hne hrq hrq' hnq hnq'
  · rcases mem_setC hq with ⟨h1, h2⟩ | ⟨h1, h2, c2, h3⟩
    · rw [hfoot h2 h1 hrq] at hk
      obtain ⟨a1, a2, a3, a4, a5⟩ := h.kid _ _ _ _ _ h2 hrq hk
      refine ⟨a1, by rw [hsize]; exact a2, a3, fun q' cq rq' hq' hrq' hnq' => ?_, fun q' o' cq rq' hq' hne hrq' hk' => ?_⟩
      · rcases mem_setC hq' with ⟨_, h5⟩ | ⟨h4, _, c5, h5⟩
        · exact a4 _ _ _ h5 hrq' hnq'
        · exact a4 _ _ _ h5 hrq' hnq'
      · rcases mem_setC hq' with ⟨h4, h5⟩ | ⟨h4, h6, c5, h5⟩
        · rw [hfoot h5 h4 hrq'] at hk'
          exact a5 _ _ _ _ h5 hne hrq' hk'
        · subst h4; subst h6
          rw [hr] at hrq'; cases hrq'
          rw [hf] at hk'; cases hk'
    · subst h1; subst h2
      rw [hr] at hrq; cases hrq
      rw [hf] at hk; cases hk


def ext (β : Names) (p : Nat) (r : Ref) : Names := fun q => if q = p then some r else β q
theorem ext_le {p : Nat} {r : Ref} (h : β p = none) : Le β (ext β p r) := fun q s hq => by
  unfold ext
  split
  · rename_i e; subst e; rw [h] at hq; cases hq
  · exact hq
theorem ext_self (β : Names) (p : Nat) (r : Ref) : ext β p r p = some r := by simp [ext]

/-- The world moves on: old blocks stay, new ones may come. -/
theorem SatH.grow (h : SatH C β H w) {β' : Names} (hle : Le β β') {w' : World} (hos : w'.os = w.os) (htape : w'.tape = w.tape) (hout : w'.output = w.output)
    (hsize : w.heap.size ≤ w'.heap.size) (hblk : ∀ k, k < w.heap.size → w'.heap[k]? = w.heap[k]?) (hdr : w.drawn ≤ w'.drawn := by first | exact Nat.le_refl _ | exact Nat.le_succ _ | assumption | (simp only [setCells_drawn]; exact Nat.le_refl _) | (simp; done)) : SatH C β' H w' := by
  have hfoot : ∀ {q o c r}, (q, o, c) ∈ H → β q = some r → footC w' r c = footC w r c := fun {q o c r} hq e => by
    obtain ⟨r2, e2, s, l⟩ := h.sat _ _ _ hq
    rw [e] at e2; cases e2
    refine foot_stay fun hso => hblk _ ?_
    unfold Lies at l
    cases o with
    | true => simp only [if_true] at l; exact (l (s.solid_or hso)).1
    | false => simp only [Bool.false_eq_true, if_false] at l; exact Nat.lt_of_lt_of_le (l hso).1 h.fr.size
  have hback : ∀ {q o c r}, (q, o, c) ∈ H → β' q = some r → β q = some r := fun {q o c r} hq e => by
    obtain ⟨r2, e2, _⟩ := h.sat _ _ _ hq
    have := hle _ _ e2; rw [e] at this; cases this; exact e2
  refine ⟨⟨hos.trans h.fr.os, htape.trans h.fr.tape, hout.trans h.fr.output, Nat.le_trans h.fr.size hsize, fun k hk hx => ?_, Nat.le_trans h.fr.drawn hdr⟩, h.xs, fun q own c hq => ?_, h.uniq, fun q q' c c' rq rq' hq hq' hne hrq hrq' hnq hnq' => ?_, fun q o c r k hq hr hk => ?_⟩
  · rw [hblk k (Nat.lt_of_lt_of_le hk h.fr.size)]
    exact h.fr.block k hk hx
  · obtain ⟨r, e, s, l⟩ := h.sat _ _ _ hq
    refine ⟨r, hle _ _ e, SatC_same hle (fun hso => hblk _ ?_) (fun k hk => hblk _ (h.kid _ _ _ _ _ hq e hk).2.1) s, ?_⟩
    · unfold Lies at l
      cases own with
      | true =>
        have hn : r.nil = false := by
          rcases hso with hs | hs
          · exact s.solid_or hs
          · exact hs.2
        simp only [if_true] at l; exact (l hn).1
      | false =>
        rcases hso with hs | hs
        · simp only [Bool.false_eq_true, if_false] at l; exact Nat.lt_of_lt_of_le (l hs).1 h.fr.size
        · cases hs.1
    · unfold Lies at l ⊢
      split
      · rename_i ho; simp only [ho, if_true] at l; exact fun hn => ⟨Nat.lt_of_lt_of_le (l hn).1 hsize, (l hn).2⟩
      · rename_i ho; simp only [ho, Bool.false_eq_true, if_false] at l; exact l
  · obtain ⟨r1, e1, _⟩ := h.sat _ _ _ hq
    obtain ⟨r2, e2, _⟩ := h.sat _ _ _ hq'
    have := hle _ _ e1; rw [hrq] at this; cases this
    have := hle _ _ e2; rw [hrq'] at this; cases this
    exact h.apart q q' c c' _ _ hq hq' hne e1 e2 hnq hnq'
  · have e := hback hq hr
    rw [hfoot hq e] at hk
    obtain ⟨a1, a2, a3, a4, a5⟩ := h.kid _ _ _ _ _ hq e hk
    refine ⟨a1, Nat.lt_of_lt_of_le a2 hsize, a3, fun q' cq rq' hq' hrq' hnq' => a4 _ _ _ hq' (hback hq' hrq') hnq', fun q' o' cq rq' hq' hne hrq' hk' => ?_⟩
    have e' := hback hq' hrq'
    rw [hfoot hq' e'] at hk'
    exact a5 _ _ _ _ hq' hne e' hk'

/-- A new own chunk, in a block beyond. -/
theorem SatH.cons {p : Nat} {ch : Chunk} {r : Ref} {wo : World} (h : SatH C β H w) (hp : β p = none) (hs : SatC (ext β p r) w true r ch) (hold : SatH C β H wo) (hb : wo.heap.size ≤ r.blk) (hlt : r.blk < w.heap.size ∨ r.nil = true) (hbb : ∀ k, k < wo.heap.size → w.heap[k]? = wo.heap[k]?) (hf : footC w r ch = []) : SatH C (ext β p r) ((p, true, ch) :: H) w := by
  have hne : ∀ {q o c}, (q, o, c) ∈ H → q ≠ p := fun {q o c} hq e => by
    obtain ⟨r2, e2, _⟩ := h.sat _ _ _ hq
    rw [e, hp] at e2; cases e2
  have hself := ext_self β p r
  have hext : ∀ {q}, q ≠ p → ext β p r q = β q := fun {q} hq => by simp [ext, hq]
  refine ⟨h.fr, h.xs, fun q own c hq => ?_, fun q o c o' c' hq hq' => ?_, fun q q' c c' rq rq' hq hq' hneq hrq hrq' hnq hnq' => ?_, fun q o c rq k hq hrq hk => ?_⟩
  · rcases List.mem_cons.1 hq with e | hq
    · cases e
      refine ⟨r, hself, hs, ?_⟩
      simp only [Lies, if_true]
      exact fun hn => ⟨hlt.resolve_right (by simp [hn]), .inl (Nat.le_trans hold.fr.size hb)⟩
    · obtain ⟨r2, e2, s2, l2⟩ := h.sat _ _ _ hq
      exact ⟨r2, by rw [hext (hne hq)]; exact e2, SatC_same (ext_le hp) (fun _ => rfl) (fun _ _ => rfl) s2, l2⟩
  · rcases List.mem_cons.1 hq with e | hq <;> rcases List.mem_cons.1 hq' with e' | hq'
    · cases e; cases e'; rfl
    · cases e; exact absurd rfl (hne hq')
    · cases e'; exact absurd rfl (hne hq)
    · exact h.uniq _ _ _ _ _ hq hq'
  · have key : ∀ {q c rq}, (q, true, c) ∈ H → β q = some rq → rq.nil = false → rq.blk < wo.heap.size := fun {q c rq} hq hrq hnq => by
      obtain ⟨r2, e2, _, l2⟩ := hold.sat _ _ _ hq
      rw [hrq] at e2; cases e2
      simp only [Lies, if_true] at l2; exact (l2 hnq).1
    rcases List.mem_cons.1 hq with e | hq <;> rcases List.mem_cons.1 hq' with e' | hq'
    · cases e; cases e'; exact absurd rfl hneq
    · cases e
      rw [hself] at hrq; cases hrq
      rw [hext (hne hq')] at hrq'
      have := key hq' hrq' hnq'
      omega
    · cases e'
      rw [hself] at hrq'; cases hrq'
      rw [hext (hne hq)] at hrq
      have := key hq hrq hnq
      omega
    · rw [hext (hne hq)] at hrq; rw [hext (hne hq')] at hrq'
      exact h.apart q q' c c' _ _ hq hq' hneq hrq hrq' hnq hnq'
  · rcases List.mem_cons.1 hq with e | hq
    · cases e
      rw [hself] at hrq; cases hrq
      rw [hf] at hk; cases hk
    · rw [hext (hne hq)] at hrq
      obtain ⟨a1, a2, a3, a4, a5⟩ := h.kid _ _ _ _ _ hq hrq hk
      have hko : k < wo.heap.size := by
        obtain ⟨r2, e2, s2, l2⟩ := hold.sat _ _ _ hq
        rw [hrq] at e2; cases e2
        subst a1
        simp only [Lies, if_true] at l2
        rw [foot_stay fun hso => hbb _ (l2 (s2.solid_or hso)).1] at hk
        exact (hold.kid _ _ _ _ _ hq hrq hk).2.1
      refine ⟨a1, a2, a3, fun q' cq rq' hq' hrq' hnq' => ?_, fun q' o' cq rq' hq' hne' hrq' hk' => ?_⟩
      · rcases List.mem_cons.1 hq' with e | hq'
        · cases e
          rw [hself] at hrq'; cases hrq'
          omega
        · rw [hext (hne hq')] at hrq'
          exact a4 _ _ _ hq' hrq' hnq'
      · rcases List.mem_cons.1 hq' with e | hq'
        · cases e
          rw [hself] at hrq'; cases hrq'
          rw [hf] at hk'; cases hk'
        · rw [hext (hne hq')] at hrq'
          exact a5 _ _ _ _ hq' hne' hrq' hk'

end
end E
end Go.Proofs.Ytlkchnfgeedghaa
