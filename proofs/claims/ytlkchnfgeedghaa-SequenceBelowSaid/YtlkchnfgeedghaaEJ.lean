/- max, and maps whose keys are structs of numbers, in the executor. It states nothing about the program. -/
import Derived.Test.YtlkchnfgeedghaaEI
import Derived.MapKept
namespace Go.Proofs.Ytlkchnfgeedghaa
namespace E
open Go

section
variable {C : Cx} {T : Tys} {o : Oper} {S : St} {K : SV → St → Prop}

theorem max_rule {cl : Call} {x y : Operand} {k : IntKind} {a b : Int} (ho : o.op = .call cl) (hc : cl.callee = .builtin .max) (ha : cl.args.toList = [x, y]) (hx : S.ev x = .v (.int k a)) (hy : S.ev y = .v (.int k b))
    (hK : K (.v (.int k (max a b))) S) : OpP C o S K := by
  refine val_rule fun β ac w hs => ?_
  have hargs : cl.args = #[x, y] := by rw [← Array.toArray_toList (xs := cl.args), ha]
  have h1 := hs.ev x
  have h2 := hs.ev y
  rw [hx] at h1
  rw [hy] at h2
  obtain h1 : ac.eval x = _ := h1
  obtain h2 : ac.eval y = _ := h2
  refine ⟨.int k (max a b), .v (.int k (max a b)), ?_, rfl, hK⟩
  unfold execOp
  rw [ho]
  simp only [resolve, hc, hargs, invoke, builtin, List.map_toArray, List.map_cons, List.map_nil, Builtin.max_, h1, h2]
  have : (if b > a then b else a) = max a b := by rw [Int.max_def]; split <;> split <;> omega
  simp [Builtin.max2, this]
end

/-! maps with keys of numbers -/
structure KeyOK (P : Program) (kt : TypeId) (n : Nat) : Prop where
  und : ∃ a, P.underlying kt = some (.struct a)
  eq : ∀ a b : List Int, a.length = n → b.length = n → ∀ w, (Op.equal kt (keyV a) (keyV b)).run P w = .ok (decide (a = b)) w
  chk : ∀ a : List Int, a.length = n → ∀ e w, (Instr.checkKey e 10000 kt (keyV a)).run P w = .ok () w

def idxK {α : Type} (l : List (List Int × α)) (k : List Int) : Option Nat := l.findIdx? fun x => decide (x.1 = k)

theorem run_asking {P : Program} {kt : TypeId} {n : Nat} (hk : KeyOK P kt n) {k : List Int} (hkn : k.length = n) (w : World) : ∀ (E : List MapEntry) (ks : List (List Int)) (i : Nat), E.map MapEntry.key = ks.map keyV → (∀ x ∈ ks, x.length = n) →
    (Instr.findAsking kt (keyV k) E i).run P w = .ok ((ks.findIdx? fun x => decide (x = k)).bind fun j => (E[j]?).map fun e => (i + j, e.val)) w
  | [], [], i, _, _ => rfl
  | [], _ :: _, i, h, _ => by simp at h
  | _ :: _, [], i, h, _ => by simp at h
  | e :: E, x :: ks, i, h, hn => by
    simp only [List.map_cons, List.cons.injEq] at h
    rw [Instr.findAsking, Sem.run_bind, h.1, hk.eq k x hkn (hn x List.mem_cons_self)]
    simp only [Result.andThen_ok]
    by_cases c : k = x
    · subst c
      simp [List.findIdx?_cons]
    · have c' : ¬ x = k := fun h => c h.symm
      rw [decide_eq_false c, if_neg (by simp), run_asking hk hkn w E ks (i + 1) h.2 (fun y hy => hn y (List.mem_cons_of_mem _ hy)), List.findIdx?_cons]
      simp only [c', decide_false, Bool.false_eq_true, if_false]
      cases ks.findIdx? (fun x => decide (x = k)) with
      | none => rfl
      | some j => simp [Nat.add_comm, Nat.add_left_comm]

theorem run_find {P : Program} {kt : TypeId} {n : Nat} (hk : KeyOK P kt n) {k : List Int} (hkn : k.length = n) (w : World) {E : List MapEntry} {ks : List (List Int)} (h : E.map MapEntry.key = ks.map keyV) (hn : ∀ x ∈ ks, x.length = n) :
    (Instr.findKey kt (keyV k) E).run P w = .ok ((ks.findIdx? fun x => decide (x = k)).bind fun j => (E[j]?).map fun e => (j, e.val)) w := by
  obtain ⟨a, ha⟩ := hk.und
  unfold Instr.findKey
  rw [Sem.run_bind, run_underlying ha]
  simp only [Result.andThen_ok]
  cases E with
  | nil =>
    cases ks with
    | nil => simp [Instr.findNow]
    | cons _ _ => simp at h
  | cons e E =>
    have : Instr.findNow (.struct a) (keyV k) (e :: E) 0 = none := rfl
    rw [this]
    simp only
    rw [run_asking hk hkn w _ ks 0 h hn]
    simp

/-- What a map holds, by its entries. -/
theorem MapAt.keys {w : World} {b : Nat} {α : Type} {l : List (List Int × α)} {f : List Int × α → Value} (h : MapAt w b (l.map fun x => (keyV x.1, f x))) :
    ∃ es : Array MapEntry, w.heap[b]? = some (.map es es.size) ∧ es.toList.map MapEntry.key = (l.map Prod.fst).map keyV ∧ (∀ i : Nat, (es.toList[i]?).map MapEntry.val = (l[i]?).map f) ∧ es.size = l.length ∧ (∀ (i : Nat) (e : MapEntry), es[i]? = some e → e.born = i) := by
  obtain ⟨es, h1, h2, h3⟩ := h
  refine ⟨es, h1, ?_, fun i => ?_, ?_, h3⟩
  · have := congrArg (List.map Prod.fst) h2
    simpa only [List.map_map, Function.comp_def] using this
  · have := congrArg (fun l => (l[i]?).map Prod.snd) h2
    simp only [List.getElem?_map, Option.map_map] at this
    have e1 : (es.toList[i]?).map MapEntry.val = (es.toList[i]?).map (Prod.snd ∘ fun e => (e.key, e.val)) := rfl
    have e2 : (l[i]?).map f = (l[i]?).map (Prod.snd ∘ fun x => (keyV x.1, f x)) := rfl
    rw [e1, e2]; exact this
  · have := congrArg List.length h2
    simpa using this

theorem idxK_keys {α : Type} (l : List (List Int × α)) (k : List Int) : (l.map Prod.fst).findIdx? (fun x => decide (x = k)) = idxK l k := by
  rw [List.findIdx?_map]; rfl
theorem idxK_lt {α : Type} {l : List (List Int × α)} {k : List Int} {j : Nat} (h : idxK l k = some j) : j < l.length := by
  unfold idxK at h; rw [List.findIdx?_eq_some_iff_getElem] at h; exact h.1
theorem idxK_key {α : Type} {l : List (List Int × α)} {k : List Int} {j : Nat} (h : idxK l k = some j) (hj : j < l.length) : l[j].1 = k := by
  unfold idxK at h; rw [List.findIdx?_eq_some_iff_getElem] at h; obtain ⟨_, h, _⟩ := h; simpa using h

/-- What a plain map answers. -/
def lookK (l : List (List Int × Value)) (k : List Int) (z : Value) : Value :=
  match l.find? (fun x => decide (x.1 = k)) with
  | some x => x.2
  | none => z
/-- A plain map with a key set. -/
def setK (l : List (List Int × Value)) (k : List Int) (v : Value) : List (List Int × Value) :=
  match idxK l k with
  | some j => l.set j (k, v)
  | none => l ++ [(k, v)]
theorem lookK_idx (l : List (List Int × Value)) (k : List Int) (z : Value) : lookK l k z = match idxK l k with | some j => (l.getD j ([], z)).2 | none => z := by
  unfold lookK idxK
  induction l with
  | nil => rfl
  | cons x l ih =>
    rw [List.find?_cons, List.findIdx?_cons]
    by_cases e : x.1 = k
    · simp [e]
    · simp only [e, decide_false, Bool.false_eq_true, if_false]
      rw [ih]
      cases l.findIdx? (fun x => decide (x.1 = k)) with
      | none => rfl
      | some j => simp

section
variable {C : Cx} {T : Tys} {o : Oper} {S : St} {K : SV → St → Prop}

theorem makeMap_rule {t : TypeId} (ho : o.op = .makeMap t none) (hK : K (.mp S.nx) { S with H := (S.nx, true, .mp []) :: S.H, nx := S.nx + 1 }) : OpP C o S K := by
  refine ⟨fun β a w hs next Q hn => ?_⟩
  have hno : β S.nx = none := hs.names _ (Nat.le_refl _)
  have hrun : (execOp a.eval o).run C.P w = .ok (.value (.map (some w.heap.size))) (w.alloc (.map #[] 0)) := by
    unfold execOp
    rw [ho]
    simp [Instr.makeMap, run_newObj]
  have hg : SatH C β S.H (w.alloc (.map #[] 0)) := hs.heap.grow (Le.refl _) rfl rfl rfl (by simp) (fun k hk => Go.RowKit.Below.heap_alloc w _ k hk)
  refine wp_value hrun (hn (ext β S.nx ⟨w.heap.size, 0, false, 0, 0, 1⟩) (.mp S.nx) _ _ _ (hs.newName (hg.cons hno ?_ hs.heap (Nat.le_refl _) (.inl (by simp)) (fun k hk => Go.RowKit.Below.heap_alloc w _ k hk) rfl)) ⟨_, ext_self _ _ _, rfl⟩ hK)
  exact ⟨rfl, #[], heap_new _ _, rfl, fun i e h => by simp at h⟩

theorem lookup_val {β : Names} {a : Act} {w : World} (hs : Sat C β S a w) (hT : TysOK C.P T) {t kt vt p n : Nat} {m k : Operand} {l : List (List Int × Value)} {ks : List Int} {z : Value} (ho : o.op = .lookup t m k false) (ht : (T t).map TI.k = some (.map kt vt)) (hz : (C.P.info? vt).map (·.zero) = some (some z))
    (hkey : KeyOK C.P kt n) (hm : S.ev m = .mp p) (hk : S.ev k = .agg (ks.map fun i => .v (.int .i64 i))) (hkn : ks.length = n) (hg : get p S.H = some (true, .mp l)) (hln : ∀ x ∈ l, x.1.length = n) : (execOp a.eval o).run C.P w = .ok (.value (lookK l ks z)) w := by
  have h1 := hs.ev m
  have h2 := hs.ev k
  rw [hm] at h1
  rw [hk] at h2
  obtain ⟨r, hr, h1⟩ := h1
  have h2 : a.eval k = keyV ks := by
    obtain ⟨us, h2, hl, hrel, _⟩ := h2
    rw [h2, keyV]
    congr 2
    refine List.ext_getElem (by simpa using hl) fun i h3 h4 => ?_
    obtain ⟨y, e1, e2⟩ := hrel i (.v (.int .i64 (ks[i]'(by simpa using h4)))) (by simp at h4; simp [h4])
    rw [List.getElem?_eq_getElem h3] at e1
    cases e1
    have e2 : us[i] = _ := e2
    rw [e2]; simp
  obtain ⟨r', hr', hsat, _⟩ := hs.chunk hg
  rw [hr] at hr'; cases hr'
  obtain ⟨_, hmap⟩ := hsat
  obtain ⟨es, e1, e2, e3, e4, e5⟩ := MapAt.keys (f := fun x => x.2) hmap
  obtain ⟨ti, hti, hki⟩ : ∃ i, T t = some i ∧ i.k = .map kt vt := by simpa [Option.map_eq_some_iff] using ht
  obtain ⟨d, hd, hd'⟩ := (hT t ti hti).kind
  rw [hki] at hd'
  obtain rfl : d = .map kt vt := hd'
  have hf := run_find hkey hkn w (E := es.toList) (ks := l.map Prod.fst) e2 (fun x hx => by obtain ⟨y, hy, rfl⟩ := List.mem_map.1 hx; exact hln y hy)
  rw [idxK_keys] at hf
  unfold execOp
  rw [ho]
  simp only [h1, h2]
  simp only [Instr.lookup, Sem.run_bind, run_underlying hd, MapKept.run_getObj_map e1, Result.andThen_ok, Sem.run_pure, hkey.chk ks hkn, hf]
  rw [lookK_idx]
  cases hi : idxK l ks with
  | none => simp [run_zeroValue' hz]
  | some j =>
    have hj := idxK_lt hi
    have := e3 j
    rw [List.getElem?_eq_getElem (by simp; omega), List.getElem?_eq_getElem hj] at this
    simp only [Option.map_some, Option.some.injEq] at this
    simp [List.getD, hj, ← this, e4]

theorem lookup_rule (hT : TysOK C.P T) {t kt vt p n : Nat} {m k : Operand} {l : List (List Int × Value)} {ks : List Int} {z : Value} (ho : o.op = .lookup t m k false) (ht : (T t).map TI.k = some (.map kt vt)) (hz : (C.P.info? vt).map (·.zero) = some (some z))
    (hkey : KeyOK C.P kt n) (hm : S.ev m = .mp p) (hk : S.ev k = .agg (ks.map fun i => .v (.int .i64 i))) (hkn : ks.length = n) (hg : get p S.H = some (true, .mp l)) (hln : ∀ x ∈ l, x.1.length = n)
    (hK : K (.v (lookK l ks z)) S) : OpP C o S K :=
  val_rule fun β a w hs => ⟨lookK l ks z, .v (lookK l ks z), lookup_val hs hT ho ht hz hkey hm hk hkn hg hln, rfl, hK⟩

theorem sameBits_key (k : List Int) : Instr.sameBits 10000 (keyV k) (keyV k) = true := by
  show ((k.map (Value.int .i64)).toArray.size == (k.map (Value.int .i64)).toArray.size && ((k.map (Value.int .i64)).toArray.toList.zip (k.map (Value.int .i64)).toArray.toList).all fun (x, y) => Instr.sameBits 9999 x y) = true
  rw [Bool.and_eq_true]
  refine ⟨by simp, ?_⟩
  simp only [List.toList_toArray]
  induction k with
  | nil => rfl
  | cons x k ih =>
    simp only [List.map_cons, List.zip_cons_cons, List.all_cons, ih, Bool.and_true]
    simp [Instr.sameBits]
theorem run_stays {P : Program} (k : List Int) (w : World) : (Instr.keyThatStays (keyV k) (keyV k)).run P w = .ok (keyV k) w := by
  unfold Instr.keyThatStays
  rw [if_pos (sameBits_key k)]; rfl

theorem toList_modify' {α : Type} (es : Array α) (j : Nat) (f : α → α) : ∀ i : Nat, (es.modify j f)[i]? = if i = j then (es[i]?).map f else es[i]? := fun i => by
  rw [Array.getElem?_modify]
  by_cases e : j = i
  · subst e; simp
  · have : ¬ i = j := fun h => e h.symm
    simp [e, this]

/-- The arguments of a map operation. -/
theorem key_val {β : Names} {S : St} {a : Act} {w : World} (hs : Sat C β S a w) {k : Operand} {ks : List Int} (hk : S.ev k = .agg (ks.map fun i => .v (.int .i64 i))) : a.eval k = keyV ks := by
  have h2 := hs.ev k
  rw [hk] at h2
  obtain ⟨us, h2, hl, hrel, _⟩ := h2
  rw [h2, keyV]
  congr 2
  refine List.ext_getElem (by simpa using hl) fun i h3 h4 => ?_
  obtain ⟨y, e1, e2⟩ := hrel i (.v (.int .i64 (ks[i]'(by simpa using h4)))) (by simp at h4; simp [h4])
  rw [List.getElem?_eq_getElem h3] at e1
  cases e1
  have e2 : us[i] = _ := e2
  rw [e2]; simp

theorem update_any (hT : TysOK C.P T) {t kt vt p n : Nat} {m k x : Operand} {l : List (List Int × Value)} {ks : List Int} {v : Value} (ho : o.op = .mapUpdate t m k x ∨ o.op = .insert t m k x) (hd' : (T t).map TI.k = some (.map kt vt))
    (hkey : KeyOK C.P kt n) (hm : S.ev m = .mp p) (hk : S.ev k = .agg (ks.map fun i => .v (.int .i64 i))) (hkn : ks.length = n) (hx : S.ev x = .v v) (hg : get p S.H = some (true, .mp l)) (hln : ∀ x ∈ l, x.1.length = n)
    (hK : K .junk { S with H := setC p (.mp (setK l ks v)) S.H }) : OpP C o S K := by
  refine ⟨fun β a w hs next Q hn => ?_⟩
  have h1 := hs.ev m
  rw [hm] at h1
  obtain ⟨r, hr, h1⟩ := h1
  have h2 := key_val hs hk
  have h3 := hs.ev x
  rw [hx] at h3
  obtain h3 : a.eval x = v := h3
  obtain ⟨r', hr', hsat, _⟩ := hs.chunk hg
  rw [hr] at hr'; cases hr'
  obtain ⟨hnil, hmap⟩ := hsat
  obtain ⟨es, e1, e2, e3, e4, e5⟩ := MapAt.keys (f := fun x => x.2) hmap
  obtain ⟨ti, hti, hki⟩ : ∃ i, T t = some i ∧ i.k = .map kt vt := by simpa [Option.map_eq_some_iff] using hd'
  obtain ⟨d, hd, hdk⟩ := (hT t ti hti).kind
  rw [hki] at hdk
  obtain rfl : d = .map kt vt := hdk
  have hf := run_find hkey hkn w (E := es.toList) (ks := l.map Prod.fst) e2 (fun x hx => by obtain ⟨y, hy, rfl⟩ := List.mem_map.1 hx; exact hln y hy)
  rw [idxK_keys] at hf
  obtain ⟨es', hrun, hmap'⟩ : ∃ es', (execOp a.eval o).run C.P w = .ok .skip { w with heap := w.heap.setIfInBounds r.blk (.map es' es'.size) } ∧
      (es'.toList.map (fun e => (e.key, e.val)) = (setK l ks v).map fun x => (keyV x.1, x.2)) ∧ ∀ (i : Nat) (e : MapEntry), es'[i]? = some e → e.born = i := by
    cases hi : idxK l ks with
    | none =>
      rw [hi] at hf
      refine ⟨es.push { key := keyV ks, val := v, born := es.size }, ?_, ?_, fun i e he => ?_⟩
      · rcases ho with ho | ho <;>
        · unfold execOp
          rw [ho]
          simp only [h1, h2, h3, Instr.mapUpdate, Sem.run_bind, run_underlying hd, MapKept.run_getObj_map e1, Result.andThen_ok, hkey.chk ks hkn, hf, Option.bind_none, MapKept.run_setObj_map _ e1, Sem.run_pure, Array.size_push]
      · obtain ⟨es0, g1, g2, _⟩ := hmap
        rw [e1] at g1
        cases g1
        simp only [Array.toList_push, List.map_append, g2, setK, hi, List.map_cons, List.map_nil]
      · rw [Array.getElem?_push] at he
        split at he
        · cases he; simp only; omega
        · exact e5 i e he
    | some j =>
      have hj := idxK_lt hi
      have hjs : j < es.size := by omega
      rw [hi] at hf
      have hkj : es[j].key = keyV ks := by
        have := congrArg (fun l => l[j]?) e2
        simp [hjs, hj] at this
        rw [this, idxK_key hi hj]
      refine ⟨es.modify j (fun e => { e with key := keyV ks, val := v }), ?_, ?_, fun i e he => ?_⟩
      · have hfj : (es.toList[j]?).map (fun e => (j, e.val)) = some (j, es[j].val) := by simp [hjs]
        have hgj : (es[j]?).map MapEntry.key = some (keyV ks) := by simp [hjs, hkj]
        rw [Option.bind_some, hfj] at hf
        rcases ho with ho | ho <;>
        · unfold execOp
          rw [ho]
          simp only [h1, h2, h3, Instr.mapUpdate, Sem.run_bind, run_underlying hd, MapKept.run_getObj_map e1, Result.andThen_ok, hkey.chk ks hkn, hf, hgj, Option.getD_some, run_stays, MapKept.run_setObj_map _ e1, Sem.run_pure, Array.size_modify]
      · obtain ⟨es0, g1, g2, _⟩ := hmap
        rw [e1] at g1
        cases g1
        refine List.ext_getElem? fun i => ?_
        have g3 := congrArg (fun l => l[i]?) g2
        simp only [List.getElem?_map, Array.getElem?_toList] at g3 ⊢
        rw [toList_modify', setK, hi]
        simp only
        by_cases e : i = j
        · subst e
          simp [hjs, hj]
        · have e' : ¬ j = i := fun h => e h.symm
          simp only [if_neg e, List.getElem?_set, if_neg e']
          exact g3
      · rw [toList_modify'] at he
        split at he
        · rename_i e0
          subst e0
          rw [Array.getElem?_eq_getElem hjs] at he
          cases he
          show es[i].born = i
          exact e5 i _ (Array.getElem?_eq_getElem hjs)
        · exact e5 i e he
  have hset := MapKept.heap_set (o' := .map es' es'.size) e1
  refine wp_none hrun (hn β .junk _ { S with H := setC p (.mp (setK l ks v)) S.H } _ ⟨hs.heap.put (get_mem hg) hr hnil rfl rfl rfl (by simp) (fun k hk => hset.2 k hk) ⟨hnil, es', hset.1, hmap'.1, hmap'.2⟩ rfl, hs.base, hs.bk, hs.names, hs.defers, hs.size, hs.ts⟩ trivial hK)
theorem update_rule (hT : TysOK C.P T) {t kt vt p n : Nat} {m k x : Operand} {l : List (List Int × Value)} {ks : List Int} {v : Value} (ho : o.op = .mapUpdate t m k x) (hd' : (T t).map TI.k = some (.map kt vt))
    (hkey : KeyOK C.P kt n) (hm : S.ev m = .mp p) (hk : S.ev k = .agg (ks.map fun i => .v (.int .i64 i))) (hkn : ks.length = n) (hx : S.ev x = .v v) (hg : get p S.H = some (true, .mp l)) (hln : ∀ x ∈ l, x.1.length = n)
    (hK : K .junk { S with H := setC p (.mp (setK l ks v)) S.H }) : OpP C o S K :=
  update_any hT (.inl ho) hd' hkey hm hk hkn hx hg hln hK
theorem insert_rule (hT : TysOK C.P T) {t kt vt p n : Nat} {m k x : Operand} {l : List (List Int × Value)} {ks : List Int} {v : Value} (ho : o.op = .insert t m k x) (hd' : (T t).map TI.k = some (.map kt vt))
    (hkey : KeyOK C.P kt n) (hm : S.ev m = .mp p) (hk : S.ev k = .agg (ks.map fun i => .v (.int .i64 i))) (hkn : ks.length = n) (hx : S.ev x = .v v) (hg : get p S.H = some (true, .mp l)) (hln : ∀ x ∈ l, x.1.length = n)
    (hK : K .junk { S with H := setC p (.mp (setK l ks v)) S.H }) : OpP C o S K :=
  update_any hT (.inr ho) hd' hkey hm hk hkn hx hg hln hK
end
end E
end Go.Proofs.Ytlkchnfgeedghaa
