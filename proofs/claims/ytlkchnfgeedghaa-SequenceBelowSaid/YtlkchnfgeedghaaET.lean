/- What is never changed again: own rows and maps put into a pool; maps read there and ranged over. It states nothing about the program. -/
import Derived.Test.YtlkchnfgeedghaaER
import Derived.Test.YtlkchnfgeedghaaEJ
import Derived.Laws.IdiomRangeMap
set_option linter.unusedVariables false
namespace Go.Proofs.Ytlkchnfgeedghaa
namespace E
open Go

section
variable {C : Cx} {T : Tys} {o : Oper} {S : St} {K : SV → St → Prop}

/-- S is as good as one of many states. -/
def EntA {α : Type} (C : Cx) (S : St) (p : α → Prop) (F : α → St) : Prop := ∀ β a w, Sat C β S a w → ∃ x, p x ∧ ∃ β', Sat C β' (F x) a w
theorem OpP.entA {α : Type} {p : α → Prop} {F : α → St} (he : EntA C S p F) (h : ∀ x, p x → OpP C o (F x) K) : OpP C o S K := by
  refine ⟨fun β a w hs next Q hn => ?_⟩
  obtain ⟨x, hx, β', hs'⟩ := he β a w hs
  exact (h x hx).out β' a w hs' next Q hn
theorem CodeP.entA {α : Type} {p : α → Prop} {F : α → St} {c : Code} {Q : Exit → St → Prop} (he : EntA C S p F) (h : ∀ x, p x → CodeP C c (F x) Q) : CodeP C c S Q := by
  refine ⟨fun β a w hs => ?_⟩
  obtain ⟨x, hx, β', hs'⟩ := he β a w hs
  exact (h x hx).out β' a w hs'
theorem OpP.ent {S' : St} (he : Ent C S S') (h : OpP C o S' K) : OpP C o S K := by
  refine ⟨fun β a w hs next Q hn => ?_⟩
  obtain ⟨β', hs'⟩ := he β a w hs
  exact h.out β' a w hs' next Q hn
theorem CodeP.ent {S' : St} {c : Code} {Q : Exit → St → Prop} (he : Ent C S S') (h : CodeP C c S' Q) : CodeP C c S Q := by
  refine ⟨fun β a w hs => ?_⟩
  obtain ⟨β', hs'⟩ := he β a w hs
  exact h.out β' a w hs'

/-- A pool may be had at any time. -/
theorem pool_ent : Ent C S { S with H := (S.nx, true, .pool []) :: S.H, nx := S.nx + 1 } := by
  intro β a w hs
  have hno : β S.nx = none := hs.names _ (Nat.le_refl _)
  exact ⟨ext β S.nx ⟨w.heap.size, 0, true, 0, 0, 0⟩, hs.newName (hs.heap.cons hno ⟨rfl, fun x hx => by simp at hx⟩ hs.heap (Nat.le_refl _) (.inr rfl) (fun _ _ => rfl) rfl)⟩

/-- An own block goes into the pool. -/
theorem SatH.freeze {β : Names} {H : Heap} {w : World} (h : SatH C β H w) {p q : Nat} {ch : Chunk} {fs : List (Value × Froz)} {r : Ref} {u : Value} {f : Froz} (hp : (p, true, ch) ∈ H) (hq : (q, true, .pool fs) ∈ H) (hpq : q ≠ p) (hr : β p = some r) (hu : ∀ b, blkOf u = some b → r.nil = false ∧ b = r.blk) (hf : FrozAt w u f) :
    SatH C β (setC q (.pool ((u, f) :: fs)) (delC p H)) w := by
  have hin : ∀ {x o c}, (x, o, c) ∈ setC q (.pool ((u, f) :: fs)) (delC p H) → x ≠ p ∧ ∃ c', (x, o, c') ∈ H := fun {x o c} hx => by
    rcases mem_setC hx with ⟨_, h2⟩ | ⟨_, _, c2, h3⟩
    · exact ⟨(mem_delC h2).1, _, (mem_delC h2).2⟩
    · exact ⟨(mem_delC h3).1, _, (mem_delC h3).2⟩
  obtain ⟨rq, eq, sq, lq⟩ := h.sat _ _ _ hq
  obtain ⟨rp, ep, sp, lp⟩ := h.sat _ _ _ hp
  rw [hr] at ep; cases ep
  have old : ∀ {x o c rx}, (x, o, c) ∈ setC q (.pool ((u, f) :: fs)) (delC p H) → β x = some rx → rx.nil = false → x ≠ q := fun {x o c rx} hx e hn he => by
    subst he
    rw [eq] at e; cases e
    rw [sq.1] at hn; cases hn
  -- the feet
  have foot : ∀ {x o c rx k}, (x, o, c) ∈ setC q (.pool ((u, f) :: fs)) (delC p H) → β x = some rx → k ∈ footC w rx c →
      (x = q ∧ blkOf u = some k) ∨ ∃ c', (x, o, c') ∈ H ∧ k ∈ footC w rx c' := fun {x o c rx k} hx e hk => by
    rcases mem_setC hx with ⟨_, h2⟩ | ⟨rfl, rfl, c2, h3⟩
    · exact .inr ⟨_, (mem_delC h2).2, hk⟩
    · obtain rfl : o = true := h.uniq _ _ _ _ _ (mem_delC h3).2 hq
      simp only [footC, List.filterMap_cons] at hk
      cases hb : blkOf u with
      | none => rw [hb] at hk; exact .inr ⟨_, hq, hk⟩
      | some b =>
        rw [hb] at hk
        rcases List.mem_cons.1 hk with rfl | hk
        · exact .inl ⟨rfl, rfl⟩
        · exact .inr ⟨_, hq, hk⟩
  refine ⟨h.fr, h.xs, fun x o c hx => ?_, fun x o c o' c' h1 h2 => ?_, fun x y cx cy rx ry hx hy hne hrx hry hnx hny => ?_, fun x o c rx k hx hrx hk => ?_⟩
  · rcases mem_setC hx with ⟨_, h2⟩ | ⟨rfl, rfl, c2, h3⟩
    · exact h.sat _ _ _ (mem_delC h2).2
    · obtain rfl : o = true := h.uniq _ _ _ _ _ (mem_delC h3).2 hq
      refine ⟨rq, eq, ⟨sq.1, fun y hy => ?_⟩, lq⟩
      rcases List.mem_cons.1 hy with rfl | hy
      · exact hf
      · exact sq.2 y hy
  · obtain ⟨_, c1, g1⟩ := hin h1
    obtain ⟨_, c2, g2⟩ := hin h2
    exact h.uniq _ _ _ _ _ g1 g2
  · obtain ⟨_, c1, g1⟩ := hin hx
    obtain ⟨_, c2, g2⟩ := hin hy
    exact h.apart _ _ _ _ _ _ g1 g2 hne hrx hry hnx hny
  · have own : ∀ {y cy ry}, (y, true, cy) ∈ setC q (.pool ((u, f) :: fs)) (delC p H) → β y = some ry → ry.nil = false → y ≠ p ∧ ∃ c', (y, true, c') ∈ H := fun {y cy ry} hy _ _ => hin hy
    rcases foot hx hrx hk with ⟨rfl, hb⟩ | ⟨c', hc', hk'⟩
    · obtain ⟨hn, rfl⟩ := hu k hb
      simp only [Lies, if_true] at lp
      obtain ⟨l1, l2⟩ := lp hn
      have ho : o = true := by obtain ⟨_, c1, g1⟩ := hin hx; exact h.uniq _ _ _ _ _ g1 hq
      refine ⟨ho, l1, l2, fun y cy ry hy hry hny => ?_, fun y o' cy ry hy hne hry hk2 => ?_⟩
      · obtain ⟨g1, c1, g2⟩ := hin hy
        exact h.apart _ _ _ _ _ _ g2 hp g1 hry hr hny hn
      · rcases foot hy hry hk2 with ⟨e, _⟩ | ⟨c1, g1, g2⟩
        · exact hne e
        · exact (h.kid _ _ _ _ _ g1 hry g2).2.2.2.1 _ _ _ hp hr hn rfl
    · obtain ⟨a1, a2, a3, a4, a5⟩ := h.kid _ _ _ _ _ hc' hrx hk'
      refine ⟨a1, a2, a3, fun y cy ry hy hry hny => ?_, fun y o' cy ry hy hne hry hk2 => ?_⟩
      · obtain ⟨g1, c1, g2⟩ := hin hy
        exact a4 _ _ _ g2 hry hny
      · rcases foot hy hry hk2 with ⟨rfl, hb⟩ | ⟨c1, g1, g2⟩
        · obtain ⟨hn, rfl⟩ := hu k hb
          exact a4 _ _ _ hp hr hn rfl
        · exact a5 _ _ _ _ g1 hne hry g2

/-- The name of a map that goes into the pool. -/
def subMp (p b : Nat) : SV → SV
  | .mp p' => if p' = p then .v (.map (some b)) else .mp p'
  | s => s
theorem freeze_map {p q : Nat} {l : List (List Int × Value)} {fs : List (Value × Froz)} (hp : get p S.H = some (true, .mp l)) (hq : get q S.H = some (true, .pool fs)) (hpq : q ≠ p) :
    EntA C S (fun _ : Nat => True) fun b => { S with ts := S.ts.map (subMp p b), H := setC q (.pool ((.map (some b), .map l) :: fs)) (delC p S.H) } := by
  intro β a w hs
  obtain ⟨r, hr, hsat, _⟩ := hs.chunk hp
  obtain ⟨hn, hm⟩ := hsat
  refine ⟨r.blk, trivial, β, hs.heap.freeze (get_mem hp) (get_mem hq) hpq hr (fun b hb => by cases hb; exact ⟨hn, rfl⟩) ⟨r.blk, rfl, hm⟩, hs.base, hs.bk, hs.names, hs.defers, by rw [hs.size]; simp, fun i s hi => ?_⟩
  simp only [List.getElem?_map, Option.map_eq_some_iff] at hi
  obtain ⟨s0, h0, rfl⟩ := hi
  obtain ⟨u, h1, h2⟩ := hs.ts i s0 h0
  refine ⟨u, h1, ?_⟩
  cases s0 <;> try exact h2
  rename_i p'
  simp only [subMp]
  split
  · rename_i e; subst e
    obtain ⟨r', hr', h2⟩ := h2
    rw [hr] at hr'; cases hr'
    exact h2
  · exact h2

/-- What the pool says. -/
theorem pool_at {β : Names} {a : Act} {w : World} (hs : Sat C β S a w) {q : Nat} {ow : Bool} {fs : List (Value × Froz)} (hq : get q S.H = some (ow, .pool fs)) {u : Value} {f : Froz} (hm : (u, f) ∈ fs) : FrozAt w u f := by
  obtain ⟨r, hr, hsat, _⟩ := hs.chunk hq
  exact hsat.2 _ hm

theorem poolLookup_val {β : Names} {a : Act} {w : World} (hs : Sat C β S a w) (hT : TysOK C.P T) {t kt vt q n : Nat} {m k : Operand} {u : Value} {l : List (List Int × Value)} {fs : List (Value × Froz)} {ow : Bool} {ks : List Int} {z : Value} (ho : o.op = .lookup t m k false) (ht : (T t).map TI.k = some (.map kt vt)) (hz : (C.P.info? vt).map (·.zero) = some (some z))
    (hkey : KeyOK C.P kt n) (hm : S.ev m = .v u) (hk : S.ev k = .agg (ks.map fun i => .v (.int .i64 i))) (hkn : ks.length = n) (hg : get q S.H = some (ow, .pool fs)) (hin : (u, .map l) ∈ fs) (hln : ∀ x ∈ l, x.1.length = n) : (execOp a.eval o).run C.P w = .ok (.value (lookK l ks z)) w := by
  have h1 := hs.ev m
  rw [hm] at h1
  obtain h1 : a.eval m = u := h1
  have h2 := key_val hs hk
  obtain ⟨b, rfl, hmap⟩ := pool_at hs hg hin
  obtain ⟨es, e1, e2, e3, e4, e5⟩ := MapAt.keys (f := fun x => x.2) hmap
  obtain ⟨ti, hti, hki⟩ : ∃ i, T t = some i ∧ i.k = .map kt vt := by simpa [Option.map_eq_some_iff] using ht
  obtain ⟨d, hd, hd'⟩ := (hT t ti hti).kind
  rw [hki] at hd'
  obtain rfl : d = .map kt vt := hd'
  have hf := run_find hkey hkn w (E := es.toList) (ks := l.map Prod.fst) e2 (fun x hx => by obtain ⟨y, hy, rfl⟩ := List.mem_map.1 hx; exact hln y hy)
  rw [idxK_keys] at hf
  unfold execOp
  rw [ho]
  simp only [h1, h2]
  simp only [Instr.lookup, Sem.run_bind, run_underlying hd, MapKept.run_getObj_map e1, Result.andThen_ok, Sem.run_pure, hkey.chk ks hkn, hf]
  rw [lookK_idx]
  cases hi : idxK l ks with
  | none => simp [run_zeroValue' hz]
  | some j =>
    have hj := idxK_lt hi
    have := e3 j
    rw [List.getElem?_eq_getElem (by simp; omega), List.getElem?_eq_getElem hj] at this
    simp only [Option.map_some, Option.some.injEq] at this
    simp [List.getD, hj, ← this, e4]

theorem poolLookup_rule (hT : TysOK C.P T) {t kt vt q n : Nat} {m k : Operand} {u : Value} {l : List (List Int × Value)} {fs : List (Value × Froz)} {ow : Bool} {ks : List Int} {z : Value} (ho : o.op = .lookup t m k false) (ht : (T t).map TI.k = some (.map kt vt)) (hz : (C.P.info? vt).map (·.zero) = some (some z))
    (hkey : KeyOK C.P kt n) (hm : S.ev m = .v u) (hk : S.ev k = .agg (ks.map fun i => .v (.int .i64 i))) (hkn : ks.length = n) (hg : get q S.H = some (ow, .pool fs)) (hin : (u, .map l) ∈ fs) (hln : ∀ x ∈ l, x.1.length = n)
    (hK : K (.v (lookK l ks z)) S) : OpP C o S K :=
  val_rule fun β a w hs => ⟨lookK l ks z, .v (lookK l ks z), poolLookup_val hs hT ho ht hz hkey hm hk hkn hg hin hln, rfl, hK⟩
theorem qpoolLookup {K : SV → Prop} (hT : TysOK C.P T) {t kt vt q n : Nat} {m k : Operand} {u : Value} {l : List (List Int × Value)} {fs : List (Value × Froz)} {ow : Bool} {ks : List Int} {z : Value} (ho : o.op = .lookup t m k false) (ht : (T t).map TI.k = some (.map kt vt)) (hz : (C.P.info? vt).map (·.zero) = some (some z))
    (hkey : KeyOK C.P kt n) (hm : S.ev m = .v u) (hk : S.ev k = .agg (ks.map fun i => .v (.int .i64 i))) (hkn : ks.length = n) (hg : get q S.H = some (ow, .pool fs)) (hin : (u, .map l) ∈ fs) (hln : ∀ x ∈ l, x.1.length = n)
    (hK : K (.v (lookK l ks z))) : QOpP C o S K :=
  ⟨.v (lookK l ks z), rfl, hK, fun β a w hs => ⟨_, poolLookup_val hs hT ho ht hz hkey hm hk hkn hg hin hln, rfl⟩⟩
theorem qlookup {K : SV → Prop} (hT : TysOK C.P T) {t kt vt p n : Nat} {m k : Operand} {l : List (List Int × Value)} {ks : List Int} {z : Value} (ho : o.op = .lookup t m k false) (ht : (T t).map TI.k = some (.map kt vt)) (hz : (C.P.info? vt).map (·.zero) = some (some z))
    (hkey : KeyOK C.P kt n) (hm : S.ev m = .mp p) (hk : S.ev k = .agg (ks.map fun i => .v (.int .i64 i))) (hkn : ks.length = n) (hg : get p S.H = some (true, .mp l)) (hln : ∀ x ∈ l, x.1.length = n)
    (hK : K (.v (lookK l ks z))) : QOpP C o S K :=
  ⟨.v (lookK l ks z), rfl, hK, fun β a w hs => ⟨_, lookup_val hs hT ho ht hz hkey hm hk hkn hg hln, rfl⟩⟩

/-- A zero struct, in a region that only reads. -/
theorem qzero {K : SV → Prop} (hT : TysOK C.P T) {t : TypeId} {ti : TI} {fs : List (Nat × Nat × Nat)} (ho : o.op = .build t #[]) (hti : T t = some ti) (hk : ti.k = .struct fs) (hnz : fs.all (fun f => f.2.2 != 0) = true) (hK : K (.agg (ti.zero.map .v))) : QOpP C o S K := by
  obtain ⟨z, hz, hzl, hz1⟩ := (hT t ti hti).zero
  obtain ⟨d, hd, hd'⟩ := (hT t ti hti).kind
  rw [hk] at hd'
  obtain ⟨fa, rfl, hl⟩ := hd'
  have hdet : ∀ l : List Value, dets (l.map .v) = true := fun l => by
    induction l with
    | nil => rfl
    | cons x l ih => simp [dets, det, ih]
  refine ⟨.agg (ti.zero.map .v), hdet _, hK, fun β a w hs => ⟨.agg z.cells, ?_, z.cells.toList, by simp, by rw [← hzl]; simp, fun i x hx => ?_, fun v hv => List.all_eq_true.1 hz1 v hv⟩⟩
  · refine run_v (m := Instr.build t ((#[] : Array (Nat × Operand)).map fun (i, x) => (i, a.eval x))) (by unfold execOp; rw [ho]) ?_
    unfold Instr.build
    have hplaces : ∀ w : World, (fa.mapM (fun f => do pure (f.offset, ← sizeOf f.type)) : Sem (Array (Nat × Nat))).run C.P w = .ok (fa.map fun f => (f.offset, ((C.P.info? f.type).map (·.size)).getD 0)) w := fun w => by
      refine run_mapM _ (fun f : Field => (f.offset, ((C.P.info? f.type).map (·.size)).getD 0)) w fa fun f hf => ?_
      have hm : (f.offset, f.type, ((C.P.info? f.type).map (·.size)).getD 0) ∈ fs := by
        rw [← hl]; exact List.mem_map.2 ⟨f, Array.mem_toList_iff.2 hf, rfl⟩
      have hne := List.all_eq_true.1 hnz _ hm
      cases hi : C.P.info? f.type with
      | none => simp [hi] at hne
      | some i =>
        have : (C.P.info? f.type).map (·.size) = some i.size := by rw [hi]; rfl
        simp only [Sem.run_bind, run_sizeOf' this, Result.andThen_ok, Sem.run_pure, Option.map_some, Option.getD_some]
    simp only [Sem.run_bind, run_zeroValue' hz, Result.andThen_ok, run_underlying hd, hplaces, List.map_toArray, List.map_nil]
    simp [Instr.fill]
  · rw [← hzl] at hx
    simp only [List.getElem?_map, Option.map_eq_some_iff] at hx
    obtain ⟨u, hu, rfl⟩ := hx
    exact ⟨u, by simpa using hu, rfl⟩

/-! ranging -/
theorem range_rule (hT : TysOK C.P T) {t kt vt q : Nat} {x : Operand} {u : Value} {l : List (List Int × Value)} {fs : List (Value × Froz)} {ow : Bool} (ho : o.op = .range t x) (ht : (T t).map TI.k = some (.map kt vt)) (hx : S.ev x = .v u) (hg : get q S.H = some (ow, .pool fs)) (hin : (u, .map l) ∈ fs)
    (hK : K (.ptr S.nx 0) { S with H := (S.nx, true, .iter u l.length []) :: S.H, nx := S.nx + 1 }) : OpP C o S K := by
  refine ⟨fun β a w hs next Q hn => ?_⟩
  have h1 := hs.ev x
  rw [hx] at h1
  obtain h1 : a.eval x = u := h1
  obtain ⟨b, rfl, hmap⟩ := pool_at hs hg hin
  obtain ⟨es, e1, e2, e3, e4, e5⟩ := MapAt.keys (f := fun x => x.2) hmap
  obtain ⟨ti, hti, hki⟩ : ∃ i, T t = some i ∧ i.k = .map kt vt := by simpa [Option.map_eq_some_iff] using ht
  obtain ⟨d, hd, hd'⟩ := (hT t ti hti).kind
  rw [hki] at hd'
  obtain rfl : d = .map kt vt := hd'
  have hno : β S.nx = none := hs.names _ (Nat.le_refl _)
  have hrun : (execOp a.eval o).run C.P w = .ok (.value (.pointer (some ⟨w.heap.size, 0, none⟩))) (w.alloc (.mapIter (some b) l.length #[] l.length)) := by
    unfold execOp
    rw [ho]
    simp only [h1, Instr.range, Sem.run_bind, run_underlying hd, MapKept.run_getObj_map e1, Result.andThen_ok, Sem.run_pure, run_newObj, e4]
    rfl
  have hgr : SatH C β S.H (w.alloc (.mapIter (some b) l.length #[] l.length)) := hs.heap.grow (Le.refl _) rfl rfl rfl (by simp) (fun k hk => Go.RowKit.Below.heap_alloc w _ k hk)
  refine wp_value hrun (hn (ext β S.nx ⟨w.heap.size, 0, false, 0, 0, 1⟩) (.ptr S.nx 0) _ _ _ (hs.newName (hgr.cons (ch := .iter (.map (some b)) l.length []) hno ⟨rfl, rfl, some b, rfl, heap_new _ _⟩ hs.heap (Nat.le_refl _) (.inl (by simp)) (fun k hk => Go.RowKit.Below.heap_alloc w _ k hk) rfl)) ⟨_, ext_self _ _ _, rfl⟩ hK)

theorem next_rule {x : Operand} {p q n : Nat} {u : Value} {seen : List Nat} {l : List (List Int × Value)} {fs : List (Value × Froz)} {ow : Bool} (ho : o.op = .next x false) (hx : S.ev x = .ptr p 0) (hp : get p S.H = some (true, .iter u n seen)) (hg : get q S.H = some (ow, .pool fs)) (hin : (u, .map l) ∈ fs) (hn : n = l.length) (hsl : ∀ i ∈ seen, i < n)
    (hmore : ∀ i, i < n → i ∉ seen → K (.tup [.v (.bool true), .junk, .junk]) { S with H := setC p (.iter u n (seen ++ [i])) S.H })
    (hover : (∀ i, i < n → i ∈ seen) → K (.tup [.v (.bool false)]) S) : OpP C o S K := by
  refine ⟨fun β a w hs next Q hnx => ?_⟩
  have h1 := hs.ev x
  rw [hx] at h1
  obtain ⟨r, hr, h1⟩ := h1
  obtain ⟨r', hr', hsat, _⟩ := hs.chunk hp
  rw [hr] at hr'; cases hr'
  obtain ⟨hnil, hoff, m, rfl, hit⟩ := hsat
  obtain ⟨b, hb, hmap⟩ := pool_at hs hg hin
  cases hb
  obtain ⟨es, e1, e2, e3, e4, e5⟩ := MapAt.keys (f := fun x => x.2) hmap
  have hold : ∀ y ∈ es.toList, y.born < n := fun y hy => by
    obtain ⟨i, hi, rfl⟩ := List.mem_iff_getElem.1 hy
    have : es[i]? = some es.toList[i] := by rw [← Array.getElem?_toList, List.getElem?_eq_getElem hi]
    rw [e5 i _ this]
    have : i < es.size := by simpa using hi
    omega
  have hen : es.size = n := by omega
  rw [hen] at e1
  have hgetm : (getObj b).run C.P w = .ok (.map es n) w := by simp [getObj, Sem.run, e1]
  have htest := next_test_false seen.toArray es n n hold (Nat.le_refl _)
  have hgetr : (getObj r.blk).run C.P w = .ok (.mapIter (some b) n seen.toArray n) w := by
    simp [getObj, Sem.run, hit]
  have hmem : ∀ y, y ∈ (es.filter fun e => !seen.toArray.contains e.born).toList ↔ y ∈ es.toList ∧ y.born ∉ seen := fun y => by
    simp
  have hfl : ∀ y ∈ (es.filter fun e => !seen.toArray.contains e.born).toList, y.born < n := fun y hy => hold y ((hmem y).1 hy).1
  generalize hL : es.filter (fun e => !seen.toArray.contains e.born) = L at hmem hfl
  have f1 : L.filter (fun x => decide (x.born < n)) = L := Array.filter_eq_self.2 (fun x hx => by simpa using hfl x (by simpa using hx))
  have f2 : L.filter (fun x => decide (x.born ≥ n)) = #[] := by
    rw [Array.filter_eq_empty_iff]
    intro x hx
    have := hfl x (by simpa using hx)
    simp
    omega
  by_cases h0 : L.size = 0
  · have hrun : (execOp a.eval o).run C.P w = .ok (.value (.tuple #[.bool false])) w := by
      have : L = #[] := Array.eq_empty_of_size_eq_zero h0
      subst this
      unfold execOp
      rw [ho]
      simp only [h1, hoff, Nat.add_zero]
      simp only [Instr.next, Sem.run_bind, hgetr, Result.andThen_ok, hgetm, htest, Bool.false_eq_true, if_false, hL, f1, f2]
      simp [choose, Sem.run, Question.forced]
    have hR : R β (.tup [.v (.bool false)]) (.tuple #[.bool false]) := ⟨[.bool false], rfl, rfl, fun i s hi => by
      rcases i with _ | i
      · cases hi; exact ⟨_, rfl, rfl⟩
      · simp at hi⟩
    refine wp_value hrun (hnx β _ _ S w hs hR (hover fun i hi => ?_))
    refine Classical.byContradiction fun hni => ?_
    have hie : i < es.size := by omega
    have hy : es[i] ∈ L.toList := (hmem _).2 ⟨by simp, by rw [e5 i _ (Array.getElem?_eq_getElem hie)]; exact hni⟩
    have : 0 < L.toList.length := List.length_pos_of_mem hy
    simp at this; omega
  · have hch : ∃ (j : Nat) (w1 : World), j < L.size ∧ (w1 = w ∨ w1 = w.drew) ∧ (choose (Question.mapNext L.size)).run C.P w = .ok j w1 := by
      by_cases hf : L.size ≤ 1
      · exact ⟨0, w, by omega, .inl rfl, by simp [choose, Sem.run, Question.forced, hf]⟩
      · exact ⟨_, w.drew, Nat.mod_lt _ (by omega), .inr rfl, by
          simp only [choose, Sem.run, Question.forced, decide_eq_true_eq, hf, if_false, Question.cut]
          rfl⟩
    obtain ⟨j, w1, hj, hw1, hch⟩ := hch
    have hne : L.isEmpty = false := by simp [Array.isEmpty, h0]
    have hLj : L[j] ∈ L.toList := by simp
    obtain ⟨g1, g2⟩ := (hmem _).1 hLj
    have hw1h : w1.heap = w.heap := by rcases hw1 with rfl | rfl <;> rfl
    have hset : (setObj r.blk (.mapIter (some b) n (seen.toArray.push L[j].born) n)).run C.P w1 = .ok () { w1 with heap := w1.heap.setIfInBounds r.blk (.mapIter (some b) n (seen.toArray.push L[j].born) n) } := by
      have : w1.heap[r.blk]? = some (.mapIter (some b) n seen.toArray n) := by rw [hw1h]; exact hit
      simp [setObj, Sem.run, this]
    have hrun : (execOp a.eval o).run C.P w = .ok (.value (.tuple #[.bool true, L[j].key, L[j].val])) { w1 with heap := w1.heap.setIfInBounds r.blk (.mapIter (some b) n (seen.toArray.push L[j].born) n) } := by
      unfold execOp
      rw [ho]
      simp only [h1, hoff, Nat.add_zero]
      simp only [Instr.next, Sem.run_bind, hgetr, Result.andThen_ok, hgetm, htest, Bool.false_eq_true, if_false, hL, f1, f2, Array.append_empty, hne, Array.empty_append, Array.size_map, hch, Array.getElem?_map, Array.getElem?_eq_getElem hj, Option.map_some, hset, Sem.run_pure]
    have hsz : r.blk < w.heap.size := by
      rcases Nat.lt_or_ge r.blk w.heap.size with h | h
      · exact h
      · rw [Array.getElem?_eq_none h] at hit; cases hit
    have hs1 : Sat C β S a w1 := by
      rcases hw1 with rfl | rfl
      · exact hs
      · exact ⟨hs.heap.drew, hs.base, hs.bk, hs.names, hs.defers, hs.size, hs.ts⟩
    have hR : R β (.tup [.v (.bool true), .junk, .junk]) (.tuple #[.bool true, L[j].key, L[j].val]) := ⟨[.bool true, L[j].key, L[j].val], rfl, rfl, fun i s hi => by
      rcases i with _ | _ | _ | i
      · cases hi; exact ⟨_, rfl, rfl⟩
      · cases hi; exact ⟨_, rfl, trivial⟩
      · cases hi; exact ⟨_, rfl, trivial⟩
      · simp at hi⟩
    have hput := hs1.heap.put (w' := { w1 with heap := w1.heap.setIfInBounds r.blk (.mapIter (some b) n (seen.toArray.push L[j].born) n) }) (ch' := .iter (.map (some b)) n (seen ++ [L[j].born])) (get_mem hp) hr hnil rfl rfl rfl (by simp) (fun k hk => by simp [Array.getElem?_setIfInBounds_ne (Ne.symm hk)]) ⟨hnil, hoff, some b, rfl, by simp [hw1h, hsz]⟩ rfl (Nat.le_refl _)
    exact wp_value hrun (hnx β _ _ { S with H := setC p (.iter (.map (some b)) n (seen ++ [L[j].born])) S.H } _ ⟨hput, hs.base, hs.bk, hs.names, hs.defers, hs.size, hs.ts⟩ hR (hmore _ (hold _ g1) g2))

theorem entry_rule {x : Operand} {p q n i : Nat} {u : Value} {seen : List Nat} {l : List (List Int × Value)} {fs : List (Value × Froz)} {ow oi : Bool} (ho : o.op = .entry x) (hx : S.ev x = .ptr p 0) (hp : get p S.H = some (oi, .iter u n (seen ++ [i]))) (hg : get q S.H = some (ow, .pool fs)) (hin : (u, .map l) ∈ fs) (hn : n = l.length) (hi : i < n)
    (hK : K (.tup [.agg ((l.getD i default).1.map fun j => .v (.int .i64 j)), .v (l.getD i default).2]) S) : OpP C o S K := by
  refine val_rule fun β a w hs => ?_
  have h1 := hs.ev x
  rw [hx] at h1
  obtain ⟨r, hr, h1⟩ := h1
  obtain ⟨r', hr', hsat, _⟩ := hs.chunk hp
  rw [hr] at hr'; cases hr'
  obtain ⟨hnil, hoff, m, rfl, hit⟩ := hsat
  obtain ⟨b, hb, hmap⟩ := pool_at hs hg hin
  cases hb
  obtain ⟨es, e1, e2, e3, e4, e5⟩ := MapAt.keys (f := fun x => x.2) hmap
  have hgetr : (getObj r.blk).run C.P w = .ok (.mapIter (some b) n (seen ++ [i]).toArray n) w := by
    simp [getObj, Sem.run, hit]
  have hen : es.size = n := by omega
  rw [hen] at e1
  have hgetm : (getObj b).run C.P w = .ok (.map es n) w := by simp [getObj, Sem.run, e1]
  have hie : i < es.size := by omega
  have hborn := e5 i _ (Array.getElem?_eq_getElem hie)
  have hnd : (es.toList.map (·.born)).Nodup := by
    rw [List.nodup_iff_pairwise_ne, List.pairwise_iff_getElem]
    intro x y hx hy hxy
    simp only [List.length_map, Array.length_toList] at hx hy
    simp only [List.getElem_map, Array.getElem_toList]
    rw [e5 x _ (Array.getElem?_eq_getElem hx), e5 y _ (Array.getElem?_eq_getElem hy)]
    omega
  have hf : es.find? (·.born == i) = some es[i] := by
    have := find_born es[i] es.toList hnd (by simp)
    rw [hborn] at this
    rw [← Array.find?_toList]; exact this
  have hli : i < l.length := by omega
  have hval : es[i].val = (l.getD i default).2 := by
    have := e3 i
    simp only [Array.getElem?_toList, Array.getElem?_eq_getElem hie, List.getElem?_eq_getElem hli, Option.map_some, Option.some.injEq] at this
    rw [this]; simp [List.getD, hli]
  have hkey : es[i].key = keyV (l.getD i default).1 := by
    have := congrArg (fun l => l[i]?) e2
    simp only [List.getElem?_map, Array.getElem?_toList, Array.getElem?_eq_getElem hie, List.getElem?_eq_getElem hli, Option.map_some, Option.some.injEq] at this
    rw [this]; simp [List.getD, hli]
  refine ⟨.tuple #[es[i].key, es[i].val], .tup [.agg ((l.getD i default).1.map fun j => .v (.int .i64 j)), .v (l.getD i default).2], ?_, ⟨[es[i].key, es[i].val], rfl, rfl, fun j s hj => ?_⟩, hK⟩
  · unfold execOp
    rw [ho]
    simp only [h1, hoff, Nat.add_zero]
    have hback : (seen ++ [i]).toArray.back? = some i := by simp
    simp only [Instr.entry, Sem.run_bind, hgetr, Result.andThen_ok, hback, hgetm, bne_self_eq_false, Bool.false_eq_true, if_false, hf, Sem.run_pure]
  · rcases j with _ | _ | j
    · cases hj
      refine ⟨_, rfl, ?_⟩
      rw [hkey]
      refine ⟨(l.getD i default).1.map (Value.int .i64), rfl, by simp, fun k s hk => ?_, fun v hv => ?_⟩
      · simp only [List.getElem?_map, Option.map_eq_some_iff] at hk
        obtain ⟨y, hy, rfl⟩ := hk
        exact ⟨.int .i64 y, by rw [List.getElem?_map, hy]; rfl, rfl⟩
      · obtain ⟨y, _, rfl⟩ := List.mem_map.1 hv; rfl
    · cases hj; exact ⟨_, rfl, hval⟩
    · simp at hj

end
end E
end Go.Proofs.Ytlkchnfgeedghaa
