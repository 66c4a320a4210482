/- What the executor says holds of the model. It states nothing about the program. -/
import Derived.Test.YtlkchnfgeedghaaE5
namespace Go.Proofs.Ytlkchnfgeedghaa
namespace E
open Go

section
variable {C : Cx} {T : Tys} {wr : List Nat} {o : Oper} {S : St} {K : SV → St → Prop}

theorem wp_value {P : Program} {o : Oper} {a : Act} {w w' : World} {next : Act → World → Prop} {Q : Exit → Act → World → Prop} {u : Value} (h : (execOp a.eval o).run P w = .ok (.value u) w') (hn : next (a.put o.dst u) w') : o.wp P a w next Q := by
  unfold Oper.wp; rw [h]; exact hn
theorem wp_none {P : Program} {o : Oper} {a : Act} {w w' : World} {next : Act → World → Prop} {Q : Exit → Act → World → Prop} (h : (execOp a.eval o).run P w = .ok .skip w') (hn : next (a.put o.dst undef) w') : o.wp P a w next Q := by
  unfold Oper.wp; rw [h]; exact hn

theorem goRs_ok {rs : Rs} (h : goRs C o S K rs) (hv : ∀ s, rs.Ok s → ∀ β a w, Sat C β S a w → ∃ u, (execOp a.eval o).run C.P w = .ok (.value u) w ∧ R β s u) : OpP C o S K := by
  cases rs with
  | bad => exact h
  | ok s =>
    refine ⟨fun β a w hs next Q hn => ?_⟩
    obtain ⟨u, hr, hR⟩ := hv s rfl β a w hs
    exact wp_value hr (hn β s u S w hs hR h)
  | side c s =>
    refine ⟨fun β a w hs next Q hn => ?_⟩
    obtain ⟨u, hr, hR⟩ := hv s ⟨h.1, rfl⟩ β a w hs
    exact wp_value hr (hn β s u S w hs hR h.2)

theorem load_step (hT : TysOK C.P T) {t : TypeId} {x : Operand} (ho : o.op = .load t x) (h : goRs C o S K (ld T S.H t (S.ev x))) : OpP C o S K :=
  goRs_ok h fun s hs β a w hsat => by
    obtain ⟨b, off, u, hx, hl, hR⟩ := ld_ok hT hsat.heap (hsat.ev x) hs
    exact ⟨u, load_op ho hx hl, hR⟩

/-- A new block of the call's own. -/
theorem new_ok {ch : Chunk} {r : SV} (hfc : ∀ w r, footC w r ch = []) (h : goNew S K ch r)
    (hv : ∀ β a w, Sat C β S a w → ∃ u rf arr tid, (execOp a.eval o).run C.P w = .ok (.value u) (w.alloc (.cells arr tid)) ∧ rf.blk = w.heap.size ∧ rf.off = 0 ∧ rf.nil = false ∧ R (ext β S.nx rf) r u ∧ SatC (ext β S.nx rf) (w.alloc (.cells arr tid)) true rf ch) : OpP C o S K := by
  refine ⟨fun β a w hs next Q hn => ?_⟩
  obtain ⟨u, rf, arr, tid, hr, hb, ho, hnil, hR, hC⟩ := hv β a w hs
  have hno : β S.nx = none := hs.names _ (Nat.le_refl _)
  have hg : SatH C β S.H (w.alloc (.cells arr tid)) := hs.heap.grow (Le.refl _) rfl rfl rfl (by simp) (fun k hk => Go.RowKit.Below.heap_alloc w _ k hk)
  refine wp_value hr (hn (ext β S.nx rf) r u { S with H := (S.nx, true, ch) :: S.H, nx := S.nx + 1 } _ ⟨hg.cons hno hC hs.heap (by omega) (.inl (by rw [World.size_alloc]; omega)) (fun k hk => Go.RowKit.Below.heap_alloc w _ k hk) (hfc _ _), hs.base.trans (ext_le hno), hs.bk, fun p hp => ?_, hs.defers, hs.size, fun i s hi => ?_⟩ hR h)
  · simp only [ext]
    simp only at hp
    rw [if_neg (by omega)]
    exact hs.names p (by omega)
  · obtain ⟨v, h1, h2⟩ := hs.ts i s hi
    exact ⟨v, h1, R_mono (ext_le hno) h2⟩

theorem run_newRow {P : Program} (w : World) (t : TypeId) (cs : Array Value) : (newRow t cs).run P w = .ok ⟨w.heap.size, 0, none⟩ (w.alloc (.cells cs t)) := by
  unfold newRow
  simp only [Sem.run_bind, run_newObj, Result.andThen_ok, Sem.run_pure]; rfl

theorem heap_new (w : World) (o : Obj) : (w.alloc o).heap[w.heap.size]? = some o := by
  show (w.heap.push o)[w.heap.size]? = some o
  simp

theorem run_v' {P : Program} {ρ : Operand → Value} {o : Oper} {m : Sem Value} {r : Value} {w w' : World} (he : execOp ρ o = (do pure (Next.value (← m)))) (hr : m.run P w = .ok r w') : (execOp ρ o).run P w = .ok (.value r) w' := by
  rw [he, Sem.run_bind, hr]; rfl

theorem box_sat {β β' : Names} {w : World} {rf : Ref} {tid : TypeId} {cs : Array Value} {xs : List SV} (hle : Le β β') (hb : w.heap[rf.blk]? = some (.cells cs tid (0, 0))) (ho : rf.off = 0) (hn : rf.nil = false) (hl : cs.size = xs.length)
    (hrel : ∀ (i : Nat) (x : SV), xs[i]? = some x → ∃ y, cs[i]? = some y ∧ one β x y) (h1 : ∀ y ∈ cs.toList, y.oneCell' = true) (own : Bool) : SatC β' w own rf (.box tid xs) :=
  ⟨cs, hb, hl, ho, hn, fun i s hs => let ⟨u, a, b⟩ := hrel i s hs; ⟨u, a, one_mono hle b⟩, fun i u hu => h1 u (by simpa using Array.mem_of_getElem? hu)⟩

theorem box_step {t : TypeId} {x : Operand} {xs : List SV} (ho : o.op = .box t x) (hf : flat (S.ev x) = some xs) (h : goNew S K (.box t xs) (.ptr S.nx 0)) : OpP C o S K := by
  refine new_ok (fun _ _ => rfl) h fun β a w hs => ?_
  obtain ⟨hl, hrel, h1⟩ := flat_ok (hs.ev x) hf
  have hno : β S.nx = none := hs.names _ (Nat.le_refl _)
  refine ⟨.pointer (some ⟨w.heap.size, 0, none⟩), ⟨w.heap.size, 0, false, 1, 1, 1⟩, (a.eval x).cells, t, ?_, rfl, rfl, rfl, ⟨_, ext_self _ _ _, rfl⟩, ?_⟩
  · refine run_v' (m := Instr.box t (a.eval x)) (by unfold execOp; rw [ho]) ?_
    simp only [Instr.box, newVar, Sem.run_bind, run_newRow, Result.andThen_ok, Sem.run_pure]
  · exact box_sat (ext_le hno) (heap_new _ _) rfl rfl hl hrel h1 true

theorem alloc_step (hT : TysOK C.P T) {t : TypeId} {i : TI} (ho : o.op = .alloc t) (hi : T t = some i) (h : goNew S K (.box t (i.zero.map .v)) (.ptr S.nx 0)) : OpP C o S K := by
  refine new_ok (fun _ _ => rfl) h fun β a w hs => ?_
  obtain ⟨z, hz, hzl, hz1⟩ := (hT t i hi).zero
  refine ⟨.pointer (some ⟨w.heap.size, 0, none⟩), ⟨w.heap.size, 0, false, 1, 1, 1⟩, z.cells, t, ?_, rfl, rfl, rfl, ⟨_, ext_self _ _ _, rfl⟩, ?_⟩
  · refine run_v' (m := Instr.alloc t true (.tuple #[])) (by unfold execOp; rw [ho]) ?_
    simp only [Instr.alloc, newVar, Sem.run_bind, run_zeroValue' hz, run_newRow, Result.andThen_ok, Sem.run_pure]
  · refine box_sat (β := ext β S.nx _) (Le.refl _) (heap_new _ _) rfl rfl (by rw [List.length_map, ← hzl]; simp) (fun j s hs => ?_) (List.all_eq_true.1 hz1) true
    rw [← hzl] at hs
    simp only [List.getElem?_map, Option.map_eq_some_iff] at hs
    obtain ⟨u, hu, rfl⟩ := hs
    exact ⟨u, by simpa using hu, rfl⟩

/-! stores -/
theorem heap_setCells (b : Nat) : ∀ (vs : List Value) (o : Nat) (w : World) (arr : Array Value) (t : TypeId), w.heap[b]? = some (.cells arr t (0, 0)) → o + vs.length ≤ arr.size →
    ∃ arr' : Array Value, (w.setCells b o vs).heap[b]? = some (.cells arr' t (0, 0)) ∧ arr'.size = arr.size ∧ (∀ i, arr'[i]? = if o ≤ i ∧ i < o + vs.length then vs[i - o]? else arr[i]?) ∧
      (w.setCells b o vs).os = w.os ∧ (w.setCells b o vs).tape = w.tape ∧ (w.setCells b o vs).output = w.output ∧ (w.setCells b o vs).heap.size = w.heap.size ∧ ∀ k, k ≠ b → (w.setCells b o vs).heap[k]? = w.heap[k]?
  | [], o, w, arr, t, h, _ => ⟨arr, h, rfl, fun i => by rw [if_neg (by simp)], rfl, rfl, rfl, rfl, fun _ _ => rfl⟩
  | v :: r, o, w, arr, t, h, hl => by
    have h1 := heap_setCell_same w b o arr t v h
    have hlen : o < arr.size := by simp at hl; omega
    obtain ⟨arr', h2, h3, h4, h5, h6, h7, h8, h9⟩ := heap_setCells b r (o + 1) (w.setCell ⟨b, o, none⟩ v) _ t h1 (by simp at hl ⊢; omega)
    refine ⟨arr', h2, by rw [h3]; simp, fun i => ?_, h5, h6, h7, by rw [show (w.setCells b o (v :: r)) = ((w.setCell ⟨b, o, none⟩ v).setCells b (o + 1) r) from rfl, h8, World.size_setCell], fun k hk => by rw [show (w.setCells b o (v :: r)) = ((w.setCell ⟨b, o, none⟩ v).setCells b (o + 1) r) from rfl, h9 k hk, heap_setCell_other _ _ _ _ (by simpa using hk)]⟩
    rw [h4 i]
    by_cases e : i = o
    · subst e
      rw [if_neg (by omega), if_pos (by simp), Array.getElem?_setIfInBounds_self_of_lt hlen]; simp
    · by_cases c : o + 1 ≤ i ∧ i < o + 1 + r.length
      · rw [if_pos c, if_pos (by simp; omega), show i - o = (i - (o + 1)) + 1 by omega]; simp
      · rw [if_neg c, if_neg (by simp; omega), Array.getElem?_setIfInBounds_ne (by omega)]

theorem run_storeVar {P : Program} {t : TypeId} {i : TI} (hi : TIok P t i) {u : Value} (hsz : u.cells.size = i.size) (h1 : ∀ y ∈ u.cells.toList, y.oneCell' = true) {w : World} {b off : Nat} {arr : Array Value} {tid : TypeId}
    (hb : w.heap[b]? = some (.cells arr tid (0, 0))) (hl : off + u.cells.size ≤ arr.size) : (storeVar t ⟨b, off, none⟩ u).run P w = .ok () (w.setCells b off u.cells.toList) := by
  have hst := run_storeCells_cells (P := P) b off u.cells.toList 0 w (fun j hj => by rw [Nat.add_zero, cell_of_row w b _ arr tid _ hb]; simp at hj ⊢; omega) (fun j _ => frozen_of_row w b _ arr tid hb) h1
  unfold storeVar
  simp only [Sem.run_bind, run_sizeOf' hi.size, Result.andThen_ok, hsz, ne_eq, not_true_eq_false, if_false, Nat.add_zero] at hst ⊢
  exact hst

theorem setCells_like : ∀ {xs : List SV} {c c' e : RowC} {i f : Nat}, setCells c i f xs = some c' → c.like e → c'.like e
  | [], c, c', e, i, f, h, hl => by simp [setCells] at h; subst h; exact hl
  | .v u :: xs, c, c', e, i, f, h, hl => by
    simp only [setCells] at h
    split at h
    · rename_i c1 h1; exact setCells_like h (RowC.setCell_like h1 hl)
    · cases h
  | .junk :: _, c, c', e, i, f, h, _ => by simp [setCells] at h
  | .ptr _ _ :: _, c, c', e, i, f, h, _ => by simp [setCells] at h
  | .eptr _ _ _ :: _, c, c', e, i, f, h, _ => by simp [setCells] at h
  | .full _ :: _, c, c', e, i, f, h, _ => by simp [setCells] at h
  | .sl _ _ _ :: _, c, c', e, i, f, h, _ => by simp [setCells] at h
  | .clo _ _ :: _, c, c', e, i, f, h, _ => by simp [setCells] at h
  | .agg _ :: _, c, c', e, i, f, h, _ => by simp [setCells] at h
  | .tup _ :: _, c, c', e, i, f, h, _ => by simp [setCells] at h

theorem setCells_ok : ∀ {xs : List SV} {c c' : RowC} {i f : Nat}, setCells c i f xs = some c' → i < c.len →
    c'.sz = c.sz ∧ c'.len = c.len ∧ (xs = [] ∨ f + xs.length ≤ c.sz) ∧ ∃ us : List Value, xs = us.map .v ∧ ∀ j r, j < c.len → (c'.get j)[r]? = if j = i ∧ f ≤ r ∧ r < f + us.length then us[r - f]? else (c.get j)[r]?
  | [], c, c', i, f, h, _ => by
    simp [setCells] at h; subst h
    exact ⟨rfl, rfl, .inl rfl, [], rfl, fun j r _ => by rw [if_neg (by simp)]⟩
  | .v u :: xs, c, c', i, f, h, hi => by
    simp only [setCells] at h
    split at h
    · rename_i c1 h1
      obtain ⟨s1, s2, s3, s4⟩ := RowC.setCell_sz h1
      obtain ⟨t1, t2, t3, us, rfl, t4⟩ := setCells_ok h (by rw [s2]; exact hi)
      refine ⟨t1.trans s1, t2.trans s2, .inr ?_, u :: us, rfl, fun j r hj => ?_⟩
      · rcases t3 with t3 | t3
        · simp at t3; simp [t3]; omega
        · simp at t3 ⊢; omega
      · rw [t4 j r (by rw [s2]; exact hj), RowC.setCell_get h1 hi j r hj]
        by_cases e : j = i
        · subst e
          by_cases e2 : r = f
          · subst e2; rw [if_neg (by omega), if_pos ⟨rfl, rfl⟩, if_pos (by simp)]; simp
          · by_cases c2 : f + 1 ≤ r ∧ r < f + 1 + us.length
            · rw [if_pos ⟨rfl, c2⟩, if_pos (by simp; omega), show r - f = (r - (f + 1)) + 1 by omega]; simp
            · rw [if_neg (by simp; omega), if_neg (by simp [e2]), if_neg (by simp; omega)]
        · rw [if_neg (by simp [e]), if_neg (by simp [e]), if_neg (by simp [e])]
    · cases h
  | .junk :: _, c, c', i, f, h, _ => by simp [setCells] at h
  | .ptr _ _ :: _, c, c', i, f, h, _ => by simp [setCells] at h
  | .eptr _ _ _ :: _, c, c', i, f, h, _ => by simp [setCells] at h
  | .full _ :: _, c, c', i, f, h, _ => by simp [setCells] at h
  | .sl _ _ _ :: _, c, c', i, f, h, _ => by simp [setCells] at h
  | .clo _ _ :: _, c, c', i, f, h, _ => by simp [setCells] at h
  | .agg _ :: _, c, c', i, f, h, _ => by simp [setCells] at h
  | .tup _ :: _, c, c', i, f, h, _ => by simp [setCells] at h


theorem store_step (hT : TysOK C.P T) {t : TypeId} {x y : Operand} {st : Stored} (ho : o.op = .store t x y) (hst : stO T S.H t (S.ev x) (S.ev y) = some st) (h : st.side ∧ K .junk { S with H := st.H }) : OpP C o S K := by
  refine ⟨fun β a w hs next Q hn => ?_⟩
  have hy := hs.ev y
  have hx := hs.ev x
  unfold stO at hst
  split at hst
  · rename_i xs ti hf hti
    obtain ⟨hl, hrel, h1⟩ := flat_ok hy hf
    have hi := hT t ti hti
    split at hst
    · rename_i hsz
      have fin : ∀ (b off : Nat) (H' : Heap), a.eval x = .pointer (some ⟨b, off, none⟩) → (storeVar t ⟨b, off, none⟩ (a.eval y)).run C.P w = .ok () (w.setCells b off (a.eval y).cells.toList) → SatH C β H' (w.setCells b off (a.eval y).cells.toList) → K .junk { S with H := H' } → o.wp C.P a w next Q := fun b off H' hp hrun hH hk => by
        refine wp_none (w' := w.setCells b off (a.eval y).cells.toList) ?_ (hn β .junk undef { S with H := H' } _ ⟨hH, hs.base, hs.bk, hs.names, hs.defers, hs.size, hs.ts⟩ trivial hk)
        unfold execOp
        rw [ho]
        simp only [hp, Instr.storeAt, Instr.sureAddr, Sem.run_bind, Sem.run_pure, Result.andThen_ok, hrun]
      split at hst
      · rename_i p f hxe
        rw [hxe] at hx
        obtain ⟨r, hr, hp⟩ := hx
        split at hst
        · rename_i tid cs hg
          split at hst
          · rename_i cs' hlay
            cases hst
            obtain ⟨r', hr', hsat, _⟩ := hs.chunk hg
            rw [hr] at hr'; cases hr'
            obtain ⟨arr, hh, hasz, hoff, hnil, hcs, hone⟩ := hsat
            obtain ⟨l1, l2, l3⟩ := layO_eq hlay
            rw [hoff, Nat.zero_add] at hp
            obtain ⟨arr', g1, g2, g3, g4, g5, g6, g7, g8⟩ := heap_setCells r.blk (a.eval y).cells.toList f w arr tid hh (by simp; omega)
            refine fin _ _ _ hp (run_storeVar hi (by rw [hl]; exact hsz.1) h1 hh (by omega)) (hs.heap.put (get_mem hg) hr hnil g4 g5 g6 g7 g8 ?_ rfl) h.2
            refine ⟨arr', g1, by omega, hoff, hnil, fun i s hi' => ?_, fun i u hu => ?_⟩
            · rw [l3 i] at hi'
              rw [g3 i]
              simp only [Array.length_toList, hl]
              split at hi'
              · rename_i c; rw [if_pos c]; simpa using hrel _ _ hi'
              · rename_i c; rw [if_neg c]; exact hcs i s hi'
            · rw [g3 i] at hu
              split at hu
              · exact h1 u (List.mem_of_getElem? hu)
              · exact hone i u hu
          · cases hst
        · cases hst
      · rename_i p i f hxe
        rw [hxe] at hx
        obtain ⟨r, hr, hp⟩ := hx
        split at hst
        · rename_i tid c hg
          split at hst
          · rename_i c' hset
            cases hst
            obtain ⟨hlt, hk⟩ := h
            obtain ⟨r', hr', hsat, _⟩ := hs.chunk hg
            rw [hr] at hr'; cases hr'
            obtain ⟨b1, b2, b3, b4, b5, b6⟩ := hsat
            have hnil : r.nil = false := by
              cases hq : r.nil with
              | false => rfl
              | true => have := b4 hq; simp only at hlt; omega
            obtain ⟨hoff, arr, ee, hh, hasz, hlk, hlee, hee⟩ := b6 rfl hnil
            obtain ⟨s1, s2, s3, us, rfl, s4⟩ := setCells_ok hset hlt
            rw [hoff, Nat.zero_add, b2] at hp
            have hle : f + (us.map SV.v).length ≤ c.sz := by
              rcases s3 with s3 | s3
              · rw [s3] at hsz; simp at hsz
              · exact s3
            have hcl : (a.eval y).cells.size = us.length := by rw [hl]; simp
            have hbound : i * c.sz + f + us.length ≤ arr.size := by
              rw [hasz]
              have : (i + 1) * c.sz ≤ r.cap * c.sz := Nat.mul_le_mul_right _ (by omega)
              rw [Nat.add_mul, Nat.one_mul] at this
              simp at hle
              omega
            obtain ⟨arr', g1, g2, g3, g4, g5, g6, g7, g8⟩ := heap_setCells r.blk (a.eval y).cells.toList (i * c.sz + f) w arr tid hh (by simp; omega)
            refine fin _ _ _ hp (run_storeVar hi (by rw [hcl, ← hsz.1]; simp) h1 hh (by omega)) (hs.heap.put (get_mem hg) hr hnil g4 g5 g6 g7 g8 ?_ rfl) hk
            refine ⟨by rw [s2]; exact b1, by rw [s1]; exact b2, by rw [s2]; exact b3, b4, fun j hj q u hu => ?_, fun _ _ => ⟨hoff, arr', ee, by simpa using g1, by rw [g2, s1]; exact hasz, setCells_like hset hlk, by rw [s2]; exact hlee, fun j hj q u hu => ?_⟩⟩
            · rw [s2] at hj
              rw [s4 j q hj] at hu
              rw [s1]
              have hold := b5 j hj q
              rw [cell_of_row _ _ _ _ _ _ g1, g3, hoff, Nat.zero_add]
              have hq : q < c.sz := by
                split at hu
                · simp at hle; omega
                · have := (List.getElem?_eq_some_iff.1 hu).1; rwa [RowC.get_length] at this
              by_cases e : j = i
              · subst e
                by_cases cc : f ≤ q ∧ q < f + us.length
                · rw [if_pos ⟨rfl, cc⟩] at hu
                  rw [if_pos (by simp [hcl]; omega)]
                  have hrel' := hrel (q - f) (.v u) (by simp [hu])
                  obtain ⟨z, hz, hz1⟩ := hrel'
                  obtain rfl : z = u := hz1
                  rw [show j * c.sz + q - (j * c.sz + f) = q - f by omega]
                  simpa using hz
                · rw [if_neg (fun h => cc h.2)] at hu
                  rw [if_neg (by simp [hcl]; omega)]
                  have := hold u hu
                  rwa [cell_of_row _ _ _ _ _ _ hh, hoff, Nat.zero_add] at this
              · rw [if_neg (fun h => e h.1)] at hu
                have := hold u hu
                rw [cell_of_row _ _ _ _ _ _ hh, hoff, Nat.zero_add] at this
                rw [if_neg ?_]
                · exact this
                · simp only [Array.length_toList, hcl]
                  simp at hle
                  rintro ⟨d1, d2⟩
                  rcases Nat.lt_or_gt_of_ne e with e | e
                  · have : (j + 1) * c.sz ≤ i * c.sz := Nat.mul_le_mul_right _ e
                    rw [Nat.add_mul, Nat.one_mul] at this
                    omega
                  · have : (i + 1) * c.sz ≤ j * c.sz := Nat.mul_le_mul_right _ e
                    rw [Nat.add_mul, Nat.one_mul] at this
                    omega
            · rw [s2, s1, g3, if_neg ?_]
              · exact hee j hj q u hu
              · simp only [Array.length_toList, hcl]
                simp at hle
                rintro ⟨d1, d2⟩
                have : (i + 1) * c.sz ≤ (c.len + j) * c.sz := Nat.mul_le_mul_right _ (by omega)
                rw [Nat.add_mul, Nat.one_mul] at this
                omega
          · cases hst
        · cases hst
      · cases hst
    · cases hst
  · cases hst

end
end E
end Go.Proofs.Ytlkchnfgeedghaa
