/- Arrays of four numbers: built, and seen as a row. It states nothing about the program. -/
import Derived.Test.YtlkchnfgeedghaaEN
set_option linter.unusedVariables false
namespace Go.Proofs.Ytlkchnfgeedghaa
namespace E
open Go

section
variable {C : Cx} {T : Tys} {o : Oper} {S : St} {K : SV → St → Prop}

theorem build4_rule (hT : TysOK C.P T) {t e : TypeId} {x0 x1 x2 x3 : Operand} {v0 v1 v2 v3 : Int} {parts : Array (Nat × Operand)} (ho : o.op = .build t parts) (hp : parts.toList = [(0, x0), (1, x1), (2, x2), (3, x3)]) (hk : (T t).map TI.k = some (.array 4 e 1)) (hz : (C.P.info? t).map (·.zero) = some (some (.agg #[.int .i64 0, .int .i64 0, .int .i64 0, .int .i64 0])))
    (h0 : S.ev x0 = .v (.int .i64 v0)) (h1 : S.ev x1 = .v (.int .i64 v1)) (h2 : S.ev x2 = .v (.int .i64 v2)) (h3 : S.ev x3 = .v (.int .i64 v3)) (hK : K (.agg [.v (.int .i64 v0), .v (.int .i64 v1), .v (.int .i64 v2), .v (.int .i64 v3)]) S) : OpP C o S K := by
  refine val_rule fun β a w hs => ?_
  have e0 : a.eval x0 = .int .i64 v0 := by have := hs.ev x0; rw [h0] at this; exact this
  have e1 : a.eval x1 = .int .i64 v1 := by have := hs.ev x1; rw [h1] at this; exact this
  have e2 : a.eval x2 = .int .i64 v2 := by have := hs.ev x2; rw [h2] at this; exact this
  have e3 : a.eval x3 = .int .i64 v3 := by have := hs.ev x3; rw [h3] at this; exact this
  obtain ⟨ti, hti, hki⟩ : ∃ i, T t = some i ∧ i.k = .array 4 e 1 := by simpa [Option.map_eq_some_iff] using hk
  obtain ⟨d, hd, hd'⟩ := (hT t ti hti).kind
  rw [hki] at hd'
  obtain ⟨rfl, hsz⟩ := hd'
  have hparts : parts = #[(0, x0), (1, x1), (2, x2), (3, x3)] := by rw [← Array.toArray_toList (xs := parts), hp]
  refine ⟨.agg #[.int .i64 v0, .int .i64 v1, .int .i64 v2, .int .i64 v3], .agg [.v (.int .i64 v0), .v (.int .i64 v1), .v (.int .i64 v2), .v (.int .i64 v3)], ?_, ?_, hK⟩
  · unfold execOp
    rw [ho]
    simp only [hparts]
    simp only [List.map_toArray, List.map_cons, List.map_nil, e0, e1, e2, e3]
    simp only [Instr.build, Sem.run_bind, run_zeroValue' hz, run_underlying hd, run_sizeOf' hsz, Result.andThen_ok, Sem.run_pure]
    simp [Instr.fill, Value.cells]
  · refine ⟨[.int .i64 v0, .int .i64 v1, .int .i64 v2, .int .i64 v3], rfl, rfl, fun i s hi => ?_, fun u hu => ?_⟩
    · rcases i with _ | _ | _ | _ | i
      · cases hi; exact ⟨_, rfl, rfl⟩
      · cases hi; exact ⟨_, rfl, rfl⟩
      · cases hi; exact ⟨_, rfl, rfl⟩
      · cases hi; exact ⟨_, rfl, rfl⟩
      · simp at hi
    · simp at hu; rcases hu with rfl | rfl | rfl | rfl <;> rfl

/-- 'x[:]' of a box with an array of numbers: the box becomes a row under a new name. -/
theorem arr_rule (hT : TysOK C.P T) {t e p : Nat} {m : Nat} {x : Operand} {l : List Int} (ho : o.op = .slice t x none none none) (hk : (T t).map TI.k = some (.array m e 1)) (hl : l.length = m) (hm : 0 < m) (hx : S.ev x = .ptr p 0)
    (hg : get p S.H = some (true, .box t (l.map fun i => .v (.int .i64 i)))) (hK : K (.full S.nx) { S with H := (S.nx, true, .row t (.ints .i64 l)) :: delC p S.H, nx := S.nx + 1 }) : OpP C o S K := by
  refine ⟨fun β a w hs next Q hn => ?_⟩
  have h1 := hs.ev x
  rw [hx] at h1
  obtain ⟨r, hr, h1⟩ := h1
  obtain ⟨r', hr', hsat, _⟩ := hs.chunk hg
  rw [hr] at hr'; cases hr'
  obtain ⟨arr, g1, g2, g3, g4, g5, g6⟩ := hsat
  have hno : β S.nx = none := hs.names _ (Nat.le_refl _)
  obtain ⟨ti, hti, hki⟩ : ∃ i, T t = some i ∧ i.k = .array m e 1 := by simpa [Option.map_eq_some_iff] using hk
  obtain ⟨d, hd, hd'⟩ := (hT t ti hti).kind
  rw [hki] at hd'
  obtain ⟨rfl, hsz⟩ := hd'
  have hasz : arr.size = m := by rw [g2, List.length_map, hl]
  have harr : ∀ i (hi : i < l.length), arr[i]? = some (.int .i64 l[i]) := fun i hi => by
    obtain ⟨u, a1, a2⟩ := g5 i (.v (.int .i64 l[i])) (by simp [hi])
    have a2 : u = _ := a2
    rw [a1, a2]
  have hrun : (execOp a.eval o).run C.P w = .ok (.value (.slice (some ⟨r.blk, 0, none⟩) m m)) w := by
    unfold execOp
    rw [ho]
    simp only [h1, g3, Option.map_none]
    simp only [Instr.sliceAt, Instr.sureAddr, Instr.sliceBounds, Sem.run_bind, run_underlying hd, run_sizeOf' hsz, Result.andThen_ok, Sem.run_pure]
    simp [addr_add]
  have hrow : SatC (ext β S.nx ⟨r.blk, 0, false, m, m, 1⟩) w true ⟨r.blk, 0, false, m, m, 1⟩ (.row t (.ints .i64 l)) := by
    have := rowSat (β := ext β S.nx ⟨r.blk, 0, false, m, m, 1⟩) (w := w) (g := r.blk) (cap := m) (arr := arr) (tid := t) (c := .ints .i64 l) g1 (by simp only [RowC.sz]; omega) (by simp only [RowC.len]; omega) (e := .ints .i64 []) rfl (by simp only [RowC.len, List.length_nil]; omega) (fun i hi => by simp [RowC.len] at hi) (fun i hi q u hu => by
      simp only [RowC.len] at hi
      simp only [RowC.get, RowC.sz] at hu ⊢
      rcases q with _ | q
      · cases hu
        rw [Nat.mul_one, Nat.add_zero, harr i hi]
        simp [List.getD, hi]
      · simp at hu)
    simpa only [RowC.len, RowC.sz, hl] using this
  refine wp_value hrun (hn (ext β S.nx ⟨r.blk, 0, false, m, m, 1⟩) (.full S.nx) _ _ w (hs.newName (SatH.swap (r' := ⟨r.blk, 0, false, m, m, 1⟩) hs.heap (get_mem hg) hr g4 hno rfl rfl rfl rfl rfl (fun _ _ => rfl) hrow rfl)) ⟨_, ext_self _ _ _, by simp [Ref.base]⟩ hK)
end


section
variable {C : Cx} {T : Tys} {S : St} {K : SV → St → Prop}

theorem nil_state {β : Names} {a : Act} {w : World} (hs : Sat C β S a w) {p : Nat} {t tc : TypeId} (hg : get p S.H = some (true, .box t [.v (.slice none 0 0)])) (c0 : RowC) (hc0 : c0.len = 0) :
    ∃ β', Le β β' ∧ Sat C β' { S with H := (S.nx, true, .row tc c0) :: setC p (.box t [.full S.nx]) S.H, nx := S.nx + 1 } a w := by
  have hno : β S.nx = none := hs.names _ (Nat.le_refl _)
  have hle : Le β (ext β S.nx ⟨w.heap.size, 0, true, 0, 0, c0.sz⟩) := ext_le hno
  obtain ⟨r, hr, hsat, hl⟩ := hs.heap.sat _ _ _ (get_mem hg)
  have hpn : p ≠ S.nx := fun e => by rw [e, hno] at hr; cases hr
  have h1 : SatH C (ext β S.nx ⟨w.heap.size, 0, true, 0, 0, c0.sz⟩) ((S.nx, true, .row tc c0) :: S.H) w :=
    hs.heap.cons hno ⟨hc0.symm, rfl, by rw [hc0]; exact Nat.zero_le _, fun _ => rfl, fun j hj => by rw [hc0] at hj; omega, fun _ h => by cases h⟩ hs.heap (Nat.le_refl _) (.inr rfl) (fun _ _ => rfl) rfl
  obtain ⟨arr, g1, g2, g3, g4, g5, g6⟩ := id hsat
  have h2 := h1.put (p := p) (ch := .box t [.v (.slice none 0 0)]) (ch' := .box t [.full S.nx]) (r := r) (List.mem_cons_of_mem _ (get_mem hg)) (hle _ _ hr) g4 (w' := w) rfl rfl rfl rfl (fun _ _ => rfl) ⟨arr, g1, g2, g3, g4, fun i s hi => by
    rcases i with _ | i
    · cases hi
      obtain ⟨u, a1, a2⟩ := g5 0 _ rfl
      refine ⟨u, a1, ⟨w.heap.size, 0, true, 0, 0, c0.sz⟩, ext_self _ _ _, ?_⟩
      exact a2
    · simp at hi, g6⟩ rfl
  refine ⟨_, hle, ?_, hs.base.trans hle, hs.bk, fun q hq => ?_, hs.defers, hs.size, fun i s hi => ?_⟩
  · have e : setC p (.box t [.full S.nx]) ((S.nx, true, .row tc c0) :: S.H) = (S.nx, true, .row tc c0) :: setC p (.box t [.full S.nx]) S.H := by
      simp only [setC, if_neg hpn]
    rw [← e]
    exact h2
  · simp only at hq
    rw [ext, if_neg (by omega)]
    exact hs.names q (by omega)
  · obtain ⟨u, h3, h4⟩ := hs.ts i s hi
    exact ⟨u, h3, R_mono hle h4⟩

theorem nil_call {f : FuncId} {args : List SV} {p : Nat} {t : TypeId} (tc : TypeId) (c0 : RowC) (hc0 : c0.len = 0) (hg : get p S.H = some (true, .box t [.v (.slice none 0 0)]))
    (h : CallP C f args { S with H := (S.nx, true, .row tc c0) :: setC p (.box t [.full S.nx]) S.H, nx := S.nx + 1 } K) : CallP C f args S K := by
  refine ⟨fun β a w hs vs hvs => ?_⟩
  obtain ⟨β', hle, hs'⟩ := nil_state (tc := tc) hs hg c0 hc0
  exact h.out β' a w hs' vs ⟨hvs.1, fun i s hi => let ⟨u, h1, h2⟩ := hvs.2 i s hi; ⟨u, h1, R_mono hle h2⟩⟩

end

end E
end Go.Proofs.Ytlkchnfgeedghaa
