/- A slice of two slices, built and indexed. It states nothing about the program. -/
import Derived.Test.YtlkchnfgeedghaaER
set_option linter.unusedVariables false
namespace Go.Proofs.Ytlkchnfgeedghaa
namespace E
open Go

section
variable {C : Cx} {T : Tys} {o : Oper} {S : St} {K : SV → St → Prop}

theorem full_one {β : Names} {p : Nat} {u : Value} (h : R β (.full p) u) : one β (.full p) u ∧ u.oneCell' = true := by
  obtain ⟨r, h1, h2⟩ := h
  exact ⟨⟨r, h1, h2⟩, by rw [h2]; rfl⟩

theorem slice_facts {P : Program} {t e : TypeId} (hu : P.underlying t = some (.slice e)) (hs : (P.info? e).map (·.size) = some 1) : kOK P (.slice e) (.slice e 1 .none) := ⟨rfl, hs⟩
/-- A literal of two slices: a box of two cells, seen as a slice. -/
theorem pair_rule {t e : TypeId} {x0 x1 : Operand} {p0 p1 : Nat} {parts : Array (Nat × Operand)} (ho : o.op = .buildSlice t 2 parts) (hp : parts.toList = [(0, x0), (1, x1)]) (hd : C.P.underlying t = some (.slice e)) (hes : (C.P.info? e).map (·.size) = some 1) (hz : (C.P.info? e).map (·.zero) = some (some (.slice none 0 0)))
    (h0 : S.ev x0 = .full p0) (h1 : S.ev x1 = .full p1) (hK : K (.sl S.nx 0 2) { S with H := (S.nx, true, .box e [.full p0, .full p1]) :: S.H, nx := S.nx + 1 }) : OpP C o S K := by
  refine new_ok (ch := .box e [.full p0, .full p1]) (r := .sl S.nx 0 2) (fun _ _ => rfl) hK fun β a w hs => ?_
  have e0 := hs.ev x0
  have e1 := hs.ev x1
  rw [h0] at e0
  rw [h1] at e1
  obtain ⟨o0, c0⟩ := full_one e0
  obtain ⟨o1, c1⟩ := full_one e1
  have hparts : parts = #[(0, x0), (1, x1)] := by rw [← Array.toArray_toList (xs := parts), hp]
  have hc : ∀ v : Value, v.oneCell' = true → v.cells = #[v] := fun v hv => by
    cases v <;> first | rfl | (simp [Value.oneCell'] at hv)
  refine ⟨.slice (some ⟨w.heap.size, 0, none⟩) 2 2, ⟨w.heap.size, 0, false, 2, 2, 1⟩, #[a.eval x0, a.eval x1], e, ?_, rfl, rfl, rfl, ⟨_, ext_self _ _ _, by simp, by simp [Ref.from]⟩, ?_⟩
  · refine run_v' (m := Instr.buildSlice t 2 (parts.map fun (i, x) => (i, a.eval x))) (by unfold execOp; rw [ho]) ?_
    unfold Instr.buildSlice
    simp only [hparts, List.map_toArray, List.map_cons, List.map_nil]
    generalize a.eval x0 = v0 at *
    generalize a.eval x1 = v1 at *
    simp only [Sem.run_bind, run_underlying hd, Result.andThen_ok, run_sizeOf' hes]
    rw [if_neg (by decide), if_neg (by decide)]
    simp only [Sem.run_bind, run_zeroValue' hz, Sem.run_pure, Result.andThen_ok, Value.cells]
    have hf : Instr.fill (fun i => some (i * 1, 1)) ((Array.range (2 * 1)).map fun x => (#[Value.slice none 0 0] : Array Value)[x % (#[Value.slice none 0 0] : Array Value).size]!) [(0, v0), (1, v1)] = some #[v0, v1] := by
      have hr : Array.range 2 = #[0, 1] := rfl
      simp [Instr.fill, hc v0 c0, hc v1 c1, hr]
    simp only [hf, Sem.run_bind, run_newRow, Result.andThen_ok, Sem.run_pure]
  · refine ⟨#[a.eval x0, a.eval x1], heap_new _ _, rfl, rfl, rfl, fun i s hi => ?_, fun i u hi => ?_⟩
    · rcases i with _ | _ | i
      · cases hi; exact ⟨_, rfl, one_mono (ext_le (hs.names _ (Nat.le_refl _))) o0⟩
      · cases hi; exact ⟨_, rfl, one_mono (ext_le (hs.names _ (Nat.le_refl _))) o1⟩
      · simp at hi
    · rcases i with _ | _ | i
      · cases hi; exact c0
      · cases hi; exact c1
      · simp at hi

/-- Its elements' addresses. -/
theorem pair_index {t e : TypeId} {x y : Operand} {p n : Nat} {k : IntKind} {j : Int} {own : Bool} {cs : List SV} (ho : o.op = .indexAddr t x y) (hd : C.P.underlying t = some (.slice e)) (hes : (C.P.info? e).map (·.size) = some 1) (hx : S.ev x = .sl p 0 n) (hy : S.ev y = .v (.int k j))
    (hg : get p S.H = some (own, .box e cs)) (hj : 0 ≤ j ∧ j < n) (hK : K (.ptr p j.toNat) S) : OpP C o S K := by
  refine val_rule fun β a w hs => ?_
  have h1 := hs.ev x
  have h2 := hs.ev y
  rw [hx] at h1
  rw [hy] at h2
  obtain h2 : a.eval y = _ := h2
  obtain ⟨r, hr, hle, h1⟩ := h1
  obtain ⟨r', hr', hsat, _⟩ := hs.chunk hg
  rw [hr] at hr'; cases hr'
  obtain ⟨arr, g1, g2, g3, g4, g5, g6⟩ := hsat
  have hf : r.from 0 = some ⟨r.blk, r.off, none⟩ := by
    unfold Ref.from
    rw [g4]
    simp
  refine ⟨.pointer (some ((⟨r.blk, r.off, none⟩ : Addr).add (j.toNat * 1))), .ptr p j.toNat, run_v (by unfold execOp; rw [ho]) (by rw [h1, h2, hf]; exact run_indexAddr hd (slice_facts hd hes) hj), ⟨r, hr, ?_⟩, hK⟩
  rw [addr_add, Nat.mul_one]
/-- The length of a part of a row. -/
theorem sl_len {t e : TypeId} {x : Operand} {p l n : Nat} {cl : Call} (ho : o.op = .call cl) (hc : cl.callee = .builtin .len) (ha : cl.args.toList = [x]) (ht : cl.argTypes.toList = [t]) (hd : C.P.underlying t = some (.slice e)) (hx : S.ev x = .sl p l n) (hK : K (.v (.int .i64 n)) S) : OpP C o S K := by
  refine val_rule fun β a w hs => ?_
  have h1 := hs.ev x
  rw [hx] at h1
  obtain ⟨r, hr, hle, h1⟩ := h1
  have hargs : cl.args = #[x] := by rw [← Array.toArray_toList (xs := cl.args), ha]
  have htys : cl.argTypes = #[t] := by rw [← Array.toArray_toList (xs := cl.argTypes), ht]
  refine ⟨.int .i64 n, .v (.int .i64 n), ?_, rfl, hK⟩
  unfold execOp
  rw [ho]
  simp only [resolve, hc, hargs, Sem.run_bind, Sem.run_pure, Result.andThen_ok, invoke, builtin, Builtin.len_, htys]
  have e1 : (#[t] : Array TypeId)[0]? = some t := rfl
  have e2 : (Array.map a.eval #[x])[0]? = some (a.eval x) := by simp
  simp only [e1, e2, Sem.run_bind, run_underlying hd, Result.andThen_ok, h1, Sem.run_pure]
  rfl
end
end E
end Go.Proofs.Ytlkchnfgeedghaa
