/- The law TallyAddSpec of the package chartroomlaw15 returns true at every input, and what it is given reads as it did. -/
import Derived.Test.YtgaeakmdibnjmaaR1
namespace Go.Proofs.Ytgaeakmdibnjmaa
open Go Go.ChangeShapes Go.WideShapes Go.ChangeAt Go.RowKit
set_option linter.unusedVariables false

theorem open_dot {H : Type} {enc : TypeId × Value → H} {W : World} {base base' : Nat} {spare : Nat → Bool} {held : Bool} {v : Value} {d : DataW H} {ps : List MemPlace} (hv : Value.okWide Try.prog W .any base' 24 v) (h : DataW.Trod enc Try.prog W base spare held 24 v d ps) :
    ∃ a b : Int, v = .agg #[.int .i64 a, .int .i64 b] := by
  have hok : ∃ cs, v = .agg cs ∧ cs.size = Try.prog.cellsOf 24 ∧ Row.okWide Try.prog W .any base' 24 cs := by
    have := hv
    simp only [Value.okWide, Try.underlying24] at this
    exact this
  obtain ⟨cs, rfl, hsz, _⟩ := hok
  have hce : Try.prog.cellsOf 24 = 2 := by kernel_rfl
  rw [hce] at hsz
  obtain ⟨fuel, hf⟩ := h
  obtain ⟨x, y, rfl⟩ : ∃ x y, cs = #[x, y] := by
    obtain ⟨l⟩ := cs
    rcases l with _ | ⟨x, _ | ⟨y, _ | _⟩⟩ <;> simp at hsz
    exact ⟨x, y, rfl⟩
  obtain ⟨xs, k, _, _, _, hxl, hfl⟩ := DataW.trod_struct Try.underlying24 hf
  have hc3 : Try.prog.cellsOf 3 = 1 := by kernel_rfl
  have g0 : DataW.trod enc Try.prog W base spare held k 3 [x] = xs[0]? := by
    have := hfl 0 _ rfl
    change DataW.trod enc Try.prog W base spare held k 3 ((([x, y] : List Value).drop 0).take (Try.prog.cellsOf 3)) = xs[0]? at this
    rw [hc3] at this
    exact this
  have g1 : DataW.trod enc Try.prog W base spare held k 3 [y] = xs[1]? := by
    have := hfl 1 _ rfl
    change DataW.trod enc Try.prog W base spare held k 3 ((([x, y] : List Value).drop 1).take (Try.prog.cellsOf 3)) = xs[1]? at this
    rw [hc3] at this
    exact this
  have hx2 : xs.length = 2 := hxl
  rw [List.getElem?_eq_getElem (by omega)] at g0 g1
  obtain ⟨n0, e0, _⟩ := DataW.trod_int Try.underlying3 g0
  obtain ⟨n1, e1, _⟩ := DataW.trod_int Try.underlying3 g1
  simp only [List.cons.injEq, and_true] at e0 e1
  subst e0; subst e1
  exact ⟨n0, n1, rfl⟩

theorem R_dot {β : E.Names} (a b : Int) : E.R β (.agg [.v (.int .i64 a), .v (.int .i64 b)]) (.agg #[.int .i64 a, .int .i64 b]) := by
  refine ⟨[.int .i64 a, .int .i64 b], rfl, rfl, fun i s hi => ?_, fun u hu => ?_⟩
  · rcases i with _ | _ | i
    · cases hi; exact ⟨_, rfl, rfl⟩
    · cases hi; exact ⟨_, rfl, rfl⟩
    · simp at hi
  · simp at hu
    rcases hu with rfl | rfl <;> rfl

set_option maxRecDepth 100000 in
theorem addSpec_lifted (os : Os) (started : os.Started) (H : Type) (enc : TypeId × Value → H) :
    ReturnsInHanded {} Try.checked os 3 .any (Rows.tallyAddSpecSpec.pre6 enc Try.prog Try.f3 Rows.tallyAddSpecRow.domain false) (Rows.tallyAddSpecSpec.post enc Try.prog Try.f3 false true false false) := by
  refine returnsInHanded_of_change (C := Try.checked) own started (by kernel_rfl) Try.func3
    (ChangeSpec.witness6 (enc := enc) (C := Try.checked) false ⟨#[], #[.slice none 0 0, .agg #[.int .i64 0, .int .i64 0], .int .i64 0], []⟩ 8 (by kernel_rfl) (by kernel_rfl) (by kernel_rfl) (by kernel_rfl)) ?_
  intro W base args ds gs before hval0 hW hcnd _
  have hval : ∀ (j : Nat) t v, Try.f3.params[j]? = some t → args[j]? = some v → Value.okWide Try.prog W .any base t v := hval0
  have hW' := hW
  obtain ⟨p, q, hA0, hV, rfl, hfz, hnd⟩ := hW
  have hA : DataW.TrodAll enc Try.prog W 0 (fun _ => true) true Try.f3.params.toList args.toList ds p := hA0
  rw [Try.params3] at hA hval
  obtain ⟨v0, vs0, d0, ds0, p0, q0, hargs, rfl, rfl, h0, t0⟩ := trodAll_cons hA
  obtain ⟨v1, vs1, d1, ds1, p1, q1, rfl, rfl, rfl, h1, t1⟩ := trodAll_cons t0
  obtain ⟨v2, vs2, d2, ds2, p2, q2, rfl, rfl, rfl, h2, t2⟩ := trodAll_cons t1
  obtain ⟨rfl, rfl, rfl⟩ := trodAll_nil t2
  obtain rfl : args = #[v0, v1, v2] := by cases args; simp_all
  obtain ⟨rfl, rfl⟩ := trodVars_none hV
  have k0 := h0
  have k1 := h1
  have k2 := h2
  have lt0 : ∀ x ∈ p0, x.block < W.heap.size := by obtain ⟨m, hm⟩ := k0; exact DataW.trod_lt m _ _ _ hm
  have lt1 : ∀ x ∈ p1, x.block < W.heap.size := by obtain ⟨m, hm⟩ := k1; exact DataW.trod_lt m _ _ _ hm
  have lt2 : ∀ x ∈ p2, x.block < W.heap.size := by obtain ⟨m, hm⟩ := k2; exact DataW.trod_lt m _ _ _ hm
  obtain ⟨l0, r0, e0, s0, b0⟩ := E.open_tally (hval 0 22 v0 rfl rfl) h0
  obtain ⟨x, y, rfl⟩ := open_dot (hval 1 24 v1 rfl rfl) h1
  obtain ⟨n, e2⟩ : ∃ n, v2 = .int .i64 n := by
    obtain ⟨a, h, _⟩ := open_int Try.underlying3 (hval 2 3 v2 rfl rfl) h2
    exact ⟨a, h⟩
  subst e2
  clear hA0 hval0
  have hcall := E.spec_calls (E.lawAdd_spec l0 x y n) rfl (W := W) [r0] rfl (fun i t c r hi hr => by
    rcases i with _ | i
    · cases hi; cases hr; exact ⟨s0, b0⟩
    · simp at hi) (vs := [v0, .agg #[.int .i64 x, .int .i64 y], .int .i64 n]) ⟨rfl, fun i s hi => by
    rcases i with _ | _ | _ | i
    · cases hi; exact ⟨v0, rfl, r0, rfl, e0⟩
    · cases hi; exact ⟨_, rfl, R_dot x y⟩
    · cases hi; exact ⟨_, rfl, rfl⟩
    · simp at hi⟩
  refine hcall.mono fun e W' ⟨he, bel⟩ => ?_
  subst he
  exact ⟨_, rfl, _, _, _, [], _, [], hW', trodAll_mk1 (shut_bool Try.underlying4 _), trodAll_cons_mk (Below.trod laidOut (by kernel_rfl) (of_decide_eq_true (by kernel_rfl)) k0 bel lt0) (trodAll_cons_mk (Below.trod laidOut (by kernel_rfl) (of_decide_eq_true (by kernel_rfl)) k1 bel lt1) (trodAll_cons_mk (Below.trod laidOut (by kernel_rfl) (of_decide_eq_true (by kernel_rfl)) k2 bel lt2) trodAll_mk0)), rfl, bel.frame _, fun h => by cases h⟩

theorem addSpec_holds : Rows.TallyAddSpecSaid :=
  OpenClaim.holds_of_wide 3 Try.f3 rfl rfl rfl rfl rfl rfl rfl ⟨rfl, rfl, rfl, rfl, rfl⟩ rfl rfl rfl rfl rfl (by kernel_rfl) Try.func3 (by kernel_rfl)
    (of_decide_eq_true (by kernel_rfl)) (by unfold Func.isWrapper; first | (rw [if_pos (by decide +kernel)]; kernel_rfl) | (rw [if_neg (by decide +kernel)]; exact ⟨rfl, rfl⟩))
    (fun os started H enc _ => addSpec_lifted os started H enc)

end Go.Proofs.Ytgaeakmdibnjmaa
