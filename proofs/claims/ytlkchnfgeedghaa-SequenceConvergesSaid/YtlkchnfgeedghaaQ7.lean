/- The law SequenceConverges returns true at every input, and what it is given reads as it did. -/
import Derived.Test.YtlkchnfgeedghaaRS
import Derived.Test.YtlkchnfgeedghaaLE
import Derived.Test.YtlkchnfgeedghaaRows
namespace Go.Proofs.Ytlkchnfgeedghaa
open Go Go.ChangeShapes Go.WideShapes Go.ChangeAt Go.RowKit
set_option linter.unusedVariables false

set_option maxRecDepth 100000 in
theorem sequenceConverges_lifted (os : Os) (started : os.Started) (H : Type) (enc : TypeId × Value → H) :
    ReturnsInHanded {} Try.checked os 6 .any (Rows.sequenceConvergesSpec.pre6 enc Try.prog Try.f6 Rows.sequenceConvergesRow.domain false) (Rows.sequenceConvergesSpec.post enc Try.prog Try.f6 false true false false) := by
  refine returnsInHanded_of_change (C := Try.checked) own started (by kernel_rfl) Try.func6
    (ChangeSpec.witness6 (enc := enc) (C := Try.checked) false ⟨#[], #[.slice none 0 0, .slice none 0 0], []⟩ 8 (by kernel_rfl) (by kernel_rfl) (by kernel_rfl) (by kernel_rfl)) ?_
  intro W base args ds gs before hval0 hW hcnd _
  have hval : ∀ (j : Nat) t v, Try.f6.params[j]? = some t → args[j]? = some v → Value.okWide Try.prog W .any base t v := hval0
  have hW' := hW
  obtain ⟨p, q, hA0, hV, rfl, hfz, hnd⟩ := hW
  have hA : DataW.TrodAll enc Try.prog W 0 (fun _ => true) true Try.f6.params.toList args.toList ds p := hA0
  rw [Try.params6] at hA hval
  obtain ⟨v0, vs0, d0, ds0, p0, q0, hargs, rfl, rfl, h0, t0⟩ := trodAll_cons hA
  obtain ⟨v1, vs1, d1, ds1, p1, q1, rfl, rfl, rfl, h1, t1⟩ := trodAll_cons t0
  obtain ⟨rfl, rfl, rfl⟩ := trodAll_nil t1
  obtain rfl : args = #[v0, v1] := by cases args; simp_all
  obtain ⟨rfl, rfl⟩ := trodVars_none hV
  have k0 := h0
  have k1 := h1
  have lt0 : ∀ x ∈ p0, x.block < W.heap.size := by obtain ⟨m, hm⟩ := k0; exact DataW.trod_lt m _ _ _ hm
  have lt1 : ∀ x ∈ p1, x.block < W.heap.size := by obtain ⟨m, hm⟩ := k1; exact DataW.trod_lt m _ _ _ hm
  obtain ⟨l0, r0, e0, s0, b0⟩ := E.open_cells (hval 0 22 v0 rfl rfl) h0
  obtain ⟨l1, r1, e1, s1, b1, y1⟩ := E.open_bytes (hval 1 44 v1 rfl rfl) h1
  clear hA0 hval0
  have hcall := E.spec_calls (E.lawConv_spec l0 l1 y1) rfl (W := W) [r0, r1] rfl (fun i t c r hi hr => by
    rcases i with _ | _ | i
    · cases hi; cases hr; exact ⟨s0, b0⟩
    · cases hi; cases hr; exact ⟨s1, b1⟩
    · simp at hi) (vs := [v0, v1]) ⟨rfl, fun i s hi => by
    rcases i with _ | _ | i
    · cases hi; exact ⟨v0, rfl, r0, rfl, e0⟩
    · cases hi; exact ⟨v1, rfl, r1, rfl, e1⟩
    · simp at hi⟩
  refine hcall.mono fun e W' ⟨he, bel⟩ => ?_
  subst he
  exact ⟨_, rfl, _, _, _, [], _, [], hW', trodAll_mk1 (shut_bool Try.underlying4 _), trodAll_cons_mk (Below.trod laidOut (by kernel_rfl) (of_decide_eq_true (by kernel_rfl)) k0 bel lt0) (trodAll_cons_mk (Below.trod laidOut (by kernel_rfl) (of_decide_eq_true (by kernel_rfl)) k1 bel lt1) trodAll_mk0), rfl, bel.frame _, fun h => by cases h⟩

theorem sequenceConverges_holds : Rows.SequenceConvergesSaid :=
  OpenClaim.holds_of_wide 6 Try.f6 rfl rfl rfl rfl rfl rfl rfl ⟨rfl, rfl, rfl, rfl, rfl⟩ rfl rfl rfl rfl rfl (by kernel_rfl) Try.func6 (by kernel_rfl)
    (of_decide_eq_true (by kernel_rfl)) (by unfold Func.isWrapper; first | (rw [if_pos (by decide +kernel)]; kernel_rfl) | (rw [if_neg (by decide +kernel)]; exact ⟨rfl, rfl⟩))
    (fun os started H enc _ => sequenceConverges_lifted os started H enc)

end Go.Proofs.Ytlkchnfgeedghaa
