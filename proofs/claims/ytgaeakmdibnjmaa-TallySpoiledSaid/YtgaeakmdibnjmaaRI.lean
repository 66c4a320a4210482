/- Arguments that are slices of int, opened for the executor. -/
import Derived.Test.YtgaeakmdibnjmaaR2
namespace Go.Proofs.Ytgaeakmdibnjmaa
namespace E
open Go Go.ChangeShapes Go.WideShapes Go.RowKit Go.Deep

theorem open_ints {H : Type} {enc : TypeId × Value → H} {W : World} {base base' : Nat} {spare : Nat → Bool} {held : Bool} {v : Value} {d : DataW H} {ps : List MemPlace} (hv : Value.okWide Try.prog W .any base' 39 v) (h : DataW.Trod enc Try.prog W base spare held 39 v d ps) :
    ∃ (l : List Int) (r : Ref), v = .slice r.base r.n r.cap ∧ (∀ β, SatC β W false r (.row 39 (.ints .i64 l))) ∧ (solid r (.row 39 (.ints .i64 l)) → r.blk < W.heap.size) := by
  obtain ⟨A, len, cap, rfl⟩ := okWide_slice Try.underlying39 hv
  obtain ⟨fuel, hf⟩ := h
  rcases open_slice Try.underlying39 hf with ⟨hcs, _⟩ | ⟨a, len', cap', m, n, D, Pl, hcs, _, hl, hm, hmm, _, hx⟩
  · simp [Value.cells] at hcs
    obtain ⟨rfl, rfl, rfl⟩ := hcs
    exact ⟨[], ⟨0, 0, true, 0, 0, 1⟩, rfl, fun β => ⟨rfl, rfl, Nat.le_refl _, fun _ => rfl, fun i hi => by simp [RowC.len] at hi, fun h => by cases h⟩, fun h => by cases h.1⟩
  · simp [Value.cells] at hcs
    obtain ⟨rfl, rfl, rfl⟩ := hcs
    have hok : len ≤ cap ∧ (cap : Int) ≤ IntKind.i64.max ∧ W.has Try.prog .any base' a 3 cap := by
      have := hv
      simp only [Value.okWide, Try.underlying39, Cell.okWide, Cell.ok] at this
      exact this
    obtain ⟨_, _, _, hspot, row, cells, hshape, _⟩ := hok
    obtain ⟨b, o, s⟩ := a
    simp only at hspot hshape
    subst hspot
    have hblk : b < W.heap.size := by
      unfold World.shape? at hshape
      split at hshape
      · rename_i hh; exact (Array.getElem?_eq_some_iff.1 hh).1
      · cases hshape
    have hce : Try.prog.cellsOf 3 = 1 := by kernel_rfl
    have key : ∀ i, i < len → ∃ t : Int, W.cell? ⟨b, o + i, none⟩ = some (.int .i64 t) := fun i hi => by
      obtain ⟨cs', h1, h2⟩ := hx i (by rw [hmm]; split <;> omega)
      rw [hce, addr_add, Nat.mul_one] at h1
      obtain ⟨_, hlen, hc⟩ := World.cells?_some h1
      obtain ⟨x, rfl⟩ : ∃ x, cs' = [x] := by
        rcases cs' with _ | ⟨x, _ | _⟩ <;> simp at hlen; exact ⟨x, rfl⟩
      have h0 := hc 0 (by omega)
      rw [addr_add] at h0
      obtain ⟨n0, e0, _⟩ := DataW.trod_int Try.underlying3 h2
      simp only [List.cons.injEq, and_true] at e0
      subst e0
      exact ⟨n0, by simpa using h0⟩
    obtain ⟨T, hT⟩ := choose_lt key
    have hget : ∀ i, i < len → ((List.range len).map T).getD i 0 = T i := fun i hi => by simp [List.getD, hi]
    refine ⟨(List.range len).map T, ⟨b, o, false, cap, len, 1⟩, rfl, fun β => ⟨by simp [RowC.len], rfl, by simpa [RowC.len] using hl, (fun h => by cases h), fun i hi q u hu => ?_, (fun h => by cases h)⟩, fun _ => hblk⟩
    have hi' : i < len := by simpa [RowC.len] using hi
    have c0 := hT i hi'
    simp only [RowC.get, hget i hi'] at hu
    simp only [RowC.sz]
    rcases q with _ | q
    · cases hu; simpa using c0
    · simp at hu

end E
end Go.Proofs.Ytgaeakmdibnjmaa
