/- Arguments that are slices of Tally, opened for the executor. It states nothing about the program. -/
import Derived.Test.YtgaeakmdibnjmaaT1
import Derived.Deep.Slices
import Derived.ChangeArms
import Derived.ProofKit
namespace Go.Proofs.Ytgaeakmdibnjmaa
namespace E
open Go Go.ChangeShapes Go.WideShapes Go.RowKit Go.Deep

theorem cells?_three {w : World} {base : Nat} {b o : Nat} {cs : List Value} (h : w.cells? base ⟨b, o, none⟩ 3 = some cs) : ∃ x y z, cs = [x, y, z] ∧ w.cell? ⟨b, o, none⟩ = some x ∧ w.cell? ⟨b, o + 1, none⟩ = some y ∧ w.cell? ⟨b, o + 2, none⟩ = some z := by
  obtain ⟨_, hlen, hc⟩ := World.cells?_some h
  obtain ⟨x, y, z, rfl⟩ : ∃ x y z, cs = [x, y, z] := by
    rcases cs with _ | ⟨x, _ | ⟨y, _ | ⟨z, _ | _⟩⟩⟩ <;> simp at hlen; exact ⟨x, y, z, rfl⟩
  have h0 := hc 0 (by omega)
  have h1 := hc 1 (by omega)
  have h2 := hc 2 (by omega)
  rw [addr_add] at h0 h1 h2
  exact ⟨x, y, z, rfl, by simpa using h0, by simpa using h1, by simpa using h2⟩

theorem open_tally {H : Type} {enc : TypeId × Value → H} {W : World} {base base' : Nat} {spare : Nat → Bool} {held : Bool} {v : Value} {d : DataW H} {ps : List MemPlace} (hv : Value.okWide Try.prog W .any base' 22 v) (h : DataW.Trod enc Try.prog W base spare held 22 v d ps) :
    ∃ (l : List Tally) (r : Ref), v = .slice r.base r.n r.cap ∧ (∀ β, SatC β W false r (.row 38 (.tally l))) ∧ (solid r (.row 38 (.tally l)) → r.blk < W.heap.size) := by
  obtain ⟨A, len, cap, rfl⟩ := okWide_slice Try.underlying22 hv
  obtain ⟨fuel, hf⟩ := h
  rcases open_slice Try.underlying22 hf with ⟨hcs, _⟩ | ⟨a, len', cap', m, n, D, Pl, hcs, _, hl, hm, hmm, _, hx⟩
  · simp [Value.cells] at hcs
    obtain ⟨rfl, rfl, rfl⟩ := hcs
    exact ⟨[], ⟨0, 0, true, 0, 0, 3⟩, rfl, fun β => ⟨rfl, rfl, Nat.le_refl _, fun _ => rfl, fun i hi => by simp [RowC.len] at hi, fun h => by cases h⟩, fun h => by cases h.1⟩
  · simp [Value.cells] at hcs
    obtain ⟨rfl, rfl, rfl⟩ := hcs
    have hok : len ≤ cap ∧ (cap : Int) ≤ IntKind.i64.max ∧ W.has Try.prog .any base' a 38 cap := by
      have := hv
      simp only [Value.okWide, Try.underlying22, Cell.okWide, Cell.ok] at this
      exact this
    obtain ⟨_, _, _, hspot, row, cells, hshape, _⟩ := hok
    obtain ⟨b, o, s⟩ := a
    simp only at hspot hshape
    subst hspot
    have hblk : b < W.heap.size := by
      unfold World.shape? at hshape
      split at hshape
      · rename_i hh; exact (Array.getElem?_eq_some_iff.1 hh).1
      · cases hshape
    have hce : Try.prog.cellsOf 38 = 3 := by kernel_rfl
    have key : ∀ i, i < len → ∃ t : Tally, W.cell? ⟨b, o + i * 3, none⟩ = some (.int .i64 t.dev) ∧ W.cell? ⟨b, o + i * 3 + 1, none⟩ = some (.int .i64 t.seq) ∧ W.cell? ⟨b, o + i * 3 + 2, none⟩ = some (.int .i64 t.n) := fun i hi => by
      obtain ⟨cs', h1, h2⟩ := hx i (by rw [hmm]; split <;> omega)
      rw [hce, addr_add] at h1
      obtain ⟨x, y, z, rfl, c0, c1, c2⟩ := cells?_three h1
      obtain ⟨xs, k, _, _, _, hxl, hfl⟩ := DataW.trod_struct Try.underlying38 h2
      have hc3 : Try.prog.cellsOf 3 = 1 := by kernel_rfl
      have g0 : DataW.trod enc Try.prog W base spare held k 3 [x] = xs[0]? := by
        have := hfl 0 _ rfl
        change DataW.trod enc Try.prog W base spare held k 3 ((([x, y, z] : List Value).drop 0).take (Try.prog.cellsOf 3)) = xs[0]? at this
        rw [hc3] at this
        exact this
      have g1 : DataW.trod enc Try.prog W base spare held k 3 [y] = xs[1]? := by
        have := hfl 1 _ rfl
        change DataW.trod enc Try.prog W base spare held k 3 ((([x, y, z] : List Value).drop 1).take (Try.prog.cellsOf 3)) = xs[1]? at this
        rw [hc3] at this
        exact this
      have g2 : DataW.trod enc Try.prog W base spare held k 3 [z] = xs[2]? := by
        have := hfl 2 _ rfl
        change DataW.trod enc Try.prog W base spare held k 3 ((([x, y, z] : List Value).drop 2).take (Try.prog.cellsOf 3)) = xs[2]? at this
        rw [hc3] at this
        exact this
      have hsz : xs.length = 3 := hxl
      rw [List.getElem?_eq_getElem (by omega)] at g0 g1 g2
      obtain ⟨n0, e0, _⟩ := DataW.trod_int Try.underlying3 g0
      obtain ⟨n1, e1, _⟩ := DataW.trod_int Try.underlying3 g1
      obtain ⟨n2, e2, _⟩ := DataW.trod_int Try.underlying3 g2
      simp only [List.cons.injEq, and_true] at e0 e1 e2
      subst e0; subst e1; subst e2
      exact ⟨⟨n0, n1, n2⟩, c0, c1, c2⟩
    obtain ⟨T, hT⟩ := choose_lt key
    have hget : ∀ i, i < len → ((List.range len).map T).getD i default = T i := fun i hi => by simp [List.getD, hi]
    refine ⟨(List.range len).map T, ⟨b, o, false, cap, len, 3⟩, rfl, fun β => ⟨by simp [RowC.len], rfl, by simpa [RowC.len] using hl, (fun h => by cases h), fun i hi q u hu => ?_, (fun h => by cases h)⟩, fun _ => hblk⟩
    have hi' : i < len := by simpa [RowC.len] using hi
    obtain ⟨c0, c1, c2⟩ := hT i hi'
    simp only [RowC.get, hget i hi'] at hu
    simp only [RowC.sz]
    rcases q with _ | _ | _ | q
    · cases hu; exact c0
    · cases hu; exact c1
    · cases hu; exact c2
    · simp at hu

/-- The rows at the entry of a function. -/
theorem entry_sat {P : Program} {W : World} (rows : List (TypeId × RowC)) (refs : List Ref) (hl : refs.length = rows.length)
    (h : ∀ (i : Nat) (t : TypeId) (c : RowC) (r : Ref), rows[i]? = some (t, c) → refs[i]? = some r → (∀ β, SatC β W false r (.row t c)) ∧ (solid r (.row t c) → r.blk < W.heap.size)) :
    SatH ⟨P, W, fun _ => False, fun p => refs[p]?, rows.length⟩ (fun p => refs[p]?) (inH 0 rows) W := by
  refine ⟨⟨rfl, rfl, rfl, Nat.le_refl _, fun _ _ _ => rfl⟩, fun _ h => h.elim, fun p o ch hp => ?_, fun p o c o' c' h1 h2 => by rw [(mem_inH h1).1, (mem_inH h2).1], fun p q cp cq rp rq hp => by have := (mem_inH hp).1; cases this⟩
  obtain ⟨rfl, i, t, c, hi, rfl, rfl⟩ := mem_inH hp
  rw [Nat.zero_add]
  have hlt : i < refs.length := by rw [hl]; exact (List.getElem?_eq_some_iff.1 hi).1
  obtain ⟨h1, h2⟩ := h i t c refs[i] hi (List.getElem?_eq_getElem hlt)
  exact ⟨refs[i], List.getElem?_eq_getElem hlt, h1 _, by simp only [Lies, Bool.false_eq_true, if_false]; exact fun hso => ⟨h2 hso, fun h => h⟩⟩

theorem spec_calls {P : Program} {f : FuncId} {rows : List (TypeId × RowC)} {k : Nat} {args : List SV} {x : Value} (hsp : Spec P f (inH 0 rows) k args (.v x) []) (hk : k = rows.length) {W : World} (refs : List Ref) (hl : refs.length = rows.length)
    (h : ∀ (i : Nat) (t : TypeId) (c : RowC) (r : Ref), rows[i]? = some (t, c) → refs[i]? = some r → (∀ β, SatC β W false r (.row t c)) ∧ (solid r (.row t c) → r.blk < W.heap.size)) {vs : List Value} (hvs : RL (fun p => refs[p]?) args vs) :
    Calls P f vs.toArray W fun e W' => e = .returned x ∧ Below W.heap.size W W' := by
  subst hk
  refine (hsp.out _ W (entry_sat rows refs hl h) (fun p hp => List.getElem?_eq_none (by omega)) vs hvs).mono ?_
  rintro e W' ⟨β', u, rfl, _, hs', _, hR⟩
  obtain rfl : u = x := hR
  exact ⟨rfl, hs'.fr.os, hs'.fr.tape, hs'.fr.output, hs'.fr.size, fun k hk => hs'.fr.block k hk (fun h => h)⟩

end E
end Go.Proofs.Ytgaeakmdibnjmaa
