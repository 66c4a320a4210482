/- Arguments that are cells, IDs and slices of cells or bytes, opened for the executor. It states nothing about the program. -/
import Derived.Test.YtlkchnfgeedghaaS9
import Derived.Deep.Slices
import Derived.ChangeArms
import Derived.ChangeMaps5
import Derived.ProofKit
import Derived.WalkKit
import Derived.OpenShut
import Derived.ChangeOld
import Derived.Below
set_option linter.unusedVariables false
namespace Go.Proofs.Ytlkchnfgeedghaa
namespace E
open Go Go.ChangeShapes Go.WideShapes Go.RowKit Go.Deep

section
variable {H : Type} {enc : TypeId × Value → H} {W : World} {base : Nat} {spare : Nat → Bool} {held : Bool}

theorem trod_intc {k : Nat} {x : Value} {d : DataW H × List MemPlace} (h : DataW.trod enc Try.prog W base spare held k 3 [x] = some d) : ∃ n, x = .int .i64 n := by
  obtain ⟨n, e, _⟩ := DataW.trod_int Try.underlying3 h
  simp only [List.cons.injEq, and_true] at e
  exact ⟨n, e⟩
theorem trod_id {fuel : Nat} {cs : List Value} {d : DataW H × List MemPlace} (h : DataW.trod enc Try.prog W base spare held fuel 31 cs = some d) : ∃ i : Id3, cs = [.int .i64 i.dev, .int .i64 i.seq, .int .i64 i.pos] := by
  obtain ⟨xs, k, _, _, hl, hxl, hf⟩ := DataW.trod_struct Try.underlying31 h
  have hce : Try.prog.cellsOf 31 = 3 := by kernel_rfl
  rw [hce] at hl
  obtain ⟨x, y, z, rfl⟩ : ∃ x y z, cs = [x, y, z] := by
    rcases cs with _ | ⟨x, _ | ⟨y, _ | ⟨z, _ | _⟩⟩⟩ <;> simp at hl; exact ⟨x, y, z, rfl⟩
  have hc : Try.prog.cellsOf 3 = 1 := by kernel_rfl
  have hx3 : xs.length = 3 := hxl
  have g0 : DataW.trod enc Try.prog W base spare held k 3 [x] = xs[0]? := by
    have := hf 0 _ rfl
    change DataW.trod enc Try.prog W base spare held k 3 ((([x, y, z] : List Value).drop 0).take (Try.prog.cellsOf 3)) = xs[0]? at this
    rw [hc] at this
    exact this
  have g1 : DataW.trod enc Try.prog W base spare held k 3 [y] = xs[1]? := by
    have := hf 1 _ rfl
    change DataW.trod enc Try.prog W base spare held k 3 ((([x, y, z] : List Value).drop 1).take (Try.prog.cellsOf 3)) = xs[1]? at this
    rw [hc] at this
    exact this
  have g2 : DataW.trod enc Try.prog W base spare held k 3 [z] = xs[2]? := by
    have := hf 2 _ rfl
    change DataW.trod enc Try.prog W base spare held k 3 ((([x, y, z] : List Value).drop 2).take (Try.prog.cellsOf 3)) = xs[2]? at this
    rw [hc] at this
    exact this
  rw [List.getElem?_eq_getElem (by omega)] at g0 g1 g2
  obtain ⟨a, rfl⟩ := trod_intc g0
  obtain ⟨b, rfl⟩ := trod_intc g1
  obtain ⟨c, rfl⟩ := trod_intc g2
  exact ⟨⟨a, b, c⟩, rfl⟩
theorem trod_cell {fuel : Nat} {cs : List Value} {d : DataW H × List MemPlace} (h : DataW.trod enc Try.prog W base spare held fuel 33 cs = some d) : ∃ c : Cell, cs = encC c := by
  obtain ⟨xs, k, _, _, hl, hxl, hf⟩ := DataW.trod_struct Try.underlying33 h
  have hce : Try.prog.cellsOf 33 = 9 := by kernel_rfl
  rw [hce] at hl
  obtain ⟨a, b, c, d, e, f, g, s, u, rfl⟩ : ∃ a b c d e f g s u, cs = [a, b, c, d, e, f, g, s, u] := by
    rcases cs with _ | ⟨a, _ | ⟨b, _ | ⟨c, _ | ⟨d, _ | ⟨e, _ | ⟨f, _ | ⟨g, _ | ⟨s, _ | ⟨u, _ | _⟩⟩⟩⟩⟩⟩⟩⟩⟩ <;> simp at hl
    exact ⟨a, b, c, d, e, f, g, s, u, rfl⟩
  have hc1 : Try.prog.cellsOf 3 = 1 := by kernel_rfl
  have hc3 : Try.prog.cellsOf 31 = 3 := by kernel_rfl
  have hcs : Try.prog.cellsOf 9 = 1 := by kernel_rfl
  have hcb : Try.prog.cellsOf 4 = 1 := by kernel_rfl
  have hx5 : xs.length = 5 := hxl
  have g0 : DataW.trod enc Try.prog W base spare held k 31 [a, b, c] = xs[0]? := by
    have := hf 0 _ rfl
    change DataW.trod enc Try.prog W base spare held k 31 ((([a, b, c, d, e, f, g, s, u] : List Value).drop 0).take (Try.prog.cellsOf 31)) = xs[0]? at this
    rw [hc3] at this
    exact this
  have g1 : DataW.trod enc Try.prog W base spare held k 31 [d, e, f] = xs[1]? := by
    have := hf 1 _ rfl
    change DataW.trod enc Try.prog W base spare held k 31 ((([a, b, c, d, e, f, g, s, u] : List Value).drop 3).take (Try.prog.cellsOf 31)) = xs[1]? at this
    rw [hc3] at this
    exact this
  have g2 : DataW.trod enc Try.prog W base spare held k 3 [g] = xs[2]? := by
    have := hf 2 _ rfl
    change DataW.trod enc Try.prog W base spare held k 3 ((([a, b, c, d, e, f, g, s, u] : List Value).drop 6).take (Try.prog.cellsOf 3)) = xs[2]? at this
    rw [hc1] at this
    exact this
  have g3 : DataW.trod enc Try.prog W base spare held k 9 [s] = xs[3]? := by
    have := hf 3 _ rfl
    change DataW.trod enc Try.prog W base spare held k 9 ((([a, b, c, d, e, f, g, s, u] : List Value).drop 7).take (Try.prog.cellsOf 9)) = xs[3]? at this
    rw [hcs] at this
    exact this
  have g4 : DataW.trod enc Try.prog W base spare held k 4 [u] = xs[4]? := by
    have := hf 4 _ rfl
    change DataW.trod enc Try.prog W base spare held k 4 ((([a, b, c, d, e, f, g, s, u] : List Value).drop 8).take (Try.prog.cellsOf 4)) = xs[4]? at this
    rw [hcb] at this
    exact this
  rw [List.getElem?_eq_getElem (by omega)] at g0 g1 g2 g3 g4
  obtain ⟨i, e1⟩ := trod_id g0
  obtain ⟨j, e2⟩ := trod_id g1
  obtain ⟨t, e3⟩ := trod_intc g2
  obtain ⟨v, e4, _⟩ := DataW.trod_string Try.underlying9 g3
  obtain ⟨w, e5, _⟩ := DataW.trod_bool Try.underlying4 g4
  simp only [List.cons.injEq, and_true] at e1 e2 e4 e5
  obtain ⟨rfl, rfl, rfl⟩ := e1
  obtain ⟨rfl, rfl, rfl⟩ := e2
  subst e3 e4 e5
  exact ⟨⟨i, j, t, v, w⟩, rfl⟩

theorem open_cells {base' : Nat} {v : Value} {d : DataW H} {ps : List MemPlace} (hv : Value.okWide Try.prog W .any base' 22 v) (h : DataW.Trod enc Try.prog W base spare held 22 v d ps) :
    ∃ (l : List Cell) (r : Ref), v = .slice r.base r.n r.cap ∧ (∀ β, SatC β W false r (.row 33 (.cell l))) ∧ (solid r (.row 33 (.cell l)) → r.blk < W.heap.size) := by
  obtain ⟨A, len, cap, rfl⟩ := okWide_slice Try.underlying22 hv
  obtain ⟨fuel, hf⟩ := h
  rcases open_slice Try.underlying22 hf with ⟨hcs, _⟩ | ⟨a, len', cap', m, n, D, Pl, hcs, _, hl, hm, hmm, _, hx⟩
  · simp [Value.cells] at hcs
    obtain ⟨rfl, rfl, rfl⟩ := hcs
    exact ⟨[], ⟨0, 0, true, 0, 0, 9⟩, rfl, fun β => ⟨rfl, rfl, Nat.le_refl _, fun _ => rfl, fun i hi => by simp [RowC.len] at hi, fun h => by cases h⟩, fun h => by cases h.1⟩
  · simp [Value.cells] at hcs
    obtain ⟨rfl, rfl, rfl⟩ := hcs
    have hok : len ≤ cap ∧ (cap : Int) ≤ IntKind.i64.max ∧ W.has Try.prog .any base' a 33 cap := by
      have := hv
      simp only [Value.okWide, Try.underlying22, Cell.okWide, Cell.ok] at this
      exact this
    obtain ⟨_, _, _, hspot, row, cells, hshape, _⟩ := hok
    obtain ⟨b, o, s⟩ := a
    simp only at hspot hshape
    subst hspot
    have hblk : b < W.heap.size := by
      unfold World.shape? at hshape
      split at hshape
      · rename_i hh; exact (Array.getElem?_eq_some_iff.1 hh).1
      · cases hshape
    have hce : Try.prog.cellsOf 33 = 9 := by kernel_rfl
    have key : ∀ i, i < len → ∃ t : Cell, ∀ (q : Nat) (u : Value), (encC t)[q]? = some u → W.cell? ⟨b, o + i * 9 + q, none⟩ = some u := fun i hi => by
      obtain ⟨cs', h1, h2⟩ := hx i (by rw [hmm]; split <;> omega)
      rw [hce, addr_add] at h1
      obtain ⟨t, rfl⟩ := trod_cell h2
      obtain ⟨_, hlen, hc⟩ := World.cells?_some h1
      refine ⟨t, fun q u hu => ?_⟩
      have hq : q < (encC t).length := (List.getElem?_eq_some_iff.1 hu).1
      have := hc q (by rw [← hlen]; exact hq)
      rw [addr_add] at this
      rw [this]
      rw [List.getElem?_eq_getElem hq] at hu
      simpa [List.getD, hq] using hu
    obtain ⟨T, hT⟩ := choose_lt key
    have hget : ∀ i, i < len → ((List.range len).map T).getD i default = T i := fun i hi => by simp [List.getD, hi]
    refine ⟨(List.range len).map T, ⟨b, o, false, cap, len, 9⟩, rfl, fun β => ⟨by simp [RowC.len], rfl, by simpa [RowC.len] using hl, (fun h => by cases h), fun i hi q u hu => ?_, (fun h => by cases h)⟩, fun _ => hblk⟩
    have hi' : i < len := by simpa [RowC.len] using hi
    rw [encC_get, hget i hi'] at hu
    exact hT i hi' q u hu

theorem open_id {base' : Nat} {v : Value} {d : DataW H} {ps : List MemPlace} (hv : Value.okWide Try.prog W .any base' 31 v) (h : DataW.Trod enc Try.prog W base spare held 31 v d ps) :
    ∃ i : Id3, v = .agg #[.int .i64 i.dev, .int .i64 i.seq, .int .i64 i.pos] := by
  have hok : ∃ cs, v = .agg cs ∧ cs.size = Try.prog.cellsOf 31 ∧ Row.okWide Try.prog W .any base' 31 cs := by
    have := hv
    simp only [Value.okWide, Try.underlying31] at this
    exact this
  obtain ⟨cs, rfl, hsz, _⟩ := hok
  obtain ⟨fuel, hf⟩ := h
  obtain ⟨i, e⟩ := trod_id hf
  refine ⟨i, ?_⟩
  have e : cs.toList = _ := e
  rw [← Array.toArray_toList (xs := cs), e]
theorem open_cell {base' : Nat} {v : Value} {d : DataW H} {ps : List MemPlace} (hv : Value.okWide Try.prog W .any base' 33 v) (h : DataW.Trod enc Try.prog W base spare held 33 v d ps) :
    ∃ c : Cell, v = .agg (encC c).toArray := by
  have hok : ∃ cs, v = .agg cs ∧ cs.size = Try.prog.cellsOf 33 ∧ Row.okWide Try.prog W .any base' 33 cs := by
    have := hv
    simp only [Value.okWide, Try.underlying33] at this
    exact this
  obtain ⟨cs, rfl, hsz, _⟩ := hok
  obtain ⟨fuel, hf⟩ := h
  obtain ⟨i, e⟩ := trod_cell hf
  refine ⟨i, ?_⟩
  have e : cs.toList = _ := e
  rw [← Array.toArray_toList (xs := cs), e]
end
theorem R_vals {β : Names} : ∀ {us : List Value}, (∀ u ∈ us, u.oneCell' = true) → R β (.agg (us.map .v)) (.agg us.toArray) := fun {us} h => by
  refine ⟨us, rfl, by simp, fun i s hi => ?_, h⟩
  simp only [List.getElem?_map, Option.map_eq_some_iff] at hi
  obtain ⟨u, hu, rfl⟩ := hi
  exact ⟨u, hu, rfl⟩
theorem R_id {β : Names} (i : Id3) : R β (.agg (idS i)) (.agg #[.int .i64 i.dev, .int .i64 i.seq, .int .i64 i.pos]) := R_vals (us := [.int .i64 i.dev, .int .i64 i.seq, .int .i64 i.pos]) fun u hu => by
  simp at hu; rcases hu with rfl | rfl | rfl <;> rfl
theorem R_cell {β : Names} (c : Cell) : R β (.agg (cellS c)) (.agg (encC c).toArray) := R_vals (us := encC c) (encC_one c)

/-- The rows at the entry of a function. -/
theorem entry_sat {P : Program} {W : World} (rows : List (TypeId × RowC)) (refs : List Ref) (hl : refs.length = rows.length)
    (h : ∀ (i : Nat) (t : TypeId) (c : RowC) (r : Ref), rows[i]? = some (t, c) → refs[i]? = some r → (∀ β, SatC β W false r (.row t c)) ∧ (solid r (.row t c) → r.blk < W.heap.size)) :
    SatH ⟨P, W, fun _ => False, fun p => refs[p]?, rows.length⟩ (fun p => refs[p]?) (inH 0 rows) W := by
  refine ⟨⟨rfl, rfl, rfl, Nat.le_refl _, fun _ _ _ => rfl, Nat.le_refl _⟩, fun _ h => h.elim, fun p o ch hp => ?_, fun p o c o' c' h1 h2 => by rw [(mem_inH h1).1, (mem_inH h2).1], fun p q cp cq rp rq hp => (by have := (mem_inH hp).1; cases this), fun p o c r k hp hr hk => ?_⟩
  · obtain ⟨rfl, i, t, c, hi, rfl, rfl⟩ := mem_inH hp
    rw [Nat.zero_add]
    have hlt : i < refs.length := by rw [hl]; exact (List.getElem?_eq_some_iff.1 hi).1
    obtain ⟨h1, h2⟩ := h i t c refs[i] hi (List.getElem?_eq_getElem hlt)
    exact ⟨refs[i], List.getElem?_eq_getElem hlt, h1 _, by simp only [Lies, Bool.false_eq_true, if_false]; exact fun hso => ⟨h2 hso, fun h => h⟩⟩
  · obtain ⟨_, i, t, c', _, _, rfl⟩ := mem_inH hp
    cases hk

theorem spec_calls {P : Program} {f : FuncId} {rows : List (TypeId × RowC)} {k : Nat} {args : List SV} {x : Value} (hsp : Spec P f (inH 0 rows) k args (.v x) []) (hk : k = rows.length) {W : World} (refs : List Ref) (hl : refs.length = rows.length)
    (h : ∀ (i : Nat) (t : TypeId) (c : RowC) (r : Ref), rows[i]? = some (t, c) → refs[i]? = some r → (∀ β, SatC β W false r (.row t c)) ∧ (solid r (.row t c) → r.blk < W.heap.size)) {vs : List Value} (hvs : RL (fun p => refs[p]?) args vs) :
    Calls P f vs.toArray W fun e W' => e = .returned x ∧ Below W.heap.size W W' := by
  subst hk
  refine (hsp.out _ W (entry_sat rows refs hl h) (fun p hp => List.getElem?_eq_none (by omega)) vs hvs).mono ?_
  rintro e W' ⟨β', u, rfl, _, hs', _, hR⟩
  obtain rfl : u = x := hR
  exact ⟨rfl, hs'.fr.os, hs'.fr.tape, hs'.fr.output, hs'.fr.size, fun k hk => hs'.fr.block k hk (fun h => h)⟩

theorem wf_u8 {n : Int} (h : (Lit.int .u8 n).wf = true) : 0 ≤ n ∧ n ≤ 255 := by
  simp only [Lit.wf, Bool.and_eq_true, decide_eq_true_eq] at h
  have h1 : IntKind.u8.min = 0 := rfl
  have h2 : IntKind.u8.max = 255 := rfl
  omega
theorem open_bytes {H : Type} {enc : TypeId × Value → H} {W : World} {base : Nat} {spare : Nat → Bool} {held : Bool} {base' : Nat} {v : Value} {d : DataW H} {ps : List MemPlace} (hv : Value.okWide Try.prog W .any base' 44 v) (h : DataW.Trod enc Try.prog W base spare held 44 v d ps) :
    ∃ (l : List Int) (r : Ref), v = .slice r.base r.n r.cap ∧ (∀ β, SatC β W false r (.row 5 (.ints .u8 l))) ∧ (solid r (.row 5 (.ints .u8 l)) → r.blk < W.heap.size) ∧ ∀ i, 0 ≤ l.getD i 0 ∧ l.getD i 0 ≤ 255 := by
  obtain ⟨A, len, cap, rfl⟩ := okWide_slice Try.underlying44 hv
  obtain ⟨fuel, hf⟩ := h
  rcases open_slice Try.underlying44 hf with ⟨hcs, _⟩ | ⟨a, len', cap', m, n, D, Pl, hcs, _, hl, hm, hmm, _, hx⟩
  · simp [Value.cells] at hcs
    obtain ⟨rfl, rfl, rfl⟩ := hcs
    exact ⟨[], ⟨0, 0, true, 0, 0, 1⟩, rfl, fun β => ⟨rfl, rfl, Nat.le_refl _, fun _ => rfl, fun i hi => by simp [RowC.len] at hi, fun h => by cases h⟩, (fun h => by cases h.1), fun i => by simp⟩
  · simp [Value.cells] at hcs
    obtain ⟨rfl, rfl, rfl⟩ := hcs
    have hok : len ≤ cap ∧ (cap : Int) ≤ IntKind.i64.max ∧ W.has Try.prog .any base' a 5 cap := by
      have := hv
      simp only [Value.okWide, Try.underlying44, Cell.okWide, Cell.ok] at this
      exact this
    obtain ⟨_, _, _, hspot, row, cells, hshape, _⟩ := hok
    obtain ⟨b, o, s⟩ := a
    simp only at hspot hshape
    subst hspot
    have hblk : b < W.heap.size := by
      unfold World.shape? at hshape
      split at hshape
      · rename_i hh; exact (Array.getElem?_eq_some_iff.1 hh).1
      · cases hshape
    have hce : Try.prog.cellsOf 5 = 1 := by kernel_rfl
    have key : ∀ i, i < len → ∃ t : Int, W.cell? ⟨b, o + i, none⟩ = some (.int .u8 t) ∧ 0 ≤ t ∧ t ≤ 255 := fun i hi => by
      obtain ⟨cs', h1, h2⟩ := hx i (by rw [hmm]; split <;> omega)
      rw [hce, addr_add, Nat.mul_one] at h1
      obtain ⟨_, hlen, hc⟩ := World.cells?_some h1
      obtain ⟨x, rfl⟩ : ∃ x, cs' = [x] := by
        rcases cs' with _ | ⟨x, _ | _⟩ <;> simp at hlen; exact ⟨x, rfl⟩
      have h0 := hc 0 (by omega)
      rw [addr_add] at h0
      obtain ⟨n0, e0, _, hw⟩ := DataW.trod_int Try.underlying5 h2
      simp only [List.cons.injEq, and_true] at e0
      subst e0
      exact ⟨n0, by simpa using h0, wf_u8 hw⟩
    obtain ⟨T, hT⟩ := choose_lt key
    have hget : ∀ i, i < len → ((List.range len).map T).getD i 0 = T i := fun i hi => by simp [List.getD, hi]
    refine ⟨(List.range len).map T, ⟨b, o, false, cap, len, 1⟩, rfl, fun β => ⟨by simp [RowC.len], rfl, by simpa [RowC.len] using hl, (fun h => by cases h), fun i hi q u hu => ?_, (fun h => by cases h)⟩, fun _ => hblk, fun i => ?_⟩
    · have hi' : i < len := by simpa [RowC.len] using hi
      have c0 := (hT i hi').1
      simp only [RowC.get, hget i hi'] at hu
      simp only [RowC.sz]
      rcases q with _ | q
      · cases hu; simpa using c0
      · simp at hu
    · rcases Nat.lt_or_ge i len with hi' | hi'
      · rw [hget i hi']; exact (hT i hi').2
      · rw [List.getD, List.getElem?_eq_none (by simpa using hi')]; simp
end E
theorem own : ownKnob Try.prog.godebug = none := by kernel_rfl
theorem laidOut : laidOutB Try.prog = true := by kernel_rfl
end Go.Proofs.Ytlkchnfgeedghaa
