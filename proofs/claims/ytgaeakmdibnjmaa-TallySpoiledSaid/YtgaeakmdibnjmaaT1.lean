/- The types of this program that the executor needs. -/
import Derived.Test.YtgaeakmdibnjmaaEH
import Derived.Test.YtgaeakmdibnjmaaProg
namespace Go.Proofs.Ytgaeakmdibnjmaa
namespace E
open Go

def eqTally : List SV → List SV → Option Bool
  | [.v (.int .i64 a), .v (.int .i64 b), .v (.int .i64 c)], [.v (.int .i64 a'), .v (.int .i64 b'), .v (.int .i64 c')] => some (decide (a = a') && (decide (b = b') && decide (c = c')))
  | _, _ => none

def tys : Tys
  | 3 => some ⟨.int .i64, 1, [.int .i64 0], none⟩
  | 4 => some ⟨.bool, 1, [.bool false], none⟩
  | 5 => some ⟨.int .u8, 1, [.int .u8 0], none⟩
  | 22 => some ⟨.slice 38 3 .tally, 1, [.slice none 0 0], none⟩
  | 24 => some ⟨.struct [(0, 3, 1), (1, 3, 1)], 2, [.int .i64 0, .int .i64 0], none⟩
  | 27 => some ⟨.int .i64, 1, [.int .i64 0], none⟩
  | 38 => some ⟨.struct [(0, 3, 1), (1, 3, 1), (2, 3, 1)], 3, [.int .i64 0, .int .i64 0, .int .i64 0], some eqTally⟩
  | 39 => some ⟨.slice 3 1 (.ints .i64), 1, [.slice none 0 0], none⟩
  | 43 => some ⟨.int .u64, 1, [.int .u64 0], none⟩
  | 61 => some ⟨.slice 27 1 (.ints .i64), 1, [.slice none 0 0], none⟩
  | 51 => some ⟨.func, 1, [.nilFunc], none⟩
  | _ => none

theorem eq_int {P : Program} {t : Nat} {k : IntKind} (hd : P.underlying t = some (.int k)) (d : Nat) (a b : Int) (w : World) : (Op.equalIn (d + 1) t (.int k a) (.int k b)).run P w = .ok (decide (a = b)) w := by
  rw [Op.equalIn, Sem.run_bind, run_underlying hd]
  simp only [Result.andThen_ok, if_true, Sem.run_pure]
  rfl

theorem eq_tally {β : Names} {xs ys : List SV} {b : Bool} {u v : Value} (h : eqTally xs ys = some b) (hu : R β (.agg xs) u) (hv : R β (.agg ys) v) (w : World) : (Op.equal 38 u v).run Try.prog w = .ok b w ∧ ∀ x y, (eqGuard .eql 38 x y u v).run Try.prog w = .ok () w := by
  unfold eqTally at h
  split at h
  · rename_i a1 a2 a3 b1 b2 b3
    cases h
    obtain ⟨us, rfl, hl, hr, _⟩ := hu
    obtain ⟨vs, rfl, hl', hr', _⟩ := hv
    obtain ⟨u0, u1, u2, rfl⟩ : ∃ a b c, us = [a, b, c] := by
      rcases us with _ | ⟨a, _ | ⟨b, _ | ⟨c, _ | _⟩⟩⟩ <;> simp at hl; exact ⟨a, b, c, rfl⟩
    obtain ⟨v0, v1, v2, rfl⟩ : ∃ a b c, vs = [a, b, c] := by
      rcases vs with _ | ⟨a, _ | ⟨b, _ | ⟨c, _ | _⟩⟩⟩ <;> simp at hl'; exact ⟨a, b, c, rfl⟩
    obtain ⟨_, e, rfl⟩ := hr 0 _ rfl; cases e
    obtain ⟨_, e, rfl⟩ := hr 1 _ rfl; cases e
    obtain ⟨_, e, rfl⟩ := hr 2 _ rfl; cases e
    obtain ⟨_, e, rfl⟩ := hr' 0 _ rfl; cases e
    obtain ⟨_, e, rfl⟩ := hr' 1 _ rfl; cases e
    obtain ⟨_, e, rfl⟩ := hr' 2 _ rfl; cases e
    have hagg : (Try.prog.underlying 3) = some (.int .i64) := Try.underlying3
    refine ⟨?_, fun x y => run_eqGuard_agg w .eql 38 x y _ _ (by kernel_rfl)⟩
    unfold Op.equal Op.maxDepth
    rw [run_equalIn_struct (P := Try.prog) w 9999 38 _ _ (by kernel_rfl) (by kernel_rfl)]
    simp only [Program.fieldsOf, Try.underlying38]
    simp [Op.eqFields, part, eq_int hagg]
    by_cases e1 : a1 = b1 <;> by_cases e2 : a2 = b2 <;> by_cases e3 : a3 = b3 <;> simp [e1, e2, e3]
  · cases h

theorem tys_ok : TysOK Try.prog tys := by
  intro t i h
  unfold tys at h
  split at h <;> cases h
  · exact ⟨by kernel_rfl, ⟨.int .i64 0, by kernel_rfl, rfl, rfl⟩, rfl, by kernel_rfl, ⟨_, Try.underlying3, rfl⟩, fun f hf => by cases hf⟩
  · exact ⟨by kernel_rfl, ⟨.bool false, by kernel_rfl, rfl, rfl⟩, rfl, by kernel_rfl, ⟨_, Try.underlying4, rfl⟩, fun f hf => by cases hf⟩
  · exact ⟨by kernel_rfl, ⟨.int .u8 0, by kernel_rfl, rfl, rfl⟩, rfl, by kernel_rfl, ⟨_, Try.underlying5, rfl⟩, fun f hf => by cases hf⟩
  · exact ⟨by kernel_rfl, ⟨.slice none 0 0, by kernel_rfl, rfl, rfl⟩, rfl, by kernel_rfl, ⟨_, Try.underlying22, rfl, by kernel_rfl⟩, fun f hf => by cases hf⟩
  · exact ⟨by kernel_rfl, ⟨.agg #[.int .i64 0, .int .i64 0], by kernel_rfl, rfl, rfl⟩, rfl, by kernel_rfl, ⟨_, Try.underlying24, _, rfl, by kernel_rfl⟩, fun f hf => by cases hf⟩
  · exact ⟨by kernel_rfl, ⟨.int .i64 0, by kernel_rfl, rfl, rfl⟩, rfl, by kernel_rfl, ⟨_, Try.underlying27, rfl⟩, fun f hf => by cases hf⟩
  · exact ⟨by kernel_rfl, ⟨.agg #[.int .i64 0, .int .i64 0, .int .i64 0], by kernel_rfl, rfl, rfl⟩, rfl, by kernel_rfl, ⟨_, Try.underlying38, _, rfl, by kernel_rfl⟩, fun f hf => by cases hf; exact fun β xs ys b u v w h hu hv => eq_tally h hu hv w⟩
  · exact ⟨by kernel_rfl, ⟨.slice none 0 0, by kernel_rfl, rfl, rfl⟩, rfl, by kernel_rfl, ⟨_, Try.underlying39, rfl, by kernel_rfl⟩, fun f hf => by cases hf⟩
  · exact ⟨by kernel_rfl, ⟨.int .u64 0, by kernel_rfl, rfl, rfl⟩, rfl, by kernel_rfl, ⟨_, Try.underlying43, rfl⟩, fun f hf => by cases hf⟩
  · exact ⟨by kernel_rfl, ⟨.slice none 0 0, by kernel_rfl, rfl, rfl⟩, rfl, by kernel_rfl, ⟨_, Try.underlying61, rfl, by kernel_rfl⟩, fun f hf => by cases hf⟩
  · exact ⟨by kernel_rfl, ⟨.nilFunc, by kernel_rfl, rfl, rfl⟩, rfl, by kernel_rfl, ⟨_, Try.underlying51, _, _, _, rfl⟩, fun f hf => by cases hf⟩

end E
end Go.Proofs.Ytgaeakmdibnjmaa
