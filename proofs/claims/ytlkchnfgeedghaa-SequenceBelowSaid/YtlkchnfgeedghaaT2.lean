/- The types of the Sequence statements that the executor needs. -/
import Derived.Test.YtlkchnfgeedghaaEI
import Derived.Test.YtlkchnfgeedghaaProg
import Derived.MapKept
namespace Go.Proofs.Ytlkchnfgeedghaa
namespace E
open Go

def eqId : List SV → List SV → Option Bool
  | [.v (.int .i64 a), .v (.int .i64 b), .v (.int .i64 c)], [.v (.int .i64 a'), .v (.int .i64 b'), .v (.int .i64 c')] => some (decide ((⟨a, b, c⟩ : Id3) = ⟨a', b', c'⟩))
  | _, _ => none
def eqCell : List SV → List SV → Option Bool
  | [.v (.int .i64 a), .v (.int .i64 b), .v (.int .i64 c), .v (.int .i64 d), .v (.int .i64 e), .v (.int .i64 f), .v (.int .i64 g), .v (.string s), .v (.bool h)],
    [.v (.int .i64 a'), .v (.int .i64 b'), .v (.int .i64 c'), .v (.int .i64 d'), .v (.int .i64 e'), .v (.int .i64 f'), .v (.int .i64 g'), .v (.string s'), .v (.bool h')] =>
      some (decide ((⟨⟨a, b, c⟩, ⟨d, e, f⟩, g, s, h⟩ : Cell) = ⟨⟨a', b', c'⟩, ⟨d', e', f'⟩, g', s', h'⟩))
  | _, _ => none

def tys : Tys
  | 3 => some ⟨.int .i64, 1, [.int .i64 0], none⟩
  | 4 => some ⟨.bool, 1, [.bool false], none⟩
  | 5 => some ⟨.int .u8, 1, [.int .u8 0], none⟩
  | 9 => some ⟨.str, 1, [.string ByteArray.empty], none⟩
  | 22 => some ⟨.slice 33 9 .cell, 1, [.slice none 0 0], none⟩
  | 25 => some ⟨.int .i64, 1, [.int .i64 0], none⟩
  | 31 => some ⟨.struct [(0, 3, 1), (1, 3, 1), (2, 3, 1)], 3, [.int .i64 0, .int .i64 0, .int .i64 0], some eqId⟩
  | 33 => some ⟨.struct [(0, 31, 3), (3, 31, 3), (6, 3, 1), (7, 9, 1), (8, 4, 1)], 9, [.int .i64 0, .int .i64 0, .int .i64 0, .int .i64 0, .int .i64 0, .int .i64 0, .int .i64 0, .string ByteArray.empty, .bool false], some eqCell⟩
  | 41 => some ⟨.slice 9 1 .strs, 1, [.slice none 0 0], none⟩
  | 44 => some ⟨.slice 5 1 (.ints .u8), 1, [.slice none 0 0], none⟩
  | 45 => some ⟨.slice 31 3 .ids, 1, [.slice none 0 0], none⟩
  | 69 => some ⟨.slice 3 1 (.ints .i64), 1, [.slice none 0 0], none⟩
  | 48 => some ⟨.map 31 4, 1, [.map none], none⟩
  | 47 => some ⟨.map 31 48, 1, [.map none], none⟩
  | 55 => some ⟨.map 57 3, 1, [.map none], none⟩
  | 54 => some ⟨.map 31 22, 1, [.map none], none⟩
  | 57 => some ⟨.struct [(0, 3, 1), (1, 3, 1)], 2, [.int .i64 0, .int .i64 0], none⟩
  | 61 => some ⟨.array 4 3 1, 4, [.int .i64 0, .int .i64 0, .int .i64 0, .int .i64 0], none⟩
  | 59 => some ⟨.func, 1, [.nilFunc], none⟩
  | 58 => some ⟨.func, 1, [.nilFunc], none⟩
  | 62 => some ⟨.func, 1, [.nilFunc], none⟩
  | 70 => some ⟨.func, 1, [.nilFunc], none⟩
  | 71 => some ⟨.func, 1, [.nilFunc], none⟩
  | _ => none

theorem eq_int {P : Program} {t : Nat} {k : IntKind} (hd : P.underlying t = some (.int k)) (d : Nat) (a b : Int) (w : World) : (Op.equalIn (d + 1) t (.int k a) (.int k b)).run P w = .ok (decide (a = b)) w := by
  rw [Op.equalIn, Sem.run_bind, run_underlying hd]
  simp only [Result.andThen_ok, if_true, Sem.run_pure]
  rfl
theorem eq_str {P : Program} {t : Nat} (hd : P.underlying t = some .string) (d : Nat) (a b : ByteArray) (w : World) : (Op.equalIn (d + 1) t (.string a) (.string b)).run P w = .ok (decide (a = b)) w := by
  rw [Op.equalIn, Sem.run_bind, run_underlying hd]
  have : (a == b) = decide (a = b) := by rw [Bool.eq_iff_iff, MapKept.bytes_beq, decide_eq_true_eq]
  simp only [Result.andThen_ok, Sem.run_pure, this]
theorem eq_bool {P : Program} {t : Nat} (hd : P.underlying t = some .bool) (d : Nat) (a b : Bool) (w : World) : (Op.equalIn (d + 1) t (.bool a) (.bool b)).run P w = .ok (decide (a = b)) w := by
  rw [Op.equalIn, Sem.run_bind, run_underlying hd]
  rfl

theorem eq_id3 (d : Nat) (a b c a' b' c' : Int) (w : World) : (Op.equalIn (d + 2) 31 (.agg #[.int .i64 a, .int .i64 b, .int .i64 c]) (.agg #[.int .i64 a', .int .i64 b', .int .i64 c'])).run Try.prog w = .ok (decide ((⟨a, b, c⟩ : Id3) = ⟨a', b', c'⟩)) w := by
  have hagg : (Try.prog.underlying 3) = some (.int .i64) := Try.underlying3
  rw [run_equalIn_struct (P := Try.prog) w (d + 1) 31 _ _ (by kernel_rfl) (by kernel_rfl)]
  simp only [Program.fieldsOf, Try.underlying31]
  simp [Op.eqFields, part, eq_int hagg]
  by_cases e1 : a = a' <;> by_cases e2 : b = b' <;> by_cases e3 : c = c' <;> simp [e1, e2, e3]

theorem eq_dot2 (d : Nat) (a b a' b' : Int) (w : World) : (Op.equalIn (d + 2) 57 (.agg #[.int .i64 a, .int .i64 b]) (.agg #[.int .i64 a', .int .i64 b'])).run Try.prog w = .ok (decide (a = a' ∧ b = b')) w := by
  have hagg : (Try.prog.underlying 3) = some (.int .i64) := Try.underlying3
  rw [run_equalIn_struct (P := Try.prog) w (d + 1) 57 _ _ (by kernel_rfl) (by kernel_rfl)]
  simp only [Program.fieldsOf, Try.underlying57]
  simp [Op.eqFields, part, eq_int hagg]
  by_cases e1 : a = a' <;> by_cases e2 : b = b' <;> simp [e1, e2]

theorem agg_three {β : Names} {x y z : Value} {u : Value} (h : R β (.agg [.v x, .v y, .v z]) u) : u = .agg #[x, y, z] := by
  obtain ⟨us, rfl, hl, hr, _⟩ := h
  obtain ⟨u0, u1, u2, rfl⟩ : ∃ a b c, us = [a, b, c] := by
    rcases us with _ | ⟨a, _ | ⟨b, _ | ⟨c, _ | _⟩⟩⟩ <;> simp at hl; exact ⟨a, b, c, rfl⟩
  obtain ⟨_, e, rfl⟩ := hr 0 _ rfl; cases e
  obtain ⟨_, e, rfl⟩ := hr 1 _ rfl; cases e
  obtain ⟨_, e, rfl⟩ := hr 2 _ rfl; cases e
  rfl
theorem agg_plain {β : Names} {xs : List Value} {u : Value} (h : R β (.agg (xs.map .v)) u) : u = .agg xs.toArray := by
  obtain ⟨us, rfl, hl, hr, _⟩ := h
  congr 2
  refine List.ext_getElem (by simpa using hl) fun i h1 h2 => ?_
  obtain ⟨y, e1, e2⟩ := hr i (.v xs[i]) (by simp [h2])
  rw [List.getElem?_eq_getElem h1] at e1
  cases e1
  exact e2

theorem eq_ID {β : Names} {xs ys : List SV} {b : Bool} {u v : Value} (h : eqId xs ys = some b) (hu : R β (.agg xs) u) (hv : R β (.agg ys) v) (w : World) : (Op.equal 31 u v).run Try.prog w = .ok b w ∧ ∀ x y, (eqGuard .eql 31 x y u v).run Try.prog w = .ok () w := by
  unfold eqId at h
  split at h
  · rename_i a1 a2 a3 b1 b2 b3
    cases h
    obtain rfl := agg_three hu
    obtain rfl := agg_three hv
    exact ⟨eq_id3 9998 _ _ _ _ _ _ w, fun x y => run_eqGuard_agg w .eql 31 x y _ _ (by kernel_rfl)⟩
  · cases h

theorem eq_CELL {β : Names} {xs ys : List SV} {b : Bool} {u v : Value} (h : eqCell xs ys = some b) (hu : R β (.agg xs) u) (hv : R β (.agg ys) v) (w : World) : (Op.equal 33 u v).run Try.prog w = .ok b w ∧ ∀ x y, (eqGuard .eql 33 x y u v).run Try.prog w = .ok () w := by
  unfold eqCell at h
  split at h
  · rename_i a1 a2 a3 a4 a5 a6 a7 a8 a9 b1 b2 b3 b4 b5 b6 b7 b8 b9
    cases h
    obtain rfl := agg_plain (xs := [.int .i64 a1, .int .i64 a2, .int .i64 a3, .int .i64 a4, .int .i64 a5, .int .i64 a6, .int .i64 a7, .string a8, .bool a9]) hu
    obtain rfl := agg_plain (xs := [.int .i64 b1, .int .i64 b2, .int .i64 b3, .int .i64 b4, .int .i64 b5, .int .i64 b6, .int .i64 b7, .string b8, .bool b9]) hv
    refine ⟨?_, fun x y => run_eqGuard_agg w .eql 33 x y _ _ (by kernel_rfl)⟩
    have hi : (Try.prog.underlying 3) = some (.int .i64) := Try.underlying3
    have hs : (Try.prog.underlying 9) = some .string := Try.underlying9
    have hb : (Try.prog.underlying 4) = some .bool := Try.underlying4
    have c0 : Try.prog.cellsOf 31 = 3 := by kernel_rfl
    unfold Op.equal Op.maxDepth
    rw [run_equalIn_struct (P := Try.prog) w 9999 33 _ _ (by kernel_rfl) (by kernel_rfl)]
    simp only [Program.fieldsOf, Try.underlying33]
    have e3 := fun (a b c a' b' c' : Int) (w : World) => eq_id3 9997 a b c a' b' c' w
    simp only [Nat.reduceAdd] at e3
    simp [Op.eqFields, part, eq_int hi, eq_str hs, eq_bool hb, e3, -Id3.mk.injEq, -Cell.mk.injEq]
    simp only [Cell.mk.injEq]
    by_cases e1 : (⟨a1, a2, a3⟩ : Id3) = ⟨b1, b2, b3⟩ <;> by_cases e2 : (⟨a4, a5, a6⟩ : Id3) = ⟨b4, b5, b6⟩ <;> by_cases e3 : a7 = b7 <;> by_cases e4 : a8 = b8 <;> by_cases e5 : a9 = b9 <;> simp [e1, e2, e3, e4, e5, -Id3.mk.injEq]
  · cases h

theorem tys_ok : TysOK Try.prog tys := by
  intro t i h
  unfold tys at h
  split at h <;> cases h
  · exact ⟨by kernel_rfl, ⟨.int .i64 0, by kernel_rfl, rfl, rfl⟩, rfl, by kernel_rfl, ⟨_, Try.underlying3, rfl⟩, fun f hf => by cases hf⟩
  · exact ⟨by kernel_rfl, ⟨.bool false, by kernel_rfl, rfl, rfl⟩, rfl, by kernel_rfl, ⟨_, Try.underlying4, rfl⟩, fun f hf => by cases hf⟩
  · exact ⟨by kernel_rfl, ⟨.int .u8 0, by kernel_rfl, rfl, rfl⟩, rfl, by kernel_rfl, ⟨_, Try.underlying5, rfl⟩, fun f hf => by cases hf⟩
  · exact ⟨by kernel_rfl, ⟨.string ByteArray.empty, by kernel_rfl, rfl, rfl⟩, rfl, by kernel_rfl, ⟨_, Try.underlying9, rfl⟩, fun f hf => by cases hf⟩
  · exact ⟨by kernel_rfl, ⟨.slice none 0 0, by kernel_rfl, rfl, rfl⟩, rfl, by kernel_rfl, ⟨_, Try.underlying22, rfl, by kernel_rfl⟩, fun f hf => by cases hf⟩
  · exact ⟨by kernel_rfl, ⟨.int .i64 0, by kernel_rfl, rfl, rfl⟩, rfl, by kernel_rfl, ⟨_, Try.underlying25, rfl⟩, fun f hf => by cases hf⟩
  · exact ⟨by kernel_rfl, ⟨.agg #[.int .i64 0, .int .i64 0, .int .i64 0], by kernel_rfl, rfl, rfl⟩, rfl, by kernel_rfl, ⟨_, Try.underlying31, _, rfl, by kernel_rfl⟩, fun f hf => by cases hf; exact fun β xs ys b u v w h hu hv => eq_ID h hu hv w⟩
  · exact ⟨by kernel_rfl, ⟨.agg #[.int .i64 0, .int .i64 0, .int .i64 0, .int .i64 0, .int .i64 0, .int .i64 0, .int .i64 0, .string ByteArray.empty, .bool false], by kernel_rfl, rfl, rfl⟩, rfl, by kernel_rfl, ⟨_, Try.underlying33, _, rfl, by kernel_rfl⟩, fun f hf => by cases hf; exact fun β xs ys b u v w h hu hv => eq_CELL h hu hv w⟩
  · exact ⟨by kernel_rfl, ⟨.slice none 0 0, by kernel_rfl, rfl, rfl⟩, rfl, by kernel_rfl, ⟨_, Try.underlying41, rfl, by kernel_rfl⟩, fun f hf => by cases hf⟩
  · exact ⟨by kernel_rfl, ⟨.slice none 0 0, by kernel_rfl, rfl, rfl⟩, rfl, by kernel_rfl, ⟨_, Try.underlying44, rfl, by kernel_rfl⟩, fun f hf => by cases hf⟩
  · exact ⟨by kernel_rfl, ⟨.slice none 0 0, by kernel_rfl, rfl, rfl⟩, rfl, by kernel_rfl, ⟨_, Try.underlying45, rfl, by kernel_rfl⟩, fun f hf => by cases hf⟩
  · exact ⟨by kernel_rfl, ⟨.slice none 0 0, by kernel_rfl, rfl, rfl⟩, rfl, by kernel_rfl, ⟨_, Try.underlying69, rfl, by kernel_rfl⟩, fun f hf => by cases hf⟩
  · exact ⟨by kernel_rfl, ⟨.map none, by kernel_rfl, rfl, rfl⟩, rfl, by kernel_rfl, ⟨_, Try.underlying48, rfl⟩, fun f hf => by cases hf⟩
  · exact ⟨by kernel_rfl, ⟨.map none, by kernel_rfl, rfl, rfl⟩, rfl, by kernel_rfl, ⟨_, Try.underlying47, rfl⟩, fun f hf => by cases hf⟩
  · exact ⟨by kernel_rfl, ⟨.map none, by kernel_rfl, rfl, rfl⟩, rfl, by kernel_rfl, ⟨_, Try.underlying55, rfl⟩, fun f hf => by cases hf⟩
  · exact ⟨by kernel_rfl, ⟨.map none, by kernel_rfl, rfl, rfl⟩, rfl, by kernel_rfl, ⟨_, Try.underlying54, rfl⟩, fun f hf => by cases hf⟩
  · exact ⟨by kernel_rfl, ⟨.agg #[.int .i64 0, .int .i64 0], by kernel_rfl, rfl, rfl⟩, rfl, by kernel_rfl, ⟨_, Try.underlying57, _, rfl, by kernel_rfl⟩, fun f hf => by cases hf⟩
  · exact ⟨by kernel_rfl, ⟨.agg #[.int .i64 0, .int .i64 0, .int .i64 0, .int .i64 0], by kernel_rfl, rfl, rfl⟩, rfl, by kernel_rfl, ⟨_, Try.underlying61, rfl, by kernel_rfl⟩, fun f hf => by cases hf⟩
  · exact ⟨by kernel_rfl, ⟨.nilFunc, by kernel_rfl, rfl, rfl⟩, rfl, by kernel_rfl, ⟨_, Try.underlying59, _, _, _, rfl⟩, fun f hf => by cases hf⟩
  · exact ⟨by kernel_rfl, ⟨.nilFunc, by kernel_rfl, rfl, rfl⟩, rfl, by kernel_rfl, ⟨_, Try.underlying58, _, _, _, rfl⟩, fun f hf => by cases hf⟩
  · exact ⟨by kernel_rfl, ⟨.nilFunc, by kernel_rfl, rfl, rfl⟩, rfl, by kernel_rfl, ⟨_, Try.underlying62, _, _, _, rfl⟩, fun f hf => by cases hf⟩
  · exact ⟨by kernel_rfl, ⟨.nilFunc, by kernel_rfl, rfl, rfl⟩, rfl, by kernel_rfl, ⟨_, Try.underlying70, _, _, _, rfl⟩, fun f hf => by cases hf⟩
  · exact ⟨by kernel_rfl, ⟨.nilFunc, by kernel_rfl, rfl, rfl⟩, rfl, by kernel_rfl, ⟨_, Try.underlying71, _, _, _, rfl⟩, fun f hf => by cases hf⟩

end E
end Go.Proofs.Ytlkchnfgeedghaa
