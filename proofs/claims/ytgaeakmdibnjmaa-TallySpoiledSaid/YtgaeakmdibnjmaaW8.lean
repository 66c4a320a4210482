/- The contract of tally.Value, a range over a function, is proved here. -/
import Derived.Test.YtgaeakmdibnjmaaW7
import Derived.RangeFuncFrom
import Derived.RangeFuncBox
import Derived.RangeFuncLeaves
import Derived.Shelf.Abstract
import Derived.WalkKit
import Derived.OwnWalkIn
import Derived.TacticsInMore
import Derived.LoopNIn
import Derived.LoopIn
namespace Go.Proofs.Ytgaeakmdibnjmaa
open Go Go.Proofs Go.RowKit Go.Shelf
attribute [local go_sem] Oper.semAt_some

theorem cell_new_l (W : World) (v : Value) (t : TypeId) : (W.alloc (.cells #[v] t)).cell? ⟨W.heap.size, 0, none⟩ = some v ∧ (W.alloc (.cells #[v] t)).frozen? ⟨W.heap.size, 0, none⟩ = false :=
  ⟨by rw [cell_of_row _ _ _ _ _ _ (E.heap_new W _)]; rfl, frozen_of_row _ _ _ _ _ (E.heap_new W _)⟩
theorem cell_alloc_l {W : World} {a : Addr} {v : Value} (o : Obj) (h : W.cell? a = some v) : (W.alloc o).cell? a = some v := cell_kept h (World.grownBy_alloc W o none) (fun r e => by cases e)
theorem frozen_alloc_l {W : World} {a : Addr} {v : Value} (o : Obj) (h : W.cell? a = some v) (hf : W.frozen? a = false) : (W.alloc o).frozen? a = false := (frozen_kept h (World.grownBy_alloc W o none) (fun r e => by cases e)).trans hf

def upto (f : Nat → Int) (k : Nat) : List Int := (List.range k).map f
theorem upto_succ (f : Nat → Int) (k : Nat) : upto f (k + 1) = upto f k ++ [f k] := by simp [upto, List.range_succ]
theorem upto_length (f : Nat → Int) (k : Nat) : (upto f k).length = k := by simp [upto]

set_option maxRecDepth 100000 in
set_option maxHeartbeats 2000000 in
theorem amounts1_in (F : Fence) (n : Nat) (h7 : F.fn 32) (hro : F.round = none) (hn : 1 ≤ n) (l Bs n₀ b off len cap : Nat) (zs : Nat → Int × Int × Int) (hreach : len ≤ 1000000) (hb : b < n₀) (J Jx : List Int → World → Prop)
    (hY : ∀ pre x W, J pre W → pre.length < len → YieldAt F (n - 1) Try.prog l #[.int .i64 x] W fun e W' =>
      (e = .returned (.bool true) ∧ J (pre ++ [x]) W' ∧ Below n₀ W W') ∨ (e = .returned (.bool false) ∧ Jx (pre ++ [x]) W'))
    (W : World) (hnW : n₀ ≤ W.heap.size) (hJ : AbidesFrom W.heap.size J) (hBs : W.cell? ⟨Bs, 0, none⟩ = some (.slice (some ⟨b, off, none⟩) len cap))
    (hc : ∀ j, j < len → W.cell? ⟨b, off + j * 3, none⟩ = some (.int .i64 (zs j).1) ∧ W.cell? ⟨b, off + j * 3 + 1, none⟩ = some (.int .i64 (zs j).2.1) ∧ W.cell? ⟨b, off + j * 3 + 2, none⟩ = some (.int .i64 (zs j).2.2)) (h0 : J [] W) :
    CallsIn F n Try.prog 32 #[.func (.yield l) #[] #[], .pointer (some ⟨Bs, 0, none⟩)] W fun e W' => (∃ v, e = .returned v) ∧
      ((∃ ys, ys = upto (fun j => (zs j).2.2) len ∧ J ys W') ∨ (∃ pre, (∃ k, k ≤ len ∧ pre = upto (fun j => (zs j).2.2) k) ∧ Jx pre W')) := by
  refine callsIn_of_wp Try.func32 rfl h7 ?_ hro
  simp only [Try.ntmps32, List.size_toArray, List.length_cons, List.length_nil, Nat.reduceAdd, Nat.reduceSub, Array.replicate_succ, Array.replicate_zero, List.push_toArray, List.append_toArray, List.nil_append, List.cons_append]
  gi_wp2
  gi_loopw [7] (fun i wr => ∃ k : Nat, k ≤ len ∧ i = .int .i64 k ∧ J (upto (fun j => (zs j).2.2) k) wr ∧ Below n₀ W wr)
    (fun i _ => len - (intOf i).toNat)
  case atStart => exact ⟨0, Nat.zero_le _, rfl, h0, Below.refl _ _⟩
  case round =>
    obtain ⟨k, hk, rfl, hJs, hnx⟩ := hrel
    by_cases hlt : k < len
    · obtain ⟨c0, c1, c2⟩ := hc k hlt
      have d0 := (hnx.cell (p := ⟨b, off + k * 3, none⟩) hb).trans c0
      have d1 := (hnx.cell (p := ⟨b, off + k * 3 + 1, none⟩) hb).trans c1
      have d2 := (hnx.cell (p := ⟨b, off + k * 3 + 2, none⟩) hb).trans c2
      have hJ1 : J (upto (fun j => (zs j).2.2) k) (wr.alloc (.cells #[.int .i64 (zs k).1, .int .i64 (zs k).2.1, .int .i64 (zs k).2.2] 38)) := hJ _ _ _ none hJs (World.grownBy_alloc wr _ none) (fun r e => by cases e)
      obtain ⟨fn, tmps, assign, body, hy, hR⟩ := hY _ (zs k).2.2 _ hJ1 (by rw [upto_length]; exact hlt)
      have hwr : Below n₀ W (wr.alloc (.cells #[.int .i64 (zs k).1, .int .i64 (zs k).2.1, .int .i64 (zs k).2.2] 38)) := hnx.trans ((Below.refl n₀ wr).alloc (Nat.le_trans hnW hnx.size) _)
      gi_wp2
      refine hR.mono ?_
      rintro e W3 (⟨rfl, hJ3, hk3⟩ | ⟨rfl, hJx3⟩)
      · gi_wp2
        go_roundw
        case rel => exact ⟨k + 1, by omega, by simp, by rw [upto_succ]; exact hJ3, hwr.trans hk3⟩
        case measure => simp [intOf]; omega
      · gi_wp2
        refine bodyPost_ret (results_none rfl _ _ _) rfl ?_
        exact ⟨⟨_, rfl⟩, .inr ⟨_, ⟨k + 1, by omega, (upto_succ _ _).symm⟩, hJx3⟩⟩
    · obtain rfl : k = len := by omega
      gi_wp2
      go_end0
      exact ⟨⟨_, rfl⟩, .inl ⟨_, rfl, hJs⟩⟩

/-- The cells of the elements, or none at all. -/
def Tal (n₀ : Nat) (W : World) (sv : Value) (len : Nat) (zs : Nat → Int × Int × Int) : Prop :=
  ((∃ A cap, sv = .slice A 0 cap) ∧ len = 0) ∨ ∃ b off cap, sv = .slice (some ⟨b, off, none⟩) len cap ∧ b < n₀ ∧ ∀ j, j < len → W.cell? ⟨b, off + j * 3, none⟩ = some (.int .i64 (zs j).1) ∧ W.cell? ⟨b, off + j * 3 + 1, none⟩ = some (.int .i64 (zs j).2.1) ∧ W.cell? ⟨b, off + j * 3 + 2, none⟩ = some (.int .i64 (zs j).2.2)
theorem Tal.below {n₀ len : Nat} {A B : World} {zs : Nat → Int × Int × Int} (h : Below n₀ A B) {sv : Value} : Tal n₀ A sv len zs → Tal n₀ B sv len zs
  | .inl e => .inl e
  | .inr ⟨b, off, cap, e, hb, hc⟩ => .inr ⟨b, off, cap, e, hb, fun j hj => let ⟨c0, c1, c2⟩ := hc j hj; ⟨(h.cell (p := ⟨b, off + j * 3, none⟩) hb).trans c0, (h.cell (p := ⟨b, off + j * 3 + 1, none⟩) hb).trans c1, (h.cell (p := ⟨b, off + j * 3 + 2, none⟩) hb).trans c2⟩⟩

set_option maxRecDepth 100000 in
set_option maxHeartbeats 1000000 in
theorem amounts1_nil_in (F : Fence) (n : Nat) (h7 : F.fn 32) (hro : F.round = none) (l Bs : Nat) (A : Option Addr) (cap : Nat) (J : List Int → World → Prop) (W : World) (hBs : W.cell? ⟨Bs, 0, none⟩ = some (.slice A 0 cap)) (h0 : J [] W) :
    CallsIn F n Try.prog 32 #[.func (.yield l) #[] #[], .pointer (some ⟨Bs, 0, none⟩)] W fun e W' => (∃ v, e = .returned v) ∧ J [] W' := by
  refine callsIn_of_wp Try.func32 rfl h7 ?_ hro
  simp only [Try.ntmps32, List.size_toArray, List.length_cons, List.length_nil, Nat.reduceAdd, Nat.reduceSub, Array.replicate_succ, Array.replicate_zero, List.push_toArray, List.append_toArray, List.nil_append, List.cons_append]
  gi_wp2
  gi_loopw [7] (fun i wr => i = .int .i64 0 ∧ J [] wr) (fun _ _ => 0)
  case atStart => exact ⟨rfl, h0⟩
  case round =>
    obtain ⟨rfl, hJs⟩ := hrel
    gi_wp2
    go_end0
    exact ⟨⟨_, rfl⟩, hJs⟩

theorem amounts_stops (F : Fence) (n : Nat) (h7 : F.fn 32) (hro : F.round = none) (hn : 1 ≤ n) (Bs n₀ : Nat) (sv : Value) (len : Nat) (zs : Nat → Int × Int × Int) (hreach : len ≤ 1000000) (w : World) (hBs : Bs < w.heap.size) (hn₀ : n₀ ≤ w.heap.size)
    (hc : w.cell? ⟨Bs, 0, none⟩ = some sv) (hI : Tal n₀ w sv len zs) :
    SeqStopsK F n Try.prog 32 #[.pointer (some ⟨Bs, 0, none⟩)] (fun x : Int => #[Value.int .i64 x]) (Below n₀) (fun ys => ys = upto (fun j => (zs j).2.2) len) (fun _ => True) len w := fun l J Jx W hW hJ _ hY h0 => by
  have hc' := (hW.cell (p := ⟨Bs, 0, none⟩) hBs).trans hc
  rcases hI.below (hW.mono hn₀) with ⟨⟨A, cap, rfl⟩, rfl⟩ | ⟨b, off, cap, rfl, hb, hcs⟩
  · exact (amounts1_nil_in F n h7 hro l Bs A cap J W hc' h0).mono fun e W' ⟨he, hj⟩ => ⟨he, .inl ⟨_, rfl, hj⟩⟩
  · refine (amounts1_in F n h7 hro hn l Bs n₀ b off len cap zs hreach hb J Jx hY W (Nat.le_trans hn₀ hW.size) hJ hc' hcs h0).mono ?_
    rintro e W' ⟨he, ⟨ys, rfl, hj⟩ | ⟨pre, _, hj⟩⟩
    · exact ⟨he, .inl ⟨_, rfl, hj⟩⟩
    · exact ⟨he, .inr ⟨_, trivial, hj⟩⟩

set_option maxHeartbeats 1000000 in
theorem amounts_in (F : Fence) (n : Nat) (h5 : F.fn 22) (hro : F.round = none) (a : Option Addr) (len cap : Nat) (w : World) :
    CallsIn F n Try.prog 22 #[.slice a len cap] w fun e w' => e = .returned (.func (.func 32) #[] #[.pointer (some ⟨w.heap.size, 0, none⟩)]) ∧ w' = w.alloc (.cells #[.slice a len cap] 22) := by
  refine callsIn_of_wp Try.func22 rfl h5 ?_ hro
  simp only [Try.ntmps22, List.size_toArray, List.length_cons, List.length_nil, Nat.reduceAdd, Nat.reduceSub, Array.replicate_succ, Array.replicate_zero, List.push_toArray, List.append_toArray, List.nil_append, List.cons_append]
  gi_wp2
  go_ret
  exact ⟨rfl, rfl⟩

def sumI (l : List Int) : Int := l.foldl (fun s x => IntKind.i64.wrap (s + x)) 0
theorem sumI_snoc (l : List Int) (x : Int) : sumI (l ++ [x]) = IntKind.i64.wrap (sumI l + x) := by simp [sumI]

set_option maxRecDepth 100000 in
set_option maxHeartbeats 4000000 in
theorem value_in (F : Fence) (n : Nat) (h12 : F.fn 12) (h16 : F.fn 16) (h22 : F.fn 22) (h32 : F.fn 32) (hro : F.round = none) (hn : 3 ≤ n) (A : Option Addr) (len cap : Nat) (zs : Nat → Int × Int × Int) (hreach : len ≤ 1000000) (w : World) (hT : Tal w.heap.size w (.slice A len cap) len zs)
    (hcheck : ∀ W, Below w.heap.size w W → CallsIn F (n - 1) Try.prog 16 #[.slice A len cap] W fun e W' => e = .returned (.int .i64 0) ∧ Below W.heap.size W W') :
    CallsIn F n Try.prog 12 #[.slice A len cap] w fun e W' => e = .returned (.tuple #[.int .i64 (sumI (upto (fun j => (zs j).2.2) len)), .int .i64 0]) ∧ Below w.heap.size w W' := by
  have h1 : 1 ≤ n := by omega
  refine callsIn_of_wp_marks Try.func12 rfl h12 ?_ hro
  simp only [Try.ntmps12, List.size_toArray, List.length_cons, List.length_nil, Nat.reduceAdd, Nat.reduceSub, Array.replicate_succ, Array.replicate_zero, List.push_toArray, List.append_toArray, List.nil_append, List.cons_append]
  have hB0 : Below w.heap.size w (w.alloc (.cells #[.int .i64 0] 3)) := (Below.refl _ w).alloc (Nat.le_refl _) _
  gi_wp2_with (first | (gi_at_call 16; refine (hcheck _ hB0).mono ?_; rintro e W1 ⟨rfl, hB1⟩) | (gi_at_call 22; refine (amounts_in F (n - 1) h22 hro _ _ _ _).mono ?_; rintro e w' ⟨rfl, rfl⟩))
  have hs := cell_new_l w (.int .i64 0) 3
  have hs1 : W1.cell? ⟨w.heap.size, 0, none⟩ = some (.int .i64 0) := (hB1.cell (p := ⟨w.heap.size, 0, none⟩) (by simp)).trans hs.1
  have hf1 : W1.frozen? ⟨w.heap.size, 0, none⟩ = false := (hB1.frozen (p := ⟨w.heap.size, 0, none⟩) (by simp)).trans hs.2
  have hsz1 : w.heap.size + 1 ≤ W1.heap.size := by have := hB1.size; simpa using this
  have hbx := cell_new_l W1 (.slice A len cap) 22
  have hB2 : Below w.heap.size w (W1.alloc (.cells #[.slice A len cap] 22)) := (hB0.trans (hB1.mono (by simp))).alloc (by omega) _
  refine wpIn_rangeFunc_ownF hro h1 (gf := 32) (lb := #[.pointer (some ⟨W1.heap.size, 0, none⟩)]) rfl h32 (enters_of Try.func32 (by kernel_rfl) rfl)
    (amounts_stops F (n - 1) h32 hro (by omega) W1.heap.size w.heap.size (.slice A len cap) len zs hreach _ (by simp) (by simp; omega) hbx.1 (hT.below hB2)) belowK_t (belowK_b (by simp; omega)) (Below.refl _ _) (fun _ => rfl)
    (fun pre W => (W.cell? ⟨w.heap.size, 0, none⟩ = some (.int .i64 (sumI pre)) ∧ W.frozen? ⟨w.heap.size, 0, none⟩ = false) ∧ Below w.heap.size w W)
    (fun _ _ _ => False)
    (OwnFrom.and (Own.from (fun s A B row hs hg hr => ⟨cell_kept hs.1 hg hr, (frozen_kept hs.1 hg hr).trans hs.2⟩) _) (ownFrom_below (Nat.le_refl _) (by simp; omega)))
    (fun _ _ _ _ _ hs _ _ => hs)
    ⟨⟨cell_alloc_l _ hs1, frozen_alloc_l _ hs1 hf1⟩, hB2⟩
    (fun x => { tmps := #[.slice A len cap, undef, .pointer (some ⟨w.heap.size, 0, none⟩), .int .i64 0, .int .i64 x, .slice A len cap, .int .i64 0, .int .i64 0, .bool false, undef, .slice A len cap, .func (.func 32) #[] #[.pointer (some ⟨W1.heap.size, 0, none⟩)], .int .i64 x, undef, undef, undef, undef], defers := [] }) ?assign ?body ?done ?stop
  case assign =>
    intro l x W K hK
    gi_wp2
    exact hK
  case body =>
    rintro l pre x W ⟨⟨hc, hf⟩, hB⟩ _
    gi_wp2
    exact ⟨KeepsOthers.setCell _ _ _, (Below.refl w.heap.size W).setCell (p := ⟨w.heap.size, 0, none⟩) (Nat.le_refl _) _, ⟨by rw [sumI_snoc, IntWalk.i64_left]; exact World.cell?_setCell_same' _ _ _ (by rw [hc]; rfl), by rw [World.frozen?_setCell]; exact hf⟩, hB.setCell (p := ⟨w.heap.size, 0, none⟩) (Nat.le_refl _) _⟩
  case done =>
    rintro D ys W hD rfl ⟨⟨hc, hf⟩, hB⟩ hK
    gi_wp2
    have hK' := (KeepsOthers.setCell W ⟨w.heap.size, 0, none⟩ (.int .i64 (sumI (upto (fun j => (zs j).2.2) len)))).same D _ hK rfl
    refine ⟨by simp, .inl ⟨_, _, rfl, run_takeDeferred hK', ?_⟩⟩
    have hc5 := cell_kept (World.cell?_setCell_same' W ⟨w.heap.size, 0, none⟩ (.int .i64 (sumI (upto (fun j => (zs j).2.2) len))) (by rw [hc]; rfl)) (grownBy_putObj' _ D (.deferred none)) (fun r e => by cases e; exact ⟨_, hK', rfl⟩)
    refine ⟨.tuple #[.int .i64 (sumI (upto (fun j => (zs j).2.2) len)), .int .i64 0], ?_, rfl, (hB.setCell (p := ⟨w.heap.size, 0, none⟩) (Nat.le_refl _) _).trans (belowK_b (w := w) (Nat.le_refl _) _ D _ _ (by simp at hD; omega) hK' rfl rfl)⟩
    simp [results, Try.results12, go_sem, hc5]
  case stop =>
    rintro D c pre W _ _ h _
    exact h.elim

namespace E
set_option linter.unusedSimpArgs false
theorem upto_map (l : List Tally) : upto (fun j => (l.getD j default).n) l.length = l.map Tally.n := by
  apply List.ext_getElem
  · simp [upto]
  · intro i h1 h2
    have : i < l.length := by simpa using h2
    simp [upto, List.getD, this]
theorem sumI_upto (l : List Tally) : sumI (upto (fun j => (l.getD j default).n) l.length) = sumW l := by
  rw [upto_map, sumI, List.foldl_map]; rfl

theorem satH_at {P : Program} {w W : World} {β : Names} {k : Nat} {rows : List (TypeId × RowC)} (h : SatH ⟨P, w, fun _ => False, β, k⟩ β (inH 0 rows) w) (hB : Below w.heap.size w W) : SatH ⟨P, W, fun _ => False, β, k⟩ β (inH 0 rows) W := by
  refine ⟨⟨rfl, rfl, rfl, Nat.le_refl _, fun _ _ _ => rfl⟩, fun _ h => h.elim, fun p o ch hp => ?_, h.uniq, h.apart⟩
  obtain ⟨r, e, s, l⟩ := h.sat p o ch hp
  obtain rfl : o = false := (mem_inH hp).1
  simp only [Lies, Bool.false_eq_true, if_false] at l ⊢
  exact ⟨r, e, SatC_same (Le.refl _) (fun hso => hB.block _ (l (hso.resolve_right (by simp))).1) s, fun hso => ⟨Nat.lt_of_lt_of_le (l hso).1 hB.size, fun h => h⟩⟩

set_option maxRecDepth 100000 in
theorem value_spec (l : List Tally) (hl : l.length ≤ 1000000) : Spec Try.prog 12 (inH 0 [(38, .tally l)]) 1 [.full 0] (.tup [.v (.int .i64 (valueL l)), .v (.int .i64 (checkL l))]) [] := by
  cases hok : okFrom (-1) l with
  | false =>
    refine spec_of_ex (wr := []) tys_ok Try.func12 rfl rfl fun C hC hk => ?_
    rw [Try.ntmps12, Try.results12]
    simp only [ini, List.length_cons, List.length_nil, Nat.reduceAdd, Nat.reduceSub, List.reduceReplicate, List.cons_append, List.nil_append]
    simp only [Ex_seq, Ex_region, Ex_block, Ex_exit, Ex_ret, Ex_skip, Ex_label, Ex_scope, Ex_loop, Ex_draw, Ex_if, condD_t, condD_f, SeqK_normal, SeqK_ret, SeqK_exit, BlockK_normal, BlockK_exit, BlockK_ret, ScopeK_normal, ScopeK_exit, ScopeK_ret, LoopK_normal, LoopK_exit, LoopK_ret, NormK_run, sops_run, sops_nil, guardO, guardG, guardD_tt, guardD_ff, guardD_tf, guardD_ft, guardD_u, OpsK_run, InlK_run, baseD, delC, RowC.ap, RowC.over, RowC.take, RowC.drop, RowC.zeros, step, goRs, goCall, goNew, pur, bin, ibin, sbin, num, lo, hi, St.ev, ofConst, nth, upd, PutD, tys, get, setC, ld, stO, segO, dropO, takeO, nthO, layO, flat, fillO, pushAll, RowC.push, RowC.nil, RowC.get, RowC.sz, RowC.len, setCells, RowC.setCell, lenK, boundsOf, caps, TK.agg, Value.oneCell', RetK_r, RetK_n, RetO, resOf, noTup, packR, inH, newH, List.contains_cons, List.contains_nil, Option.bind_some, Option.bind_none, Option.map_some, Option.map_none, List.getElem?_toArray, List.getElem?_cons_zero, List.getElem?_cons_succ, List.map_cons, List.map_nil, List.length_cons, List.length_nil, List.all_cons, List.all_nil, List.append_nil, List.cons_append, List.nil_append, List.size_toArray, if_true, if_false, reduceIte, reduceCtorEq, Nat.reduceAdd, Nat.reduceMul, Nat.reduceSub, Nat.reduceEqDiff, Nat.reduceLeDiff, Nat.reduceLT, Nat.reduceBEq, Nat.reduceBNe, Nat.add_zero, Nat.zero_add, Bool.or_false, Bool.false_or, Bool.or_true, Bool.not_true, Bool.not_false, Bool.and_true, Bool.true_and, Bool.and_self, Bool.false_eq_true, Option.isSome_some, or_true, and_true, true_and, and_self, Int.toNat_natCast, cond_true, cond_false]
    refine call_is hC (check_spec l hl) rfl (by exact ⟨rfl, ⟨false, rfl⟩, trivial⟩) ?_
    simp only [ren, renB, renA, toC, rowsOf, newH, List.nil_append, List.cons_append, List.length_nil, List.length_cons, List.map_cons, List.map_nil, Nat.add_zero, Nat.reduceAdd, Nat.reduceLT, Nat.reduceSub, reduceIte, List.getElem?_cons_zero, List.getElem?_cons_succ, Nat.lt_irrefl, if_false]
    simp only [Ex_seq, Ex_region, Ex_block, Ex_exit, Ex_ret, Ex_skip, Ex_label, Ex_scope, Ex_loop, Ex_draw, Ex_if, condD_t, condD_f, SeqK_normal, SeqK_ret, SeqK_exit, BlockK_normal, BlockK_exit, BlockK_ret, ScopeK_normal, ScopeK_exit, ScopeK_ret, LoopK_normal, LoopK_exit, LoopK_ret, NormK_run, sops_run, sops_nil, guardO, guardG, guardD_tt, guardD_ff, guardD_tf, guardD_ft, guardD_u, OpsK_run, InlK_run, baseD, delC, RowC.ap, RowC.over, RowC.take, RowC.drop, RowC.zeros, step, goRs, goCall, goNew, pur, bin, ibin, sbin, num, lo, hi, St.ev, ofConst, nth, upd, PutD, tys, get, setC, ld, stO, segO, dropO, takeO, nthO, layO, flat, fillO, pushAll, RowC.push, RowC.nil, RowC.get, RowC.sz, RowC.len, setCells, RowC.setCell, lenK, boundsOf, caps, TK.agg, Value.oneCell', RetK_r, RetK_n, RetO, resOf, noTup, packR, inH, newH, List.contains_cons, List.contains_nil, Option.bind_some, Option.bind_none, Option.map_some, Option.map_none, List.getElem?_toArray, List.getElem?_cons_zero, List.getElem?_cons_succ, List.map_cons, List.map_nil, List.length_cons, List.length_nil, List.all_cons, List.all_nil, List.append_nil, List.cons_append, List.nil_append, List.size_toArray, if_true, if_false, reduceIte, reduceCtorEq, Nat.reduceAdd, Nat.reduceMul, Nat.reduceSub, Nat.reduceEqDiff, Nat.reduceLeDiff, Nat.reduceLT, Nat.reduceBEq, Nat.reduceBNe, Nat.add_zero, Nat.zero_add, Bool.or_false, Bool.false_or, Bool.or_true, Bool.not_true, Bool.not_false, Bool.and_true, Bool.true_and, Bool.and_self, Bool.false_eq_true, Option.isSome_some, or_true, and_true, true_and, and_self, Int.toNat_natCast, cond_true, cond_false]
    refine cond_split (fun h => ?_) (fun h => by simp [checkL, hok] at h)
    simp only [Ex_seq, Ex_region, Ex_block, Ex_exit, Ex_ret, Ex_skip, Ex_label, Ex_scope, Ex_loop, Ex_draw, Ex_if, condD_t, condD_f, SeqK_normal, SeqK_ret, SeqK_exit, BlockK_normal, BlockK_exit, BlockK_ret, ScopeK_normal, ScopeK_exit, ScopeK_ret, LoopK_normal, LoopK_exit, LoopK_ret, NormK_run, sops_run, sops_nil, guardO, guardG, guardD_tt, guardD_ff, guardD_tf, guardD_ft, guardD_u, OpsK_run, InlK_run, baseD, delC, RowC.ap, RowC.over, RowC.take, RowC.drop, RowC.zeros, step, goRs, goCall, goNew, pur, bin, ibin, sbin, num, lo, hi, St.ev, ofConst, nth, upd, PutD, tys, get, setC, ld, stO, segO, dropO, takeO, nthO, layO, flat, fillO, pushAll, RowC.push, RowC.nil, RowC.get, RowC.sz, RowC.len, setCells, RowC.setCell, lenK, boundsOf, caps, TK.agg, Value.oneCell', RetK_r, RetK_n, RetO, resOf, noTup, packR, inH, newH, List.contains_cons, List.contains_nil, Option.bind_some, Option.bind_none, Option.map_some, Option.map_none, List.getElem?_toArray, List.getElem?_cons_zero, List.getElem?_cons_succ, List.map_cons, List.map_nil, List.length_cons, List.length_nil, List.all_cons, List.all_nil, List.append_nil, List.cons_append, List.nil_append, List.size_toArray, if_true, if_false, reduceIte, reduceCtorEq, Nat.reduceAdd, Nat.reduceMul, Nat.reduceSub, Nat.reduceEqDiff, Nat.reduceLeDiff, Nat.reduceLT, Nat.reduceBEq, Nat.reduceBNe, Nat.add_zero, Nat.zero_add, Bool.or_false, Bool.false_or, Bool.or_true, Bool.not_true, Bool.not_false, Bool.and_true, Bool.true_and, Bool.and_self, Bool.false_eq_true, Option.isSome_some, or_true, and_true, true_and, and_self, Int.toNat_natCast, cond_true, cond_false]
    refine fin_of [] ?_ ?_ ?_ ?_ <;> first | rfl | trivial | exact List.nodup_nil | skip
    simp only [subS, subB, subA, List.map_cons, List.map_nil, reduceIte, Nat.reduceLT, Nat.reduceSub, List.getElem?_cons_zero, List.getElem?_cons_succ]
    simp [valueL, hok]
  | true =>
    refine ⟨⟨_, Try.func12, rfl, rfl⟩, fun β w hs hno vs hvs => ?_⟩
    have hc0 : checkL l = 0 := by simp [checkL, hok]
    obtain ⟨r, hr, hsat, hlies⟩ := hs.sat 0 false (.row 38 (.tally l)) (by simp [inH])
    obtain ⟨hlen, hrel⟩ := hvs
    obtain ⟨u, hu, r', hr', hv⟩ := hrel 0 _ rfl
    rw [hr] at hr'; cases hr'
    obtain ⟨b1, b2, b3, b4, b5, _⟩ := hsat
    simp only [RowC.len, RowC.sz] at b1 b2 b3 b5
    obtain rfl : vs = [u] := by
      rcases vs with _ | ⟨x, _ | _⟩ <;> simp at hlen hu
      rw [hu]
    rw [b1] at hv
    subst hv
    have hT : Tal w.heap.size w (.slice r.base l.length r.cap) l.length (fun j => ((l.getD j default).dev, (l.getD j default).seq, (l.getD j default).n)) := by
      rcases Nat.eq_zero_or_pos l.length with e | e
      · exact .inl ⟨⟨_, _, by rw [e]⟩, e⟩
      · have hn : r.nil = false := by
          cases hq : r.nil with
          | false => rfl
          | true => have := b4 hq; omega
        simp only [Lies, Bool.false_eq_true, if_false] at hlies
        refine .inr ⟨r.blk, r.off, r.cap, by simp [Ref.base, hn], (hlies ⟨hn, .inl e⟩).1, fun j hj => ⟨?_, ?_, ?_⟩⟩
        · exact b5 j hj 0 _ rfl
        · exact b5 j hj 1 _ rfl
        · exact b5 j hj 2 _ rfl
    have hcheck : ∀ W, Below w.heap.size w W → CallsIn Fence.wide 2 Try.prog 16 #[.slice r.base l.length r.cap] W fun e W' => e = .returned (.int .i64 0) ∧ Below W.heap.size W W' := fun W hB => by
      refine callsIn_wide.2 (((check_spec l hl).out β W (satH_at hs hB) hno [.slice r.base l.length r.cap] ⟨rfl, fun i s hi => ?_⟩).mono ?_)
      · cases i with
        | zero => cases hi; exact ⟨_, rfl, r, hr, by rw [b1]⟩
        | succ i => simp at hi
      · rintro e W' ⟨β', x, rfl, _, hs', _, hx⟩
        obtain rfl : x = _ := hx
        exact ⟨by rw [hc0], hs'.fr.os, hs'.fr.tape, hs'.fr.output, hs'.fr.size, fun k hk => hs'.fr.block k hk (fun h => h)⟩
    have := callsIn_wide.1 (value_in Fence.wide 3 trivial trivial trivial trivial rfl (Nat.le_refl _) r.base l.length r.cap _ hl w hT hcheck)
    refine this.mono ?_
    rintro e W' ⟨rfl, hB⟩
    refine ⟨β, _, rfl, Le.refl _, hs.grown ⟨hB.os, hB.tape, hB.output, hB.size, hB.block⟩, hno, ?_⟩
    refine ⟨[.int .i64 (sumI (upto (fun j => (l.getD j default).n) l.length)), .int .i64 0], rfl, rfl, fun i s hi => ?_⟩
    rcases i with _ | _ | i
    · cases hi
      exact ⟨_, rfl, by show Value.int .i64 _ = Value.int .i64 _; rw [sumI_upto, valueL, hok, if_pos rfl]⟩
    · cases hi
      exact ⟨_, rfl, by show Value.int .i64 _ = Value.int .i64 _; rw [hc0]⟩
    · simp at hi
end E

end Go.Proofs.Ytgaeakmdibnjmaa
