/- Whole functions: how a contract is stated, proved by the executor, and used at a call; loops. It states nothing about the program. -/
import Derived.Test.YtlkchnfgeedghaaE8
import Derived.Deep.LoopGhost
namespace Go.Proofs.Ytlkchnfgeedghaa
namespace E
open Go

section
variable {C : Cx} {T : Tys} {wr : List Nat}

/-! results -/
def noTup : SV → Bool
  | .tup _ => false
  | _ => true

def resOf (T : Tys) (S : St) : List ResultVar → Option (List SV)
  | [] => some []
  | .tmp t :: l => match noTup (nth S.ts t) with | true => (resOf T S l).map (nth S.ts t :: ·) | false => none
  | .cell a t :: l => match ld T S.H t (nth S.ts a) with | .ok s => (match noTup s with | true => (resOf T S l).map (s :: ·) | false => none) | _ => none

def packR : List SV → SV
  | [s] => s
  | l => .tup l

def RetK (T : Tys) (rv : Array ResultVar) (post : SV → St → Prop) (e : Exit) (S : St) : Prop :=
  match e with
  | .ret | .normal => match resOf T S rv.toList with | some l => post (packR l) S | none => False
  | _ => False
theorem RetK_ret {rv : Array ResultVar} {post : SV → St → Prop} {S : St} {l : List SV} (h : resOf T S rv.toList = some l) : RetK T rv post .ret S = post (packR l) S := by
  unfold RetK; rw [h]
theorem RetK_normal {rv : Array ResultVar} {post : SV → St → Prop} {S : St} {l : List SV} (h : resOf T S rv.toList = some l) : RetK T rv post .normal S = post (packR l) S := by
  unfold RetK; rw [h]

def resVar (tmps : Array Value) (r : ResultVar) : Sem Value :=
  match r with
  | .tmp t => pure (tmps.getD t undef)
  | .cell x t => do loadVar t (← asAddr (tmps.getD x undef))
theorem results_eq (fn : Func) (tmps : Array Value) : results fn tmps = (do let vs ← fn.results.mapM (resVar tmps); pure (if h : vs.size = 1 then vs[0] else .tuple vs)) := rfl

theorem resOf_ok (hT : TysOK C.P T) {β : Names} {S : St} {a : Act} {w : World} (hs : Sat C β S a w) : ∀ {l : List ResultVar} {xs : List SV}, resOf T S l = some xs →
    ∃ us : List Value, (l.mapM (resVar a.tmps)).run C.P w = .ok us w ∧ us.length = xs.length ∧
      ∀ (i : Nat) (s : SV), xs[i]? = some s → noTup s = true ∧ ∃ u, us[i]? = some u ∧ R β s u
  | [], xs, h => by simp [resOf] at h; subst h; exact ⟨[], rfl, rfl, fun i s h => by simp at h⟩
  | .tmp t :: l, xs, h => by
    simp only [resOf] at h
    split at h
    · rename_i hnt
      simp only [Option.map_eq_some_iff] at h
      obtain ⟨ys, h1, rfl⟩ := h
      obtain ⟨us, g1, g2, g3⟩ := resOf_ok hT hs h1
      refine ⟨a.tmps.getD t undef :: us, ?_, by simp [g2], fun i s hi => ?_⟩
      · rw [List.mapM_cons, Sem.run_bind]
        simp only [resVar, Sem.run_pure, Result.andThen_ok, Sem.run_bind]
        rw [show (l.mapM (resVar a.tmps)).run C.P w = _ from g1]; rfl
      · cases i with
        | zero => cases hi; exact ⟨hnt, _, rfl, hs.ev (.tmp t)⟩
        | succ i => simpa using g3 i s (by simpa using hi)
    · cases h
  | .cell x t :: l, xs, h => by
    simp only [resOf] at h
    split at h
    · rename_i s hld
      split at h
      · rename_i hnt
        simp only [Option.map_eq_some_iff] at h
        obtain ⟨ys, h1, rfl⟩ := h
        obtain ⟨us, g1, g2, g3⟩ := resOf_ok hT hs h1
        obtain ⟨b, off, u, hp, hl, hR⟩ := ld_ok hT hs.heap (hs.ev (.tmp x)) (s := s) (by show (ld T S.H t (nth S.ts x)).Ok s; rw [hld]; rfl)
        refine ⟨u :: us, ?_, by simp [g2], fun i s' hi => ?_⟩
        · have hp' : a.tmps.getD x undef = .pointer (some ⟨b, off, none⟩) := hp
          have hv : (resVar a.tmps (.cell x t)).run C.P w = .ok u w := by
            unfold resVar
            simp only [hp', asAddr, Sem.run_bind, Sem.run_pure, Result.andThen_ok, hl]
          rw [List.mapM_cons, Sem.run_bind, hv]
          simp only [Result.andThen_ok, Sem.run_bind, g1, Sem.run_pure]
        · cases i with
          | zero => cases hi; exact ⟨hnt, _, rfl, hR⟩
          | succ i => simpa using g3 i s' (by simpa using hi)
      · cases h
    · cases h

theorem R_noTup {β : Names} {s : SV} {u : Value} (h : noTup s = true) (hR : R β s u) : R1 β s u := by
  cases s <;> first | exact hR | cases h

theorem results_ok (hT : TysOK C.P T) {β : Names} {S : St} {a : Act} {w : World} (hs : Sat C β S a w) {fn : Func} {xs : List SV} (h : resOf T S fn.results.toList = some xs) : ∃ u, (results fn a.tmps).run C.P w = .ok u w ∧ R β (packR xs) u := by
  obtain ⟨us, g1, g2, g3⟩ := resOf_ok hT hs h
  have hrun : (results fn a.tmps).run C.P w = .ok (if h : us.toArray.size = 1 then us.toArray[0] else .tuple us.toArray) w := by
    rw [results_eq, Sem.run_bind, Array.mapM_eq_mapM_toList, Sem.run_map, g1]
    rfl
  refine ⟨_, hrun, ?_⟩
  rcases xs with _ | ⟨x, _ | ⟨y, l⟩⟩
  · have : us = [] := by simpa using g2
    subst this
    exact ⟨[], rfl, rfl, fun i s h => by simp at h⟩
  · obtain ⟨v, rfl⟩ : ∃ v, us = [v] := by
      rcases us with _ | ⟨v, _ | _⟩ <;> simp at g2; exact ⟨v, rfl⟩
    obtain ⟨_, u, hu, hR⟩ := g3 0 x rfl
    cases hu
    exact hR
  · have hne : ¬ us.toArray.size = 1 := by simp [g2]
    rw [dif_neg hne]
    exact ⟨us, rfl, g2, fun i s hi => let ⟨hn, u, hu, hR⟩ := g3 i s hi; ⟨u, hu, R_noTup hn hR⟩⟩

/-! contracts -/
def newH (k : Nat) : List (TypeId × RowC) → Heap
  | [] => []
  | (t, c) :: l => (k, true, .row t c) :: newH (k + 1) l

/-- f, called with 'args' over the chunks 'H0' (names below k), hands back 'ret' over 'H0' and the new rows 'news' (names from k on), and turns nothing. -/
structure Spec (P : Program) (f : FuncId) (H0 : Heap) (k : Nat) (args : List SV) (ret : SV) (news : List (TypeId × RowC)) : Prop where
  enters : Enters P f
  out : ∀ β w, SatH ⟨P, w, fun _ => False, β, k⟩ β H0 w → (∀ p, k ≤ p → β p = none) → ∀ vs, RL β args vs → Calls P f vs.toArray w fun e w' =>
    ∃ β' u, e = .returned u ∧ Le β β' ∧ SatH ⟨P, w, fun _ => False, β, k⟩ β' (newH k news ++ H0) w' ∧ (∀ p, k + news.length ≤ p → β' p = none) ∧ R β' ret u

/-- What is asked at a function's return. -/
def Fin (C : Cx) (H0 : Heap) (k : Nat) (ret : SV) (news : List (TypeId × RowC)) (r : SV) (S : St) : Prop :=
  ∀ β w u, SatH C C.b0 H0 C.w0 → SatH C β S.H w → Le C.b0 β → (∀ p, k ≤ p → C.b0 p = none) → R β r u → ∃ β', Le C.b0 β' ∧ SatH C β' (newH k news ++ H0) w ∧ (∀ p, k + news.length ≤ p → β' p = none) ∧ R β' ret u

def ini (args : List SV) (n : Nat) : List SV := args ++ List.replicate (n - args.length) .junk

theorem spec_of_ex {P : Program} {f : FuncId} {fn : Func} {c : Code} {H0 : Heap} {k : Nat} {args : List SV} {ret : SV} {news : List (TypeId × RowC)} (hT : TysOK P T) (hf : P.funcs[f]? = some fn) (hb : fn.body = some c) (hname : (fn.name == "runtime.NumGoroutine") = false)
    (h : ∀ C : Cx, C.P = P → C.k = k → Ex C T wr c ⟨ini args fn.ntmps, H0, k⟩ (RetK T fn.results (Fin C H0 k ret news))) : Spec P f H0 k args ret news := by
  refine ⟨⟨fn, hf, hname, by rw [hb]; rfl⟩, fun β w hs hk vs hvs => ?_⟩
  refine calls_of_wp hf hb ?_
  have hsat : Sat ⟨P, w, fun _ => False, β, k⟩ β ⟨ini args fn.ntmps, H0, k⟩ { tmps := vs.toArray ++ Array.replicate (fn.ntmps - vs.toArray.size) undef, defers := [] } w := by
    obtain ⟨hl, hrel⟩ := hvs
    refine ⟨hs, Le.refl _, hk, hk, rfl, by simp [ini, hl], fun i s hi => ?_⟩
    unfold ini at hi
    by_cases hlt : i < args.length
    · rw [List.getElem?_append_left hlt] at hi
      obtain ⟨u, hu, hR⟩ := hrel i s hi
      exact ⟨u, by rw [Array.getElem?_append_left (by simp; omega)]; simpa using hu, hR⟩
    · rw [List.getElem?_append_right (by omega)] at hi
      have hlt2 := (List.getElem?_eq_some_iff.1 hi).1
      simp only [List.length_replicate] at hlt2
      rw [List.getElem?_replicate_of_lt hlt2] at hi
      cases hi
      exact ⟨undef, by rw [Array.getElem?_append_right (by simp; omega), Array.getElem?_replicate, if_pos (by simp [hl]; omega)], trivial⟩
  refine wp_mono (Ex_ok (C := ⟨P, w, fun _ => False, β, k⟩) hT c _ _ (h _ rfl rfl) β _ w hsat) ?_
  rintro e a' w' ⟨β', S', hs', hq⟩
  have fin : ∀ l, resOf T S' fn.results.toList = some l → Fin ⟨P, w, fun _ => False, β, k⟩ H0 k ret news (packR l) S' → a'.defers = [] ∧ ∃ v, (results fn a'.tmps).run P w' = .ok v w' ∧ (∃ β' u, Ending.returned v = .returned u ∧ Le β β' ∧ SatH ⟨P, w, fun _ => False, β, k⟩ β' (newH k news ++ H0) w' ∧ (∀ p, k + news.length ≤ p → β' p = none) ∧ R β' ret u) := fun l hl hfin => by
    obtain ⟨u, hu, hR⟩ := results_ok (C := ⟨P, w, fun _ => False, β, k⟩) hT hs' hl
    obtain ⟨β'', g1, g2, g3, g4⟩ := hfin β' w' u hs hs'.heap hs'.base hk hR
    exact ⟨hs'.defers, u, hu, β'', u, rfl, g1, g2, g3, g4⟩
  unfold RetK at hq
  cases e with
  | normal => simp only at hq; split at hq <;> first | exact fin _ ‹_› hq | exact hq.elim
  | ret => simp only at hq; split at hq <;> first | exact fin _ ‹_› hq | exact hq.elim
  | exit id => exact hq.elim
  | goto l => exact hq.elim
  | panic ch => exact hq.elim
  | outgrown => exact hq.elim

/-! loops -/
/-- S is as good as S'. -/
def Ent (C : Cx) (S S' : St) : Prop := ∀ β a w, Sat C β S a w → ∃ β', Sat C β' S' a w

def LoopK {α : Type} (C : Cx) (Inv : α → Prop) (μ : α → Nat) (F : α → St) (n : Nat) (Q : Exit → St → Prop) (e : Exit) (S : St) : Prop :=
  match e with
  | .normal => ∃ x, Inv x ∧ μ x < n ∧ Ent C S (F x)
  | e => Q e S

theorem loop_rule {α : Type} (hT : TysOK C.P T) (F : α → St) (Inv : α → Prop) (μ : α → Nat) {body : Code} {S : St} {Q : Exit → St → Prop} (x0 : α) (h0 : Inv x0) (hent : Ent C S (F x0))
    (round : ∀ x, Inv x → Ex C T wr body (F x) (LoopK C Inv μ F (μ x) Q)) : CodeP C (.loop body) S Q := by
  refine ⟨fun β a w hs => ?_⟩
  refine wp_loop_ghost (fun n a w => ∃ x β, Inv x ∧ μ x = n ∧ Sat C β (F x) a w) (μ x0) ?_ ?_
  · obtain ⟨β', hs'⟩ := hent β a w hs
    exact ⟨x0, β', h0, rfl, hs'⟩
  · rintro n a w ⟨x, β, hi, rfl, hs⟩
    refine wp_mono (Ex_ok hT body _ _ (round x hi) β a w hs) ?_
    rintro e a' w' ⟨β', S', hs', hq⟩
    cases e with
    | normal =>
      obtain ⟨x', h1, h2, h3⟩ := hq
      obtain ⟨β'', hs''⟩ := h3 β' a' w' hs'
      exact ⟨μ x', h2, x', β'', h1, rfl, hs''⟩
    | _ => exact ⟨β', S', hs', hq⟩

theorem LoopK_normal {α : Type} (Inv : α → Prop) (μ : α → Nat) (F : α → St) (n : Nat) (Q : Exit → St → Prop) (S : St) : LoopK C Inv μ F n Q .normal S = ∃ x, Inv x ∧ μ x < n ∧ Ent C S (F x) := rfl
theorem LoopK_exit {α : Type} (Inv : α → Prop) (μ : α → Nat) (F : α → St) (n : Nat) (Q : Exit → St → Prop) (S : St) (id : Nat) : LoopK C Inv μ F n Q (.exit id) S = Q (.exit id) S := rfl
theorem LoopK_ret {α : Type} (Inv : α → Prop) (μ : α → Nat) (F : α → St) (n : Nat) (Q : Exit → St → Prop) (S : St) : LoopK C Inv μ F n Q .ret S = Q .ret S := rfl

end
end E
end Go.Proofs.Ytlkchnfgeedghaa
