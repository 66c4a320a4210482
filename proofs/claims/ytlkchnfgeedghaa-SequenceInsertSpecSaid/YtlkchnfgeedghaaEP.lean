/- A call of a state in which a nil slice in a box counts as an empty row. It states nothing about the program. -/
import Derived.Test.YtlkchnfgeedghaaEO
set_option linter.unusedVariables false
namespace Go.Proofs.Ytlkchnfgeedghaa
namespace E
open Go

section
variable {C : Cx} {T : Tys} {S : St} {K : SV → St → Prop}

theorem nil_state {β : Names} {a : Act} {w : World} (hs : Sat C β S a w) {p : Nat} {t tc : TypeId} (hg : get p S.H = some (true, .box t [.v (.slice none 0 0)])) (c0 : RowC) (hc0 : c0.len = 0) :
    ∃ β', Le β β' ∧ Sat C β' { S with H := (S.nx, true, .row tc c0) :: setC p (.box t [.full S.nx]) S.H, nx := S.nx + 1 } a w := by
  have hno : β S.nx = none := hs.names _ (Nat.le_refl _)
  have hle : Le β (ext β S.nx ⟨w.heap.size, 0, true, 0, 0, c0.sz⟩) := ext_le hno
  obtain ⟨r, hr, hsat, hl⟩ := hs.heap.sat _ _ _ (get_mem hg)
  have hpn : p ≠ S.nx := fun e => by rw [e, hno] at hr; cases hr
  have h1 : SatH C (ext β S.nx ⟨w.heap.size, 0, true, 0, 0, c0.sz⟩) ((S.nx, true, .row tc c0) :: S.H) w :=
    hs.heap.cons hno ⟨hc0.symm, rfl, by rw [hc0]; exact Nat.zero_le _, fun _ => rfl, fun j hj => by rw [hc0] at hj; omega, fun _ h => by cases h⟩ hs.heap (Nat.le_refl _) (.inr rfl) (fun _ _ => rfl) rfl
  obtain ⟨arr, g1, g2, g3, g4, g5, g6⟩ := id hsat
  have h2 := h1.put (p := p) (ch := .box t [.v (.slice none 0 0)]) (ch' := .box t [.full S.nx]) (r := r) (List.mem_cons_of_mem _ (get_mem hg)) (hle _ _ hr) g4 (w' := w) rfl rfl rfl rfl (fun _ _ => rfl) ⟨arr, g1, g2, g3, g4, fun i s hi => by
    rcases i with _ | i
    · cases hi
      obtain ⟨u, a1, a2⟩ := g5 0 _ rfl
      refine ⟨u, a1, ⟨w.heap.size, 0, true, 0, 0, c0.sz⟩, ext_self _ _ _, ?_⟩
      exact a2
    · simp at hi, g6⟩ rfl
  refine ⟨_, hle, ?_, hs.base.trans hle, hs.bk, fun q hq => ?_, hs.defers, hs.size, fun i s hi => ?_⟩
  · have e : setC p (.box t [.full S.nx]) ((S.nx, true, .row tc c0) :: S.H) = (S.nx, true, .row tc c0) :: setC p (.box t [.full S.nx]) S.H := by
      simp only [setC, if_neg hpn]
    rw [← e]
    exact h2
  · simp only at hq
    rw [ext, if_neg (by omega)]
    exact hs.names q (by omega)
  · obtain ⟨u, h3, h4⟩ := hs.ts i s hi
    exact ⟨u, h3, R_mono hle h4⟩

theorem nil_call {f : FuncId} {args : List SV} {p : Nat} {t : TypeId} (tc : TypeId) (c0 : RowC) (hc0 : c0.len = 0) (hg : get p S.H = some (true, .box t [.v (.slice none 0 0)]))
    (h : CallP C f args { S with H := (S.nx, true, .row tc c0) :: setC p (.box t [.full S.nx]) S.H, nx := S.nx + 1 } K) : CallP C f args S K := by
  refine ⟨fun β a w hs vs hvs => ?_⟩
  obtain ⟨β', hle, hs'⟩ := nil_state (tc := tc) hs hg c0 hc0
  exact h.out β' a w hs' vs ⟨hvs.1, fun i s hi => let ⟨u, h1, h2⟩ := hvs.2 i s hi; ⟨u, h1, R_mono hle h2⟩⟩

end
end E
end Go.Proofs.Ytlkchnfgeedghaa
