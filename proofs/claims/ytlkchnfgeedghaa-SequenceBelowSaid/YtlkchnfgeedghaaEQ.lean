/- Cuts: what holds behind a piece of code is brought to one form. It states nothing about the program. -/
import Derived.Test.YtlkchnfgeedghaaEO
set_option linter.unusedVariables false
namespace Go.Proofs.Ytlkchnfgeedghaa
namespace E
open Go

section
variable {C : Cx} {T : Tys} {wr : List Nat} {S : St}

theorem Ent.refl (S : St) : Ent C S S := fun β a w h => ⟨β, h⟩
theorem Ent.trans {A B D : St} (h : Ent C A B) (k : Ent C B D) : Ent C A D := fun β a w hs => let ⟨β', h'⟩ := h β a w hs; k β' a w h'
/-- All ways out of a piece of code come to one state. -/
theorem cut_rule {c : Code} {Q : Exit → St → Prop} (S0 : St) (h : CodeP C c S fun e S' => e = .normal ∧ Ent C S' S0) (hQ : Q .normal S0) : CodeP C c S Q := by
  refine ⟨fun β a w hs => wp_mono (h.out β a w hs) ?_⟩
  rintro e a' w' ⟨β', S', hs', rfl, he⟩
  obtain ⟨β'', hs''⟩ := he β' a' w' hs'
  exact ⟨β'', S0, hs'', hQ⟩

/-- A nil slice in a slot counts as an empty row. -/
theorem nil_ent (t : Nat) (tc : TypeId) (c0 : RowC) (hc0 : c0.len = 0) (ht : nth S.ts t = .v (.slice none 0 0)) :
    Ent C S { S with ts := upd S.ts t (.full S.nx), H := (S.nx, true, .row tc c0) :: S.H, nx := S.nx + 1 } := by
  intro β a w hs
  have hno : β S.nx = none := hs.names _ (Nat.le_refl _)
  have hle : Le β (ext β S.nx ⟨w.heap.size, 0, true, 0, 0, c0.sz⟩) := ext_le hno
  refine ⟨ext β S.nx ⟨w.heap.size, 0, true, 0, 0, c0.sz⟩, ?_, hs.base.trans hle, hs.bk, fun q hq => ?_, hs.defers, ?_, fun i s hi => ?_⟩
  · exact hs.heap.cons hno ⟨hc0.symm, rfl, by rw [hc0]; exact Nat.zero_le _, fun _ => rfl, fun j hj => by rw [hc0] at hj; omega, fun _ h => by cases h⟩ hs.heap (Nat.le_refl _) (.inr rfl) (fun _ _ => rfl) rfl
  · simp only at hq
    rw [ext, if_neg (by omega)]
    exact hs.names q (by omega)
  · rw [hs.size]; simp only [upd_eq, List.length_set]
  · simp only [upd_eq] at hi
    by_cases e : t = i
    · subst e
      have hlt : t < S.ts.length := by
        have := (List.getElem?_eq_some_iff.1 hi).1; simpa using this
      rw [List.getElem?_set_self hlt] at hi
      cases hi
      rw [nth_eq, List.getD, List.getElem?_eq_getElem hlt, Option.getD_some] at ht
      obtain ⟨u, h3, h4⟩ := hs.ts t _ (List.getElem?_eq_getElem hlt)
      rw [ht] at h4
      exact ⟨u, h3, ⟨w.heap.size, 0, true, 0, 0, c0.sz⟩, ext_self _ _ _, h4⟩
    · rw [List.getElem?_set_ne e] at hi
      obtain ⟨u, h3, h4⟩ := hs.ts i s hi
      exact ⟨u, h3, R_mono hle h4⟩

end
end E
end Go.Proofs.Ytlkchnfgeedghaa
