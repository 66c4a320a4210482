/- The keys of sequence.Order's maps, and plain laws of the map of children. -/
import Derived.Test.YtlkchnfgeedghaaSA
set_option linter.unusedSimpArgs false
set_option linter.unusedVariables false
namespace Go.Proofs.Ytlkchnfgeedghaa
namespace E
open Go

theorem chk_int (n : Nat) (e : Bool) (v : Int) (w : World) : (Instr.checkKey e (n + 1) 3 (.int .i64 v)).run Try.prog w = .ok () w := by
  rw [Instr.checkKey, Sem.run_bind, run_underlying (P := Try.prog) Try.underlying3]
  rfl

theorem key_id : KeyOK Try.prog 31 3 where
  und := ⟨_, Try.underlying31⟩
  eq := fun a b ha hb w => by
    obtain ⟨x, y, z, rfl⟩ : ∃ x y z, a = [x, y, z] := by
      rcases a with _ | ⟨x, _ | ⟨y, _ | ⟨z, _ | ⟨_, _⟩⟩⟩⟩ <;> simp at ha; exact ⟨x, y, z, rfl⟩
    obtain ⟨x', y', z', rfl⟩ : ∃ x y z, b = [x, y, z] := by
      rcases b with _ | ⟨x, _ | ⟨y, _ | ⟨z, _ | ⟨_, _⟩⟩⟩⟩ <;> simp at hb; exact ⟨x, y, z, rfl⟩
    refine (eq_id3 9998 x y z x' y' z' w).trans ?_
    congr 1
    simp
  chk := fun a ha e w => by
    obtain ⟨x, y, z, rfl⟩ : ∃ x y z, a = [x, y, z] := by
      rcases a with _ | ⟨x, _ | ⟨y, _ | ⟨z, _ | ⟨_, _⟩⟩⟩⟩ <;> simp at ha; exact ⟨x, y, z, rfl⟩
    rw [Instr.checkKey, Sem.run_bind, run_underlying (P := Try.prog) Try.underlying31]
    simp [keyV, part, chk_int 9998]

theorem key_dot : KeyOK Try.prog 57 2 where
  und := ⟨_, Try.underlying57⟩
  eq := fun a b ha hb w => by
    obtain ⟨x, y, rfl⟩ : ∃ x y, a = [x, y] := by
      rcases a with _ | ⟨x, _ | ⟨y, _ | ⟨_, _⟩⟩⟩ <;> simp at ha; exact ⟨x, y, rfl⟩
    obtain ⟨x', y', rfl⟩ : ∃ x y, b = [x, y] := by
      rcases b with _ | ⟨x, _ | ⟨y, _ | ⟨_, _⟩⟩⟩ <;> simp at hb; exact ⟨x, y, rfl⟩
    refine (eq_dot2 9998 x y x' y' w).trans ?_
    congr 1
    simp
  chk := fun a ha e w => by
    obtain ⟨x, y, rfl⟩ : ∃ x y, a = [x, y] := by
      rcases a with _ | ⟨x, _ | ⟨y, _ | ⟨_, _⟩⟩⟩ <;> simp at ha; exact ⟨x, y, rfl⟩
    rw [Instr.checkKey, Sem.run_bind, run_underlying (P := Try.prog) Try.underlying57]
    simp [keyV, part, chk_int 9998]

/-! the map of children -/
def keyI (x : Id3) : List Int := [x.dev, x.seq, x.pos]
theorem keyI_inj {x y : Id3} (h : keyI x = keyI y) : x = y := by
  obtain ⟨a, b, c⟩ := x; obtain ⟨a', b', c'⟩ := y
  simp [keyI] at h
  obtain ⟨rfl, rfl, rfl⟩ := h; rfl
def kidsF (l : List Cell) (x : Id3) : List Cell := l.filter fun c => decide (c.after = x)
structure KidsOf (l : List Cell) (M : List (List Int × RowC)) : Prop where
  len : ∀ e ∈ M, e.1.length = 3
  abs : ∀ x, idxK M (keyI x) = none → kidsF l x = []
  pres : ∀ (x : Id3) (j : Nat) (hj : j < M.length), idxK M (keyI x) = some j → M[j].2 = .cell (kidsF l x)
theorem KidsOf.nil : KidsOf [] [] := ⟨fun e h => by simp at h, fun _ _ => rfl, fun x j hj => by simp at hj⟩

theorem idxK_append {α : Type} (M : List (List Int × α)) (k k' : List Int) (c : α) : idxK (M ++ [(k, c)]) k' = match idxK M k' with | some j => some j | none => if k = k' then some M.length else none := by
  unfold idxK
  rw [List.findIdx?_append]
  cases M.findIdx? (fun x => decide (x.1 = k')) with
  | some j => rfl
  | none => by_cases h : k = k' <;> simp [h]
theorem idxK_set {α : Type} {M : List (List Int × α)} {j : Nat} (hj : j < M.length) (c : α) (k : List Int) : idxK (M.set j (M[j].1, c)) k = idxK M k := by
  unfold idxK
  induction M generalizing j with
  | nil => simp at hj
  | cons e M ih =>
    cases j with
    | zero => simp [List.findIdx?_cons]
    | succ j =>
      simp only [List.set_cons_succ, List.findIdx?_cons, List.getElem_cons_succ]
      rw [ih (by simpa using hj)]
theorem idxK_key' {α : Type} {M : List (List Int × α)} {k : List Int} {j : Nat} (h : idxK M k = some j) : ∃ hj : j < M.length, M[j].1 = k := ⟨idxK_lt h, idxK_key h (idxK_lt h)⟩

/-- One cell more, under a new parent. -/
theorem KidsOf.new {l : List Cell} {M : List (List Int × RowC)} (h : KidsOf l M) {c : Cell} (hn : idxK M (keyI c.after) = none) : KidsOf (l ++ [c]) (M ++ [(keyI c.after, .cell [c])]) := by
  refine ⟨fun e he => ?_, fun x hx => ?_, fun x j hj hx => ?_⟩
  · rcases List.mem_append.1 he with he | he
    · exact h.len e he
    · simp at he; subst he; rfl
  · rw [idxK_append] at hx
    cases hi : idxK M (keyI x) with
    | some j => rw [hi] at hx; cases hx
    | none =>
      rw [hi] at hx
      simp only at hx
      have hne : ¬ c.after = x := fun e => by rw [if_pos (by rw [e])] at hx; cases hx
      have := h.abs x hi
      simp [kidsF, List.filter_append, hne] at this ⊢
      exact this
  · rw [idxK_append] at hx
    cases hi : idxK M (keyI x) with
    | some j' =>
      rw [hi] at hx
      cases hx
      have hj' := idxK_lt hi
      have hne : ¬ c.after = x := fun e => by rw [e] at hn; rw [hn] at hi; cases hi
      rw [List.getElem_append_left hj', h.pres x j hj' hi]
      simp [kidsF, List.filter_append, hne]
    | none =>
      rw [hi] at hx
      simp only at hx
      split at hx
      · rename_i e
        cases hx
        obtain rfl := keyI_inj e
        have := h.abs _ hi
        simp [kidsF, List.filter_append] at this ⊢
        exact this
      · cases hx
/-- .. under a parent that has some. -/
theorem KidsOf.more {l : List Cell} {M : List (List Int × RowC)} (h : KidsOf l M) {c : Cell} {j : Nat} (hj : j < M.length) (hn : idxK M (keyI c.after) = some j) : KidsOf (l ++ [c]) (M.set j (M[j].1, .cell (kidsF l c.after ++ [c]))) := by
  refine ⟨fun e he => ?_, fun x hx => ?_, fun x i hi hx => ?_⟩
  · rcases List.mem_or_eq_of_mem_set he with he | rfl
    · exact h.len e he
    · exact h.len M[j] (List.getElem_mem hj)
  · rw [idxK_set hj] at hx
    have hne : ¬ c.after = x := fun e => by rw [e, hx] at hn; cases hn
    have := h.abs x hx
    simp [kidsF, List.filter_append, hne] at this ⊢
    exact this
  · rw [idxK_set hj] at hx
    have hi' := idxK_lt hx
    by_cases e : i = j
    · subst e
      have hk : keyI c.after = keyI x := by rw [← idxK_key hn hj, ← idxK_key hx hj]
      obtain rfl := keyI_inj hk
      simp [kidsF, List.filter_append]
    · rw [List.getElem_set_ne (fun h => e h.symm), h.pres x i hi' hx]
      have hne : ¬ c.after = x := fun e' => by rw [e', hx] at hn; cases hn; exact e rfl
      simp [kidsF, List.filter_append, hne]

/-- The entries that are out when these IDs have been looked up. -/
def outV (M : List (List Int × RowC)) : List Id3 → List Nat → List Nat
  | [], out => out
  | x :: xs, out => outV M xs (match idxK M (keyI x) with | some j => j :: out | none => out)
theorem outV_append (M : List (List Int × RowC)) : ∀ (xs ys : List Id3) (out : List Nat), outV M (xs ++ ys) out = outV M ys (outV M xs out)
  | [], ys, out => rfl
  | x :: xs, ys, out => outV_append M xs ys _
theorem mem_outV {M : List (List Int × RowC)} {j : Nat} : ∀ {xs : List Id3} {out : List Nat}, j ∈ outV M xs out → j ∈ out ∨ ∃ y ∈ xs, idxK M (keyI y) = some j
  | [], out, h => .inl h
  | x :: xs, out, h => by
    rcases mem_outV (xs := xs) h with h | ⟨y, hy, h⟩
    · cases hi : idxK M (keyI x) with
      | none => rw [hi] at h; exact .inl h
      | some j' =>
        rw [hi] at h
        rcases List.mem_cons.1 h with rfl | h
        · exact .inr ⟨x, List.mem_cons_self, hi⟩
        · exact .inl h
    · exact .inr ⟨y, List.mem_cons_of_mem _ hy, h⟩
def fresh (M : List (List Int × RowC)) (out : List Nat) (xs : List Id3) : Prop := ∀ y ∈ xs, ∀ j, idxK M (keyI y) = some j → j ∉ out
theorem fresh_of {M : List (List Int × RowC)} {out : List Nat} {xs ys zs : List Id3} (h : fresh M out (xs ++ ys ++ zs)) (hn : (xs ++ ys ++ zs).Nodup) : fresh M (outV M xs out) ys := by
  intro y hy j hj hm
  rcases mem_outV hm with hm | ⟨z, hz, hzj⟩
  · exact h y (by simp [hy]) j hj hm
  · have hk : keyI y = keyI z := by
      obtain ⟨h1, e1⟩ := idxK_key' hj
      obtain ⟨_, e2⟩ := idxK_key' hzj
      rw [← e1, ← e2]
    obtain rfl := keyI_inj hk
    rw [List.append_assoc, List.nodup_append] at hn
    exact hn.2.2 y hz y (by simp [hy]) rfl
/-- What one visits below an ID. -/
def visits (l : List Cell) (f : Nat) (x : Id3) : List Id3 := x :: (belowN l f x).map Cell.id
theorem visits_succ (l : List Cell) (f : Nat) (x : Id3) : visits l (f + 1) x = x :: (kidsL l x).flatMap fun c => visits l f c.id := by
  unfold visits
  rw [belowN, List.map_flatMap]
  congr 1
theorem kidsL_perm {l : List Cell} {x : Id3} : (kidsL l x).Perm (kidsF l x) := kids_perm l x

end E
end Go.Proofs.Ytlkchnfgeedghaa
