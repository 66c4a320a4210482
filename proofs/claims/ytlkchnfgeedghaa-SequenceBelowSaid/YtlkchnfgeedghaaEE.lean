/- append, and other operations that make or write rows. It states nothing about the program. -/
import Derived.Test.YtlkchnfgeedghaaED
import Derived.Laws.Append
namespace Go.Proofs.Ytlkchnfgeedghaa
namespace E
open Go

section
variable {P : Program} {w : World}

theorem setCells_nil (w : World) (b o : Nat) : w.setCells b o [] = w := rfl

theorem run_append_in {t ty e : TypeId} {i : TypeInfo} (ht : P.underlying t = some (.slice e)) (hi : P.info? e = some i) {base : Option Addr} {sLen sCap m : Nat} {src : Value} {news : List Value}
    (hlen : (Builtin.lenOf src).run P w = .ok m w) (hsrc : (Builtin.firstCells i.size m src).run P w = .ok news.toArray w) (hroom : sLen + m ≤ sCap) {w' : World}
    (hst : (if let some a := base then storeCells (a.add (sLen * i.size)) news else pure () : Sem Unit).run P w = .ok () w') :
    (Builtin.append_ #[t, t] ty #[.slice base sLen sCap, src]).run P w = .ok (.slice base (sLen + m) sCap) w' := by
  cases base with
  | none =>
    simp only [Sem.run_pure, Result.ok.injEq, true_and] at hst
    subst hst
    simp [Builtin.append_, run_underlying ht, sizeOf, typeInfo, hi, hlen, hroom, hsrc]
  | some a =>
    simp only at hst
    simp [Builtin.append_, run_underlying ht, sizeOf, typeInfo, hi, hlen, hroom, hsrc, hst]

theorem run_append_out {t ty e : TypeId} {i : TypeInfo} {z : Value} (ht : P.underlying t = some (.slice e)) (hi : P.info? e = some i) (hz : i.zero = some z) {base : Option Addr} {sLen sCap m : Nat} {src : Value} {olds news : List Value}
    (hlen : (Builtin.lenOf src).run P w = .ok m w) (hsrc : (Builtin.firstCells i.size m src).run P w.drew = .ok news.toArray w.drew) (hold : (Builtin.firstCells i.size sLen (.slice base sLen sCap)).run P w.drew = .ok olds.toArray w.drew)
    (hg : sCap < sLen + m) (h63 : ((sLen + m : Nat) : Int) ≤ 9223372036854775807) (hfit : Builtin.nextslicecap (sLen + m) sCap * i.bytes ≤ 281474976710656) :
    (Builtin.append_ #[t, t] ty #[.slice base sLen sCap, src]).run P w = .ok (.slice (some ⟨w.heap.size, 0, none⟩) (sLen + m) (grownCap w (sLen + m) sCap e))
      (w.drew.alloc (.cells (olds.toArray ++ news.toArray ++ Builtin.zeroCells z.cells (grownCap w (sLen + m) sCap e - (sLen + m))) e)) := by
  have hn : ¬ (sLen + m ≤ sCap) := by omega
  have h63' : ¬ (9223372036854775807 < ((sLen : Int) + (m : Int))) := by omega
  have h48' : ¬ (281474976710656 < Builtin.nextslicecap (sLen + m) sCap * i.bytes) := by omega
  simp [Builtin.append_, run_underlying ht, sizeOf, typeInfo, zeroValue, hi, hz, hlen, hn, h63', h48', Question.forced, hsrc, hold, newRow, grownCap]
  congr 2
  exact Array.ext' (by simp)

end

/-! rows cut and joined -/
namespace RowC
/-- One row behind another. -/
def ap : RowC → RowC → RowC
  | ints k l, ints _ l' => ints k (l ++ l')
  | cell l, cell l' => cell (l ++ l')
  | strs l, strs l' => strs (l ++ l')
  | ids l, ids l' => ids (l ++ l')
  | dots l, dots l' => dots (l ++ l')
  | marks l, marks l' => marks (l ++ l')
  | ivals l, ivals l' => ivals (l ++ l')
  | vals l, vals l' => vals (l ++ l')
  | raw l, raw l' => raw (l ++ l')
  | c, _ => c
def take (n : Nat) : RowC → RowC
  | ints k l => ints k (l.take n)
  | cell l => cell (l.take n)
  | strs l => strs (l.take n)
  | ids l => ids (l.take n)
  | dots l => dots (l.take n)
  | marks l => marks (l.take n)
  | ivals l => ivals (l.take n)
  | vals l => vals (l.take n)
  | raw l => raw (l.take n)
def drop (n : Nat) : RowC → RowC
  | ints k l => ints k (l.drop n)
  | cell l => cell (l.drop n)
  | strs l => strs (l.drop n)
  | ids l => ids (l.drop n)
  | dots l => dots (l.drop n)
  | marks l => marks (l.drop n)
  | ivals l => ivals (l.drop n)
  | vals l => vals (l.drop n)
  | raw l => raw (l.drop n)
def zeros (n : Nat) : RowC → RowC
  | ints k _ => ints k (List.replicate n 0)
  | cell _ => cell (List.replicate n default)
  | strs _ => strs (List.replicate n default)
  | ids _ => ids (List.replicate n default)
  | dots _ => dots (List.replicate n default)
  | marks _ => marks (List.replicate n default)
  | ivals _ => ivals (List.replicate n default)
  | vals _ => vals (List.replicate n default)
  | raw _ => raw (List.replicate n default)
theorem app_right {α : Type} (l l' : List α) (i : Nat) : (l ++ l')[l.length + i]? = l'[i]? := by
  rw [List.getElem?_append_right (Nat.le_add_right _ _), Nat.add_sub_cancel_left]
theorem ap_sz (c d : RowC) : (c.ap d).sz = c.sz := by cases c <;> cases d <;> rfl
theorem ap_len {c d : RowC} (h : like c d) : (c.ap d).len = c.len + d.len := by
  cases c <;> cases d <;> first | exact h.elim | simp [ap, len]
theorem ap_left {c d : RowC} {i : Nat} (hi : i < c.len) : (c.ap d).get i = c.get i := by
  cases c <;> cases d <;> first | rfl | (simp only [len] at hi; simp [ap, get, List.getD, List.getElem?_append_left hi])
theorem ap_right {c d : RowC} (h : like c d) (i : Nat) : (c.ap d).get (c.len + i) = d.get i := by
  cases c <;> cases d <;> first | exact h.elim | (simp only [len]; simp [ap, get, List.getD, app_right]; try exact h)
theorem like_refl (c : RowC) : like c c := by cases c <;> first | rfl | trivial
theorem like_trans {c d e : RowC} (h : like c d) (k : like d e) : like c e := by
  cases c <;> cases d <;> cases e <;> first | exact h.elim | exact k.elim | exact h.trans k | trivial
theorem like_symm {c d : RowC} (h : like c d) : like d c := by
  cases c <;> cases d <;> first | exact h.elim | exact h.symm | trivial
theorem ap_like (c d : RowC) : like c (c.ap d) := by cases c <;> cases d <;> first | rfl | trivial
theorem take_like (c : RowC) (n : Nat) : like c (c.take n) := by cases c <;> first | rfl | trivial
theorem drop_like (c : RowC) (n : Nat) : like c (c.drop n) := by cases c <;> first | rfl | trivial
theorem zeros_like (c : RowC) (n : Nat) : like c (c.zeros n) := by cases c <;> first | rfl | trivial
theorem take_len {c : RowC} {n : Nat} (h : n ≤ c.len) : (c.take n).len = n := by
  cases c <;> simp only [len] at h <;> simp [take, len] <;> omega
theorem drop_len (c : RowC) (n : Nat) : (c.drop n).len = c.len - n := by
  cases c <;> simp [drop, len]
theorem zeros_len (c : RowC) (n : Nat) : (c.zeros n).len = n := by
  cases c <;> simp [zeros, len]
theorem take_get {c : RowC} {n i : Nat} (h : i < n) : (c.take n).get i = c.get i := by
  cases c <;> simp [take, get, List.getD, h]
theorem drop_get (c : RowC) (n i : Nat) : (c.drop n).get i = c.get (n + i) := by
  cases c <;> simp [drop, get, List.getD, List.getElem?_drop]
theorem zeros_get (c : RowC) {n i : Nat} (h : i < n) : (c.zeros n).get i = (c.zeros 1).get 0 := by
  cases c <;> simp [zeros, get, List.getD, h]
theorem take_all (c : RowC) : c.take c.len = c := by cases c <;> simp [take, len]
theorem take_ap {c d : RowC} (h : like c d) : (c.ap d).take c.len = c := by
  cases c <;> cases d <;> first | exact h.elim | simp [ap, take, len]
theorem drop_ap {c d : RowC} (h : like c d) : like (c.ap d |>.drop c.len) d ∧ (c.ap d).drop c.len = (c.drop c.len).ap d := by
  cases c <;> cases d <;> first | exact h.elim | (refine ⟨?_, ?_⟩ <;> simp [ap, drop, len, like]; try exact h)
/-- d written over c from lo on. -/
def over (c : RowC) (lo : Nat) (d : RowC) : RowC := (c.take lo).ap (d.ap (c.drop (lo + d.len)))
theorem over_like (c : RowC) (lo : Nat) (d : RowC) : like c (c.over lo d) := like_trans (take_like c lo) (ap_like _ _)
theorem over_len {c d : RowC} {lo : Nat} (hk : like c d) (h : lo + d.len ≤ c.len) : (c.over lo d).len = c.len := by
  have h1 : like d (c.drop (lo + d.len)) := like_trans (like_symm hk) (drop_like _ _)
  have h2 : like (c.take lo) (d.ap (c.drop (lo + d.len))) := like_trans (like_symm (take_like c lo)) (like_trans hk (ap_like _ _))
  rw [over, ap_len h2, ap_len h1, take_len (by omega), drop_len]; omega
theorem over_get {c d : RowC} {lo : Nat} (hk : like c d) (h : lo + d.len ≤ c.len) (i : Nat) (hi : i < c.len) : (c.over lo d).get i = if lo ≤ i ∧ i < lo + d.len then d.get (i - lo) else c.get i := by
  have h1 : like d (c.drop (lo + d.len)) := like_trans (like_symm hk) (drop_like _ _)
  have h2 : like (c.take lo) (d.ap (c.drop (lo + d.len))) := like_trans (like_symm (take_like c lo)) (like_trans hk (ap_like _ _))
  have htl := take_len (c := c) (n := lo) (by omega)
  rw [over]
  by_cases a : i < lo
  · rw [if_neg (by omega), ap_left (by omega), take_get a]
  · obtain ⟨j, rfl⟩ : ∃ j, i = lo + j := ⟨i - lo, by omega⟩
    have := ap_right h2 j
    rw [htl] at this
    rw [this]
    by_cases b : j < d.len
    · rw [if_pos (by omega), ap_left b, Nat.add_sub_cancel_left]
    · obtain ⟨m, rfl⟩ : ∃ m, j = d.len + m := ⟨j - d.len, by omega⟩
      rw [if_neg (by omega), ap_right h1, drop_get, Nat.add_assoc]
theorem list_ext_get {α : Type} [Inhabited α] {f : α → List Value} (hf : ∀ x y, f x = f y → x = y) {l l' : List α} (hl : l.length = l'.length) (hg : ∀ i, i < l.length → f (l.getD i default) = f (l'.getD i default)) : l = l' := by
  refine List.ext_getElem hl fun i h1 h2 => ?_
  have := hf _ _ (hg i h1)
  simpa only [List.getD, List.getElem?_eq_getElem h1, List.getElem?_eq_getElem h2, Option.getD_some] using this
theorem ext_get {c d : RowC} (h : like c d) (hl : c.len = d.len) (hg : ∀ i, i < c.len → c.get i = d.get i) : c = d := by
  cases c <;> cases d <;> first | exact h.elim | skip
  · rename_i k l k' l'
    obtain rfl : k = k' := h
    congr 1
    exact list_ext_get (f := fun x => [.int k x]) (fun x y h => by simpa using h) hl hg
  · rename_i l l'
    congr 1
    exact list_ext_get (f := fun (x : Cell) => [.int .i64 x.id.dev, .int .i64 x.id.seq, .int .i64 x.id.pos, .int .i64 x.after.dev, .int .i64 x.after.seq, .int .i64 x.after.pos, .int .i64 x.time, .string x.val, .bool x.gone]) (fun x y h => by obtain ⟨⟨_, _, _⟩, ⟨_, _, _⟩, _, _, _⟩ := x; obtain ⟨⟨_, _, _⟩, ⟨_, _, _⟩, _, _, _⟩ := y; simp_all) hl hg
  · rename_i l l'
    congr 1
    exact list_ext_get (f := fun (x : ByteArray) => [.string x]) (fun x y h => by simpa using h) hl hg
  · rename_i l l'
    congr 1
    exact list_ext_get (f := fun (x : Id3) => [.int .i64 x.dev, .int .i64 x.seq, .int .i64 x.pos]) (fun x y h => by cases x; cases y; simp_all) hl hg
  · rename_i l l'
    congr 1
    exact list_ext_get (f := fun (x : Dot2) => [.int .i64 x.dev, .int .i64 x.seq]) (fun x y h => by cases x; cases y; simp_all) hl hg
  · rename_i l l'
    congr 1
    exact list_ext_get (f := fun (x : Mark) => [.int .i64 x.dot.dev, .int .i64 x.dot.seq, .int .i64 x.time, .int .i64 x.lo.dev, .int .i64 x.lo.seq, .int .i64 x.lo.pos, .int .i64 x.hi.dev, .int .i64 x.hi.seq, .int .i64 x.hi.pos, .int .i64 x.style, .bool x.on]) (fun x y h => by obtain ⟨⟨_, _⟩, _, ⟨_, _, _⟩, ⟨_, _, _⟩, _, _⟩ := x; obtain ⟨⟨_, _⟩, _, ⟨_, _, _⟩, ⟨_, _, _⟩, _, _⟩ := y; simp_all) hl hg
  · rename_i l l'
    congr 1
    exact list_ext_get (f := fun (x : Ival) => [.int .i64 x.m.dot.dev, .int .i64 x.m.dot.seq, .int .i64 x.m.time, .int .i64 x.m.lo.dev, .int .i64 x.m.lo.seq, .int .i64 x.m.lo.pos, .int .i64 x.m.hi.dev, .int .i64 x.m.hi.seq, .int .i64 x.m.hi.pos, .int .i64 x.m.style, .bool x.m.on, .int .i64 x.a, .int .i64 x.b]) (fun x y h => by obtain ⟨⟨⟨_, _⟩, _, ⟨_, _, _⟩, ⟨_, _, _⟩, _, _⟩, _, _⟩ := x; obtain ⟨⟨⟨_, _⟩, _, ⟨_, _, _⟩, ⟨_, _, _⟩, _, _⟩, _, _⟩ := y; simp_all) hl hg
  · rename_i l l'
    congr 1
    refine list_ext_get (f := fun (x : Val4) => [.int .i64 x.kind, .int .i64 x.n, .string x.s, x.sub.v]) (fun x y h => ?_) hl hg
    obtain ⟨a, b, s, u⟩ := x
    obtain ⟨a', b', s', u'⟩ := y
    simp only [List.cons.injEq, Value.int.injEq, Value.string.injEq, true_and, and_true] at h
    obtain ⟨rfl, rfl, rfl, h⟩ := h
    rw [OneV.ext h]
  · rename_i l l'
    congr 1
    exact list_ext_get (f := fun (x : OneV) => [x.v]) (fun x y h => OneV.ext (by simpa using h)) hl hg
end RowC

def delC (p : Nat) : Heap → Heap
  | [] => []
  | (q, x) :: H => if p = q then delC p H else (q, x) :: delC p H
theorem mem_delC {p q : Nat} {x : Bool × Chunk} : ∀ {H : Heap}, (q, x) ∈ delC p H → q ≠ p ∧ (q, x) ∈ H
  | (r, y) :: H, h => by
    unfold delC at h
    split at h
    · obtain ⟨h1, h2⟩ := mem_delC h; exact ⟨h1, List.mem_cons_of_mem _ h2⟩
    · rename_i e
      rcases List.mem_cons.1 h with h | h
      · cases h; exact ⟨fun h => e h.symm, List.mem_cons_self⟩
      · obtain ⟨h1, h2⟩ := mem_delC h; exact ⟨h1, List.mem_cons_of_mem _ h2⟩

section
variable {C : Cx} {T : Tys} {β : Names} {S : St} {H : Heap} {w : World}

/-- A row's cells in an array say what the chunk says. -/
theorem rowSat {β : Names} {w : World} {g cap : Nat} {arr : Array Value} {tid : TypeId} {c : RowC} (hg : w.heap[g]? = some (.cells arr tid (0, 0))) (hsz : arr.size = cap * c.sz) (hle : c.len ≤ cap)
    {e : RowC} (hk : c.like e) (he : c.len + e.len = cap) (hs : ∀ i, i < e.len → ∀ (q : Nat) (u : Value), (e.get i)[q]? = some u → arr[(c.len + i) * c.sz + q]? = some u)
    (hc : ∀ i, i < c.len → ∀ (q : Nat) (u : Value), (c.get i)[q]? = some u → arr[i * c.sz + q]? = some u) : SatC β w true ⟨g, 0, false, cap, c.len, c.sz⟩ (.row tid c) :=
  ⟨rfl, rfl, hle, (fun h => by cases h), fun i hi q u hu => by rw [cell_of_row _ _ _ _ _ _ hg, Nat.zero_add]; exact hc i hi q u hu, fun _ _ => ⟨rfl, arr, e, hg, hsz, hk, he, hs⟩⟩

theorem cells_at {c : RowC} {n : Nat} (hn : n ≤ c.len) {w : World} {b o : Nat} (h : ∀ i, i < c.len → ∀ (q : Nat) (u : Value), (c.get i)[q]? = some u → w.cell? ⟨b, o + i * c.sz + q, none⟩ = some u) :
    ∀ (j : Nat) (u : Value), (c.cells n)[j]? = some u → w.cell? ⟨b, o + j, none⟩ = some u := by
  intro j u hu
  have hlt : j < n * c.sz := by have := (List.getElem?_eq_some_iff.1 hu).1; rwa [RowC.cells_length] at this
  have hpos := c.sz_pos
  have hi : j / c.sz < n := Nat.div_lt_of_lt_mul (by rw [Nat.mul_comm]; exact hlt)
  have hq : j % c.sz < c.sz := Nat.mod_lt _ hpos
  have hj : j / c.sz * c.sz + j % c.sz = j := by rw [Nat.mul_comm]; exact Nat.div_add_mod j c.sz
  have hgl : j % c.sz < (c.get (j / c.sz)).length := by rw [RowC.get_length]; exact hq
  have h1 := RowC.cells_get c n (j / c.sz) (j % c.sz) _ hi (List.getElem?_eq_getElem hgl)
  rw [hj, hu] at h1
  have h2 := h (j / c.sz) (by omega) (j % c.sz) _ (List.getElem?_eq_getElem hgl)
  rw [Nat.add_assoc, hj] at h2
  rw [h2, ← h1]

theorem firstCells_row {P : Program} {c : RowC} {n : Nat} (hn : n ≤ c.len) {w : World} {A : Option Addr} {l cap : Nat} {b o : Nat} (hA : 0 < n → A = some ⟨b, o, none⟩) (h : ∀ i, i < c.len → ∀ (q : Nat) (u : Value), (c.get i)[q]? = some u → w.cell? ⟨b, o + i * c.sz + q, none⟩ = some u) :
    (Builtin.firstCells c.sz n (.slice A l cap)).run P w = .ok (c.cells n).toArray w := by
  rcases Nat.eq_zero_or_pos n with e | e
  · subst e
    cases A with
    | none => rfl
    | some a => simp [Builtin.firstCells, RowC.cells, loadCells, loadCellsFrom]
  · rw [hA e]
    unfold Builtin.firstCells
    rw [← RowC.cells_length c n]
    exact run_loadCells_list (P := P) w ⟨b, o, none⟩ (c.cells n) (fun j u hu => by rw [addr_add]; exact cells_at hn h j u hu)

/-- A block that is a row of elements from end to end. -/
def Whole (w : World) (b : Nat) (tid : TypeId) (F : RowC) : Prop :=
  ∃ arr : Array Value, w.heap[b]? = some (.cells arr tid (0, 0)) ∧ arr.size = F.len * F.sz ∧ ∀ i, i < F.len → ∀ (q : Nat) (u : Value), (F.get i)[q]? = some u → arr[i * F.sz + q]? = some u

theorem whole_of_row {r : Ref} {tid : TypeId} {c : RowC} (h : SatC β w true r (.row tid c)) (hn : r.nil = false) :
    r.off = 0 ∧ r.n = c.len ∧ r.sz = c.sz ∧ ∃ F, Whole w r.blk tid F ∧ F.len = r.cap ∧ RowC.like c F ∧ F.take c.len = c := by
  obtain ⟨h1, h2, h3, h4, h5, h6⟩ := h
  obtain ⟨h7, arr, e, h8, h9, h10, h11, h12⟩ := h6 rfl hn
  have hlen : (c.ap e).len = r.cap := by rw [RowC.ap_len h10, h11]
  refine ⟨h7, h1, h2, c.ap e, ⟨arr, h8, by rw [RowC.ap_sz, hlen]; exact h9, fun i hi q u hu => ?_⟩, hlen, RowC.ap_like _ _, RowC.take_ap h10⟩
  rw [RowC.ap_sz]
  by_cases a : i < c.len
  · rw [RowC.ap_left a] at hu
    have := h5 i a q u hu
    rwa [cell_of_row _ _ _ _ _ _ h8, h7, Nat.zero_add] at this
  · obtain ⟨j, rfl⟩ : ∃ j, i = c.len + j := ⟨i - c.len, by omega⟩
    rw [RowC.ap_right h10] at hu
    exact h12 j (by omega) q u hu

theorem row_of_whole {b : Nat} {tid : TypeId} {F : RowC} {n : Nat} (h : Whole w b tid F) (hn : n ≤ F.len) : SatC β w true ⟨b, 0, false, F.len, n, F.sz⟩ (.row tid (F.take n)) := by
  obtain ⟨arr, h1, h2, h3⟩ := h
  have hl := RowC.take_len hn
  have hs : (F.take n).sz = F.sz := RowC.like_sz (RowC.take_like F n)
  refine ⟨hl.symm, hs.symm, by rw [hl]; exact hn, (fun h => by cases h), fun i hi q u hu => ?_, fun _ _ => ⟨rfl, arr, F.drop n, h1, by rw [hs]; exact h2, RowC.like_trans (RowC.like_symm (RowC.take_like F n)) (RowC.drop_like F n), by rw [hl, RowC.drop_len]; simp only; omega, fun i hi q u hu => ?_⟩⟩
  · rw [hl] at hi
    rw [RowC.take_get hi] at hu
    rw [cell_of_row _ _ _ _ _ _ h1, Nat.zero_add, hs]
    exact h3 i (by omega) q u hu
  · rw [RowC.drop_len] at hi
    rw [RowC.drop_get] at hu
    rw [hl, hs]
    exact h3 (n + i) (by omega) q u hu

/-- Elements stored into a row. -/
theorem whole_over {P : Program} {b : Nat} {tid : TypeId} {F d : RowC} {lo : Nat} (h : Whole w b tid F) (hk : RowC.like F d) (hl : lo + d.len ≤ F.len) :
    ∃ w', (storeCells ⟨b, lo * F.sz, none⟩ (d.cells d.len)).run P w = .ok () w' ∧ Whole w' b tid (F.over lo d) ∧ w'.os = w.os ∧ w'.tape = w.tape ∧ w'.output = w.output ∧ w'.heap.size = w.heap.size ∧ w.drawn ≤ w'.drawn ∧ ∀ k, k ≠ b → w'.heap[k]? = w.heap[k]? := by
  obtain ⟨arr, h1, h2, h3⟩ := h
  have hdl := d.cells_length d.len
  have hdz : d.sz = F.sz := RowC.like_sz hk
  rw [hdz] at hdl
  have hbound : lo * F.sz + (d.cells d.len).length ≤ arr.size := by
    rw [hdl, h2, ← Nat.add_mul]; exact Nat.mul_le_mul_right _ hl
  have hst := run_storeCells_cells (P := P) b (lo * F.sz) (d.cells d.len) 0 w (fun j hj => by rw [Nat.add_zero, cell_of_row w b _ arr tid _ h1]; simp; omega) (fun j _ => frozen_of_row w b _ arr tid h1) (RowC.cells_one d _)
  rw [Nat.add_zero] at hst
  obtain ⟨arr', g1, g2, g3, g4, g5, g6, g7, g8⟩ := heap_setCells b (d.cells d.len) (lo * F.sz) w arr tid h1 hbound
  have hol := RowC.over_len hk hl
  have hos : (F.over lo d).sz = F.sz := RowC.like_sz (RowC.over_like F lo d)
  refine ⟨_, hst, ⟨arr', g1, by rw [g2, h2, hol, hos], fun i hi q u hu => ?_⟩, g4, g5, g6, g7, (by rw [setCells_drawn]; exact Nat.le_refl _), g8⟩
  rw [hol] at hi
  have hq : q < F.sz := by have := (List.getElem?_eq_some_iff.1 hu).1; rwa [RowC.get_length, hos] at this
  rw [RowC.over_get hk hl i hi] at hu
  rw [hos, g3, hdl]
  split at hu
  · rename_i c
    obtain ⟨c1, c2⟩ := c
    have e1 : lo * F.sz ≤ i * F.sz := Nat.mul_le_mul_right _ c1
    have e2 : (i + 1) * F.sz ≤ (lo + d.len) * F.sz := Nat.mul_le_mul_right _ c2
    rw [Nat.add_mul, Nat.one_mul, Nat.add_mul] at e2
    rw [if_pos (by omega)]
    have := RowC.cells_get d d.len (i - lo) q u (by omega) hu
    rw [hdz, Nat.sub_mul] at this
    rw [show i * F.sz + q - lo * F.sz = i * F.sz - lo * F.sz + q by omega]
    exact this
  · rename_i c
    rw [if_neg ?_]
    · exact h3 i hi q u hu
    · rintro ⟨c1, c2⟩
      apply c
      constructor
      · rcases Nat.lt_or_ge i lo with a | a
        · have : (i + 1) * F.sz ≤ lo * F.sz := Nat.mul_le_mul_right _ a
          rw [Nat.add_mul, Nat.one_mul] at this; omega
        · exact a
      · rcases Nat.lt_or_ge i (lo + d.len) with a | a
        · exact a
        · have : (lo + d.len) * F.sz ≤ i * F.sz := Nat.mul_le_mul_right _ a
          rw [Nat.add_mul] at this; omega

theorem getElem?_zeroCells (z : Array Value) (n i q : Nat) (hq : q < z.size) (hi : i < n) : (Builtin.zeroCells z n)[i * z.size + q]? = z[q]? := by
  have h1 : (i + 1) * z.size ≤ n * z.size := Nat.mul_le_mul_right _ hi
  rw [Nat.add_mul, Nat.one_mul] at h1
  have hm : (i * z.size + q) % z.size = q := by rw [Nat.add_comm, Nat.add_mul_mod_self_right]; exact Nat.mod_eq_of_lt hq
  have hlt : i * z.size + q < n * z.size := by omega
  simp only [Builtin.zeroCells, Array.getElem?_map, Array.getElem?_range, if_pos hlt, Option.map_some, hm]
  rw [getElem!_pos z q hq, Array.getElem?_eq_getElem hq]

theorem size_zeroCells (z : Array Value) (n : Nat) : (Builtin.zeroCells z n).size = n * z.size := by simp [Builtin.zeroCells]

/-- The block that a growing append lays. -/
theorem whole_grown {c d : RowC} {z : Array Value} {tid : TypeId} {n : Nat} {b : Nat} (hk : RowC.like c d) (hz : z.toList = (c.zeros 1).get 0)
    (hb : w.heap[b]? = some (.cells ((c.cells c.len).toArray ++ (d.cells d.len).toArray ++ Builtin.zeroCells z (n - (c.len + d.len))) tid (0, 0))) :
    Whole w b tid ((c.ap d).ap (c.zeros (n - (c.len + d.len)))) := by
  have hdz : d.sz = c.sz := RowC.like_sz hk
  have hk2 : RowC.like (c.ap d) (c.zeros (n - (c.len + d.len))) := RowC.like_trans (RowC.like_symm (RowC.ap_like c d)) (RowC.zeros_like _ _)
  have hzs : z.size = c.sz := by
    rw [← Array.length_toList, hz, RowC.get_length, RowC.like_sz (RowC.zeros_like c 1)]
  have l1 := c.cells_length c.len
  have l2 := d.cells_length d.len
  have l3 := size_zeroCells z (n - (c.len + d.len))
  rw [hdz] at l2
  rw [hzs] at l3
  refine ⟨_, hb, ?_, fun i hi q u hu => ?_⟩
  · rw [RowC.ap_len hk2, RowC.ap_len hk, RowC.zeros_len, RowC.ap_sz, RowC.ap_sz]
    simp only [Array.size_append, List.size_toArray, l1, l2, l3, ← Nat.add_mul]
  · rw [RowC.ap_len hk2, RowC.ap_len hk, RowC.zeros_len] at hi
    have hq : q < c.sz := by have := (List.getElem?_eq_some_iff.1 hu).1; rwa [RowC.get_length, RowC.ap_sz, RowC.ap_sz] at this
    rw [RowC.ap_sz, RowC.ap_sz]
    by_cases a : i < c.len
    · rw [RowC.ap_left (by rw [RowC.ap_len hk]; omega), RowC.ap_left a] at hu
      have := RowC.cells_get c c.len i q u a hu
      have e2 : (i + 1) * c.sz ≤ c.len * c.sz := Nat.mul_le_mul_right _ a
      rw [Nat.add_mul, Nat.one_mul] at e2
      rw [Array.getElem?_append_left (by simp [l1]; omega), Array.getElem?_append_left (by simp [l1]; omega)]
      simpa using this
    · obtain ⟨j, rfl⟩ : ∃ j, i = c.len + j := ⟨i - c.len, by omega⟩
      by_cases b : j < d.len
      · rw [RowC.ap_left (by rw [RowC.ap_len hk]; omega), RowC.ap_right hk] at hu
        have := RowC.cells_get d d.len j q u b hu
        have e2 : (j + 1) * c.sz ≤ d.len * c.sz := Nat.mul_le_mul_right _ b
        rw [Nat.add_mul, Nat.one_mul] at e2
        rw [Nat.add_mul, Array.getElem?_append_left (by simp [l1, l2]; omega), Array.getElem?_append_right (by simp [l1]; omega)]
        rw [hdz] at this
        simp only [List.size_toArray, l1]
        rw [show c.len * c.sz + j * c.sz + q - c.len * c.sz = j * c.sz + q by omega]
        simpa using this
      · obtain ⟨m, rfl⟩ : ∃ m, j = d.len + m := ⟨j - d.len, by omega⟩
        have := RowC.ap_right hk2 m
        rw [RowC.ap_len hk, Nat.add_assoc] at this
        rw [this, RowC.zeros_get _ (by omega), ← hz] at hu
        have e2 : (m + 1) * c.sz ≤ (n - (c.len + d.len)) * c.sz := Nat.mul_le_mul_right _ (by omega)
        rw [Nat.add_mul, Nat.one_mul] at e2
        rw [Nat.add_mul, Nat.add_mul, Array.getElem?_append_right (by simp [l1, l2]; omega)]
        simp only [Array.size_append, List.size_toArray, l1, l2]
        rw [show c.len * c.sz + (d.len * c.sz + m * c.sz) + q - (c.len * c.sz + d.len * c.sz) = m * z.size + q by rw [hzs]; omega, getElem?_zeroCells _ _ _ _ (by omega) (by omega)]
        simpa using hu

end
end E
end Go.Proofs.Ytlkchnfgeedghaa
