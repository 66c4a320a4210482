/- What the executor says holds of the model: calls, regions, code, loops, whole functions. It states nothing about the program. -/
import Derived.Test.YtlkchnfgeedghaaE7
namespace Go.Proofs.Ytlkchnfgeedghaa
namespace E
open Go

section
variable {C : Cx} {T : Tys} {wr : List Nat} {o : Oper} {S : St} {K : SV → St → Prop}

theorem pushAll_sz : ∀ {parts : List (Nat × SV)} {c c' : RowC} {k : Nat}, pushAll c k parts = some c' → c'.sz = c.sz
  | [], c, c', k, h => by simp [pushAll] at h; subst h; rfl
  | (j, s) :: parts, c, c', k, h => by
    simp only [pushAll] at h
    split at h
    · split at h
      · simp only [Option.bind_eq_some_iff] at h
        obtain ⟨c1, h1, h2⟩ := h
        exact (pushAll_sz h2).trans (RowC.push_ok h1).1
      · cases h
    · cases h

theorem buildSlice_step (hT : TysOK C.P T) {t n e esz : Nat} {ek : EK} {parts : Array (Nat × Operand)} {ti : TI} {c0 c : RowC} (ho : o.op = .buildSlice t n parts) (hti : T t = some ti) (hk : ti.k = .slice e esz ek)
    (h0 : RowC.nil ek = some c0) (hp : pushAll c0 0 (parts.toList.map fun p => (p.1, S.ev p.2)) = some c) (hn : n = parts.size) (hsz : c.sz = esz) (hlim : n * esz ≤ 16777216) (hz : n = 0 ∨ (T e).isSome = true) (h : goNew S K (.row e c) (.full S.nx)) : OpP C o S K := by
  refine new_ok (fun _ _ => rfl) h fun β a w hs => ?_
  obtain ⟨d, hd, hd'⟩ := (hT t ti hti).kind
  rw [hk] at hd'
  obtain ⟨rfl, hes⟩ := hd'
  obtain ⟨v1, v2⟩ := vals_of hs parts
  have hl0 := nil_ok h0
  have hpos : 0 < esz := by rw [← hsz]; exact c.sz_pos
  -- the first cells
  obtain ⟨zs, hzs, hzs1, hzrun⟩ : ∃ zs : Array Value, (n ≠ 0 → zs.size = esz) ∧ (∀ y ∈ zs.toList, y.oneCell' = true) ∧ ((n * esz = 0 ∧ zs = #[]) ∨ (¬ n * esz = 0 ∧ ∃ z, (C.P.info? e).map (·.zero) = some (some z) ∧ zs = z.cells)) := by
    rcases Nat.eq_zero_or_pos n with e0 | e0
    · exact ⟨#[], fun h => absurd e0 h, by simp, .inl ⟨by rw [e0, Nat.zero_mul], rfl⟩⟩
    · have hne : n ≠ 0 := by omega
      obtain ⟨ei, hei⟩ := Option.isSome_iff_exists.1 (hz.resolve_left hne)
      have hi := hT e ei hei
      obtain ⟨z, hz1, hz2, hz3⟩ := hi.zero
      have h1 := hi.size
      rw [hes] at h1
      have hzsz : z.cells.size = esz := by
        have := hi.zlen
        rw [← hz2, Array.length_toList] at this
        rw [this]
        exact (Option.some.inj h1).symm
      have : ¬ n * esz = 0 := by
        have := Nat.mul_pos e0 hpos; omega
      exact ⟨z.cells, fun _ => hzsz, List.all_eq_true.1 hz3, .inr ⟨this, z, hz1, rfl⟩⟩
  let cs0 : Array Value := (Array.range (n * esz)).map (fun i => zs[i % zs.size]!)
  have hcs0 : cs0.size = n * esz := by simp [cs0]
  have hcs1 : ∀ y ∈ cs0.toList, y.oneCell' = true := fun y hy => by
    simp only [cs0, Array.toList_map, Array.toList_range, List.mem_map, List.mem_range] at hy
    obtain ⟨i, hi, rfl⟩ := hy
    have hne : n ≠ 0 := by rintro rfl; simp at hi
    have hlt : i % zs.size < zs.size := Nat.mod_lt _ (by rw [hzs hne]; exact hpos)
    rw [getElem!_pos zs _ hlt]
    exact hzs1 _ (by simp)
  have hp' : pushAll c0 c0.len (parts.toList.map fun p => (p.1, S.ev p.2)) = some c := by rw [hl0]; exact hp
  have hc0sz : c0.sz = c.sz := (pushAll_sz hp).symm
  obtain ⟨out, g1, g2, g3, g4, g5, g6⟩ := fillRow_ok (β := β) (esz := esz) _ _ c0 c cs0 hp' (by omega) v1 v2 (by rw [hl0, hcs0, hn]; simp) (fun i hi => by omega) hcs1
  have hlen : c.len = n := by rw [g3, hl0, hn]; simp
  refine ⟨.slice (some ⟨w.heap.size, 0, none⟩) n n, ⟨w.heap.size, 0, false, n, n, esz⟩, out, e, ?_, rfl, rfl, rfl, ⟨_, ext_self _ _ _, by simp [Ref.base]⟩, ?_⟩
  · refine run_v' (m := Instr.buildSlice t n (parts.map fun (i, x) => (i, a.eval x))) (by unfold execOp; rw [ho]) ?_
    unfold Instr.buildSlice
    have : ¬ n * esz > 2 ^ 24 := by omega
    simp only [Sem.run_bind, run_underlying hd, Result.andThen_ok, run_sizeOf' hes, if_neg this]
    rcases hzrun with ⟨h1, h2⟩ | ⟨h1, z, h2, h3⟩
    · rw [if_pos h1]
      simp only [Sem.run_bind, Sem.run_pure, Result.andThen_ok]
      rw [show (Array.range (n * esz)).map (fun x => (#[] : Array Value)[x % (#[] : Array Value).size]!) = cs0 by simp only [cs0, h2], g1]
      simp only [Sem.run_bind, run_newRow, Result.andThen_ok, Sem.run_pure]
    · rw [if_neg h1]
      simp only [Sem.run_bind, run_zeroValue' h2, Sem.run_pure, Result.andThen_ok]
      rw [show (Array.range (n * esz)).map (fun x => z.cells[x % z.cells.size]!) = cs0 by simp only [cs0, h3], g1]
      simp only [Sem.run_bind, run_newRow, Result.andThen_ok, Sem.run_pure]
  · refine ⟨hlen.symm, hsz.symm, by rw [hlen]; exact Nat.le_refl _, (fun h => by cases h), fun i hi q u hu => ?_, fun _ _ => ⟨rfl, out, c.bare, heap_new _ _, by rw [g4, hcs0, hsz], c.bare_like, by rw [hlen, c.bare_len, Nat.add_zero], fun i hi => absurd hi (by rw [c.bare_len]; exact Nat.not_lt_zero i)⟩⟩
    rw [cell_of_row _ _ _ _ _ _ (heap_new _ _), Nat.zero_add, hsz]
    exact g5 i hi q u hu


theorem lenK_run (hT : TysOK C.P T) {c : Call} {x : Operand} {t n : Nat} {β : Names} {a : Act} {w : World} (hs : Sat C β S a w) (ho : o.op = .call c) (hc : c.callee = .builtin .len) (ha : c.args.toList = [x]) (ht : c.argTypes.toList = [t]) (hl : lenK T S.H t (S.ev x) = some n) : (execOp a.eval o).run C.P w = .ok (.value (.int .i64 n)) w := by
  have hx := hs.ev x
  have hargs : c.args = #[x] := by rw [← Array.toArray_toList (xs := c.args), ha]
  have htys : c.argTypes = #[t] := by rw [← Array.toArray_toList (xs := c.argTypes), ht]
  have hrun : ∀ d : TypeDesc, C.P.underlying t = some d → (∀ w, (match d, a.eval x with | .string, .string s => pure (goInt s.size) | .slice _, .slice _ n _ => pure (goInt n) | _, _ => stuck "" : Sem Value).run C.P w = .ok (.int .i64 n) w) →
      (execOp a.eval o).run C.P w = .ok (.value (.int .i64 n)) w := fun d hd hr => by
    unfold execOp
    rw [ho]
    simp only [resolve, hc, hargs, Sem.run_bind, Sem.run_pure, Result.andThen_ok, invoke, builtin, Builtin.len_, htys]
    have e1 : (#[t] : Array TypeId)[0]? = some t := rfl
    have e2 : (Array.map a.eval #[x])[0]? = some (a.eval x) := by simp
    simp only [e1, e2, Sem.run_bind, run_underlying hd, Result.andThen_ok]
    have := hr w
    cases d <;> cases hv : a.eval x <;> rw [hv] at this <;> simp at this ⊢ <;> exact this
  unfold lenK at hl
  have typ : ∀ k, (T t).map TI.k = some k → ∃ d, C.P.underlying t = some d ∧ kOK C.P d k := fun k hk => by
    obtain ⟨ti, hti, rfl⟩ : ∃ i, T t = some i ∧ i.k = k := by simpa [Option.map_eq_some_iff] using hk
    exact (hT t ti hti).kind
  split at hl
  · rename_i e esz ek p e1 e2
    obtain ⟨d, hd, rfl, _⟩ := typ _ e1
    rw [e2] at hx
    split at hl
    · rename_i own tid rc hg
      cases hl
      obtain ⟨r, _, hv, _⟩ := hs.row hg hx
      exact hrun _ hd fun w => by rw [hv]; rfl
    · cases hl
  · rename_i e esz ek p l m e1 e2
    obtain ⟨d, hd, rfl, _⟩ := typ _ e1
    cases hl
    rw [e2] at hx
    obtain ⟨r, _, _, hv⟩ := hx
    exact hrun _ hd fun w => by rw [hv]; rfl
  · rename_i e esz ek m cc e1 e2
    obtain ⟨d, hd, rfl, _⟩ := typ _ e1
    cases hl
    rw [e2] at hx
    replace hx : a.eval x = _ := hx
    exact hrun _ hd fun w => by rw [hx]; rfl
  · rename_i s e1 e2
    obtain ⟨d, hd, hd'⟩ := typ _ e1
    obtain rfl : d = .string := hd'
    cases hl
    rw [e2] at hx
    replace hx : a.eval x = _ := hx
    exact hrun _ hd fun w => by rw [hx]; rfl
  · cases hl

theorem lenK_step (hT : TysOK C.P T) {c : Call} {x : Operand} {t n : Nat} (ho : o.op = .call c) (hc : c.callee = .builtin .len) (ha : c.args.toList = [x]) (ht : c.argTypes.toList = [t]) (hl : lenK T S.H t (S.ev x) = some n) (h : K (.v (.int .i64 n)) S) : OpP C o S K :=
  ⟨fun β _ w hs _ _ hn => wp_value (lenK_run hT hs ho hc ha ht hl) (hn β (.v (.int .i64 n)) _ S w hs rfl h)⟩

theorem call_run {c : Call} {f : Operand} {g : FuncId} {cs : List Nat} {β : Names} {a : Act} {w : World} (hs : Sat C β S a w) (ho : o.op = .call c) (hc : c.callee = .value f) (hf : S.ev f = .clo g cs) :
    ∃ vs : List Value, ((Enters C.P g → (execOp a.eval o).run C.P w = .ok (.enter g vs.toArray) w) ∧ (execOp a.eval o).run C.P w = (callFunc g vs.toArray).run C.P w) ∧ RL β (c.args.toList.map S.ev ++ cs.map (fun p => .ptr p 0)) vs ∧ vs = c.args.toList.map a.eval ++ (match a.eval f with | .func _ _ ys => ys.toList | _ => []) := by
  have hfx := hs.ev f
  rw [hf] at hfx
  obtain ⟨ys, hv, hl, hrel⟩ := hfx
  refine ⟨c.args.toList.map a.eval ++ ys, ?_, ⟨by simp [hl], fun i s hi => ?_⟩, by rw [hv]⟩
  · refine ⟨fun ⟨fn, h1, h2, h3⟩ => ?_, ?_⟩
    · unfold execOp
      rw [ho]
      simp only [resolve, hc, Sem.run_bind, Sem.run_pure, Result.andThen_ok, hv, Deferred.ofValue, invoke, callFunc, run_program, h1, h2, h3, Bool.false_eq_true, if_false]
      congr 2
      simp
    · unfold execOp
      rw [ho]
      simp only [resolve, hc, Sem.run_bind, Sem.run_pure, Result.andThen_ok, hv, Deferred.ofValue, invoke]
      congr 2
      simp
  · by_cases hlt : i < c.args.toList.length
    · rw [List.getElem?_append_left (by simpa using hlt)] at hi ⊢
      simp only [List.getElem?_map, Option.map_eq_some_iff] at hi ⊢
      obtain ⟨o', ho', rfl⟩ := hi
      exact ⟨_, ⟨o', ho', rfl⟩, hs.ev o'⟩
    · rw [List.getElem?_append_right (by simpa using hlt)] at hi ⊢
      simp only [List.length_map, List.getElem?_map, Option.map_eq_some_iff] at hi ⊢
      obtain ⟨p, hp, rfl⟩ := hi
      obtain ⟨r, hr, hy⟩ := hrel _ p hp
      exact ⟨_, hy, r, hr, rfl⟩

theorem call_step {c : Call} {f : Operand} {g : FuncId} {cs : List Nat} (ho : o.op = .call c) (hc : c.callee = .value f) (hf : S.ev f = .clo g cs) (h : CallP C g (c.args.toList.map S.ev ++ cs.map (fun p => .ptr p 0)) S K) : OpP C o S K := by
  refine ⟨fun β a w hs next Q hn => ?_⟩
  obtain ⟨vs, ⟨hrun, hrun2⟩, hvs, _⟩ := call_run hs ho hc hf
  rcases h.out β a w hs _ hvs with ⟨he, hcalls⟩ | ⟨β', r, u, S', w', hcall, hs', hR, hk⟩
  · unfold Oper.wp
    rw [hrun he, Oper.upon_enter]
    refine hcalls.mono ?_
    rintro e w' ⟨β', r, u, S', rfl, hs', hR, hk⟩
    exact hn β' r u S' w' hs' hR hk
  · exact wp_value (hrun2.trans hcall) (hn β' r u S' w' hs' hR hk)

theorem step_ok (hT : TysOK C.P T) (h : step C T wr o S K) : OpP C o S K := by
  unfold step at h
  split at h
  · rename_i t x ho; exact load_step hT ho h
  · rename_i t x y ho
    split at h
    · rename_i c H hst; exact store_step hT ho hst h
    · exact h
  · rename_i t x ho
    split at h
    · rename_i xs hf; exact box_step ho hf h
    · exact h
  · rename_i t ho
    split at h
    · rename_i i hi; exact alloc_step hT ho hi h
    · exact h
  · rename_i t n parts ho
    split at h
    · rename_i e esz ek hk
      split at h
      · rename_i c hc
        split at h
        · rename_i hcond
          obtain ⟨ti, hti, hik⟩ : ∃ i, T t = some i ∧ i.k = .slice e esz ek := by simpa [Option.map_eq_some_iff] using hk
          simp only [Option.bind_eq_some_iff] at hc
          obtain ⟨c0, hc0, hp⟩ := hc
          exact buildSlice_step hT ho hti hik hc0 hp hcond.1 hcond.2.1 hcond.2.2.1 hcond.2.2.2 h
        · exact h
      · exact h
    · exact h
  · rename_i t parts ho
    split at h
    · rename_i fs z hk
      obtain ⟨ti, hti, hik⟩ : ∃ i, T t = some i ∧ (i.k, i.zero) = (.struct fs, z) := by simpa [Option.map_eq_some_iff] using hk
      split at h
      · rename_i xs hf
        split at h
        · rename_i hall
          have h1 : ti.k = .struct fs := congrArg Prod.fst hik
          have h2 : ti.zero = z := congrArg Prod.snd hik
          exact build_step hT ho hti h1 hall (by rw [h2]; exact hf) h
        · exact h
      · exact h
    · exact h
  · rename_i c ho
    unfold goCall at h
    split at h
    · rename_i hc
      split at h
      · rename_i x t ha ht
        split at h
        · rename_i n hl; exact lenK_step hT ho hc ha ht hl h
        · exact h
      · exact h
    · rename_i f hc
      split at h
      · rename_i g cs hf; exact call_step ho hc hf h
      · exact h
    · exact h
  · rename_i t x hh ho
    rcases h with h | h
    · exact goRs_ok h fun s hs β a w hsat => by
        obtain ⟨u, h1, h2⟩ := pur_ok hT hsat false o (by rw [ho]; exact hs)
        exact ⟨u, h1, h2⟩
    · exact h
  · exact goRs_ok h fun s hs β a w hsat => by
      obtain ⟨u, h1, h2⟩ := pur_ok hT hsat _ o (by exact hs)
      exact ⟨u, h1, h2⟩


/-! regions -/
def SemQ (C : Cx) (Q : Exit → St → Prop) (e : Exit) (a : Act) (w : World) : Prop := ∃ β S, Sat C β S a w ∧ Q e S

theorem PutD_eq (S : St) (d : Option Tmp) (r : SV) : PutD S d r = { S with ts := match d with | some d => upd S.ts d r | none => S.ts } := by
  cases d <;> rfl

theorem Sat.putD {β : Names} {S : St} {a : Act} {w : World} (h : Sat C β S a w) (d : Option Tmp) {s : SV} {u : Value} (hr : R β s u) : Sat C β (PutD S d s) (a.put d u) w := by
  rw [PutD_eq]; exact h.put d hr

/-- A bool in a slot is what the guard asks. -/
theorem yielded_of {β : Names} {S : St} {a : Act} {w : World} (hs : Sat C β S a w) {all : Array Oper} {j d : Nat} {b : Bool} (hd : (all[j]?).bind (·.dst) = some d) (hb : nth S.ts d = .v (.bool b)) : yielded all a.tmps j = some b := by
  unfold yielded
  rw [hd, Option.bind_some]
  have hlt : d < S.ts.length := by
    rcases Nat.lt_or_ge d S.ts.length with h | h
    · exact h
    · rw [nth_eq, List.getD, List.getElem?_eq_none h] at hb; cases hb
  have hg := getD_elem hlt
  rw [hb] at hg
  obtain ⟨u, hu, hR⟩ := hs.ts d _ hg
  obtain rfl : u = .bool b := hR
  rw [hu]

theorem yielded_undef {β : Names} {S : St} {a : Act} {w : World} (hs : Sat C β S a w) {all : Array Oper} {j d : Nat} (hd : (all[j]?).bind (·.dst) = some d) (hb : nth S.ts d = .v (.tuple #[])) : yielded all a.tmps j = none := by
  unfold yielded
  rw [hd, Option.bind_some]
  have hlt : d < S.ts.length := by
    rcases Nat.lt_or_ge d S.ts.length with h | h
    · exact h
    · rw [nth_eq, List.getD, List.getElem?_eq_none h] at hb; cases hb
  have hg := getD_elem hlt
  rw [hb] at hg
  obtain ⟨u, hu, hR⟩ := hs.ts d _ hg
  obtain rfl : u = .tuple #[] := hR
  rw [hu]

/-- Writing down a bool that is known to be in a slot. -/
theorem Sat.known {β : Names} {S : St} {a : Act} {w : World} (hs : Sat C β S a w) {d : Nat} {b : Bool} (hb : nth S.ts d = .v (.bool b)) : Sat C β { S with ts := upd S.ts d (.v (.bool b)) } a w := by
  refine ⟨hs.heap, hs.base, hs.bk, hs.names, hs.defers, by simp [upd_eq, hs.size], fun i s hi => ?_⟩
  simp only [upd_eq] at hi
  by_cases e : d = i
  · subst e
    have hlt : d < S.ts.length := by have := (List.getElem?_eq_some_iff.1 hi).1; simpa using this
    rw [List.getElem?_set_self hlt] at hi
    cases hi
    exact hs.ts d _ (by rw [getD_elem hlt, hb])
  · rw [List.getElem?_set_ne e] at hi
    exact hs.ts i s hi

theorem sops_ok (hT : TysOK C.P T) {all : Array Oper} {Q : Exit → St → Prop} : ∀ {os : List Oper} {S : St}, sops C T wr all os S (NormK Q) → ∀ β a w, Sat C β S a w → wpList C.P all (SemQ C Q) os a w
  | [], S, h, β, a, w, hs => by rw [sops_nil] at h; exact ⟨β, S, hs, h⟩
  | o :: os, S, h, β, a, w, hs => by
    cases hg : o.guard with
    | none =>
      rw [sops_cons hg] at h
      exact wpList_plain hg fun K' hK' => (step_ok hT h).out β a w hs K' (SemQ C Q) fun β' r u S' w' hs' hR hk => hK' _ _ (sops_ok hT hk.run β' _ _ (hs'.putD _ hR))
    | some g =>
      obtain ⟨j, want⟩ := g
      rw [sops, hg] at h
      simp only at h
      split at h
      · exact h.elim
      · rename_i d hd
        split at h
        · rename_i b hb
          have hy := yielded_of hs hd hb
          refine wpList_step fun K' hK' => ?_
          simp only [Region.wanted, hg, hy]
          by_cases e : b = want
          · subst e
            rw [if_pos (by simp)]
            exact (step_ok hT (K := OpsK C T wr all os o.dst (NormK Q)) (by rw [OpsK_fun] at h; exact h.1 rfl)).out β a w (hs.known hb) K' (SemQ C Q) fun β' r u S' w' hs' hR hk => hK' _ _ (sops_ok hT hk.run β' _ _ (hs'.putD _ hR))
          · rw [if_neg (by simpa using e)]
            have e' : b = !want := by cases b <;> cases want <;> simp_all
            subst e'
            exact hK' _ _ (sops_ok hT (h.2 rfl) β _ _ ((hs.known hb).putD _ (s := (.v (.tuple #[]))) rfl))
        · rename_i hb
          have hy := yielded_undef hs hd hb
          refine wpList_step fun K' hK' => ?_
          simp only [Region.wanted, hg, hy]
          rw [if_neg (by simp)]
          exact hK' _ _ (sops_ok hT h β _ _ (hs.putD _ (s := (.v (.tuple #[]))) rfl))
        · exact h.elim

theorem CodeP_wp {c : Code} {S : St} {Q : Exit → St → Prop} (h : CodeP C c S Q) {β : Names} {a : Act} {w : World} (hs : Sat C β S a w) : c.wp C.P (SemQ C Q) a w := h.out β a w hs

theorem Ex_ok (hT : TysOK C.P T) : ∀ (c : Code) (S : St) (Q : Exit → St → Prop), Ex C T wr c S Q → ∀ β a w, Sat C β S a w → c.wp C.P (SemQ C Q) a w
  | .skip, S, Q, h, β, a, w, hs => wp_skip ⟨β, S, hs, h⟩
  | .region id ops false, S, Q, h, β, a, w, hs => wp_region_list (sops_ok hT h β a w hs)
  | .region id ops true, S, Q, h, β, a, w, hs => CodeP_wp h hs
  | .seq x y, S, Q, h, β, a, w, hs => by
    refine wp_seq (wp_mono (Ex_ok hT x S _ h β a w hs) ?_)
    rintro e a' w' ⟨β', S', hs', hq⟩
    cases e with
    | normal => exact Ex_ok hT y S' Q hq β' a' w' hs'
    | _ => exact ⟨β', S', hs', hq⟩
  | .cond c x y, S, Q, h, β, a, w, hs => by
    unfold Ex at h
    split at h
    · rename_i t ht
      have hc := hs.ev c
      rw [ht] at hc
      exact wp_cond_split hc (fun e => Ex_ok hT x S Q (h.1 e) β a w hs) (fun e => Ex_ok hT y S Q (h.2 e) β a w hs)
    · exact CodeP_wp h hs
  | .block id c, S, Q, h, β, a, w, hs => by
    refine wp_block (wp_mono (Ex_ok hT c S _ h β a w hs) ?_)
    rintro e a' w' ⟨β', S', hs', hq⟩
    cases e with
    | exit id' =>
      simp only [Exit.inBlock, BlockK] at hq ⊢
      split at hq
      · rename_i e; rw [if_pos e]; exact ⟨β', S', hs', hq⟩
      · rename_i e; rw [if_neg e]; exact ⟨β', S', hs', hq⟩
    | _ => exact ⟨β', S', hs', hq⟩
  | .exit id, S, Q, h, β, a, w, hs => wp_exit ⟨β, S, hs, h⟩
  | .ret, S, Q, h, β, a, w, hs => wp_ret ⟨β, S, hs, h⟩
  | .label l, S, Q, h, β, a, w, hs => wp_label ⟨β, S, hs, h⟩
  | .scope c, S, Q, h, β, a, w, hs => by
    refine wp_scope_straight (wp_mono (Ex_ok hT c S _ h β a w hs) ?_)
    rintro e a' w' ⟨β', S', hs', hq⟩
    cases e with
    | goto l => exact hq.elim
    | _ => exact ⟨β', S', hs', hq⟩
  | .loop c, S, Q, h, β, a, w, hs => CodeP_wp h hs
  | .rangeFunc f ps x y, S, Q, h, β, a, w, hs => CodeP_wp h hs
  | .goto l, S, Q, h, β, a, w, hs => CodeP_wp h hs
  | .refuse s, S, Q, h, β, a, w, hs => CodeP_wp h hs

end
end E
end Go.Proofs.Ytlkchnfgeedghaa
