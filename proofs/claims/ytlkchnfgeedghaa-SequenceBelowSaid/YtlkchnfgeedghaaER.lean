/- Regions that draw their order: a part that reads, and behind it any order of operations with guards. It states nothing about the program. -/
import Derived.Test.YtlkchnfgeedghaaEQ
set_option linter.unusedVariables false
namespace Go.Proofs.Ytlkchnfgeedghaa
namespace E
open Go

/-- 'lexTailB' without its last condition. -/
def lexHead0 (md : Region.Mode) (ops : Array Oper) : Nat → Nat → Array Bool → Bool
  | 0, _, _ => true
  | f + 1, k, listed => (Region.ready md ops listed).contains k && Region.free md ops listed k && lexHead0 md ops f (k + 1) (listed.setIfInBounds k true)
/-- The tail waits for the head: each of its operations waits for the head's last one or for one of the tail before it. -/
def tailB (md : Region.Mode) (ops : Array Oper) (n : Nat) : Bool :=
  Region.sinkB md ops (n - 1) && (List.range ops.size).all fun t => decide (t < n) || (List.range t).any fun j => decide (n - 1 ≤ j) && Region.waitsFor md ops t j
def headB (md : Region.Mode) (ops : Array Oper) (n : Nat) (listedN : Array Bool) : Bool :=
  Region.noSelect ops && decide (0 < n) && decide (n < ops.size) && tailB md ops n && lexHead0 md ops n 0 (Array.replicate ops.size false) && (Region.ready md ops listedN).all (fun j => decide (n ≤ j)) && decide ((List.range n).foldl (fun L k => L.setIfInBounds k true) (Array.replicate ops.size false) = listedN)

section
variable {P : Program} {ops : Array Oper} {md : Region.Mode} {D : World → Prop}
theorem last_waits {n : Nat} {listed : Array Bool} (hs : Region.sinkB md ops (n - 1) = true) (hn : n < ops.size) (inv : HeadInv md ops n listed) :
    ∀ (d i : Nat), n - 1 - i = d → i < n → listed.getD i true = false → listed.getD (n - 1) true = false := by
  intro d
  induction d using Nat.strongRecOn with
  | _ d ih =>
    intro i hd hi hun
    by_cases e : i = n - 1
    · rw [← e]; exact hun
    · have h1 := List.all_eq_true.1 hs i (List.mem_range.2 (by omega))
      obtain ⟨j, hj, hj2⟩ := List.any_eq_true.1 h1
      simp only [Bool.and_eq_true, decide_eq_true_eq] at hj2
      obtain ⟨oj, hoj, e, he, hb, hon⟩ := Region.waitsFor_spec hj2.2
      have hjle : j ≤ n - 1 := by have := List.mem_range.1 hj; omega
      cases hl : listed.getD j false with
      | true =>
        have h2 := inv.closed j oj hoj hl e he hb
        rw [hon, getD_both hun] at h2
        cases h2
      | false =>
        have hjs : j < listed.size := by rw [inv.size]; omega
        exact ih (n - 1 - j) (by omega) j rfl (by omega) (getD_in hjs hl)
theorem tail_waits0 {n : Nat} {listed : Array Bool} (hc : tailB md ops n = true) (h0 : 0 < n) (hn : n < ops.size) (inv : HeadInv md ops n listed) (i : Nat) (hi : i < n) (hun : listed.getD i true = false) (t : Nat) (ht : n ≤ t) : t ∉ Region.ready md ops listed := by
  intro hr
  simp only [tailB, Bool.and_eq_true] at hc
  have hl := last_waits hc.1 hn inv _ i rfl hi hun
  obtain ⟨_, ot, hot, hall⟩ := mem_ready.1 hr
  have htlt : t < ops.size := (Array.getElem?_eq_some_iff.1 hot).1
  have h1 := List.all_eq_true.1 hc.2 t (List.mem_range.2 htlt)
  simp only [Bool.or_eq_true, decide_eq_true_eq] at h1
  rcases h1 with h1 | h1
  · omega
  · obtain ⟨j, hj, hj2⟩ := List.any_eq_true.1 h1
    simp only [Bool.and_eq_true, decide_eq_true_eq] at hj2
    obtain ⟨o', ho', e, he, hb, hon⟩ := Region.waitsFor_spec hj2.2
    have : o' = ot := Option.some.inj (ho'.symm.trans hot)
    subst this
    have h2 := hall e he hb
    have hjl : listed.getD j true = false := by
      by_cases c : j = n - 1
      · rw [c]; exact hl
      · exact inv.tail j (by omega) (by have := List.mem_range.1 hj; omega)
    rw [hon, getD_both hjl] at h2
    cases h2
theorem headAny_first0 {n i : Nat} {oi : Oper} {v : Value} {L : Array Bool → Act → Prop} (hi : ops[i]? = some oi) (hsel : ∀ (j : Nat) (o : Oper) cs b, ops[j]? = some o → o.op ≠ .select cs b)
    (hc : tailB md ops n = true) (h0 : 0 < n) (hn : n < ops.size) (hin : i < n) (hdone : ∀ listed a, L listed a → ∀ j ∈ Region.ready md ops listed, n ≤ j) (f : Nat) :
    ∀ (listed : Array Bool) (a : Act), HeadInv md ops n listed →
      (∀ j oj, ops[j]? = some oj → j ≠ i → listed.getD j true = false → (∀ e ∈ oj.after, Region.binds md e = true → e.on ≠ i) → oi.apart ops oj = true) →
      i ∈ Region.ready md ops listed → YieldsIn P ops D oi v a → headAny P md ops D n L f (listed.setIfInBounds i true) (a.put oi.dst v) → headAny P md ops D n L (f + 1) listed a := by
  induction f with
  | zero =>
    intro listed a inv _ hr hy H
    refine ⟨List.ne_nil_of_mem hr, fun j hj => ?_⟩
    have hjn : j < n := Nat.lt_of_not_le fun h => tail_waits0 hc h0 hn inv i hin (mem_ready.1 hr).1 j h hj
    refine ⟨hjn, ?_⟩
    by_cases e : j = i
    · subst e; exact hy.qOp hi H
    · exact absurd (hdone _ _ H j (ready_mono hj e)) (by omega)
  | succ f ih =>
    intro listed a inv hfree hr hy H
    refine ⟨List.ne_nil_of_mem hr, fun j hj => ?_⟩
    have hjn : j < n := Nat.lt_of_not_le fun h => tail_waits0 hc h0 hn inv i hin (mem_ready.1 hr).1 j h hj
    refine ⟨hjn, ?_⟩
    by_cases e : j = i
    · subst e; exact hy.qOp hi H
    · obtain ⟨hjun, oj, hoj, hall⟩ := mem_ready.1 hj
      have hno : ∀ e ∈ oj.after, Region.binds md e = true → e.on ≠ i := fun e he hb heq => by
        have h1 := hall e he hb
        rw [heq, getD_both (mem_ready.1 hr).1] at h1
        cases h1
      refine qOp_mono (fun a' h3 => ?_) (qOp_put hoj (hfree j oj hoj e hjun hno) (fun cs b => hsel i oi cs b hi) (fun cs b => hsel j oj cs b hoj) hy (H.2 j (ready_mono hj e)).2)
      refine ih (listed.setIfInBounds j true) a' (inv.set hj hjn) (fun k ok hk hki hun hnk => hfree k ok hk hki ?_ hnk) (ready_mono hr (Ne.symm e)) h3.1 ?_
      · by_cases hjk : j = k
        · subst hjk; exact hjun
        · rwa [getD_set_ne true hjk] at hun
      · rw [Array.setIfInBounds_comm _ _ e]; exact h3.2
theorem headAny_lex0 {n : Nat} {Lq : Act → Prop} {listedN : Array Bool} (hsel : Region.noSelect ops = true) (hc : tailB md ops n = true) (h00 : 0 < n) (hn : n < ops.size) (hN : ∀ j ∈ Region.ready md ops listedN, n ≤ j) :
    ∀ (l : List Oper) (k : Nat) (listed : Array Bool) (a : Act), (∀ j, j < l.length → l[j]? = ops[k + j]?) → k + l.length = n → HeadInv md ops n listed → lexHead0 md ops l.length k listed = true → ((List.range' k l.length).foldl (fun L k => L.setIfInBounds k true) listed = listedN) → wpQuiet P ops D Lq l a →
      headAny P md ops D n (fun listed' a' => listed' = listedN ∧ Lq a') l.length listed a
  | [], k, listed, a, _, hk, _, hB, hL, h => by
    exact ⟨hL, h⟩
  | o :: l, k, listed, a, hl, hk, inv, hB, hL, h => by
    have h0 : ops[k]? = some o := by simpa using (hl 0 (by simp)).symm
    simp only [List.length_cons, lexHead0, Bool.and_eq_true] at hB
    obtain ⟨⟨hr, hf⟩, hB'⟩ := hB
    have hkn : k < n := by simp only [List.length_cons] at hk; omega
    have hr' : k ∈ Region.ready md ops listed := by simpa using hr
    have hst : qOp P ops D k (wpQuiet P ops D Lq l) a := by unfold qOp; simp only [h0]; exact h
    obtain ⟨v, hy, hK⟩ := yieldsIn_of_qOp h0 hst
    refine headAny_first0 h0 (Region.noSelect_spec hsel) hc h00 hn hkn (fun listed' a' hL => by rw [hL.1]; exact hN) l.length listed a inv (Region.free_spec h0 hf) hr' hy ?_
    refine headAny_lex0 hsel hc h00 hn hN l (k + 1) _ _ (fun j hj => ?_) (by simp only [List.length_cons] at hk; omega) (inv.set hr' hkn) hB' ?_ hK
    · have := hl (j + 1) (by simp; omega)
      simpa [Nat.add_assoc, Nat.add_comm 1 j] using this
    · rw [List.length_cons, List.range'_succ, List.foldl_cons] at hL
      exact hL
end

section
variable {C : Cx} {T : Tys} {wr : List Nat} {S : St}

theorem draw_head {P : Program} (hP : C.P = P) (hT : TysOK P T) (hm : P.follows .mixedOrders = true) {id : Nat} {l : List Oper} (n m : Nat) (listedN : Array Bool) (hB : headB .any l.toArray n listedN = true) (hnm : n + m = l.length) {Q : Exit → St → Prop}
    (h : qops C T wr l.toArray (l.take n) S (fun S' => AnyP C l.toArray m listedN S' (NormK Q))) : CodeP C (.region id l.toArray true) S Q := by
  subst hP
  refine ⟨fun β a w hs => ?_⟩
  simp only [headB, Bool.and_eq_true, decide_eq_true_eq] at hB
  obtain ⟨⟨⟨⟨⟨⟨hsel, h00⟩, hn⟩, hc⟩, hlex⟩, hN⟩, hL⟩ := hB
  have hn' : n < l.length := by simpa using hn
  have htl : (l.take n).length = n := by simp; omega
  have inv0 : HeadInv .any l.toArray n (Array.replicate l.toArray.size false) :=
    ⟨by simp, fun j oj _ hl => (by rw [getD_replicate_false] at hl; cases hl), fun t _ ht => getD_in (by simpa using ht) (getD_replicate_false _ _)⟩
  have hD : SatH C β S.H { w with drawn := w.drawn + 1 } := hs.heap.drew
  have hq := qops_ok (K := fun S' => AnyP C l.toArray m listedN S' (NormK Q)) (Q := fun a' => ∀ w', SatH C β S.H w' → wpAny C.P .any l.toArray (fun e a' w' => e = .normal ∧ ∃ β' S', Sat C β' S' a' w' ∧ NormK Q S') m listedN a' w') hT hs.heap (fun S' a' hH hk hact w' hw' => hk.out β a' w' (hact.sat (hH ▸ hw'))) rfl h a hs.act
  have H := headAny_lex0 (md := .any) (listedN := listedN) hsel hc h00 hn (fun j hj => by simpa using List.all_eq_true.1 hN j hj) (l.take n) 0 _ a (fun j hj => by
    have hj' : j < n := by rw [htl] at hj; exact hj
    simp [hj']) (by simpa using htl) inv0 (by rw [htl]; exact hlex) (by rw [htl, ← List.range_eq_range']; exact hL) hq
  have := any_of_headAny (Q := fun e a' w' => e = .normal ∧ ∃ β' S', Sat C β' S' a' w' ∧ NormK Q S') (g := m) (fun listed a' hL w' hw' => by rw [hL.1]; exact hL.2 w' hw') _ _ _ H _ hD
  rw [htl] at this
  refine wp_mono (wp_region_any (Q := fun e a' w' => e = .normal ∧ ∃ β' S', Sat C β' S' a' w' ∧ NormK Q S') hm (by
    have e : n + m = l.toArray.size := by simpa using hnm
    rw [e] at this; exact this)) ?_
  rintro e a' w' ⟨rfl, β', S', hs', hk⟩
  exact ⟨β', S', hs', hk⟩

/-- The guard of an operation lets it in. -/
def GuardOK (ops : Array Oper) (o : Oper) (S : St) : Prop :=
  match o.guard with
  | none => True
  | some (j, want) => ∃ d, (ops[j]?).bind (·.dst) = some d ∧ nth S.ts d = .v (.bool want)
theorem wanted_of {ops : Array Oper} {o : Oper} {β : Names} {a : Act} {w : World} (hs : Sat C β S a w) (h : GuardOK ops o S) : Region.wanted o (yielded ops a.tmps) = true := by
  unfold GuardOK at h
  unfold Region.wanted
  cases hg : o.guard with
  | none => rfl
  | some g =>
    obtain ⟨j, want⟩ := g
    rw [hg] at h
    obtain ⟨d, h1, h2⟩ := h
    simp only [yielded_of hs h1 h2]
    cases want <;> rfl
variable {ops : Array Oper} {n : Nat} {listed : Array Bool} {K : St → Prop}
theorem any_takeG {i : Nat} {o : Oper} {s : SV} (listed' : Array Bool) (hl : listed.setIfInBounds i true = listed') (hi : ops[i]? = some o) (hg : GuardOK ops o S)
    (hs : Region.noSelect ops = true) (hf : Region.free .any ops listed i = true) (hr : (Region.ready .any ops listed).contains i = true)
    (hy : ∀ β a w, Sat C β S a w → ∃ v, R β s v ∧ ∀ w', (execOp a.eval o).run C.P w' = .ok (.value v) w')
    (h : AnyP C ops n listed' (PutD S o.dst s) K) : AnyP C ops (n + 1) listed S K := by
  subst hl
  refine ⟨fun β a w hsat => ?_⟩
  obtain ⟨v, hR, hv⟩ := hy β a w hsat
  exact wpAny_take (v := v) hi hs hf hr (fun _ _ _ h => (by cases h.1)) (.inl ⟨wanted_of hsat hg, hv⟩) (h.out β _ w (hsat.putD _ hR))
/-- What an operation yields in whatever world. -/
def qpure (T : Tys) (S : St) (o : Oper) : Rs :=
  match o.op with
  | .move x => .ok (S.ev x)
  | op => pur T false ⟨S.ts, [], S.nx⟩ op
/-- One that yields in whatever world is taken first. -/
theorem any_q (hT : TysOK C.P T) {i : Nat} {o : Oper} (listed' : Array Bool) (hl : listed.setIfInBounds i true = listed') (hi : ops[i]? = some o) (hg : GuardOK ops o S)
    (hs : Region.noSelect ops = true) (hf : Region.free .any ops listed i = true) (hr : (Region.ready .any ops listed).contains i = true)
    (h : qRs (fun s => AnyP C ops n listed' (PutD S o.dst s) K) (qpure T S o)) : AnyP C ops (n + 1) listed S K := by
  by_cases hm : ∃ x, o.op = .move x
  · obtain ⟨x, ho⟩ := hm
    simp only [qpure, ho, qRs] at h
    exact any_takeG listed' hl hi hg hs hf hr (fun β a w hsat => ⟨a.eval x, hsat.ev x, fun w' => by unfold execOp; rw [ho]; rfl⟩) h.2
  · have hp : qpure T S o = pur T false ⟨S.ts, [], S.nx⟩ o.op := by
      unfold qpure
      split
      · rename_i x ho; exact absurd ⟨x, ho⟩ hm
      · rfl
    rw [hp] at h
    have key : ∀ s, (pur T false ⟨S.ts, [], S.nx⟩ o.op).Ok s → det s = true → AnyP C ops n listed' (PutD S o.dst s) K → AnyP C ops (n + 1) listed S K := fun s hok hd hk => by
      have hw : ∀ β a w, Sat C β S a w → ∀ w', ∃ v, (execOp a.eval o).run C.P w' = .ok (.value v) w' ∧ R β s v := fun β a w hsat w' => by
        have hsat' : Sat ⟨C.P, w', fun _ => False, β, S.nx⟩ β ⟨S.ts, [], S.nx⟩ a w' := ⟨⟨⟨rfl, rfl, rfl, Nat.le_refl _, fun _ _ _ => rfl, Nat.le_refl _⟩, fun _ h => h.elim, fun p o ch hp => by simp at hp, fun p o c o' c' h1 => by simp at h1, fun p q cp cq rp rq hp => by simp at hp, fun p o c r k hp => by simp at hp⟩, Le.refl _, fun p hp => hsat.names p hp, hsat.names, hsat.defers, hsat.size, hsat.ts⟩
        exact pur_ok (C := ⟨C.P, w', fun _ => False, β, S.nx⟩) hT hsat' false o hok
      refine any_takeG listed' hl hi hg hs hf hr (fun β a w hsat => ?_) hk
      obtain ⟨v, h1, h2⟩ := hw β a w hsat w
      refine ⟨v, h2, fun w' => ?_⟩
      obtain ⟨v', h3, h4⟩ := hw β a w hsat w'
      rw [R_det hd h2 h4]
      exact h3
    cases hr' : pur T false ⟨S.ts, [], S.nx⟩ o.op with
    | bad => rw [hr'] at h; exact h.elim
    | ok s => rw [hr'] at h; exact key s (by rw [hr']; rfl) h.1 h.2
    | side c s => rw [hr'] at h; exact key s (by rw [hr']; exact ⟨h.1, rfl⟩) h.2.1 h.2.2
theorem any_allG (hT : TysOK C.P T) {rs : List Nat} (hr : Region.ready .any ops listed = rs) (hne : rs ≠ [])
    (h : ∀ i ∈ rs, ∃ o, ops[i]? = some o ∧ GuardOK ops o S ∧ step C T wr o S (fun r S' => AnyP C ops n (listed.setIfInBounds i true) (PutD S' o.dst r) K)) : AnyP C ops (n + 1) listed S K := by
  refine ⟨fun β a w hsat => wpAny_all hr hne fun i hi => ?_⟩
  obtain ⟨o, ho, hg, hst⟩ := h i hi
  unfold wpOp
  simp only [ho, wanted_of hsat hg, if_true]
  refine .inl ?_
  exact (step_ok hT hst).out β a w hsat _ _ fun β' r u S' w' hs' hR hk => hk.out β' _ _ (hs'.putD _ hR)
theorem any_oneG (hT : TysOK C.P T) {i : Nat} {o : Oper} (listed' : Array Bool) (hl : listed.setIfInBounds i true = listed') (hr : Region.ready .any ops listed = [i]) (ho : ops[i]? = some o) (hg : GuardOK ops o S)
    (h : step C T wr o S (fun r S' => AnyP C ops n listed' (PutD S' o.dst r) K)) : AnyP C ops (n + 1) listed S K :=
  any_allG hT hr (by simp) fun j hj => by
    subst hl
    obtain rfl : j = i := by simpa using hj
    exact ⟨o, ho, hg, h⟩
theorem any_twoG (hT : TysOK C.P T) {i i' : Nat} {o o' : Oper} (l1 l2 : Array Bool) (hl1 : listed.setIfInBounds i true = l1) (hl2 : listed.setIfInBounds i' true = l2) (hr : Region.ready .any ops listed = [i, i']) (ho : ops[i]? = some o) (hg : GuardOK ops o S) (ho' : ops[i']? = some o') (hg' : GuardOK ops o' S)
    (h : step C T wr o S (fun r S' => AnyP C ops n l1 (PutD S' o.dst r) K))
    (h' : step C T wr o' S (fun r S' => AnyP C ops n l2 (PutD S' o'.dst r) K)) : AnyP C ops (n + 1) listed S K :=
  any_allG hT hr (by simp) fun j hj => by
    subst hl1 hl2
    rcases (by simpa using hj : j = i ∨ j = i') with rfl | rfl
    · exact ⟨o, ho, hg, h⟩
    · exact ⟨o', ho', hg', h'⟩
theorem any_threeG (hT : TysOK C.P T) {i i' i'' : Nat} {o o' o'' : Oper} (l1 l2 l3 : Array Bool) (hl1 : listed.setIfInBounds i true = l1) (hl2 : listed.setIfInBounds i' true = l2) (hl3 : listed.setIfInBounds i'' true = l3) (hr : Region.ready .any ops listed = [i, i', i'']) (ho : ops[i]? = some o) (hg : GuardOK ops o S) (ho' : ops[i']? = some o') (hg' : GuardOK ops o' S) (ho'' : ops[i'']? = some o'') (hg'' : GuardOK ops o'' S)
    (h : step C T wr o S (fun r S' => AnyP C ops n l1 (PutD S' o.dst r) K))
    (h' : step C T wr o' S (fun r S' => AnyP C ops n l2 (PutD S' o'.dst r) K))
    (h'' : step C T wr o'' S (fun r S' => AnyP C ops n l3 (PutD S' o''.dst r) K)) : AnyP C ops (n + 1) listed S K :=
  any_allG hT hr (by simp) fun j hj => by
    subst hl1 hl2 hl3
    rcases (by simpa using hj : j = i ∨ j = i' ∨ j = i'') with rfl | rfl | rfl
    · exact ⟨o, ho, hg, h⟩
    · exact ⟨o', ho', hg', h'⟩
    · exact ⟨o'', ho'', hg'', h''⟩
end


section
variable {C : Cx} {T : Tys} {o : Oper} {S : St} {K : SV → St → Prop}

theorem full_one {β : Names} {p : Nat} {u : Value} (h : R β (.full p) u) : one β (.full p) u ∧ u.oneCell' = true := by
  obtain ⟨r, h1, h2⟩ := h
  exact ⟨⟨r, h1, h2⟩, by rw [h2]; rfl⟩

theorem slice_facts {P : Program} {t e : TypeId} (hu : P.underlying t = some (.slice e)) (hs : (P.info? e).map (·.size) = some 1) : kOK P (.slice e) (.slice e 1 .none) := ⟨rfl, hs⟩
/-- A literal of two slices: a box of two cells, seen as a slice. -/
theorem pair_rule {t e : TypeId} {x0 x1 : Operand} {p0 p1 : Nat} {parts : Array (Nat × Operand)} (ho : o.op = .buildSlice t 2 parts) (hp : parts.toList = [(0, x0), (1, x1)]) (hd : C.P.underlying t = some (.slice e)) (hes : (C.P.info? e).map (·.size) = some 1) (hz : (C.P.info? e).map (·.zero) = some (some (.slice none 0 0)))
    (h0 : S.ev x0 = .full p0) (h1 : S.ev x1 = .full p1) (hK : K (.sl S.nx 0 2) { S with H := (S.nx, true, .box e [.full p0, .full p1]) :: S.H, nx := S.nx + 1 }) : OpP C o S K := by
  refine new_ok (ch := .box e [.full p0, .full p1]) (r := .sl S.nx 0 2) (fun _ _ => rfl) hK fun β a w hs => ?_
  have e0 := hs.ev x0
  have e1 := hs.ev x1
  rw [h0] at e0
  rw [h1] at e1
  obtain ⟨o0, c0⟩ := full_one e0
  obtain ⟨o1, c1⟩ := full_one e1
  have hparts : parts = #[(0, x0), (1, x1)] := by rw [← Array.toArray_toList (xs := parts), hp]
  have hc : ∀ v : Value, v.oneCell' = true → v.cells = #[v] := fun v hv => by
    cases v <;> first | rfl | (simp [Value.oneCell'] at hv)
  refine ⟨.slice (some ⟨w.heap.size, 0, none⟩) 2 2, ⟨w.heap.size, 0, false, 2, 2, 1⟩, #[a.eval x0, a.eval x1], e, ?_, rfl, rfl, rfl, ⟨_, ext_self _ _ _, by simp, by simp [Ref.from]⟩, ?_⟩
  · refine run_v' (m := Instr.buildSlice t 2 (parts.map fun (i, x) => (i, a.eval x))) (by unfold execOp; rw [ho]) ?_
    unfold Instr.buildSlice
    simp only [hparts, List.map_toArray, List.map_cons, List.map_nil]
    generalize a.eval x0 = v0 at *
    generalize a.eval x1 = v1 at *
    simp only [Sem.run_bind, run_underlying hd, Result.andThen_ok, run_sizeOf' hes]
    rw [if_neg (by decide), if_neg (by decide)]
    simp only [Sem.run_bind, run_zeroValue' hz, Sem.run_pure, Result.andThen_ok, Value.cells]
    have hf : Instr.fill (fun i => some (i * 1, 1)) ((Array.range (2 * 1)).map fun x => (#[Value.slice none 0 0] : Array Value)[x % (#[Value.slice none 0 0] : Array Value).size]!) [(0, v0), (1, v1)] = some #[v0, v1] := by
      have hr : Array.range 2 = #[0, 1] := rfl
      simp [Instr.fill, hc v0 c0, hc v1 c1, hr]
    simp only [hf, Sem.run_bind, run_newRow, Result.andThen_ok, Sem.run_pure]
  · refine ⟨#[a.eval x0, a.eval x1], heap_new _ _, rfl, rfl, rfl, fun i s hi => ?_, fun i u hi => ?_⟩
    · rcases i with _ | _ | i
      · cases hi; exact ⟨_, rfl, one_mono (ext_le (hs.names _ (Nat.le_refl _))) o0⟩
      · cases hi; exact ⟨_, rfl, one_mono (ext_le (hs.names _ (Nat.le_refl _))) o1⟩
      · simp at hi
    · rcases i with _ | _ | i
      · cases hi; exact c0
      · cases hi; exact c1
      · simp at hi

/-- Its elements' addresses. -/
theorem pair_index {t e : TypeId} {x y : Operand} {p n : Nat} {k : IntKind} {j : Int} {own : Bool} {cs : List SV} (ho : o.op = .indexAddr t x y) (hd : C.P.underlying t = some (.slice e)) (hes : (C.P.info? e).map (·.size) = some 1) (hx : S.ev x = .sl p 0 n) (hy : S.ev y = .v (.int k j))
    (hg : get p S.H = some (own, .box e cs)) (hj : 0 ≤ j ∧ j < n) (hK : K (.ptr p j.toNat) S) : OpP C o S K := by
  refine val_rule fun β a w hs => ?_
  have h1 := hs.ev x
  have h2 := hs.ev y
  rw [hx] at h1
  rw [hy] at h2
  obtain h2 : a.eval y = _ := h2
  obtain ⟨r, hr, hle, h1⟩ := h1
  obtain ⟨r', hr', hsat, _⟩ := hs.chunk hg
  rw [hr] at hr'; cases hr'
  obtain ⟨arr, g1, g2, g3, g4, g5, g6⟩ := hsat
  have hf : r.from 0 = some ⟨r.blk, r.off, none⟩ := by
    unfold Ref.from
    rw [g4]
    simp
  refine ⟨.pointer (some ((⟨r.blk, r.off, none⟩ : Addr).add (j.toNat * 1))), .ptr p j.toNat, run_v (by unfold execOp; rw [ho]) (by rw [h1, h2, hf]; exact run_indexAddr hd (slice_facts hd hes) hj), ⟨r, hr, ?_⟩, hK⟩
  rw [addr_add, Nat.mul_one]
/-- The length of a part of a row. -/
theorem sl_len {t e : TypeId} {x : Operand} {p l n : Nat} {cl : Call} (ho : o.op = .call cl) (hc : cl.callee = .builtin .len) (ha : cl.args.toList = [x]) (ht : cl.argTypes.toList = [t]) (hd : C.P.underlying t = some (.slice e)) (hx : S.ev x = .sl p l n) (hK : K (.v (.int .i64 n)) S) : OpP C o S K := by
  refine val_rule fun β a w hs => ?_
  have h1 := hs.ev x
  rw [hx] at h1
  obtain ⟨r, hr, hle, h1⟩ := h1
  have hargs : cl.args = #[x] := by rw [← Array.toArray_toList (xs := cl.args), ha]
  have htys : cl.argTypes = #[t] := by rw [← Array.toArray_toList (xs := cl.argTypes), ht]
  refine ⟨.int .i64 n, .v (.int .i64 n), ?_, rfl, hK⟩
  unfold execOp
  rw [ho]
  simp only [resolve, hc, hargs, Sem.run_bind, Sem.run_pure, Result.andThen_ok, invoke, builtin, Builtin.len_, htys]
  have e1 : (#[t] : Array TypeId)[0]? = some t := rfl
  have e2 : (Array.map a.eval #[x])[0]? = some (a.eval x) := by simp
  simp only [e1, e2, Sem.run_bind, run_underlying hd, Result.andThen_ok, h1, Sem.run_pure]
  rfl
end


section
variable {C : Cx} {T : Tys} {S : St}
theorem del_rule (hT : TysOK C.P T) {o : Oper} {K : SV → St → Prop} {t e esz p n0 : Nat} {ek : EK} {cl : Call} {x y : Operand} {c d : RowC} (ho : o.op = .call cl) (hc : cl.callee = .builtin .append) (ha : cl.args.toList = [x, y]) (ht : cl.argTypes.toList = [t, t])
    (hk : (T t).map TI.k = some (.slice e esz ek)) (hz : (T e).map TI.zero = some ((c.zeros 1).get 0)) (hlike : RowC.like c d)
    (hx : S.ev x = .sl p 0 n0) (hp : get p S.H = some (true, .row e c)) (hpos : 0 < c.len) (hy : rowM S.H e d (S.ev y)) (hlen : n0 + d.len ≤ c.len)
    (hK : K (.full S.nx) { S with H := (S.nx, true, .row e ((c.take n0).ap d)) :: delC p S.H, nx := S.nx + 1 }) : OpP C o S K := by
  refine ⟨fun β a w hs next Q hn => ?_⟩
  have hargs : cl.args = #[x, y] := by rw [← Array.toArray_toList (xs := cl.args), ha]
  have htys : cl.argTypes = #[t, t] := by rw [← Array.toArray_toList (xs := cl.argTypes), ht]
  have hno : β S.nx = none := hs.names _ (Nat.le_refl _)
  obtain ⟨ti, hti, hki⟩ : ∃ i, T t = some i ∧ i.k = .slice e esz ek := by simpa [Option.map_eq_some_iff] using hk
  obtain ⟨ei, hei, hzi⟩ : ∃ i, T e = some i ∧ i.zero = (c.zeros 1).get 0 := by simpa [Option.map_eq_some_iff] using hz
  obtain ⟨td, htd, hkd⟩ := (hT t ti hti).kind
  rw [hki] at hkd
  obtain ⟨rfl, hes⟩ := hkd
  have hE := hT e ei hei
  obtain ⟨z, hz1, hz2, hz3⟩ := hE.zero
  obtain ⟨i, hi⟩ : ∃ i, C.P.info? e = some i := by
    have := hE.bytes
    simp only [Option.map_eq_some_iff] at this
    obtain ⟨i, hi, _⟩ := this
    exact ⟨i, hi⟩
  have hisz : i.size = c.sz := by
    have h1 := hE.size
    have h2 := hE.zlen
    rw [hzi, RowC.get_length, RowC.like_sz (RowC.zeros_like c 1)] at h2
    rw [hi] at h1
    rw [h2]
    simpa using h1
  have hdz : d.sz = c.sz := RowC.like_sz hlike
  obtain ⟨rd, hrd, hsd, _, hvd⟩ := rowM_ok hs hy
  have hvy := hvd _ (hs.ev y)
  obtain ⟨d1, d2, d3, d4, d5, d6⟩ := hsd β
  have hsrc : (Builtin.firstCells i.size d.len (a.eval y)).run C.P w = .ok (d.cells d.len).toArray w := by
    rw [hvy, hisz, ← hdz]
    refine firstCells_row (Nat.le_refl _) (A := rd.base) (b := rd.blk) (o := rd.off) (fun hpos => ?_) (fun j hj q u hu => d5 j hj q u hu)
    have : rd.nil = false := by
      cases hq : rd.nil with
      | false => rfl
      | true => have := d4 hq; omega
    simp [Ref.base, this]
  have hlenOf : (Builtin.lenOf (a.eval y)).run C.P w = .ok d.len w := by rw [hvy, d1]; rfl
  obtain ⟨r, hr, hsat, _⟩ := hs.chunk hp
  have hex := hs.ev x
  rw [hx] at hex
  obtain ⟨r', hr', hle, hbv⟩ := hex
  rw [hr] at hr'; cases hr'
  obtain ⟨b1, b2, b3, b4, _⟩ := id hsat
  have hnil : r.nil = false := by
    cases hq : r.nil with
    | false => rfl
    | true => have := b4 hq; omega
  obtain ⟨hoff, _, hrsz, F, hF, hFl, hFk, hFt⟩ := whole_of_row hsat hnil
  have hkF : RowC.like F d := RowC.like_trans (RowC.like_symm hFk) hlike
  have hFz : F.sz = c.sz := RowC.like_sz hFk
  obtain ⟨w', hst, hW, g4, g5, g6, g7, hdr, g8⟩ := whole_over (P := C.P) hF hkF (lo := n0) (by omega)
  have hA : r.from 0 = some ⟨r.blk, 0, none⟩ := by
    unfold Ref.from
    rw [hnil, hoff]
    simp
  have hrun := run_append_in (P := C.P) (w := w) (ty := o.type) htd hi (base := r.from 0) (sLen := n0) (sCap := r.cap - 0) hlenOf hsrc (by omega) (w' := w') (by
    rw [hA]
    simp only [addr_add, Nat.zero_add, hisz]
    rw [hFz] at hst
    exact hst)
  rw [← hbv] at hrun
  have hlk2 : RowC.like (c.take n0) d := RowC.like_trans (RowC.like_symm (RowC.take_like c n0)) hlike
  have hap : (F.over n0 d).take (n0 + d.len) = (c.take n0).ap d := by
    have hl1 : (c.take n0).len = n0 := RowC.take_len (by omega)
    refine RowC.ext_get (RowC.like_trans (RowC.like_symm (RowC.take_like _ _)) (RowC.like_trans (RowC.like_symm (RowC.over_like F _ _)) (RowC.like_trans (RowC.like_symm hFk) (RowC.like_trans (RowC.take_like c n0) (RowC.ap_like _ d))))) ?_ fun j hj => ?_
    · rw [RowC.take_len (by rw [RowC.over_len hkF (by omega)]; omega), RowC.ap_len hlk2, hl1]
    · rw [RowC.take_len (by rw [RowC.over_len hkF (by omega)]; omega)] at hj
      rw [RowC.take_get hj, RowC.over_get hkF (by omega) j (by omega)]
      by_cases hjc : j < n0
      · rw [if_neg (by omega), RowC.ap_left (by rw [hl1]; exact hjc), RowC.take_get hjc]
        conv => rhs; rw [← hFt]
        rw [RowC.take_get (by omega)]
      · rw [if_pos (by omega)]
        obtain ⟨m, rfl⟩ : ∃ m, j = n0 + m := ⟨j - n0, by omega⟩
        have := RowC.ap_right hlk2 m
        rw [hl1] at this
        rw [this, Nat.add_sub_cancel_left]
  have hol := RowC.over_len hkF (lo := n0) (by omega)
  have hrow := row_of_whole (β := ext β S.nx ⟨r.blk, 0, false, (F.over n0 d).len, n0 + d.len, (F.over n0 d).sz⟩) hW (n := n0 + d.len) (by omega)
  rw [hap] at hrow
  have hop : execOp a.eval o = (do pure (Next.value (← Builtin.append_ #[t, t] o.type #[a.eval x, a.eval y]))) := by
    unfold execOp
    rw [ho]
    simp only [resolve, hc, hargs, invoke, builtin, htys, List.map_toArray, List.map_cons, List.map_nil, pure_bind]
  have hR : R (ext β S.nx ⟨r.blk, 0, false, (F.over n0 d).len, n0 + d.len, (F.over n0 d).sz⟩) (.full S.nx) (.slice (r.from 0) (n0 + d.len) (r.cap - 0)) := by
    refine ⟨_, ext_self _ _ _, ?_⟩
    rw [hA]
    simp [Ref.base, hol, hFl]
  exact wp_value (run_v' hop hrun) (hn _ _ _ _ w' (hs.newName (SatH.swap (r' := ⟨r.blk, 0, false, (F.over n0 d).len, n0 + d.len, (F.over n0 d).sz⟩) hs.heap (get_mem hp) hr hnil hno rfl g4 g5 g6 g7 g8 hrow rfl)) hR hK)
end

end E
end Go.Proofs.Ytlkchnfgeedghaa
