/- Regions that draw their order and write: moves and addresses are taken first, the rest in whatever order it comes. It states nothing about the program. -/
import Derived.Test.YtlkchnfgeedghaaEH
import Derived.Orders
namespace Go.Proofs.Ytlkchnfgeedghaa
namespace E
open Go

/-- n operations more of a region that draws; 'listed' have come. -/
structure AnyP (C : Cx) (ops : Array Oper) (n : Nat) (listed : Array Bool) (S : St) (K : St → Prop) : Prop where
  out : ∀ β a w, Sat C β S a w → wpAny C.P .any ops (fun e a' w' => e = .normal ∧ ∃ β' S', Sat C β' S' a' w' ∧ K S') n listed a w

section
variable {C : Cx} {T : Tys} {wr : List Nat} {ops : Array Oper} {n : Nat} {listed : Array Bool} {S : St} {K : St → Prop}

theorem any_rule {P : Program} (hP : C.P = P) (hm : P.follows .mixedOrders = true) {id : Nat} {Q : Exit → St → Prop} (n : Nat) (listed : Array Bool) (hn : ops.size = n) (hl : Array.replicate ops.size false = listed) (h : AnyP C ops n listed S (NormK Q)) : CodeP C (.region id ops true) S Q := by
  subst hP hn hl
  refine ⟨fun β a w hs => ?_⟩
  refine wp_mono (wp_region_any hm (h.out β a _ ⟨hs.heap.drew, hs.base, hs.bk, hs.names, hs.defers, hs.size, hs.ts⟩)) ?_
  rintro e a' w' ⟨rfl, β', S', hs', hk⟩
  exact ⟨β', S', hs', hk⟩

theorem any_done (hr : Region.ready .any ops listed = []) (h : K S) : AnyP C ops n listed S K :=
  ⟨fun β _ _ hs => wpAny_done hr ⟨rfl, β, S, hs, h⟩ _⟩

theorem any_move {i : Nat} (listed' : Array Bool) (hl : listed.setIfInBounds i true = listed') {o : Oper} {x : Operand} (hi : ops[i]? = some o) (ho : o.op = .move x) (hg : o.guard = none) (hs : Region.noSelect ops = true) (hf : Region.free .any ops listed i = true) (hr : (Region.ready .any ops listed).contains i = true)
    (h : AnyP C ops n listed' (PutD S o.dst (S.ev x)) K) : AnyP C ops (n + 1) listed S K := by
  subst hl
  exact ⟨fun β a w hsat => wpAny_take (v := a.eval x) hi hs hf hr (fun _ _ _ h => (by cases h.1))
    (.inl ⟨by simp [Region.wanted, hg], fun w => by unfold execOp; rw [ho]; rfl⟩) (h.out β _ w (hsat.putD _ (hsat.ev x)))⟩

theorem any_index (hT : TysOK C.P T) {i : Nat} (listed' : Array Bool) (hl : listed.setIfInBounds i true = listed') {o : Oper} {t e esz p : Nat} {ek : EK} {x y : Operand} {j : Int} {k : IntKind} {own : Bool} {tid : TypeId} {c : RowC} (hi : ops[i]? = some o) (ho : o.op = .indexAddr t x y) (hg : o.guard = none)
    (hk : (T t).map TI.k = some (.slice e esz ek)) (hx : S.ev x = .full p) (hy : S.ev y = .v (.int k j)) (hp : get p S.H = some (own, .row tid c)) (hsz : c.sz = esz) (hj : 0 ≤ j ∧ j < c.len)
    (hs : Region.noSelect ops = true) (hf : Region.free .any ops listed i = true) (hr : (Region.ready .any ops listed).contains i = true)
    (h : AnyP C ops n listed' (PutD S o.dst (.eptr p j.toNat 0)) K) : AnyP C ops (n + 1) listed S K := by
  subst hl
  refine ⟨fun β a w hsat => ?_⟩
  have h1 := hsat.ev x
  have h2 := hsat.ev y
  rw [hx] at h1
  rw [hy] at h2
  obtain h2 : a.eval y = _ := h2
  obtain ⟨ti, hti, hik⟩ : ∃ i, T t = some i ∧ i.k = .slice e esz ek := by simpa [Option.map_eq_some_iff] using hk
  obtain ⟨d, hd, hd'⟩ := (hT t ti hti).kind
  rw [hik] at hd'
  obtain ⟨r, hr', hv, hrs, hle, hnil⟩ := hsat.row hp h1
  have hn : r.nil = false := by
    cases hq : r.nil with
    | false => rfl
    | true => have := hnil hq; omega
  have hbase : r.base = some ⟨r.blk, r.off, none⟩ := by simp [Ref.base, hn]
  refine wpAny_take (v := .pointer (some ((⟨r.blk, r.off, none⟩ : Addr).add (j.toNat * esz)))) hi hs hf hr (fun _ _ _ h => (by cases h.1))
    (.inl ⟨by simp [Region.wanted, hg], fun w => run_v (by unfold execOp; rw [ho]) (by rw [hv, h2, hbase]; exact run_indexAddr hd hd' hj)⟩) (h.out β _ w (hsat.putD _ ⟨r, hr', ?_⟩))
  rw [addr_add, hrs, hsz, Nat.add_zero]

theorem any_all (hT : TysOK C.P T) {rs : List Nat} (hr : Region.ready .any ops listed = rs) (hne : rs ≠ [])
    (h : ∀ i ∈ rs, ∃ o, ops[i]? = some o ∧ o.guard = none ∧ step C T wr o S (fun r S' => AnyP C ops n (listed.setIfInBounds i true) (PutD S' o.dst r) K)) : AnyP C ops (n + 1) listed S K := by
  refine ⟨fun β a w hsat => wpAny_all hr hne fun i hi => ?_⟩
  obtain ⟨o, ho, hg, hst⟩ := h i hi
  unfold wpOp
  simp only [ho, Region.wanted, hg, if_true]
  refine .inl ?_
  exact (step_ok hT hst).out β a w hsat _ _ fun β' r u S' w' hs' hR hk => hk.out β' _ _ (hs'.putD _ hR)

/-- One operation may come. -/
theorem any_one (hT : TysOK C.P T) {i : Nat} {o : Oper} (listed' : Array Bool) (hl : listed.setIfInBounds i true = listed') (hr : Region.ready .any ops listed = [i]) (ho : ops[i]? = some o) (hg : o.guard = none)
    (h : step C T wr o S (fun r S' => AnyP C ops n listed' (PutD S' o.dst r) K)) : AnyP C ops (n + 1) listed S K :=
  any_all hT hr (by simp) fun j hj => by
    subst hl
    obtain rfl : j = i := by simpa using hj
    exact ⟨o, ho, hg, h⟩
/-- One of two may come. -/
theorem any_two (hT : TysOK C.P T) {i i' : Nat} {o o' : Oper} (l1 l2 : Array Bool) (hl1 : listed.setIfInBounds i true = l1) (hl2 : listed.setIfInBounds i' true = l2) (hr : Region.ready .any ops listed = [i, i']) (ho : ops[i]? = some o) (hg : o.guard = none) (ho' : ops[i']? = some o') (hg' : o'.guard = none)
    (h : step C T wr o S (fun r S' => AnyP C ops n l1 (PutD S' o.dst r) K))
    (h' : step C T wr o' S (fun r S' => AnyP C ops n l2 (PutD S' o'.dst r) K)) : AnyP C ops (n + 1) listed S K :=
  any_all hT hr (by simp) fun j hj => by
    subst hl1 hl2
    rcases (by simpa using hj : j = i ∨ j = i') with rfl | rfl
    · exact ⟨o, ho, hg, h⟩
    · exact ⟨o', ho', hg', h'⟩
/-- A part of a tuple is taken first. -/
theorem any_extract {i : Nat} {o : Oper} {x : Operand} {j : Nat} {xs : List SV} {s : SV} (listed' : Array Bool) (hl : listed.setIfInBounds i true = listed') (hi : ops[i]? = some o) (ho : o.op = .extract x j) (hg : o.guard = none) (hx : S.ev x = .tup xs) (hj : xs[j]? = some s) (hnt : noTup s = true)
    (hs : Region.noSelect ops = true) (hf : Region.free .any ops listed i = true) (hr : (Region.ready .any ops listed).contains i = true)
    (h : AnyP C ops n listed' (PutD S o.dst s) K) : AnyP C ops (n + 1) listed S K := by
  subst hl
  refine ⟨fun β a w hsat => ?_⟩
  have h1 := hsat.ev x
  rw [hx] at h1
  obtain ⟨ys, h2, h3, h4⟩ := h1
  obtain ⟨u, hu, hR⟩ := h4 j s hj
  have hR' : R β s u := by
    cases s <;> first | exact hR | cases hnt
  refine wpAny_take (v := u) hi hs hf hr (fun _ _ _ h => (by cases h.1))
    (.inl ⟨by simp [Region.wanted, hg], fun w => ?_⟩) (h.out β _ w (hsat.putD _ hR'))
  unfold execOp
  rw [ho]
  simp only [h2]
  simp [Instr.extract, hu]
/-- One of three may come. -/
theorem any_three (hT : TysOK C.P T) {i i' i'' : Nat} {o o' o'' : Oper} (l1 l2 l3 : Array Bool) (hl1 : listed.setIfInBounds i true = l1) (hl2 : listed.setIfInBounds i' true = l2) (hl3 : listed.setIfInBounds i'' true = l3) (hr : Region.ready .any ops listed = [i, i', i'']) (ho : ops[i]? = some o) (hg : o.guard = none) (ho' : ops[i']? = some o') (hg' : o'.guard = none) (ho'' : ops[i'']? = some o'') (hg'' : o''.guard = none)
    (h : step C T wr o S (fun r S' => AnyP C ops n l1 (PutD S' o.dst r) K))
    (h' : step C T wr o' S (fun r S' => AnyP C ops n l2 (PutD S' o'.dst r) K))
    (h'' : step C T wr o'' S (fun r S' => AnyP C ops n l3 (PutD S' o''.dst r) K)) : AnyP C ops (n + 1) listed S K :=
  any_all hT hr (by simp) fun j hj => by
    subst hl1 hl2 hl3
    rcases (by simpa using hj : j = i ∨ j = i' ∨ j = i'') with rfl | rfl | rfl
    · exact ⟨o, ho, hg, h⟩
    · exact ⟨o', ho', hg', h'⟩
    · exact ⟨o'', ho'', hg'', h''⟩
end
end E
end Go.Proofs.Ytlkchnfgeedghaa
