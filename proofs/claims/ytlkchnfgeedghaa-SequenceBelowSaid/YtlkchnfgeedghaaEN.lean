/- Regions that draw their order, write and lay: loads of boxes that nobody writes are taken first. An array seen as a row. It states nothing about the program. -/
import Derived.Test.YtlkchnfgeedghaaEM
import Derived.OrdersHeld
set_option linter.unusedVariables false
namespace Go.Proofs.Ytlkchnfgeedghaa
namespace E
open Go

mutual
/-- A value without names. -/
def plainB : SV → Bool
  | .v _ => true
  | .clo _ [] => true
  | .agg xs => plainBs xs
  | _ => false
def plainBs : List SV → Bool
  | [] => true
  | x :: xs => plainB x && plainBs xs
end
theorem plainBs_get : ∀ {xs : List SV}, plainBs xs = true → ∀ (i : Nat) (s : SV), xs[i]? = some s → plainB s = true
  | x :: xs, h, 0, s, hi => by cases hi; simp [plainBs] at h; exact h.1
  | x :: xs, h, i + 1, s, hi => by simp [plainBs] at h; exact plainBs_get h.2 i s (by simpa using hi)
theorem one_plainB {β β' : Names} : ∀ {s : SV} {u : Value}, plainB s = true → one β s u → one β' s u
  | .v x, _, _, hr => hr
  | .clo f [], _, _, hr => by obtain ⟨ys, h1, h2, h3⟩ := hr; exact ⟨ys, h1, h2, fun i p hp => by simp at hp⟩
  | .clo f (_ :: _), _, h, _ => by simp [plainB] at h
  | .agg xs, _, _, hr => hr.elim
  | .tup xs, _, _, hr => hr.elim
  | .junk, _, h, _ => by simp [plainB] at h
  | .ptr _ _, _, h, _ => by simp [plainB] at h
  | .eptr _ _ _, _, h, _ => by simp [plainB] at h
  | .full _, _, h, _ => by simp [plainB] at h
  | .sl _ _ _, _, h, _ => by simp [plainB] at h
  | .mp _, _, h, _ => by simp [plainB] at h
theorem R_plainB {β β' : Names} {s : SV} {u : Value} (h : plainB s = true) (hr : R β s u) : R β' s u := by
  cases s
  case agg xs =>
    obtain ⟨ys, h1, h2, h3, h4⟩ := hr
    simp only [plainB] at h
    exact ⟨ys, h1, h2, fun i s hi => let ⟨u, a, b⟩ := h3 i s hi; ⟨u, a, one_plainB (plainBs_get h i s hi) b⟩, h4⟩
  case tup xs => simp [plainB] at h
  all_goals exact one_plainB (β := β) (β' := β') (u := u) h hr
mutual
theorem det_plainB : ∀ {s : SV}, plainB s = true → det s = true
  | .v _, _ => rfl
  | .clo _ [], _ => rfl
  | .clo _ (_ :: _), h => by simp [plainB] at h
  | .agg xs, h => by simp only [plainB] at h; simp only [det]; exact dets_plainBs h
  | .junk, h => by simp [plainB] at h
  | .ptr _ _, h => by simp [plainB] at h
  | .eptr _ _ _, h => by simp [plainB] at h
  | .full _, h => by simp [plainB] at h
  | .sl _ _ _, h => by simp [plainB] at h
  | .mp _, h => by simp [plainB] at h
  | .tup _, h => by simp [plainB] at h
theorem dets_plainBs : ∀ {xs : List SV}, plainBs xs = true → dets xs = true
  | [], _ => rfl
  | x :: xs, h => by simp only [plainBs, Bool.and_eq_true] at h; simp only [dets, det_plainB h.1, dets_plainBs h.2, Bool.and_self]
end

/-- A box that stands at an address. -/
def BoxAt (w : World) (y : Value) (ty : TypeId) (cs : List SV) : Prop :=
  ∃ b, y = .pointer (some ⟨b, 0, none⟩) ∧ ∃ arr : Array Value, w.heap[b]? = some (.cells arr ty (0, 0)) ∧ arr.size = cs.length ∧ (∀ (i : Nat) (s : SV), cs[i]? = some s → ∃ u, arr[i]? = some u ∧ one (fun _ => none) s u) ∧ ∀ (i : Nat) (u : Value), arr[i]? = some u → u.oneCell' = true

abbrev Stay := List (Tmp × Nat × TypeId × List SV)
def okD (S : St) : Stay → Prop
  | [] => True
  | (t, p, ty, cs) :: D => nth S.ts t = .ptr p 0 ∧ (∃ o, get p S.H = some (o, .box ty cs)) ∧ plainBs cs = true ∧ okD S D
def FD (ρ : Tmp → Value) (D : Stay) (w : World) : Prop := ∀ x ∈ D, BoxAt w (ρ x.1) x.2.2.1 x.2.2.2
theorem FD_congr {ρ ρ' : Tmp → Value} {D : Stay} (h : ∀ x ∈ D, ρ x.1 = ρ' x.1) : FD ρ D = FD ρ' D :=
  funext fun w => propext ⟨fun hf x hx => by rw [← h x hx]; exact hf x hx, fun hf x hx => by rw [h x hx]; exact hf x hx⟩

section
variable {C : Cx} {T : Tys} {wr : List Nat} {ops : Array Oper} {n : Nat} {listed : Array Bool} {S : St} {K : St → Prop} {D : Stay}

theorem sat_FD {β : Names} {a : Act} {w : World} (hs : Sat C β S a w) : ∀ {D : Stay}, okD S D → FD (fun t => a.eval (.tmp t)) D w
  | [], _ => fun x hx => by simp at hx
  | (t, p, ty, cs) :: D, ⟨h1, ⟨o, h2⟩, h3, h4⟩ => fun x hx => by
    rcases List.mem_cons.1 hx with rfl | hx
    · have h5 := hs.ev (.tmp t)
      rw [show S.ev (.tmp t) = .ptr p 0 from h1] at h5
      obtain ⟨r, hr, h5⟩ := h5
      obtain ⟨r', hr', hsat, _⟩ := hs.chunk h2
      rw [hr] at hr'; cases hr'
      obtain ⟨arr, g1, g2, g3, g4, g5, g6⟩ := hsat
      refine ⟨r.blk, by simp only; rw [h5, g3], arr, g1, g2, fun i s hi => ?_, g6⟩
      obtain ⟨u, a1, a2⟩ := g5 i s hi
      exact ⟨u, a1, one_plainB (plainBs_get h3 i s hi) a2⟩
    · exact sat_FD hs h4 x hx

/-- A region that draws, with boxes that stay. -/
structure AnyH (C : Cx) (ops : Array Oper) (n : Nat) (listed : Array Bool) (S : St) (K : St → Prop) (D : Stay) : Prop where
  out : ∀ β a w, Sat C β S a w → wpAnyH C.P .any ops (fun e a' w' => e = .normal ∧ ∃ β' S', Sat C β' S' a' w' ∧ K S') (FD (fun t => a.eval (.tmp t)) D) n listed a w

theorem any_held (D : Stay) (h : AnyH C ops n listed S K D) : AnyP C ops n listed S K := ⟨fun β a w hs => wpAny_of_held _ _ _ _ (h.out β a w hs)⟩
theorem anyH_done (hr : Region.ready .any ops listed = []) (h : K S) : AnyH C ops n listed S K D := ⟨fun β a w hs => wpAnyH_done hr ⟨rfl, β, S, hs, h⟩ _⟩

theorem put_tmp {a : Act} {d : Option Tmp} {u : Value} {t : Tmp} (h : d ≠ some t) : (a.put d u).eval (.tmp t) = a.eval (.tmp t) :=
  Act.eval_put fun d' hd e => by cases e; exact h hd
def offD (d : Option Tmp) (D : Stay) : Bool := D.all fun x => d != some x.1
theorem FD_put {a : Act} {d : Option Tmp} {u : Value} (h : offD d D = true) : FD (fun t => (a.put d u).eval (.tmp t)) D = FD (fun t => a.eval (.tmp t)) D :=
  FD_congr fun x hx => put_tmp (by have := List.all_eq_true.1 h x hx; simpa using this)

/-- One that yields in every such world is taken first. -/
theorem anyH_take {i : Nat} {o : Oper} {s : SV} (listed' : Array Bool) (hl : listed.setIfInBounds i true = listed') (hi : ops[i]? = some o) (hg : o.guard = none) (hd : offD o.dst D = true) (hok : okD S D)
    (hs : Region.noSelect ops = true) (hf : Region.free .any ops listed i = true) (hr : (Region.ready .any ops listed).contains i = true)
    (hy : ∀ β a w, Sat C β S a w → ∃ v, R β s v ∧ ∀ w', FD (fun t => a.eval (.tmp t)) D w' → (execOp a.eval o).run C.P w' = .ok (.value v) w')
    (h : AnyH C ops n listed' (PutD S o.dst s) K D) : AnyH C ops (n + 1) listed S K D := by
  subst hl
  refine ⟨fun β a w hsat => ?_⟩
  obtain ⟨v, hR, hv⟩ := hy β a w hsat
  have := h.out β _ w (hsat.putD o.dst hR)
  rw [FD_put hd] at this
  exact wpAnyH_take hi hs hf hr (fun _ _ _ h => (by cases h.1)) (.inl ⟨by simp [Region.wanted, hg], hv⟩) (sat_FD hsat hok) this

theorem anyH_move {i : Nat} {o : Oper} {x : Operand} (listed' : Array Bool) (hl : listed.setIfInBounds i true = listed') (hi : ops[i]? = some o) (ho : o.op = .move x) (hg : o.guard = none) (hd : offD o.dst D = true) (hok : okD S D)
    (hs : Region.noSelect ops = true) (hf : Region.free .any ops listed i = true) (hr : (Region.ready .any ops listed).contains i = true) (h : AnyH C ops n listed' (PutD S o.dst (S.ev x)) K D) : AnyH C ops (n + 1) listed S K D :=
  anyH_take listed' hl hi hg hd hok hs hf hr (fun β a w hsat => ⟨a.eval x, hsat.ev x, fun w' _ => by unfold execOp; rw [ho]; rfl⟩) h

theorem anyH_extract {i : Nat} {o : Oper} {x : Operand} {j : Nat} {xs : List SV} {s : SV} (listed' : Array Bool) (hl : listed.setIfInBounds i true = listed') (hi : ops[i]? = some o) (ho : o.op = .extract x j) (hg : o.guard = none) (hd : offD o.dst D = true) (hok : okD S D) (hx : S.ev x = .tup xs) (hj : xs[j]? = some s) (hnt : noTup s = true)
    (hs : Region.noSelect ops = true) (hf : Region.free .any ops listed i = true) (hr : (Region.ready .any ops listed).contains i = true) (h : AnyH C ops n listed' (PutD S o.dst s) K D) : AnyH C ops (n + 1) listed S K D := by
  refine anyH_take (s := s) listed' hl hi hg hd hok hs hf hr (fun β a w hsat => ?_) h
  have h1 := hsat.ev x
  rw [hx] at h1
  obtain ⟨ys, h2, h3, h4⟩ := h1
  obtain ⟨u, hu, hR⟩ := h4 j s hj
  refine ⟨u, (by cases s <;> first | exact hR | cases hnt), fun w' _ => ?_⟩
  unfold execOp
  rw [ho]
  simp only [h2]
  simp [Instr.extract, hu]

theorem anyH_field (hT : TysOK C.P T) {i : Nat} {o : Oper} {x : Operand} {st f p g off ft m : Nat} {fs : List (Nat × Nat × Nat)} (listed' : Array Bool) (hl : listed.setIfInBounds i true = listed') (hi : ops[i]? = some o) (ho : o.op = .fieldAddr st x f) (hg : o.guard = none) (hd : offD o.dst D = true) (hok : okD S D)
    (hx : S.ev x = .ptr p g) (hp : pur T false S o.op = .ok (.ptr p (g + off)))
    (hpp : ∀ S' : St, S'.ev x = .ptr p g → pur T false S' o.op = .ok (.ptr p (g + off)))
    (hs : Region.noSelect ops = true) (hf : Region.free .any ops listed i = true) (hr : (Region.ready .any ops listed).contains i = true) (h : AnyH C ops n listed' (PutD S o.dst (.ptr p (g + off))) K D) : AnyH C ops (n + 1) listed S K D := by
  refine anyH_take (s := .ptr p (g + off)) listed' hl hi hg hd hok hs hf hr (fun β a w hsat => ?_) h
  obtain ⟨v, h1, h2⟩ := pur_ok hT hsat false o (s := .ptr p (g + off)) (by rw [hp]; rfl)
  refine ⟨v, h2, fun w' _ => ?_⟩
  -- the same in another world: a state that says nothing of memory
  have hsat' : Sat ⟨C.P, w', fun _ => False, β, S.nx⟩ β ⟨S.ts, [], S.nx⟩ a w' := ⟨⟨⟨rfl, rfl, rfl, Nat.le_refl _, fun _ _ _ => rfl, Nat.le_refl _⟩, fun _ h => h.elim, fun p o ch hp => by simp at hp, fun p o c o' c' h1 => by simp at h1, fun p q cp cq rp rq hp => by simp at hp, fun p o c r k hp => by simp at hp⟩, Le.refl _, fun p hp => hsat.names p hp, hsat.names, hsat.defers, hsat.size, hsat.ts⟩
  have hx' : (⟨S.ts, [], S.nx⟩ : St).ev x = .ptr p g := by rw [← hx]; cases x <;> rfl
  obtain ⟨v', g1, g2⟩ := pur_ok (C := ⟨C.P, w', fun _ => False, β, S.nx⟩) hT hsat' false o (s := .ptr p (g + off)) (by rw [hpp _ hx']; rfl)
  rw [g1, R_det rfl g2 h2]

theorem anyH_load (hT : TysOK C.P T) {i : Nat} {o : Oper} {x : Operand} {t p f : Nat} {s : SV} {t0 : Tmp} {ty : TypeId} {cs : List SV} (listed' : Array Bool) (hl : listed.setIfInBounds i true = listed') (hi : ops[i]? = some o) (ho : o.op = .load t x) (hg : o.guard = none) (hd : offD o.dst D = true) (hok : okD S D)
    (hx : S.ev x = .ptr p f) (hD : (t0, p, ty, cs) ∈ D) (h0 : nth S.ts t0 = .ptr p 0) (hld : ld T [(p, false, .box ty cs)] t (.ptr p f) = .ok s) (hps : plainB s = true)
    (hs : Region.noSelect ops = true) (hf : Region.free .any ops listed i = true) (hr : (Region.ready .any ops listed).contains i = true) (h : AnyH C ops n listed' (PutD S o.dst s) K D) : AnyH C ops (n + 1) listed S K D := by
  have key : ∀ β a w, Sat C β S a w → ∀ w', FD (fun t => a.eval (.tmp t)) D w' → ∃ u, (execOp a.eval o).run C.P w' = .ok (.value u) w' ∧ R (fun _ => none) s u := fun β a w hsat w' hF => by
    obtain ⟨b, hb, arr, g1, g2, g3, g4⟩ := hF _ hD
    have e0 := hsat.ev (.tmp t0)
    rw [show S.ev (.tmp t0) = .ptr p 0 from h0] at e0
    obtain ⟨r, hr, e0⟩ := e0
    have e1 := hsat.ev x
    rw [hx] at e1
    obtain ⟨r', hr', e1⟩ := e1
    rw [hr] at hr'; cases hr'
    simp only at hb
    rw [e0] at hb
    simp only [Value.pointer.injEq, Option.some.injEq, Addr.mk.injEq, Nat.add_zero, and_true] at hb
    obtain ⟨hbb, hoff⟩ := hb
    have hH : SatH ⟨C.P, w', fun _ => False, fun q => if q = p then some ⟨b, 0, false, 0, 0, 1⟩ else none, p + 1⟩ (fun q => if q = p then some ⟨b, 0, false, 0, 0, 1⟩ else none) [(p, false, .box ty cs)] w' := by
      refine ⟨⟨rfl, rfl, rfl, Nat.le_refl _, fun _ _ _ => rfl, Nat.le_refl _⟩, fun _ h => h.elim, fun q o' ch hq => ?_, fun q o' c o'' c' h1 h2 => ?_, fun q q' cp cq rp rq hq => ?_, fun q o' c rq k hq hrq hk => ?_⟩
      · simp only [List.mem_singleton, Prod.mk.injEq] at hq
        obtain ⟨rfl, rfl, rfl⟩ := hq
        refine ⟨⟨b, 0, false, 0, 0, 1⟩, by simp, ⟨arr, g1, g2, rfl, rfl, fun i s hi => ?_, g4⟩, ?_⟩
        · obtain ⟨u, a1, a2⟩ := g3 i s hi
          exact ⟨u, a1, one_mono (fun _ _ h => by cases h) a2⟩
        · simp only [Lies, Bool.false_eq_true, if_false]
          exact fun _ => ⟨(Array.getElem?_eq_some_iff.1 g1).1, fun h => h⟩
      · simp only [List.mem_singleton, Prod.mk.injEq] at h1 h2
        rw [h1.2.1, h2.2.1]
      · simp at hq
      · simp only [List.mem_singleton, Prod.mk.injEq] at hq
        obtain ⟨rfl, rfl, rfl⟩ := hq
        cases hk
    obtain ⟨b', off', u, k1, k2, k3⟩ := ld_ok (T := T) (C := ⟨C.P, w', fun _ => False, fun q => if q = p then some ⟨b, 0, false, 0, 0, 1⟩ else none, p + 1⟩) hT hH (x := .ptr p f) (y := .pointer (some ⟨b, 0 + f, none⟩)) ⟨⟨b, 0, false, 0, 0, 1⟩, by simp, rfl⟩ (s := s) (by rw [hld]; rfl)
    simp only [Value.pointer.injEq, Option.some.injEq, Addr.mk.injEq, and_true] at k1
    refine ⟨u, load_op ho (b := b') (off := off') ?_ k2, R_plainB hps k3⟩
    rw [e1, hbb, hoff, ← k1.1, ← k1.2]
  refine anyH_take (s := s) listed' hl hi hg hd hok hs hf hr (fun β a w hsat => ?_) h
  obtain ⟨v, h1, h2⟩ := key β a w hsat w (sat_FD hsat hok)
  refine ⟨v, R_plainB hps h2, fun w' hF => ?_⟩
  obtain ⟨v', h3, h4⟩ := key β a w hsat w' hF
  rw [h3, R_det (det_plainB hps) h4 h2]

theorem anyH_all (hT : TysOK C.P T) {rs : List Nat} (hr : Region.ready .any ops listed = rs) (hne : rs ≠ [])
    (h : ∀ i ∈ rs, ∃ o, ops[i]? = some o ∧ o.guard = none ∧ offD o.dst D = true ∧ step C T wr o S (fun r S' => okD (PutD S' o.dst r) D ∧ AnyH C ops n (listed.setIfInBounds i true) (PutD S' o.dst r) K D)) : AnyH C ops (n + 1) listed S K D := by
  refine ⟨fun β a w hsat => wpAnyH_all hr hne fun i hi => ?_⟩
  obtain ⟨o, ho, hg, hd, hst⟩ := h i hi
  unfold wpOp
  simp only [ho, Region.wanted, hg, if_true]
  refine .inl ?_
  refine (step_ok hT hst).out β a w hsat _ _ fun β' r u S' w' hs' hR hk => ?_
  have hs'' := hs'.putD o.dst hR
  have h1 := sat_FD hs'' hk.1
  have h2 := hk.2.out β' _ _ hs''
  rw [FD_put hd] at h1 h2
  exact ⟨h1, h2⟩
/-- Behind an operation: the boxes stand, and the region goes on. -/
structure StayK (C : Cx) (ops : Array Oper) (n : Nat) (listed : Array Bool) (S : St) (K : St → Prop) (D : Stay) : Prop where
  ok : okD S D
  run : AnyH C ops n listed S K D
theorem anyH_one (hT : TysOK C.P T) {i : Nat} {o : Oper} (listed' : Array Bool) (hl : listed.setIfInBounds i true = listed') (hr : Region.ready .any ops listed = [i]) (ho : ops[i]? = some o) (hg : o.guard = none) (hd : offD o.dst D = true)
    (h : step C T wr o S (fun r S' => StayK C ops n listed' (PutD S' o.dst r) K D)) : AnyH C ops (n + 1) listed S K D :=
  anyH_all hT hr (by simp) fun j hj => by
    subst hl
    obtain rfl : j = i := by simpa using hj
    have : (fun r S' => okD (PutD S' o.dst r) D ∧ AnyH C ops n (listed.setIfInBounds j true) (PutD S' o.dst r) K D) = (fun r S' => StayK C ops n (listed.setIfInBounds j true) (PutD S' o.dst r) K D) := funext fun r => funext fun S' => propext ⟨fun h => ⟨h.1, h.2⟩, fun h => ⟨h.1, h.2⟩⟩
    exact ⟨o, ho, hg, hd, by rw [this]; exact h⟩
theorem anyH_two (hT : TysOK C.P T) {i i' : Nat} {o o' : Oper} (l1 l2 : Array Bool) (hl1 : listed.setIfInBounds i true = l1) (hl2 : listed.setIfInBounds i' true = l2) (hr : Region.ready .any ops listed = [i, i']) (ho : ops[i]? = some o) (hg : o.guard = none) (hd : offD o.dst D = true) (ho' : ops[i']? = some o') (hg' : o'.guard = none) (hd' : offD o'.dst D = true)
    (h : step C T wr o S (fun r S' => StayK C ops n l1 (PutD S' o.dst r) K D)) (h' : step C T wr o' S (fun r S' => StayK C ops n l2 (PutD S' o'.dst r) K D)) : AnyH C ops (n + 1) listed S K D :=
  anyH_all hT hr (by simp) fun j hj => by
    subst hl1 hl2
    have e : ∀ (o : Oper) (L : Array Bool), (fun r S' => okD (PutD S' o.dst r) D ∧ AnyH C ops n L (PutD S' o.dst r) K D) = (fun r S' => StayK C ops n L (PutD S' o.dst r) K D) := fun o L => funext fun r => funext fun S' => propext ⟨fun h => ⟨h.1, h.2⟩, fun h => ⟨h.1, h.2⟩⟩
    rcases (by simpa using hj : j = i ∨ j = i') with rfl | rfl
    · exact ⟨o, ho, hg, hd, by rw [e]; exact h⟩
    · exact ⟨o', ho', hg', hd', by rw [e]; exact h'⟩
theorem anyH_three (hT : TysOK C.P T) {i i' i'' : Nat} {o o' o'' : Oper} (l1 l2 l3 : Array Bool) (hl1 : listed.setIfInBounds i true = l1) (hl2 : listed.setIfInBounds i' true = l2) (hl3 : listed.setIfInBounds i'' true = l3) (hr : Region.ready .any ops listed = [i, i', i'']) (ho : ops[i]? = some o) (hg : o.guard = none) (hd : offD o.dst D = true) (ho' : ops[i']? = some o') (hg' : o'.guard = none) (hd' : offD o'.dst D = true) (ho'' : ops[i'']? = some o'') (hg'' : o''.guard = none) (hd'' : offD o''.dst D = true)
    (h : step C T wr o S (fun r S' => StayK C ops n l1 (PutD S' o.dst r) K D)) (h' : step C T wr o' S (fun r S' => StayK C ops n l2 (PutD S' o'.dst r) K D)) (h'' : step C T wr o'' S (fun r S' => StayK C ops n l3 (PutD S' o''.dst r) K D)) : AnyH C ops (n + 1) listed S K D :=
  anyH_all hT hr (by simp) fun j hj => by
    subst hl1 hl2 hl3
    have e : ∀ (o : Oper) (L : Array Bool), (fun r S' => okD (PutD S' o.dst r) D ∧ AnyH C ops n L (PutD S' o.dst r) K D) = (fun r S' => StayK C ops n L (PutD S' o.dst r) K D) := fun o L => funext fun r => funext fun S' => propext ⟨fun h => ⟨h.1, h.2⟩, fun h => ⟨h.1, h.2⟩⟩
    rcases (by simpa using hj : j = i ∨ j = i' ∨ j = i'') with rfl | rfl | rfl
    · exact ⟨o, ho, hg, hd, by rw [e]; exact h⟩
    · exact ⟨o', ho', hg', hd', by rw [e]; exact h'⟩
    · exact ⟨o'', ho'', hg'', hd'', by rw [e]; exact h''⟩
end
end E
end Go.Proofs.Ytlkchnfgeedghaa
