/- Regions that draw their order and only read. It states nothing about the program. -/
import Derived.Test.YtlkchnfgeedghaaEC
import Derived.Deep.Quiet
namespace Go.Proofs.Ytlkchnfgeedghaa
namespace E
open Go

mutual
/-- The value is fixed by the names. -/
def det : SV → Bool
  | .junk => false
  | .agg xs => dets xs
  | .tup xs => dets xs
  | _ => true
def dets : List SV → Bool
  | [] => true
  | x :: xs => det x && dets xs
end

theorem dets_get : ∀ {xs : List SV}, dets xs = true → ∀ (i : Nat) (s : SV), xs[i]? = some s → det s = true
  | x :: xs, h, 0, s, hi => by cases hi; simp [dets] at h; exact h.1
  | x :: xs, h, i + 1, s, hi => by simp [dets] at h; exact dets_get h.2 i s (by simpa using hi)

theorem one_det {β : Names} {s : SV} {u v : Value} (hd : det s = true) (hu : one β s u) (hv : one β s v) : u = v := by
  cases s <;> simp only [det] at hd
  case junk => cases hd
  case v x => exact Eq.trans hu (Eq.symm hv)
  case ptr p f => obtain ⟨r, h1, rfl⟩ := hu; obtain ⟨r', h1', rfl⟩ := hv; rw [h1] at h1'; cases h1'; rfl
  case eptr p i f => obtain ⟨r, h1, rfl⟩ := hu; obtain ⟨r', h1', rfl⟩ := hv; rw [h1] at h1'; cases h1'; rfl
  case full p => obtain ⟨r, h1, rfl⟩ := hu; obtain ⟨r', h1', rfl⟩ := hv; rw [h1] at h1'; cases h1'; rfl
  case mp p => obtain ⟨r, h1, rfl⟩ := hu; obtain ⟨r', h1', rfl⟩ := hv; rw [h1] at h1'; cases h1'; rfl
  case sl p l n => obtain ⟨r, h1, _, rfl⟩ := hu; obtain ⟨r', h1', _, rfl⟩ := hv; rw [h1] at h1'; cases h1'; rfl
  case clo f cs =>
    obtain ⟨ys, rfl, h2, h3⟩ := hu
    obtain ⟨ys', rfl, h2', h3'⟩ := hv
    have : ys = ys' := List.ext_getElem? fun i => by
      rcases hc : cs[i]? with _ | p
      · have hlen := List.getElem?_eq_none_iff.1 hc
        rw [List.getElem?_eq_none (by omega), List.getElem?_eq_none (by omega)]
      · obtain ⟨r, a, b⟩ := h3 i p hc
        obtain ⟨r', a', b'⟩ := h3' i p hc
        rw [a] at a'; cases a'
        rw [b, b']
    rw [this]
  case agg => exact hu.elim
  case tup => exact hu.elim

theorem R1_det {β : Names} {s : SV} {u v : Value} (hd : det s = true) (hu : R1 β s u) (hv : R1 β s v) : u = v := by
  cases s
  case agg xs =>
    obtain ⟨ys, rfl, h2, h3, _⟩ := hu
    obtain ⟨ys', rfl, h2', h3', _⟩ := hv
    simp only [det] at hd
    have : ys = ys' := List.ext_getElem? fun i => by
      rcases hc : xs[i]? with _ | s
      · have hlen := List.getElem?_eq_none_iff.1 hc
        rw [List.getElem?_eq_none (by omega), List.getElem?_eq_none (by omega)]
      · obtain ⟨r, a, b⟩ := h3 i s hc
        obtain ⟨r', a', b'⟩ := h3' i s hc
        rw [a, a', one_det (dets_get hd i s hc) b b']
    rw [this]
  all_goals
    rcases R1_cases hu with h1 | ⟨_, e⟩
    · rcases R1_cases hv with h2 | ⟨_, e⟩
      · exact one_det hd h1 h2
      · cases e
    · cases e

theorem R_det {β : Names} {s : SV} {u v : Value} (hd : det s = true) (hu : R β s u) (hv : R β s v) : u = v := by
  cases s
  case tup xs =>
    obtain ⟨ys, rfl, h2, h3⟩ := hu
    obtain ⟨ys', rfl, h2', h3'⟩ := hv
    simp only [det] at hd
    have : ys = ys' := List.ext_getElem? fun i => by
      rcases hc : xs[i]? with _ | s
      · have hlen := List.getElem?_eq_none_iff.1 hc
        rw [List.getElem?_eq_none (by omega), List.getElem?_eq_none (by omega)]
      · obtain ⟨r, a, b⟩ := h3 i s hc
        obtain ⟨r', a', b'⟩ := h3' i s hc
        rw [a, a', R1_det (dets_get hd i s hc) b b']
    rw [this]
  all_goals
    rcases R_cases hu with h1 | ⟨_, e⟩
    · rcases R_cases hv with h2 | ⟨_, e⟩
      · exact R1_det hd h1 h2
      · cases e
    · cases e

structure Grown (w w' : World) : Prop where
  drawn : w.drawn ≤ w'.drawn
  os : w'.os = w.os
  tape : w'.tape = w.tape
  output : w'.output = w.output
  size : w.heap.size ≤ w'.heap.size
  blk : ∀ k, k < w.heap.size → w'.heap[k]? = w.heap[k]?

/-- A call that only reads, and answers a plain value. -/
structure QCallP (C : Cx) (f : FuncId) (args : List SV) (S : St) (K : SV → Prop) : Prop where
  enters : Enters C.P f
  out : ∃ x, (∀ β a w, Sat C β S a w → ∀ vs, RL β args vs → Calls C.P f vs.toArray w fun e w' => e = .returned x ∧ Grown w w') ∧ K (.v x)

def qRs (K : SV → Prop) : Rs → Prop
  | .bad => False
  | .ok s => det s = true ∧ K s
  | .side c s => c ∧ det s = true ∧ K s

/-- An operation in such a region that is left to a lemma. -/
structure QOpP (C : Cx) (o : Oper) (S : St) (K : SV → Prop) : Prop where
  out : ∃ s, det s = true ∧ K s ∧ ∀ β a w, Sat C β S a w → ∃ u, (execOp a.eval o).run C.P w = .ok (.value u) w ∧ R β s u
def qRsO (C : Cx) (o : Oper) (S : St) (K : SV → Prop) : Rs → Prop
  | .bad => QOpP C o S K
  | .ok s => det s = true ∧ K s
  | .side c s => c ∧ det s = true ∧ K s

def qCall (C : Cx) (T : Tys) (S : St) (K : SV → Prop) (c : Call) : Prop :=
  match c.callee with
  | .builtin .len =>
    match c.args.toList, c.argTypes.toList with
    | [x], [t] => match lenK T S.H t (S.ev x) with | some n => K (.v (.int .i64 n)) | none => False
    | _, _ => False
  | .value f =>
    match S.ev f with
    | .clo g cs => QCallP C g (c.args.toList.map S.ev ++ cs.map (fun p => .ptr p 0)) S K
    | _ => False
  | _ => False

def qstep (C : Cx) (T : Tys) (wr : List Nat) (o : Oper) (S : St) (K : SV → Prop) : Prop :=
  match o.op with
  | .move x => K (S.ev x)
  | .assign x => K (S.ev x)
  | .load t x => qRs K (ld T S.H t (S.ev x))
  | .call c => qCall C T S K c
  | op => qRsO C o S K (pur T (match o.dst with | some d => wr.contains d | none => false) S op)

def qops (C : Cx) (T : Tys) (wr : List Nat) (all : Array Oper) : List Oper → St → (St → Prop) → Prop
  | [], S, K => K S
  | o :: os, S, K =>
    match o.guard with
    | none => qstep C T wr o S (fun r => qops C T wr all os (PutD S o.dst r) K)
    | some (j, want) =>
      match (all[j]?).bind (·.dst) with
      | none => False
      | some d =>
        match nth S.ts d with
        | .v (.bool b) => (b = want → qstep C T wr o { S with ts := upd S.ts d (.v (.bool want)) } (fun r => qops C T wr all os (PutD { S with ts := upd S.ts d (.v (.bool want)) } o.dst r) K)) ∧
            (b = !want → qops C T wr all os (PutD { S with ts := upd S.ts d (.v (.bool !want)) } o.dst (.v (.tuple #[]))) K)
        | .v (.tuple ⟨[]⟩) => qops C T wr all os (PutD S o.dst (.v (.tuple #[]))) K
        | _ => False

/-- The rest of such a region. -/
structure QK (C : Cx) (T : Tys) (wr : List Nat) (all : Array Oper) (os : List Oper) (d : Option Tmp) (S : St) (K : St → Prop) (r : SV) : Prop where
  run : qops C T wr all os (PutD S d r) K
theorem QK_fun (C : Cx) (T : Tys) (wr : List Nat) (all : Array Oper) (os : List Oper) (d : Option Tmp) (S : St) (K : St → Prop) : (fun r => qops C T wr all os (PutD S d r) K) = QK C T wr all os d S K :=
  funext fun _ => propext ⟨fun h => ⟨h⟩, fun h => h.run⟩
def qguardD (C : Cx) (T : Tys) (wr : List Nat) (all : Array Oper) (o : Oper) (os : List Oper) (S : St) (K : St → Prop) (want : Bool) (d : Nat) : SV → Prop
  | .v (.bool b) => (b = want → qstep C T wr o { S with ts := upd S.ts d (.v (.bool want)) } (QK C T wr all os o.dst { S with ts := upd S.ts d (.v (.bool want)) } K)) ∧
      (b = !want → qops C T wr all os (PutD { S with ts := upd S.ts d (.v (.bool !want)) } o.dst (.v (.tuple #[]))) K)
  | .v (.tuple ⟨[]⟩) => qops C T wr all os (PutD S o.dst (.v (.tuple #[]))) K
  | _ => False
def qguardG (C : Cx) (T : Tys) (wr : List Nat) (all : Array Oper) (o : Oper) (os : List Oper) (S : St) (K : St → Prop) (want : Bool) : Option Nat → Prop
  | none => False
  | some d => qguardD C T wr all o os S K want d (nth S.ts d)
def qguardO (C : Cx) (T : Tys) (wr : List Nat) (all : Array Oper) (o : Oper) (os : List Oper) (S : St) (K : St → Prop) : Option (Nat × Bool) → Prop
  | none => qstep C T wr o S (QK C T wr all os o.dst S K)
  | some (j, want) => qguardG C T wr all o os S K want ((all[j]?).bind (·.dst))

section
variable {C : Cx} {T : Tys} {wr : List Nat}

theorem qops_nil (all : Array Oper) (S : St) (K : St → Prop) : qops C T wr all [] S K = K S := by rw [qops]
theorem qops_run (all : Array Oper) (o : Oper) (os : List Oper) (S : St) (K : St → Prop) : qops C T wr all (o :: os) S K = qguardO C T wr all o os S K o.guard := by
  rw [qops]
  cases hg : o.guard with
  | none => simp only [qguardO]; rw [QK_fun]
  | some g =>
    obtain ⟨j, want⟩ := g
    simp only [qguardO]
    cases hd : (all[j]?).bind (·.dst) with
    | none => rfl
    | some d =>
      simp only [qguardG]
      generalize nth S.ts d = s
      cases s <;> first | rfl | skip
      rename_i x
      cases x <;> first | rfl | skip
      case tuple l => rcases l with ⟨_ | _⟩ <;> rfl
      simp only [qguardD, QK_fun]
theorem QK_run (all : Array Oper) (os : List Oper) (d : Option Tmp) (S : St) (K : St → Prop) (r : SV) : QK C T wr all os d S K r = qops C T wr all os (PutD S d r) K := propext ⟨fun h => h.run, fun h => ⟨h⟩⟩
theorem qguardD_tt (all : Array Oper) (o : Oper) (os : List Oper) (S : St) (K : St → Prop) (d : Nat) : qguardD C T wr all o os S K true d (.v (.bool true)) = qstep C T wr o { S with ts := upd S.ts d (.v (.bool true)) } (QK C T wr all os o.dst { S with ts := upd S.ts d (.v (.bool true)) } K) := by
  simp [qguardD]
theorem qguardD_ff (all : Array Oper) (o : Oper) (os : List Oper) (S : St) (K : St → Prop) (d : Nat) : qguardD C T wr all o os S K false d (.v (.bool false)) = qstep C T wr o { S with ts := upd S.ts d (.v (.bool false)) } (QK C T wr all os o.dst { S with ts := upd S.ts d (.v (.bool false)) } K) := by
  simp [qguardD]
theorem qguardD_tf (all : Array Oper) (o : Oper) (os : List Oper) (S : St) (K : St → Prop) (d : Nat) : qguardD C T wr all o os S K true d (.v (.bool false)) = qops C T wr all os (PutD { S with ts := upd S.ts d (.v (.bool false)) } o.dst (.v (.tuple #[]))) K := by
  simp [qguardD]
theorem qguardD_ft (all : Array Oper) (o : Oper) (os : List Oper) (S : St) (K : St → Prop) (d : Nat) : qguardD C T wr all o os S K false d (.v (.bool true)) = qops C T wr all os (PutD { S with ts := upd S.ts d (.v (.bool true)) } o.dst (.v (.tuple #[]))) K := by
  simp [qguardD]
theorem qguardD_u (all : Array Oper) (o : Oper) (os : List Oper) (S : St) (K : St → Prop) (want : Bool) (d : Nat) : qguardD C T wr all o os S K want d (.v (.tuple #[])) = qops C T wr all os (PutD S o.dst (.v (.tuple #[]))) K := rfl
theorem qguard_split {all : Array Oper} {o : Oper} {os : List Oper} {S : St} {K : St → Prop} {d : Nat} {want b : Bool}
    (h1 : b = want → qstep C T wr o { S with ts := upd S.ts d (.v (.bool want)) } (QK C T wr all os o.dst { S with ts := upd S.ts d (.v (.bool want)) } K))
    (h2 : b = !want → qops C T wr all os (PutD { S with ts := upd S.ts d (.v (.bool !want)) } o.dst (.v (.tuple #[]))) K) : qguardD C T wr all o os S K want d (.v (.bool b)) := ⟨h1, h2⟩

/-- The frame's part of what a state says. -/
structure ActOK (C : Cx) (β : Names) (S : St) (a : Act) : Prop where
  base : Le C.b0 β
  bk : ∀ p, C.k ≤ p → C.b0 p = none
  names : ∀ p, S.nx ≤ p → β p = none
  defers : a.defers = []
  size : a.tmps.size = S.ts.length
  ts : ∀ (i : Nat) (s : SV), S.ts[i]? = some s → ∃ u, a.tmps[i]? = some u ∧ R β s u
theorem Sat.act {β : Names} {S : St} {a : Act} {w : World} (h : Sat C β S a w) : ActOK C β S a := ⟨h.base, h.bk, h.names, h.defers, h.size, h.ts⟩
theorem ActOK.sat {β : Names} {S : St} {a : Act} {w : World} (h : ActOK C β S a) (hw : SatH C β S.H w) : Sat C β S a w := ⟨hw, h.base, h.bk, h.names, h.defers, h.size, h.ts⟩

theorem SatH.drew {β : Names} {H : Heap} {w : World} (h : SatH C β H w) : SatH C β H { w with drawn := w.drawn + 1 } := h.grow (Le.refl _) rfl rfl rfl (Nat.le_refl _) (fun _ _ => rfl)
theorem SatH.grown {β : Names} {H : Heap} {w w' : World} (h : SatH C β H w) (g : Grown w w') : SatH C β H w' := h.grow (Le.refl _) g.os g.tape g.output g.size g.blk g.drawn

/-- A quiet operation, as the base has it. -/
theorem quiet_of {o : Oper} {β : Names} {S : St} {a : Act} {w0 : World} {K : SV → Prop} {next : Act → Prop} (hw0 : SatH C β S.H w0) {s : SV} (hd : det s = true) (hk : K s)
    (hv : ∀ w, SatH C β S.H w → ∃ u, (execOp a.eval o).run C.P w = .ok (.value u) w ∧ R β s u) (hn : ∀ s u, K s → R β s u → next (a.put o.dst u)) : o.quiet C.P a (SatH C β S.H) next := by
  obtain ⟨u, hu, hR⟩ := hv w0 hw0
  refine ⟨u, fun w hw => ?_, hn s u hk hR⟩
  obtain ⟨u', hu', hR'⟩ := hv w hw
  obtain rfl := R_det hd hR hR'
  unfold Oper.quietAt
  rw [hu']
  exact ⟨rfl, rfl⟩

theorem qRs_ok {o : Oper} {β : Names} {S : St} {a : Act} {w0 : World} {K : SV → Prop} {next : Act → Prop} {rs : Rs} (hw0 : SatH C β S.H w0) (h : qRs K rs)
    (hv : ∀ s, rs.Ok s → ∀ w, SatH C β S.H w → ∃ u, (execOp a.eval o).run C.P w = .ok (.value u) w ∧ R β s u) (hn : ∀ s u, K s → R β s u → next (a.put o.dst u)) : o.quiet C.P a (SatH C β S.H) next := by
  cases rs with
  | bad => exact h.elim
  | ok s => exact quiet_of hw0 h.1 h.2 (hv s rfl) hn
  | side c s => exact quiet_of hw0 h.2.1 h.2.2 (hv s ⟨h.1, rfl⟩) hn

theorem value_of_wp {o : Oper} {a : Act} {w : World} {u : Value} (h : (execOp a.eval o).run C.P w = .ok (.value u) w) : o.quietAt C.P a (fun _ => True) w u := by
  unfold Oper.quietAt; rw [h]; exact ⟨rfl, rfl⟩

theorem qstep_ok (hT : TysOK C.P T) {o : Oper} {β : Names} {S : St} {a : Act} {w0 : World} {K : SV → Prop} {next : Act → Prop} (hs : ActOK C β S a) (hw0 : SatH C β S.H w0) (h : qstep C T wr o S K) (hn : ∀ s u, K s → R β s u → next (a.put o.dst u)) : o.quiet C.P a (SatH C β S.H) next := by
  unfold qstep at h
  split at h
  · rename_i x ho
    exact ⟨a.eval x, fun w hw => by unfold Oper.quietAt execOp; rw [ho]; exact ⟨rfl, rfl⟩, hn _ _ h ((hs.sat hw0).ev x)⟩
  · rename_i x ho
    exact ⟨a.eval x, fun w hw => by unfold Oper.quietAt execOp; rw [ho]; exact ⟨rfl, rfl⟩, hn _ _ h ((hs.sat hw0).ev x)⟩
  · rename_i t x ho
    refine qRs_ok hw0 h (fun s hok w hw => ?_) hn
    obtain ⟨b, off, u, hx, hl, hR⟩ := ld_ok hT hw ((hs.sat hw).ev x) hok
    exact ⟨u, load_op ho hx hl, hR⟩
  · rename_i c ho
    unfold qCall at h
    split at h
    · rename_i hc
      split at h
      · rename_i x t ha ht
        split at h
        · rename_i n hl
          refine ⟨.int .i64 n, fun w hw => ?_, hn _ _ h rfl⟩
          unfold Oper.quietAt
          rw [lenK_run hT (hs.sat hw) ho hc ha ht hl]
          exact ⟨rfl, rfl⟩
        · exact h.elim
      · exact h.elim
    · rename_i f hc
      split at h
      · rename_i g cs hf
        obtain ⟨x, hx, hk⟩ := h.out
        refine ⟨x, fun w hw => ?_, hn _ _ hk rfl⟩
        obtain ⟨vs, ⟨hrun, _⟩, hvs, _⟩ := call_run (hs.sat hw) ho hc hf
        unfold Oper.quietAt
        rw [hrun h.enters]
        exact ⟨rfl, (hx β a w (hs.sat hw) vs hvs).mono fun e w' ⟨h1, h2⟩ => ⟨h1, hw.grown h2⟩⟩
      · exact h.elim
    · exact h.elim
  · generalize hrs : pur T (match o.dst with | some d => wr.contains d | none => false) S o.op = rs at h
    cases rs with
    | bad =>
      obtain ⟨s, hd, hk, hv⟩ := h.out
      exact quiet_of hw0 hd hk (fun w hw => hv β a w (hs.sat hw)) hn
    | ok s => exact quiet_of hw0 h.1 h.2 (fun w hw => pur_ok hT (hs.sat hw) _ o (by rw [hrs]; rfl)) hn
    | side c s => exact quiet_of hw0 h.2.1 h.2.2 (fun w hw => pur_ok hT (hs.sat hw) _ o (by rw [hrs]; exact ⟨h.1, rfl⟩)) hn


theorem ActOK.putD {β : Names} {S : St} {a : Act} (h : ActOK C β S a) (d : Option Tmp) {s : SV} {u : Value} (hr : R β s u) : ActOK C β (PutD S d s) (a.put d u) := by
  cases d with
  | none => exact h
  | some d =>
    refine ⟨h.base, h.bk, h.names, h.defers, by simp [PutD, Act.put, upd_eq, h.size], fun i s' hs => ?_⟩
    simp only [PutD, upd_eq] at hs
    by_cases e : d = i
    · subst e
      have hlt : d < S.ts.length := by
        have := (List.getElem?_eq_some_iff.1 hs).1; simpa using this
      rw [List.getElem?_set_self hlt] at hs
      cases hs
      refine ⟨u, ?_, hr⟩
      have : d < a.tmps.size := by rw [h.size]; exact hlt
      simp [Act.put, this]
    · rw [List.getElem?_set_ne e] at hs
      obtain ⟨u', h1, h2⟩ := h.ts i s' hs
      exact ⟨u', by simp [Act.put, Array.getElem?_setIfInBounds_ne e, h1], h2⟩

theorem PutD_H (S : St) (d : Option Tmp) (s : SV) : (PutD S d s).H = S.H := by cases d <;> rfl

theorem qops_ok (hT : TysOK C.P T) {all : Array Oper} {K : St → Prop} {Q : Act → Prop} {β : Names} {H : Heap} {w0 : World} (hw0 : SatH C β H w0) (hQ : ∀ S a, S.H = H → K S → ActOK C β S a → Q a) : ∀ {os : List Oper} {S : St}, S.H = H → qops C T wr all os S K → ∀ a, ActOK C β S a → wpQuiet C.P all (SatH C β H) Q os a
  | [], S, hH, h, a, hs => by rw [qops_nil] at h; exact wpQuiet_nil (hQ S a hH h hs)
  | o :: os, S, hH, h, a, hs => by
    subst hH
    rw [qops_run] at h
    refine wpQuiet_step fun K' hK' => ?_
    cases hg : o.guard with
    | none =>
      rw [hg] at h
      simp only [Region.wanted, hg, if_true]
      exact qstep_ok hT hs hw0 h fun s u hk hR => hK' _ (qops_ok hT hw0 hQ (PutD_H _ _ _) hk.run _ (hs.putD _ hR))
    | some g =>
      obtain ⟨j, want⟩ := g
      rw [hg] at h
      simp only [qguardO] at h
      cases hd : (all[j]?).bind (·.dst) with
      | none => rw [hd] at h; exact h.elim
      | some d =>
        rw [hd] at h
        simp only [qguardG] at h
        cases hb : nth S.ts d <;> rw [hb] at h <;> try exact h.elim
        rename_i x
        cases x <;> try exact h.elim
        case tuple l =>
          rcases l with ⟨_ | _⟩
          · have hy := yielded_undef (hs.sat hw0) hd hb
            simp only [Region.wanted, hg, hy]
            rw [if_neg (by simp)]
            exact hK' _ (qops_ok hT hw0 hQ (S := PutD S o.dst (.v (.tuple #[]))) (PutD_H _ _ _) h _ (hs.putD _ (s := (.v (.tuple #[]))) rfl))
          · exact h.elim
        rename_i b
        have hy := yielded_of (hs.sat hw0) hd hb
        have hkn : ActOK C β { S with ts := upd S.ts d (.v (.bool b)) } a := ((hs.sat hw0).known hb).act
        simp only [Region.wanted, hg, hy]
        by_cases e : b = want
        · subst e
          rw [if_pos (by simp)]
          exact qstep_ok (S := { S with ts := upd S.ts d (.v (.bool b)) }) hT hkn hw0 (h.1 rfl) fun s u hk hR => hK' _ (qops_ok hT hw0 hQ (S := PutD { S with ts := upd S.ts d (.v (.bool b)) } o.dst s) (PutD_H _ _ _) hk.run _ (hkn.putD _ hR))
        · rw [if_neg (by simpa using e)]
          have e' : b = !want := by cases b <;> cases want <;> simp_all
          subst e'
          exact hK' _ (qops_ok hT hw0 hQ (S := PutD { S with ts := upd S.ts d (.v (.bool !want)) } o.dst (.v (.tuple #[]))) (PutD_H _ _ _) (h.2 rfl) _ (hkn.putD _ (s := (.v (.tuple #[]))) rfl))

/-- A region that draws its order and only reads. -/
theorem draw_rule {P : Program} (hP : C.P = P) (hT : TysOK P T) (hm : P.follows .mixedOrders = true) {id : Nat} {ops : Array Oper} (hB : Region.lexB .any ops = true) {S : St} {Q : Exit → St → Prop} (h : qops C T wr ops ops.toList S (NormK Q)) : CodeP C (.region id ops true) S Q := by
  subst hP
  refine ⟨fun β a w hs => ?_⟩
  refine wp_region_quiet (C := SatH C β S.H) hm hB hs.heap.drew ?_
  exact qops_ok hT hs.heap (fun S' a' hH hk hact w' hw' => ⟨β, S', hact.sat (hH ▸ hw'), hk⟩) rfl h a hs.act

/-- A contract at a call in such a region. -/
theorem qcall_is {P : Program} (hP : C.P = P) {f : FuncId} {rows : List (TypeId × RowC)} {k : Nat} {args cargs : List SV} {x : Value} {S : St} {K : SV → Prop} (hsp : Spec P f (inH 0 rows) k args (.v x) []) (hk' : k = rows.length) (ha : argsM S.H 0 rows args cargs)
    (hk : K (.v x)) : QCallP C f cargs S K := by
  subst hk'
  refine ⟨hP ▸ hsp.enters, x, fun β a w hs vs hvs => ?_, hk⟩
  obtain ⟨g1, hnm, hno, hentry⟩ := entry_ok hs ha
  have hsp' : Spec C.P f (inH 0 rows) rows.length args (.v x) [] := hP ▸ hsp
  refine (hsp'.out _ w hentry hno vs (g1 vs hvs)).mono ?_
  rintro e w' ⟨β', u, rfl, hle, hsat', hno', hR⟩
  obtain rfl : u = x := hR
  have hfr := hsat'.fr
  exact ⟨rfl, hfr.drawn, hfr.os, hfr.tape, hfr.output, hfr.size, fun k hk => hfr.block k hk (fun h => h)⟩

end
end E
end Go.Proofs.Ytlkchnfgeedghaa
