/- Equations by which the executor is run, and small laws for its use. It states nothing about the program. -/
import Derived.Test.YtlkchnfgeedghaaE9
import Derived.Laws.StructEq
namespace Go.Proofs.Ytlkchnfgeedghaa
namespace E
open Go

section
variable {C : Cx} {T : Tys} {wr : List Nat}

def guardD (C : Cx) (T : Tys) (wr : List Nat) (all : Array Oper) (o : Oper) (os : List Oper) (S : St) (K : St → Prop) (want : Bool) (d : Nat) : SV → Prop
  | .v (.bool b) => (b = want → step C T wr o { S with ts := upd S.ts d (.v (.bool want)) } (OpsK C T wr all os o.dst K)) ∧
      (b = !want → sops C T wr all os (PutD { S with ts := upd S.ts d (.v (.bool !want)) } o.dst (.v (.tuple #[]))) K)
  | .v (.tuple ⟨[]⟩) => sops C T wr all os (PutD S o.dst (.v (.tuple #[]))) K
  | _ => False
def guardG (C : Cx) (T : Tys) (wr : List Nat) (all : Array Oper) (o : Oper) (os : List Oper) (S : St) (K : St → Prop) (want : Bool) : Option Nat → Prop
  | none => False
  | some d => guardD C T wr all o os S K want d (nth S.ts d)
def guardO (C : Cx) (T : Tys) (wr : List Nat) (all : Array Oper) (o : Oper) (os : List Oper) (S : St) (K : St → Prop) : Option (Nat × Bool) → Prop
  | none => step C T wr o S (OpsK C T wr all os o.dst K)
  | some (j, want) => guardG C T wr all o os S K want ((all[j]?).bind (·.dst))
theorem sops_run (C : Cx) (T : Tys) (wr : List Nat) (all : Array Oper) (o : Oper) (os : List Oper) (S : St) (K : St → Prop) : sops C T wr all (o :: os) S K = guardO C T wr all o os S K o.guard := by
  rw [sops]
  cases hg : o.guard with
  | none => simp only [guardO, OpsK_fun]
  | some g =>
    obtain ⟨j, want⟩ := g
    simp only [guardO]
    cases hd : (all[j]?).bind (·.dst) with
    | none => rfl
    | some d =>
      simp only [guardG]
      generalize nth S.ts d = s
      cases s <;> first | rfl | skip
      rename_i x
      cases x <;> first | rfl | skip
      case tuple l => rcases l with ⟨_ | _⟩ <;> rfl
      simp only [guardD, OpsK_fun]

theorem guardD_tt (all : Array Oper) (o : Oper) (os : List Oper) (S : St) (K : St → Prop) (d : Nat) : guardD C T wr all o os S K true d (.v (.bool true)) = step C T wr o { S with ts := upd S.ts d (.v (.bool true)) } (OpsK C T wr all os o.dst K) := by
  simp [guardD]
theorem guardD_ff (all : Array Oper) (o : Oper) (os : List Oper) (S : St) (K : St → Prop) (d : Nat) : guardD C T wr all o os S K false d (.v (.bool false)) = step C T wr o { S with ts := upd S.ts d (.v (.bool false)) } (OpsK C T wr all os o.dst K) := by
  simp [guardD]
theorem guardD_tf (all : Array Oper) (o : Oper) (os : List Oper) (S : St) (K : St → Prop) (d : Nat) : guardD C T wr all o os S K true d (.v (.bool false)) = sops C T wr all os (PutD { S with ts := upd S.ts d (.v (.bool false)) } o.dst (.v (.tuple #[]))) K := by
  simp [guardD]
theorem guardD_ft (all : Array Oper) (o : Oper) (os : List Oper) (S : St) (K : St → Prop) (d : Nat) : guardD C T wr all o os S K false d (.v (.bool true)) = sops C T wr all os (PutD { S with ts := upd S.ts d (.v (.bool true)) } o.dst (.v (.tuple #[]))) K := by
  simp [guardD]
theorem guardD_u (all : Array Oper) (o : Oper) (os : List Oper) (S : St) (K : St → Prop) (want : Bool) (d : Nat) : guardD C T wr all o os S K want d (.v (.tuple #[])) = sops C T wr all os (PutD S o.dst (.v (.tuple #[]))) K := rfl
/-- A guard whose bool is not known: both ways. -/
theorem guard_split {all : Array Oper} {o : Oper} {os : List Oper} {S : St} {K : St → Prop} {d : Nat} {want b : Bool}
    (h1 : b = want → step C T wr o { S with ts := upd S.ts d (.v (.bool want)) } (OpsK C T wr all os o.dst K))
    (h2 : b = !want → sops C T wr all os (PutD { S with ts := upd S.ts d (.v (.bool !want)) } o.dst (.v (.tuple #[]))) K) : guardD C T wr all o os S K want d (.v (.bool b)) := ⟨h1, h2⟩

def condD (C : Cx) (T : Tys) (wr : List Nat) (c : Operand) (a b : Code) (S : St) (Q : Exit → St → Prop) : SV → Prop
  | .v (.bool t) => (t = true → Ex C T wr a S Q) ∧ (t = false → Ex C T wr b S Q)
  | _ => CodeP C (.cond c a b) S Q
theorem Ex_if (C : Cx) (T : Tys) (wr : List Nat) (c : Operand) (a b : Code) (S : St) (Q : Exit → St → Prop) : Ex C T wr (.cond c a b) S Q = condD C T wr c a b S Q (S.ev c) := by
  show (match S.ev c with | .v (.bool t) => (t = true → Ex C T wr a S Q) ∧ (t = false → Ex C T wr b S Q) | _ => CodeP C (.cond c a b) S Q) = _
  generalize S.ev c = s
  cases s <;> rfl
theorem condD_t (c : Operand) (a b : Code) (S : St) (Q : Exit → St → Prop) : condD C T wr c a b S Q (.v (.bool true)) = Ex C T wr a S Q := by simp [condD]
theorem condD_f (c : Operand) (a b : Code) (S : St) (Q : Exit → St → Prop) : condD C T wr c a b S Q (.v (.bool false)) = Ex C T wr b S Q := by simp [condD]
/-- A test whose bool is not known: both ways. -/
theorem cond_split {c : Operand} {a b : Code} {S : St} {Q : Exit → St → Prop} {t : Bool} (h1 : t = true → Ex C T wr a S Q) (h2 : t = false → Ex C T wr b S Q) : condD C T wr c a b S Q (.v (.bool t)) := ⟨h1, h2⟩

def RetO (post : SV → St → Prop) (S : St) : Option (List SV) → Prop
  | some l => post (packR l) S
  | none => False
theorem RetK_r (rv : Array ResultVar) (post : SV → St → Prop) (S : St) : RetK T rv post .ret S = RetO post S (resOf T S rv.toList) := by
  unfold RetK; cases resOf T S rv.toList <;> rfl
theorem RetK_n (rv : Array ResultVar) (post : SV → St → Prop) (S : St) : RetK T rv post .normal S = RetO post S (resOf T S rv.toList) := by
  unfold RetK; cases resOf T S rv.toList <;> rfl

theorem NormK_run (Q : Exit → St → Prop) (S : St) : NormK Q S = Q .normal S := rfl
theorem OpsK_run (all : Array Oper) (os : List Oper) (d : Option Tmp) (K : St → Prop) (r : SV) (S : St) : OpsK C T wr all os d K r S = sops C T wr all os (PutD S d r) K := propext ⟨fun h => h.run, fun h => ⟨h⟩⟩

/-! results of whole functions -/
/-- Which chunk of the end a new row is: a name, or no row at all. -/
def srcRef (β : Names) (t : RowC) : Option Nat → Option Ref
  | some q => β q
  | none => some ⟨0, 0, true, 0, 0, t.sz⟩

def finN (β : Names) (k : Nat) (src : List (Option Nat)) (news : List (TypeId × RowC)) : Names := fun p =>
  if p < k then β p else match news[p - k]?, src[p - k]? with
    | some (_, c), some s => srcRef β c s
    | _, _ => none

def bot : SV := .agg [.tup []]
theorem bot1 {β : Names} {u : Value} (h : R1 β bot u) : False := by
  obtain ⟨ys, _, _, h, _⟩ := h
  obtain ⟨_, _, h⟩ := h 0 _ rfl
  exact h
/-- 'r' at the end is 'ret' under the names of the contract. -/
def subA (k : Nat) (src : List (Option Nat)) : SV → SV
  | .full p => if p < k then .full p else match src[p - k]? with | some (some q) => .full q | some none => .v (.slice none 0 0) | none => bot
  | .v x => .v x
  | .ptr p f => if p < k then .ptr p f else bot
  | .sl p l n => if p < k then .sl p l n else bot
  | _ => bot
def subB (k : Nat) (src : List (Option Nat)) : SV → SV
  | .agg xs => .agg (xs.map (subA k src))
  | s => subA k src s
def subS (k : Nat) (src : List (Option Nat)) : SV → SV
  | .tup xs => .tup (xs.map (subB k src))
  | s => subB k src s
theorem R1_cases {β : Names} {u : Value} {s : SV} (h : R1 β s u) : one β s u ∨ ∃ xs, s = .agg xs := by
  cases s <;> first | exact .inl h | exact .inr ⟨_, rfl⟩
theorem R_cases {β : Names} {u : Value} {s : SV} (h : R β s u) : R1 β s u ∨ ∃ xs, s = .tup xs := by
  cases s <;> first | exact .inl h | exact .inr ⟨_, rfl⟩
theorem subA_agg {k : Nat} {src : List (Option Nat)} {s : SV} {xs : List SV} (h : subA k src s = .agg xs) : subA k src s = bot := by
  rw [h]
  cases s <;> simp only [subA] at h <;> (repeat' split at h) <;> first | (cases h; done) | (rw [← h]; rfl) | (rw [← h])
theorem subA_tup {k : Nat} {src : List (Option Nat)} {s : SV} {xs : List SV} (h : subA k src s = .tup xs) : False := by
  cases s <;> simp only [subA] at h <;> (repeat' split at h) <;> cases h
theorem subA_R1 {β : Names} {u : Value} {k : Nat} {src : List (Option Nat)} {s : SV} (h : R1 β (subA k src s) u) : one β (subA k src s) u := by
  rcases R1_cases h with h | ⟨xs, e⟩
  · exact h
  · rw [subA_agg e] at h; exact (bot1 h).elim
theorem subB_R {β : Names} {u : Value} {k : Nat} {src : List (Option Nat)} {s : SV} (h : R β (subB k src s) u) : R1 β (subB k src s) u := by
  rcases R_cases h with h | ⟨xs, e⟩
  · exact h
  · cases s <;> simp only [subB] at e <;> first | (cases e; done) | exact (subA_tup e).elim

def newsOK (S : St) (src : List (Option Nat)) : List (TypeId × RowC) → List (Option Nat) → Prop
  | [], [] => True
  | (t, c) :: l, some q :: s => (q, true, Chunk.row t c) ∈ S.H ∧ newsOK S src l s
  | (_, c) :: l, none :: s => c.len = 0 ∧ newsOK S src l s
  | _, _ => False

theorem newsOK_len {S : St} {src : List (Option Nat)} : ∀ {l : List (TypeId × RowC)} {s : List (Option Nat)}, newsOK S src l s → l.length = s.length
  | [], [], _ => rfl
  | (t, c) :: l, some q :: s, h => by simp [newsOK_len h.2]
  | (t, c) :: l, none :: s, h => by simp [newsOK_len h.2]
  | [], _ :: _, h => h.elim
  | _ :: _, [], h => h.elim

theorem newsOK_get {S : St} {src : List (Option Nat)} : ∀ {l : List (TypeId × RowC)} {s : List (Option Nat)}, newsOK S src l s → ∀ (i : Nat) t c, l[i]? = some (t, c) → ∃ x, s[i]? = some x ∧ match x with | some q => (q, true, Chunk.row t c) ∈ S.H | none => c.len = 0
  | [], [], _, i, t, c, hi => by simp at hi
  | (t, c) :: l, some q :: s, h, i, t', c', hi => by
    cases i with
    | zero => cases hi; exact ⟨_, rfl, h.1⟩
    | succ i => simpa using newsOK_get h.2 i t' c' (by simpa using hi)
  | (t, c) :: l, none :: s, h, i, t', c', hi => by
    cases i with
    | zero => cases hi; exact ⟨_, rfl, h.1⟩
    | succ i => simpa using newsOK_get h.2 i t' c' (by simpa using hi)
  | [], _ :: _, h, _, _, _, _ => h.elim
  | _ :: _, [], h, _, _, _, _ => h.elim

theorem mem_newH {k : Nat} {l : List (TypeId × RowC)} {p : Nat} {o : Bool} {ch : Chunk} (h : (p, o, ch) ∈ newH k l) : o = true ∧ ∃ i t c, l[i]? = some (t, c) ∧ p = k + i ∧ ch = .row t c := by
  induction l generalizing k with
  | nil => simp [newH] at h
  | cons x l ih =>
    obtain ⟨t, c⟩ := x
    simp only [newH, List.mem_cons] at h
    rcases h with h | h
    · cases h; exact ⟨rfl, 0, t, c, rfl, rfl, rfl⟩
    · obtain ⟨h1, i, t', c', h2, h3, h4⟩ := ih h
      exact ⟨h1, i + 1, t', c', by simpa using h2, by omega, h4⟩

theorem fin_of {H0 : Heap} {k : Nat} {ret r : SV} {news : List (TypeId × RowC)} {S : St} (src : List (Option Nat)) (hold : H0.all (fun x => !x.2.1) = true) (hn : newsOK S src news src) (hd : (src.filterMap id).Nodup) (hr : r = subS k src ret) : Fin C H0 k ret news r S := by
  intro β w u hini hs hle hk hR
  have hext : ∀ {p o c}, (p, o, c) ∈ H0 → o = false := fun {p o c} h => by simpa using List.all_eq_true.1 hold _ h
  have hsmall : ∀ {p o c}, (p, o, c) ∈ H0 → p < k := fun {p o c} h => by
    obtain ⟨r, e, _⟩ := hini.sat _ _ _ h
    rcases Nat.lt_or_ge p k with h | h
    · exact h
    · rw [hk p h] at e; cases e
  have hb0 : Le C.b0 (finN β k src news) := fun p r hp => by
    have : p < k := by
      rcases Nat.lt_or_ge p k with h | h
      · exact h
      · rw [hk p h] at hp; cases hp
    simp only [finN, this, if_true]; exact hle p r hp
  have hlen := newsOK_len hn
  have hlt : ∀ p, p < k → finN β k src news p = β p := fun p hp => by simp [finN, hp]
  have hge : ∀ i t c x, news[i]? = some (t, c) → src[i]? = some x → finN β k src news (k + i) = srcRef β c x := fun i t c x h1 h2 => by
    unfold finN
    rw [if_neg (by omega), show k + i - k = i by omega, h1, h2]
  have nilR : ∀ c : RowC, (⟨0, 0, true, 0, 0, c.sz⟩ : Ref).base = none := fun c => by simp [Ref.base]
  have hfoot : ∀ {p o c r}, (p, o, c) ∈ H0 → C.b0 p = some r → footC C.w0 r c = [] := fun {p o c r} hp hr => by
    cases hq : footC C.w0 r c with
    | nil => rfl
    | cons y ys =>
      have h1 := (hini.kid _ _ _ _ y hp hr (by rw [hq]; exact List.mem_cons_self)).1
      have h2 := hext hp
      rw [h1] at h2; cases h2
  have hkid : ∀ p o c r k', (p, o, c) ∈ newH k news ++ H0 → finN β k src news p = some r → k' ∈ footC w r c → o = true ∧ k' < w.heap.size ∧ (C.w0.heap.size ≤ k' ∨ C.X k') ∧
      (∀ q cq rq, (q, true, cq) ∈ newH k news ++ H0 → finN β k src news q = some rq → rq.nil = false → rq.blk ≠ k') ∧ (∀ q o' cq rq, (q, o', cq) ∈ newH k news ++ H0 → q ≠ p → finN β k src news q = some rq → k' ∉ footC w rq cq) := fun p o c r k' hp hr hk' => by
    exfalso
    rcases List.mem_append.1 hp with hp | hp
    · obtain ⟨_, i, t, c', _, _, rfl⟩ := mem_newH hp
      cases hk'
    · obtain rfl := hext hp
      obtain ⟨r2, e, s, l⟩ := hini.sat _ _ _ hp
      have := hb0 _ _ e
      rw [hr] at this; cases this
      simp only [Lies, Bool.false_eq_true, if_false] at l
      rw [foot_stay fun hso => hs.fr.block _ (l hso).1 (l hso).2, hfoot hp e] at hk'
      cases hk'
  refine ⟨finN β k src news, hb0, ⟨hs.fr, hs.xs, fun p o ch hp => ?_, fun p o c o' c' h1 h2 => ?_, fun p q cp cq rp rq hp hq hne hrp hrq hnp hnq => ?_, fun p o c r k' hp hr hk' => hkid p o c r k' hp hr hk'⟩, fun p hp => ?_, ?_⟩
  · rcases List.mem_append.1 hp with hp | hp
    · obtain ⟨rfl, i, t, c, h1, rfl, rfl⟩ := mem_newH hp
      obtain ⟨x, h2, h3⟩ := newsOK_get hn i t c h1
      rw [hge i t c x h1 h2]
      cases x with
      | some q =>
        obtain ⟨rq, e, s, l⟩ := hs.sat _ _ _ h3
        exact ⟨rq, e, s, l⟩
      | none =>
        have h3 : c.len = 0 := h3
        refine ⟨_, rfl, ⟨h3.symm, rfl, by rw [h3]; exact Nat.le_refl _, fun _ => rfl, fun i hi => by omega, fun _ h => by cases h⟩, ?_⟩
        simp only [Lies, if_true]; intro h; cases h
    · obtain rfl := hext hp
      obtain ⟨r, e, s, l⟩ := hini.sat _ _ _ hp
      refine ⟨r, hb0 _ _ e, SatC_same hb0 (fun hso => ?_) (fun k hk => by rw [hfoot hp e] at hk; cases hk) s, ?_⟩
      · have hso : solid r ch := hso.resolve_right (by simp)
        simp only [Lies, Bool.false_eq_true, if_false] at l
        exact hs.fr.block _ (l hso).1 (l hso).2
      · simpa only [Lies, Bool.false_eq_true, if_false] using l
  · rcases List.mem_append.1 h1 with h1 | h1 <;> rcases List.mem_append.1 h2 with h2 | h2
    · rw [(mem_newH h1).1, (mem_newH h2).1]
    · obtain ⟨_, i, _, _, _, e, _⟩ := mem_newH h1
      have := hsmall h2; omega
    · obtain ⟨_, i, _, _, _, e, _⟩ := mem_newH h2
      have := hsmall h1; omega
    · rw [hext h1, hext h2]
  · have own : ∀ {p c}, (p, true, c) ∈ newH k news ++ H0 → (p, true, c) ∈ newH k news := fun {p c} h => by
      rcases List.mem_append.1 h with h | h
      · exact h
      · have := hext h; cases this
    obtain ⟨_, i, t, c, h1, rfl, rfl⟩ := mem_newH (own hp)
    obtain ⟨_, j, t', c', h1', rfl, rfl⟩ := mem_newH (own hq)
    obtain ⟨x, h2, h3⟩ := newsOK_get hn i t c h1
    obtain ⟨x', h2', h3'⟩ := newsOK_get hn j t' c' h1'
    rw [hge i t c x h1 h2] at hrp
    rw [hge j t' c' x' h1' h2'] at hrq
    cases x with
    | none => cases hrp; cases hnp
    | some q1 =>
      cases x' with
      | none => cases hrq; cases hnq
      | some q2 =>
        refine hs.apart q1 q2 _ _ rp rq h3 h3' (fun e => ?_) hrp hrq hnp hnq
        subst e
        have hij : i ≠ j := fun e => hne (by rw [e])
        exact absurd hd (fun hd => by
          have : ∀ (l : List (Option Nat)) (i j q : Nat), l[i]? = some (some q) → l[j]? = some (some q) → i < j → ¬ (l.filterMap id).Nodup := by
            intro l
            induction l with
            | nil => intro i j q h; simp at h
            | cons a l ih =>
              intro i j q h1 h2 hlt hnd
              cases i with
              | zero =>
                cases h1
                obtain ⟨j, rfl⟩ : ∃ m, j = m + 1 := ⟨j - 1, by omega⟩
                simp only [List.filterMap_cons, id, List.nodup_cons] at hnd
                exact hnd.1 (List.mem_filterMap.2 ⟨some q, List.mem_of_getElem? (by simpa using h2), rfl⟩)
              | succ i =>
                obtain ⟨j, rfl⟩ : ∃ m, j = m + 1 := ⟨j - 1, by omega⟩
                refine ih i j q (by simpa using h1) (by simpa using h2) (by omega) ?_
                cases a with
                | none => simpa using hnd
                | some a => simp only [List.filterMap_cons, id, List.nodup_cons] at hnd; exact hnd.2
          rcases Nat.lt_or_gt_of_ne hij with h | h
          · exact this src i j q1 h2 h2' h hd
          · exact this src j i q1 h2' h2 h hd)
  · unfold finN
    rw [if_neg (by omega), List.getElem?_eq_none (by omega)]
  · have hA : ∀ s u, one β (subA k src s) u → one (finN β k src news) s u := fun s u h => by
      cases s <;> simp only [subA] at h
      case v => exact h
      case full p =>
        split at h
        · rename_i hp
          obtain ⟨r, e, hy⟩ := h
          exact ⟨r, by rw [hlt p hp]; exact e, hy⟩
        · rename_i hp
          split at h
          · rename_i q hq
            have hlt2 : p - k < news.length := by rw [hlen]; exact (List.getElem?_eq_some_iff.1 hq).1
            obtain ⟨⟨t, c⟩, hc⟩ : ∃ x, news[p - k]? = some x := ⟨_, List.getElem?_eq_getElem hlt2⟩
            obtain ⟨r, e, hy⟩ := h
            have := hge (p - k) t c _ hc hq
            rw [show k + (p - k) = p by omega] at this
            exact ⟨r, by rw [this]; exact e, hy⟩
          · rename_i hq
            have hlt2 : p - k < news.length := by rw [hlen]; exact (List.getElem?_eq_some_iff.1 hq).1
            obtain ⟨⟨t, c⟩, hc⟩ : ∃ x, news[p - k]? = some x := ⟨_, List.getElem?_eq_getElem hlt2⟩
            have := hge (p - k) t c _ hc hq
            rw [show k + (p - k) = p by omega] at this
            obtain rfl : u = _ := h
            exact ⟨_, by rw [this]; rfl, by simp [Ref.base]⟩
          · exact h.elim
      case ptr p f =>
        split at h
        · rename_i hp
          obtain ⟨r, e, hy⟩ := h
          exact ⟨r, by rw [hlt p hp]; exact e, hy⟩
        · exact h.elim
      case sl p l n =>
        split at h
        · rename_i hp
          obtain ⟨r, e, hy⟩ := h
          exact ⟨r, by rw [hlt p hp]; exact e, hy⟩
        · exact h.elim
      all_goals exact h.elim
    have hB : ∀ s u, R1 β (subB k src s) u → R1 (finN β k src news) s u := fun s u h => by
      cases s
      case agg xs =>
        obtain ⟨ys, h1, h2, h3, h4⟩ := h
        refine ⟨ys, h1, by simpa using h2, fun i s hi => ?_, h4⟩
        obtain ⟨u, a, b⟩ := h3 i (subA k src s) (by simp [hi])
        exact ⟨u, a, hA s u b⟩
      all_goals
        simp only [subB] at h
        have := hA _ u (subA_R1 h)
        exact this
    rw [hr] at hR
    cases ret
    case tup xs =>
      obtain ⟨ys, h1, h2, h3⟩ := hR
      refine ⟨ys, h1, by simpa using h2, fun i s hi => ?_⟩
      obtain ⟨u, a, b⟩ := h3 i (subB k src s) (by simp [hi])
      exact ⟨u, a, hB s u b⟩
    all_goals
      simp only [subS] at hR
      exact hB _ u (subB_R hR)

end
end E
end Go.Proofs.Ytlkchnfgeedghaa
