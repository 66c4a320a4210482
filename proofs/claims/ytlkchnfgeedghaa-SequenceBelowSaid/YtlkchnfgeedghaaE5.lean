/- The executor over regions and code, and that what it says holds of the model. It states nothing about the program. -/
import Derived.Test.YtlkchnfgeedghaaE4
import Derived.Scope
namespace Go.Proofs.Ytlkchnfgeedghaa
namespace E
open Go

/-! stores -/
def setCells : RowC → Nat → Nat → List SV → Option RowC
  | c, _, _, [] => some c
  | c, i, f, .v u :: xs => match c.setCell i f u with | some c' => setCells c' i (f + 1) xs | none => none
  | _, _, _, _ :: _ => none

structure Stored where
  side : Prop
  H : Heap

def stO (T : Tys) (H : Heap) (t : TypeId) (x y : SV) : Option Stored :=
  match flat y, T t with
  | some xs, some ti =>
    if xs.length = ti.size ∧ 0 < xs.length then
      match x with
      | .ptr p f =>
        match get p H with
        | some (true, .box tid cs) => match layO cs f xs with | some cs' => some ⟨True, setC p (.box tid cs') H⟩ | none => none
        | _ => none
      | .eptr p i f =>
        match get p H with
        | some (true, .row tid c) => match setCells c i f xs with | some c' => some ⟨i < c.len, setC p (.row tid c') H⟩ | none => none
        | _ => none
      | _ => none
    else none
  | _, _ => none

/-! building -/
def fillO (place : Nat → Option (Nat × Nat)) (cells : List SV) : List (Nat × SV) → Option (List SV)
  | [] => some cells
  | (i, v) :: rest =>
    match place i, flat v with
    | some (off, n), some xs => if xs.length = n then (layO cells off xs).bind fun c => fillO place c rest else none
    | _, _ => none

def RowC.push : RowC → List SV → Option RowC
  | .ints k l, [.v (.int k' x)] => if k = k' then some (.ints k (l ++ [x])) else none
  | .cell l, [.v (.int .i64 a), .v (.int .i64 b), .v (.int .i64 c), .v (.int .i64 d), .v (.int .i64 e), .v (.int .i64 f), .v (.int .i64 g), .v (.string s), .v (.bool h)] => some (.cell (l ++ [⟨⟨a, b, c⟩, ⟨d, e, f⟩, g, s, h⟩]))
  | .strs l, [.v (.string s)] => some (.strs (l ++ [s]))
  | .ids l, [.v (.int .i64 a), .v (.int .i64 b), .v (.int .i64 c)] => some (.ids (l ++ [⟨a, b, c⟩]))
  | .dots l, [.v (.int .i64 a), .v (.int .i64 b)] => some (.dots (l ++ [⟨a, b⟩]))
  | .marks l, [.v (.int .i64 a), .v (.int .i64 b), .v (.int .i64 c), .v (.int .i64 d), .v (.int .i64 e), .v (.int .i64 f), .v (.int .i64 g), .v (.int .i64 h), .v (.int .i64 i), .v (.int .i64 j), .v (.bool k)] => some (.marks (l ++ [⟨⟨a, b⟩, c, ⟨d, e, f⟩, ⟨g, h, i⟩, j, k⟩]))
  | .ivals l, [.v (.int .i64 a), .v (.int .i64 b), .v (.int .i64 c), .v (.int .i64 d), .v (.int .i64 e), .v (.int .i64 f), .v (.int .i64 g), .v (.int .i64 h), .v (.int .i64 i), .v (.int .i64 j), .v (.bool k), .v (.int .i64 x), .v (.int .i64 y)] => some (.ivals (l ++ [⟨⟨⟨a, b⟩, c, ⟨d, e, f⟩, ⟨g, h, i⟩, j, k⟩, x, y⟩]))
  | .vals l, [.v (.int .i64 a), .v (.int .i64 b), .v (.string s), .v u] => if u.oneCell' = true then some (.vals (l ++ [⟨a, b, s, OneV.of u⟩])) else none
  | .raw l, [.v u] => if u.oneCell' = true then some (.raw (l ++ [OneV.of u])) else none
  | _, _ => none

def RowC.nil : EK → Option RowC
  | .ints k => some (.ints k [])
  | .cell => some (.cell [])
  | .strs => some (.strs [])
  | .ids => some (.ids [])
  | .dots => some (.dots [])
  | .marks => some (.marks [])
  | .ivals => some (.ivals [])
  | .vals => some (.vals [])
  | .raw => some (.raw [])
  | .none => none

/-- The row of a slice literal, its parts in order from i on. -/
def pushAll : RowC → Nat → List (Nat × SV) → Option RowC
  | c, _, [] => some c
  | c, i, (j, v) :: rest => if i = j then match flat v with | some xs => (c.push xs).bind fun c' => pushAll c' (i + 1) rest | none => none else none

/-! pauses -/
def PutD (S : St) (d : Option Tmp) (r : SV) : St :=
  match d with
  | some d => { S with ts := upd S.ts d r }
  | none => S

/-- An operation that the executor leaves to a lemma. -/
structure OpP (C : Cx) (o : Oper) (S : St) (K : SV → St → Prop) : Prop where
  out : ∀ β a w, Sat C β S a w → ∀ next Q, (∀ β' r u S' w', Sat C β' S' a w' → R β' r u → K r S' → next (a.put o.dst u) w') → o.wp C.P a w next Q

def RL (β : Names) (args : List SV) (vs : List Value) : Prop := vs.length = args.length ∧ ∀ (i : Nat) (s : SV), args[i]? = some s → ∃ u, vs[i]? = some u ∧ R β s u

def Enters (P : Program) (f : FuncId) : Prop := ∃ fn, P.funcs[f]? = some fn ∧ (fn.name == "runtime.NumGoroutine") = false ∧ fn.body.isNone = false

/-- A call that the executor leaves to a lemma. -/
structure CallP (C : Cx) (f : FuncId) (args : List SV) (S : St) (K : SV → St → Prop) : Prop where
  out : ∀ β a w, Sat C β S a w → ∀ vs, RL β args vs → (Enters C.P f ∧ Calls C.P f vs.toArray w fun e w' => ∃ β' r u S', e = .returned u ∧ Sat C β' S' a w' ∧ R β' r u ∧ K r S') ∨
    ∃ β' r u S' w', (callFunc f vs.toArray).run C.P w = .ok (.value u) w' ∧ Sat C β' S' a w' ∧ R β' r u ∧ K r S'
theorem CallP.of {C : Cx} {f : FuncId} {args : List SV} {S : St} {K : SV → St → Prop} (enters : Enters C.P f)
    (out : ∀ β a w, Sat C β S a w → ∀ vs, RL β args vs → Calls C.P f vs.toArray w fun e w' => ∃ β' r u S', e = .returned u ∧ Sat C β' S' a w' ∧ R β' r u ∧ K r S') : CallP C f args S K :=
  ⟨fun β a w hs vs hv => .inl ⟨enters, out β a w hs vs hv⟩⟩

def goRs (C : Cx) (o : Oper) (S : St) (K : SV → St → Prop) : Rs → Prop
  | .bad => OpP C o S K
  | .ok s => K s S
  | .side c s => c ∧ K s S

def lenK (T : Tys) (H : Heap) (t : TypeId) (x : SV) : Option Nat :=
  match (T t).map TI.k, x with
  | some (TK.slice _ _ _), .full p =>
    match get p H with
    | some (_, .row _ c) => some c.len
    | _ => none
  | some (TK.slice _ _ _), .sl _ _ n => some n
  | some (TK.slice _ _ _), .v (.slice none n _) => some n
  | some TK.str, .v (.string s) => some s.size
  | _, _ => none

def goCall (C : Cx) (T : Tys) (o : Oper) (S : St) (K : SV → St → Prop) (c : Call) : Prop :=
  match c.callee with
  | .builtin .len =>
    match c.args.toList, c.argTypes.toList with
    | [x], [t] =>
      match lenK T S.H t (S.ev x) with
      | some n => K (.v (.int .i64 n)) S
      | none => OpP C o S K
    | _, _ => OpP C o S K
  | .value f =>
    match S.ev f with
    | .clo g cs => CallP C g (c.args.toList.map S.ev ++ cs.map (fun p => .ptr p 0)) S K
    | _ => OpP C o S K
  | _ => OpP C o S K

def goNew (S : St) (K : SV → St → Prop) (ch : Chunk) (r : SV) : Prop := K r { S with H := (S.nx, true, ch) :: S.H, nx := S.nx + 1 }

def step (C : Cx) (T : Tys) (wr : List Nat) (o : Oper) (S : St) (K : SV → St → Prop) : Prop :=
  match o.op with
  | .load t x => goRs C o S K (ld T S.H t (S.ev x))
  | .store t x y =>
    match stO T S.H t (S.ev x) (S.ev y) with
    | some ⟨c, H⟩ => c ∧ K .junk { S with H := H }
    | none => OpP C o S K
  | .box t x =>
    match flat (S.ev x) with
    | some xs => goNew S K (.box t xs) (.ptr S.nx 0)
    | none => OpP C o S K
  | .alloc t =>
    match T t with
    | some i => goNew S K (.box t (i.zero.map .v)) (.ptr S.nx 0)
    | none => OpP C o S K
  | .buildSlice t n parts =>
    match (T t).map TI.k with
    | some (TK.slice e esz ek) =>
      match (RowC.nil ek).bind fun c => pushAll c 0 (parts.toList.map fun p => (p.1, S.ev p.2)) with
      | some c => if n = parts.size ∧ c.sz = esz ∧ n * esz ≤ 16777216 ∧ (n = 0 ∨ (T e).isSome = true) then goNew S K (.row e c) (.full S.nx) else OpP C o S K
      | none => OpP C o S K
    | _ => OpP C o S K
  | .build t parts =>
    match (T t).map (fun i => (i.k, i.zero)) with
    | some (TK.struct fs, z) =>
      match fillO (fun i => (fs[i]?).map fun f => (f.1, f.2.2)) (z.map .v) (parts.toList.map fun p => (p.1, S.ev p.2)) with
      | some xs => if fs.all (fun f => f.2.2 != 0) then K (.agg xs) S else OpP C o S K
      | none => OpP C o S K
    | _ => OpP C o S K
  | .call c => goCall C T o S K c
  | .slice t x none (some h) none => goRs C o S K (pur T false S (.slice t x none (some h) none)) ∨ OpP C o S K
  | op => goRs C o S K (pur T (match o.dst with | some d => wr.contains d | none => false) S op)

mutual
def sops (C : Cx) (T : Tys) (wr : List Nat) (all : Array Oper) : List Oper → St → (St → Prop) → Prop
  | [], S, K => K S
  | o :: os, S, K =>
    match o.guard with
    | none => step C T wr o S (fun r S' => sops C T wr all os (PutD S' o.dst r) K)
    | some (j, want) =>
      match (all[j]?).bind (·.dst) with
      | none => False
      | some d =>
        match nth S.ts d with
        | .v (.bool b) => (b = want → step C T wr o { S with ts := upd S.ts d (.v (.bool want)) } (fun r S' => sops C T wr all os (PutD S' o.dst r) K)) ∧
            (b = !want → sops C T wr all os (PutD { S with ts := upd S.ts d (.v (.bool !want)) } o.dst (.v (.tuple #[]))) K)
        | .v (.tuple ⟨[]⟩) => sops C T wr all os (PutD S o.dst (.v (.tuple #[]))) K
        | _ => False
end

/-- The rest of a region, behind an operation. -/
structure OpsK (C : Cx) (T : Tys) (wr : List Nat) (all : Array Oper) (os : List Oper) (d : Option Tmp) (K : St → Prop) (r : SV) (S : St) : Prop where
  run : sops C T wr all os (PutD S d r) K
theorem OpsK_fun (C : Cx) (T : Tys) (wr : List Nat) (all : Array Oper) (os : List Oper) (d : Option Tmp) (K : St → Prop) : (fun r S => sops C T wr all os (PutD S d r) K) = OpsK C T wr all os d K :=
  funext fun _ => funext fun _ => propext ⟨fun h => ⟨h⟩, fun h => h.run⟩

theorem sops_nil (C : Cx) (T : Tys) (wr : List Nat) (all : Array Oper) (S : St) (K : St → Prop) : sops C T wr all [] S K = K S := by rw [sops]

theorem sops_cons {C : Cx} {T : Tys} {wr : List Nat} {all : Array Oper} {o : Oper} {os : List Oper} {S : St} {K : St → Prop} (hg : o.guard = none) :
    sops C T wr all (o :: os) S K = step C T wr o S (OpsK C T wr all os o.dst K) := by
  rw [sops, hg]; simp only [OpsK_fun]

theorem sops_guard {C : Cx} {T : Tys} {wr : List Nat} {all : Array Oper} {o : Oper} {os : List Oper} {S : St} {K : St → Prop} {j d : Nat} {want b : Bool} (hg : o.guard = some (j, want)) (hd : (all[j]?).bind (·.dst) = some d)
    (hb : nth S.ts d = .v (.bool b)) :
    sops C T wr all (o :: os) S K = ((b = want → step C T wr o { S with ts := upd S.ts d (.v (.bool want)) } (OpsK C T wr all os o.dst K)) ∧
      (b = !want → sops C T wr all os (PutD { S with ts := upd S.ts d (.v (.bool !want)) } o.dst (.v (.tuple #[]))) K)) := by
  rw [sops, hg]; simp only [hd, hb, OpsK_fun]

structure CodeP (C : Cx) (c : Code) (S : St) (Q : Exit → St → Prop) : Prop where
  out : ∀ β a w, Sat C β S a w → c.wp C.P (fun e a' w' => ∃ β' S', Sat C β' S' a' w' ∧ Q e S') a w

def NormK (Q : Exit → St → Prop) (S : St) : Prop := Q .normal S
def BlockK (id : Nat) (Q : Exit → St → Prop) (e : Exit) (S : St) : Prop :=
  match e with
  | .exit id' => if id' = id then Q .normal S else Q (.exit id') S
  | e => Q e S
def ScopeK (Q : Exit → St → Prop) (e : Exit) (S : St) : Prop :=
  match e with
  | .goto _ => False
  | e => Q e S

def Ex (C : Cx) (T : Tys) (wr : List Nat) : Code → St → (Exit → St → Prop) → Prop
  | .skip, S, Q => Q .normal S
  | .region id ops draw, S, Q => match draw with
    | false => sops C T wr ops ops.toList S (NormK Q)
    | true => CodeP C (.region id ops true) S Q
  | .seq a b, S, Q => Ex C T wr a S (fun e S' => match e with | .normal => Ex C T wr b S' Q | e => Q e S')
  | .cond c a b, S, Q => match S.ev c with
    | .v (.bool t) => (t = true → Ex C T wr a S Q) ∧ (t = false → Ex C T wr b S Q)
    | _ => CodeP C (.cond c a b) S Q
  | .block id c, S, Q => Ex C T wr c S (BlockK id Q)
  | .exit id, S, Q => Q (.exit id) S
  | .ret, S, Q => Q .ret S
  | .label _, S, Q => Q .normal S
  | .scope c, S, Q => Ex C T wr c S (ScopeK Q)
  | c, S, Q => CodeP C c S Q

/-- What stands behind the first of two. -/
def SeqK (C : Cx) (T : Tys) (wr : List Nat) (b : Code) (Q : Exit → St → Prop) (e : Exit) (S : St) : Prop :=
  match e with
  | .normal => Ex C T wr b S Q
  | e => Q e S
/-- A branch that has not been entered. -/
def Br (C : Cx) (T : Tys) (wr : List Nat) (c : Code) (S : St) (Q : Exit → St → Prop) : Prop := Ex C T wr c S Q

section
variable {C : Cx} {T : Tys} {wr : List Nat}
theorem Ex_skip (S : St) (Q : Exit → St → Prop) : Ex C T wr .skip S Q = Q .normal S := rfl
theorem Ex_region (id : Nat) (ops : Array Oper) (S : St) (Q : Exit → St → Prop) : Ex C T wr (.region id ops false) S Q = sops C T wr ops ops.toList S (NormK Q) := rfl
theorem Ex_draw (id : Nat) (ops : Array Oper) (S : St) (Q : Exit → St → Prop) : Ex C T wr (.region id ops true) S Q = CodeP C (.region id ops true) S Q := rfl
theorem Ex_seq (a b : Code) (S : St) (Q : Exit → St → Prop) : Ex C T wr (.seq a b) S Q = Ex C T wr a S (SeqK C T wr b Q) := rfl
theorem Ex_block (id : Nat) (c : Code) (S : St) (Q : Exit → St → Prop) : Ex C T wr (.block id c) S Q = Ex C T wr c S (BlockK id Q) := rfl
theorem Ex_exit (id : Nat) (S : St) (Q : Exit → St → Prop) : Ex C T wr (.exit id) S Q = Q (.exit id) S := rfl
theorem Ex_ret (S : St) (Q : Exit → St → Prop) : Ex C T wr .ret S Q = Q .ret S := rfl
theorem Ex_label (l : Nat) (S : St) (Q : Exit → St → Prop) : Ex C T wr (.label l) S Q = Q .normal S := rfl
theorem Ex_scope (c : Code) (S : St) (Q : Exit → St → Prop) : Ex C T wr (.scope c) S Q = Ex C T wr c S (ScopeK Q) := rfl
theorem Ex_loop (c : Code) (S : St) (Q : Exit → St → Prop) : Ex C T wr (.loop c) S Q = CodeP C (.loop c) S Q := rfl
theorem Ex_cond {c : Operand} {S : St} {t : Bool} (h : S.ev c = .v (.bool t)) (a b : Code) (Q : Exit → St → Prop) : Ex C T wr (.cond c a b) S Q = ((t = true → Br C T wr a S Q) ∧ (t = false → Br C T wr b S Q)) := by
  show (match S.ev c with | .v (.bool t) => (t = true → Ex C T wr a S Q) ∧ (t = false → Ex C T wr b S Q) | _ => CodeP C (.cond c a b) S Q) = _
  rw [h]; rfl
theorem SeqK_normal (b : Code) (S : St) (Q : Exit → St → Prop) : SeqK C T wr b Q .normal S = Ex C T wr b S Q := rfl
theorem SeqK_exit (b : Code) (S : St) (Q : Exit → St → Prop) (id : Nat) : SeqK C T wr b Q (.exit id) S = Q (.exit id) S := rfl
theorem SeqK_ret (b : Code) (S : St) (Q : Exit → St → Prop) : SeqK C T wr b Q .ret S = Q .ret S := rfl
theorem BlockK_normal (id : Nat) (S : St) (Q : Exit → St → Prop) : BlockK id Q .normal S = Q .normal S := rfl
theorem BlockK_exit (id id' : Nat) (S : St) (Q : Exit → St → Prop) : BlockK id Q (.exit id') S = if id' = id then Q .normal S else Q (.exit id') S := rfl
theorem BlockK_ret (id : Nat) (S : St) (Q : Exit → St → Prop) : BlockK id Q .ret S = Q .ret S := rfl
theorem ScopeK_normal (S : St) (Q : Exit → St → Prop) : ScopeK Q .normal S = Q .normal S := rfl
theorem ScopeK_exit (id : Nat) (S : St) (Q : Exit → St → Prop) : ScopeK Q (.exit id) S = Q (.exit id) S := rfl
theorem ScopeK_ret (S : St) (Q : Exit → St → Prop) : ScopeK Q .ret S = Q .ret S := rfl
end

end E
end Go.Proofs.Ytlkchnfgeedghaa
