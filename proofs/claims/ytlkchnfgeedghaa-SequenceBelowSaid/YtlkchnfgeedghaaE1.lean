/- The symbolic memory and the values of a small executor for Go code: definitions and their first laws. It states nothing about the program. -/
import Derived.Deep.Quiet
import Derived.Laws.Sem
import Derived.Laws.World
import Derived.Laws.Rows
import Derived.Laws.Slices
import Derived.Laws.Entries
import Derived.Below
import Derived.Tactics
import Derived.KernelRfl
namespace Go.Proofs.Ytlkchnfgeedghaa
namespace E
open Go

structure Id3 where
  dev : Int
  seq : Int
  pos : Int
deriving Inhabited, DecidableEq

structure Cell where
  id : Id3
  after : Id3
  time : Int
  val : ByteArray
  gone : Bool
deriving Inhabited, DecidableEq

structure Dot2 where
  dev : Int
  seq : Int
deriving Inhabited, DecidableEq
structure Mark where
  dot : Dot2
  time : Int
  lo : Id3
  hi : Id3
  style : Int
  on : Bool
deriving Inhabited, DecidableEq
structure Ival where
  m : Mark
  a : Int
  b : Int
deriving Inhabited, DecidableEq
/-- A value of one cell. -/
structure OneV where
  v : Value
  one : v.oneCell' = true
instance : Inhabited OneV := ⟨⟨.slice none 0 0, rfl⟩⟩
def OneV.of (u : Value) : OneV := if h : u.oneCell' = true then ⟨u, h⟩ else default
theorem OneV.of_v {u : Value} (h : u.oneCell' = true) : (OneV.of u).v = u := by unfold OneV.of; rw [dif_pos h]
theorem OneV.ext {a b : OneV} (h : a.v = b.v) : a = b := by cases a; cases b; simp at h; subst h; rfl
structure Val4 where
  kind : Int
  n : Int
  s : ByteArray
  sub : OneV
deriving Inhabited

/-- A row of elements, by their kind. -/
inductive RowC where
  | ints (k : IntKind) (l : List Int)
  | cell (l : List Cell)
  | strs (l : List ByteArray)
  | ids (l : List Id3)
  | dots (l : List Dot2)
  | marks (l : List Mark)
  | ivals (l : List Ival)
  | vals (l : List Val4)
  | raw (l : List OneV)

namespace RowC
def len : RowC → Nat
  | ints _ l => l.length
  | cell l => l.length
  | strs l => l.length
  | ids l => l.length
  | dots l => l.length
  | marks l => l.length
  | ivals l => l.length
  | vals l => l.length
  | raw l => l.length
def sz : RowC → Nat
  | ints _ _ => 1
  | cell _ => 9
  | strs _ => 1
  | ids _ => 3
  | dots _ => 2
  | marks _ => 11
  | ivals _ => 13
  | vals _ => 4
  | raw _ => 1
def get : RowC → Nat → List Value
  | ints k l, i => [.int k (l.getD i 0)]
  | cell l, i => [.int .i64 (l.getD i default).id.dev, .int .i64 (l.getD i default).id.seq, .int .i64 (l.getD i default).id.pos, .int .i64 (l.getD i default).after.dev, .int .i64 (l.getD i default).after.seq, .int .i64 (l.getD i default).after.pos, .int .i64 (l.getD i default).time, .string (l.getD i default).val, .bool (l.getD i default).gone]
  | strs l, i => [.string (l.getD i default)]
  | ids l, i => [.int .i64 (l.getD i default).dev, .int .i64 (l.getD i default).seq, .int .i64 (l.getD i default).pos]
  | dots l, i => [.int .i64 (l.getD i default).dev, .int .i64 (l.getD i default).seq]
  | marks l, i => [.int .i64 (l.getD i default).dot.dev, .int .i64 (l.getD i default).dot.seq, .int .i64 (l.getD i default).time, .int .i64 (l.getD i default).lo.dev, .int .i64 (l.getD i default).lo.seq, .int .i64 (l.getD i default).lo.pos, .int .i64 (l.getD i default).hi.dev, .int .i64 (l.getD i default).hi.seq, .int .i64 (l.getD i default).hi.pos, .int .i64 (l.getD i default).style, .bool (l.getD i default).on]
  | ivals l, i => [.int .i64 (l.getD i default).m.dot.dev, .int .i64 (l.getD i default).m.dot.seq, .int .i64 (l.getD i default).m.time, .int .i64 (l.getD i default).m.lo.dev, .int .i64 (l.getD i default).m.lo.seq, .int .i64 (l.getD i default).m.lo.pos, .int .i64 (l.getD i default).m.hi.dev, .int .i64 (l.getD i default).m.hi.seq, .int .i64 (l.getD i default).m.hi.pos, .int .i64 (l.getD i default).m.style, .bool (l.getD i default).m.on, .int .i64 (l.getD i default).a, .int .i64 (l.getD i default).b]
  | vals l, i => [.int .i64 (l.getD i default).kind, .int .i64 (l.getD i default).n, .string (l.getD i default).s, (l.getD i default).sub.v]
  | raw l, i => [(l.getD i default).v]
def setCell : RowC → Nat → Nat → Value → Option RowC
  | ints k l, i, 0, .int k' x => if k = k' then some (ints k (l.set i x)) else none
  | cell l, i, 8, .bool b => some (cell (l.set i { l.getD i default with gone := b }))
  | vals l, i, 2, .string s => some (vals (l.set i { l.getD i default with s := s }))
  | _, _, _, _ => none
theorem get_length (c : RowC) (i : Nat) : (c.get i).length = c.sz := by cases c <;> rfl
theorem sz_pos (c : RowC) : 0 < c.sz := by cases c <;> simp [sz]
theorem get_one (c : RowC) (i : Nat) : ∀ v ∈ c.get i, v.oneCell' = true := by
  cases c
  case raw l => intro v hv; simp [get] at hv; subst hv; exact (l.getD i default).one
  case vals l =>
    intro v hv
    simp only [get, List.mem_cons, List.not_mem_nil, or_false] at hv
    rcases hv with rfl | rfl | rfl | rfl
    · rfl
    · rfl
    · rfl
    · exact (l.getD i default).sub.one
  all_goals simp [get, Value.oneCell']
theorem setCell_sz {c c' : RowC} {i q : Nat} {v : Value} (h : c.setCell i q v = some c') : c'.sz = c.sz ∧ c'.len = c.len ∧ q < c.sz ∧ v.oneCell' = true := by
  unfold setCell at h
  split at h <;> (try split at h) <;> simp at h <;> subst h <;> simp_all [sz, len, Value.oneCell']
theorem setCell_get {c c' : RowC} {i q : Nat} {v : Value} (h : c.setCell i q v = some c') (hi : i < c.len) (j r : Nat) (hj : j < c.len) :
    (c'.get j)[r]? = if j = i ∧ r = q then some v else (c.get j)[r]? := by
  unfold setCell at h
  split at h <;> (try split at h) <;> simp at h <;> subst h <;> (try subst_vars) <;> simp only [len] at hi hj
  all_goals
    by_cases e : j = i
    · subst e
      rcases r with _ | _ | _ | _ | _ | _ | _ | _ | _ | r <;> simp [get, List.getD, hi]
    · have e' : ¬ i = j := fun h => e h.symm
      simp [get, List.getD, e, e']
/-- Of the same kind. -/
def like : RowC → RowC → Prop
  | ints k _, ints k' _ => k = k'
  | cell _, cell _ => True
  | strs _, strs _ => True
  | ids _, ids _ => True
  | dots _, dots _ => True
  | marks _, marks _ => True
  | ivals _, ivals _ => True
  | vals _, vals _ => True
  | raw _, raw _ => True
  | _, _ => False
def bare : RowC → RowC
  | ints k _ => ints k []
  | cell _ => cell []
  | strs _ => strs []
  | ids _ => ids []
  | dots _ => dots []
  | marks _ => marks []
  | ivals _ => ivals []
  | vals _ => vals []
  | raw _ => raw []
theorem like_sz {c d : RowC} (h : like c d) : d.sz = c.sz := by
  cases c <;> cases d <;> first | rfl | exact h.elim
theorem bare_like (c : RowC) : like c c.bare := by cases c <;> first | rfl | trivial
theorem bare_len (c : RowC) : c.bare.len = 0 := by cases c <;> rfl
theorem setCell_like {c c' e : RowC} {i q : Nat} {v : Value} (h : c.setCell i q v = some c') (hl : like c e) : like c' e := by
  unfold setCell at h
  split at h <;> (try split at h) <;> simp at h <;> subst h <;> cases e <;> exact hl
end RowC

/-- A symbolic value. 'junk': nothing is known. -/
inductive SV where
  | junk
  | v (x : Value)
  | ptr (p f : Nat)
  | eptr (p i f : Nat)
  | full (p : Nat)
  | sl (p lo len : Nat)
  | clo (f : Nat) (caps : List Nat)
  | mp (p : Nat)
  | agg (xs : List SV)
  | tup (xs : List SV)

structure Ref where
  blk : Nat
  off : Nat
  nil : Bool
  cap : Nat
  n : Nat
  sz : Nat

def Ref.base (r : Ref) : Option Addr := if r.nil then none else some ⟨r.blk, r.off, none⟩
def Ref.from (r : Ref) (lo : Nat) : Option Addr := if r.nil then none else if r.cap = lo then some ⟨r.blk, r.off, none⟩ else some ⟨r.blk, r.off + lo * r.sz, none⟩

abbrev Names := Nat → Option Ref

def one (β : Names) : SV → Value → Prop
  | .junk, _ => True
  | .v x, y => y = x
  | .ptr p f, y => ∃ r, β p = some r ∧ y = .pointer (some ⟨r.blk, r.off + f, none⟩)
  | .eptr p i f, y => ∃ r, β p = some r ∧ y = .pointer (some ⟨r.blk, r.off + i * r.sz + f, none⟩)
  | .full p, y => ∃ r, β p = some r ∧ y = .slice r.base r.n r.cap
  | .sl p lo len, y => ∃ r, β p = some r ∧ lo + len ≤ r.cap ∧ y = .slice (r.from lo) len (r.cap - lo)
  | .clo f caps, y => ∃ ys : List Value, y = .func (.func f) #[] ys.toArray ∧ ys.length = caps.length ∧ ∀ (i p : Nat), caps[i]? = some p → ∃ r, β p = some r ∧ ys[i]? = some (Value.pointer (some ⟨r.blk, r.off, none⟩))
  | .mp p, y => ∃ r, β p = some r ∧ y = .map (some r.blk)
  | _, _ => False

/-- A value of one cell, or a struct. -/
def R1 (β : Names) : SV → Value → Prop
  | .agg xs, y => ∃ ys : List Value, y = .agg ys.toArray ∧ ys.length = xs.length ∧ (∀ (i : Nat) (s : SV), xs[i]? = some s → ∃ u, ys[i]? = some u ∧ one β s u) ∧ ∀ u ∈ ys, u.oneCell' = true
  | s, y => one β s y
/-- 'sv' stands for 'y'. -/
def R (β : Names) : SV → Value → Prop
  | .tup xs, y => ∃ ys : List Value, y = .tuple ys.toArray ∧ ys.length = xs.length ∧ ∀ (i : Nat) (s : SV), xs[i]? = some s → ∃ u, ys[i]? = some u ∧ R1 β s u
  | s, y => R1 β s y

def Le (β β' : Names) : Prop := ∀ p r, β p = some r → β' p = some r
theorem Le.refl (β : Names) : Le β β := fun _ _ h => h
theorem Le.trans {a b c : Names} (h : Le a b) (k : Le b c) : Le a c := fun p r hp => k p r (h p r hp)

theorem one_mono {β β' : Names} (h : Le β β') {s : SV} {y : Value} (hr : one β s y) : one β' s y := by
  cases s <;> (try simp only [one] at hr ⊢)
  case v => exact hr
  case ptr => obtain ⟨r, h1, h2⟩ := hr; exact ⟨r, h _ _ h1, h2⟩
  case eptr => obtain ⟨r, h1, h2⟩ := hr; exact ⟨r, h _ _ h1, h2⟩
  case full => obtain ⟨r, h1, h2⟩ := hr; exact ⟨r, h _ _ h1, h2⟩
  case sl => obtain ⟨r, h1, h2⟩ := hr; exact ⟨r, h _ _ h1, h2⟩
  case clo =>
    obtain ⟨ys, h1, h2, h3⟩ := hr
    exact ⟨ys, h1, h2, fun i p hp => let ⟨r, a, b⟩ := h3 i p hp; ⟨r, h _ _ a, b⟩⟩
  case mp => obtain ⟨r, h1, h2⟩ := hr; exact ⟨r, h _ _ h1, h2⟩

theorem R1_mono {β β' : Names} (h : Le β β') {s : SV} {y : Value} (hr : R1 β s y) : R1 β' s y := by
  cases s
  case agg xs =>
    obtain ⟨ys, h1, h2, h3, h4⟩ := hr
    exact ⟨ys, h1, h2, fun i s hs => let ⟨u, a, b⟩ := h3 i s hs; ⟨u, a, one_mono h b⟩, h4⟩
  all_goals (simp only [R1] at hr ⊢; exact one_mono h hr)

theorem R_mono {β β' : Names} (h : Le β β') {s : SV} {y : Value} (hr : R β s y) : R β' s y := by
  cases s
  case tup xs =>
    obtain ⟨ys, h1, h2, h3⟩ := hr
    exact ⟨ys, h1, h2, fun i s hs => let ⟨u, a, b⟩ := h3 i s hs; ⟨u, a, R1_mono h b⟩⟩
  all_goals (simp only [R] at hr ⊢; exact R1_mono h hr)

/-- What a slice or map that is never changed again holds. -/
inductive Froz where
  | row (t : TypeId) (c : RowC)
  | map (l : List (List Int × Value))

inductive Chunk where
  | box (tid : TypeId) (cs : List SV)
  | row (tid : TypeId) (c : RowC)
  | cap (p n : Nat)
  | mp (l : List (List Int × Value))
  | kids (t : TypeId) (l : List (List Int × RowC)) (out : List Nat)
  | pool (l : List (Value × Froz))
  | iter (u : Value) (n : Nat) (seen : List Nat)

abbrev Heap := List (Nat × Bool × Chunk)

/-- A key of numbers. -/
def keyV (k : List Int) : Value := .agg (k.map (Value.int .i64)).toArray
/-- A map with these keys and values, in this order (nothing was ever taken out of it). -/
def MapAt (w : World) (b : Nat) (l : List (Value × Value)) : Prop :=
  ∃ es, w.heap[b]? = some (.map es es.size) ∧ es.toList.map (fun e => (e.key, e.val)) = l ∧ ∀ (i : Nat) (e : MapEntry), es[i]? = some e → e.born = i
/-- A row at the beginning of a block of its own. -/
def RowAt (w : World) (b cap : Nat) (t : TypeId) (c : RowC) : Prop :=
  c.len ≤ cap ∧ ∃ (arr : Array Value) (e : RowC), w.heap[b]? = some (.cells arr t (0, 0)) ∧ arr.size = cap * c.sz ∧ c.like e ∧ c.len + e.len = cap ∧
    (∀ i, i < c.len → ∀ (q : Nat) (u : Value), (c.get i)[q]? = some u → arr[i * c.sz + q]? = some u) ∧
    ∀ i, i < e.len → ∀ (q : Nat) (u : Value), (e.get i)[q]? = some u → arr[(c.len + i) * c.sz + q]? = some u
/-- The blocks of the rows that a map holds. -/
def blkOf : Value → Option Nat
  | .slice (some a) _ _ => some a.block
  | .map (some b) => some b
  | _ => none
def FrozAt (w : World) (u : Value) : Froz → Prop
  | .row t c => (c.len = 0 ∧ u = .slice none 0 0) ∨ ∃ b cap, u = .slice (some ⟨b, 0, none⟩) c.len cap ∧ RowAt w b cap t c
  | .map l => ∃ b, u = .map (some b) ∧ MapAt w b (l.map fun x => (keyV x.1, x.2))
def kidBlocks (w : World) (b : Nat) (out : List Nat) : List Nat :=
  match w.heap[b]? with
  | some (.map es _) => es.toList.zipIdx.filterMap fun e => if e.2 ∈ out then none else blkOf e.1.val
  | _ => []

/-- What a chunk under reference 'r' says of the world. -/
def SatC (β : Names) (w : World) (own : Bool) (r : Ref) : Chunk → Prop
  | .box tid cs => ∃ arr : Array Value, w.heap[r.blk]? = some (.cells arr tid (0, 0)) ∧ arr.size = cs.length ∧ r.off = 0 ∧ r.nil = false ∧
      (∀ (i : Nat) (s : SV), cs[i]? = some s → ∃ u, arr[i]? = some u ∧ one β s u) ∧ ∀ (i : Nat) (u : Value), arr[i]? = some u → u.oneCell' = true
  | .row tid c => r.n = c.len ∧ r.sz = c.sz ∧ c.len ≤ r.cap ∧ (r.nil = true → r.cap = 0) ∧
      (∀ i, i < c.len → ∀ (q : Nat) (u : Value), (c.get i)[q]? = some u → w.cell? ⟨r.blk, r.off + i * c.sz + q, none⟩ = some u) ∧
      (own = true → r.nil = false → r.off = 0 ∧ ∃ (arr : Array Value) (e : RowC), w.heap[r.blk]? = some (.cells arr tid (0, 0)) ∧ arr.size = r.cap * c.sz ∧ c.like e ∧ c.len + e.len = r.cap ∧
        ∀ i, i < e.len → ∀ (q : Nat) (u : Value), (e.get i)[q]? = some u → arr[(c.len + i) * c.sz + q]? = some u)
  | .cap p n => ∃ rp, β p = some rp ∧ rp.cap = n
  | .mp l => r.nil = false ∧ MapAt w r.blk (l.map fun x => (keyV x.1, x.2))
  | .kids t l out => r.nil = false ∧ ∃ us : List Value, us.length = l.length ∧ MapAt w r.blk ((l.zip us).map fun x => (keyV x.1.1, x.2)) ∧
      (∀ (i : Nat) (k : List Int) (c : RowC), l[i]? = some (k, c) → i ∉ out → ∃ b cap, us[i]? = some (.slice (some ⟨b, 0, none⟩) c.len cap) ∧ RowAt w b cap t c) ∧
      ∀ (i j : Nat) (x y : Value) (b : Nat), us[i]? = some x → us[j]? = some y → i ∉ out → j ∉ out → blkOf x = some b → blkOf y = some b → i = j
  | .pool l => r.nil = true ∧ ∀ x ∈ l, FrozAt w x.1 x.2
  | .iter u n seen => r.nil = false ∧ r.off = 0 ∧ ∃ m, u = .map m ∧ w.heap[r.blk]? = some (.mapIter m n seen.toArray n)

/-- Does the chunk name a block at all? -/
def solid (r : Ref) : Chunk → Prop
  | .box _ _ => True
  | .row _ c => r.nil = false ∧ (0 < c.len ∨ 0 < r.cap)
  | .cap _ _ => False
  | .mp _ => True
  | .kids _ _ _ => True
  | .pool _ => False
  | .iter _ _ _ => True
/-- The blocks of a chunk besides its own one. -/
def footC (w : World) (r : Ref) : Chunk → List Nat
  | .kids _ _ out => kidBlocks w r.blk out
  | .pool l => l.filterMap fun x => blkOf x.1
  | _ => []

structure Cx where
  P : Program
  w0 : World
  X : Nat → Prop
  b0 : Names
  k : Nat

structure Fr (C : Cx) (w : World) : Prop where
  os : w.os = C.w0.os
  tape : w.tape = C.w0.tape
  output : w.output = C.w0.output
  size : C.w0.heap.size ≤ w.heap.size
  block : ∀ k, k < C.w0.heap.size → ¬ C.X k → w.heap[k]? = C.w0.heap[k]?
  drawn : C.w0.drawn ≤ w.drawn

/-- Where a chunk lies. -/
def Lies (C : Cx) (w : World) (own : Bool) (r : Ref) (ch : Chunk) : Prop :=
  if own then (r.nil = false → r.blk < w.heap.size ∧ (C.w0.heap.size ≤ r.blk ∨ C.X r.blk)) else (solid r ch → r.blk < C.w0.heap.size ∧ ¬ C.X r.blk)

structure SatH (C : Cx) (β : Names) (H : Heap) (w : World) : Prop where
  fr : Fr C w
  xs : ∀ k, C.X k → k < C.w0.heap.size
  sat : ∀ p own ch, (p, own, ch) ∈ H → ∃ r, β p = some r ∧ SatC β w own r ch ∧ Lies C w own r ch
  uniq : ∀ p o c o' c', (p, o, c) ∈ H → (p, o', c') ∈ H → o = o'
  apart : ∀ p q cp cq rp rq, (p, true, cp) ∈ H → (q, true, cq) ∈ H → p ≠ q → β p = some rp → β q = some rq → rp.nil = false → rq.nil = false → rp.blk ≠ rq.blk
  kid : ∀ p o c r k, (p, o, c) ∈ H → β p = some r → k ∈ footC w r c → o = true ∧ k < w.heap.size ∧ (C.w0.heap.size ≤ k ∨ C.X k) ∧
    (∀ q cq rq, (q, true, cq) ∈ H → β q = some rq → rq.nil = false → rq.blk ≠ k) ∧ (∀ q o' cq rq, (q, o', cq) ∈ H → q ≠ p → β q = some rq → k ∉ footC w rq cq)

structure St where
  ts : List SV
  H : Heap
  nx : Nat

structure Sat (C : Cx) (β : Names) (S : St) (a : Act) (w : World) : Prop where
  heap : SatH C β S.H w
  base : Le C.b0 β
  bk : ∀ p, C.k ≤ p → C.b0 p = none
  names : ∀ p, S.nx ≤ p → β p = none
  defers : a.defers = []
  size : a.tmps.size = S.ts.length
  ts : ∀ (i : Nat) (s : SV), S.ts[i]? = some s → ∃ u, a.tmps[i]? = some u ∧ R β s u

def get (p : Nat) : Heap → Option (Bool × Chunk)
  | [] => none
  | (q, x) :: H => if p = q then some x else get p H
theorem get_mem {p : Nat} {x : Bool × Chunk} : ∀ {H : Heap}, get p H = some x → (p, x) ∈ H
  | (q, y) :: H, h => by
    unfold get at h
    split at h
    · rename_i e; subst e; cases h; exact List.mem_cons_self
    · exact List.mem_cons_of_mem _ (get_mem h)

/-! lists, with equations that compute on numerals -/
def nth : List SV → Nat → SV
  | [], _ => .junk
  | s :: _, 0 => s
  | _ :: l, n + 1 => nth l n
def upd : List SV → Nat → SV → List SV
  | [], _, _ => []
  | _ :: l, 0, x => x :: l
  | s :: l, n + 1, x => s :: upd l n x
theorem nth_eq (l : List SV) (n : Nat) : nth l n = l.getD n .junk := by
  induction l generalizing n with
  | nil => simp [nth]
  | cons s l ih => cases n <;> simp [nth, ih]
theorem upd_eq (l : List SV) (n : Nat) (x : SV) : upd l n x = l.set n x := by
  induction l generalizing n with
  | nil => simp [upd]
  | cons s l ih => cases n <;> simp [upd, ih]

def ofConst : Value → SV
  | .agg cs => if cs.toList.all (·.oneCell') then .agg (cs.toList.map .v) else .junk
  | x => .v x
def St.ev (S : St) : Operand → SV
  | .tmp t => nth S.ts t
  | .const x => ofConst x
  | .func f => .clo f []
  | .global _ => .junk

theorem Sat.ev {C : Cx} {β : Names} {S : St} {a : Act} {w : World} (h : Sat C β S a w) (o : Operand) : R β (S.ev o) (a.eval o) := by
  cases o with
  | tmp t =>
    show R β (nth S.ts t) (a.tmps.getD t undef)
    rw [nth_eq]
    rcases hs : S.ts[t]? with _ | s
    · simp only [List.getD, hs, Option.getD_none]; simp [R, R1, one]
    · obtain ⟨u, hu, hr⟩ := h.ts t s hs
      simp only [List.getD, hs, Option.getD_some]
      simpa [hu] using hr
  | const x =>
    show R β (ofConst x) x
    cases x <;> try exact rfl
    case agg cs =>
      show R β (if cs.toList.all (·.oneCell') then SV.agg (cs.toList.map SV.v) else SV.junk) _
      by_cases hc : cs.toList.all (·.oneCell') = true
      · rw [if_pos hc]
        refine ⟨cs.toList, by simp, by simp, fun i s hs => ?_, List.all_eq_true.1 hc⟩
        simp only [List.getElem?_map, Option.map_eq_some_iff] at hs
        obtain ⟨u, hu, rfl⟩ := hs
        exact ⟨u, hu, rfl⟩
      · rw [if_neg hc]; trivial
  | func f => exact ⟨[], rfl, rfl, fun i p hp => by simp at hp⟩
  | global g => trivial

theorem Sat.put {C : Cx} {β : Names} {S : St} {a : Act} {w : World} (h : Sat C β S a w) (d : Option Tmp) {s : SV} {u : Value} (hr : R β s u) :
    Sat C β { S with ts := match d with | some d => upd S.ts d s | none => S.ts } (a.put d u) w := by
  cases d with
  | none => exact ⟨h.heap, h.base, h.bk, h.names, h.defers, h.size, h.ts⟩
  | some d =>
    refine ⟨h.heap, h.base, h.bk, h.names, h.defers, by simp [Act.put, upd_eq, h.size], fun i s' hs => ?_⟩
    simp only [upd_eq] at hs
    by_cases e : d = i
    · subst e
      have hlt : d < S.ts.length := by
        have := (List.getElem?_eq_some_iff.1 hs).1; simpa using this
      rw [List.getElem?_set_self hlt] at hs
      cases hs
      refine ⟨u, ?_, hr⟩
      have : d < a.tmps.size := by rw [h.size]; exact hlt
      simp [Act.put, this]
    · rw [List.getElem?_set_ne e] at hs
      obtain ⟨u', h1, h2⟩ := h.ts i s' hs
      exact ⟨u', by simp [Act.put, Array.getElem?_setIfInBounds_ne e, h1], h2⟩

end E
end Go.Proofs.Ytlkchnfgeedghaa
