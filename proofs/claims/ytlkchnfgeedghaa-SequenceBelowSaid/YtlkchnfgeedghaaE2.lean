/- The executor's types and its pure operations, and that they are the model's. It states nothing about the program. -/
import Derived.Test.YtlkchnfgeedghaaE1
import Derived.Laws.Strings
import Derived.IntWalk
namespace Go.Proofs.Ytlkchnfgeedghaa
namespace E
open Go

/-- The kinds of the elements of a row. -/
inductive EK where
  | ints (k : IntKind)
  | cell
  | strs
  | ids
  | dots
  | marks
  | ivals
  | vals
  | raw
  | none

inductive TK where
  | int (k : IntKind)
  | bool
  | str
  | ptr
  | slice (e esz : Nat) (k : EK)
  | struct (fs : List (Nat × Nat × Nat))
  | array (n e esz : Nat)
  | map (k v : Nat)
  | func
  | other

structure TI where
  k : TK
  size : Nat
  zero : List Value
  eq : Option (List SV → List SV → Option Bool)

abbrev Tys := TypeId → Option TI

def TK.agg : TK → Bool
  | .struct _ | .array _ _ _ => true
  | _ => false

def kOK (P : Program) (d : TypeDesc) : TK → Prop
  | .int k => d = .int k
  | .bool => d = .bool
  | .str => d = .string
  | .ptr => ∃ e, d = .pointer e
  | .slice e sz _ => d = .slice e ∧ (P.info? e).map (·.size) = some sz
  | .struct fs => ∃ a, d = .struct a ∧ a.toList.map (fun f => (f.offset, f.type, ((P.info? f.type).map (·.size)).getD 0)) = fs
  | .array n e sz => d = .array n e ∧ (P.info? e).map (·.size) = some sz
  | .map k v => d = .map k v
  | .func => ∃ a b c, d = .func a b c
  | .other => (match d with | .struct _ | .array _ _ => true | _ => false) = false

structure TIok (P : Program) (t : TypeId) (i : TI) : Prop where
  size : (P.info? t).map (·.size) = some i.size
  zero : ∃ z, (P.info? t).map (·.zero) = some (some z) ∧ z.cells.toList = i.zero ∧ z.cells.toList.all (·.oneCell') = true
  zlen : i.zero.length = i.size
  bytes : (P.info? t).map (fun i => decide (i.bytes ≤ 4096)) = some true
  kind : ∃ d, P.underlying t = some d ∧ kOK P d i.k
  eq : ∀ f, i.eq = some f → ∀ β xs ys b u v w, f xs ys = some b → R β (.agg xs) u → R β (.agg ys) v → (Op.equal t u v).run P w = .ok b w ∧ ∀ x y, (eqGuard .eql t x y u v).run P w = .ok () w

def TysOK (P : Program) (T : Tys) : Prop := ∀ t i, T t = some i → TIok P t i

theorem TIok.isAgg {P : Program} {t : TypeId} {i : TI} (h : TIok P t i) (w : World) : (isAgg t).run P w = .ok i.k.agg w := by
  obtain ⟨d, hd, hk⟩ := h.kind
  unfold Go.isAgg
  rw [Sem.run_bind, run_underlying hd]
  cases hik : i.k <;> rw [hik] at hk <;> simp only [kOK] at hk
  case other => cases d <;> simp_all [TK.agg]
  case struct => obtain ⟨a, rfl, _⟩ := hk; rfl
  case array => obtain ⟨rfl, _⟩ := hk; rfl
  case slice => obtain ⟨rfl, _⟩ := hk; rfl
  case ptr => obtain ⟨e, rfl⟩ := hk; rfl
  case func => obtain ⟨_, _, _, rfl⟩ := hk; rfl
  all_goals (subst hk; rfl)

theorem run_sizeOf' {P : Program} {t : TypeId} {n : Nat} (h : (P.info? t).map (·.size) = some n) (w : World) : (sizeOf t).run P w = .ok n w := by
  unfold Go.sizeOf typeInfo
  cases hi : P.info? t with
  | none => simp [hi] at h
  | some i => simp [hi] at h; simp [hi, h]

theorem run_zeroValue' {P : Program} {t : TypeId} {z : Value} (h : (P.info? t).map (·.zero) = some (some z)) (w : World) : (zeroValue t).run P w = .ok z w := by
  unfold Go.zeroValue typeInfo
  cases hi : P.info? t with
  | none => simp [hi] at h
  | some i => simp [hi] at h; simp [hi, h]

/-! results of pure operations -/
inductive Rs where
  | bad
  | ok (s : SV)
  | side (c : Prop) (s : SV)

def Rs.Ok (r : Rs) (s : SV) : Prop :=
  match r with
  | .bad => False
  | .ok s' => s = s'
  | .side c s' => c ∧ s = s'

def lo : IntKind → Int
  | .i8 => -128 | .i16 => -32768 | .i32 => -2147483648 | .i64 => -9223372036854775808 | _ => 0
def hi : IntKind → Int
  | .i8 => 127 | .i16 => 32767 | .i32 => 2147483647 | .i64 => 9223372036854775807 | .u8 => 255 | .u16 => 65535 | .u32 => 4294967295 | .u64 => 18446744073709551615

theorem wrap_in (k : IntKind) (n : Int) (h : lo k ≤ n ∧ n ≤ hi k) : k.wrap n = n := by
  cases k <;> simp only [lo, hi] at h
  · exact IntWalk.i8_in n h
  · exact IntWalk.i16_in n h
  · exact IntWalk.i32_in n h
  · exact IntWalk.i64_in n h
  · exact IntWalk.u8_in n h
  · exact IntWalk.u16_in n h
  · exact IntWalk.u32_in n h
  · exact IntWalk.u64_in n h

def num (wr : Bool) (k : IntKind) (n : Int) : Rs :=
  match wr with
  | true => .ok (.v (.int k (k.wrap n)))
  | false => .side (lo k ≤ n ∧ n ≤ hi k) (.v (.int k n))

theorem num_ok {wr : Bool} {k : IntKind} {n : Int} {s : SV} (h : (num wr k n).Ok s) : s = .v (.int k (k.wrap n)) := by
  cases wr
  · obtain ⟨h1, h2⟩ := h; rw [wrap_in k n h1]; exact h2
  · exact h

def ibin (wr : Bool) (op : BinOp) (k : IntKind) (a b : Int) : Rs :=
  match op with
  | .add => num wr k (a + b)
  | .sub => num wr k (a - b)
  | .mul => num wr k (a * b)
  | .quo => .side (0 ≤ a ∧ 0 < b ∧ a ≤ hi k) (.v (.int k (a / b)))
  | .rem => .side (0 ≤ a ∧ 0 < b) (.v (.int k (a % b)))
  | .eql => .ok (.v (.bool (decide (a = b))))
  | .neq => .ok (.v (.bool (!decide (a = b))))
  | .lss => .ok (.v (.bool (decide (a < b))))
  | .leq => .ok (.v (.bool (decide (a ≤ b))))
  | .gtr => .ok (.v (.bool (decide (b < a))))
  | .geq => .ok (.v (.bool (decide (b ≤ a))))
  | .and => .ok (.v (.int k (bits .and k a b)))
  | _ => .bad

def sbin (op : BinOp) (a b : ByteArray) : Rs :=
  match op with
  | .add => .side (((a.size + b.size : Nat) : Int) ≤ 9223372036854775807) (.v (.string (a ++ b)))
  | .eql => .ok (.v (.bool (decide (a = b))))
  | .neq => .ok (.v (.bool (!decide (a = b))))
  | _ => .bad

/-- x op y at type t. -/
def bin (T : Tys) (wr : Bool) (op : BinOp) (t : TypeId) : SV → SV → Rs
  | .v (.int k a), .v (.int k' b) =>
    match op with
    | .shr => .side (0 ≤ b ∧ b ≤ 8) (.v (.int k (a / 2 ^ b.toNat)))
    | _ => if k = k' then ibin wr op k a b else .bad
  | .v (.string a), .v (.string b) => sbin op a b
  | .v (.bool a), .v (.bool b) =>
    match (T t).map TI.k, op with
    | some TK.bool, .eql => .ok (.v (.bool (decide (a = b))))
    | some TK.bool, .neq => .ok (.v (.bool (!decide (a = b))))
    | _, _ => .bad
  | .agg xs, .agg ys =>
    match (T t).bind (·.eq), op with
    | some f, .eql => match f xs ys with | some b => .ok (.v (.bool b)) | none => .bad
    | some f, .neq => match f xs ys with | some b => .ok (.v (.bool (!b))) | none => .bad
    | _, _ => .bad
  | _, _ => .bad

theorem toList_beq (a b : ByteArray) : (a.toList == b.toList) = decide (a = b) := by
  rw [ByteArray.toList_eq, ByteArray.toList_eq, Bool.eq_iff_iff]
  simp only [beq_iff_eq, decide_eq_true_eq, Array.toList_inj]
  exact ⟨fun e => by cases a; cases b; simpa using e, fun e => by rw [e]⟩

theorem run_equal_bool {P : Program} {t : TypeId} (hd : P.underlying t = some .bool) (a b : Bool) (w : World) : (Op.equal t (.bool a) (.bool b)).run P w = .ok (a == b) w := by
  have : Op.equal t (.bool a) (.bool b) = Op.equalIn (9999 + 1) t (.bool a) (.bool b) := rfl
  rw [this, Op.equalIn, Sem.run_bind, run_underlying hd]
  rfl

theorem eqGuard_neq (P : Program) (t : TypeId) (x y : Operand) (u v : Value) (w : World) : (eqGuard .neq t x y u v).run P w = (eqGuard .eql t x y u v).run P w := rfl

theorem bits_bound (k : IntKind) (b : Int) (h0 : 0 ≤ b) (h : b ≤ 8) : min b.toNat k.bits = b.toNat := by
  have : 8 ≤ k.bits := by cases k <;> simp [IntKind.bits]
  omega

theorem bin_ok {P : Program} {T : Tys} (hT : TysOK P T) {β : Names} {wr : Bool} {op : BinOp} {t : TypeId} {x y s : SV} {u v : Value} {ox oy : Operand} (hx : R β x u) (hy : R β y v) (h : (bin T wr op t x y).Ok s) (w : World) :
    ∃ r, (do eqGuard op t ox oy u v; binOp op t u v : Sem Value).run P w = .ok r w ∧ R β s r := by
  unfold bin at h
  split at h
  · -- numbers
    rename_i k a k' b
    obtain rfl : u = .int k a := hx
    obtain rfl : v = .int k' b := hy
    have hg : (eqGuard op t ox oy (.int k a) (.int k' b)).run P w = .ok () w := by
      unfold eqGuard; cases op <;> simp
    rw [Sem.run_bind, hg]
    split at h
    · obtain ⟨⟨h0, h8⟩, rfl⟩ := h
      refine ⟨_, ?_, rfl⟩
      have : ¬ b < 0 := by omega
      simp only [Result.andThen_ok, binOp, Op.shift, if_neg this, bits_bound k b h0 h8, Sem.run_pure]
      rw [Int.fdiv_eq_ediv_of_nonneg _ (Int.pow_nonneg (by decide))]
    · split at h
      · rename_i _ hk; subst hk
        unfold ibin at h
        split at h <;> first
          | exact h.elim
          | (have e := num_ok h; subst e; exact ⟨_, by simp [binOp, Op.intArith], rfl⟩)
          | (have e : s = _ := h; subst e; refine ⟨_, ?_, rfl⟩; simp only [Result.andThen_ok, binOp, ne_eq, not_true_eq_false, if_false, Op.intCmp, Sem.run_pure]; done)
          | (have e : s = _ := h; subst e; refine ⟨_, ?_, rfl⟩; simp only [Result.andThen_ok, binOp, ne_eq, not_true_eq_false, if_false, Op.intCmp, Sem.run_pure]; rfl)
          | (have e : s = _ := h; subst e; refine ⟨_, ?_, rfl⟩; simp only [Result.andThen_ok, binOp, ne_eq, not_true_eq_false, if_false, Sem.run_pure]; rfl)
          | skip
        · obtain ⟨⟨h0, h1, h2⟩, rfl⟩ := h
          refine ⟨_, ?_, rfl⟩
          have hb : ¬ b = 0 := by omega
          have hq : a / b ≤ a := Int.ediv_le_self b h0
          have hq0 : 0 ≤ a / b := Int.ediv_nonneg h0 (by omega)
          have hl : lo k ≤ 0 := by cases k <;> simp [lo]
          simp only [Result.andThen_ok, binOp, ne_eq, not_true_eq_false, if_false, Op.intDiv, if_neg hb, Sem.run_pure]
          rw [Int.tdiv_eq_ediv_of_nonneg h0, wrap_in k _ ⟨by omega, by omega⟩]
        · obtain ⟨⟨h0, h1⟩, rfl⟩ := h
          refine ⟨_, ?_, rfl⟩
          have hb : ¬ b = 0 := by omega
          simp only [Result.andThen_ok, binOp, ne_eq, not_true_eq_false, if_false, Op.intDiv, if_neg hb, Sem.run_pure]
          rw [Int.tmod_eq_emod_of_nonneg h0]
      · exact h.elim
  · -- strings
    rename_i a b
    obtain rfl : u = .string a := hx
    obtain rfl : v = .string b := hy
    have hg : (eqGuard op t ox oy (.string a) (.string b)).run P w = .ok () w := by
      unfold eqGuard; cases op <;> simp
    rw [Sem.run_bind, hg]
    unfold sbin at h
    split at h
    · obtain ⟨h0, rfl⟩ := h
      refine ⟨_, ?_, rfl⟩
      have hm : IntKind.i64.max = 9223372036854775807 := rfl
      have : ¬ ((a.size + b.size : Nat) : Int) > IntKind.i64.max := by rw [hm]; omega
      simp only [Result.andThen_ok, binOp, Op.stringOp, if_neg this, Sem.run_pure]
    · obtain rfl := h
      exact ⟨_, by simp [binOp, Op.stringOp, toList_beq], rfl⟩
    · obtain rfl := h
      exact ⟨_, by simp [binOp, Op.stringOp, toList_beq], rfl⟩
    · exact h.elim
  · -- bools
    rename_i a b
    obtain rfl : u = .bool a := hx
    obtain rfl : v = .bool b := hy
    split at h
    · rename_i hk
      obtain ⟨i, hi, hik⟩ : ∃ i, T t = some i ∧ i.k = .bool := by simpa [Option.map_eq_some_iff] using hk
      obtain ⟨d, hd, hd'⟩ := (hT t i hi).kind
      rw [hik] at hd'; obtain rfl : d = .bool := hd'
      obtain rfl := h
      refine ⟨.bool (decide (a = b)), ?_, rfl⟩
      have hg : (eqGuard .eql t ox oy (.bool a) (.bool b)).run P w = .ok () w := by unfold eqGuard; simp
      rw [Sem.run_bind, hg]
      simp only [Result.andThen_ok, binOp, Sem.run_bind, run_equal_bool hd, Sem.run_pure]
      rfl
    · rename_i hk
      obtain ⟨i, hi, hik⟩ : ∃ i, T t = some i ∧ i.k = .bool := by simpa [Option.map_eq_some_iff] using hk
      obtain ⟨d, hd, hd'⟩ := (hT t i hi).kind
      rw [hik] at hd'; obtain rfl : d = .bool := hd'
      obtain rfl := h
      refine ⟨.bool (!decide (a = b)), ?_, rfl⟩
      have hg : (eqGuard .neq t ox oy (.bool a) (.bool b)).run P w = .ok () w := by unfold eqGuard; simp
      rw [Sem.run_bind, hg]
      simp only [Result.andThen_ok, binOp, Sem.run_bind, run_equal_bool hd, Sem.run_pure]
      rfl
    · exact h.elim
  · -- structs
    rename_i xs ys
    have hu : ∃ l, u = .agg l := by obtain ⟨l, h, _⟩ := hx; exact ⟨_, h⟩
    have hv : ∃ l, v = .agg l := by obtain ⟨l, h, _⟩ := hy; exact ⟨_, h⟩
    split at h
    · rename_i f hf
      split at h
      · rename_i b hb
        obtain rfl := h
        obtain ⟨i, hi, hie⟩ : ∃ i, T t = some i ∧ i.eq = some f := by simpa [Option.bind_eq_some_iff] using hf
        obtain ⟨h1, h2⟩ := (hT t i hi).eq f hie β xs ys b u v w hb hx hy
        refine ⟨.bool b, ?_, rfl⟩
        obtain ⟨lu, rfl⟩ := hu
        obtain ⟨lv, rfl⟩ := hv
        rw [Sem.run_bind, h2]
        simp [binOp, h1]
      · exact h.elim
    · rename_i f hf
      split at h
      · rename_i b hb
        obtain rfl := h
        obtain ⟨i, hi, hie⟩ : ∃ i, T t = some i ∧ i.eq = some f := by simpa [Option.bind_eq_some_iff] using hf
        obtain ⟨h1, h2⟩ := (hT t i hi).eq f hie β xs ys b u v w hb hx hy
        refine ⟨.bool (!b), ?_, rfl⟩
        obtain ⟨lu, rfl⟩ := hu
        obtain ⟨lv, rfl⟩ := hv
        rw [Sem.run_bind, eqGuard_neq, h2]
        simp [binOp, h1]
      · exact h.elim
    · exact h.elim
  · exact h.elim

end E
end Go.Proofs.Ytlkchnfgeedghaa
