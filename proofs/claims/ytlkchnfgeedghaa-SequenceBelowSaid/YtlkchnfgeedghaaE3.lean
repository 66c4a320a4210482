/- The executor's pure operations, and that they are the model's. It states nothing about the program. -/
import Derived.Test.YtlkchnfgeedghaaE2
namespace Go.Proofs.Ytlkchnfgeedghaa
namespace E
open Go

def bt (s : ByteArray) (i : Int) : Int := ((s.data[i.toNat]?).getD 0).toNat

def caps : List SV → Option (List Nat)
  | [] => some []
  | .ptr p 0 :: l => (caps l).map (p :: ·)
  | _ :: _ => none

/-- The bounds of a slice expression, each within the length. -/
def boundsOf (n : Nat) : Option SV → Option SV → Option (Prop × Nat × Nat)
  | none, none => some (True, 0, n)
  | none, some (.v (.int _ b)) => some (0 ≤ b ∧ b ≤ n, 0, b.toNat)
  | some (.v (.int _ a)), none => some (0 ≤ a ∧ a ≤ n, a.toNat, n)
  | some (.v (.int _ a)), some (.v (.int _ b)) => some (0 ≤ a ∧ a ≤ b ∧ b ≤ n, a.toNat, b.toNat)
  | _, _ => none

def lenOf (H : Heap) : SV → Option Nat
  | .full p => match get p H with
    | some (_, .row _ c) => some c.len
    | _ => none
  | .sl _ _ n => some n
  | .v (.slice none n _) => some n
  | _ => none

def pur (T : Tys) (wr : Bool) (S : St) : Op → Rs
  | .move x | .assign x => .ok (S.ev x)
  | .pick c a b =>
    match S.ev c, S.ev a, S.ev b with
    | .v (.bool c), .v (.bool x), .v (.bool y) => .ok (.v (.bool (bif c then x else y)))
    | .v (.bool true), x, _ => .ok x
    | .v (.bool false), _, y => .ok y
    | _, _, _ => .bad
  | .binOp op t x y _ => bin T wr op t (S.ev x) (S.ev y)
  | .unOp op _ x =>
    match op, S.ev x with
    | .not, .v (.bool b) => .ok (.v (.bool (!b)))
    | .neg, .v (.int k n) => num wr k (0 - n)
    | _, _ => .bad
  | .convert src dst x =>
    match (T src).map TI.k, (T dst).map TI.k, S.ev x with
    | some (TK.int _), some (TK.int k), .v (.int _ n) => num wr k n
    | some TK.str, some TK.str, .v (.string s) => .ok (.v (.string s))
    | _, _, _ => .bad
  | .makeFunc (.func f) first cs =>
    match first.toList, caps (cs.toList.map S.ev) with
    | [], some ps => .ok (.clo f ps)
    | _, _ => .bad
  | .fieldAddr s x f =>
    match (T s).map TI.k with
    | some (TK.struct fs) =>
      match fs[f]?, S.ev x with
      | some (off, _, n), .ptr p g => if n = 0 then .bad else .ok (.ptr p (g + off))
      | some (off, _, n), .eptr p i g => if n = 0 then .bad else .ok (.eptr p i (g + off))
      | _, _ => .bad
    | _ => .bad
  | .field t x f =>
    match (T t).map TI.k, S.ev x with
    | some (TK.struct fs), .agg xs =>
      match fs[f]? with
      | some (off, ft, n) =>
        match (T ft).map (fun i => i.k.agg) with
        | some true => if off + n ≤ xs.length then .ok (.agg ((xs.drop off).take n)) else .bad
        | some false => if off < xs.length then .ok (nth xs off) else .bad
        | none => .bad
      | _ => .bad
    | _, _ => .bad
  | .indexAddr t x i =>
    match (T t).map TI.k, S.ev x, S.ev i with
    | some (TK.slice _ esz _), .full p, .v (.int _ i) =>
      match get p S.H with
      | some (_, .row _ c) => if c.sz = esz then .side (0 ≤ i ∧ i < c.len) (.eptr p i.toNat 0) else .bad
      | _ => .bad
    | some (TK.slice _ esz _), .sl p lo n, .v (.int _ i) =>
      match get p S.H with
      | some (_, .row _ c) => if c.sz = esz then .side (0 ≤ i ∧ i < n) (.eptr p (lo + i.toNat) 0) else .bad
      | _ => .bad
    | _, _, _ => .bad
  | .index t x i =>
    match (T t).map TI.k, S.ev x, S.ev i with
    | some TK.str, .v (.string s), .v (.int _ i) => .side (0 ≤ i ∧ i < s.size) (.v (.int .u8 (bt s i)))
    | _, _, _ => .bad
  | .slice t x l h none =>
    match (T t).map TI.k, S.ev x with
    | some TK.str, .v (.string s) =>
      match boundsOf s.size (l.map S.ev) (h.map S.ev) with
      | some (c, a, b) => .side c (.v (.string (s.extract a b)))
      | none => .bad
    | some (TK.slice _ esz _), .full p =>
      match get p S.H with
      | some (_, .row _ c) =>
        if c.sz = esz then
          match boundsOf c.len (l.map S.ev) (h.map S.ev) with
          | some (cc, a, b) => .side cc (.sl p a (b - a))
          | none => .bad
        else .bad
      | _ => .bad
    | _, _ => .bad
  | .extract x i =>
    match S.ev x with
    | .tup xs => if i < xs.length then .ok (nth xs i) else .bad
    | _ => .bad
  | .nilCheck x =>
    match S.ev x with
    | .ptr p f => .ok (.ptr p f)
    | .eptr p i f => .ok (.eptr p i f)
    | .clo f cs => .ok (.clo f cs)
    | _ => .bad
  | _ => .bad

theorem caps_eq : ∀ {xs : List SV} {ps : List Nat}, caps xs = some ps → xs = ps.map (fun p => SV.ptr p 0)
  | [], ps, h => by simp [caps] at h; subst h; rfl
  | x :: l, ps, h => by
    unfold caps at h
    split at h
    · rename_i he; cases he
    · rename_i p l' he
      cases he
      simp only [Option.map_eq_some_iff] at h
      obtain ⟨qs, hq, rfl⟩ := h
      simp [caps_eq hq]
    · cases h

section
variable {C : Cx} {T : Tys} {β : Names} {S : St} {a : Act} {w : World}

theorem Sat.chunk (h : Sat C β S a w) {p : Nat} {own : Bool} {ch : Chunk} (hg : get p S.H = some (own, ch)) : ∃ r, β p = some r ∧ SatC β w own r ch ∧ Lies C w own r ch := h.heap.sat p own ch (get_mem hg)

theorem addr_add (b o n : Nat) : (⟨b, o, none⟩ : Addr).add n = ⟨b, o + n, none⟩ := by
  unfold Addr.add
  split
  · rename_i e; subst e; rfl
  · rfl

theorem Sat.row (h : Sat C β S a w) {p : Nat} {own : Bool} {tid : TypeId} {c : RowC} (hg : get p S.H = some (own, .row tid c)) {y : Value} (hy : R β (.full p) y) :
    ∃ r, β p = some r ∧ y = .slice r.base c.len r.cap ∧ r.sz = c.sz ∧ c.len ≤ r.cap ∧ (r.nil = true → r.cap = 0) := by
  obtain ⟨r, hr, hs, _⟩ := h.chunk hg
  obtain ⟨r', hr', hy⟩ := hy
  rw [hr] at hr'; cases hr'
  obtain ⟨h1, h2, h3, h4, _⟩ := hs
  exact ⟨r, hr, by rw [hy, h1], h2, h3, h4⟩

theorem Ref.base_add (r : Ref) (hn : r.nil = false) (n : Nat) : (Option.map (fun a : Addr => a.add n) r.base) = some ⟨r.blk, r.off + n, none⟩ := by
  unfold Ref.base
  rw [hn]
  simp [addr_add]

theorem bt_get (s : ByteArray) (i : Int) (h : 0 ≤ i ∧ i < s.size) : ∃ b : UInt8, s[i.toNat]? = some b ∧ bt s i = b.toNat := by
  have hlt : i.toNat < s.data.size := by have : s.data.size = s.size := rfl; omega
  refine ⟨s.data[i.toNat], ?_, ?_⟩
  · have : i.toNat < s.size := hlt
    rw [getElem?_pos s i.toNat this]; rfl
  · rw [bt, Array.getElem?_eq_getElem hlt]; rfl


theorem Ok_bad {s : SV} (h : Rs.bad.Ok s) : False := h

theorem getD_elem {xs : List SV} {n : Nat} (h : n < xs.length) : xs[n]? = some (nth xs n) := by
  rw [nth_eq, List.getD, List.getElem?_eq_getElem h]; rfl

theorem R_one {β : Names} {s : SV} {u : Value} (h : one β s u) : R β s u := by
  cases s <;> first | exact h | exact h.elim

theorem part_agg {P : Program} {t n off : Nat} {cs : Array Value} (ha : (isAgg t).run P w = .ok true w) (hsz : (P.info? t).map (·.size) = some n) :
    (part t cs off).run P w = .ok (.agg (cs.extract off (off + n))) w := by
  unfold Go.part
  rw [Sem.run_bind, ha]
  simp only [Result.andThen_ok, if_true, Sem.run_bind, run_sizeOf' hsz, Sem.run_pure]

theorem part_one {P : Program} {t off : Nat} {cs : Array Value} {v : Value} (ha : (isAgg t).run P w = .ok false w) (hv : cs[off]? = some v) :
    (part t cs off).run P w = .ok v w := by
  unfold Go.part
  rw [Sem.run_bind, ha]
  simp [hv]

theorem run_fieldAddr {P : Program} {t off n : Nat} {fs : List (Nat × Nat × Nat)} {ft : Nat} {f : Nat} {d : TypeDesc} (hd : P.underlying t = some d) (hk : kOK P d (.struct fs)) (hf : fs[f]? = some (off, ft, n)) (hn : n ≠ 0) (b o : Nat) :
    (Instr.fieldAt t (.pointer (some ⟨b, o, none⟩)) f).run P w = .ok (.pointer (some ⟨b, o + off, none⟩)) w := by
  obtain ⟨fa, rfl, hl⟩ := hk
  subst hl
  simp only [List.getElem?_map, Option.map_eq_some_iff, Array.getElem?_toList, Prod.mk.injEq] at hf
  obtain ⟨fd, hfd, h1, h2, h3⟩ := hf
  have hsz : (P.info? fd.type).map (·.size) = some n := by
    cases h : P.info? fd.type with
    | none => simp [h] at h3; omega
    | some i => simp [h] at h3; simp [h3]
  have hp : (fieldPlace ⟨b, o, none⟩ fd).run P w = .ok ⟨b, o + off, none⟩ w := by
    unfold fieldPlace
    rw [Sem.run_bind, run_sizeOf' hsz]
    simp only [Result.andThen_ok, if_neg hn, Sem.run_pure, addr_add, h1]
  unfold Instr.fieldAt
  rw [Sem.run_bind, run_underlying hd]
  simp only [Result.andThen_ok, hfd, Instr.sureAddr, Sem.run_bind, Sem.run_pure, hp]

theorem run_field {P : Program} {t off n : Nat} {fs : List (Nat × Nat × Nat)} {ft : Nat} {f : Nat} {d : TypeDesc} (hd : P.underlying t = some d) (hk : kOK P d (.struct fs)) (hf : fs[f]? = some (off, ft, n)) (cs : Array Value) :
    (Instr.field t (.agg cs) f).run P w = (part ft cs off).run P w := by
  obtain ⟨fa, rfl, hl⟩ := hk
  subst hl
  simp only [List.getElem?_map, Option.map_eq_some_iff, Array.getElem?_toList, Prod.mk.injEq] at hf
  obtain ⟨fd, hfd, h1, h2, h3⟩ := hf
  unfold Instr.field
  rw [Sem.run_bind, run_underlying hd]
  simp only [Result.andThen_ok, hfd, asAgg, Sem.run_bind, Sem.run_pure, h1, h2]

theorem run_indexAddr {P : Program} {t e esz : Nat} {d : TypeDesc} {ek : EK} (hd : P.underlying t = some d) (hk : kOK P d (.slice e esz ek)) {k : IntKind} {i : Int} {len cap : Nat} {A : Addr} (hi : 0 ≤ i ∧ i < len) :
    (Instr.indexAt t (.slice (some A) len cap) (.int k i)).run P w = .ok (.pointer (some (A.add (i.toNat * esz)))) w := by
  obtain ⟨rfl, hsz⟩ := hk
  unfold Instr.indexAt
  simp only [asIntOf, Sem.run_bind, Sem.run_pure, Result.andThen_ok, run_underlying hd, run_sizeOf' hsz, if_pos hi]

theorem run_sliceBound {P : Program} {k : IntKind} {i : Int} {y : Nat} {code : BoundsCode} (h : 0 ≤ i ∧ i ≤ y) : (Instr.sliceBound (.int k i) y code).run P w = .ok i.toNat w := by
  unfold Instr.sliceBound
  simp only [asIntOf, Sem.run_bind, Sem.run_pure, Result.andThen_ok, if_pos h]

theorem run_bounds {P : Program} {sl : Bool} {n cap : Nat} {l h : Option SV} {lv hv : Option Value} {c : Prop} {x y : Nat} (hb : boundsOf n l h = some (c, x, y)) (hc : c) (hn : n ≤ cap)
    (hl : ∀ s, l = some s → ∃ u, lv = some u ∧ R β s u) (hl0 : l = none → lv = none) (hh : ∀ s, h = some s → ∃ u, hv = some u ∧ R β s u) (hh0 : h = none → hv = none) :
    (Instr.sliceBounds sl n cap lv hv none).run P w = .ok (x, y, cap) w ∧ x ≤ y ∧ y ≤ n := by
  unfold boundsOf at hb
  split at hb
  · cases hb
    rw [hl0 rfl, hh0 rfl]
    exact ⟨by simp [Instr.sliceBounds], by omega, by omega⟩
  · cases hb
    obtain ⟨u, rfl, hu⟩ := hh _ rfl
    obtain rfl : u = _ := hu
    rw [hl0 rfl]
    refine ⟨?_, by omega, by omega⟩
    rename_i k b
    simp only [Instr.sliceBounds, Sem.run_bind, Sem.run_pure, Result.andThen_ok, run_sliceBound (P := P) (w := w) (show 0 ≤ b ∧ b ≤ (cap : Int) by omega)]
  · cases hb
    obtain ⟨u, rfl, hu⟩ := hl _ rfl
    obtain rfl : u = _ := hu
    rw [hh0 rfl]
    refine ⟨?_, by omega, by omega⟩
    rename_i k a
    simp only [Instr.sliceBounds, Sem.run_bind, Sem.run_pure, Result.andThen_ok, run_sliceBound (P := P) (w := w) (show 0 ≤ a ∧ a ≤ (n : Int) by omega)]
  · cases hb
    obtain ⟨u, rfl, hu⟩ := hl _ rfl
    obtain rfl : u = _ := hu
    obtain ⟨u, rfl, hu⟩ := hh _ rfl
    obtain rfl : u = _ := hu
    refine ⟨?_, by omega, by omega⟩
    rename_i k1 a k2 b
    simp only [Instr.sliceBounds, Sem.run_bind, Sem.run_pure, Result.andThen_ok, run_sliceBound (P := P) (w := w) (show 0 ≤ b ∧ b ≤ (cap : Int) by omega),
      run_sliceBound (P := P) (w := w) (show 0 ≤ a ∧ a ≤ ((b.toNat : Nat) : Int) by omega)]
  · cases hb


theorem run_v {P : Program} {ρ : Operand → Value} {o : Oper} {m : Sem Value} {r : Value} (he : execOp ρ o = (do pure (Next.value (← m)))) (hr : m.run P w = .ok r w) : (execOp ρ o).run P w = .ok (.value r) w := by
  rw [he, Sem.run_bind, hr]; rfl

theorem pur_ok (hT : TysOK C.P T) (hs : Sat C β S a w) (wr : Bool) (o : Oper) {s : SV} (h : (pur T wr S o.op).Ok s) :
    ∃ r, (execOp a.eval o).run C.P w = .ok (.value r) w ∧ R β s r := by
  cases ho : o.op
  all_goals rw [ho] at h
  all_goals (try exact h.elim)
  all_goals simp only [pur] at h
  case move x => obtain rfl := h; exact ⟨_, by unfold execOp; rw [ho]; rfl, hs.ev x⟩
  case assign x => obtain rfl := h; exact ⟨_, by unfold execOp; rw [ho]; rfl, hs.ev x⟩
  case pick c x y =>
    have hc := hs.ev c; have hx := hs.ev x; have hy := hs.ev y
    have key : ∀ b : Bool, a.eval c = .bool b → (execOp a.eval o).run C.P w = .ok (.value (if b = true then a.eval x else a.eval y)) w := fun b hb => by
      unfold execOp; rw [ho]
      simp only [hb, asBool, Sem.run_bind, Sem.run_pure, Result.andThen_ok]
    split at h
    · rename_i c x y e1 e2 e3
      obtain rfl := h
      rw [e1] at hc; rw [e2] at hx; rw [e3] at hy
      refine ⟨_, key _ hc, ?_⟩
      obtain hx : a.eval _ = _ := hx
      obtain hy : a.eval _ = _ := hy
      rw [hx, hy]
      cases c <;> rfl
    · rename_i e1 _
      obtain rfl := h
      rw [e1] at hc
      exact ⟨_, key _ hc, by simpa using hx⟩
    · rename_i e1 _
      obtain rfl := h
      rw [e1] at hc
      exact ⟨_, key _ hc, by simpa using hy⟩
    · exact h.elim
  case binOp op t x y u =>
    obtain ⟨r, hr, hR⟩ := bin_ok hT (ox := x) (oy := y) (hs.ev x) (hs.ev y) h w
    exact ⟨r, run_v (by unfold execOp; rw [ho]) hr, hR⟩
  case unOp op t x =>
    have hx := hs.ev x
    split at h
    · rename_i e; obtain rfl := h; rw [e] at hx; obtain hx : a.eval x = _ := hx
      exact ⟨_, run_v (by unfold execOp; rw [ho]) (by rw [hx]; rfl), rfl⟩
    · rename_i e; have e2 := num_ok h; subst e2; rw [e] at hx; obtain hx : a.eval x = _ := hx
      exact ⟨_, run_v (by unfold execOp; rw [ho]) (by rw [hx]; rfl), rfl⟩
    · exact h.elim
  case convert src dst x =>
    have hx := hs.ev x
    split at h
    · rename_i k k' n e1 e2 e3
      have e4 := num_ok h; subst e4
      rw [e3] at hx; obtain hx : a.eval x = _ := hx
      obtain ⟨i, hi, hik⟩ : ∃ i, T src = some i ∧ i.k = .int _ := by simpa [Option.map_eq_some_iff] using e1
      obtain ⟨j, hj, hjk⟩ : ∃ i, T dst = some i ∧ i.k = .int _ := by simpa [Option.map_eq_some_iff] using e2
      obtain ⟨d, hd, hd'⟩ := (hT src i hi).kind
      obtain ⟨g, hg, hg'⟩ := (hT dst j hj).kind
      rw [hik] at hd'; rw [hjk] at hg'
      obtain rfl : d = .int _ := hd'
      obtain rfl : g = .int _ := hg'
      exact ⟨_, run_v (by unfold execOp; rw [ho]) (by simp only [hx, convert, Conv.intToInt, run_underlying hd, run_underlying hg, Sem.run_bind, Sem.run_pure, Result.andThen_ok]), rfl⟩
    · rename_i n e1 e2 e3
      obtain rfl := h
      rw [e3] at hx; obtain hx : a.eval x = _ := hx
      obtain ⟨i, hi, hik⟩ : ∃ i, T src = some i ∧ i.k = .str := by simpa [Option.map_eq_some_iff] using e1
      obtain ⟨j, hj, hjk⟩ : ∃ i, T dst = some i ∧ i.k = .str := by simpa [Option.map_eq_some_iff] using e2
      obtain ⟨d, hd, hd'⟩ := (hT src i hi).kind
      obtain ⟨g, hg, hg'⟩ := (hT dst j hj).kind
      rw [hik] at hd'; rw [hjk] at hg'
      obtain rfl : d = .string := hd'
      obtain rfl : g = .string := hg'
      exact ⟨_, run_v (by unfold execOp; rw [ho]) (by simp only [hx, convert, run_underlying hd, run_underlying hg, Sem.run_bind, Sem.run_pure, Result.andThen_ok]), rfl⟩
    · exact h.elim
  case makeFunc fn first cs =>
    cases fn with
    | func f =>
      simp only at h
      split at h
      · rename_i ps e1 e2
        obtain rfl := h
        have hf : first = #[] := by simpa using e1
        subst hf
        have hc := caps_eq e2
        refine ⟨_, run_v (m := Instr.makeFunc (.func f) (#[].map a.eval) (cs.map a.eval)) (by unfold execOp; rw [ho]) (Sem.run_pure _ _ _), ?_⟩
        refine ⟨(cs.map a.eval).toList, by simp only [Array.toArray_toList, Array.map_empty], by have := congrArg List.length hc; simpa using this, fun i p hp => ?_⟩
        have h1 : (cs.toList.map S.ev)[i]? = some (SV.ptr p 0) := by rw [hc]; simp [hp]
        simp only [List.getElem?_map, Option.map_eq_some_iff] at h1
        obtain ⟨o', ho', he⟩ := h1
        have h2 := hs.ev o'
        rw [he] at h2
        obtain ⟨r, hr, hv⟩ := h2
        exact ⟨r, hr, by simp only [Array.toList_map, List.getElem?_map, ho', Option.map_some, hv, Nat.add_zero]⟩
      · exact h.elim
    | _ => exact h.elim
  case fieldAddr t x f =>
    have hx := hs.ev x
    split at h
    · rename_i fs e1
      obtain ⟨i, hi, hik⟩ : ∃ i, T t = some i ∧ i.k = .struct fs := by simpa [Option.map_eq_some_iff] using e1
      obtain ⟨d, hd, hd'⟩ := (hT t i hi).kind
      rw [hik] at hd'
      split at h
      · rename_i off ft n p g e2 e3
        split at h
        · exact h.elim
        · rename_i hn
          obtain rfl := h
          rw [e3] at hx
          obtain ⟨r, hr, hv⟩ := hx
          exact ⟨_, run_v (by unfold execOp; rw [ho]) (by rw [hv]; exact run_fieldAddr hd hd' e2 hn _ _), r, hr, by rw [Nat.add_assoc]⟩
      · rename_i off ft n p j g e2 e3
        split at h
        · exact h.elim
        · rename_i hn
          obtain rfl := h
          rw [e3] at hx
          obtain ⟨r, hr, hv⟩ := hx
          exact ⟨_, run_v (by unfold execOp; rw [ho]) (by rw [hv]; exact run_fieldAddr hd hd' e2 hn _ _), r, hr, by rw [Nat.add_assoc]⟩
      · exact h.elim
    · exact h.elim
  case field t x f =>
    have hx := hs.ev x
    split at h
    · rename_i fs xs e1 e3
      obtain ⟨i, hi, hik⟩ : ∃ i, T t = some i ∧ i.k = .struct fs := by simpa [Option.map_eq_some_iff] using e1
      obtain ⟨d, hd, hd'⟩ := (hT t i hi).kind
      rw [hik] at hd'
      rw [e3] at hx
      obtain ⟨ys, hv, hl, hrel, hone⟩ := hx
      split at h
      · rename_i off ft n e2
        have hft : n = (((C.P.info? ft).map (·.size)).getD 0) := by
          obtain ⟨fa, _, hl⟩ := hd'
          subst hl
          simp only [List.getElem?_map, Option.map_eq_some_iff, Prod.mk.injEq] at e2
          obtain ⟨fd, _, _, h2, h3⟩ := e2
          rw [← h3, h2]
        split at h
        · rename_i e4
          obtain ⟨j, hj, hja⟩ : ∃ j, T ft = some j ∧ j.k.agg = true := by simpa [Option.map_eq_some_iff] using e4
          have hag := (hT ft j hj).isAgg w
          rw [hja] at hag
          have hsz := (hT ft j hj).size
          rw [hsz] at hft
          simp only [Option.getD_some] at hft
          subst hft
          split at h
          · rename_i hle
            obtain rfl := h
            refine ⟨_, run_v (by unfold execOp; rw [ho]) (by rw [hv, run_field hd hd' e2, part_agg hag hsz]), (ys.drop off).take j.size, ?_, ?_, ?_, ?_⟩
            · simp
            · simp only [List.length_take, List.length_drop, hl]
            · intro i s hs'
              simp only [List.getElem?_take, List.getElem?_drop] at hs' ⊢
              split at hs'
              · rename_i hlt; rw [if_pos hlt]; exact hrel _ _ hs'
              · cases hs'
            · exact fun u hu => hone u (List.mem_of_mem_drop (List.mem_of_mem_take hu))
          · exact h.elim
        · rename_i e4
          obtain ⟨j, hj, hja⟩ : ∃ j, T ft = some j ∧ j.k.agg = false := by simpa [Option.map_eq_some_iff] using e4
          have hag := (hT ft j hj).isAgg w
          rw [hja] at hag
          split at h
          · rename_i hlt
            obtain rfl := h
            obtain ⟨u, hu, h1⟩ := hrel off _ (getD_elem hlt)
            exact ⟨u, run_v (by unfold execOp; rw [ho]) (by rw [hv, run_field hd hd' e2, part_one hag (by simpa using hu)]), R_one h1⟩
          · exact h.elim
        · exact h.elim
      · exact h.elim
    · exact h.elim
  case indexAddr t x i =>
    have hx := hs.ev x; have hi := hs.ev i
    split at h
    · rename_i e esz ek p k j e1 e2 e3
      obtain ⟨ti, hti, hik⟩ : ∃ i, T t = some i ∧ i.k = .slice e esz ek := by simpa [Option.map_eq_some_iff] using e1
      obtain ⟨d, hd, hd'⟩ := (hT t ti hti).kind
      rw [hik] at hd'
      rw [e2] at hx; rw [e3] at hi
      obtain hi : a.eval i = _ := hi
      split at h
      · rename_i own tid c e4
        split at h
        · rename_i hsz
          obtain ⟨hb, rfl⟩ := h
          obtain ⟨r, hr, hv, hrs, hle, hnil⟩ := hs.row e4 hx
          have hn : r.nil = false := by
            cases hq : r.nil with
            | false => rfl
            | true => have := hnil hq; omega
          have hbase : r.base = some ⟨r.blk, r.off, none⟩ := by simp [Ref.base, hn]
          refine ⟨_, run_v (by unfold execOp; rw [ho]) (by rw [hv, hi, hbase]; exact run_indexAddr hd hd' hb), r, hr, ?_⟩
          rw [addr_add, hrs, hsz, Nat.add_zero]
        · exact h.elim
      · exact h.elim
    · rename_i e esz ek p l n k j e1 e2 e3
      obtain ⟨ti, hti, hik⟩ : ∃ i, T t = some i ∧ i.k = .slice e esz ek := by simpa [Option.map_eq_some_iff] using e1
      obtain ⟨d, hd, hd'⟩ := (hT t ti hti).kind
      rw [hik] at hd'
      rw [e2] at hx; rw [e3] at hi
      obtain hi : a.eval i = _ := hi
      split at h
      · rename_i own tid c e4
        split at h
        · rename_i hsz
          obtain ⟨hb, rfl⟩ := h
          obtain ⟨r, hr, hle, hv⟩ := hx
          obtain ⟨r', hr', hsat, _⟩ := hs.chunk e4
          rw [hr] at hr'; cases hr'
          obtain ⟨_, hrs, _, hnil, _⟩ := hsat
          have hn : r.nil = false := by
            cases hq : r.nil with
            | false => rfl
            | true => have := hnil hq; omega
          have hbase : r.from l = some ⟨r.blk, r.off + l * r.sz, none⟩ := by
            unfold Ref.from
            rw [hn, if_neg (by simp), if_neg (by omega)]
          refine ⟨_, run_v (by unfold execOp; rw [ho]) (by rw [hv, hi, hbase]; exact run_indexAddr hd hd' hb), r, hr, ?_⟩
          rw [addr_add, hrs, hsz, Nat.add_zero, Nat.add_mul, Nat.add_assoc]
        · exact h.elim
      · exact h.elim
    · exact h.elim
  case index t x i =>
    have hx := hs.ev x; have hi := hs.ev i
    split at h
    · rename_i s k j e1 e2 e3
      obtain ⟨ti, hti, hik⟩ : ∃ i, T t = some i ∧ i.k = .str := by simpa [Option.map_eq_some_iff] using e1
      obtain ⟨d, hd, hd'⟩ := (hT t ti hti).kind
      rw [hik] at hd'; obtain rfl : d = .string := hd'
      rw [e2] at hx; rw [e3] at hi
      obtain hx : a.eval x = _ := hx
      obtain hi : a.eval i = _ := hi
      obtain ⟨hb, rfl⟩ := h
      obtain ⟨b, h1, h2⟩ := bt_get s j hb
      refine ⟨.int .u8 b.toNat, run_v (by unfold execOp; rw [ho]) ?_, by rw [h2]; rfl⟩
      simp only [hx, hi, Instr.index, asIntOf, Sem.run_bind, Sem.run_pure, Result.andThen_ok, run_underlying hd, if_pos hb.1, h1]
    · exact h.elim
  case extract x i =>
    have hx := hs.ev x
    split at h
    · rename_i xs e1
      rw [e1] at hx
      split at h
      · rename_i hlt
        obtain rfl := h
        obtain ⟨ys, hv, hl, hrel⟩ := hx
        obtain ⟨u, hu, h1⟩ := hrel i _ (getD_elem hlt)
        refine ⟨u, ?_, ?_⟩
        · have hu' : ys.toArray[i]? = some u := by simpa using hu
          exact run_v (by unfold execOp; rw [ho]) (by rw [hv]; simp only [Instr.extract, hu', Sem.run_pure])
        · generalize nth xs i = s at h1
          cases s <;> first | exact h1 | exact h1.elim
      · exact h.elim
    · exact h.elim
  case nilCheck x =>
    have hx := hs.ev x
    split at h
    · rename_i p f e; obtain rfl := h; rw [e] at hx
      obtain ⟨r, hr, hv⟩ := hx
      exact ⟨_, by unfold execOp; rw [ho]; simp only [hv]; rfl, r, hr, rfl⟩
    · rename_i p i f e; obtain rfl := h; rw [e] at hx
      obtain ⟨r, hr, hv⟩ := hx
      exact ⟨_, by unfold execOp; rw [ho]; simp only [hv]; rfl, r, hr, rfl⟩
    · rename_i f cs e; obtain rfl := h; rw [e] at hx
      obtain ⟨ys, hv, hl, hrel⟩ := hx
      exact ⟨_, by unfold execOp; rw [ho]; simp only [hv]; rfl, ys, rfl, hl, hrel⟩
    · exact h.elim
  case slice t x l hh mx =>
    cases mx with
    | some m => exact h.elim
    | none =>
      have hx := hs.ev x
      have hls : ∀ s, l.map S.ev = some s → ∃ u, l.map a.eval = some u ∧ R β s u := fun s hs' => by
        cases l with
        | none => cases hs'
        | some o => cases hs'; exact ⟨_, rfl, hs.ev o⟩
      have hhs : ∀ s, hh.map S.ev = some s → ∃ u, hh.map a.eval = some u ∧ R β s u := fun s hs' => by
        cases hh with
        | none => cases hs'
        | some o => cases hs'; exact ⟨_, rfl, hs.ev o⟩
      simp only at h
      split at h
      · rename_i s e1 e2
        obtain ⟨ti, hti, hik⟩ : ∃ i, T t = some i ∧ i.k = .str := by simpa [Option.map_eq_some_iff] using e1
        obtain ⟨d, hd, hd'⟩ := (hT t ti hti).kind
        rw [hik] at hd'; obtain rfl : d = .string := hd'
        rw [e2] at hx
        obtain hx : a.eval x = _ := hx
        split at h
        · rename_i c p q e3
          obtain ⟨hc, rfl⟩ := h
          obtain ⟨hb, _, _⟩ := run_bounds (P := C.P) (w := w) (sl := false) e3 hc (Nat.le_refl _) hls (fun e => by cases l <;> simp_all) hhs (fun e => by cases hh <;> simp_all)
          refine ⟨_, run_v (by unfold execOp; rw [ho]) ?_, rfl⟩
          simp only [hx, Instr.sliceAt, Instr.slice, Sem.run_bind, Sem.run_pure, Result.andThen_ok, run_underlying hd, Option.map_none, Option.isSome_none, Bool.false_eq_true, if_false, hb]
        · exact h.elim
      · rename_i e esz ek p e1 e2
        obtain ⟨ti, hti, hik⟩ : ∃ i, T t = some i ∧ i.k = .slice e esz ek := by simpa [Option.map_eq_some_iff] using e1
        obtain ⟨d, hd, hd'⟩ := (hT t ti hti).kind
        rw [hik] at hd'; obtain ⟨rfl, hsz0⟩ := hd'
        rw [e2] at hx
        split at h
        · rename_i own tid c e4
          split at h
          · rename_i hsz
            split at h
            · rename_i cc p' q e3
              obtain ⟨hc, rfl⟩ := h
              obtain ⟨r, hr, hv, hrs, hle, hnil⟩ := hs.row e4 hx
              obtain ⟨hb, h1, h2⟩ := run_bounds (P := C.P) (w := w) (sl := true) e3 hc hle hls (fun e => by cases l <;> simp_all) hhs (fun e => by cases hh <;> simp_all)
              refine ⟨.slice (r.from p') (q - p') (r.cap - p'), run_v (by unfold execOp; rw [ho]) ?_, r, hr, by omega, rfl⟩
              simp only [hv, Instr.sliceAt, Instr.slice, Sem.run_bind, Sem.run_pure, Result.andThen_ok, run_underlying hd, Option.map_none, run_sizeOf' hsz0, hb]
              have e : (if r.cap = p' then r.base else Option.map (fun x : Addr => x.add (p' * esz)) r.base) = r.from p' := by
                unfold Ref.from Ref.base
                rw [hrs, hsz]
                cases r.nil <;> simp [addr_add]
              rw [e]
            · exact h.elim
          · exact h.elim
        · exact h.elim
      · exact h.elim

end
end E
end Go.Proofs.Ytlkchnfgeedghaa
