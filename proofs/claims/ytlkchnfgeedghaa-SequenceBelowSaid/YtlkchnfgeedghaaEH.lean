/- Comparing with nil, capacities, slicing past the length, copy, overlaps. It states nothing about the program. -/
import Derived.Test.YtlkchnfgeedghaaEG
import Derived.Lib.Overlaps
import Derived.Laws.BitsLemmas
namespace Go.Proofs.Ytlkchnfgeedghaa
namespace E
open Go

section
variable {C : Cx} {T : Tys} {S : St} {o : Oper} {K : SV → St → Prop}

theorem val_rule (h : ∀ β a w, Sat C β S a w → ∃ u s, (execOp a.eval o).run C.P w = .ok (.value u) w ∧ R β s u ∧ K s S) : OpP C o S K := by
  refine ⟨fun β a w hs next Q hn => ?_⟩
  obtain ⟨u, s, hr, hR, hk⟩ := h β a w hs
  exact wp_value hr (hn β s u S w hs hR hk)

theorem under_of (hT : TysOK C.P T) {t e esz : Nat} {ek : EK} (hk : (T t).map TI.k = some (.slice e esz ek)) : C.P.underlying t = some (.slice e) ∧ (C.P.info? e).map (·.size) = some esz := by
  obtain ⟨ti, hti, hki⟩ : ∃ i, T t = some i ∧ i.k = .slice e esz ek := by simpa [Option.map_eq_some_iff] using hk
  obtain ⟨td, htd, hkd⟩ := (hT t ti hti).kind
  rw [hki] at hkd
  obtain ⟨rfl, hes⟩ := hkd
  exact ⟨htd, hes⟩

/-- A slice against nil. -/
theorem nil_rule (hT : TysOK C.P T) {t t' e esz p : Nat} {ek : EK} {x : Operand} {own : Bool} {tid : TypeId} {c : RowC} (ho : o.op = .binOp .eql t x (.const (.slice none 0 0)) t') (hk : (T t).map TI.k = some (.slice e esz ek))
    (hx : S.ev x = .full p) (hg : get p S.H = some (own, .row tid c)) (hK : ∀ b : Bool, (b = true → c.len = 0) → K (.v (.bool b)) S) : OpP C o S K := by
  refine val_rule fun β a w hs => ?_
  obtain ⟨htd, hes⟩ := under_of hT hk
  have hex := hs.ev x
  rw [hx] at hex
  obtain ⟨r, hr, hv, hrs, hle, hnil⟩ := hs.row hg hex
  refine ⟨.bool r.nil, .v (.bool r.nil), run_v (m := do eqGuard .eql t x (.const (.slice none 0 0)) (a.eval x) (.slice none 0 0); binOp .eql t (a.eval x) (.slice none 0 0)) (by unfold execOp; rw [ho]; rfl) ?_, rfl, hK _ (fun h => by have := hnil h; omega)⟩
  have h1 : (eqGuard .eql t x (.const (.slice none 0 0)) (.slice r.base c.len r.cap) (.slice none 0 0)).run C.P w = .ok () w := by unfold eqGuard; simp
  have h2 : (Op.equal t (.slice r.base c.len r.cap) (.slice none 0 0)).run C.P w = .ok r.nil w := by
    unfold Op.equal Op.maxDepth
    rw [Op.equalIn, Sem.run_bind, run_underlying htd]
    simp only [Result.andThen_ok, Ref.base]
    cases r.nil <;> rfl
  rw [hv, Sem.run_bind, h1, Result.andThen_ok]
  unfold binOp
  simp only [Sem.run_bind, h2, Result.andThen_ok, Sem.run_pure]

/-- cap(s): some number, which is noted. -/
theorem cap_rule (hT : TysOK C.P T) {t e esz p : Nat} {ek : EK} {x : Operand} {own : Bool} {tid : TypeId} {c : RowC} {cl : Call} (ho : o.op = .call cl) (hc : cl.callee = .builtin .cap) (ha : cl.args.toList = [x]) (ht : cl.argTypes.toList = [t])
    (hk : (T t).map TI.k = some (.slice e esz ek)) (hx : S.ev x = .full p) (hg : get p S.H = some (own, .row tid c))
    (hK : ∀ n : Nat, c.len ≤ n → K (.v (.int .i64 n)) { S with H := (S.nx, false, .cap p n) :: S.H, nx := S.nx + 1 }) : OpP C o S K := by
  refine ⟨fun β a w hs next Q hn => ?_⟩
  have hargs : cl.args = #[x] := by rw [← Array.toArray_toList (xs := cl.args), ha]
  have htys : cl.argTypes = #[t] := by rw [← Array.toArray_toList (xs := cl.argTypes), ht]
  obtain ⟨htd, hes⟩ := under_of hT hk
  have hex := hs.ev x
  rw [hx] at hex
  obtain ⟨r, hr, hv, hrs, hle, hnil⟩ := hs.row hg hex
  have hno : β S.nx = none := hs.names _ (Nat.le_refl _)
  have hrun : (execOp a.eval o).run C.P w = .ok (.value (.int .i64 r.cap)) w := by
    unfold execOp
    rw [ho]
    simp only [resolve, hc, hargs, invoke, builtin, htys, List.map_toArray, List.map_cons, List.map_nil, Sem.run_bind, Sem.run_pure, Result.andThen_ok, Builtin.cap_, hv]
    simp [run_underlying htd]
    rfl
  have hne : ∀ {q o ch}, (q, o, ch) ∈ S.H → q ≠ S.nx := fun {q o ch} hq e => by
    obtain ⟨r2, e2, _⟩ := hs.heap.sat _ _ _ hq
    rw [e, hno] at e2; cases e2
  refine wp_value hrun (hn (ext β S.nx r) (.v (.int .i64 r.cap)) _ { S with H := (S.nx, false, .cap p r.cap) :: S.H, nx := S.nx + 1 } w (hs.newName ⟨hs.heap.fr, hs.heap.xs, fun q o ch hq => ?_, fun q o ch o' ch' h1 h2 => ?_, fun q q' cq cq' rq rq' h1 h2 hqq h3 h4 h5 h6 => ?_, fun q o ch rq k hq hrq hk => ?_⟩) rfl (hK r.cap hle))
  · rcases List.mem_cons.1 hq with h | h
    · cases h
      exact ⟨r, ext_self _ _ _, ⟨r, ext_le hno _ _ hr, rfl⟩, by simp only [Lies, Bool.false_eq_true, if_false]; exact fun h => h.elim⟩
    · obtain ⟨r2, e2, s2, l2⟩ := hs.heap.sat _ _ _ h
      exact ⟨r2, ext_le hno _ _ e2, SatC_same (ext_le hno) (fun _ => rfl) (fun _ _ => rfl) s2, l2⟩
  · rcases List.mem_cons.1 h1 with h1 | h1 <;> rcases List.mem_cons.1 h2 with h2 | h2
    · cases h1; cases h2; rfl
    · cases h1; exact absurd rfl (hne h2)
    · cases h2; exact absurd rfl (hne h1)
    · exact hs.heap.uniq _ _ _ _ _ h1 h2
  · rcases List.mem_cons.1 h1 with h1 | h1
    · cases h1
    · rcases List.mem_cons.1 h2 with h2 | h2
      · cases h2
      · simp only [ext, if_neg (hne h1)] at h3
        simp only [ext, if_neg (hne h2)] at h4
        exact hs.heap.apart _ _ _ _ _ _ h1 h2 hqq h3 h4 h5 h6
  · rcases List.mem_cons.1 hq with h | h
    · cases h; cases hk
    · simp only [ext, if_neg (hne h)] at hrq
      obtain ⟨a1, a2, a3, a4, a5⟩ := hs.heap.kid _ _ _ _ _ h hrq hk
      refine ⟨a1, a2, a3, fun q' cq rq' hq' hrq' hnq' => ?_, fun q' o' cq rq' hq' hne' hrq' hk' => ?_⟩
      · rcases List.mem_cons.1 hq' with h' | h'
        · cases h'
        · simp only [ext, if_neg (hne h')] at hrq'
          exact a4 _ _ _ h' hrq' hnq'
      · rcases List.mem_cons.1 hq' with h' | h'
        · cases h'; cases hk'
        · simp only [ext, if_neg (hne h')] at hrq'
          exact a5 _ _ _ _ h' hne' hrq' hk'

theorem bound_nat {P : Program} {w : World} (k : IntKind) {n y : Nat} (h : n ≤ y) (code : BoundsCode) : (Instr.sliceBound (.int k n) y code).run P w = .ok n w := by
  rw [run_sliceBound (by omega)]; simp

/-- s[:h], h past the length but not past the capacity. -/
theorem reslice_rule (hT : TysOK C.P T) {t e esz p q n k : Nat} {ek : EK} {x h : Operand} {tid : TypeId} {c : RowC} {kk : IntKind} {hv : Int} (ho : o.op = .slice t x none (some h) none) (hk : (T t).map TI.k = some (.slice e esz ek))
    (hx : S.ev x = .full p) (hg : get p S.H = some (true, .row tid c)) (hq : get q S.H = some (false, .cap p n)) (hh : S.ev h = .v (.int kk hv)) (hhv : hv = ((c.len + k : Nat) : Int)) (hle : c.len + k ≤ n) (hpos : 0 < c.len)
    (hK : ∀ d : RowC, c.like d → d.len = k → K (.full S.nx) { S with H := (S.nx, true, .row tid (c.ap d)) :: delC p S.H, nx := S.nx + 1 }) : OpP C o S K := by
  subst hhv
  refine ⟨fun β a w hs next Q hn => ?_⟩
  obtain ⟨htd, hes⟩ := under_of hT hk
  have hex := hs.ev x
  rw [hx] at hex
  obtain ⟨r, hr, hsat, _⟩ := hs.chunk hg
  obtain ⟨r', hr', hvx⟩ := hex
  rw [hr] at hr'; cases hr'
  obtain ⟨_, _, ⟨rp, hrp, hcap⟩, _⟩ := hs.chunk hq
  rw [hr] at hrp; cases hrp
  have hno : β S.nx = none := hs.names _ (Nat.le_refl _)
  have hnil : r.nil = false := by
    obtain ⟨_, _, b3, b4, _⟩ := hsat
    cases hq : r.nil with
    | false => rfl
    | true => have := b4 hq; omega
  obtain ⟨hoff, hrn, hrsz, F, hF, hFl, hFk, hFt⟩ := whole_of_row hsat hnil
  have hkF : RowC.like c ((F.drop c.len).take k) := RowC.like_trans hFk (RowC.like_trans (RowC.drop_like F _) (RowC.take_like _ _))
  have hdl : ((F.drop c.len).take k).len = k := RowC.take_len (by rw [RowC.drop_len]; omega)
  have hap : F.take (c.len + k) = c.ap ((F.drop c.len).take k) := by
    refine RowC.ext_get (RowC.like_trans (RowC.like_symm (RowC.take_like _ _)) (RowC.like_trans (RowC.like_symm hFk) (RowC.ap_like c _))) (by rw [RowC.take_len (by omega), RowC.ap_len hkF, hdl]) fun j hj => ?_
    rw [RowC.take_len (by omega)] at hj
    rw [RowC.take_get hj]
    by_cases hjc : j < c.len
    · rw [RowC.ap_left hjc, ← hFt, RowC.take_get hjc]
    · obtain ⟨m, rfl⟩ : ∃ m, j = c.len + m := ⟨j - c.len, by omega⟩
      rw [RowC.ap_right hkF, RowC.take_get (by omega), RowC.drop_get]
  have hA : r.base = some ⟨r.blk, 0, none⟩ := by simp [Ref.base, hnil, hoff]
  have heh := hs.ev h
  rw [hh] at heh
  have heh : a.eval h = .int kk ((c.len + k : Nat) : Int) := heh
  have hrun : (execOp a.eval o).run C.P w = .ok (.value (.slice r.base (c.len + k) r.cap)) w := by
    refine run_v (by unfold execOp; rw [ho]) ?_
    simp only [hvx, heh, Option.map_some, Option.map_none, Instr.sliceAt, Instr.slice, Instr.sliceBounds, Sem.run_bind, Sem.run_pure, Result.andThen_ok, run_underlying htd, bound_nat kk (show c.len + k ≤ r.cap by omega), run_sizeOf' hes, Option.isSome_none, Bool.false_eq_true, if_false]
    have hcz : ¬ r.cap = 0 := by omega
    rw [hA]
    simp [addr_add, hcz]
  have hrow := row_of_whole (β := ext β S.nx ⟨r.blk, 0, false, F.len, c.len + k, F.sz⟩) hF (n := c.len + k) (by omega)
  rw [hap] at hrow
  refine wp_value hrun (hn (ext β S.nx ⟨r.blk, 0, false, F.len, c.len + k, F.sz⟩) (.full S.nx) _ _ w (hs.newName (SatH.swap (r' := ⟨r.blk, 0, false, F.len, c.len + k, F.sz⟩) hs.heap (get_mem hg) hr hnil hno rfl rfl rfl rfl rfl (fun _ _ => rfl) hrow rfl)) ⟨_, ext_self _ _ _, by simp [Ref.base, hnil, hoff, hFl]⟩ (hK _ hkF hdl))

/-- copy into an own row. -/
theorem copy_rule (hT : TysOK C.P T) {t t' e esz p lo n : Nat} {ek : EK} {x y : Operand} {c d : RowC} {cl : Call} (ho : o.op = .call cl) (hc : cl.callee = .builtin .copy) (ha : cl.args.toList = [x, y]) (ht : cl.argTypes.toList = [t, t'])
    (hk : (T t).map TI.k = some (.slice e esz ek)) (hsz : c.sz = esz) (hlike : RowC.like c d) (hx : S.ev x = .sl p lo n) (hg : get p S.H = some (true, .row e c)) (hy : rowM S.H e d (S.ev y)) (hn0 : 0 < n) (hln : lo + n ≤ c.len)
    (hK : K (.v (.int .i64 (min d.len n : Nat))) { S with H := setC p (.row e (c.over lo (d.take (min d.len n)))) S.H }) : OpP C o S K := by
  refine ⟨fun β a w hs next Q hn => ?_⟩
  have hargs : cl.args = #[x, y] := by rw [← Array.toArray_toList (xs := cl.args), ha]
  have htys : cl.argTypes = #[t, t'] := by rw [← Array.toArray_toList (xs := cl.argTypes), ht]
  obtain ⟨htd, hes⟩ := under_of hT hk
  have hex := hs.ev x
  rw [hx] at hex
  obtain ⟨r, hr, hsat, _⟩ := hs.chunk hg
  obtain ⟨r', hr', _, hvx⟩ := hex
  rw [hr] at hr'; cases hr'
  have hnil : r.nil = false := by
    obtain ⟨_, _, b3, b4, _⟩ := hsat
    cases hq : r.nil with
    | false => rfl
    | true => have := b4 hq; omega
  obtain ⟨b1, b2, b3, b4, b5, _⟩ := id hsat
  obtain ⟨hoff, hrn, hrsz, F, hF, hFl, hFk, hFt⟩ := whole_of_row hsat hnil
  have hFz : F.sz = c.sz := RowC.like_sz hFk
  have hdz : d.sz = c.sz := RowC.like_sz hlike
  have hkF : RowC.like F (d.take (min d.len n)) := RowC.like_trans (RowC.like_symm hFk) (RowC.like_trans hlike (RowC.take_like _ _))
  have htl : (d.take (min d.len n)).len = min d.len n := RowC.take_len (Nat.min_le_left _ _)
  have hmin : min d.len n ≤ n := Nat.min_le_right _ _
  obtain ⟨w', hst, hW, g4, g5, g6, g7, hdr, g8⟩ := whole_over (P := C.P) hF hkF (lo := lo) (by omega)
  obtain ⟨rd, hrd, hsd, _, hvd⟩ := rowM_ok hs hy
  have hvy := hvd _ (hs.ev y)
  obtain ⟨d1, d2, d3, d4, d5, d6⟩ := hsd β
  have hsrc : (Builtin.firstCells esz (min d.len n) (a.eval y)).run C.P w = .ok (d.cells (min d.len n)).toArray w := by
    rw [hvy, ← hsz, ← hdz]
    refine firstCells_row (Nat.min_le_left _ _) (A := rd.base) (b := rd.blk) (o := rd.off) (fun hpos => ?_) (fun j hj q u hu => d5 j hj q u hu)
    have : rd.nil = false := by
      cases hq : rd.nil with
      | false => rfl
      | true => have := d4 hq; have := Nat.min_le_left d.len n; omega
    simp [Ref.base, this]
  have hcells : (d.take (min d.len n)).cells (d.take (min d.len n)).len = d.cells (min d.len n) := by
    rw [htl]
    have h1 : ∀ i, i < (d.take (min d.len n)).len → d.get i = (d.take (min d.len n)).get i := fun i hi => by
      rw [htl] at hi; exact (RowC.take_get hi).symm
    exact (RowC.cells_congr h1 _ (by rw [htl]; exact Nat.le_refl _)).symm
  have hfrom : r.from lo = some ⟨r.blk, lo * F.sz, none⟩ := by
    have : ¬ r.cap = lo := by omega
    simp [Ref.from, hnil, this, hoff, hrsz, hFz]
  have hrun : (execOp a.eval o).run C.P w = .ok (.value (.int .i64 (min d.len n : Nat))) w' := by
    unfold execOp
    rw [ho]
    have e1 : (Builtin.lenOf (a.eval y)).run C.P w = .ok d.len w := by rw [hvy, d1]; rfl
    rw [hcells] at hst
    simp only [resolve, hc, hargs, invoke, builtin, htys, List.map_toArray, List.map_cons, List.map_nil, Sem.run_bind, Sem.run_pure, Result.andThen_ok, Builtin.copy_, hvx]
    simp only [List.getElem?_toArray, List.getElem?_cons_zero, List.getElem?_cons_succ, Sem.run_bind, Result.andThen_ok, run_underlying htd, e1, run_sizeOf' hes]
    rw [show Nat.min d.len n = min d.len n from rfl, hsrc]
    simp only [Result.andThen_ok, hfrom, Sem.run_bind, hst, Sem.run_pure]
    rfl
  have hover : (F.over lo (d.take (min d.len n))).take c.len = c.over lo (d.take (min d.len n)) := by
    have hkc : RowC.like c (d.take (min d.len n)) := RowC.like_trans hlike (RowC.take_like _ _)
    refine RowC.ext_get (RowC.like_trans (RowC.like_symm (RowC.take_like _ _)) (RowC.like_trans (RowC.like_symm (RowC.over_like F _ _)) (RowC.like_trans (RowC.like_symm hFk) (RowC.over_like c _ _)))) ?_ fun j hj => ?_
    · rw [RowC.take_len (by rw [RowC.over_len hkF (by omega)]; omega), RowC.over_len hkc (by omega)]
    · rw [RowC.take_len (by rw [RowC.over_len hkF (by omega)]; omega)] at hj
      rw [RowC.take_get hj, RowC.over_get hkF (by omega) j (by omega), RowC.over_get hkc (by omega) j hj]
      split
      · rfl
      · rw [← hFt, RowC.take_get hj]
  have hol := RowC.over_len hkF (lo := lo) (by omega)
  have hrow := row_of_whole (β := β) hW (n := c.len) (by omega)
  rw [hover] at hrow
  have hre : (⟨r.blk, 0, false, (F.over lo (d.take (min d.len n))).len, c.len, (F.over lo (d.take (min d.len n))).sz⟩ : Ref) = r := by
    have : (F.over lo (d.take (min d.len n))).sz = F.sz := RowC.like_sz (RowC.over_like _ _ _)
    rw [hol, this, hFl, hFz, ← hrsz, ← hrn, ← hoff, ← hnil]
  rw [hre] at hrow
  exact wp_value hrun (hn β (.v (.int .i64 (min d.len n : Nat))) _ { S with H := setC p (.row e (c.over lo (d.take (min d.len n)))) S.H } w' ⟨hs.heap.put (get_mem hg) hr hnil g4 g5 g6 g7 g8 hrow rfl, hs.base, hs.bk, hs.names, hs.defers, hs.size, hs.ts⟩ rfl hK)

/-- append(s[:i], make(..)...) where the room does not serve. -/
theorem run_append_zeros_out {P : Program} {w : World} {t tn ty e : TypeId} {i : TypeInfo} {z : Value} {kn : IntKind} (ht : P.underlying t = some (.slice e)) (htn : P.underlying tn = some (.int kn)) (hi : P.info? e = some i) (hz : i.zero = some z) {base : Option Addr} {sLen sCap m : Nat} {olds : List Value}
    (hm : 0 < m) (hs : 0 < i.size) (hold : (Builtin.firstCells i.size sLen (.slice base sLen sCap)).run P w.drew = .ok olds.toArray w.drew)
    (hg : sCap < sLen + m) (h63 : ((sLen + m : Nat) : Int) ≤ 9223372036854775807) (h48 : m * i.bytes ≤ 281474976710656) (hfit : Builtin.nextslicecap (sLen + m) sCap * i.bytes ≤ 281474976710656) :
    (Builtin.append_ #[t, tn] ty #[.slice base sLen sCap, .int .i64 m]).run P w = .ok (.slice (some ⟨w.heap.size, 0, none⟩) (sLen + m) (grownCap w (sLen + m) sCap e))
      (w.drew.alloc (.cells (olds.toArray ++ Builtin.zeroCells z.cells m ++ Builtin.zeroCells z.cells (grownCap w (sLen + m) sCap e - (sLen + m))) e)) := by
  have hn : ¬ (sLen + m ≤ sCap) := by omega
  have hw : IntKind.i64.wrap (m : Int) = m := by rw [IntKind.wrap_i64]; omega
  have h63' : ¬ (9223372036854775807 < ((sLen : Int) + (m : Int))) := by omega
  have h48' : ¬ (281474976710656 < Builtin.nextslicecap (sLen + m) sCap * i.bytes) := by omega
  have h48i : ¬ (281474976710656 < (m : Int) * (i.bytes : Int)) := by
    rw [← Int.natCast_mul]
    omega
  have hneg : ¬ ((m : Int) < 0) := by omega
  have hns : ¬ (m * i.size = 0) := Nat.mul_ne_zero (by omega) (by omega)
  simp [Builtin.append_, run_underlying ht, run_underlying htn, sizeOf, typeInfo, zeroValue, hi, hz, asInt, asIntOf, hw, hn, hneg, hns, h63', h48', h48i, Question.forced, hold, newRow, grownCap]

theorem zeros_cells (c : RowC) {z : Array Value} (hz : z.toList = (c.zeros 1).get 0) (m : Nat) : (((c.zeros m).cells (c.zeros m).len).toArray : Array Value) = Builtin.zeroCells z m := by
  have hsz : z.size = c.sz := by rw [← Array.length_toList, hz, RowC.get_length, RowC.like_sz (RowC.zeros_like c 1)]
  have hl := (c.zeros m).cells_length (c.zeros m).len
  rw [RowC.like_sz (RowC.zeros_like c m), RowC.zeros_len] at hl
  refine Array.ext (by rw [size_zeroCells, hsz]; simpa [RowC.zeros_len] using hl) fun j h1 h2 => ?_
  have hj : j < m * c.sz := by simpa [RowC.zeros_len, hl] using h1
  have hpos := c.sz_pos
  have hi : j / c.sz < m := Nat.div_lt_of_lt_mul (by rw [Nat.mul_comm]; exact hj)
  have hq : j % c.sz < c.sz := Nat.mod_lt _ hpos
  have e : j / c.sz * c.sz + j % c.sz = j := by rw [Nat.mul_comm]; exact Nat.div_add_mod j c.sz
  have g1 := getElem?_zeroCells z m (j / c.sz) (j % c.sz) (by omega) hi
  rw [hsz, e] at g1
  have hgl : j % c.sz < ((c.zeros m).get (j / c.sz)).length := by rw [RowC.get_length, RowC.like_sz (RowC.zeros_like c m)]; exact hq
  have g2 := RowC.cells_get (c.zeros m) (c.zeros m).len (j / c.sz) (j % c.sz) _ (by rw [RowC.zeros_len]; exact hi) (List.getElem?_eq_getElem hgl)
  rw [RowC.like_sz (RowC.zeros_like c m), e, ← List.getElem?_eq_getElem hgl, RowC.zeros_get _ hi, ← hz] at g2
  have g3 : (((c.zeros m).cells (c.zeros m).len).toArray : Array Value)[j]? = (Builtin.zeroCells z m)[j]? := by
    rw [g1, List.getElem?_toArray, g2]; simp
  rw [Array.getElem?_eq_getElem h1, Array.getElem?_eq_getElem h2] at g3
  exact Option.some.inj g3

theorem appendz_rule (hT : TysOK C.P T) {t tn e esz p q n i k : Nat} {ek : EK} {kn : IntKind} {cl : Call} {x y : Operand} {own : Bool} {c : RowC} {kv : Int} (ho : o.op = .call cl) (hc : cl.callee = .builtin .append) (ha : cl.args.toList = [x, y]) (ht : cl.argTypes.toList = [t, tn])
    (hk : (T t).map TI.k = some (.slice e esz ek)) (hkn : (T tn).map TI.k = some (.int kn)) (hz : (T e).map TI.zero = some ((c.zeros 1).get 0)) (hsz : c.sz = esz)
    (hx : S.ev x = .sl p 0 i) (hg : get p S.H = some (own, .row e c)) (hq : get q S.H = some (false, .cap p n)) (hy : S.ev y = .v (.int .i64 kv)) (hkv : kv = (k : Nat)) (hi : i ≤ c.len) (hgrow : n < i + k) (hlen : i + k ≤ 1000000000) (hk0 : 0 < k)
    (hK : K (.full S.nx) { S with H := (S.nx, true, .row e ((c.take i).ap (c.zeros k))) :: S.H, nx := S.nx + 1 }) : OpP C o S K := by
  subst hkv
  refine ⟨fun β a w hs next Q hn => ?_⟩
  have hargs : cl.args = #[x, y] := by rw [← Array.toArray_toList (xs := cl.args), ha]
  have htys : cl.argTypes = #[t, tn] := by rw [← Array.toArray_toList (xs := cl.argTypes), ht]
  have hno : β S.nx = none := hs.names _ (Nat.le_refl _)
  obtain ⟨htd, hes⟩ := under_of hT hk
  obtain ⟨ti, hti, hki⟩ : ∃ i, T tn = some i ∧ i.k = .int kn := by simpa [Option.map_eq_some_iff] using hkn
  obtain ⟨td, htnd, hkd⟩ := (hT tn ti hti).kind
  rw [hki] at hkd
  obtain rfl : td = .int kn := hkd
  obtain ⟨ei, hei, hzi⟩ : ∃ i, T e = some i ∧ i.zero = (c.zeros 1).get 0 := by simpa [Option.map_eq_some_iff] using hz
  have hE := hT e ei hei
  obtain ⟨z, hz1, hz2, hz3⟩ := hE.zero
  obtain ⟨inf, hi', hbytes⟩ : ∃ inf, C.P.info? e = some inf ∧ inf.bytes ≤ 4096 := by
    have := hE.bytes
    simp only [Option.map_eq_some_iff] at this
    obtain ⟨i, hi, h⟩ := this
    exact ⟨i, hi, by simpa using h⟩
  have hzero : inf.zero = some z := by rw [hi'] at hz1; simpa using hz1
  have hzl : z.cells.toList = (c.zeros 1).get 0 := hz2.trans hzi
  have hisz : inf.size = c.sz := by rw [hi'] at hes; simpa [hsz] using hes
  have hex := hs.ev x
  rw [hx] at hex
  obtain ⟨r, hr, hsat, _⟩ := hs.chunk hg
  obtain ⟨r', hr', _, hvx⟩ := hex
  rw [hr] at hr'; cases hr'
  obtain ⟨_, _, ⟨rp, hrp, hcap⟩, _⟩ := hs.chunk hq
  rw [hr] at hrp; cases hrp
  have hey := hs.ev y
  rw [hy] at hey
  have hey : a.eval y = .int .i64 (k : Nat) := hey
  obtain ⟨b1, b2, b3, b4, b5, _⟩ := id hsat
  have htl := RowC.take_len hi
  have htz : (c.take i).sz = c.sz := RowC.like_sz (RowC.take_like c i)
  have hlike : RowC.like (c.take i) (c.zeros k) := RowC.like_trans (RowC.like_symm (RowC.take_like c i)) (RowC.zeros_like c k)
  have hzz : z.cells.toList = ((c.take i).zeros 1).get 0 := by rw [hzl]; cases c <;> rfl
  have hold : (Builtin.firstCells inf.size i (.slice (r.from 0) i (r.cap - 0))).run C.P w.drew = .ok ((c.take i).cells (c.take i).len).toArray w.drew := by
    rw [hisz, htl, ← htz]
    refine firstCells_row (by rw [htl]; exact Nat.le_refl _) (b := r.blk) (o := r.off) (fun hpos => ?_) (fun j hj u v hu => ?_)
    · have : r.nil = false := by
        cases hq : r.nil with
        | false => rfl
        | true => have := b4 hq; omega
      simp [Ref.from, this]
    · rw [htl] at hj
      rw [RowC.take_get hj] at hu
      rw [World.cell?_drew, htz]
      exact b5 j (by omega) u v hu
  have hop : execOp a.eval o = (do pure (Next.value (← Builtin.append_ #[t, tn] o.type #[a.eval x, a.eval y]))) := by
    unfold execOp
    rw [ho]
    simp only [resolve, hc, hargs, invoke, builtin, htys, List.map_toArray, List.map_cons, List.map_nil, pure_bind]
  have hb4 : (i + k) * inf.bytes ≤ 140737488355328 := by
    have := Nat.mul_le_mul hlen hbytes
    omega
  have hrun := run_append_zeros_out (P := C.P) (w := w) (ty := o.type) htd htnd hi' hzero (base := r.from 0) (sLen := i) (sCap := r.cap - 0) (m := k) hk0 (by rw [hisz]; exact c.sz_pos) hold (by omega) (by omega)
    (by have : k * inf.bytes ≤ (i + k) * inf.bytes := Nat.mul_le_mul_right _ (by omega)
        omega) (growslice_fits (by omega) hb4)
  rw [← hvx, ← hey] at hrun
  have hge := grownCap_ge w (i + k) (r.cap - 0) e
  have hzc : Builtin.zeroCells z.cells k = (((c.zeros k).cells (c.zeros k).len).toArray : Array Value) := (zeros_cells c hzl k).symm
  have hap : ((c.take i).ap (c.zeros k)).len = i + k := by rw [RowC.ap_len hlike, htl, RowC.zeros_len]
  obtain ⟨W, hWe⟩ : ∃ W, W = w.drew.alloc (.cells (((c.take i).cells (c.take i).len).toArray ++ Builtin.zeroCells z.cells k ++ Builtin.zeroCells z.cells (grownCap w (i + k) (r.cap - 0) e - (i + k))) e) := ⟨_, rfl⟩
  rw [← hWe] at hrun
  have hW := whole_grown (w := W) (b := w.heap.size) (n := grownCap w (i + k) (r.cap - 0) e) (tid := e) hlike hzz (by
    rw [htl, RowC.zeros_len, hWe, htl, hzc, RowC.zeros_len]
    exact heap_new _ _)
  rw [htl, RowC.zeros_len] at hW
  have hk2 : RowC.like ((c.take i).ap (c.zeros k)) ((c.take i).zeros (grownCap w (i + k) (r.cap - 0) e - (i + k))) := RowC.like_trans (RowC.like_symm (RowC.ap_like _ _)) (RowC.zeros_like _ _)
  have hwl : (((c.take i).ap (c.zeros k)).ap ((c.take i).zeros (grownCap w (i + k) (r.cap - 0) e - (i + k)))).len = grownCap w (i + k) (r.cap - 0) e := by
    rw [RowC.ap_len hk2, hap, RowC.zeros_len]; omega
  have hrow := fun β' => row_of_whole (β := β') hW (n := i + k) (by omega)
  have htake := RowC.take_ap hk2
  rw [hap] at htake
  simp only [htake, hwl] at hrow
  have hgh : SatH C β S.H W := by
    rw [hWe]
    exact hs.heap.grow (Le.refl _) rfl rfl rfl (by simp) (fun k hk => Go.RowKit.Below.heap_alloc w.drew _ k hk)
  exact wp_value (run_v' hop hrun) (hn (ext β S.nx ⟨w.heap.size, 0, false, grownCap w (i + k) (r.cap - 0) e, i + k, _⟩) (.full S.nx) _ _ _ (hs.newName (hgh.cons hno (hrow _) hs.heap (Nat.le_refl _) (.inl (by rw [hWe]; simp)) (fun k hk => by rw [hWe]; exact Go.RowKit.Below.heap_alloc w.drew _ k hk) rfl)) ⟨_, ext_self _ _ _, by simp [Ref.base]⟩ hK)

/-- slices.overlaps at two own rows. -/
theorem overlaps_rule (hT : TysOK C.P T) {t tR e esz p q lo n : Nat} {ek : EK} {c d : RowC} {f : FuncId} {fn : Func} {P : Program} (hP : C.P = P) (hf : P.funcs[f]? = some fn) (hname : (fn.name == "runtime.NumGoroutine") = false) (hb : fn.body.isNone = true) (hn : Extern.findNext fn = none)
    (he : Extern.find fn = some (Extern.SlicesOverlaps.overlaps #[t, t] #[tR])) (hk : (T t).map TI.k = some (.slice e esz ek)) (hg : get p S.H = some (true, .row e c)) (hq : get q S.H = some (true, .row e d)) (hpq : p ≠ q) (hn0 : 0 < n) (hln : lo + n ≤ c.len) (hd : 0 < d.len)
    (hK : K (.v (.bool false)) S) : CallP C f [.full q, .sl p lo n] S K := by
  subst hP
  refine ⟨fun β a w hs vs hvs => .inr ?_⟩
  obtain ⟨htd, hes⟩ := under_of hT hk
  obtain ⟨hl, hrel⟩ := hvs
  obtain ⟨r1, hr1, hs1, _⟩ := hs.chunk hg
  obtain ⟨r2, hr2, hs2, _⟩ := hs.chunk hq
  obtain ⟨u1, hu1, ra, hra, hv1⟩ := hrel 0 _ rfl
  obtain ⟨u2, hu2, rb, hrb, _, hv2⟩ := hrel 1 _ rfl
  rw [hr2] at hra; cases hra
  rw [hr1] at hrb; cases hrb
  have hn1 : r1.nil = false := by
    obtain ⟨_, _, b3, b4, _⟩ := hs1
    cases hq : r1.nil with
    | false => rfl
    | true => have := b4 hq; omega
  have hn2 : r2.nil = false := by
    obtain ⟨_, _, b3, b4, _⟩ := hs2
    cases hq : r2.nil with
    | false => rfl
    | true => have := b4 hq; omega
  have hne : r2.blk ≠ r1.blk := hs.heap.apart _ _ _ _ _ _ (get_mem hq) (get_mem hg) (Ne.symm hpq) hr2 hr1 hn2 hn1
  obtain ⟨o1, _, s1, F1, ⟨arr1, a1, z1, _⟩, l1, k1, _⟩ := whole_of_row hs1 hn1
  obtain ⟨o2, _, s2, F2, ⟨arr2, a2, z2, _⟩, l2, k2, _⟩ := whole_of_row hs2 hn2
  obtain ⟨_, _, b3, _, _⟩ := hs1
  have hvs : vs = [u1, u2] := by
    rcases vs with _ | ⟨x, _ | ⟨y, _ | _⟩⟩ <;> simp at hl hu1 hu2
    subst hu1; subst hu2; rfl
  have hcz : ¬ r1.cap = lo := by omega
  refine ⟨β, .v (.bool false), .bool false, S, w, ?_, hs, rfl, hK⟩
  rw [hvs, hv1, hv2, run_callFunc_extern hf hname hb hn he]
  have hz := fun w => run_sizeOf' hes w
  have := Lib.run_overlaps_apart w t tR e htd esz hz ⟨r2.blk, r2.off, none⟩ ⟨r1.blk, r1.off + lo * r1.sz, none⟩ r2.n r2.cap n (r1.cap - lo) hne e e arr2.size arr1.size (by simp [World.shape?, a2]) (by simp [World.shape?, a1]) (by
    rw [z1, l1]
    exact Nat.ne_of_gt (Nat.mul_pos (by omega) F1.sz_pos)) (frozen_of_row _ _ _ _ _ a2) (frozen_of_row _ _ _ _ _ a2)
  rw [show r2.base = some ⟨r2.blk, r2.off, none⟩ by simp [Ref.base, hn2], show r1.from lo = some ⟨r1.blk, r1.off + lo * r1.sz, none⟩ by simp [Ref.from, hn1, hcz], this]
  rfl

end
end E
end Go.Proofs.Ytlkchnfgeedghaa
