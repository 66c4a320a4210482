/- append and copy in the executor. It states nothing about the program. -/
import Derived.Test.YtlkchnfgeedghaaEE
import Derived.Laws.AppendOwn
namespace Go.Proofs.Ytlkchnfgeedghaa
namespace E
open Go

section
variable {C : Cx} {T : Tys} {S : St} {β : Names} {H : Heap} {w : World}

theorem delC_sub {p q : Nat} {o : Bool} {c : Chunk} (h : (q, o, c) ∈ delC p H) : (q, o, c) ∈ H := (mem_delC h).2
theorem SatH.sub (h : SatH C β H w) {H' : Heap} (hs : ∀ q o c, (q, o, c) ∈ H' → (q, o, c) ∈ H) : SatH C β H' w :=
  ⟨h.fr, h.xs, fun p o c hp => h.sat p o c (hs _ _ _ hp), fun p o c o' c' h1 h2 => h.uniq p o c o' c' (hs _ _ _ h1) (hs _ _ _ h2), fun p q cp cq rp rq hp hq => h.apart p q cp cq rp rq (hs _ _ _ hp) (hs _ _ _ hq), fun p o c r k hp hr hk => let ⟨a1, a2, a3, a4, a5⟩ := h.kid p o c r k (hs _ _ _ hp) hr hk; ⟨a1, a2, a3, fun q cq rq hq => a4 q cq rq (hs _ _ _ hq), fun q o' cq rq hq => a5 q o' cq rq (hs _ _ _ hq)⟩⟩

/-- An own row under a new name, its block written. -/
theorem SatH.swap {p q : Nat} {ch ch' : Chunk} {r r' : Ref} (h : SatH C β H w) (hp : (p, true, ch) ∈ H) (hr : β p = some r) (hn : r.nil = false) (hq : β q = none) (hb : r'.blk = r.blk) {w' : World}
    (hos : w'.os = w.os) (htape : w'.tape = w.tape) (hout : w'.output = w.output) (hsize : w'.heap.size = w.heap.size) (hblk : ∀ k, k ≠ r.blk → w'.heap[k]? = w.heap[k]?) (hs : SatC (ext β q r') w' true r' ch') (hf : footC w' r' ch' = []) (hdr : w.drawn ≤ w'.drawn := by first | exact Nat.le_refl _ | exact Nat.le_succ _ | assumption | (simp only [setCells_drawn]; exact Nat.le_refl _) | (simp; done)) :
    SatH C (ext β q r') ((q, true, ch') :: delC p H) w' := by
  obtain ⟨r1, e1, s1, l1⟩ := h.sat _ _ _ hp
  rw [hr] at e1; cases e1
  simp only [Lies, if_true] at l1
  obtain ⟨hlt, hlies⟩ := l1 hn
  have hle : Le β (ext β q r') := ext_le hq
  have hnq : ∀ {x o c}, (x, o, c) ∈ delC p H → x ≠ q := fun {x o c} hx e => by
    obtain ⟨r2, e2, _⟩ := h.sat _ _ _ (delC_sub hx)
    rw [e, hq] at e2; cases e2
  have hold : ∀ {x o c rx}, (x, o, c) ∈ delC p H → ext β q r' x = some rx → β x = some rx := fun {x o c rx} hx e => by
    simp only [ext, if_neg (hnq hx)] at e; exact e
  have hne : ∀ {x o c rx}, (x, o, c) ∈ delC p H → β x = some rx → (solid rx c ∨ (o = true ∧ rx.nil = false)) → rx.blk ≠ r.blk := fun {x o c rx} hx e hso =>
    h.blk_ne hp (delC_sub hx) (mem_delC hx).1 hr e hn hso
  have hkne : ∀ {x o c rx k}, (x, o, c) ∈ delC p H → β x = some rx → k ∈ footC w rx c → k ≠ r.blk := fun {x o c rx k} hx hrx hk e => (h.kid _ _ _ _ _ (delC_sub hx) hrx hk).2.2.2.1 _ _ _ hp hr hn e.symm
  have hfoot : ∀ {x o c rx}, (x, o, c) ∈ delC p H → β x = some rx → footC w' rx c = footC w rx c := fun {x o c rx} hx e => foot_stay fun hso => hblk _ (hne hx e (.inl hso))
  refine ⟨⟨hos.trans h.fr.os, htape.trans h.fr.tape, hout.trans h.fr.output, by rw [hsize]; exact h.fr.size, fun k hk hx => ?_, Nat.le_trans h.fr.drawn hdr⟩, h.xs, fun x o c hx => ?_, fun x o c o' c' h1 h2 => ?_, fun x y cx cy rx ry hx hy hxy hrx hry hnx hny => ?_, fun x o c rx k hx hrx hk => ?_⟩
  · rw [hblk k (fun e => ?_)]
    · exact h.fr.block k hk hx
    · rcases hlies with hl | hl
      · omega
      · exact hx (e ▸ hl)
  · rcases List.mem_cons.1 hx with hx | hx
    · cases hx
      refine ⟨r', ext_self _ _ _, hs, ?_⟩
      simp only [Lies, if_true]
      intro _
      rw [hb, hsize]
      exact ⟨hlt, hlies⟩
    · obtain ⟨rx, e, s, l⟩ := h.sat _ _ _ (delC_sub hx)
      refine ⟨rx, hle _ _ e, SatC_same hle (fun hso => hblk _ (hne hx e hso)) (fun k hk => hblk _ (hkne hx e hk)) s, ?_⟩
      unfold Lies at l ⊢
      rw [hsize]; exact l
  · rcases List.mem_cons.1 h1 with h1 | h1 <;> rcases List.mem_cons.1 h2 with h2 | h2
    · cases h1; cases h2; rfl
    · cases h1; exact absurd rfl (hnq h2)
    · cases h2; exact absurd rfl (hnq h1)
    · exact h.uniq _ _ _ _ _ (delC_sub h1) (delC_sub h2)
  · rcases List.mem_cons.1 hx with hx | hx <;> rcases List.mem_cons.1 hy with hy | hy
    · cases hx; cases hy; exact absurd rfl hxy
    · cases hx
      rw [ext_self] at hrx; cases hrx
      have := hold hy hry
      rw [hb]
      exact fun e => hne hy this (.inr ⟨rfl, hny⟩) e.symm
    · cases hy
      rw [ext_self] at hry; cases hry
      have := hold hx hrx
      rw [hb]
      exact hne hx this (.inr ⟨rfl, hnx⟩)
    · exact h.apart _ _ _ _ _ _ (delC_sub hx) (delC_sub hy) hxy (hold hx hrx) (hold hy hry) hnx hny
  · rcases List.mem_cons.1 hx with hx | hx
    · cases hx
      rw [ext_self] at hrx; cases hrx
      rw [hf] at hk; cases hk
    · have e := hold hx hrx
      rw [hfoot hx e] at hk
      obtain ⟨a1, a2, a3, a4, a5⟩ := h.kid _ _ _ _ _ (delC_sub hx) e hk
      refine ⟨a1, by rw [hsize]; exact a2, a3, fun y cy ry hy hry hny => ?_, fun y o' cy ry hy hyx hry hk' => ?_⟩
      · rcases List.mem_cons.1 hy with hy | hy
        · cases hy
          rw [ext_self] at hry; cases hry
          rw [hb]; exact (hkne hx e hk).symm
        · exact a4 _ _ _ (delC_sub hy) (hold hy hry) hny
      · rcases List.mem_cons.1 hy with hy | hy
        · cases hy
          rw [ext_self] at hry; cases hry
          rw [hf] at hk'; cases hk'
        · have e' := hold hy hry
          rw [hfoot hy e'] at hk'
          exact a5 _ _ _ _ (delC_sub hy) hyx e' hk'

/-- The caller's state behind an operation that lays a new name. -/
theorem Sat.newName {a : Act} {w' : World} {r : Ref} {H' : Heap} (hs : Sat C β S a w) (hH : SatH C (ext β S.nx r) H' w') : Sat C (ext β S.nx r) { S with H := H', nx := S.nx + 1 } a w' := by
  have hno : β S.nx = none := hs.names _ (Nat.le_refl _)
  refine ⟨hH, hs.base.trans (ext_le hno), hs.bk, fun p hp => ?_, hs.defers, hs.size, fun i s hi => ?_⟩
  · simp only [ext]
    simp only at hp
    rw [if_neg (by omega)]
    exact hs.names p (by omega)
  · obtain ⟨v, h1, h2⟩ := hs.ts i s hi
    exact ⟨v, h1, R_mono (ext_le hno) h2⟩

/-- What stands under the base of an append: an own row, or none at all. -/
def baseM (H : Heap) (e : TypeId) (c : RowC) : SV → Prop
  | .full p => get p H = some (true, .row e c)
  | .v (.slice none 0 0) => c.len = 0
  | _ => False
def baseD (H : Heap) : SV → Heap
  | .full p => delC p H
  | _ => H

theorem baseD_sub {x : SV} {q : Nat} {o : Bool} {c : Chunk} (h : (q, o, c) ∈ baseD H x) : (q, o, c) ∈ H := by
  unfold baseD at h
  split at h
  · exact delC_sub h
  · exact h

theorem append_rule (hT : TysOK C.P T) {o : Oper} {K : SV → St → Prop} {t e esz : Nat} {ek : EK} {cl : Call} {x y : Operand} {c d : RowC} (ho : o.op = .call cl) (hc : cl.callee = .builtin .append) (ha : cl.args.toList = [x, y]) (ht : cl.argTypes.toList = [t, t])
    (hk : (T t).map TI.k = some (.slice e esz ek)) (hz : (T e).map TI.zero = some ((c.zeros 1).get 0)) (hlike : RowC.like c d)
    (hx : baseM S.H e c (S.ev x)) (hy : rowM S.H e d (S.ev y)) (hlen : c.len + d.len ≤ 1000000000)
    (hK : K (.full S.nx) { S with H := (S.nx, true, .row e (c.ap d)) :: baseD S.H (S.ev x), nx := S.nx + 1 }) : OpP C o S K := by
  refine ⟨fun β a w hs next Q hn => ?_⟩
  have hargs : cl.args = #[x, y] := by rw [← Array.toArray_toList (xs := cl.args), ha]
  have htys : cl.argTypes = #[t, t] := by rw [← Array.toArray_toList (xs := cl.argTypes), ht]
  have hno : β S.nx = none := hs.names _ (Nat.le_refl _)
  obtain ⟨ti, hti, hki⟩ : ∃ i, T t = some i ∧ i.k = .slice e esz ek := by simpa [Option.map_eq_some_iff] using hk
  obtain ⟨ei, hei, hzi⟩ : ∃ i, T e = some i ∧ i.zero = (c.zeros 1).get 0 := by simpa [Option.map_eq_some_iff] using hz
  obtain ⟨td, htd, hkd⟩ := (hT t ti hti).kind
  rw [hki] at hkd
  obtain ⟨rfl, hes⟩ := hkd
  have hE := hT e ei hei
  obtain ⟨z, hz1, hz2, hz3⟩ := hE.zero
  obtain ⟨i, hi⟩ : ∃ i, C.P.info? e = some i := by
    have := hE.bytes
    simp only [Option.map_eq_some_iff] at this
    obtain ⟨i, hi, _⟩ := this
    exact ⟨i, hi⟩
  have hbytes : i.bytes ≤ 4096 := by have := hE.bytes; rw [hi] at this; simpa using this
  have hzero : i.zero = some z := by rw [hi] at hz1; simpa using hz1
  have hzl : z.cells.toList = (c.zeros 1).get 0 := hz2.trans hzi
  have hisz : i.size = c.sz := by
    have h1 := hE.size
    have h2 := hE.zlen
    rw [hzi, RowC.get_length, RowC.like_sz (RowC.zeros_like c 1)] at h2
    rw [hi] at h1
    rw [h2]
    simpa using h1
  have hdz : d.sz = c.sz := RowC.like_sz hlike
  obtain ⟨rd, hrd, hsd, _, hvd⟩ := rowM_ok hs hy
  have hvy := hvd _ (hs.ev y)
  obtain ⟨d1, d2, d3, d4, d5, d6⟩ := hsd β
  -- the source's cells
  have hsrc : ∀ w' : World, (∀ A, w'.cell? A = w.cell? A) → (Builtin.firstCells i.size d.len (a.eval y)).run C.P w' = .ok (d.cells d.len).toArray w' := fun w' hw' => by
    rw [hvy, hisz, ← hdz]
    refine firstCells_row (Nat.le_refl _) (A := rd.base) (b := rd.blk) (o := rd.off) (fun hpos => ?_) (fun j hj q u hu => by rw [hw']; exact d5 j hj q u hu)
    have : rd.nil = false := by
      cases hq : rd.nil with
      | false => rfl
      | true => have := d4 hq; omega
    simp [Ref.base, this]
  have hlenOf : (Builtin.lenOf (a.eval y)).run C.P w = .ok d.len w := by rw [hvy, d1]; rfl
  -- the base
  obtain ⟨A, cap, hbv, hbc, hcap⟩ : ∃ (A : Option Addr) (cap : Nat), a.eval x = .slice A c.len cap ∧ c.len ≤ cap ∧
      ((S.ev x = .v (.slice none 0 0) ∧ A = none ∧ cap = 0) ∨ ∃ p r, S.ev x = .full p ∧ (p, true, .row e c) ∈ S.H ∧ β p = some r ∧ SatC β w true r (.row e c) ∧ A = r.base ∧ cap = r.cap ∧ r.n = c.len) := by
    have hex := hs.ev x
    unfold baseM at hx
    split at hx
    · rename_i p hp
      obtain ⟨r, hr, hsat, _⟩ := hs.chunk hx
      rw [hp] at hex
      obtain ⟨r', hr', hu⟩ := hex
      rw [hr] at hr'; cases hr'
      obtain ⟨b1, _, b3, _⟩ := id hsat
      exact ⟨r.base, r.cap, by rw [hu, b1], b3, .inr ⟨p, r, hp, get_mem hx, hr, hsat, rfl, rfl, b1⟩⟩
    · rename_i hp
      rw [hp] at hex
      have hex : a.eval x = .slice none 0 0 := hex
      exact ⟨none, 0, by rw [hx, hex], by omega, .inl ⟨hp, rfl, rfl⟩⟩
    · exact hx.elim
  have hop : execOp a.eval o = (do pure (Next.value (← Builtin.append_ #[t, t] o.type #[a.eval x, a.eval y]))) := by
    unfold execOp
    rw [ho]
    simp only [resolve, hc, hargs, invoke, builtin, htys, List.map_toArray, List.map_cons, List.map_nil, pure_bind]
  have fin : ∀ (u : Value) (w' : World) (r' : Ref), (Builtin.append_ #[t, t] o.type #[a.eval x, a.eval y]).run C.P w = .ok u w' → R (ext β S.nx r') (.full S.nx) u → SatH C (ext β S.nx r') ((S.nx, true, .row e (c.ap d)) :: baseD S.H (S.ev x)) w' → o.wp C.P a w next Q := fun u w' r' hrun hR hH => by
    exact wp_value (run_v' hop hrun) (hn _ _ u _ w' (hs.newName hH) hR hK)
  by_cases hroom : c.len + d.len ≤ cap
  · -- in place
    rcases hcap with ⟨hp, rfl, rfl⟩ | ⟨p, r, hp, hmem, hr, hsat, rfl, rfl, hrn⟩
    · have hc0 : c.len = 0 := by omega
      have hd0 : d.len = 0 := by omega
      have hrun := run_append_in (P := C.P) (w := w) (ty := o.type) htd hi (base := none) (sLen := c.len) (sCap := 0) hlenOf (hsrc w fun _ => rfl) hroom (w' := w) rfl
      rw [← hbv] at hrun
      refine fin _ w ⟨w.heap.size, 0, true, 0, c.len + d.len, c.sz⟩ hrun ⟨_, ext_self _ _ _, by simp [Ref.base]⟩ ?_
      rw [hp]
      exact hs.heap.cons hno ⟨by rw [RowC.ap_len hlike], by rw [RowC.ap_sz], by rw [RowC.ap_len hlike]; simp only; omega, fun _ => rfl, fun j hj => by rw [RowC.ap_len hlike] at hj; omega, fun _ h => by cases h⟩ hs.heap (Nat.le_refl _) (.inr rfl) (fun _ _ => rfl) rfl
    · cases hnil : r.nil with
      | true =>
        have hc0 : r.cap = 0 := by obtain ⟨_, _, _, b4, _⟩ := hsat; exact b4 hnil
        have hrun := run_append_in (P := C.P) (w := w) (ty := o.type) htd hi (base := none) (sLen := c.len) (sCap := r.cap) hlenOf (hsrc w fun _ => rfl) hroom (w' := w) rfl
        have hA : r.base = none := by simp [Ref.base, hnil]
        rw [← hA, ← hbv] at hrun
        refine fin _ w ⟨w.heap.size, 0, true, r.cap, c.len + d.len, c.sz⟩ hrun ⟨_, ext_self _ _ _, by simp [Ref.base, hnil]⟩ ?_
        rw [hp]
        refine (hs.heap.sub fun _ _ _ h => delC_sub h).cons hno ⟨by rw [RowC.ap_len hlike], by rw [RowC.ap_sz], by rw [RowC.ap_len hlike]; exact hroom, fun _ => hc0, fun j hj => by rw [RowC.ap_len hlike] at hj; omega, fun _ h => by cases h⟩ (hs.heap.sub fun _ _ _ h => delC_sub h) (Nat.le_refl _) (.inr rfl) (fun _ _ => rfl) rfl
      | false =>
        obtain ⟨hoff, _, hrsz, F, hF, hFl, hFk, hFt⟩ := whole_of_row hsat hnil
        have hkF : RowC.like F d := RowC.like_trans (RowC.like_symm hFk) hlike
        have hFz : F.sz = c.sz := RowC.like_sz hFk
        obtain ⟨w', hst, hW, g4, g5, g6, g7, hdr, g8⟩ := whole_over (P := C.P) hF hkF (lo := c.len) (by omega)
        have hA : r.base = some ⟨r.blk, 0, none⟩ := by simp [Ref.base, hnil, hoff]
        have hrun := run_append_in (P := C.P) (w := w) (ty := o.type) htd hi (base := r.base) (sLen := c.len) (sCap := r.cap) hlenOf (hsrc w fun _ => rfl) hroom (w' := w') (by
          rw [hA]
          simp only [addr_add, Nat.zero_add, hisz]
          rw [hFz] at hst
          exact hst)
        rw [← hbv] at hrun
        have hap : (F.over c.len d).take (c.len + d.len) = c.ap d := by
          refine RowC.ext_get (RowC.like_trans (RowC.like_symm (RowC.take_like _ _)) (RowC.like_trans (RowC.like_symm (RowC.over_like F _ _)) (RowC.like_trans (RowC.like_symm hFk) (RowC.ap_like c d)))) ?_ fun j hj => ?_
          · rw [RowC.take_len (by rw [RowC.over_len hkF (by omega)]; omega), RowC.ap_len hlike]
          · rw [RowC.take_len (by rw [RowC.over_len hkF (by omega)]; omega)] at hj
            rw [RowC.take_get hj, RowC.over_get hkF (by omega) j (by omega)]
            by_cases hjc : j < c.len
            · rw [if_neg (by omega), RowC.ap_left hjc, ← hFt, RowC.take_get hjc]
            · rw [if_pos (by omega)]
              obtain ⟨m, rfl⟩ : ∃ m, j = c.len + m := ⟨j - c.len, by omega⟩
              rw [RowC.ap_right hlike, Nat.add_sub_cancel_left]
        have hol := RowC.over_len hkF (lo := c.len) (by omega)
        have hrow := row_of_whole (β := ext β S.nx ⟨r.blk, 0, false, (F.over c.len d).len, c.len + d.len, (F.over c.len d).sz⟩) hW (n := c.len + d.len) (by omega)
        rw [hap] at hrow
        refine fin _ w' ⟨r.blk, 0, false, (F.over c.len d).len, c.len + d.len, (F.over c.len d).sz⟩ hrun ⟨_, ext_self _ _ _, by simp [Ref.base, hnil, hoff, hol, hFl]⟩ ?_
        rw [hp]
        exact SatH.swap (r' := ⟨r.blk, 0, false, (F.over c.len d).len, c.len + d.len, (F.over c.len d).sz⟩) hs.heap hmem hr hnil hno rfl g4 g5 g6 g7 g8 hrow rfl
  · -- a new block
    have hold : (Builtin.firstCells i.size c.len (.slice A c.len cap)).run C.P w.drew = .ok (c.cells c.len).toArray w.drew := by
      rw [hisz]
      rcases hcap with ⟨hp, rfl, rfl⟩ | ⟨p, r, hp, hmem, hr, hsat, rfl, rfl, hrn⟩
      · have hc0 : c.len = 0 := by omega
        rw [hc0]; rfl
      · obtain ⟨b1, b2, b3, b4, b5, b6⟩ := hsat
        refine firstCells_row (Nat.le_refl _) (b := r.blk) (o := r.off) (fun hpos => ?_) (fun j hj q u hu => by rw [World.cell?_drew]; exact b5 j hj q u hu)
        have : r.nil = false := by
          cases hq : r.nil with
          | false => rfl
          | true => have := b4 hq; omega
        simp [Ref.base, this]
    have hrun := run_append_out (P := C.P) (w := w) (ty := o.type) htd hi hzero (base := A) (sLen := c.len) (sCap := cap) hlenOf (hsrc w.drew fun _ => rfl) hold (by omega) (by omega) (growslice_fits (by omega) (by
      have := Nat.mul_le_mul (Nat.le_of_lt_succ (Nat.lt_succ_of_le hlen)) hbytes
      omega))
    rw [← hbv] at hrun
    have hge := grownCap_ge w (c.len + d.len) cap e
    have hW := whole_grown (w := w.drew.alloc (.cells ((c.cells c.len).toArray ++ (d.cells d.len).toArray ++ Builtin.zeroCells z.cells (grownCap w (c.len + d.len) cap e - (c.len + d.len))) e)) (b := w.heap.size) (n := grownCap w (c.len + d.len) cap e) (tid := e) hlike hzl (heap_new _ _)
    have hk2 : RowC.like (c.ap d) (c.zeros (grownCap w (c.len + d.len) cap e - (c.len + d.len))) := RowC.like_trans (RowC.like_symm (RowC.ap_like c d)) (RowC.zeros_like _ _)
    have hwl : ((c.ap d).ap (c.zeros (grownCap w (c.len + d.len) cap e - (c.len + d.len)))).len = grownCap w (c.len + d.len) cap e := by
      rw [RowC.ap_len hk2, RowC.ap_len hlike, RowC.zeros_len]; omega
    have hrow := fun β' => row_of_whole (β := β') hW (n := c.len + d.len) (by omega)
    have htake := RowC.take_ap hk2
    rw [RowC.ap_len hlike] at htake
    simp only [htake, hwl] at hrow
    have hsub := hs.heap.sub (H' := baseD S.H (S.ev x)) fun _ _ _ h => baseD_sub h
    have hg : SatH C β (baseD S.H (S.ev x)) (w.drew.alloc (.cells ((c.cells c.len).toArray ++ (d.cells d.len).toArray ++ Builtin.zeroCells z.cells (grownCap w (c.len + d.len) cap e - (c.len + d.len))) e)) :=
      hsub.grow (Le.refl _) rfl rfl rfl (by simp) (fun k hk => Go.RowKit.Below.heap_alloc w.drew _ k hk)
    refine fin _ _ ⟨w.heap.size, 0, false, grownCap w (c.len + d.len) cap e, c.len + d.len, _⟩ hrun ⟨_, ext_self _ _ _, by simp [Ref.base]⟩ (hg.cons hno (hrow _) hsub (Nat.le_refl _) (.inl (by simp)) (fun k hk => Go.RowKit.Below.heap_alloc w.drew _ k hk) rfl)

/-! a call carried out in the caller's own memory -/
theorem SatH.cx {C' : Cx} (h0 : C'.w0 = C.w0) (hX : C'.X = C.X) (h : SatH C β H w) : SatH C' β H w := by
  obtain ⟨P, w0, X, b0, k⟩ := C
  obtain ⟨P', w0', X', b0', k'⟩ := C'
  simp only at h0 hX
  subst h0; subst hX
  exact ⟨⟨h.fr.os, h.fr.tape, h.fr.output, h.fr.size, h.fr.block, h.fr.drawn⟩, h.xs, h.sat, h.uniq, h.apart, h.kid⟩

/-- The caller's slots, behind a call that is carried out in its own memory. -/
structure InlK (ts : List SV) (K : SV → St → Prop) (r : SV) (S' : St) : Prop where
  run : K r ⟨ts, S'.H, S'.nx⟩
theorem InlK_run (ts : List SV) (K : SV → St → Prop) (r : SV) (S' : St) : InlK ts K r S' = K r ⟨ts, S'.H, S'.nx⟩ := propext ⟨fun h => h.run, fun h => ⟨h⟩⟩

theorem inline_is {wr : List Nat} {P : Program} (hP : C.P = P) (hT : TysOK P T) {f : FuncId} {fn : Func} {c : Code} {args : List SV} {K : SV → St → Prop} (hf : P.funcs[f]? = some fn) (hb : fn.body = some c) (hname : (fn.name == "runtime.NumGoroutine") = false)
    (h : ∀ C' : Cx, C'.P = P → C'.k = S.nx → Ex C' T wr c ⟨ini args fn.ntmps, S.H, S.nx⟩ (RetK T fn.results (InlK S.ts K))) : CallP C f args S K := by
  subst hP
  refine .of ⟨fn, hf, hname, by rw [hb]; rfl⟩ fun β a w hs vs hvs => ?_
  refine calls_of_wp hf hb ?_
  have hcx : ∀ {β' : Names} {H : Heap} {w' : World}, SatH C β' H w' → SatH ⟨C.P, C.w0, C.X, β, S.nx⟩ β' H w' := fun h => SatH.cx (C := C) rfl rfl h
  have hcx' : ∀ {β' : Names} {H : Heap} {w' : World}, SatH ⟨C.P, C.w0, C.X, β, S.nx⟩ β' H w' → SatH C β' H w' := fun h => SatH.cx (C := ⟨C.P, C.w0, C.X, β, S.nx⟩) rfl rfl h
  have hsat : Sat ⟨C.P, C.w0, C.X, β, S.nx⟩ β ⟨ini args fn.ntmps, S.H, S.nx⟩ { tmps := vs.toArray ++ Array.replicate (fn.ntmps - vs.toArray.size) undef, defers := [] } w := by
    obtain ⟨hl, hrel⟩ := hvs
    refine ⟨hcx hs.heap, Le.refl _, hs.names, hs.names, rfl, by simp [ini, hl], fun i s hi => ?_⟩
    unfold ini at hi
    by_cases hlt : i < args.length
    · rw [List.getElem?_append_left hlt] at hi
      obtain ⟨u, hu, hR⟩ := hrel i s hi
      exact ⟨u, by rw [Array.getElem?_append_left (by simp; omega)]; simpa using hu, hR⟩
    · rw [List.getElem?_append_right (by omega)] at hi
      have hlt2 := (List.getElem?_eq_some_iff.1 hi).1
      simp only [List.length_replicate] at hlt2
      rw [List.getElem?_replicate_of_lt hlt2] at hi
      cases hi
      exact ⟨undef, by rw [Array.getElem?_append_right (by simp; omega), Array.getElem?_replicate, if_pos (by simp [hl]; omega)], trivial⟩
  refine wp_mono (Ex_ok (C := ⟨C.P, C.w0, C.X, β, S.nx⟩) hT c _ _ (h _ rfl rfl) β _ w hsat) ?_
  rintro e a' w' ⟨β', S', hs', hq⟩
  have fin : ∀ l, resOf T S' fn.results.toList = some l → InlK S.ts K (packR l) S' → a'.defers = [] ∧ ∃ v, (results fn a'.tmps).run C.P w' = .ok v w' ∧ (∃ β' r u S', Ending.returned v = .returned u ∧ Sat C β' S' a w' ∧ R β' r u ∧ K r S') := fun l hl hk => by
    obtain ⟨u, hu, hR⟩ := results_ok (C := ⟨C.P, C.w0, C.X, β, S.nx⟩) hT hs' hl
    exact ⟨hs'.defers, u, hu, β', packR l, u, ⟨S.ts, S'.H, S'.nx⟩, rfl, ⟨hcx' hs'.heap, hs.base.trans hs'.base, hs.bk, hs'.names, hs.defers, hs.size, fun i s hi => let ⟨v, h1, h2⟩ := hs.ts i s hi; ⟨v, h1, R_mono hs'.base h2⟩⟩, hR, hk.run⟩
  unfold RetK at hq
  cases e with
  | normal => simp only at hq; split at hq <;> first | exact fin _ ‹_› hq | exact hq.elim
  | ret => simp only at hq; split at hq <;> first | exact fin _ ‹_› hq | exact hq.elim
  | exit id => exact hq.elim
  | goto l => exact hq.elim
  | panic ch => exact hq.elim
  | outgrown => exact hq.elim

end
end E
end Go.Proofs.Ytlkchnfgeedghaa
