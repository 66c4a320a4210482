/- A map whose values are own rows, in the executor: a row is taken out, grown, and put back. It states nothing about the program. -/
import Derived.Test.YtlkchnfgeedghaaEJ
namespace Go.Proofs.Ytlkchnfgeedghaa
namespace E
open Go

section
variable {C : Cx} {T : Tys} {S : St} {β : Names} {H : Heap} {w : World} {o : Oper} {K : SV → St → Prop}

theorem rowAt_sat {w : World} {b cap : Nat} {t : TypeId} {c : RowC} (h : RowAt w b cap t c) (β : Names) : SatC β w true ⟨b, 0, false, cap, c.len, c.sz⟩ (.row t c) := by
  obtain ⟨h1, arr, e, h2, h3, h4, h5, h6, h7⟩ := h
  exact rowSat h2 h3 h1 h4 h5 h7 h6
theorem sat_rowAt {β : Names} {w : World} {r : Ref} {t : TypeId} {c : RowC} (h : SatC β w true r (.row t c)) (hn : r.nil = false) : RowAt w r.blk r.cap t c ∧ r.off = 0 ∧ r.n = c.len := by
  obtain ⟨h1, h2, h3, h4, h5, h6⟩ := h
  obtain ⟨g1, arr, e, g2, g3, g4, g5, g6⟩ := h6 rfl hn
  refine ⟨⟨h3, arr, e, g2, g3, g4, g5, fun i hi q u hu => ?_, g6⟩, g1, h1⟩
  have := h5 i hi q u hu
  rw [cell_of_row _ _ _ _ _ _ g2, g1, Nat.zero_add] at this
  exact this

/-- A row of the map is named, and the map's object is written. -/
theorem SatH.takeOut {p q : Nat} {ch ch' : Chunk} {r rq : Ref} {t : TypeId} {c : RowC} (h : SatH C β H w) (hp : (p, true, ch) ∈ H) (hr : β p = some r) (hn : r.nil = false) (hq : β q = none) {w' : World} (hos : w'.os = w.os) (htape : w'.tape = w.tape) (hout : w'.output = w.output)
    (hsize : w'.heap.size = w.heap.size) (hblk : ∀ k, k ≠ r.blk → w'.heap[k]? = w.heap[k]?) (hs : SatC β w' true r ch') (hrow : SatC (ext β q rq) w' true rq (.row t c)) (hb : rq.blk ∈ footC w r ch) (hb' : rq.blk ∉ footC w' r ch') (hsub : ∀ k ∈ footC w' r ch', k ∈ footC w r ch) (hdr : w.drawn ≤ w'.drawn := by first | exact Nat.le_refl _ | exact Nat.le_succ _ | assumption | (simp only [setCells_drawn]; exact Nat.le_refl _) | (simp; done)) :
    SatH C (ext β q rq) ((q, true, .row t c) :: setC p ch' H) w' := by
  obtain ⟨r1, e1, s1, l1⟩ := h.sat _ _ _ hp
  rw [hr] at e1; cases e1
  simp only [Lies, if_true] at l1
  obtain ⟨hlt, hlies⟩ := l1 hn
  have hle : Le β (ext β q rq) := ext_le hq
  have hin : ∀ {x o c}, (x, o, c) ∈ setC p ch' H → ∃ c', (x, o, c') ∈ H := fun {x o c} hx => by
    rcases mem_setC hx with ⟨_, h2⟩ | ⟨_, _, c2, h3⟩
    · exact ⟨_, h2⟩
    · exact ⟨_, h3⟩
  have hnq : ∀ {x o c}, (x, o, c) ∈ setC p ch' H → x ≠ q := fun {x o c} hx e => by
    obtain ⟨c', h2⟩ := hin hx
    obtain ⟨r2, e2, _⟩ := h.sat _ _ _ h2
    rw [e, hq] at e2; cases e2
  have hold : ∀ {x o c rx}, (x, o, c) ∈ setC p ch' H → ext β q rq x = some rx → β x = some rx := fun {x o c rx} hx e => by
    simp only [ext, if_neg (hnq hx)] at e; exact e
  have hkne : ∀ {x o c rx k}, (x, o, c) ∈ H → β x = some rx → k ∈ footC w rx c → k ≠ r.blk := fun {x o c rx k} hx hrx hk e => (h.kid _ _ _ _ _ hx hrx hk).2.2.2.1 _ _ _ hp hr hn e.symm
  have hfoot : ∀ {x o c rx}, (x, o, c) ∈ H → x ≠ p → β x = some rx → footC w' rx c = footC w rx c := fun {x o c rx} hx hxp hrx => foot_stay fun hso => hblk _ (h.blk_ne hp hx hxp hr hrx hn (.inl hso))
  obtain ⟨kb1, kb2, kb3, kb4, kb5⟩ := h.kid _ _ _ _ _ hp hr hb
  refine ⟨⟨hos.trans h.fr.os, htape.trans h.fr.tape, hout.trans h.fr.output, by rw [hsize]; exact h.fr.size, fun k hk hx => ?_, Nat.le_trans h.fr.drawn hdr⟩, h.xs, fun x o c hx => ?_, fun x o c o' c' h1 h2 => ?_, fun x y cx cy rx ry hx hy hxy hrx hry hnx hny => ?_, fun x o c rx k hx hrx hk => ?_⟩
  · rw [hblk k (fun e => ?_)]
    · exact h.fr.block k hk hx
    · rcases hlies with hl | hl
      · omega
      · exact hx (e ▸ hl)
  · rcases List.mem_cons.1 hx with hx | hx
    · cases hx
      exact ⟨rq, ext_self _ _ _, hrow, by simp only [Lies, if_true]; exact fun _ => ⟨by rw [hsize]; exact kb2, kb3⟩⟩
    · rcases mem_setC hx with ⟨h1, h2⟩ | ⟨h1, h2, c2, h3⟩
      · obtain ⟨r2, e2, s2, l2⟩ := h.sat _ _ _ h2
        refine ⟨r2, hle _ _ e2, SatC_same hle (fun hso => hblk _ (h.blk_ne hp h2 h1 hr e2 hn hso)) (fun k hk => hblk _ (hkne h2 e2 hk)) s2, ?_⟩
        unfold Lies at l2 ⊢
        rw [hsize]; exact l2
      · subst h1; subst h2
        have ho : o = true := h.uniq _ _ _ _ _ h3 hp
        subst ho
        refine ⟨r, hle _ _ hr, SatC_same hle (fun _ => rfl) (fun _ _ => rfl) hs, by simp only [Lies, if_true]; exact fun _ => ⟨by rw [hsize]; exact hlt, hlies⟩⟩
  · rcases List.mem_cons.1 h1 with h1 | h1 <;> rcases List.mem_cons.1 h2 with h2 | h2
    · cases h1; cases h2; rfl
    · cases h1; exact absurd rfl (hnq h2)
    · cases h2; exact absurd rfl (hnq h1)
    · obtain ⟨_, a1⟩ := hin h1
      obtain ⟨_, a2⟩ := hin h2
      exact h.uniq _ _ _ _ _ a1 a2
  · rcases List.mem_cons.1 hx with hx | hx <;> rcases List.mem_cons.1 hy with hy | hy
    · cases hx; cases hy; exact absurd rfl hxy
    · cases hx
      rw [ext_self] at hrx; cases hrx
      obtain ⟨_, a⟩ := hin hy
      exact (kb4 _ _ _ a (hold hy hry) hny).symm
    · cases hy
      rw [ext_self] at hry; cases hry
      obtain ⟨_, a⟩ := hin hx
      exact kb4 _ _ _ a (hold hx hrx) hnx
    · obtain ⟨_, a⟩ := hin hx
      obtain ⟨_, b⟩ := hin hy
      exact h.apart _ _ _ _ _ _ a b hxy (hold hx hrx) (hold hy hry) hnx hny
  · rcases List.mem_cons.1 hx with hx | hx
    · cases hx; cases hk
    · have e := hold hx hrx
      -- the same block in the old world
      have hk0 : ∃ c', (x, o, c') ∈ H ∧ k ∈ footC w rx c' := by
        rcases mem_setC hx with ⟨h1, h2⟩ | ⟨h1, h2, c2, h3⟩
        · exact ⟨c, h2, by rw [hfoot h2 h1 e] at hk; exact hk⟩
        · subst h1; subst h2
          rw [hr] at e; cases e
          have ho : o = true := h.uniq _ _ _ _ _ h3 hp
          subst ho
          exact ⟨ch, hp, hsub k hk⟩
      obtain ⟨c', hc', hk'⟩ := hk0
      obtain ⟨a1, a2, a3, a4, a5⟩ := h.kid _ _ _ _ _ hc' e hk'
      refine ⟨a1, by rw [hsize]; exact a2, a3, fun y cy ry hy hry hny => ?_, fun y o' cy ry hy hyx hry hky => ?_⟩
      · rcases List.mem_cons.1 hy with hy | hy
        · cases hy
          rw [ext_self] at hry; cases hry
          intro e3
          by_cases hxp : x = p
          · subst hxp
            rw [hr] at e; cases e
            rcases mem_setC hx with ⟨h1, _⟩ | ⟨_, h2, _⟩
            · exact h1 rfl
            · subst h2; rw [e3] at hb'; exact hb' hk
          · exact a5 _ _ _ _ hp (fun e => hxp e.symm) hr (e3 ▸ hb)
        · obtain ⟨_, a⟩ := hin hy
          exact a4 _ _ _ a (hold hy hry) hny
      · rcases List.mem_cons.1 hy with hy | hy
        · cases hy; cases hky
        · have e' := hold hy hry
          rcases mem_setC hy with ⟨h1, h2⟩ | ⟨h1, h2, c2, h3⟩
          · rw [hfoot h2 h1 e'] at hky
            exact a5 _ _ _ _ h2 hyx e' hky
          · subst h1; subst h2
            rw [hr] at e'; cases e'
            exact a5 _ _ _ _ hp hyx hr (hsub k hky)

/-- A named row goes into the map. -/
theorem SatH.putIn {p q : Nat} {ch ch' cq : Chunk} {r rq : Ref} (h : SatH C β H w) (hp : (p, true, ch) ∈ H) (hr : β p = some r) (hn : r.nil = false) (hq : (q, true, cq) ∈ H) (hpq : p ≠ q) (hrq : β q = some rq) (hnq : rq.nil = false) {w' : World} (hos : w'.os = w.os) (htape : w'.tape = w.tape) (hout : w'.output = w.output)
    (hsize : w'.heap.size = w.heap.size) (hblk : ∀ k, k ≠ r.blk → w'.heap[k]? = w.heap[k]?) (hs : SatC β w' true r ch') (hsub : ∀ k ∈ footC w' r ch', k ∈ footC w r ch ∨ k = rq.blk) (hdr : w.drawn ≤ w'.drawn := by first | exact Nat.le_refl _ | exact Nat.le_succ _ | assumption | (simp only [setCells_drawn]; exact Nat.le_refl _) | (simp; done)) :
    SatH C β (setC p ch' (delC q H)) w' := by
  obtain ⟨r1, e1, s1, l1⟩ := h.sat _ _ _ hp
  rw [hr] at e1; cases e1
  simp only [Lies, if_true] at l1
  obtain ⟨hlt, hlies⟩ := l1 hn
  obtain ⟨r2, e2, s2, l2⟩ := h.sat _ _ _ hq
  rw [hrq] at e2; cases e2
  simp only [Lies, if_true] at l2
  obtain ⟨hlt2, hlies2⟩ := l2 hnq
  have hin : ∀ {x o c}, (x, o, c) ∈ setC p ch' (delC q H) → x ≠ q ∧ ∃ c', (x, o, c') ∈ H := fun {x o c} hx => by
    rcases mem_setC hx with ⟨_, h2⟩ | ⟨_, _, c2, h3⟩
    · exact ⟨(mem_delC h2).1, _, (mem_delC h2).2⟩
    · exact ⟨(mem_delC h3).1, _, (mem_delC h3).2⟩
  have hkne : ∀ {x o c rx k}, (x, o, c) ∈ H → β x = some rx → k ∈ footC w rx c → k ≠ r.blk := fun {x o c rx k} hx hrx hk e => (h.kid _ _ _ _ _ hx hrx hk).2.2.2.1 _ _ _ hp hr hn e.symm
  have hfoot : ∀ {x o c rx}, (x, o, c) ∈ H → x ≠ p → β x = some rx → footC w' rx c = footC w rx c := fun {x o c rx} hx hxp hrx => foot_stay fun hso => hblk _ (h.blk_ne hp hx hxp hr hrx hn (.inl hso))
  refine ⟨⟨hos.trans h.fr.os, htape.trans h.fr.tape, hout.trans h.fr.output, by rw [hsize]; exact h.fr.size, fun k hk hx => ?_, Nat.le_trans h.fr.drawn hdr⟩, h.xs, fun x o c hx => ?_, fun x o c o' c' h1 h2 => ?_, fun x y cx cy rx ry hx hy hxy hrx hry hnx hny => ?_, fun x o c rx k hx hrx hk => ?_⟩
  · rw [hblk k (fun e => ?_)]
    · exact h.fr.block k hk hx
    · rcases hlies with hl | hl
      · omega
      · exact hx (e ▸ hl)
  · rcases mem_setC hx with ⟨h1, h2⟩ | ⟨h1, h2, c2, h3⟩
    · have h2 := (mem_delC h2).2
      obtain ⟨r3, e3, s3, l3⟩ := h.sat _ _ _ h2
      refine ⟨r3, e3, SatC_same (Le.refl _) (fun hso => hblk _ (h.blk_ne hp h2 h1 hr e3 hn hso)) (fun k hk => hblk _ (hkne h2 e3 hk)) s3, ?_⟩
      unfold Lies at l3 ⊢
      rw [hsize]; exact l3
    · subst h1; subst h2
      have ho : o = true := h.uniq _ _ _ _ _ (mem_delC h3).2 hp
      subst ho
      exact ⟨r, hr, hs, by simp only [Lies, if_true]; exact fun _ => ⟨by rw [hsize]; exact hlt, hlies⟩⟩
  · obtain ⟨_, _, a1⟩ := hin h1
    obtain ⟨_, _, a2⟩ := hin h2
    exact h.uniq _ _ _ _ _ a1 a2
  · obtain ⟨_, _, a⟩ := hin hx
    obtain ⟨_, _, b⟩ := hin hy
    exact h.apart _ _ _ _ _ _ a b hxy hrx hry hnx hny
  · rcases mem_setC hx with ⟨h1, h2⟩ | ⟨h1, h2, c2, h3⟩
    · have hm := (mem_delC h2).2
      rw [hfoot hm h1 hrx] at hk
      obtain ⟨a1, a2, a3, a4, a5⟩ := h.kid _ _ _ _ _ hm hrx hk
      refine ⟨a1, by rw [hsize]; exact a2, a3, fun y cy ry hy hry hny => ?_, fun y o' cy ry hy hyx hry hky => ?_⟩
      · obtain ⟨_, _, a⟩ := hin hy
        exact a4 _ _ _ a hry hny
      · rcases mem_setC hy with ⟨g1, g2⟩ | ⟨g1, g2, c2, g3⟩
        · have gm := (mem_delC g2).2
          rw [hfoot gm g1 hry] at hky
          exact a5 _ _ _ _ gm hyx hry hky
        · subst g1; subst g2
          rw [hr] at hry; cases hry
          rcases hsub k hky with hk2 | hk2
          · exact a5 _ _ _ _ hp hyx hr hk2
          · exact a4 _ _ _ hq hrq hnq hk2.symm
    · subst h1; subst h2
      rw [hr] at hrx; cases hrx
      have ho : o = true := h.uniq _ _ _ _ _ (mem_delC h3).2 hp
      subst ho
      rcases hsub k hk with hk2 | hk2
      · obtain ⟨a1, a2, a3, a4, a5⟩ := h.kid _ _ _ _ _ hp hr hk2
        refine ⟨a1, by rw [hsize]; exact a2, a3, fun y cy ry hy hry hny => ?_, fun y o' cy ry hy hyx hry hky => ?_⟩
        · obtain ⟨_, _, a⟩ := hin hy
          exact a4 _ _ _ a hry hny
        · rcases mem_setC hy with ⟨g1, g2⟩ | ⟨g1, g2, c2, g3⟩
          · have gm := (mem_delC g2).2
            rw [hfoot gm g1 hry] at hky
            exact a5 _ _ _ _ gm hyx hry hky
          · exact absurd g1 hyx
      · subst hk2
        refine ⟨rfl, by rw [hsize]; exact hlt2, hlies2, fun y cy ry hy hry hny => ?_, fun y o' cy ry hy hyx hry hky => ?_⟩
        · obtain ⟨hyq, _, a⟩ := hin hy
          exact h.apart _ _ _ _ _ _ a hq hyq hry hrq hny hnq
        · rcases mem_setC hy with ⟨g1, g2⟩ | ⟨g1, g2, c2, g3⟩
          · have gm := (mem_delC g2).2
            rw [hfoot gm g1 hry] at hky
            exact (h.kid _ _ _ _ _ gm hry hky).2.2.2.1 _ _ _ hq hrq hnq rfl
          · exact absurd g1 hyx
/-- The map is written; no row comes in. -/
theorem SatH.putSub {p : Nat} {ch ch' : Chunk} {r : Ref} (h : SatH C β H w) (hp : (p, true, ch) ∈ H) (hr : β p = some r) (hn : r.nil = false) {w' : World} (hos : w'.os = w.os) (htape : w'.tape = w.tape) (hout : w'.output = w.output)
    (hsize : w'.heap.size = w.heap.size) (hblk : ∀ k, k ≠ r.blk → w'.heap[k]? = w.heap[k]?) (hs : SatC β w' true r ch') (hsub : ∀ k ∈ footC w' r ch', k ∈ footC w r ch) (hdr : w.drawn ≤ w'.drawn := by first | exact Nat.le_refl _ | exact Nat.le_succ _ | assumption | (simp only [setCells_drawn]; exact Nat.le_refl _) | (simp; done)) :
    SatH C β (setC p ch' H) w' := by
  obtain ⟨r1, e1, s1, l1⟩ := h.sat _ _ _ hp
  rw [hr] at e1; cases e1
  simp only [Lies, if_true] at l1
  obtain ⟨hlt, hlies⟩ := l1 hn
  have hin : ∀ {x o c}, (x, o, c) ∈ setC p ch' H → ∃ c', (x, o, c') ∈ H := fun {x o c} hx => by
    rcases mem_setC hx with ⟨_, h2⟩ | ⟨_, _, c2, h3⟩
    · exact ⟨_, h2⟩
    · exact ⟨_, h3⟩
  have hkne : ∀ {x o c rx k}, (x, o, c) ∈ H → β x = some rx → k ∈ footC w rx c → k ≠ r.blk := fun {x o c rx k} hx hrx hk e => (h.kid _ _ _ _ _ hx hrx hk).2.2.2.1 _ _ _ hp hr hn e.symm
  have hfoot : ∀ {x o c rx}, (x, o, c) ∈ H → x ≠ p → β x = some rx → footC w' rx c = footC w rx c := fun {x o c rx} hx hxp hrx => foot_stay fun hso => hblk _ (h.blk_ne hp hx hxp hr hrx hn (.inl hso))
  refine ⟨⟨hos.trans h.fr.os, htape.trans h.fr.tape, hout.trans h.fr.output, by rw [hsize]; exact h.fr.size, fun k hk hx => ?_, Nat.le_trans h.fr.drawn hdr⟩, h.xs, fun x o c hx => ?_, fun x o c o' c' h1 h2 => ?_, fun x y cx cy rx ry hx hy hxy hrx hry hnx hny => ?_, fun x o c rx k hx hrx hk => ?_⟩
  · rw [hblk k (fun e => ?_)]
    · exact h.fr.block k hk hx
    · rcases hlies with hl | hl
      · omega
      · exact hx (e ▸ hl)
  · rcases mem_setC hx with ⟨h1, h2⟩ | ⟨h1, h2, c2, h3⟩
    · obtain ⟨r3, e3, s3, l3⟩ := h.sat _ _ _ h2
      refine ⟨r3, e3, SatC_same (Le.refl _) (fun hso => hblk _ (h.blk_ne hp h2 h1 hr e3 hn hso)) (fun k hk => hblk _ (hkne h2 e3 hk)) s3, ?_⟩
      unfold Lies at l3 ⊢
      rw [hsize]; exact l3
    · subst h1; subst h2
      have ho : o = true := h.uniq _ _ _ _ _ h3 hp
      subst ho
      exact ⟨r, hr, hs, by simp only [Lies, if_true]; exact fun _ => ⟨by rw [hsize]; exact hlt, hlies⟩⟩
  · obtain ⟨_, a1⟩ := hin h1
    obtain ⟨_, a2⟩ := hin h2
    exact h.uniq _ _ _ _ _ a1 a2
  · obtain ⟨_, a⟩ := hin hx
    obtain ⟨_, b⟩ := hin hy
    exact h.apart _ _ _ _ _ _ a b hxy hrx hry hnx hny
  · rcases mem_setC hx with ⟨h1, h2⟩ | ⟨h1, h2, c2, h3⟩
    · have hm := h2
      rw [hfoot hm h1 hrx] at hk
      obtain ⟨a1, a2, a3, a4, a5⟩ := h.kid _ _ _ _ _ hm hrx hk
      refine ⟨a1, by rw [hsize]; exact a2, a3, fun y cy ry hy hry hny => ?_, fun y o' cy ry hy hyx hry hky => ?_⟩
      · obtain ⟨_, a⟩ := hin hy
        exact a4 _ _ _ a hry hny
      · rcases mem_setC hy with ⟨g1, g2⟩ | ⟨g1, g2, c2, g3⟩
        · have gm := g2
          rw [hfoot gm g1 hry] at hky
          exact a5 _ _ _ _ gm hyx hry hky
        · subst g1; subst g2
          rw [hr] at hry; cases hry
          exact a5 _ _ _ _ hp hyx hr (hsub k hky)
    · subst h1; subst h2
      rw [hr] at hrx; cases hrx
      have ho : o = true := h.uniq _ _ _ _ _ h3 hp
      subst ho
      obtain ⟨a1, a2, a3, a4, a5⟩ := h.kid _ _ _ _ _ hp hr (hsub k hk)
      refine ⟨a1, by rw [hsize]; exact a2, a3, fun y cy ry hy hry hny => ?_, fun y o' cy ry hy hyx hry hky => ?_⟩
      · obtain ⟨_, a⟩ := hin hy
        exact a4 _ _ _ a hry hny
      · rcases mem_setC hy with ⟨g1, g2⟩ | ⟨g1, g2, c2, g3⟩
        · rw [hfoot g2 g1 hry] at hky
          exact a5 _ _ _ _ g2 hyx hry hky
        · exact absurd g1 hyx

/-- What a map of rows is in the world. -/
structure KidsAt (w : World) (b : Nat) (t : TypeId) (l : List (List Int × RowC)) (out : List Nat) (es : Array MapEntry) (us : List Value) : Prop where
  heap : w.heap[b]? = some (.map es es.size)
  key : es.toList.map MapEntry.key = (l.map Prod.fst).map keyV
  val : ∀ i : Nat, (es.toList[i]?).map MapEntry.val = us[i]?
  len : us.length = l.length
  born : ∀ (i : Nat) (e : MapEntry), es[i]? = some e → e.born = i
  row : ∀ (i : Nat) (k : List Int) (c : RowC), l[i]? = some (k, c) → i ∉ out → ∃ b cap, us[i]? = some (.slice (some ⟨b, 0, none⟩) c.len cap) ∧ RowAt w b cap t c
  sep : ∀ (i j : Nat) (x y : Value) (b : Nat), us[i]? = some x → us[j]? = some y → i ∉ out → j ∉ out → blkOf x = some b → blkOf y = some b → i = j
theorem KidsAt.size {w : World} {b : Nat} {t : TypeId} {l : List (List Int × RowC)} {out : List Nat} {es : Array MapEntry} {us : List Value} (h : KidsAt w b t l out es us) : es.size = l.length := by
  have := congrArg List.length h.key
  simpa using this
theorem kids_iff {β : Names} {w : World} {own : Bool} {r : Ref} {t : TypeId} {l : List (List Int × RowC)} {out : List Nat} : SatC β w own r (.kids t l out) ↔ r.nil = false ∧ ∃ es us, KidsAt w r.blk t l out es us := by
  constructor
  · rintro ⟨h0, us, h1, ⟨es, g1, g2, g3⟩, h3, h4⟩
    refine ⟨h0, es, us, g1, ?_, fun i => ?_, h1, g3, h3, h4⟩
    · have := congrArg (List.map Prod.fst) g2
      simp only [List.map_map] at this
      have e1 : es.toList.map MapEntry.key = es.toList.map (Prod.fst ∘ fun e => (e.key, e.val)) := rfl
      rw [e1, this]
      have e2 : (l.zip us).map (Prod.fst ∘ fun x => (keyV x.1.1, x.2)) = ((l.zip us).map Prod.fst).map (fun x => keyV x.1) := by rw [List.map_map]; rfl
      rw [e2, List.map_fst_zip (by omega), List.map_map]
      rfl
    · have := congrArg (fun l => (l[i]?).map Prod.snd) g2
      simp only [List.getElem?_map, Option.map_map] at this
      have e1 : (es.toList[i]?).map MapEntry.val = (es.toList[i]?).map (Prod.snd ∘ fun e => (e.key, e.val)) := rfl
      rw [e1, this]
      have e2 : ((l.zip us)[i]?).map (Prod.snd ∘ fun x => (keyV x.1.1, x.2)) = ((l.zip us).map Prod.snd)[i]? := by rw [List.getElem?_map]; rfl
      rw [e2, List.map_snd_zip (by omega)]
  · rintro ⟨h0, es, us, h⟩
    refine ⟨h0, us, h.len, ⟨es, h.heap, ?_, h.born⟩, h.row, h.sep⟩
    have hs := h.size
    refine List.ext_getElem? fun i => ?_
    have k1 := congrArg (fun l => l[i]?) h.key
    have k2 := h.val i
    simp only [List.getElem?_map, Array.getElem?_toList] at k1 k2 ⊢
    cases he : es[i]? with
    | none =>
      have hge : es.size ≤ i := by simpa using he
      have : (l.zip us)[i]? = none := by rw [List.getElem?_eq_none]; rw [List.length_zip, h.len]; omega
      rw [this]; rfl
    | some e =>
      have hlt : i < es.size := (Array.getElem?_eq_some_iff.1 he).1
      have hl : i < l.length := by omega
      have hu : i < us.length := by rw [h.len]; omega
      rw [he] at k1 k2
      rw [List.getElem?_eq_getElem hl] at k1
      rw [List.getElem?_eq_getElem hu] at k2
      simp only [Option.map_some, Option.some.injEq] at k1 k2
      have : (l.zip us)[i]? = some (l[i], us[i]) := by
        rw [List.getElem?_zip_eq_some]; exact ⟨List.getElem?_eq_getElem hl, List.getElem?_eq_getElem hu⟩
      rw [this]
      simp only [Option.map_some, k1, k2]
theorem KidsAt.foot {w : World} {r : Ref} {t : TypeId} {l : List (List Int × RowC)} {out : List Nat} {es : Array MapEntry} {us : List Value} (h : KidsAt w r.blk t l out es us) (hn : r.nil = false) {k : Nat} : k ∈ footC w r (.kids t l out) ↔ ∃ (i : Nat) (u : Value), us[i]? = some u ∧ i ∉ out ∧ blkOf u = some k := by
  have hs : SatC (fun _ => none) w true r (.kids t l out) := kids_iff.2 ⟨hn, es, us, h⟩
  obtain ⟨_, us', h1, h2, _⟩ := hs
  have hu : us' = us := by
    refine List.ext_getElem? fun i => ?_
    obtain ⟨es', g1, g2, _⟩ := h2
    rw [h.heap] at g1
    cases g1
    have k2 := h.val i
    have := congrArg (fun l => (l[i]?).map Prod.snd) g2
    simp only [List.getElem?_map, Option.map_map] at this
    have e1 : (es.toList[i]?).map MapEntry.val = (es.toList[i]?).map (Prod.snd ∘ fun e => (e.key, e.val)) := rfl
    rw [e1, this] at k2
    have e2 : ((l.zip us')[i]?).map (Prod.snd ∘ fun x => (keyV x.1.1, x.2)) = ((l.zip us').map Prod.snd)[i]? := by rw [List.getElem?_map]; rfl
    rw [e2, List.map_snd_zip (by omega)] at k2
    exact k2
  subst hu
  exact mem_kidBlocks h1 h2
end
end E
end Go.Proofs.Ytlkchnfgeedghaa
