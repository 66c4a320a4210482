/- slices.SortFunc at a row of cells, as a rule of the executor: the row is sorted by the stamps, the greatest first. -/
import Derived.Test.YtlkchnfgeedghaaF0
import Derived.Test.YtlkchnfgeedghaaPC
set_option linter.unusedSimpArgs false
namespace Go.Proofs.Ytlkchnfgeedghaa
namespace E
open Go Go.Sort

def encC (c : Cell) : List Value := [.int .i64 c.id.dev, .int .i64 c.id.seq, .int .i64 c.id.pos, .int .i64 c.after.dev, .int .i64 c.after.seq, .int .i64 c.after.pos, .int .i64 c.time, .string c.val, .bool c.gone]
theorem encC_len (c : Cell) : (encC c).length = 9 := rfl
theorem encC_one (c : Cell) : ∀ v ∈ encC c, v.oneCell' = true := RowC.get_one (.cell [c]) 0
theorem encC_get (l : List Cell) (i : Nat) : (RowC.cell l).get i = encC (l.getD i default) := rfl

theorem lt_cmpC (a b : Cell) : ltOf cmpC a b = gtC a b := by
  unfold ltOf
  by_cases h : gtC a b = true
  · rw [h]; exact decide_eq_true ((cmpC_neg a b).2 h)
  · have h' : gtC a b = false := by simpa using h
    rw [h']
    exact decide_eq_false fun g => h ((cmpC_neg a b).1 g)
theorem swo_cmpC : SWO (ltOf cmpC) := by
  refine ⟨fun x => ?_, fun x y z h1 h2 => ?_, fun x y z h1 h2 => ?_⟩ <;> simp only [lt_cmpC] at *
  · cases h : gtC x x with
    | false => rfl
    | true => have := gtC_asymm h; rw [h] at this; cases this
  · exact gtC_trans h1 h2
  · cases h : gtC x z with
    | false => rfl
    | true =>
      have n1 : ¬ gtC x y = true := by simp [h1]
      have n2 : ¬ gtC y z = true := by simp [h2]
      rw [gtC_iff] at n1 n2 h
      omega

/-- What the sort leaves, as a list. -/
theorem sorted_of {ch : List Cell} {d' : Array Cell} (hp : PermIn 0 ch.length ch.toArray d') (hs : SortedIn (ltOf cmpC) 0 ch.length d') (hd : (ch.map Cell.id).Nodup) : d'.toList.Perm ch ∧ sortedC d'.toList := by
  obtain ⟨h1, _, h2⟩ := hp
  have hsz : d'.size = ch.length := by simpa using h1
  have hperm : d'.toList.Perm ch := by
    simp only [Array.toList_extract] at h2
    have e1 : d'.toList.extract 0 ch.length = d'.toList := by
      rw [List.extract_eq_take_drop, List.drop_zero, List.take_of_length_le (by simp [hsz])]
    have e2 : ch.extract 0 ch.length = ch := by rw [List.extract_eq_take_drop]; simp
    rw [e1, e2] at h2
    exact h2
  refine ⟨hperm, ?_⟩
  have hd' : (d'.toList.map Cell.id).Nodup := ((hperm.map Cell.id).nodup_iff).2 hd
  rw [sortedC, List.pairwise_iff_getElem]
  intro i j hi hj hij
  have hi' : i < d'.size := by simpa using hi
  have hj' : j < d'.size := by simpa using hj
  have h3 := hs i j (Nat.zero_le _) hij (by omega)
  rw [lt_cmpC, getElem!_pos d' j hj', getElem!_pos d' i hi'] at h3
  have hne : d'[i].id ≠ d'[j].id := by
    have := List.pairwise_iff_getElem.1 hd' i j (by simpa using hi') (by simpa using hj') hij
    simpa using this
  simp only [Array.getElem_toList]
  exact (gtC_total hne).resolve_right (by simp [h3])

/-- A block that is a row of cells, with others in their place. -/
theorem row_heap {w : World} {b : Nat} {arr : Array Value} {t : TypeId} (h : w.heap[b]? = some (.cells arr t (0, 0))) (n : Nat) (d : Array Cell) :
    ∃ arr', (putRowK encC 9 (Sort.ahead w n) b 0 d).heap[b]? = some (.cells arr' t (0, 0)) ∧ arr'.size = arr.size ∧
      (∀ i, i < d.size → ∀ (q : Nat) (u : Value), (encC d[i]!)[q]? = some u → i * 9 + q < arr.size → arr'[i * 9 + q]? = some u) ∧ ∀ j, d.size * 9 ≤ j → arr'[j]? = arr[j]? := by
  refine ⟨putCells id 0 (flatK encC 9 d) arr, ?_, by simp [putCells], fun i hi q u hu hlt => ?_, fun j hj => ?_⟩
  · show (w.heap.modify b (onCells (putCells id 0 (flatK encC 9 d))))[b]? = _
    rw [Array.getElem?_modify, if_pos rfl, h]; rfl
  · have hq : q < 9 := by have := (List.getElem?_eq_some_iff.1 hu).1; rwa [encC_len] at this
    have hf : i * 9 + q < d.size * 9 := by omega
    have hg := get_flatK encC 9 d (i * 9 + q) hf
    rw [show (i * 9 + q) / 9 = i by omega, show (i * 9 + q) % 9 = q by omega] at hg
    simp only [putCells, Array.getElem?_mapIdx, Array.getElem?_eq_getElem hlt, Option.map_some, size_flatK]
    rw [if_pos ⟨by omega, by omega⟩]
    simp only [id, Nat.sub_zero, hg]
    rw [List.getElem!_eq_getElem?_getD, hu]; rfl
  · simp only [putCells, Array.getElem?_mapIdx, size_flatK]
    cases hj2 : arr[j]? with
    | none => rfl
    | some x => simp only [Option.map_some]; rw [if_neg (by omega)]

theorem put_other (w : World) (n b : Nat) (d : Array Cell) {k : Nat} (hk : k ≠ b) : (putRowK encC 9 (Sort.ahead w n) b 0 d).heap[k]? = w.heap[k]? := by
  show (w.heap.modify b (onCells (putCells id 0 (flatK encC 9 d))))[k]? = _
  rw [Array.getElem?_modify, if_neg (Ne.symm hk)]
theorem put_size (w : World) (n b : Nat) (d : Array Cell) : (putRowK encC 9 (Sort.ahead w n) b 0 d).heap.size = w.heap.size := by
  show (w.heap.modify b (onCells (putCells id 0 (flatK encC 9 d)))).size = _
  rw [Array.size_modify]

/-- The comparison in each world of the sort. -/
theorem cmp_lays {w : World} {rb : Ref} {blk : Nat} {size : Nat} {β : Names} {own : Bool} (hb : SatC β w own rb (.box 62 [.clo 32 []])) (hlt : rb.blk < w.heap.size) (hne : rb.blk ≠ blk) :
    CmpLays Try.prog 41 #[.pointer (some ⟨rb.blk, rb.off, none⟩)] encC 9 cmpC blk 0 size w := by
  intro m os dk hdk x y
  obtain ⟨W, hW⟩ : ∃ W, W = sortWorldK encC 9 w blk 0 m dk os := ⟨_, rfl⟩
  rw [← hW]
  have hWsz : w.heap.size ≤ W.heap.size := by rw [hW]; exact size_sortWorldK_c encC 9 w blk 0 m dk os
  have hWb : W.heap[rb.blk]? = w.heap[rb.blk]? := by
    rw [hW, sortWorldK, heap_grow_old _ _ (by rw [put_size]; exact hlt), put_other _ _ _ _ hne]
  obtain ⟨β0, hβ0⟩ : ∃ β0 : Names, β0 = fun p => if p = 0 then some rb else none := ⟨_, rfl⟩
  have h0 : β0 0 = some rb := by simp [hβ0]
  have hsat : SatH ⟨Try.prog, W, fun _ => False, β0, 1⟩ β0 [(0, false, .box 62 [.clo 32 []])] W := by
    refine ⟨⟨rfl, rfl, rfl, Nat.le_refl _, fun _ _ _ => rfl, Nat.le_refl _⟩, fun _ h => h.elim, fun p o ch hp => ?_, fun p o c o' c' h1 h2 => ?_, fun p q cp cq rp rq hp hq => ?_, fun p o c r k hp hr hk => ?_⟩
    · rcases List.mem_cons.1 hp with e | hp
      · cases e
        refine ⟨rb, h0, ?_, ?_⟩
        · obtain ⟨arr, g1, g2, g3, g4, g5, g6⟩ := hb
          exact ⟨arr, by rw [hWb]; exact g1, g2, g3, g4, fun i s hi => by
            obtain ⟨u, a, b⟩ := g5 i s hi
            refine ⟨u, a, ?_⟩
            rcases i with _ | i
            · cases hi
              obtain ⟨ys, b1, b2, b3⟩ := b
              exact ⟨ys, b1, b2, fun i p hp => by simp at hp⟩
            · simp at hi, g6⟩
        · simp only [Lies, Bool.false_eq_true, if_false]
          exact fun _ => ⟨Nat.lt_of_lt_of_le hlt hWsz, fun h => h⟩
      · cases hp
    · rcases List.mem_cons.1 h1 with e | h1
      · rcases List.mem_cons.1 h2 with e' | h2
        · cases e; cases e'; rfl
        · cases h2
      · cases h1
    · rcases List.mem_cons.1 hp with e | hp
      · cases e
      · cases hp
    · rcases List.mem_cons.1 hp with e | hp
      · cases e; cases hk
      · cases hp
  have hargs : RL β0 [.agg (cellS x), .agg (cellS y), .ptr 0 0] [.agg (encC x).toArray, .agg (encC y).toArray, .pointer (some ⟨rb.blk, rb.off, none⟩)] := by
    have hag : ∀ c : Cell, R β0 (.agg (cellS c)) (.agg (encC c).toArray) := fun c => by
      refine ⟨encC c, rfl, rfl, fun i s hi => ?_, encC_one c⟩
      have e : cellS c = (encC c).map .v := rfl
      rw [e, List.getElem?_map, Option.map_eq_some_iff] at hi
      obtain ⟨u, hu, rfl⟩ := hi
      exact ⟨u, hu, rfl⟩
    refine ⟨rfl, fun i s hi => ?_⟩
    rcases i with _ | _ | _ | i
    · cases hi; exact ⟨_, rfl, hag x⟩
    · cases hi; exact ⟨_, rfl, hag y⟩
    · cases hi; exact ⟨_, rfl, rb, h0, rfl⟩
    · simp at hi
  refine ((cmp_spec x y).out β0 W hsat (fun p hp => by rw [hβ0]; exact if_neg (by omega)) _ hargs).mono ?_
  rintro e w' ⟨β', u, rfl, _, hs', _, hR⟩
  have hu : u = .int .i64 (cmpC x y) := hR
  subst hu
  obtain ⟨f1, f2, f3, f4, f5, f6⟩ := hs'.fr
  refine ⟨rfl, w'.drawn - W.drawn, w'.heap.extract W.heap.size w'.heap.size, ?_⟩
  have f4 : W.heap.size ≤ w'.heap.size := f4
  have f6 : W.drawn ≤ w'.drawn := f6
  have hheap : w'.heap = W.heap ++ w'.heap.extract W.heap.size w'.heap.size := by
    apply Array.ext_getElem?
    intro k
    rw [Array.getElem?_append]
    split
    · rename_i h; exact f5 k h (fun h => h)
    · rename_i h
      rw [Array.getElem?_extract]
      split
      · congr 1; omega
      · rw [Array.getElem?_eq_none (by omega)]
  obtain ⟨hp, tp, dr, o, ou⟩ := w'
  obtain ⟨Hp, Tp, Dr, O, Ou⟩ := W
  simp only at f1 f2 f3 f4 f6 hheap
  subst f1 f2 f3
  simp only [grow, World.drewN]
  congr 1
  omega

section
variable {C : Cx} {S : St} {K : SV → St → Prop}

set_option maxHeartbeats 2000000 in
theorem sort_rule (hC : C.P = Try.prog) {q b : Nat} {t : TypeId} {own : Bool} {ch o : List Cell} (hq : get q S.H = some (true, .row t (.cell ch))) (hb : get b S.H = some (own, .box 62 [.clo 32 []])) (hbq : b ≠ q)
    (hd : (ch.map Cell.id).Nodup) (hlen : ch.length ≤ 1000000) (ho : o.Perm ch) (hso : sortedC o) (hK : K (.tup []) { S with H := setC q (.row t (.cell o)) S.H }) : CallP C 40 [.full q, .clo 41 [b]] S K := by
  refine .of ?_ fun β a w hs vs hvs => ?_
  · rw [hC]; exact ⟨_, Try.func40, by kernel_rfl, by kernel_rfl⟩
  rw [hC]
  obtain ⟨r, hr, hsat, hlies⟩ := hs.heap.sat _ _ _ (get_mem hq)
  obtain ⟨rb, hrb, hsb, hlb⟩ := hs.heap.sat _ _ _ (get_mem hb)
  obtain ⟨hl, hrel⟩ := hvs
  obtain ⟨v0, v1, rfl⟩ : ∃ v0 v1, vs = [v0, v1] := by
    rcases vs with _ | ⟨v0, _ | ⟨v1, _ | ⟨v2, vs⟩⟩⟩ <;> simp at hl
    exact ⟨v0, v1, rfl⟩
  obtain ⟨u0, e0, hR0⟩ := hrel 0 _ rfl
  obtain ⟨u1, e1, hR1⟩ := hrel 1 _ rfl
  cases e0; cases e1
  obtain ⟨r', hr', rfl⟩ := hR0
  rw [hr] at hr'; cases hr'
  obtain ⟨ys, rfl, hyl, hys⟩ := hR1
  obtain ⟨rb', hrb', hy0⟩ := hys 0 b rfl
  rw [hrb] at hrb'; cases hrb'
  obtain rfl : ys = [.pointer (some ⟨rb.blk, rb.off, none⟩)] := by
    rcases ys with _ | ⟨y, _ | ⟨y', ys⟩⟩ <;> simp at hyl
    simp at hy0; rw [hy0]
  have hsame : ∀ {H' : Heap}, ch = [] → SatH C β (setC q (.row t (.cell o)) S.H) w := fun {_} hnil => by
    subst hnil
    have : o = [] := List.perm_nil.1 ho
    subst this
    refine hs.heap.sub fun p own' c hp => ?_
    rcases mem_setC hp with ⟨_, h⟩ | ⟨h1, h2, c', h3⟩
    · exact h
    · subst h1; subst h2
      have := hs.heap.uniq _ _ _ _ _ h3 (get_mem hq)
      subst this
      exact get_mem hq
  have hfin : ∀ (w' : World), SatH C β (setC q (.row t (.cell o)) S.H) w' → ∃ β' r u S', (Ending.returned (.tuple #[]) : Ending) = .returned u ∧ Sat C β' S' a w' ∧ R β' r u ∧ K r S' := fun w' hH =>
    ⟨β, .tup [], .tuple #[], { S with H := setC q (.row t (.cell o)) S.H }, rfl, ⟨hH, hs.base, hs.bk, hs.names, hs.defers, hs.size, hs.ts⟩, ⟨[], rfl, rfl, fun i s h => by simp at h⟩, hK⟩
  obtain ⟨c1, c2, c3, c4, c5, c6⟩ := hsat
  have c1 : r.n = ch.length := c1
  have c2 : r.sz = 9 := c2
  have c3 : ch.length ≤ r.cap := c3
  rcases hch : ch with _ | ⟨x, ch'⟩
  · have hn0 : r.n = 0 := by rw [c1, hch]; rfl
    rw [hn0]
    refine (AnyF.slices_SortFunc_none Ytlkchnfgeedghaa.sortCells r.base r.cap _ w).mono ?_
    rintro e w' ⟨rfl, rfl⟩
    exact hfin _ (hsame (H' := []) hch)
  · have hnil : r.nil = false := by
      cases h : r.nil with
      | false => rfl
      | true => have := c4 h; rw [hch] at c3; simp at c3; omega
    obtain ⟨d1, arr, e, d2, d3, d4, d5, d6⟩ := c6 rfl hnil
    have d3 : arr.size = r.cap * 9 := d3
    have hlt : r.blk < w.heap.size := by
      simp only [Lies, if_true] at hlies; exact (hlies hnil).1
    have hbne : rb.blk ≠ r.blk := hs.heap.blk_ne (get_mem hq) (get_mem hb) hbq hr hrb hnil (.inl trivial)
    have hblt : rb.blk < w.heap.size := by
      unfold Lies at hlb
      split at hlb
      · exact (hlb (SatC.solid_or hsb trivial)).1
      · exact Nat.lt_of_lt_of_le (hlb trivial).1 hs.heap.fr.size
    have hH : HoldsK encC 9 w r.blk 0 ch.toArray := by
      intro j hj
      rw [size_flatK] at hj
      have hj' : j < ch.length * 9 := by simpa using hj
      rw [get_flatK _ _ _ _ hj]
      have hi : j / 9 < ch.length := by omega
      have hu : ((RowC.cell ch).get (j / 9))[j % 9]? = some (encC ch.toArray[j / 9]!)[j % 9]! := by
        rw [encC_get]
        have e1 : ch.toArray[j / 9]! = ch.getD (j / 9) default := by
          rw [getElem!_pos _ _ (by simpa using hi)]; simp [List.getD, hi]
        rw [e1, List.getElem!_eq_getElem?_getD]
        have hq9 : j % 9 < (encC (ch.getD (j / 9) default)).length := by rw [encC_len]; omega
        rw [List.getElem?_eq_getElem hq9]; rfl
      have hc := c5 (j / 9) hi (j % 9) _ hu
      have c : r.off + j / 9 * (RowC.cell ch).sz + j % 9 = 0 + j := by show r.off + j / 9 * 9 + j % 9 = _; omega
      rw [c] at hc
      refine ⟨hc, ?_⟩
      simp [World.frozen?, d2]
    have hrun := AnyQ.slices_SortFunc Ytlkchnfgeedghaa.sortCells 9 (fun w => Try.isAgg33 w) (fun w => Try.sizeOf33 w) encC encC_len encC_one cmpC swo_cmpC 41 #[.pointer (some ⟨rb.blk, rb.off, none⟩)] r.blk 0 r.cap ch.toArray w
      (fun args w => by kernel_rfl) (cmp_lays hsb hblt hbne) hH hlt (by simp; omega)
    have hbase : r.base = some ⟨r.blk, 0, none⟩ := by simp [Ref.base, hnil, d1]
    rw [hbase, c1]
    have hsz : ch.toArray.size = ch.length := by simp
    rw [hsz] at hrun
    refine Calls.mono hrun ?_
    rintro ee w' ⟨rfl, d', n, os, g1, g2, rfl⟩
    obtain ⟨p1, p2⟩ := sorted_of g1 g2 hd
    have hod : d'.toList = o := sorted_unique p2 hso (p1.trans ho.symm)
    have hds : d'.size = ch.length := by rw [← Array.length_toList, hod]; exact ho.length_eq
    refine hfin _ ?_
    obtain ⟨arr', a1, a2, a3, a4⟩ := row_heap d2 n d'
    have hput : SatH C β (setC q (.row t (.cell o)) S.H) (putRowK encC 9 (Sort.ahead w n) r.blk 0 d') := by
      refine hs.heap.put (get_mem hq) hr hnil rfl rfl rfl (put_size _ _ _ _) (fun k hk => put_other _ _ _ _ hk) ?_ rfl (by exact Nat.le_add_right _ _)
      have hol : o.length = ch.length := ho.length_eq
      refine ⟨by rw [c1]; exact hol.symm, c2, by show o.length ≤ r.cap; omega, c4, fun i hi k u hu => ?_, fun _ _ => ⟨d1, arr', e, a1, by rw [a2]; exact d3, ?_, ?_, fun i hi k u hu => ?_⟩⟩
      · have hi : i < o.length := hi
        have hk : k < 9 := by
          have := (List.getElem?_eq_some_iff.1 hu).1
          rwa [RowC.get_length] at this
        rw [World.cell?, a1]
        simp only [Option.isSome_none, Bool.false_eq_true, if_false]
        rw [encC_get] at hu
        have e1 : d'[i]! = o.getD i default := by
          have hlt' : i < d'.size := by omega
          rw [getElem!_pos d' i hlt', ← hod, List.getD, Array.getElem?_toList, Array.getElem?_eq_getElem hlt']; rfl
        rw [d1, Nat.zero_add]
        exact a3 i (by omega) k u (by rw [e1]; exact hu) (by rw [d3]; omega)
      · cases e <;> first | exact d4 | trivial
      · show o.length + e.len = r.cap
        have : ch.length + e.len = r.cap := d5
        omega
      · have := d6 i hi k u hu
        show arr'[(o.length + i) * 9 + k]? = some u
        rw [a4 _ (by omega), hol]
        exact this
    refine hput.grow (Le.refl _) rfl rfl rfl (by rw [sortWorldK, size_grow]; omega) (fun k hk => ?_) (by exact Nat.le_refl _)
    rw [sortWorldK]
    exact heap_grow_old _ _ hk

end
end E
end Go.Proofs.Ytlkchnfgeedghaa
