/- The operations on a map of rows, in the executor. It states nothing about the program. -/
import Derived.Test.YtlkchnfgeedghaaEK
set_option linter.unusedVariables false
namespace Go.Proofs.Ytlkchnfgeedghaa
namespace E
open Go

section
variable {C : Cx} {T : Tys} {S : St} {o : Oper} {K : SV → St → Prop}

theorem makeKids_rule {t tc : TypeId} (ho : o.op = .makeMap t none) (hK : K (.mp S.nx) { S with H := (S.nx, true, .kids tc [] []) :: S.H, nx := S.nx + 1 }) : OpP C o S K := by
  refine ⟨fun β a w hs next Q hn => ?_⟩
  have hno : β S.nx = none := hs.names _ (Nat.le_refl _)
  have hrun : (execOp a.eval o).run C.P w = .ok (.value (.map (some w.heap.size))) (w.alloc (.map #[] 0)) := by
    unfold execOp
    rw [ho]
    simp [Instr.makeMap, run_newObj]
  have hg : SatH C β S.H (w.alloc (.map #[] 0)) := hs.heap.grow (Le.refl _) rfl rfl rfl (by simp) (fun k hk => Go.RowKit.Below.heap_alloc w _ k hk)
  have hka : KidsAt (w.alloc (.map #[] 0)) w.heap.size tc [] [] #[] [] := ⟨heap_new _ _, rfl, fun i => by simp, rfl, fun i e h => by simp at h, fun i k c h => by simp at h, fun i j x y b h => by simp at h⟩
  refine wp_value hrun (hn (ext β S.nx ⟨w.heap.size, 0, false, 0, 0, 1⟩) (.mp S.nx) _ _ _ (hs.newName (hg.cons hno (kids_iff.2 ⟨rfl, _, _, hka⟩) hs.heap (Nat.le_refl _) (.inl (by simp)) (fun k hk => Go.RowKit.Below.heap_alloc w _ k hk) ?_)) ⟨_, ext_self _ _ _, rfl⟩ hK)
  rw [List.eq_nil_iff_forall_not_mem]
  intro k hk
  obtain ⟨i, u, h, _⟩ := (KidsAt.foot (r := ⟨w.heap.size, 0, false, 0, 0, 1⟩) hka rfl).1 hk
  simp at h

/-- What an operation on such a map has at hand. -/
theorem kids_get {β : Names} {a : Act} {w : World} (hs : Sat C β S a w) {m : Operand} {p : Nat} {tc : TypeId} {l : List (List Int × RowC)} {out : List Nat} (hm : S.ev m = .mp p) (hg : get p S.H = some (true, .kids tc l out)) :
    ∃ r es us, β p = some r ∧ a.eval m = .map (some r.blk) ∧ r.nil = false ∧ KidsAt w r.blk tc l out es us ∧ (p, true, Chunk.kids tc l out) ∈ S.H := by
  have h1 := hs.ev m
  rw [hm] at h1
  obtain ⟨r, hr, h1⟩ := h1
  obtain ⟨r', hr', hsat, _⟩ := hs.chunk hg
  rw [hr] at hr'; cases hr'
  obtain ⟨hn, es, us, hk⟩ := kids_iff.1 hsat
  exact ⟨r, es, us, hr, h1, hn, hk, get_mem hg⟩

theorem kids_find {P : Program} {kt n : Nat} (hkey : KeyOK P kt n) {w : World} {b : Nat} {tc : TypeId} {l : List (List Int × RowC)} {out : List Nat} {es : Array MapEntry} {us : List Value} (h : KidsAt w b tc l out es us) {ks : List Int} (hkn : ks.length = n) (hln : ∀ x ∈ l, x.1.length = n) (w' : World) :
    (Instr.findKey kt (keyV ks) es.toList).run P w' = .ok ((idxK l ks).bind fun j => (us[j]?).map fun v => (j, v)) w' := by
  have hf := run_find hkey hkn w' (E := es.toList) (ks := l.map Prod.fst) h.key (fun x hx => by obtain ⟨y, hy, rfl⟩ := List.mem_map.1 hx; exact hln y hy)
  rw [idxK_keys] at hf
  rw [hf]
  congr 2
  funext j
  have := h.val j
  rw [← this, Option.map_map]
  rfl

/-- The row of a key, taken out. -/
theorem out_sat {β : Names} {a : Act} {w w' : World} (hs : Sat C β S a w) {p j : Nat} {tc : TypeId} {l : List (List Int × RowC)} {r : Ref} {es es' : Array MapEntry} {us : List Value} {out : List Nat} (hr : β p = some r) (hn : r.nil = false) (hk : KidsAt w r.blk tc l out es us) (hm : (p, true, Chunk.kids tc l out) ∈ S.H) (hj : j < l.length) (hjo : j ∉ out)
    (hos : w'.os = w.os) (htape : w'.tape = w.tape) (hout : w'.output = w.output) (hsize : w'.heap.size = w.heap.size) (hblk : ∀ k, k ≠ r.blk → w'.heap[k]? = w.heap[k]?) (hk' : KidsAt w' r.blk tc l (j :: out) es' us) (hdr : w.drawn ≤ w'.drawn := by first | exact Nat.le_refl _ | exact Nat.le_succ _ | assumption | (simp only [setCells_drawn]; exact Nat.le_refl _) | (simp; done)) :
    ∃ rq : Ref, us[j]? = some (.slice rq.base rq.n rq.cap) ∧ SatH C (ext β S.nx rq) ((S.nx, true, .row tc (l[j].2)) :: setC p (.kids tc l (j :: out)) S.H) w' := by
  have hno : β S.nx = none := hs.names _ (Nat.le_refl _)
  obtain ⟨b, cap, g1, g2⟩ := hk.row j l[j].1 l[j].2 (List.getElem?_eq_getElem hj) hjo
  have hbf : b ∈ footC w r (.kids tc l out) := (hk.foot hn).2 ⟨j, _, g1, hjo, rfl⟩
  have hbne : b ≠ r.blk := fun e => (hs.heap.kid _ _ _ _ _ hm hr hbf).2.2.2.1 _ _ _ hm hr hn e.symm
  refine ⟨⟨b, 0, false, cap, (l[j].2).len, (l[j].2).sz⟩, by rw [g1]; simp [Ref.base], ?_⟩
  refine hs.heap.takeOut hm hr hn hno hos htape hout hsize hblk (kids_iff.2 ⟨hn, _, _, hk'⟩) (rowAt_sat (g2.same (hblk b hbne)) _) hbf (fun h => ?_) (fun k h => ?_)
  · obtain ⟨i, u, h1, h2, h3⟩ := (hk'.foot hn).1 h
    have : i = j := hk.sep i j _ _ b h1 g1 (fun h => h2 (List.mem_cons_of_mem _ h)) hjo h3 rfl
    subst this
    exact h2 List.mem_cons_self
  · obtain ⟨i, u, h1, h2, h3⟩ := (hk'.foot hn).1 h
    exact (hk.foot hn).2 ⟨i, u, h1, fun h => h2 (List.mem_cons_of_mem _ h), h3⟩

theorem KidsAt.less {w : World} {b : Nat} {t : TypeId} {l : List (List Int × RowC)} {out : List Nat} {es : Array MapEntry} {us : List Value} (h : KidsAt w b t l out es us) (j : Nat) : KidsAt w b t l (j :: out) es us :=
  ⟨h.heap, h.key, h.val, h.len, h.born, fun i k c h1 h2 => h.row i k c h1 (fun h => h2 (List.mem_cons_of_mem _ h)), fun i i' x y b h1 h2 h3 h4 => h.sep i i' x y b h1 h2 (fun h => h3 (List.mem_cons_of_mem _ h)) (fun h => h4 (List.mem_cons_of_mem _ h))⟩

theorem kidsLookup_rule (hT : TysOK C.P T) {t kt vt p n : Nat} {m k : Operand} {tc : TypeId} {l : List (List Int × RowC)} {out : List Nat} {ks : List Int} (ho : o.op = .lookup t m k false) (ht : (T t).map TI.k = some (.map kt vt)) (hz : (C.P.info? vt).map (·.zero) = some (some (.slice none 0 0)))
    (hkey : KeyOK C.P kt n) (hm : S.ev m = .mp p) (hk : S.ev k = .agg (ks.map fun i => .v (.int .i64 i))) (hkn : ks.length = n) (hg : get p S.H = some (true, .kids tc l out)) (hln : ∀ x ∈ l, x.1.length = n)
    (hK0 : idxK l ks = none → K (.v (.slice none 0 0)) S)
    (hK1 : ∀ (j : Nat) (hj : j < l.length), idxK l ks = some j → j ∉ out ∧ K (.full S.nx) { S with H := (S.nx, true, .row tc (l[j].2)) :: setC p (.kids tc l (j :: out)) S.H, nx := S.nx + 1 }) : OpP C o S K := by
  refine ⟨fun β a w hs next Q hnx => ?_⟩
  obtain ⟨r, es, us, hr, h1, hn, hka, hmem⟩ := kids_get hs hm hg
  have h2 := key_val hs hk
  obtain ⟨ti, hti, hki⟩ : ∃ i, T t = some i ∧ i.k = .map kt vt := by simpa [Option.map_eq_some_iff] using ht
  obtain ⟨d, hd, hd'⟩ := (hT t ti hti).kind
  rw [hki] at hd'
  obtain rfl : d = .map kt vt := hd'
  have hf := kids_find hkey hka hkn hln w
  have hrun : ∀ v, (match (idxK l ks).bind fun j => (us[j]?).map fun v => (j, v) with | some (_, v) => v | none => Value.slice none 0 0) = v → (execOp a.eval o).run C.P w = .ok (.value v) w := fun v hv => by
    subst hv
    unfold execOp
    rw [ho]
    simp only [h1, h2]
    simp only [Instr.lookup, Sem.run_bind, run_underlying hd, MapKept.run_getObj_map hka.heap, Result.andThen_ok, Sem.run_pure, hkey.chk ks hkn, hf]
    cases (idxK l ks).bind fun j => (us[j]?).map fun v => (j, v) with
    | none => simp [run_zeroValue' hz]
    | some x => simp
  cases hi : idxK l ks with
  | none =>
    have := hrun (.slice none 0 0) (by rw [hi]; rfl)
    exact wp_value this (hnx β (.v (.slice none 0 0)) _ S w hs rfl (hK0 hi))
  | some j =>
    have hj := idxK_lt hi
    obtain ⟨hjo, hK⟩ := hK1 j hj hi
    obtain ⟨rq, hu, hsat⟩ := out_sat hs hr hn hka hmem hj hjo rfl rfl rfl rfl (fun _ _ => rfl) (hka.less j)
    have := hrun (.slice rq.base rq.n rq.cap) (by rw [hi, Option.bind_some, hu]; rfl)
    exact wp_value this (hnx (ext β S.nx rq) (.full S.nx) _ _ w (hs.newName hsat) ⟨rq, ext_self _ _ _, rfl⟩ hK)

theorem mapEntry_rule (hT : TysOK C.P T) {t kt vt p n : Nat} {m k : Operand} {tc : TypeId} {l : List (List Int × RowC)} {ks : List Int} (c0 : RowC) (ho : o.op = .mapEntry t m k) (ht : (T t).map TI.k = some (.map kt vt)) (hz : (C.P.info? vt).map (·.zero) = some (some (.slice none 0 0)))
    (hkey : KeyOK C.P kt n) (hm : S.ev m = .mp p) (hk : S.ev k = .agg (ks.map fun i => .v (.int .i64 i))) (hkn : ks.length = n) (hg : get p S.H = some (true, .kids tc l [])) (hln : ∀ x ∈ l, x.1.length = n)
    (hK0 : idxK l ks = none → K (.tup [.v (.slice none 0 0), .v (.int .i64 l.length)]) { S with H := setC p (.kids tc (l ++ [(ks, c0)]) [l.length]) S.H })
    (hK1 : ∀ (j : Nat) (hj : j < l.length), idxK l ks = some j → K (.tup [.full S.nx, .v (.int .i64 j)]) { S with H := (S.nx, true, .row tc (l[j].2)) :: setC p (.kids tc l [j]) S.H, nx := S.nx + 1 }) : OpP C o S K := by
  refine ⟨fun β a w hs next Q hnx => ?_⟩
  obtain ⟨r, es, us, hr, h1, hn, hka, hmem⟩ := kids_get hs hm hg
  have h2 := key_val hs hk
  obtain ⟨ti, hti, hki⟩ : ∃ i, T t = some i ∧ i.k = .map kt vt := by simpa [Option.map_eq_some_iff] using ht
  obtain ⟨d, hd, hd'⟩ := (hT t ti hti).kind
  rw [hki] at hd'
  obtain rfl : d = .map kt vt := hd'
  have hf := kids_find hkey hka hkn hln w
  have hes := hka.size
  cases hi : idxK l ks with
  | none =>
    rw [hi] at hf
    have hset := MapKept.heap_set (o' := .map (es.push { key := keyV ks, val := .slice none 0 0, born := es.size }) (es.size + 1)) hka.heap
    have hrun : (execOp a.eval o).run C.P w = .ok (.value (.tuple #[.slice none 0 0, .int .i64 l.length])) { w with heap := w.heap.setIfInBounds r.blk (.map (es.push { key := keyV ks, val := .slice none 0 0, born := es.size }) (es.size + 1)) } := by
      unfold execOp
      rw [ho]
      simp only [h1, h2]
      simp only [Instr.mapEntry, Sem.run_bind, run_underlying hd, MapKept.run_getObj_map hka.heap, Result.andThen_ok, Sem.run_pure, hkey.chk ks hkn, hf, Option.bind_none, run_zeroValue' hz, MapKept.run_setObj_map _ hka.heap, goInt, hes]
    have hka' : KidsAt { w with heap := w.heap.setIfInBounds r.blk (.map (es.push { key := keyV ks, val := .slice none 0 0, born := es.size }) (es.size + 1)) } r.blk tc (l ++ [(ks, c0)]) [l.length] (es.push { key := keyV ks, val := .slice none 0 0, born := es.size }) (us ++ [.slice none 0 0]) := by
      have hwf : ∀ k, k ≠ r.blk → ({ w with heap := w.heap.setIfInBounds r.blk (.map (es.push { key := keyV ks, val := .slice none 0 0, born := es.size }) (es.size + 1)) } : World).heap[k]? = w.heap[k]? := hset.2
      refine ⟨by rw [Array.size_push]; exact hset.1, by simp [hka.key], fun i => ?_, by simp [hka.len], fun i e he => ?_, fun i k c h1 h2 => ?_, fun i j x y b h1 h2 h3 h4 h5 h6 => ?_⟩
      · rw [Array.toList_push, List.getElem?_append, List.getElem?_append]
        simp only [Array.length_toList, hes, hka.len]
        split
        · exact hka.val i
        · cases i - l.length <;> simp
      · rw [Array.getElem?_push] at he
        split at he
        · cases he; simp only; omega
        · exact hka.born i e he
      · have hne : i ≠ l.length := fun e => h2 (by rw [e]; exact List.mem_cons_self)
        have hlt : i < l.length := by
          have := (List.getElem?_eq_some_iff.1 h1).1
          simp only [List.length_append, List.length_cons, List.length_nil] at this; omega
        rw [List.getElem?_append_left hlt] at h1
        obtain ⟨b, cap, g1, g2⟩ := hka.row i k c h1 (by simp)
        have hbf : b ∈ footC w r (.kids tc l []) := (hka.foot hn).2 ⟨i, _, g1, by simp, rfl⟩
        have hbne : b ≠ r.blk := fun e => (hs.heap.kid _ _ _ _ _ hmem hr hbf).2.2.2.1 _ _ _ hmem hr hn e.symm
        exact ⟨b, cap, by rw [List.getElem?_append_left (by rw [hka.len]; exact hlt)]; exact g1, g2.same (hwf b hbne)⟩
      · have hlt : ∀ {i : Nat} {x : Value}, (us ++ [Value.slice none 0 0])[i]? = some x → blkOf x = some b → us[i]? = some x := fun {i x} h hb => by
          rw [List.getElem?_append] at h
          split at h
          · exact h
          · cases hii : i - us.length with
            | zero => rw [hii] at h; cases h; cases hb
            | succ q => rw [hii] at h; simp at h
        exact hka.sep i j x y b (hlt h1 h5) (hlt h2 h6) (by simp) (by simp) h5 h6
    refine wp_value hrun (hnx β _ _ { S with H := setC p (.kids tc (l ++ [(ks, c0)]) [l.length]) S.H } _ ⟨hs.heap.putSub hmem hr hn rfl rfl rfl (by simp) hset.2 (kids_iff.2 ⟨hn, _, _, hka'⟩) (fun k hk => ?_), hs.base, hs.bk, hs.names, hs.defers, hs.size, hs.ts⟩ ?_ (hK0 hi))
    · obtain ⟨i, u, g1, g2, g3⟩ := (hka'.foot hn).1 hk
      rw [List.getElem?_append] at g1
      split at g1
      · exact (hka.foot hn).2 ⟨i, u, g1, by simp, g3⟩
      · cases hii : i - us.length with
        | zero => rw [hii] at g1; cases g1; cases g3
        | succ q => rw [hii] at g1; simp at g1
    · refine ⟨_, rfl, rfl, fun i s hi => ?_⟩
      rcases i with _ | _ | i
      · cases hi; exact ⟨_, rfl, rfl⟩
      · cases hi; exact ⟨_, rfl, rfl⟩
      · simp at hi
  | some j =>
    have hj := idxK_lt hi
    have hjs : j < es.size := by omega
    have hju : j < us.length := by rw [hka.len]; exact hj
    have hkj : es[j].key = keyV ks := by
      have := congrArg (fun l => l[j]?) hka.key
      simp [hjs, hj] at this
      rw [this, idxK_key hi hj]
    have hmod : es.modify j (fun e => { e with key := keyV ks }) = es := by
      refine Array.ext_getElem? fun i => ?_
      rw [toList_modify']
      split
      · rename_i e
        subst e
        rw [Array.getElem?_eq_getElem hjs, Option.map_some, ← hkj]
      · rfl
    have hset := MapKept.heap_set (o' := .map es es.size) hka.heap
    have hf' : (Instr.findKey kt (keyV ks) es.toList).run C.P w = .ok (some (j, us[j])) w := by
      rw [hf, hi, Option.bind_some, List.getElem?_eq_getElem hju]; rfl
    have hrun : (execOp a.eval o).run C.P w = .ok (.value (.tuple #[us[j], .int .i64 j])) { w with heap := w.heap.setIfInBounds r.blk (.map es es.size) } := by
      unfold execOp
      rw [ho]
      have hgj : (es[j]?).map MapEntry.key = some (keyV ks) := by simp [hjs, hkj]
      have hbj : (es[j]?).map (fun x => (x.born : Int)) = some (j : Int) := by
        rw [Array.getElem?_eq_getElem hjs]
        simp only [Option.map_some]
        rw [hka.born j _ (Array.getElem?_eq_getElem hjs)]
      simp only [h1, h2]
      simp only [Instr.mapEntry, Sem.run_bind, run_underlying hd, MapKept.run_getObj_map hka.heap, Result.andThen_ok, Sem.run_pure, hkey.chk ks hkn, hf', hgj, Option.getD_some, run_stays, hmod, MapKept.run_setObj_map _ hka.heap, goInt, hbj, Option.getD_some]
    have hwf : ∀ k, ({ w with heap := w.heap.setIfInBounds r.blk (.map es es.size) } : World).heap[k]? = w.heap[k]? := fun k => by
      by_cases e : k = r.blk
      · rw [e]; exact hset.1.trans hka.heap.symm
      · exact hset.2 k e
    have hka' : KidsAt { w with heap := w.heap.setIfInBounds r.blk (.map es es.size) } r.blk tc l [j] es us := by
      have hl := hka.less j
      exact ⟨hset.1, hl.key, hl.val, hl.len, hl.born, fun i k c h1 h2 => by obtain ⟨b, cap, g1, g2⟩ := hl.row i k c h1 h2; exact ⟨b, cap, g1, g2.same (hwf b)⟩, hl.sep⟩
    obtain ⟨rq, hu, hsat⟩ := out_sat (w' := { w with heap := w.heap.setIfInBounds r.blk (.map es es.size) }) hs hr hn hka hmem hj (by simp) rfl rfl rfl (by simp) hset.2 hka'
    rw [List.getElem?_eq_getElem hju] at hu
    simp only [Option.some.injEq] at hu
    refine wp_value hrun (hnx (ext β S.nx rq) (.tup [.full S.nx, .v (.int .i64 j)]) _ _ _ (hs.newName hsat) ?_ (hK1 j hj hi))
    refine ⟨_, rfl, rfl, fun i s hi => ?_⟩
    rcases i with _ | _ | i
    · cases hi; exact ⟨_, rfl, rq, ext_self _ _ _, hu⟩
    · cases hi; exact ⟨_, rfl, rfl⟩
    · simp at hi


theorem entryStore_rule {t p q j : Nat} {m st x : Operand} {tc : TypeId} {l : List (List Int × RowC)} {c : RowC} {kk : IntKind} (ho : o.op = .entryStore t m st x) (hm : S.ev m = .mp p) (hst : S.ev st = .v (.int kk j)) (hx : S.ev x = .full q) (hpq : p ≠ q)
    (hg : get p S.H = some (true, .kids tc l [j])) (hj : j < l.length) (hq : get q S.H = some (true, .row tc c)) (hc : 0 < c.len)
    (hK : K .junk { S with H := setC p (.kids tc (l.set j (l[j].1, c)) []) (delC q S.H) }) : OpP C o S K := by
  refine ⟨fun β a w hs next Q hnx => ?_⟩
  obtain ⟨r, es, us, hr, h1, hn, hka, hmem⟩ := kids_get hs hm hg
  have h2 := hs.ev st
  rw [hst] at h2
  obtain h2 : a.eval st = _ := h2
  have h3 := hs.ev x
  rw [hx] at h3
  obtain ⟨rq, hrq, h3⟩ := h3
  obtain ⟨rq', hrq', hsatq, hliesq⟩ := hs.chunk hq
  rw [hrq] at hrq'; cases hrq'
  have hnq : rq.nil = false := by
    obtain ⟨_, _, g3, g4, _⟩ := hsatq
    cases hqq : rq.nil with
    | false => rfl
    | true => have := g4 hqq; omega
  obtain ⟨hrow, hoff, hlen⟩ := sat_rowAt hsatq hnq
  have hval : a.eval x = .slice (some ⟨rq.blk, 0, none⟩) c.len rq.cap := by
    rw [h3, hlen]; simp [Ref.base, hnq, hoff]
  have hes := hka.size
  have hjs : j < es.size := by omega
  have hju : j < us.length := by rw [hka.len]; exact hj
  have hidx : es.findIdx? (fun e => (e.born : Int) == (j : Int)) = some j := by
    rw [Array.findIdx?_eq_some_iff_getElem]
    refine ⟨hjs, by rw [hka.born j _ (Array.getElem?_eq_getElem hjs)]; simp, fun i hi => ?_⟩
    rw [hka.born i _ (Array.getElem?_eq_getElem (by omega))]
    simp; omega
  have hset := MapKept.heap_set (o' := .map (es.modify j fun e => { e with val := a.eval x }) es.size) hka.heap
  have hrun : (execOp a.eval o).run C.P w = .ok .skip { w with heap := w.heap.setIfInBounds r.blk (.map (es.modify j fun e => { e with val := a.eval x }) es.size) } := by
    unfold execOp
    rw [ho]
    simp only [h1, h2]
    simp only [Instr.entryStore, Sem.run_bind, MapKept.run_getObj_map hka.heap, Result.andThen_ok, asInt, asIntOf, Sem.run_pure, hidx, MapKept.run_setObj_map _ hka.heap]
  have hmq : (q, true, Chunk.row tc c) ∈ S.H := get_mem hq
  have hbne : rq.blk ≠ r.blk := hs.heap.apart _ _ _ _ _ _ hmq hmem (fun e => hpq e.symm) hrq hr hnq hn
  have hbf : rq.blk ∉ footC w r (.kids tc l [j]) := fun h => (hs.heap.kid _ _ _ _ _ hmem hr h).2.2.2.1 _ _ _ hmq hrq hnq rfl
  have hka' : KidsAt { w with heap := w.heap.setIfInBounds r.blk (.map (es.modify j fun e => { e with val := a.eval x }) es.size) } r.blk tc (l.set j (l[j].1, c)) [] (es.modify j fun e => { e with val := a.eval x }) (us.set j (a.eval x)) := by
    refine ⟨by rw [Array.size_modify]; exact hset.1, ?_, fun i => ?_, by simp [hka.len], fun i e he => ?_, fun i k c' g1 _ => ?_, fun i i' y z b g1 g2 _ _ g5 g6 => ?_⟩
    · have e1 : (l.set j (l[j].1, c)).map Prod.fst = l.map Prod.fst := by
        rw [List.map_set]
        refine List.ext_getElem? fun i => ?_
        rw [List.getElem?_set]
        split
        · rename_i e
          subst e
          simp [hj]
        · rfl
      rw [e1, ← hka.key]
      refine List.ext_getElem? fun i => ?_
      simp only [List.getElem?_map, Array.getElem?_toList]
      rw [toList_modify']
      split
      · rw [Option.map_map]; rfl
      · rfl
    · rw [Array.getElem?_toList, toList_modify', List.getElem?_set]
      by_cases e : i = j
      · subst e
        simp [hjs, hju]
      · have e' : ¬ j = i := fun h => e h.symm
        rw [if_neg e, if_neg e', ← hka.val i, Array.getElem?_toList]
    · rw [toList_modify'] at he
      split at he
      · rename_i e0
        subst e0
        rw [Array.getElem?_eq_getElem hjs] at he
        cases he
        show es[i].born = i
        exact hka.born i _ (Array.getElem?_eq_getElem hjs)
      · exact hka.born i e he
    · rw [List.getElem?_set] at g1
      by_cases e : j = i
      · subst e
        rw [if_pos rfl, if_pos hj] at g1
        cases g1
        exact ⟨rq.blk, rq.cap, by rw [List.getElem?_set, if_pos rfl, if_pos hju, hval], hrow.same (hset.2 _ hbne)⟩
      · rw [if_neg e] at g1
        obtain ⟨b, cap, f1, f2⟩ := hka.row i k c' g1 (by simp; exact fun h => e h.symm)
        have hbf2 : b ∈ footC w r (.kids tc l [j]) := (hka.foot hn).2 ⟨i, _, f1, by simp; exact fun h => e h.symm, rfl⟩
        have hbne2 : b ≠ r.blk := fun e => (hs.heap.kid _ _ _ _ _ hmem hr hbf2).2.2.2.1 _ _ _ hmem hr hn e.symm
        exact ⟨b, cap, by rw [List.getElem?_set, if_neg e]; exact f1, f2.same (hset.2 _ hbne2)⟩
    · have key : ∀ {i : Nat} {y : Value}, (us.set j (a.eval x))[i]? = some y → blkOf y = some b → (i = j ∧ b = rq.blk) ∨ (i ≠ j ∧ us[i]? = some y) := fun {i y} g hb => by
        rw [List.getElem?_set] at g
        by_cases e : j = i
        · subst e
          rw [if_pos rfl, if_pos hju] at g
          cases g
          rw [hval] at hb
          cases hb
          exact .inl ⟨rfl, rfl⟩
        · rw [if_neg e] at g; exact .inr ⟨fun h => e h.symm, g⟩
      rcases key g1 g5 with ⟨a1, a2⟩ | ⟨a1, a2⟩ <;> rcases key g2 g6 with ⟨b1, b2⟩ | ⟨b1, b2⟩
      · rw [a1, b1]
      · exact absurd ((hka.foot hn).2 ⟨i', z, b2, by simpa using b1, by rw [g6, a2]⟩) hbf
      · exact absurd ((hka.foot hn).2 ⟨i, y, a2, by simpa using a1, by rw [g5, b2]⟩) hbf
      · exact hka.sep i i' y z b a2 b2 (by simpa using a1) (by simpa using b1) g5 g6
  refine wp_none hrun (hnx β .junk _ { S with H := setC p (.kids tc (l.set j (l[j].1, c)) []) (delC q S.H) } _ ⟨hs.heap.putIn hmem hr hn hmq hpq hrq hnq rfl rfl rfl (by simp) hset.2 (kids_iff.2 ⟨hn, _, _, hka'⟩) (fun k hk => ?_), hs.base, hs.bk, hs.names, hs.defers, hs.size, hs.ts⟩ trivial hK)
  obtain ⟨i, u, g1, g2, g3⟩ := (hka'.foot hn).1 hk
  rw [List.getElem?_set] at g1
  by_cases e : j = i
  · subst e
    rw [if_pos rfl, if_pos hju] at g1
    cases g1
    rw [hval] at g3
    cases g3
    exact .inr rfl
  · rw [if_neg e] at g1
    exact .inl ((hka.foot hn).2 ⟨i, u, g1, by simp; exact fun h => e h.symm, g3⟩)

end
end E
end Go.Proofs.Ytlkchnfgeedghaa
