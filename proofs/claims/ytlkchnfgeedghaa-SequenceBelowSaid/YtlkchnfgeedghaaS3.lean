/- below of the reference (recursive) is walked here. -/
import Derived.Test.YtlkchnfgeedghaaS2
set_option linter.unusedSimpArgs false
namespace Go.Proofs.Ytlkchnfgeedghaa
namespace E
open Go
open Go.Proofs.Ytlkchnfgeedghaa.E renaming Ex_seq → Za, Ex_region → Zb, Ex_block → Zc, Ex_exit → Zd, Ex_ret → Ze, Ex_skip → Zf, Ex_label → Zg, Ex_scope → Zh, Ex_loop → Zi, Ex_draw → Zj, Ex_if → Zk, condD_t → Zl, condD_f → Zm, SeqK_normal → Zn, SeqK_ret → Zo, SeqK_exit → Zp, BlockK_normal → Zq, BlockK_exit → Zr, BlockK_ret → Zs, ScopeK_normal → Zt, ScopeK_exit → Zu, ScopeK_ret → Zv, LoopK_normal → Zw, LoopK_exit → Zx, LoopK_ret → Zy, NormK_run → Zz, sops_run → ZA, sops_nil → ZB, guardO → ZC, guardG → ZD, guardD_tt → ZE, guardD_ff → ZF, guardD_tf → ZG, guardD_ft → ZH, guardD_u → ZI, OpsK_run → ZJ, InlK_run → ZK, baseD → ZL, delC → ZM, RowC.ap → ZN, RowC.over → ZO, RowC.take → ZP, RowC.drop → ZQ, RowC.zeros → ZR, step → ZS, goRs → ZT, goCall → ZU, goNew → ZV, pur → ZW, bin → ZX, ibin → ZY, sbin → ZZ, num → Z0, lo → Z1, hi → Z2, St.ev → Z3, ofConst → Z4, nth → Z5, upd → Z6, PutD → Z7, tys → Z8, get → Z9, setC → Ya, ld → Yb, stO → Yc, segO → Yd, dropO → Ye, takeO → Yf, nthO → Yg, layO → Yh, flat → Yi, fillO → Yj, pushAll → Yk, RowC.push → Yl, RowC.nil → Ym, RowC.get → Yn, RowC.sz → Yo, RowC.len → Yp, setCells → Yq, RowC.setCell → Yr, lenK → Ys, boundsOf → Yt, caps → Yu, TK.agg → Yv, RetK_r → Yx, RetK_n → Yy, RetO → Yz, resOf → YA, noTup → YB, packR → YC, inH → YD, newH → YE, qops_run → Jm, qops_nil → Jn, qguardO → Jo, qguardG → Jp, qguardD_tt → Jq, qguardD_ff → Jr, qguardD_tf → Js, qguardD_ft → Jt, qguardD_u → Ju, QK_run → Jv, qstep → Jw, qRs → Jx, qRsO → Jy, qCall → Jz, det → JA, dets → JB, ren → JX, renB → JY, renA → JZ, toC → J0, rowsOf → J1, eqId → J3, eqCell → J4, id_eta → J5, cell_eta → J6
open Go renaming Value.oneCell' → Yw
open List renaming contains_cons → YF, contains_nil → YG, getElem?_toArray → YL, getElem?_cons_zero → YM, getElem?_cons_succ → YN, map_cons → YO, map_nil → YP, length_cons → YQ, length_nil → YR, all_cons → YS, all_nil → YT, append_nil → YU, cons_append → YV, nil_append → YW, size_toArray → YX, take_succ_cons → JC, take_zero → JD, drop_succ_cons → JE, drop_zero → JF
open Option renaming bind_some → YH, bind_none → YI, map_some → YJ, map_none → YK, isSome_some → Jh
open Nat renaming reduceAdd → YY, reduceMul → YZ, reduceSub → Y0, reduceEqDiff → Y1, reduceLeDiff → Y2, reduceLT → Y3, reduceBEq → Y4, reduceBNe → Y5, add_zero → Y6, zero_add → Y7, lt_irrefl → J2
open Bool renaming or_false → Y8, false_or → Y9, or_true → Ja, not_true → Jb, not_false → Jc, and_true → Jd, true_and → Je, and_self → Jf, false_eq_true → Jg
open Int renaming toNat_natCast → Ji

def posC (ys : List Cell) (c : Cell) : Nat := (ys.takeWhile (fun y => gtC y c)).length
def insP (ys : List Cell) (c : Cell) : List Cell := ys.take (posC ys c) ++ c :: ys.drop (posC ys c)
def kidsL (l : List Cell) (x : Id3) : List Cell := l.foldl (fun ch c => if c.after = x then insP ch c else ch) []
def belowN (l : List Cell) : Nat → Id3 → List Cell
  | 0, _ => []
  | k + 1, x => (kidsL l x).flatMap fun c => c :: belowN l k c.id
/-- The tree under an ID is at most k deep. -/
def deepB (l : List Cell) : Nat → Id3 → Prop
  | 0, _ => False
  | k + 1, x => ∀ c ∈ kidsL l x, deepB l k c.id

theorem posC_eq {c : Cell} : ∀ {l : List Cell} {i : Nat}, i ≤ l.length → (∀ j, j < i → gtC (l.getD j default) c = true) → (i < l.length → gtC (l.getD i default) c = false) → posC l c = i
  | [], i, h, _, _ => by simp at h; subst h; rfl
  | t :: l, 0, _, _, h2 => by
    have := h2 (by simp)
    simp at this
    simp [posC, List.takeWhile_cons, this]
  | t :: l, i + 1, h, h1, h2 => by
    have h0 := h1 0 (by omega)
    simp at h0
    have := posC_eq (l := l) (i := i) (by simpa using h) (fun j hj => by have := h1 (j + 1) (by omega); simpa using this) (fun hl => by have := h2 (by simpa using hl); simpa using this)
    simp only [posC] at this
    simp [posC, List.takeWhile_cons, h0, this]
theorem posC_le (ys : List Cell) (c : Cell) : posC ys c ≤ ys.length := by
  unfold posC
  induction ys with
  | nil => simp
  | cons y ys ih => rw [List.takeWhile_cons]; split <;> simp; omega
theorem insP_len (ys : List Cell) (c : Cell) : (insP ys c).length = ys.length + 1 := by
  have := posC_le ys c
  simp [insP]; omega
theorem fold_len (x : Id3) : ∀ (l ch : List Cell), (l.foldl (fun ch c => if c.after = x then insP ch c else ch) ch).length ≤ ch.length + l.length
  | [], ch => by simp
  | c :: l, ch => by
    have := fold_len x l (if c.after = x then insP ch c else ch)
    rw [List.foldl_cons]
    split at this
    · rename_i h; rw [if_pos h]; rw [insP_len] at this; simp; omega
    · rename_i h; rw [if_neg h]; simp; omega
theorem kidsL_len (l : List Cell) (x : Id3) : (kidsL l x).length ≤ l.length := by
  have := fold_len x l []
  simpa [kidsL] using this
theorem kidsL_take {l : List Cell} {x : Id3} {i : Nat} (h : i < l.length) : kidsL (l.take (i + 1)) x = if (l.getD i default).after = x then insP (kidsL (l.take i) x) (l.getD i default) else kidsL (l.take i) x := by
  rw [take_succ_getD h, kidsL, List.foldl_append]; rfl

def kidF (l : List Cell) (x : Id3) (i : Nat) : St :=
  ⟨[.full 0, .junk, .junk, .ptr 1 0, .v (.slice none 0 0), .full 2, .v (.int .i64 i)] ++ List.replicate 76 .junk, [(2, true, .row 33 (.cell (kidsL (l.take i) x))), (1, true, .box 31 (idS x)), (0, false, .row 33 (.cell l))], 3⟩
def kidG (l : List Cell) (x : Id3) (i k : Nat) : St :=
  ⟨[.full 0, .junk, .junk, .ptr 1 0, .v (.slice none 0 0), .full 2, .v (.int .i64 i), .v (.int .i64 k)] ++ List.replicate 75 .junk, [(2, true, .row 33 (.cell (kidsL (l.take i) x))), (1, true, .box 31 (idS x)), (0, false, .row 33 (.cell l))], 3⟩
def kidO (l ks : List Cell) (f : Cell → List Cell) (i : Nat) : St :=
  ⟨[.full 0, .junk, .junk, .junk, .v (.slice none 0 0), .full 2, .junk, .junk, .junk, .full 3, .v (.int .i64 i)] ++ List.replicate 72 .junk, [(3, true, .row 33 (.cell ((ks.take i).flatMap f))), (2, true, .row 33 (.cell ks)), (0, false, .row 33 (.cell l))], 4⟩
theorem flatMap_len_take {α β : Type} (l : List α) (f : α → List β) (i : Nat) : ((l.take i).flatMap f).length ≤ (l.flatMap f).length := by
  conv => rhs; rw [← List.take_append_drop i l, List.flatMap_append, List.length_append]
  omega

set_option maxRecDepth 100000 in
set_option maxHeartbeats 8000000 in
theorem below_spec (l : List Cell) (hl : l.length ≤ 100000) : ∀ (k : Nat) (x : Id3), deepB l k x → (belowN l k x).length ≤ 1000000 →
    Spec Try.prog 34 (inH 0 [(33, .cell l)]) 1 [.full 0, .agg (idS x)] (.full 1) [(33, .cell (belowN l k x))]
  | 0, x, h, _ => h.elim
  | k + 1, x, hd, hlen => by
    have ih : ∀ c ∈ kidsL l x, (belowN l k c.id).length ≤ 1000000 → Spec Try.prog 34 (inH 0 [(33, .cell l)]) 1 [.full 0, .agg (idS c.id)] (.full 1) [(33, .cell (belowN l k c.id))] := fun c hc => below_spec l hl k c.id (hd c hc)
    refine spec_of_ex (wr := []) tys_ok Try.func34 rfl rfl fun C hC hk => ?_
    rw [Try.ntmps34, Try.results34]
    simp only [ini, List.length_cons, List.length_nil, Nat.reduceAdd, Nat.reduceSub, List.reduceReplicate, List.cons_append, List.nil_append]
    simp only [Za,Zb,Zc,Zd,Ze,Zf,Zg,Zh,Zi,Zj,Zk,Zl,Zm,Zn,Zo,Zp,Zq,Zr,Zs,Zt,Zu,Zv,Zw,Zx,Zy,Zz,ZA,ZB,ZC,ZD,ZE,ZF,ZG,ZH,ZI,ZJ,ZK,ZL,ZM,ZN,ZO,ZP,ZQ,ZR,ZS,ZT,ZU,ZV,ZW,ZX,ZY,ZZ,Z0,Z1,Z2,Z3,Z4,Z5,Z6,Z7,Z8,Z9,Ya,Yb,Yc,Yd,Ye,Yf,Yg,Yh,Yi,Yj,Yk,Yl,Ym,Yn,Yo,Yp,Yq,Yr,Ys,Yt,Yu,Yv,Yw,Yx,Yy,Yz,YA,YB,YC,YD,YE,YF,YG,YH,YI,YJ,YK,YL,YM,YN,YO,YP,YQ,YR,YS,YT,YU,YV,YW,YX,if_true,if_false,reduceIte,reduceCtorEq,YY,YZ,Y0,Y1,Y2,Y3,Y4,Y5,Y6,Y7,Y8,Y9,Ja,Jb,Jc,Jd,Je,Jf,Jg,Jh,or_true,and_true,true_and,and_self,Ji,cond_true,cond_false]
    refine loop_rule (wr := []) (by rw [hC]; exact tys_ok) (kidF l x) (fun i => i ≤ l.length) (fun i => l.length - i) 0 (Nat.zero_le _) ?_ ?_
    · have h0 : kidsL ([] : List Cell) x = [] := rfl
      simp only [kidF, List.take_zero, h0, List.reduceReplicate, List.cons_append, List.nil_append]
      refine ent_of [] (by rw [hk]; simp) (by simp) (by simp [entT, mp, mps, bd, bds, sg]) (by simp [entH, sg, get, mpC, mps, mp, bdC, bds, bd, inH]) (by simp [entI, inH, sg])
    · intro i hil
      have hkl := kidsL_len (l.take i) x
      rw [List.length_take] at hkl
      simp only [kidF, List.reduceReplicate, List.cons_append, List.nil_append]
      simp only [Za,Zb,Zc,Zd,Ze,Zf,Zg,Zh,Zi,Zj,Zk,Zl,Zm,Zn,Zo,Zp,Zq,Zr,Zs,Zt,Zu,Zv,Zw,Zx,Zy,Zz,ZA,ZB,ZC,ZD,ZE,ZF,ZG,ZH,ZI,ZJ,ZK,ZL,ZM,ZN,ZO,ZP,ZQ,ZR,ZS,ZT,ZU,ZV,ZW,ZX,ZY,ZZ,Z0,Z1,Z2,Z3,Z4,Z5,Z6,Z7,Z8,Z9,Ya,Yb,Yc,Yd,Ye,Yf,Yg,Yh,Yi,Yj,Yk,Yl,Ym,Yn,Yo,Yp,Yq,Yr,Ys,Yt,Yu,Yv,Yw,Yx,Yy,Yz,YA,YB,YC,YD,YE,YF,YG,YH,YI,YJ,YK,YL,YM,YN,YO,YP,YQ,YR,YS,YT,YU,YV,YW,YX,if_true,if_false,reduceIte,reduceCtorEq,YY,YZ,Y0,Y1,Y2,Y3,Y4,Y5,Y6,Y7,Y8,Y9,Ja,Jb,Jc,Jd,Je,Jf,Jg,Jh,or_true,and_true,true_and,and_self,Ji,cond_true,cond_false]
      refine cond_split (fun h2 => ?_) (fun h2 => ?_)
      · have hlt : i < l.length := by simpa using h2
        have ht := kidsL_take (x := x) hlt
        simp only [Za,Zb,Zc,Zd,Ze,Zf,Zg,Zh,Zi,Zj,Zk,Zl,Zm,Zn,Zo,Zp,Zq,Zr,Zs,Zt,Zu,Zv,Zw,Zx,Zy,Zz,ZA,ZB,ZC,ZD,ZE,ZF,ZG,ZH,ZI,ZJ,ZK,ZL,ZM,ZN,ZO,ZP,ZQ,ZR,ZS,ZT,ZU,ZV,ZW,ZX,ZY,ZZ,Z0,Z1,Z2,Z3,Z4,Z5,Z6,Z7,Z8,Z9,Ya,Yb,Yc,Yd,Ye,Yf,Yg,Yh,Yi,Yj,Yk,Yl,Ym,Yn,Yo,Yp,Yq,Yr,Ys,Yt,Yu,Yv,Yw,Yx,Yy,Yz,YA,YB,YC,YD,YE,YF,YG,YH,YI,YJ,YK,YL,YM,YN,YO,YP,YQ,YR,YS,YT,YU,YV,YW,YX,if_true,if_false,reduceIte,reduceCtorEq,YY,YZ,Y0,Y1,Y2,Y3,Y4,Y5,Y6,Y7,Y8,Y9,Ja,Jb,Jc,Jd,Je,Jf,Jg,Jh,or_true,and_true,true_and,and_self,Ji,cond_true,cond_false]
        refine draw_rule (wr := []) hC tys_ok (by kernel_rfl) (by kernel_rfl) ?_
        simp only [J3,J4,J5,J6,Jm,Jn,Jo,Jp,Jq,Jr,Js,Jt,Ju,Jv,Jw,Jx,Jy,Jz,JA,JB,JC,JD,JE,JF,Za,Zb,Zc,Zd,Ze,Zf,Zg,Zh,Zi,Zj,Zk,Zl,Zm,Zn,Zo,Zp,Zq,Zr,Zs,Zt,Zu,Zv,Zw,Zx,Zy,Zz,ZA,ZB,ZC,ZD,ZE,ZF,ZG,ZH,ZI,ZJ,ZK,ZL,ZM,ZN,ZO,ZP,ZQ,ZR,ZS,ZT,ZU,ZV,ZW,ZX,ZY,ZZ,Z0,Z1,Z2,Z3,Z4,Z5,Z6,Z7,Z8,Z9,Ya,Yb,Yc,Yd,Ye,Yf,Yg,Yh,Yi,Yj,Yk,Yl,Ym,Yn,Yo,Yp,Yq,Yr,Ys,Yt,Yu,Yv,Yw,Yx,Yy,Yz,YA,YB,YC,YD,YE,YF,YG,YH,YI,YJ,YK,YL,YM,YN,YO,YP,YQ,YR,YS,YT,YU,YV,YW,YX,if_true,if_false,reduceIte,reduceCtorEq,YY,YZ,Y0,Y1,Y2,Y3,Y4,Y5,Y6,Y7,Y8,Y9,Ja,Jb,Jc,Jd,Je,Jf,Jg,Jh,or_true,and_true,true_and,and_self,Ji,cond_true,cond_false]
        repeat (refine And.intro (by omega) ?_)
        refine cond_split (fun h3 => ?_) (fun h3 => ?_)
        · have hne : ¬ (l.getD i default).after = x := by simpa using h3
          rw [if_neg hne] at ht
          simp only [J3,J4,J5,J6,Za,Zb,Zc,Zd,Ze,Zf,Zg,Zh,Zi,Zj,Zk,Zl,Zm,Zn,Zo,Zp,Zq,Zr,Zs,Zt,Zu,Zv,Zw,Zx,Zy,Zz,ZA,ZB,ZC,ZD,ZE,ZF,ZG,ZH,ZI,ZJ,ZK,ZL,ZM,ZN,ZO,ZP,ZQ,ZR,ZS,ZT,ZU,ZV,ZW,ZX,ZY,ZZ,Z0,Z1,Z2,Z3,Z4,Z5,Z6,Z7,Z8,Z9,Ya,Yb,Yc,Yd,Ye,Yf,Yg,Yh,Yi,Yj,Yk,Yl,Ym,Yn,Yo,Yp,Yq,Yr,Ys,Yt,Yu,Yv,Yw,Yx,Yy,Yz,YA,YB,YC,YD,YE,YF,YG,YH,YI,YJ,YK,YL,YM,YN,YO,YP,YQ,YR,YS,YT,YU,YV,YW,YX,if_true,if_false,reduceIte,reduceCtorEq,YY,YZ,Y0,Y1,Y2,Y3,Y4,Y5,Y6,Y7,Y8,Y9,Ja,Jb,Jc,Jd,Je,Jf,Jg,Jh,or_true,and_true,true_and,and_self,Ji,cond_true,cond_false]
          repeat (refine And.intro (by omega) ?_)
          refine ⟨i + 1, hlt, by omega, ?_⟩
          simp only [kidF, ht, List.reduceReplicate, List.cons_append, List.nil_append]
          refine ent_of [] (by rw [hk]; simp) (by simp) (by simp [entT, mp, mps, bd, bds, sg]) (by simp [entH, sg, get, mpC, mps, mp, bdC, bds, bd, inH]) (by simp [entI, inH, sg])
        · have he : (l.getD i default).after = x := by simpa using h3
          rw [if_pos he] at ht
          simp only [J3,J4,J5,J6,Za,Zb,Zc,Zd,Ze,Zf,Zg,Zh,Zi,Zj,Zk,Zl,Zm,Zn,Zo,Zp,Zq,Zr,Zs,Zt,Zu,Zv,Zw,Zx,Zy,Zz,ZA,ZB,ZC,ZD,ZE,ZF,ZG,ZH,ZI,ZJ,ZK,ZL,ZM,ZN,ZO,ZP,ZQ,ZR,ZS,ZT,ZU,ZV,ZW,ZX,ZY,ZZ,Z0,Z1,Z2,Z3,Z4,Z5,Z6,Z7,Z8,Z9,Ya,Yb,Yc,Yd,Ye,Yf,Yg,Yh,Yi,Yj,Yk,Yl,Ym,Yn,Yo,Yp,Yq,Yr,Ys,Yt,Yu,Yv,Yw,Yx,Yy,Yz,YA,YB,YC,YD,YE,YF,YG,YH,YI,YJ,YK,YL,YM,YN,YO,YP,YQ,YR,YS,YT,YU,YV,YW,YX,if_true,if_false,reduceIte,reduceCtorEq,YY,YZ,Y0,Y1,Y2,Y3,Y4,Y5,Y6,Y7,Y8,Y9,Ja,Jb,Jc,Jd,Je,Jf,Jg,Jh,or_true,and_true,true_and,and_self,Ji,cond_true,cond_false]
          generalize hch : kidsL (l.take i) x = ch at *
          refine loop_rule (wr := []) (by rw [hC]; exact tys_ok) (kidG l x i) (fun k => k ≤ ch.length ∧ ∀ j, j < k → gtC (ch.getD j default) (l.getD i default) = true) (fun k => ch.length - k) 0 ⟨Nat.zero_le _, fun j hj => by omega⟩ ?_ ?_
          · simp only [kidG, hch, List.reduceReplicate, List.cons_append, List.nil_append]
            refine ent_of [] (by rw [hk]; simp) (by simp) (by simp [entT, mp, mps, bd, bds, sg]) (by simp [entH, sg, get, mpC, mps, mp, bdC, bds, bd, inH]) (by simp [entI, inH, sg])
          · rintro k ⟨hkl2, hinv⟩
            simp only [kidG, hch, List.reduceReplicate, List.cons_append, List.nil_append]
            simp only [Za,Zb,Zc,Zd,Ze,Zf,Zg,Zh,Zi,Zj,Zk,Zl,Zm,Zn,Zo,Zp,Zq,Zr,Zs,Zt,Zu,Zv,Zw,Zx,Zy,Zz,ZA,ZB,ZC,ZD,ZE,ZF,ZG,ZH,ZI,ZJ,ZK,ZL,ZM,ZN,ZO,ZP,ZQ,ZR,ZS,ZT,ZU,ZV,ZW,ZX,ZY,ZZ,Z0,Z1,Z2,Z3,Z4,Z5,Z6,Z7,Z8,Z9,Ya,Yb,Yc,Yd,Ye,Yf,Yg,Yh,Yi,Yj,Yk,Yl,Ym,Yn,Yo,Yp,Yq,Yr,Ys,Yt,Yu,Yv,Yw,Yx,Yy,Yz,YA,YB,YC,YD,YE,YF,YG,YH,YI,YJ,YK,YL,YM,YN,YO,YP,YQ,YR,YS,YT,YU,YV,YW,YX,if_true,if_false,reduceIte,reduceCtorEq,YY,YZ,Y0,Y1,Y2,Y3,Y4,Y5,Y6,Y7,Y8,Y9,Ja,Jb,Jc,Jd,Je,Jf,Jg,Jh,or_true,and_true,true_and,and_self,Ji,cond_true,cond_false]
            refine draw_rule (wr := []) hC tys_ok (by kernel_rfl) (by kernel_rfl) ?_
            simp only [J3,J4,J5,J6,Jm,Jn,Jo,Jp,Jq,Jr,Js,Jt,Ju,Jv,Jw,Jx,Jy,Jz,JA,JB,JC,JD,JE,JF,Za,Zb,Zc,Zd,Ze,Zf,Zg,Zh,Zi,Zj,Zk,Zl,Zm,Zn,Zo,Zp,Zq,Zr,Zs,Zt,Zu,Zv,Zw,Zx,Zy,Zz,ZA,ZB,ZC,ZD,ZE,ZF,ZG,ZH,ZI,ZJ,ZK,ZL,ZM,ZN,ZO,ZP,ZQ,ZR,ZS,ZT,ZU,ZV,ZW,ZX,ZY,ZZ,Z0,Z1,Z2,Z3,Z4,Z5,Z6,Z7,Z8,Z9,Ya,Yb,Yc,Yd,Ye,Yf,Yg,Yh,Yi,Yj,Yk,Yl,Ym,Yn,Yo,Yp,Yq,Yr,Ys,Yt,Yu,Yv,Yw,Yx,Yy,Yz,YA,YB,YC,YD,YE,YF,YG,YH,YI,YJ,YK,YL,YM,YN,YO,YP,YQ,YR,YS,YT,YU,YV,YW,YX,if_true,if_false,reduceIte,reduceCtorEq,YY,YZ,Y0,Y1,Y2,Y3,Y4,Y5,Y6,Y7,Y8,Y9,Ja,Jb,Jc,Jd,Je,Jf,Jg,Jh,or_true,and_true,true_and,and_self,Ji,cond_true,cond_false]
            repeat (refine And.intro (by omega) ?_)
            cases h4 : decide ((k : Int) < (ch.length : Int)) with
            | true =>
              have hklt : k < ch.length := by have := of_decide_eq_true h4; omega
              simp only [J3,J4,J5,J6,Jm,Jn,Jo,Jp,Jq,Jr,Js,Jt,Ju,Jv,Jw,Jx,Jy,Jz,JA,JB,JC,JD,JE,JF,Za,Zb,Zc,Zd,Ze,Zf,Zg,Zh,Zi,Zj,Zk,Zl,Zm,Zn,Zo,Zp,Zq,Zr,Zs,Zt,Zu,Zv,Zw,Zx,Zy,Zz,ZA,ZB,ZC,ZD,ZE,ZF,ZG,ZH,ZI,ZJ,ZK,ZL,ZM,ZN,ZO,ZP,ZQ,ZR,ZS,ZT,ZU,ZV,ZW,ZX,ZY,ZZ,Z0,Z1,Z2,Z3,Z4,Z5,Z6,Z7,Z8,Z9,Ya,Yb,Yc,Yd,Ye,Yf,Yg,Yh,Yi,Yj,Yk,Yl,Ym,Yn,Yo,Yp,Yq,Yr,Ys,Yt,Yu,Yv,Yw,Yx,Yy,Yz,YA,YB,YC,YD,YE,YF,YG,YH,YI,YJ,YK,YL,YM,YN,YO,YP,YQ,YR,YS,YT,YU,YV,YW,YX,if_true,if_false,reduceIte,reduceCtorEq,YY,YZ,Y0,Y1,Y2,Y3,Y4,Y5,Y6,Y7,Y8,Y9,Ja,Jb,Jc,Jd,Je,Jf,Jg,Jh,or_true,and_true,true_and,and_self,Ji,cond_true,cond_false]
              repeat (refine And.intro (by omega) ?_)
              refine qcall_is hC (greater_spec (ch.getD k default) (l.getD i default)) rfl (by exact ⟨rfl, plain_cell _, rfl, plain_cell _, trivial⟩) ?_
              cases h5 : gtC (ch.getD k default) (l.getD i default) with
              | true =>
                simp only [J3,J4,J5,J6,Jm,Jn,Jo,Jp,Jq,Jr,Js,Jt,Ju,Jv,Jw,Jx,Jy,Jz,JA,JB,JC,JD,JE,JF,Za,Zb,Zc,Zd,Ze,Zf,Zg,Zh,Zi,Zj,Zk,Zl,Zm,Zn,Zo,Zp,Zq,Zr,Zs,Zt,Zu,Zv,Zw,Zx,Zy,Zz,ZA,ZB,ZC,ZD,ZE,ZF,ZG,ZH,ZI,ZJ,ZK,ZL,ZM,ZN,ZO,ZP,ZQ,ZR,ZS,ZT,ZU,ZV,ZW,ZX,ZY,ZZ,Z0,Z1,Z2,Z3,Z4,Z5,Z6,Z7,Z8,Z9,Ya,Yb,Yc,Yd,Ye,Yf,Yg,Yh,Yi,Yj,Yk,Yl,Ym,Yn,Yo,Yp,Yq,Yr,Ys,Yt,Yu,Yv,Yw,Yx,Yy,Yz,YA,YB,YC,YD,YE,YF,YG,YH,YI,YJ,YK,YL,YM,YN,YO,YP,YQ,YR,YS,YT,YU,YV,YW,YX,if_true,if_false,reduceIte,reduceCtorEq,YY,YZ,Y0,Y1,Y2,Y3,Y4,Y5,Y6,Y7,Y8,Y9,Ja,Jb,Jc,Jd,Je,Jf,Jg,Jh,or_true,and_true,true_and,and_self,Ji,cond_true,cond_false]
                try simp only [J3,J4,J5,J6,Za,Zb,Zc,Zd,Ze,Zf,Zg,Zh,Zi,Zj,Zk,Zl,Zm,Zn,Zo,Zp,Zq,Zr,Zs,Zt,Zu,Zv,Zw,Zx,Zy,Zz,ZA,ZB,ZC,ZD,ZE,ZF,ZG,ZH,ZI,ZJ,ZK,ZL,ZM,ZN,ZO,ZP,ZQ,ZR,ZS,ZT,ZU,ZV,ZW,ZX,ZY,ZZ,Z0,Z1,Z2,Z3,Z4,Z5,Z6,Z7,Z8,Z9,Ya,Yb,Yc,Yd,Ye,Yf,Yg,Yh,Yi,Yj,Yk,Yl,Ym,Yn,Yo,Yp,Yq,Yr,Ys,Yt,Yu,Yv,Yw,Yx,Yy,Yz,YA,YB,YC,YD,YE,YF,YG,YH,YI,YJ,YK,YL,YM,YN,YO,YP,YQ,YR,YS,YT,YU,YV,YW,YX,if_true,if_false,reduceIte,reduceCtorEq,YY,YZ,Y0,Y1,Y2,Y3,Y4,Y5,Y6,Y7,Y8,Y9,Ja,Jb,Jc,Jd,Je,Jf,Jg,Jh,or_true,and_true,true_and,and_self,Ji,cond_true,cond_false]
                repeat (refine And.intro (by omega) ?_)
                refine ⟨k + 1, ⟨hklt, fun j hj => ?_⟩, by omega, ?_⟩
                · rcases Nat.lt_or_ge j k with c | c
                  · exact hinv j c
                  · obtain rfl : j = k := by omega
                    exact h5
                · simp only [kidG, hch, List.reduceReplicate, List.cons_append, List.nil_append]
                  refine ent_of [] (by rw [hk]; simp) (by simp) (by simp [entT, mp, mps, bd, bds, sg]) (by simp [entH, sg, get, mpC, mps, mp, bdC, bds, bd, inH]) (by simp [entI, inH, sg])
              | false =>
                simp only [J3,J4,J5,J6,Jm,Jn,Jo,Jp,Jq,Jr,Js,Jt,Ju,Jv,Jw,Jx,Jy,Jz,JA,JB,JC,JD,JE,JF,Za,Zb,Zc,Zd,Ze,Zf,Zg,Zh,Zi,Zj,Zk,Zl,Zm,Zn,Zo,Zp,Zq,Zr,Zs,Zt,Zu,Zv,Zw,Zx,Zy,Zz,ZA,ZB,ZC,ZD,ZE,ZF,ZG,ZH,ZI,ZJ,ZK,ZL,ZM,ZN,ZO,ZP,ZQ,ZR,ZS,ZT,ZU,ZV,ZW,ZX,ZY,ZZ,Z0,Z1,Z2,Z3,Z4,Z5,Z6,Z7,Z8,Z9,Ya,Yb,Yc,Yd,Ye,Yf,Yg,Yh,Yi,Yj,Yk,Yl,Ym,Yn,Yo,Yp,Yq,Yr,Ys,Yt,Yu,Yv,Yw,Yx,Yy,Yz,YA,YB,YC,YD,YE,YF,YG,YH,YI,YJ,YK,YL,YM,YN,YO,YP,YQ,YR,YS,YT,YU,YV,YW,YX,if_true,if_false,reduceIte,reduceCtorEq,YY,YZ,Y0,Y1,Y2,Y3,Y4,Y5,Y6,Y7,Y8,Y9,Ja,Jb,Jc,Jd,Je,Jf,Jg,Jh,or_true,and_true,true_and,and_self,Ji,cond_true,cond_false]
                have hpos : posC ch (l.getD i default) = k := posC_eq hkl2 hinv (fun _ => h5)
                try simp only [J3,J4,J5,J6,Za,Zb,Zc,Zd,Ze,Zf,Zg,Zh,Zi,Zj,Zk,Zl,Zm,Zn,Zo,Zp,Zq,Zr,Zs,Zt,Zu,Zv,Zw,Zx,Zy,Zz,ZA,ZB,ZC,ZD,ZE,ZF,ZG,ZH,ZI,ZJ,ZK,ZL,ZM,ZN,ZO,ZP,ZQ,ZR,ZS,ZT,ZU,ZV,ZW,ZX,ZY,ZZ,Z0,Z1,Z2,Z3,Z4,Z5,Z6,Z7,Z8,Z9,Ya,Yb,Yc,Yd,Ye,Yf,Yg,Yh,Yi,Yj,Yk,Yl,Ym,Yn,Yo,Yp,Yq,Yr,Ys,Yt,Yu,Yv,Yw,Yx,Yy,Yz,YA,YB,YC,YD,YE,YF,YG,YH,YI,YJ,YK,YL,YM,YN,YO,YP,YQ,YR,YS,YT,YU,YV,YW,YX,if_true,if_false,reduceIte,reduceCtorEq,YY,YZ,Y0,Y1,Y2,Y3,Y4,Y5,Y6,Y7,Y8,Y9,Ja,Jb,Jc,Jd,Je,Jf,Jg,Jh,or_true,and_true,true_and,and_self,Ji,cond_true,cond_false]
                refine .inl ?_
                repeat (refine And.intro (by omega) ?_)
                refine append_rule (c := .cell []) (d := .cell (ch.take k)) (by rw [hC]; exact tys_ok) rfl rfl rfl rfl rfl rfl trivial rfl ⟨_, _, rfl, by simp only [RowC.len]; omega, by simp only [RowC.len, List.length_take]; omega, rfl, fun j hj => by rw [Nat.zero_add]; exact RowC.take_get (c := .cell ch) hj⟩ (by simp only [RowC.len, List.length_take, List.length_nil]; omega) ?_
                simp only [J3,J4,J5,J6,Za,Zb,Zc,Zd,Ze,Zf,Zg,Zh,Zi,Zj,Zk,Zl,Zm,Zn,Zo,Zp,Zq,Zr,Zs,Zt,Zu,Zv,Zw,Zx,Zy,Zz,ZA,ZB,ZC,ZD,ZE,ZF,ZG,ZH,ZI,ZJ,ZK,ZL,ZM,ZN,ZO,ZP,ZQ,ZR,ZS,ZT,ZU,ZV,ZW,ZX,ZY,ZZ,Z0,Z1,Z2,Z3,Z4,Z5,Z6,Z7,Z8,Z9,Ya,Yb,Yc,Yd,Ye,Yf,Yg,Yh,Yi,Yj,Yk,Yl,Ym,Yn,Yo,Yp,Yq,Yr,Ys,Yt,Yu,Yv,Yw,Yx,Yy,Yz,YA,YB,YC,YD,YE,YF,YG,YH,YI,YJ,YK,YL,YM,YN,YO,YP,YQ,YR,YS,YT,YU,YV,YW,YX,if_true,if_false,reduceIte,reduceCtorEq,YY,YZ,Y0,Y1,Y2,Y3,Y4,Y5,Y6,Y7,Y8,Y9,Ja,Jb,Jc,Jd,Je,Jf,Jg,Jh,or_true,and_true,true_and,and_self,Ji,cond_true,cond_false]
                repeat (refine And.intro (by omega) ?_)
                refine append_rule (c := .cell (ch.take k)) (d := .cell [l.getD i default]) (by rw [hC]; exact tys_ok) rfl rfl rfl rfl rfl rfl trivial rfl ⟨_, rfl⟩ (by simp only [RowC.len, List.length_take, List.length_cons, List.length_nil]; omega) ?_
                simp only [J3,J4,J5,J6,Za,Zb,Zc,Zd,Ze,Zf,Zg,Zh,Zi,Zj,Zk,Zl,Zm,Zn,Zo,Zp,Zq,Zr,Zs,Zt,Zu,Zv,Zw,Zx,Zy,Zz,ZA,ZB,ZC,ZD,ZE,ZF,ZG,ZH,ZI,ZJ,ZK,ZL,ZM,ZN,ZO,ZP,ZQ,ZR,ZS,ZT,ZU,ZV,ZW,ZX,ZY,ZZ,Z0,Z1,Z2,Z3,Z4,Z5,Z6,Z7,Z8,Z9,Ya,Yb,Yc,Yd,Ye,Yf,Yg,Yh,Yi,Yj,Yk,Yl,Ym,Yn,Yo,Yp,Yq,Yr,Ys,Yt,Yu,Yv,Yw,Yx,Yy,Yz,YA,YB,YC,YD,YE,YF,YG,YH,YI,YJ,YK,YL,YM,YN,YO,YP,YQ,YR,YS,YT,YU,YV,YW,YX,if_true,if_false,reduceIte,reduceCtorEq,YY,YZ,Y0,Y1,Y2,Y3,Y4,Y5,Y6,Y7,Y8,Y9,Ja,Jb,Jc,Jd,Je,Jf,Jg,Jh,or_true,and_true,true_and,and_self,Ji,cond_true,cond_false]
                repeat (refine And.intro (by omega) ?_)
                refine append_rule (c := .cell (ch.take k ++ [l.getD i default])) (d := .cell (ch.drop k)) (by rw [hC]; exact tys_ok) rfl rfl rfl rfl rfl rfl trivial rfl ⟨_, _, rfl, by simp only [RowC.len]; omega, by simp only [RowC.len, List.length_drop], rfl, fun j hj => RowC.drop_get (.cell ch) k j⟩ (by simp only [RowC.len, List.length_append, List.length_take, List.length_drop, List.length_cons, List.length_nil]; omega) ?_
                simp only [J3,J4,J5,J6,Za,Zb,Zc,Zd,Ze,Zf,Zg,Zh,Zi,Zj,Zk,Zl,Zm,Zn,Zo,Zp,Zq,Zr,Zs,Zt,Zu,Zv,Zw,Zx,Zy,Zz,ZA,ZB,ZC,ZD,ZE,ZF,ZG,ZH,ZI,ZJ,ZK,ZL,ZM,ZN,ZO,ZP,ZQ,ZR,ZS,ZT,ZU,ZV,ZW,ZX,ZY,ZZ,Z0,Z1,Z2,Z3,Z4,Z5,Z6,Z7,Z8,Z9,Ya,Yb,Yc,Yd,Ye,Yf,Yg,Yh,Yi,Yj,Yk,Yl,Ym,Yn,Yo,Yp,Yq,Yr,Ys,Yt,Yu,Yv,Yw,Yx,Yy,Yz,YA,YB,YC,YD,YE,YF,YG,YH,YI,YJ,YK,YL,YM,YN,YO,YP,YQ,YR,YS,YT,YU,YV,YW,YX,if_true,if_false,reduceIte,reduceCtorEq,YY,YZ,Y0,Y1,Y2,Y3,Y4,Y5,Y6,Y7,Y8,Y9,Ja,Jb,Jc,Jd,Je,Jf,Jg,Jh,or_true,and_true,true_and,and_self,Ji,cond_true,cond_false]
                repeat (refine And.intro (by omega) ?_)
                have hins : (ch.take k ++ [l.getD i default]) ++ ch.drop k = insP ch (l.getD i default) := by simp only [insP, hpos, List.append_assoc, List.cons_append, List.nil_append]
                refine ⟨i + 1, hlt, by omega, ?_⟩
                simp only [kidF, ht, ← hins, List.reduceReplicate, List.cons_append, List.nil_append]
                refine ent_of [(2, 7)] (by rw [hk]; simp) (by rw [hk]; simp) ?_ ?_ ?_
                · simp [entT, mp, mps, bd, bds, sg]
                · simp [entH, sg, get, mpC, mps, mp, bdC, bds, bd, inH]
                · simp [entI, inH, sg]
            | false =>
              have hkge : k = ch.length := by have := of_decide_eq_false h4; omega
              simp only [J3,J4,J5,J6,Jm,Jn,Jo,Jp,Jq,Jr,Js,Jt,Ju,Jv,Jw,Jx,Jy,Jz,JA,JB,JC,JD,JE,JF,Za,Zb,Zc,Zd,Ze,Zf,Zg,Zh,Zi,Zj,Zk,Zl,Zm,Zn,Zo,Zp,Zq,Zr,Zs,Zt,Zu,Zv,Zw,Zx,Zy,Zz,ZA,ZB,ZC,ZD,ZE,ZF,ZG,ZH,ZI,ZJ,ZK,ZL,ZM,ZN,ZO,ZP,ZQ,ZR,ZS,ZT,ZU,ZV,ZW,ZX,ZY,ZZ,Z0,Z1,Z2,Z3,Z4,Z5,Z6,Z7,Z8,Z9,Ya,Yb,Yc,Yd,Ye,Yf,Yg,Yh,Yi,Yj,Yk,Yl,Ym,Yn,Yo,Yp,Yq,Yr,Ys,Yt,Yu,Yv,Yw,Yx,Yy,Yz,YA,YB,YC,YD,YE,YF,YG,YH,YI,YJ,YK,YL,YM,YN,YO,YP,YQ,YR,YS,YT,YU,YV,YW,YX,if_true,if_false,reduceIte,reduceCtorEq,YY,YZ,Y0,Y1,Y2,Y3,Y4,Y5,Y6,Y7,Y8,Y9,Ja,Jb,Jc,Jd,Je,Jf,Jg,Jh,or_true,and_true,true_and,and_self,Ji,cond_true,cond_false]
              have hpos : posC ch (l.getD i default) = k := posC_eq hkl2 hinv (fun h => by omega)
              try simp only [J3,J4,J5,J6,Za,Zb,Zc,Zd,Ze,Zf,Zg,Zh,Zi,Zj,Zk,Zl,Zm,Zn,Zo,Zp,Zq,Zr,Zs,Zt,Zu,Zv,Zw,Zx,Zy,Zz,ZA,ZB,ZC,ZD,ZE,ZF,ZG,ZH,ZI,ZJ,ZK,ZL,ZM,ZN,ZO,ZP,ZQ,ZR,ZS,ZT,ZU,ZV,ZW,ZX,ZY,ZZ,Z0,Z1,Z2,Z3,Z4,Z5,Z6,Z7,Z8,Z9,Ya,Yb,Yc,Yd,Ye,Yf,Yg,Yh,Yi,Yj,Yk,Yl,Ym,Yn,Yo,Yp,Yq,Yr,Ys,Yt,Yu,Yv,Yw,Yx,Yy,Yz,YA,YB,YC,YD,YE,YF,YG,YH,YI,YJ,YK,YL,YM,YN,YO,YP,YQ,YR,YS,YT,YU,YV,YW,YX,if_true,if_false,reduceIte,reduceCtorEq,YY,YZ,Y0,Y1,Y2,Y3,Y4,Y5,Y6,Y7,Y8,Y9,Ja,Jb,Jc,Jd,Je,Jf,Jg,Jh,or_true,and_true,true_and,and_self,Ji,cond_true,cond_false]
              refine .inl ?_
              repeat (refine And.intro (by omega) ?_)
              refine append_rule (c := .cell []) (d := .cell (ch.take k)) (by rw [hC]; exact tys_ok) rfl rfl rfl rfl rfl rfl trivial rfl ⟨_, _, rfl, by simp only [RowC.len]; omega, by simp only [RowC.len, List.length_take]; omega, rfl, fun j hj => by rw [Nat.zero_add]; exact RowC.take_get (c := .cell ch) hj⟩ (by simp only [RowC.len, List.length_take, List.length_nil]; omega) ?_
              simp only [J3,J4,J5,J6,Za,Zb,Zc,Zd,Ze,Zf,Zg,Zh,Zi,Zj,Zk,Zl,Zm,Zn,Zo,Zp,Zq,Zr,Zs,Zt,Zu,Zv,Zw,Zx,Zy,Zz,ZA,ZB,ZC,ZD,ZE,ZF,ZG,ZH,ZI,ZJ,ZK,ZL,ZM,ZN,ZO,ZP,ZQ,ZR,ZS,ZT,ZU,ZV,ZW,ZX,ZY,ZZ,Z0,Z1,Z2,Z3,Z4,Z5,Z6,Z7,Z8,Z9,Ya,Yb,Yc,Yd,Ye,Yf,Yg,Yh,Yi,Yj,Yk,Yl,Ym,Yn,Yo,Yp,Yq,Yr,Ys,Yt,Yu,Yv,Yw,Yx,Yy,Yz,YA,YB,YC,YD,YE,YF,YG,YH,YI,YJ,YK,YL,YM,YN,YO,YP,YQ,YR,YS,YT,YU,YV,YW,YX,if_true,if_false,reduceIte,reduceCtorEq,YY,YZ,Y0,Y1,Y2,Y3,Y4,Y5,Y6,Y7,Y8,Y9,Ja,Jb,Jc,Jd,Je,Jf,Jg,Jh,or_true,and_true,true_and,and_self,Ji,cond_true,cond_false]
              repeat (refine And.intro (by omega) ?_)
              refine append_rule (c := .cell (ch.take k)) (d := .cell [l.getD i default]) (by rw [hC]; exact tys_ok) rfl rfl rfl rfl rfl rfl trivial rfl ⟨_, rfl⟩ (by simp only [RowC.len, List.length_take, List.length_cons, List.length_nil]; omega) ?_
              simp only [J3,J4,J5,J6,Za,Zb,Zc,Zd,Ze,Zf,Zg,Zh,Zi,Zj,Zk,Zl,Zm,Zn,Zo,Zp,Zq,Zr,Zs,Zt,Zu,Zv,Zw,Zx,Zy,Zz,ZA,ZB,ZC,ZD,ZE,ZF,ZG,ZH,ZI,ZJ,ZK,ZL,ZM,ZN,ZO,ZP,ZQ,ZR,ZS,ZT,ZU,ZV,ZW,ZX,ZY,ZZ,Z0,Z1,Z2,Z3,Z4,Z5,Z6,Z7,Z8,Z9,Ya,Yb,Yc,Yd,Ye,Yf,Yg,Yh,Yi,Yj,Yk,Yl,Ym,Yn,Yo,Yp,Yq,Yr,Ys,Yt,Yu,Yv,Yw,Yx,Yy,Yz,YA,YB,YC,YD,YE,YF,YG,YH,YI,YJ,YK,YL,YM,YN,YO,YP,YQ,YR,YS,YT,YU,YV,YW,YX,if_true,if_false,reduceIte,reduceCtorEq,YY,YZ,Y0,Y1,Y2,Y3,Y4,Y5,Y6,Y7,Y8,Y9,Ja,Jb,Jc,Jd,Je,Jf,Jg,Jh,or_true,and_true,true_and,and_self,Ji,cond_true,cond_false]
              repeat (refine And.intro (by omega) ?_)
              refine append_rule (c := .cell (ch.take k ++ [l.getD i default])) (d := .cell (ch.drop k)) (by rw [hC]; exact tys_ok) rfl rfl rfl rfl rfl rfl trivial rfl ⟨_, _, rfl, by simp only [RowC.len]; omega, by simp only [RowC.len, List.length_drop], rfl, fun j hj => RowC.drop_get (.cell ch) k j⟩ (by simp only [RowC.len, List.length_append, List.length_take, List.length_drop, List.length_cons, List.length_nil]; omega) ?_
              simp only [J3,J4,J5,J6,Za,Zb,Zc,Zd,Ze,Zf,Zg,Zh,Zi,Zj,Zk,Zl,Zm,Zn,Zo,Zp,Zq,Zr,Zs,Zt,Zu,Zv,Zw,Zx,Zy,Zz,ZA,ZB,ZC,ZD,ZE,ZF,ZG,ZH,ZI,ZJ,ZK,ZL,ZM,ZN,ZO,ZP,ZQ,ZR,ZS,ZT,ZU,ZV,ZW,ZX,ZY,ZZ,Z0,Z1,Z2,Z3,Z4,Z5,Z6,Z7,Z8,Z9,Ya,Yb,Yc,Yd,Ye,Yf,Yg,Yh,Yi,Yj,Yk,Yl,Ym,Yn,Yo,Yp,Yq,Yr,Ys,Yt,Yu,Yv,Yw,Yx,Yy,Yz,YA,YB,YC,YD,YE,YF,YG,YH,YI,YJ,YK,YL,YM,YN,YO,YP,YQ,YR,YS,YT,YU,YV,YW,YX,if_true,if_false,reduceIte,reduceCtorEq,YY,YZ,Y0,Y1,Y2,Y3,Y4,Y5,Y6,Y7,Y8,Y9,Ja,Jb,Jc,Jd,Je,Jf,Jg,Jh,or_true,and_true,true_and,and_self,Ji,cond_true,cond_false]
              repeat (refine And.intro (by omega) ?_)
              have hins : (ch.take k ++ [l.getD i default]) ++ ch.drop k = insP ch (l.getD i default) := by simp only [insP, hpos, List.append_assoc, List.cons_append, List.nil_append]
              refine ⟨i + 1, hlt, by omega, ?_⟩
              simp only [kidF, ht, ← hins, List.reduceReplicate, List.cons_append, List.nil_append]
              refine ent_of [(2, 7)] (by rw [hk]; simp) (by rw [hk]; simp) ?_ ?_ ?_
              · simp [entT, mp, mps, bd, bds, sg]
              · simp [entH, sg, get, mpC, mps, mp, bdC, bds, bd, inH]
              · simp [entI, inH, sg]
      · have hge : i = l.length := by have := of_decide_eq_false h2; omega
        subst hge
        rw [List.take_length]
        have hkn := kidsL_len l x
        have hbel : belowN l (k + 1) x = (kidsL l x).flatMap (fun c => c :: belowN l k c.id) := rfl
        rw [hbel] at hlen ⊢
        generalize hks : kidsL l x = ks at *
        simp only [J3,J4,J5,J6,Za,Zb,Zc,Zd,Ze,Zf,Zg,Zh,Zi,Zj,Zk,Zl,Zm,Zn,Zo,Zp,Zq,Zr,Zs,Zt,Zu,Zv,Zw,Zx,Zy,Zz,ZA,ZB,ZC,ZD,ZE,ZF,ZG,ZH,ZI,ZJ,ZK,ZL,ZM,ZN,ZO,ZP,ZQ,ZR,ZS,ZT,ZU,ZV,ZW,ZX,ZY,ZZ,Z0,Z1,Z2,Z3,Z4,Z5,Z6,Z7,Z8,Z9,Ya,Yb,Yc,Yd,Ye,Yf,Yg,Yh,Yi,Yj,Yk,Yl,Ym,Yn,Yo,Yp,Yq,Yr,Ys,Yt,Yu,Yv,Yw,Yx,Yy,Yz,YA,YB,YC,YD,YE,YF,YG,YH,YI,YJ,YK,YL,YM,YN,YO,YP,YQ,YR,YS,YT,YU,YV,YW,YX,if_true,if_false,reduceIte,reduceCtorEq,YY,YZ,Y0,Y1,Y2,Y3,Y4,Y5,Y6,Y7,Y8,Y9,Ja,Jb,Jc,Jd,Je,Jf,Jg,Jh,or_true,and_true,true_and,and_self,Ji,cond_true,cond_false]
        refine loop_rule (wr := []) (by rw [hC]; exact tys_ok) (kidO l ks (fun c => c :: belowN l k c.id)) (fun i => i ≤ ks.length) (fun i => ks.length - i) 0 (Nat.zero_le _) ?_ ?_
        · simp only [kidO, List.take_zero, List.flatMap_nil, List.reduceReplicate, List.cons_append, List.nil_append]
          refine ent_of [] (by rw [hk]; simp) (by simp) (by simp [entT, mp, mps, bd, bds, sg]) (by simp [entH, sg, get, mpC, mps, mp, bdC, bds, bd, inH]) (by simp [entI, inH, sg])
        · intro i hil
          have hl1 := flatMap_len_take ks (fun c => c :: belowN l k c.id) i
          simp only [kidO, List.reduceReplicate, List.cons_append, List.nil_append]
          simp only [J3,J4,J5,J6,Za,Zb,Zc,Zd,Ze,Zf,Zg,Zh,Zi,Zj,Zk,Zl,Zm,Zn,Zo,Zp,Zq,Zr,Zs,Zt,Zu,Zv,Zw,Zx,Zy,Zz,ZA,ZB,ZC,ZD,ZE,ZF,ZG,ZH,ZI,ZJ,ZK,ZL,ZM,ZN,ZO,ZP,ZQ,ZR,ZS,ZT,ZU,ZV,ZW,ZX,ZY,ZZ,Z0,Z1,Z2,Z3,Z4,Z5,Z6,Z7,Z8,Z9,Ya,Yb,Yc,Yd,Ye,Yf,Yg,Yh,Yi,Yj,Yk,Yl,Ym,Yn,Yo,Yp,Yq,Yr,Ys,Yt,Yu,Yv,Yw,Yx,Yy,Yz,YA,YB,YC,YD,YE,YF,YG,YH,YI,YJ,YK,YL,YM,YN,YO,YP,YQ,YR,YS,YT,YU,YV,YW,YX,if_true,if_false,reduceIte,reduceCtorEq,YY,YZ,Y0,Y1,Y2,Y3,Y4,Y5,Y6,Y7,Y8,Y9,Ja,Jb,Jc,Jd,Je,Jf,Jg,Jh,or_true,and_true,true_and,and_self,Ji,cond_true,cond_false]
          refine cond_split (fun h2 => ?_) (fun h2 => ?_)
          · have hlt : i < ks.length := by simpa using h2
            have hmem : ks.getD i default ∈ ks := by simp [List.getD, hlt]
            have hl2 := flatMap_len_take ks (fun c => c :: belowN l k c.id) (i + 1)
            have hsucc : (ks.take (i + 1)).flatMap (fun c => c :: belowN l k c.id) = (ks.take i).flatMap (fun c => c :: belowN l k c.id) ++ [ks.getD i default] ++ belowN l k (ks.getD i default).id := by
              rw [take_succ_getD hlt, List.flatMap_append]; simp
            rw [hsucc] at hl2
            simp only [List.length_append, List.length_cons, List.length_nil] at hl2
            generalize hout : (ks.take i).flatMap (fun c => c :: belowN l k c.id) = out at *
            simp only [J3,J4,J5,J6,Za,Zb,Zc,Zd,Ze,Zf,Zg,Zh,Zi,Zj,Zk,Zl,Zm,Zn,Zo,Zp,Zq,Zr,Zs,Zt,Zu,Zv,Zw,Zx,Zy,Zz,ZA,ZB,ZC,ZD,ZE,ZF,ZG,ZH,ZI,ZJ,ZK,ZL,ZM,ZN,ZO,ZP,ZQ,ZR,ZS,ZT,ZU,ZV,ZW,ZX,ZY,ZZ,Z0,Z1,Z2,Z3,Z4,Z5,Z6,Z7,Z8,Z9,Ya,Yb,Yc,Yd,Ye,Yf,Yg,Yh,Yi,Yj,Yk,Yl,Ym,Yn,Yo,Yp,Yq,Yr,Ys,Yt,Yu,Yv,Yw,Yx,Yy,Yz,YA,YB,YC,YD,YE,YF,YG,YH,YI,YJ,YK,YL,YM,YN,YO,YP,YQ,YR,YS,YT,YU,YV,YW,YX,if_true,if_false,reduceIte,reduceCtorEq,YY,YZ,Y0,Y1,Y2,Y3,Y4,Y5,Y6,Y7,Y8,Y9,Ja,Jb,Jc,Jd,Je,Jf,Jg,Jh,or_true,and_true,true_and,and_self,Ji,cond_true,cond_false]
            repeat (refine And.intro (by omega) ?_)
            refine append_rule (c := .cell out) (d := .cell [ks.getD i default]) (by rw [hC]; exact tys_ok) rfl rfl rfl rfl rfl rfl trivial rfl ⟨_, rfl⟩ (by simp only [RowC.len, List.length_cons, List.length_nil]; omega) ?_
            simp only [J3,J4,J5,J6,Za,Zb,Zc,Zd,Ze,Zf,Zg,Zh,Zi,Zj,Zk,Zl,Zm,Zn,Zo,Zp,Zq,Zr,Zs,Zt,Zu,Zv,Zw,Zx,Zy,Zz,ZA,ZB,ZC,ZD,ZE,ZF,ZG,ZH,ZI,ZJ,ZK,ZL,ZM,ZN,ZO,ZP,ZQ,ZR,ZS,ZT,ZU,ZV,ZW,ZX,ZY,ZZ,Z0,Z1,Z2,Z3,Z4,Z5,Z6,Z7,Z8,Z9,Ya,Yb,Yc,Yd,Ye,Yf,Yg,Yh,Yi,Yj,Yk,Yl,Ym,Yn,Yo,Yp,Yq,Yr,Ys,Yt,Yu,Yv,Yw,Yx,Yy,Yz,YA,YB,YC,YD,YE,YF,YG,YH,YI,YJ,YK,YL,YM,YN,YO,YP,YQ,YR,YS,YT,YU,YV,YW,YX,if_true,if_false,reduceIte,reduceCtorEq,YY,YZ,Y0,Y1,Y2,Y3,Y4,Y5,Y6,Y7,Y8,Y9,Ja,Jb,Jc,Jd,Je,Jf,Jg,Jh,or_true,and_true,true_and,and_self,Ji,cond_true,cond_false]
            repeat (refine And.intro (by omega) ?_)
            refine call_is hC (ih (ks.getD i default) hmem (by omega)) rfl (by exact ⟨rfl, ⟨_, rfl⟩, rfl, plain_id _, trivial⟩) ?_
            simp only [JX,JY,JZ,J0,J1,YE,YW,YV,YR,YQ,YO,YP,Y6,YY,Y3,Y0,reduceIte,YM,YN,J2,if_false]
            simp only [J3,J4,J5,J6,Za,Zb,Zc,Zd,Ze,Zf,Zg,Zh,Zi,Zj,Zk,Zl,Zm,Zn,Zo,Zp,Zq,Zr,Zs,Zt,Zu,Zv,Zw,Zx,Zy,Zz,ZA,ZB,ZC,ZD,ZE,ZF,ZG,ZH,ZI,ZJ,ZK,ZL,ZM,ZN,ZO,ZP,ZQ,ZR,ZS,ZT,ZU,ZV,ZW,ZX,ZY,ZZ,Z0,Z1,Z2,Z3,Z4,Z5,Z6,Z7,Z8,Z9,Ya,Yb,Yc,Yd,Ye,Yf,Yg,Yh,Yi,Yj,Yk,Yl,Ym,Yn,Yo,Yp,Yq,Yr,Ys,Yt,Yu,Yv,Yw,Yx,Yy,Yz,YA,YB,YC,YD,YE,YF,YG,YH,YI,YJ,YK,YL,YM,YN,YO,YP,YQ,YR,YS,YT,YU,YV,YW,YX,if_true,if_false,reduceIte,reduceCtorEq,YY,YZ,Y0,Y1,Y2,Y3,Y4,Y5,Y6,Y7,Y8,Y9,Ja,Jb,Jc,Jd,Je,Jf,Jg,Jh,or_true,and_true,true_and,and_self,Ji,cond_true,cond_false]
            refine append_rule (c := .cell (out ++ [ks.getD i default])) (d := .cell (belowN l k (ks.getD i default).id)) (by rw [hC]; exact tys_ok) rfl rfl rfl rfl rfl rfl trivial rfl ⟨_, rfl⟩ (by simp only [RowC.len, List.length_append, List.length_cons, List.length_nil]; omega) ?_
            simp only [J3,J4,J5,J6,Za,Zb,Zc,Zd,Ze,Zf,Zg,Zh,Zi,Zj,Zk,Zl,Zm,Zn,Zo,Zp,Zq,Zr,Zs,Zt,Zu,Zv,Zw,Zx,Zy,Zz,ZA,ZB,ZC,ZD,ZE,ZF,ZG,ZH,ZI,ZJ,ZK,ZL,ZM,ZN,ZO,ZP,ZQ,ZR,ZS,ZT,ZU,ZV,ZW,ZX,ZY,ZZ,Z0,Z1,Z2,Z3,Z4,Z5,Z6,Z7,Z8,Z9,Ya,Yb,Yc,Yd,Ye,Yf,Yg,Yh,Yi,Yj,Yk,Yl,Ym,Yn,Yo,Yp,Yq,Yr,Ys,Yt,Yu,Yv,Yw,Yx,Yy,Yz,YA,YB,YC,YD,YE,YF,YG,YH,YI,YJ,YK,YL,YM,YN,YO,YP,YQ,YR,YS,YT,YU,YV,YW,YX,if_true,if_false,reduceIte,reduceCtorEq,YY,YZ,Y0,Y1,Y2,Y3,Y4,Y5,Y6,Y7,Y8,Y9,Ja,Jb,Jc,Jd,Je,Jf,Jg,Jh,or_true,and_true,true_and,and_self,Ji,cond_true,cond_false]
            repeat (refine And.intro (by omega) ?_)
            refine ⟨i + 1, hlt, by omega, ?_⟩
            simp only [kidO, hsucc, List.reduceReplicate, List.cons_append, List.nil_append]
            refine ent_of [(3, 7)] (by rw [hk]; simp) (by rw [hk]; simp) ?_ ?_ ?_
            · simp [entT, mp, mps, bd, bds, sg]
            · simp [entH, sg, get, mpC, mps, mp, bdC, bds, bd, inH]
            · simp [entI, inH, sg]
          · have hge : i = ks.length := by have := of_decide_eq_false h2; omega
            subst hge
            rw [List.take_length]
            simp only [J3,J4,J5,J6,Za,Zb,Zc,Zd,Ze,Zf,Zg,Zh,Zi,Zj,Zk,Zl,Zm,Zn,Zo,Zp,Zq,Zr,Zs,Zt,Zu,Zv,Zw,Zx,Zy,Zz,ZA,ZB,ZC,ZD,ZE,ZF,ZG,ZH,ZI,ZJ,ZK,ZL,ZM,ZN,ZO,ZP,ZQ,ZR,ZS,ZT,ZU,ZV,ZW,ZX,ZY,ZZ,Z0,Z1,Z2,Z3,Z4,Z5,Z6,Z7,Z8,Z9,Ya,Yb,Yc,Yd,Ye,Yf,Yg,Yh,Yi,Yj,Yk,Yl,Ym,Yn,Yo,Yp,Yq,Yr,Ys,Yt,Yu,Yv,Yw,Yx,Yy,Yz,YA,YB,YC,YD,YE,YF,YG,YH,YI,YJ,YK,YL,YM,YN,YO,YP,YQ,YR,YS,YT,YU,YV,YW,YX,if_true,if_false,reduceIte,reduceCtorEq,YY,YZ,Y0,Y1,Y2,Y3,Y4,Y5,Y6,Y7,Y8,Y9,Ja,Jb,Jc,Jd,Je,Jf,Jg,Jh,or_true,and_true,true_and,and_self,Ji,cond_true,cond_false]
            refine fin_of [some 3] rfl ⟨by simp, trivial⟩ (by simp [hk]) ?_
            simp only [subS, subB, subA, List.map_cons, List.map_nil, reduceIte, Nat.reduceLT, Nat.reduceSub, List.getElem?_cons_zero, List.getElem?_cons_succ]

end E
end Go.Proofs.Ytlkchnfgeedghaa
