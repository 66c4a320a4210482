/- cmp.Compare, slices.CompareFunc at ints and the stamp of a cell are walked here. -/
import Derived.Test.YtlkchnfgeedghaaS6
import Derived.Test.YtlkchnfgeedghaaEO
set_option linter.unusedSimpArgs false
namespace Go.Proofs.Ytlkchnfgeedghaa
namespace E
open Go
open Go.Proofs.Ytlkchnfgeedghaa.E renaming Ex_seq → Za, Ex_region → Zb, Ex_block → Zc, Ex_exit → Zd, Ex_ret → Ze, Ex_skip → Zf, Ex_label → Zg, Ex_scope → Zh, Ex_loop → Zi, Ex_draw → Zj, Ex_if → Zk, condD_t → Zl, condD_f → Zm, SeqK_normal → Zn, SeqK_ret → Zo, SeqK_exit → Zp, BlockK_normal → Zq, BlockK_exit → Zr, BlockK_ret → Zs, ScopeK_normal → Zt, ScopeK_exit → Zu, ScopeK_ret → Zv, LoopK_normal → Zw, LoopK_exit → Zx, LoopK_ret → Zy, NormK_run → Zz, sops_run → ZA, sops_nil → ZB, guardO → ZC, guardG → ZD, guardD_tt → ZE, guardD_ff → ZF, guardD_tf → ZG, guardD_ft → ZH, guardD_u → ZI, OpsK_run → ZJ, InlK_run → ZK, baseD → ZL, delC → ZM, RowC.ap → ZN, RowC.over → ZO, RowC.take → ZP, RowC.drop → ZQ, RowC.zeros → ZR, step → ZS, goRs → ZT, goCall → ZU, goNew → ZV, pur → ZW, bin → ZX, ibin → ZY, sbin → ZZ, num → Z0, lo → Z1, hi → Z2, St.ev → Z3, ofConst → Z4, nth → Z5, upd → Z6, PutD → Z7, tys → Z8, get → Z9, setC → Ya, ld → Yb, stO → Yc, segO → Yd, dropO → Ye, takeO → Yf, nthO → Yg, layO → Yh, flat → Yi, fillO → Yj, pushAll → Yk, RowC.push → Yl, RowC.nil → Ym, RowC.get → Yn, RowC.sz → Yo, RowC.len → Yp, setCells → Yq, RowC.setCell → Yr, lenK → Ys, boundsOf → Yt, caps → Yu, TK.agg → Yv, RetK_r → Yx, RetK_n → Yy, RetO → Yz, resOf → YA, noTup → YB, packR → YC, inH → YD, newH → YE, ren → JX, renB → JY, renA → JZ, toC → J0, rowsOf → J1, eqId → J3, eqCell → J4, id_eta → J5, cell_eta → J6
open Go renaming Value.oneCell' → Yw
open List renaming contains_cons → YF, contains_nil → YG, getElem?_toArray → YL, getElem?_cons_zero → YM, getElem?_cons_succ → YN, map_cons → YO, map_nil → YP, length_cons → YQ, length_nil → YR, all_cons → YS, all_nil → YT, append_nil → YU, cons_append → YV, nil_append → YW, size_toArray → YX
open Option renaming bind_some → YH, bind_none → YI, map_some → YJ, map_none → YK, isSome_some → Jh
open Nat renaming reduceAdd → YY, reduceMul → YZ, reduceSub → Y0, reduceEqDiff → Y1, reduceLeDiff → Y2, reduceLT → Y3, reduceBEq → Y4, reduceBNe → Y5, add_zero → Y6, zero_add → Y7, lt_irrefl → J2
open Bool renaming or_false → Y8, false_or → Y9, or_true → Ja, not_true → Jb, not_false → Jc, and_true → Jd, true_and → Je, and_self → Jf, false_eq_true → Jg
open Int renaming toNat_natCast → Ji, reduceEq → Jj, reduceNe → Jk, reduceNeg → Jl

set_option maxRecDepth 100000 in
theorem isNaN_spec (a : Int) : Spec Try.prog 48 (inH 0 []) 0 [.v (.int .i64 a)] (.v (.bool false)) [] := by
  refine spec_of_ex (wr := []) tys_ok Try.func48 rfl rfl fun C hC hk => ?_
  rw [Try.ntmps48, Try.results48]
  simp only [ini, List.length_cons, List.length_nil, Nat.reduceAdd, Nat.reduceSub, List.reduceReplicate, List.cons_append, List.nil_append]
  simp only [Za,Zb,Zc,Zd,Ze,Zf,Zg,Zh,Zi,Zj,Zk,Zl,Zm,Zn,Zo,Zp,Zq,Zr,Zs,Zt,Zu,Zv,Zw,Zx,Zy,Zz,ZA,ZB,ZC,ZD,ZE,ZF,ZG,ZH,ZI,ZJ,ZK,ZL,ZM,ZN,ZO,ZP,ZQ,ZR,ZS,ZT,ZU,ZV,ZW,ZX,ZY,ZZ,Z0,Z1,Z2,Z3,Z4,Z5,Z6,Z7,Z8,Z9,Ya,Yb,Yc,Yd,Ye,Yf,Yg,Yh,Yi,Yj,Yk,Yl,Ym,Yn,Yo,Yp,Yq,Yr,Ys,Yt,Yu,Yv,Yw,Yx,Yy,Yz,YA,YB,YC,YD,YE,YF,YG,YH,YI,YJ,YK,YL,YM,YN,YO,YP,YQ,YR,YS,YT,YU,YV,YW,YX,if_true,if_false,reduceIte,reduceCtorEq,YY,YZ,Y0,Y1,Y2,Y3,Y4,Y5,Y6,Y7,Y8,Y9,Ja,Jb,Jc,Jd,Je,Jf,Jg,Jh,or_true,and_true,true_and,and_self,Ji,cond_true,cond_false]
  refine fin_of [] ?_ ?_ ?_ ?_ <;> first | rfl | trivial | exact List.nodup_nil | skip

def cmpI (a b : Int) : Int := if a < b then -1 else if b < a then 1 else 0

set_option maxRecDepth 100000 in
theorem compare_spec (a b : Int) : Spec Try.prog 43 (inH 0 []) 0 [.v (.int .i64 a), .v (.int .i64 b)] (.v (.int .i64 (cmpI a b))) [] := by
  refine spec_of_ex (wr := []) tys_ok Try.func43 rfl rfl fun C hC hk => ?_
  rw [Try.ntmps43, Try.results43]
  simp only [ini, List.length_cons, List.length_nil, Nat.reduceAdd, Nat.reduceSub, List.reduceReplicate, List.cons_append, List.nil_append]
  simp only [Za,Zb,Zc,Zd,Ze,Zf,Zg,Zh,Zi,Zj,Zk,Zl,Zm,Zn,Zo,Zp,Zq,Zr,Zs,Zt,Zu,Zv,Zw,Zx,Zy,Zz,ZA,ZB,ZC,ZD,ZE,ZF,ZG,ZH,ZI,ZJ,ZK,ZL,ZM,ZN,ZO,ZP,ZQ,ZR,ZS,ZT,ZU,ZV,ZW,ZX,ZY,ZZ,Z0,Z1,Z2,Z3,Z4,Z5,Z6,Z7,Z8,Z9,Ya,Yb,Yc,Yd,Ye,Yf,Yg,Yh,Yi,Yj,Yk,Yl,Ym,Yn,Yo,Yp,Yq,Yr,Ys,Yt,Yu,Yv,Yw,Yx,Yy,Yz,YA,YB,YC,YD,YE,YF,YG,YH,YI,YJ,YK,YL,YM,YN,YO,YP,YQ,YR,YS,YT,YU,YV,YW,YX,if_true,if_false,reduceIte,reduceCtorEq,YY,YZ,Y0,Y1,Y2,Y3,Y4,Y5,Y6,Y7,Y8,Y9,Ja,Jb,Jc,Jd,Je,Jf,Jg,Jh,or_true,and_true,true_and,and_self,Ji,cond_true,cond_false]
  refine call_is hC (isNaN_spec a) rfl (by exact ⟨rfl, trivial⟩) ?_
  simp only [JX,JY,JZ,J0,J1,YE,YW,YV,YR,YQ,YO,YP,Y6,YY,Y3,Y0,reduceIte,YM,YN,J2,if_false]
  simp only [decide_true,decide_false,Jj,Jk,Jl,eq_self,Za,Zb,Zc,Zd,Ze,Zf,Zg,Zh,Zi,Zj,Zk,Zl,Zm,Zn,Zo,Zp,Zq,Zr,Zs,Zt,Zu,Zv,Zw,Zx,Zy,Zz,ZA,ZB,ZC,ZD,ZE,ZF,ZG,ZH,ZI,ZJ,ZK,ZL,ZM,ZN,ZO,ZP,ZQ,ZR,ZS,ZT,ZU,ZV,ZW,ZX,ZY,ZZ,Z0,Z1,Z2,Z3,Z4,Z5,Z6,Z7,Z8,Z9,Ya,Yb,Yc,Yd,Ye,Yf,Yg,Yh,Yi,Yj,Yk,Yl,Ym,Yn,Yo,Yp,Yq,Yr,Ys,Yt,Yu,Yv,Yw,Yx,Yy,Yz,YA,YB,YC,YD,YE,YF,YG,YH,YI,YJ,YK,YL,YM,YN,YO,YP,YQ,YR,YS,YT,YU,YV,YW,YX,if_true,if_false,reduceIte,reduceCtorEq,YY,YZ,Y0,Y1,Y2,Y3,Y4,Y5,Y6,Y7,Y8,Y9,Ja,Jb,Jc,Jd,Je,Jf,Jg,Jh,or_true,and_true,true_and,and_self,Ji,cond_true,cond_false]
  refine call_is hC (isNaN_spec b) rfl (by exact ⟨rfl, trivial⟩) ?_
  simp only [JX,JY,JZ,J0,J1,YE,YW,YV,YR,YQ,YO,YP,Y6,YY,Y3,Y0,reduceIte,YM,YN,J2,if_false]
  simp only [decide_true,decide_false,Jj,Jk,Jl,eq_self,Za,Zb,Zc,Zd,Ze,Zf,Zg,Zh,Zi,Zj,Zk,Zl,Zm,Zn,Zo,Zp,Zq,Zr,Zs,Zt,Zu,Zv,Zw,Zx,Zy,Zz,ZA,ZB,ZC,ZD,ZE,ZF,ZG,ZH,ZI,ZJ,ZK,ZL,ZM,ZN,ZO,ZP,ZQ,ZR,ZS,ZT,ZU,ZV,ZW,ZX,ZY,ZZ,Z0,Z1,Z2,Z3,Z4,Z5,Z6,Z7,Z8,Z9,Ya,Yb,Yc,Yd,Ye,Yf,Yg,Yh,Yi,Yj,Yk,Yl,Ym,Yn,Yo,Yp,Yq,Yr,Ys,Yt,Yu,Yv,Yw,Yx,Yy,Yz,YA,YB,YC,YD,YE,YF,YG,YH,YI,YJ,YK,YL,YM,YN,YO,YP,YQ,YR,YS,YT,YU,YV,YW,YX,if_true,if_false,reduceIte,reduceCtorEq,YY,YZ,Y0,Y1,Y2,Y3,Y4,Y5,Y6,Y7,Y8,Y9,Ja,Jb,Jc,Jd,Je,Jf,Jg,Jh,or_true,and_true,true_and,and_self,Ji,cond_true,cond_false]
  iterate 2
    all_goals try (refine cond_split (fun h => ?_) (fun h => ?_))
    all_goals try simp only [Za,Zb,Zc,Zd,Ze,Zf,Zg,Zh,Zi,Zj,Zk,Zl,Zm,Zn,Zo,Zp,Zq,Zr,Zs,Zt,Zu,Zv,Zw,Zx,Zy,Zz,ZA,ZB,ZC,ZD,ZE,ZF,ZG,ZH,ZI,ZJ,ZK,ZL,ZM,ZN,ZO,ZP,ZQ,ZR,ZS,ZT,ZU,ZV,ZW,ZX,ZY,ZZ,Z0,Z1,Z2,Z3,Z4,Z5,Z6,Z7,Z8,Z9,Ya,Yb,Yc,Yd,Ye,Yf,Yg,Yh,Yi,Yj,Yk,Yl,Ym,Yn,Yo,Yp,Yq,Yr,Ys,Yt,Yu,Yv,Yw,Yx,Yy,Yz,YA,YB,YC,YD,YE,YF,YG,YH,YI,YJ,YK,YL,YM,YN,YO,YP,YQ,YR,YS,YT,YU,YV,YW,YX,if_true,if_false,reduceIte,reduceCtorEq,YY,YZ,Y0,Y1,Y2,Y3,Y4,Y5,Y6,Y7,Y8,Y9,Ja,Jb,Jc,Jd,Je,Jf,Jg,Jh,or_true,and_true,true_and,and_self,Ji,cond_true,cond_false]
  all_goals (refine fin_of [] ?_ ?_ ?_ ?_ <;> first | rfl | trivial | exact List.nodup_nil | skip)
  all_goals (simp_all [subS, subB, subA, cmpI])
  all_goals (first | rw [if_neg (by omega), if_neg (by omega)] | omega)

/-- The first difference of two rows of numbers. -/
def cmpF : List Int → List Int → Int
  | a :: xs, b :: ys => if cmpI a b = 0 then cmpF xs ys else cmpI a b
  | _, _ => 0
def cmpSt (a b : List Int) (i : Nat) : St :=
  ⟨[.full 0, .full 1, .clo 43 [], .junk, .junk, .junk, .v (.int .i64 0), .junk, .junk, .junk, .junk, .full 0, .v (.int .i64 a.length), .v (.int .i64 i)] ++ List.replicate 25 .junk, inH 0 [(61, .ints .i64 a), (61, .ints .i64 b)], 2⟩

set_option maxRecDepth 100000 in
set_option maxHeartbeats 4000000 in
theorem cmpF_spec (a b : List Int) (hab : a.length = b.length) (hl : a.length ≤ 100000) : Spec Try.prog 42 (inH 0 [(61, .ints .i64 a), (61, .ints .i64 b)]) 2 [.full 0, .full 1, .clo 43 []] (.v (.int .i64 (cmpF a b))) [] := by
  refine spec_of_ex (wr := []) tys_ok Try.func42 rfl rfl fun C hC hk => ?_
  rw [Try.ntmps42, Try.results42]
  simp only [ini, List.length_cons, List.length_nil, Nat.reduceAdd, Nat.reduceSub, List.reduceReplicate, List.cons_append, List.nil_append]
  simp only [Za,Zb,Zc,Zd,Ze,Zf,Zg,Zh,Zi,Zj,Zk,Zl,Zm,Zn,Zo,Zp,Zq,Zr,Zs,Zt,Zu,Zv,Zw,Zx,Zy,Zz,ZA,ZB,ZC,ZD,ZE,ZF,ZG,ZH,ZI,ZJ,ZK,ZL,ZM,ZN,ZO,ZP,ZQ,ZR,ZS,ZT,ZU,ZV,ZW,ZX,ZY,ZZ,Z0,Z1,Z2,Z3,Z4,Z5,Z6,Z7,Z8,Z9,Ya,Yb,Yc,Yd,Ye,Yf,Yg,Yh,Yi,Yj,Yk,Yl,Ym,Yn,Yo,Yp,Yq,Yr,Ys,Yt,Yu,Yv,Yw,Yx,Yy,Yz,YA,YB,YC,YD,YE,YF,YG,YH,YI,YJ,YK,YL,YM,YN,YO,YP,YQ,YR,YS,YT,YU,YV,YW,YX,if_true,if_false,reduceIte,reduceCtorEq,YY,YZ,Y0,Y1,Y2,Y3,Y4,Y5,Y6,Y7,Y8,Y9,Ja,Jb,Jc,Jd,Je,Jf,Jg,Jh,or_true,and_true,true_and,and_self,Ji,cond_true,cond_false]
  refine loop_rule (wr := []) (by rw [hC]; exact tys_ok) (cmpSt a b) (fun i => i ≤ a.length ∧ cmpF (a.drop i) (b.drop i) = cmpF a b) (fun i => a.length - i) 0 ⟨Nat.zero_le _, rfl⟩ ?_ ?_
  · simp only [cmpSt, List.reduceReplicate, List.cons_append, List.nil_append]
    refine ent_of [] (by rw [hk]; simp) (by simp) (by simp [entT, mp, mps, bd, bds, sg]) (by simp [entH, sg, get, mpC, mps, mp, bdC, bds, bd, inH]) (by simp [entI, inH, sg])
  · rintro i ⟨hil, hinv⟩
    simp only [cmpSt, List.reduceReplicate, List.cons_append, List.nil_append]
    simp only [J3,J4,J5,J6,Za,Zb,Zc,Zd,Ze,Zf,Zg,Zh,Zi,Zj,Zk,Zl,Zm,Zn,Zo,Zp,Zq,Zr,Zs,Zt,Zu,Zv,Zw,Zx,Zy,Zz,ZA,ZB,ZC,ZD,ZE,ZF,ZG,ZH,ZI,ZJ,ZK,ZL,ZM,ZN,ZO,ZP,ZQ,ZR,ZS,ZT,ZU,ZV,ZW,ZX,ZY,ZZ,Z0,Z1,Z2,Z3,Z4,Z5,Z6,Z7,Z8,Z9,Ya,Yb,Yc,Yd,Ye,Yf,Yg,Yh,Yi,Yj,Yk,Yl,Ym,Yn,Yo,Yp,Yq,Yr,Ys,Yt,Yu,Yv,Yw,Yx,Yy,Yz,YA,YB,YC,YD,YE,YF,YG,YH,YI,YJ,YK,YL,YM,YN,YO,YP,YQ,YR,YS,YT,YU,YV,YW,YX,if_true,if_false,reduceIte,reduceCtorEq,YY,YZ,Y0,Y1,Y2,Y3,Y4,Y5,Y6,Y7,Y8,Y9,Ja,Jb,Jc,Jd,Je,Jf,Jg,Jh,or_true,and_true,true_and,and_self,Ji,cond_true,cond_false]
    refine cond_split (fun h2 => ?_) (fun h2 => ?_)
    · have hlt : i < a.length := by simpa using h2
      have hstep : cmpF (a.drop i) (b.drop i) = if cmpI (a.getD i 0) (b.getD i 0) = 0 then cmpF (a.drop (i + 1)) (b.drop (i + 1)) else cmpI (a.getD i 0) (b.getD i 0) := by
        rw [List.drop_eq_getElem_cons hlt, List.drop_eq_getElem_cons (by omega : i < b.length), cmpF]
        simp [List.getD, hlt, (by omega : i < b.length)]
      rw [hinv] at hstep
      simp only [J3,J4,J5,J6,Za,Zb,Zc,Zd,Ze,Zf,Zg,Zh,Zi,Zj,Zk,Zl,Zm,Zn,Zo,Zp,Zq,Zr,Zs,Zt,Zu,Zv,Zw,Zx,Zy,Zz,ZA,ZB,ZC,ZD,ZE,ZF,ZG,ZH,ZI,ZJ,ZK,ZL,ZM,ZN,ZO,ZP,ZQ,ZR,ZS,ZT,ZU,ZV,ZW,ZX,ZY,ZZ,Z0,Z1,Z2,Z3,Z4,Z5,Z6,Z7,Z8,Z9,Ya,Yb,Yc,Yd,Ye,Yf,Yg,Yh,Yi,Yj,Yk,Yl,Ym,Yn,Yo,Yp,Yq,Yr,Ys,Yt,Yu,Yv,Yw,Yx,Yy,Yz,YA,YB,YC,YD,YE,YF,YG,YH,YI,YJ,YK,YL,YM,YN,YO,YP,YQ,YR,YS,YT,YU,YV,YW,YX,if_true,if_false,reduceIte,reduceCtorEq,YY,YZ,Y0,Y1,Y2,Y3,Y4,Y5,Y6,Y7,Y8,Y9,Ja,Jb,Jc,Jd,Je,Jf,Jg,Jh,or_true,and_true,true_and,and_self,Ji,cond_true,cond_false]
      repeat (refine And.intro (by omega) ?_)
      refine cond_split (fun h3 => absurd (of_decide_eq_true h3) (by omega)) (fun h3 => ?_)
      simp only [J3,J4,J5,J6,Za,Zb,Zc,Zd,Ze,Zf,Zg,Zh,Zi,Zj,Zk,Zl,Zm,Zn,Zo,Zp,Zq,Zr,Zs,Zt,Zu,Zv,Zw,Zx,Zy,Zz,ZA,ZB,ZC,ZD,ZE,ZF,ZG,ZH,ZI,ZJ,ZK,ZL,ZM,ZN,ZO,ZP,ZQ,ZR,ZS,ZT,ZU,ZV,ZW,ZX,ZY,ZZ,Z0,Z1,Z2,Z3,Z4,Z5,Z6,Z7,Z8,Z9,Ya,Yb,Yc,Yd,Ye,Yf,Yg,Yh,Yi,Yj,Yk,Yl,Ym,Yn,Yo,Yp,Yq,Yr,Ys,Yt,Yu,Yv,Yw,Yx,Yy,Yz,YA,YB,YC,YD,YE,YF,YG,YH,YI,YJ,YK,YL,YM,YN,YO,YP,YQ,YR,YS,YT,YU,YV,YW,YX,if_true,if_false,reduceIte,reduceCtorEq,YY,YZ,Y0,Y1,Y2,Y3,Y4,Y5,Y6,Y7,Y8,Y9,Ja,Jb,Jc,Jd,Je,Jf,Jg,Jh,or_true,and_true,true_and,and_self,Ji,cond_true,cond_false]
      repeat (refine And.intro (by omega) ?_)
      refine call_is hC (compare_spec (a.getD i 0) (b.getD i 0)) rfl (by exact ⟨rfl, rfl, trivial⟩) ?_
      simp only [JX,JY,JZ,J0,J1,YE,YW,YV,YR,YQ,YO,YP,Y6,YY,Y3,Y0,reduceIte,YM,YN,J2,if_false]
      simp only [J3,J4,J5,J6,Za,Zb,Zc,Zd,Ze,Zf,Zg,Zh,Zi,Zj,Zk,Zl,Zm,Zn,Zo,Zp,Zq,Zr,Zs,Zt,Zu,Zv,Zw,Zx,Zy,Zz,ZA,ZB,ZC,ZD,ZE,ZF,ZG,ZH,ZI,ZJ,ZK,ZL,ZM,ZN,ZO,ZP,ZQ,ZR,ZS,ZT,ZU,ZV,ZW,ZX,ZY,ZZ,Z0,Z1,Z2,Z3,Z4,Z5,Z6,Z7,Z8,Z9,Ya,Yb,Yc,Yd,Ye,Yf,Yg,Yh,Yi,Yj,Yk,Yl,Ym,Yn,Yo,Yp,Yq,Yr,Ys,Yt,Yu,Yv,Yw,Yx,Yy,Yz,YA,YB,YC,YD,YE,YF,YG,YH,YI,YJ,YK,YL,YM,YN,YO,YP,YQ,YR,YS,YT,YU,YV,YW,YX,if_true,if_false,reduceIte,reduceCtorEq,YY,YZ,Y0,Y1,Y2,Y3,Y4,Y5,Y6,Y7,Y8,Y9,Ja,Jb,Jc,Jd,Je,Jf,Jg,Jh,or_true,and_true,true_and,and_self,Ji,cond_true,cond_false]
      refine cond_split (fun h4 => ?_) (fun h4 => ?_)
      · have hne : ¬ cmpI (a.getD i 0) (b.getD i 0) = 0 := by simpa using h4
        rw [if_neg hne] at hstep
        simp only [J3,J4,J5,J6,Za,Zb,Zc,Zd,Ze,Zf,Zg,Zh,Zi,Zj,Zk,Zl,Zm,Zn,Zo,Zp,Zq,Zr,Zs,Zt,Zu,Zv,Zw,Zx,Zy,Zz,ZA,ZB,ZC,ZD,ZE,ZF,ZG,ZH,ZI,ZJ,ZK,ZL,ZM,ZN,ZO,ZP,ZQ,ZR,ZS,ZT,ZU,ZV,ZW,ZX,ZY,ZZ,Z0,Z1,Z2,Z3,Z4,Z5,Z6,Z7,Z8,Z9,Ya,Yb,Yc,Yd,Ye,Yf,Yg,Yh,Yi,Yj,Yk,Yl,Ym,Yn,Yo,Yp,Yq,Yr,Ys,Yt,Yu,Yv,Yw,Yx,Yy,Yz,YA,YB,YC,YD,YE,YF,YG,YH,YI,YJ,YK,YL,YM,YN,YO,YP,YQ,YR,YS,YT,YU,YV,YW,YX,if_true,if_false,reduceIte,reduceCtorEq,YY,YZ,Y0,Y1,Y2,Y3,Y4,Y5,Y6,Y7,Y8,Y9,Ja,Jb,Jc,Jd,Je,Jf,Jg,Jh,or_true,and_true,true_and,and_self,Ji,cond_true,cond_false]
        refine fin_of [] ?_ ?_ ?_ ?_ <;> first | rfl | trivial | exact List.nodup_nil | skip
        simp only [subS, subB, subA, List.map_cons, List.map_nil, reduceIte, Nat.reduceLT, Nat.reduceSub, List.getElem?_cons_zero, List.getElem?_cons_succ]
        rw [hstep]
      · have he : cmpI (a.getD i 0) (b.getD i 0) = 0 := by simpa using h4
        rw [if_pos he] at hstep
        simp only [J3,J4,J5,J6,Za,Zb,Zc,Zd,Ze,Zf,Zg,Zh,Zi,Zj,Zk,Zl,Zm,Zn,Zo,Zp,Zq,Zr,Zs,Zt,Zu,Zv,Zw,Zx,Zy,Zz,ZA,ZB,ZC,ZD,ZE,ZF,ZG,ZH,ZI,ZJ,ZK,ZL,ZM,ZN,ZO,ZP,ZQ,ZR,ZS,ZT,ZU,ZV,ZW,ZX,ZY,ZZ,Z0,Z1,Z2,Z3,Z4,Z5,Z6,Z7,Z8,Z9,Ya,Yb,Yc,Yd,Ye,Yf,Yg,Yh,Yi,Yj,Yk,Yl,Ym,Yn,Yo,Yp,Yq,Yr,Ys,Yt,Yu,Yv,Yw,Yx,Yy,Yz,YA,YB,YC,YD,YE,YF,YG,YH,YI,YJ,YK,YL,YM,YN,YO,YP,YQ,YR,YS,YT,YU,YV,YW,YX,if_true,if_false,reduceIte,reduceCtorEq,YY,YZ,Y0,Y1,Y2,Y3,Y4,Y5,Y6,Y7,Y8,Y9,Ja,Jb,Jc,Jd,Je,Jf,Jg,Jh,or_true,and_true,true_and,and_self,Ji,cond_true,cond_false]
        repeat (refine And.intro (by omega) ?_)
        refine ⟨i + 1, ⟨hlt, hstep.symm⟩, by omega, ?_⟩
        simp only [cmpSt, List.reduceReplicate, List.cons_append, List.nil_append]
        refine ent_of [] (by rw [hk]; simp) (by simp) (by simp [entT, mp, mps, bd, bds, sg]) (by simp [entH, sg, get, mpC, mps, mp, bdC, bds, bd, inH]) (by simp [entI, inH, sg])
    · have hge : i = a.length := by have := of_decide_eq_false h2; omega
      subst hge
      rw [List.drop_length, cmpF] at hinv
      simp only [J3,J4,J5,J6,Za,Zb,Zc,Zd,Ze,Zf,Zg,Zh,Zi,Zj,Zk,Zl,Zm,Zn,Zo,Zp,Zq,Zr,Zs,Zt,Zu,Zv,Zw,Zx,Zy,Zz,ZA,ZB,ZC,ZD,ZE,ZF,ZG,ZH,ZI,ZJ,ZK,ZL,ZM,ZN,ZO,ZP,ZQ,ZR,ZS,ZT,ZU,ZV,ZW,ZX,ZY,ZZ,Z0,Z1,Z2,Z3,Z4,Z5,Z6,Z7,Z8,Z9,Ya,Yb,Yc,Yd,Ye,Yf,Yg,Yh,Yi,Yj,Yk,Yl,Ym,Yn,Yo,Yp,Yq,Yr,Ys,Yt,Yu,Yv,Yw,Yx,Yy,Yz,YA,YB,YC,YD,YE,YF,YG,YH,YI,YJ,YK,YL,YM,YN,YO,YP,YQ,YR,YS,YT,YU,YV,YW,YX,if_true,if_false,reduceIte,reduceCtorEq,YY,YZ,Y0,Y1,Y2,Y3,Y4,Y5,Y6,Y7,Y8,Y9,Ja,Jb,Jc,Jd,Je,Jf,Jg,Jh,or_true,and_true,true_and,and_self,Ji,cond_true,cond_false]
      refine cond_split (fun h3 => absurd (of_decide_eq_true h3) (by omega)) (fun h3 => ?_)
      simp only [J3,J4,J5,J6,Za,Zb,Zc,Zd,Ze,Zf,Zg,Zh,Zi,Zj,Zk,Zl,Zm,Zn,Zo,Zp,Zq,Zr,Zs,Zt,Zu,Zv,Zw,Zx,Zy,Zz,ZA,ZB,ZC,ZD,ZE,ZF,ZG,ZH,ZI,ZJ,ZK,ZL,ZM,ZN,ZO,ZP,ZQ,ZR,ZS,ZT,ZU,ZV,ZW,ZX,ZY,ZZ,Z0,Z1,Z2,Z3,Z4,Z5,Z6,Z7,Z8,Z9,Ya,Yb,Yc,Yd,Ye,Yf,Yg,Yh,Yi,Yj,Yk,Yl,Ym,Yn,Yo,Yp,Yq,Yr,Ys,Yt,Yu,Yv,Yw,Yx,Yy,Yz,YA,YB,YC,YD,YE,YF,YG,YH,YI,YJ,YK,YL,YM,YN,YO,YP,YQ,YR,YS,YT,YU,YV,YW,YX,if_true,if_false,reduceIte,reduceCtorEq,YY,YZ,Y0,Y1,Y2,Y3,Y4,Y5,Y6,Y7,Y8,Y9,Ja,Jb,Jc,Jd,Je,Jf,Jg,Jh,or_true,and_true,true_and,and_self,Ji,cond_true,cond_false]
      refine fin_of [] ?_ ?_ ?_ ?_ <;> first | rfl | trivial | exact List.nodup_nil | skip
      simp only [subS, subB, subA, List.map_cons, List.map_nil, reduceIte, Nat.reduceLT, Nat.reduceSub, List.getElem?_cons_zero, List.getElem?_cons_succ]
      rw [← hinv]
      all_goals simp

def stampL (c : Cell) : List Int := [c.time, c.id.dev, c.id.seq, c.id.pos]
set_option maxRecDepth 100000 in
theorem stamp_spec (c : Cell) : Spec Try.prog 32 (inH 0 []) 0 [.agg (cellS c)] (.agg [.v (.int .i64 c.time), .v (.int .i64 c.id.dev), .v (.int .i64 c.id.seq), .v (.int .i64 c.id.pos)]) [] := by
  refine spec_of_ex (wr := []) tys_ok Try.func32 rfl rfl fun C hC hk => ?_
  rw [Try.ntmps32, Try.results32]
  simp only [ini, List.length_cons, List.length_nil, Nat.reduceAdd, Nat.reduceSub, List.reduceReplicate, List.cons_append, List.nil_append]
  simp only [J3,J4,J5,J6,Za,Zb,Zc,Zd,Ze,Zf,Zg,Zh,Zi,Zj,Zk,Zl,Zm,Zn,Zo,Zp,Zq,Zr,Zs,Zt,Zu,Zv,Zw,Zx,Zy,Zz,ZA,ZB,ZC,ZD,ZE,ZF,ZG,ZH,ZI,ZJ,ZK,ZL,ZM,ZN,ZO,ZP,ZQ,ZR,ZS,ZT,ZU,ZV,ZW,ZX,ZY,ZZ,Z0,Z1,Z2,Z3,Z4,Z5,Z6,Z7,Z8,Z9,Ya,Yb,Yc,Yd,Ye,Yf,Yg,Yh,Yi,Yj,Yk,Yl,Ym,Yn,Yo,Yp,Yq,Yr,Ys,Yt,Yu,Yv,Yw,Yx,Yy,Yz,YA,YB,YC,YD,YE,YF,YG,YH,YI,YJ,YK,YL,YM,YN,YO,YP,YQ,YR,YS,YT,YU,YV,YW,YX,if_true,if_false,reduceIte,reduceCtorEq,YY,YZ,Y0,Y1,Y2,Y3,Y4,Y5,Y6,Y7,Y8,Y9,Ja,Jb,Jc,Jd,Je,Jf,Jg,Jh,or_true,and_true,true_and,and_self,Ji,cond_true,cond_false]
  refine build4_rule (by rw [hC]; exact tys_ok) rfl rfl rfl (by rw [hC]; kernel_rfl) rfl rfl rfl rfl ?_
  simp only [J3,J4,J5,J6,Za,Zb,Zc,Zd,Ze,Zf,Zg,Zh,Zi,Zj,Zk,Zl,Zm,Zn,Zo,Zp,Zq,Zr,Zs,Zt,Zu,Zv,Zw,Zx,Zy,Zz,ZA,ZB,ZC,ZD,ZE,ZF,ZG,ZH,ZI,ZJ,ZK,ZL,ZM,ZN,ZO,ZP,ZQ,ZR,ZS,ZT,ZU,ZV,ZW,ZX,ZY,ZZ,Z0,Z1,Z2,Z3,Z4,Z5,Z6,Z7,Z8,Z9,Ya,Yb,Yc,Yd,Ye,Yf,Yg,Yh,Yi,Yj,Yk,Yl,Ym,Yn,Yo,Yp,Yq,Yr,Ys,Yt,Yu,Yv,Yw,Yx,Yy,Yz,YA,YB,YC,YD,YE,YF,YG,YH,YI,YJ,YK,YL,YM,YN,YO,YP,YQ,YR,YS,YT,YU,YV,YW,YX,if_true,if_false,reduceIte,reduceCtorEq,YY,YZ,Y0,Y1,Y2,Y3,Y4,Y5,Y6,Y7,Y8,Y9,Ja,Jb,Jc,Jd,Je,Jf,Jg,Jh,or_true,and_true,true_and,and_self,Ji,cond_true,cond_false]
  refine fin_of [] ?_ ?_ ?_ ?_ <;> first | rfl | trivial | exact List.nodup_nil | skip

end E
end Go.Proofs.Ytlkchnfgeedghaa
