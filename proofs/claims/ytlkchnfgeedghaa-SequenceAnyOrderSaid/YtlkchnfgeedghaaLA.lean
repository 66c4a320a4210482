/- The laws SequenceOrderSpec, SequenceFindSpec, SequenceAnyOrder and SequenceErases are walked here. -/
import Derived.Test.YtlkchnfgeedghaaSE
import Derived.Test.YtlkchnfgeedghaaPH
set_option linter.unusedSimpArgs false
set_option linter.unusedVariables false
namespace Go.Proofs.Ytlkchnfgeedghaa
namespace E
open Go
open Go.Proofs.Ytlkchnfgeedghaa.E renaming Ex_seq → Za, Ex_region → Zb, Ex_block → Zc, Ex_exit → Zd, Ex_ret → Ze, Ex_skip → Zf, Ex_label → Zg, Ex_scope → Zh, Ex_loop → Zi, Ex_draw → Zj, Ex_if → Zk, condD_t → Zl, condD_f → Zm, SeqK_normal → Zn, SeqK_ret → Zo, SeqK_exit → Zp, BlockK_normal → Zq, BlockK_exit → Zr, BlockK_ret → Zs, ScopeK_normal → Zt, ScopeK_exit → Zu, ScopeK_ret → Zv, LoopK_normal → Zw, LoopK_exit → Zx, LoopK_ret → Zy, NormK_run → Zz, sops_run → ZA, sops_nil → ZB, guardO → ZC, guardG → ZD, guardD_tt → ZE, guardD_ff → ZF, guardD_tf → ZG, guardD_ft → ZH, guardD_u → ZI, OpsK_run → ZJ, InlK_run → ZK, baseD → ZL, delC → ZM, RowC.ap → ZN, RowC.over → ZO, RowC.take → ZP, RowC.drop → ZQ, RowC.zeros → ZR, step → ZS, goRs → ZT, goCall → ZU, goNew → ZV, pur → ZW, bin → ZX, ibin → ZY, sbin → ZZ, num → Z0, lo → Z1, hi → Z2, St.ev → Z3, ofConst → Z4, nth → Z5, upd → Z6, PutD → Z7, tys → Z8, get → Z9, setC → Ya, ld → Yb, stO → Yc, segO → Yd, dropO → Ye, takeO → Yf, nthO → Yg, layO → Yh, flat → Yi, fillO → Yj, pushAll → Yk, RowC.push → Yl, RowC.nil → Ym, RowC.get → Yn, RowC.sz → Yo, RowC.len → Yp, setCells → Yq, RowC.setCell → Yr, lenK → Ys, boundsOf → Yt, caps → Yu, TK.agg → Yv, RetK_r → Yx, RetK_n → Yy, RetO → Yz, resOf → YA, noTup → YB, packR → YC, inH → YD, newH → YE, ren → JW, renB → JX, renA → JY, toC → JZ, rowsOf → J0, eqId → J2, eqCell → J3, id_eta → J4, cell_eta → J5
open Go renaming Value.oneCell' → Yw
open List renaming contains_cons → YF, contains_nil → YG, getElem?_toArray → YL, getElem?_cons_zero → YM, getElem?_cons_succ → YN, map_cons → YO, map_nil → YP, length_cons → YQ, length_nil → YR, all_cons → YS, all_nil → YT, append_nil → YU, cons_append → YV, nil_append → YW, size_toArray → YX
open Option renaming bind_some → YH, bind_none → YI, map_some → YJ, map_none → YK, isSome_some → Jh
open Nat renaming reduceAdd → YY, reduceMul → YZ, reduceSub → Y0, reduceEqDiff → Y1, reduceLeDiff → Y2, reduceLT → Y3, reduceBEq → Y4, reduceBNe → Y5, add_zero → Y6, zero_add → Y7, lt_irrefl → J1
open Bool renaming or_false → Y8, false_or → Y9, or_true → Ja, not_true → Jb, not_false → Jc, and_true → Jd, true_and → Je, and_self → Jf, false_eq_true → Jg
open Int renaming toNat_natCast → Ji, reduceEq → Jj, reduceNe → Jk, reduceNeg → Jl

set_option maxRecDepth 100000 in
set_option maxHeartbeats 4000000 in
theorem lawOrder_spec (l : List Cell) : Spec Try.prog 3 (inH 0 [(33, .cell l)]) 1 [.full 0] (.v (.bool true)) [] := by
  refine spec_of_ex (wr := []) tys_ok Try.func3 rfl rfl fun C hC hk => ?_
  rw [Try.ntmps3, Try.results3]
  simp only [ini, List.length_cons, List.length_nil, Nat.reduceAdd, Nat.reduceSub, List.reduceReplicate, List.cons_append, List.nil_append]
  simp only [J2,J3,J4,J5,decide_true,decide_false,Jj,Jk,Jl,eq_self,Za,Zb,Zc,Zd,Ze,Zf,Zg,Zh,Zi,Zj,Zk,Zl,Zm,Zn,Zo,Zp,Zq,Zr,Zs,Zt,Zu,Zv,Zw,Zx,Zy,Zz,ZA,ZB,ZC,ZD,ZE,ZF,ZG,ZH,ZI,ZJ,ZK,ZL,ZM,ZN,ZO,ZP,ZQ,ZR,ZS,ZT,ZU,ZV,ZW,ZX,ZY,ZZ,Z0,Z1,Z2,Z3,Z4,Z5,Z6,Z7,Z8,Z9,Ya,Yb,Yc,Yd,Ye,Yf,Yg,Yh,Yi,Yj,Yk,Yl,Ym,Yn,Yo,Yp,Yq,Yr,Ys,Yt,Yu,Yv,Yw,Yx,Yy,Yz,YA,YB,YC,YD,YE,YF,YG,YH,YI,YJ,YK,YL,YM,YN,YO,YP,YQ,YR,YS,YT,YU,YV,YW,YX,if_true,if_false,reduceIte,reduceCtorEq,YY,YZ,Y0,Y1,Y2,Y3,Y4,Y5,Y6,Y7,Y8,Y9,Ja,Jb,Jc,Jd,Je,Jf,Jg,Jh,or_true,and_true,true_and,and_self,Ji,cond_true,cond_false]
  refine call_is hC sane_spec rfl trivial ?_
  simp only [JW,JX,JY,JZ,J0,YE,YW,YV,YR,YQ,YO,YP,Y6,YY,Y3,Y0,reduceIte,YM,YN,J1,if_false]
  try simp only [J2,J3,J4,J5,decide_true,decide_false,Jj,Jk,Jl,eq_self,Za,Zb,Zc,Zd,Ze,Zf,Zg,Zh,Zi,Zj,Zk,Zl,Zm,Zn,Zo,Zp,Zq,Zr,Zs,Zt,Zu,Zv,Zw,Zx,Zy,Zz,ZA,ZB,ZC,ZD,ZE,ZF,ZG,ZH,ZI,ZJ,ZK,ZL,ZM,ZN,ZO,ZP,ZQ,ZR,ZS,ZT,ZU,ZV,ZW,ZX,ZY,ZZ,Z0,Z1,Z2,Z3,Z4,Z5,Z6,Z7,Z8,Z9,Ya,Yb,Yc,Yd,Ye,Yf,Yg,Yh,Yi,Yj,Yk,Yl,Ym,Yn,Yo,Yp,Yq,Yr,Ys,Yt,Yu,Yv,Yw,Yx,Yy,Yz,YA,YB,YC,YD,YE,YF,YG,YH,YI,YJ,YK,YL,YM,YN,YO,YP,YQ,YR,YS,YT,YU,YV,YW,YX,if_true,if_false,reduceIte,reduceCtorEq,YY,YZ,Y0,Y1,Y2,Y3,Y4,Y5,Y6,Y7,Y8,Y9,Ja,Jb,Jc,Jd,Je,Jf,Jg,Jh,or_true,and_true,true_and,and_self,Ji,cond_true,cond_false]
  refine call_is hC (few_spec l) rfl (by exact ⟨rfl, ⟨_, rfl⟩, trivial⟩) ?_
  simp only [JW,JX,JY,JZ,J0,YE,YW,YV,YR,YQ,YO,YP,Y6,YY,Y3,Y0,reduceIte,YM,YN,J1,if_false]
  cases hfew : decide ((l.length : Int) ≤ 40) with
  | false =>
    simp only [J2,J3,J4,J5,decide_true,decide_false,Jj,Jk,Jl,eq_self,Za,Zb,Zc,Zd,Ze,Zf,Zg,Zh,Zi,Zj,Zk,Zl,Zm,Zn,Zo,Zp,Zq,Zr,Zs,Zt,Zu,Zv,Zw,Zx,Zy,Zz,ZA,ZB,ZC,ZD,ZE,ZF,ZG,ZH,ZI,ZJ,ZK,ZL,ZM,ZN,ZO,ZP,ZQ,ZR,ZS,ZT,ZU,ZV,ZW,ZX,ZY,ZZ,Z0,Z1,Z2,Z3,Z4,Z5,Z6,Z7,Z8,Z9,Ya,Yb,Yc,Yd,Ye,Yf,Yg,Yh,Yi,Yj,Yk,Yl,Ym,Yn,Yo,Yp,Yq,Yr,Ys,Yt,Yu,Yv,Yw,Yx,Yy,Yz,YA,YB,YC,YD,YE,YF,YG,YH,YI,YJ,YK,YL,YM,YN,YO,YP,YQ,YR,YS,YT,YU,YV,YW,YX,if_true,if_false,reduceIte,reduceCtorEq,YY,YZ,Y0,Y1,Y2,Y3,Y4,Y5,Y6,Y7,Y8,Y9,Ja,Jb,Jc,Jd,Je,Jf,Jg,Jh,or_true,and_true,true_and,and_self,Ji,cond_true,cond_false]
    refine fin_of [] ?_ ?_ ?_ ?_ <;> first | rfl | trivial | exact List.nodup_nil | skip
  | true =>
    have hl : l.length ≤ 40 := by have := of_decide_eq_true hfew; omega
    simp only [J2,J3,J4,J5,decide_true,decide_false,Jj,Jk,Jl,eq_self,Za,Zb,Zc,Zd,Ze,Zf,Zg,Zh,Zi,Zj,Zk,Zl,Zm,Zn,Zo,Zp,Zq,Zr,Zs,Zt,Zu,Zv,Zw,Zx,Zy,Zz,ZA,ZB,ZC,ZD,ZE,ZF,ZG,ZH,ZI,ZJ,ZK,ZL,ZM,ZN,ZO,ZP,ZQ,ZR,ZS,ZT,ZU,ZV,ZW,ZX,ZY,ZZ,Z0,Z1,Z2,Z3,Z4,Z5,Z6,Z7,Z8,Z9,Ya,Yb,Yc,Yd,Ye,Yf,Yg,Yh,Yi,Yj,Yk,Yl,Ym,Yn,Yo,Yp,Yq,Yr,Ys,Yt,Yu,Yv,Yw,Yx,Yy,Yz,YA,YB,YC,YD,YE,YF,YG,YH,YI,YJ,YK,YL,YM,YN,YO,YP,YQ,YR,YS,YT,YU,YV,YW,YX,if_true,if_false,reduceIte,reduceCtorEq,YY,YZ,Y0,Y1,Y2,Y3,Y4,Y5,Y6,Y7,Y8,Y9,Ja,Jb,Jc,Jd,Je,Jf,Jg,Jh,or_true,and_true,true_and,and_self,Ji,cond_true,cond_false]
    have hol := order_len (l := l)
    refine call_is hC (order_spec l (by omega)) rfl (by exact ⟨rfl, ⟨_, rfl⟩, trivial⟩) ?_
    simp only [JW,JX,JY,JZ,J0,YE,YW,YV,YR,YQ,YO,YP,Y6,YY,Y3,Y0,reduceIte,YM,YN,J1,if_false]
    try simp only [J2,J3,J4,J5,decide_true,decide_false,Jj,Jk,Jl,eq_self,Za,Zb,Zc,Zd,Ze,Zf,Zg,Zh,Zi,Zj,Zk,Zl,Zm,Zn,Zo,Zp,Zq,Zr,Zs,Zt,Zu,Zv,Zw,Zx,Zy,Zz,ZA,ZB,ZC,ZD,ZE,ZF,ZG,ZH,ZI,ZJ,ZK,ZL,ZM,ZN,ZO,ZP,ZQ,ZR,ZS,ZT,ZU,ZV,ZW,ZX,ZY,ZZ,Z0,Z1,Z2,Z3,Z4,Z5,Z6,Z7,Z8,Z9,Ya,Yb,Yc,Yd,Ye,Yf,Yg,Yh,Yi,Yj,Yk,Yl,Ym,Yn,Yo,Yp,Yq,Yr,Ys,Yt,Yu,Yv,Yw,Yx,Yy,Yz,YA,YB,YC,YD,YE,YF,YG,YH,YI,YJ,YK,YL,YM,YN,YO,YP,YQ,YR,YS,YT,YU,YV,YW,YX,if_true,if_false,reduceIte,reduceCtorEq,YY,YZ,Y0,Y1,Y2,Y3,Y4,Y5,Y6,Y7,Y8,Y9,Ja,Jb,Jc,Jd,Je,Jf,Jg,Jh,or_true,and_true,true_and,and_self,Ji,cond_true,cond_false]
    refine call_is hC (rorder_spec l (by omega)) rfl (by exact ⟨rfl, ⟨_, rfl⟩, trivial⟩) ?_
    simp only [JW,JX,JY,JZ,J0,YE,YW,YV,YR,YQ,YO,YP,Y6,YY,Y3,Y0,reduceIte,YM,YN,J1,if_false]
    try simp only [J2,J3,J4,J5,decide_true,decide_false,Jj,Jk,Jl,eq_self,Za,Zb,Zc,Zd,Ze,Zf,Zg,Zh,Zi,Zj,Zk,Zl,Zm,Zn,Zo,Zp,Zq,Zr,Zs,Zt,Zu,Zv,Zw,Zx,Zy,Zz,ZA,ZB,ZC,ZD,ZE,ZF,ZG,ZH,ZI,ZJ,ZK,ZL,ZM,ZN,ZO,ZP,ZQ,ZR,ZS,ZT,ZU,ZV,ZW,ZX,ZY,ZZ,Z0,Z1,Z2,Z3,Z4,Z5,Z6,Z7,Z8,Z9,Ya,Yb,Yc,Yd,Ye,Yf,Yg,Yh,Yi,Yj,Yk,Yl,Ym,Yn,Yo,Yp,Yq,Yr,Ys,Yt,Yu,Yv,Yw,Yx,Yy,Yz,YA,YB,YC,YD,YE,YF,YG,YH,YI,YJ,YK,YL,YM,YN,YO,YP,YQ,YR,YS,YT,YU,YV,YW,YX,if_true,if_false,reduceIte,reduceCtorEq,YY,YZ,Y0,Y1,Y2,Y3,Y4,Y5,Y6,Y7,Y8,Y9,Ja,Jb,Jc,Jd,Je,Jf,Jg,Jh,or_true,and_true,true_and,and_self,Ji,cond_true,cond_false]
    generalize hq : orderL l = q at *
    obtain ⟨a, e⟩ := q
    simp only at hol ⊢
    refine call_is hC (same_spec a a (by omega) (by omega)) rfl (by exact ⟨rfl, ⟨_, rfl⟩, rfl, ⟨_, rfl⟩, trivial⟩) ?_
    simp only [JW,JX,JY,JZ,J0,YE,YW,YV,YR,YQ,YO,YP,Y6,YY,Y3,Y0,reduceIte,YM,YN,J1,if_false]
    try simp only [J2,J3,J4,J5,decide_true,decide_false,Jj,Jk,Jl,eq_self,Za,Zb,Zc,Zd,Ze,Zf,Zg,Zh,Zi,Zj,Zk,Zl,Zm,Zn,Zo,Zp,Zq,Zr,Zs,Zt,Zu,Zv,Zw,Zx,Zy,Zz,ZA,ZB,ZC,ZD,ZE,ZF,ZG,ZH,ZI,ZJ,ZK,ZL,ZM,ZN,ZO,ZP,ZQ,ZR,ZS,ZT,ZU,ZV,ZW,ZX,ZY,ZZ,Z0,Z1,Z2,Z3,Z4,Z5,Z6,Z7,Z8,Z9,Ya,Yb,Yc,Yd,Ye,Yf,Yg,Yh,Yi,Yj,Yk,Yl,Ym,Yn,Yo,Yp,Yq,Yr,Ys,Yt,Yu,Yv,Yw,Yx,Yy,Yz,YA,YB,YC,YD,YE,YF,YG,YH,YI,YJ,YK,YL,YM,YN,YO,YP,YQ,YR,YS,YT,YU,YV,YW,YX,if_true,if_false,reduceIte,reduceCtorEq,YY,YZ,Y0,Y1,Y2,Y3,Y4,Y5,Y6,Y7,Y8,Y9,Ja,Jb,Jc,Jd,Je,Jf,Jg,Jh,or_true,and_true,true_and,and_self,Ji,cond_true,cond_false]
    refine call_is hC (check_spec l (by omega)) rfl (by exact ⟨rfl, ⟨_, rfl⟩, trivial⟩) ?_
    simp only [JW,JX,JY,JZ,J0,YE,YW,YV,YR,YQ,YO,YP,Y6,YY,Y3,Y0,reduceIte,YM,YN,J1,if_false]
    try simp only [J2,J3,J4,J5,decide_true,decide_false,Jj,Jk,Jl,eq_self,Za,Zb,Zc,Zd,Ze,Zf,Zg,Zh,Zi,Zj,Zk,Zl,Zm,Zn,Zo,Zp,Zq,Zr,Zs,Zt,Zu,Zv,Zw,Zx,Zy,Zz,ZA,ZB,ZC,ZD,ZE,ZF,ZG,ZH,ZI,ZJ,ZK,ZL,ZM,ZN,ZO,ZP,ZQ,ZR,ZS,ZT,ZU,ZV,ZW,ZX,ZY,ZZ,Z0,Z1,Z2,Z3,Z4,Z5,Z6,Z7,Z8,Z9,Ya,Yb,Yc,Yd,Ye,Yf,Yg,Yh,Yi,Yj,Yk,Yl,Ym,Yn,Yo,Yp,Yq,Yr,Ys,Yt,Yu,Yv,Yw,Yx,Yy,Yz,YA,YB,YC,YD,YE,YF,YG,YH,YI,YJ,YK,YL,YM,YN,YO,YP,YQ,YR,YS,YT,YU,YV,YW,YX,if_true,if_false,reduceIte,reduceCtorEq,YY,YZ,Y0,Y1,Y2,Y3,Y4,Y5,Y6,Y7,Y8,Y9,Ja,Jb,Jc,Jd,Je,Jf,Jg,Jh,or_true,and_true,true_and,and_self,Ji,cond_true,cond_false]
    refine call_is hC (rcheck_spec l (by omega)) rfl (by exact ⟨rfl, ⟨_, rfl⟩, trivial⟩) ?_
    simp only [JW,JX,JY,JZ,J0,YE,YW,YV,YR,YQ,YO,YP,Y6,YY,Y3,Y0,reduceIte,YM,YN,J1,if_false]
    try simp only [J2,J3,J4,J5,decide_true,decide_false,Jj,Jk,Jl,eq_self,Za,Zb,Zc,Zd,Ze,Zf,Zg,Zh,Zi,Zj,Zk,Zl,Zm,Zn,Zo,Zp,Zq,Zr,Zs,Zt,Zu,Zv,Zw,Zx,Zy,Zz,ZA,ZB,ZC,ZD,ZE,ZF,ZG,ZH,ZI,ZJ,ZK,ZL,ZM,ZN,ZO,ZP,ZQ,ZR,ZS,ZT,ZU,ZV,ZW,ZX,ZY,ZZ,Z0,Z1,Z2,Z3,Z4,Z5,Z6,Z7,Z8,Z9,Ya,Yb,Yc,Yd,Ye,Yf,Yg,Yh,Yi,Yj,Yk,Yl,Ym,Yn,Yo,Yp,Yq,Yr,Ys,Yt,Yu,Yv,Yw,Yx,Yy,Yz,YA,YB,YC,YD,YE,YF,YG,YH,YI,YJ,YK,YL,YM,YN,YO,YP,YQ,YR,YS,YT,YU,YV,YW,YX,if_true,if_false,reduceIte,reduceCtorEq,YY,YZ,Y0,Y1,Y2,Y3,Y4,Y5,Y6,Y7,Y8,Y9,Ja,Jb,Jc,Jd,Je,Jf,Jg,Jh,or_true,and_true,true_and,and_self,Ji,cond_true,cond_false]
    refine call_is hC (check_spec a (by omega)) rfl (by exact ⟨rfl, ⟨_, rfl⟩, trivial⟩) ?_
    simp only [JW,JX,JY,JZ,J0,YE,YW,YV,YR,YQ,YO,YP,Y6,YY,Y3,Y0,reduceIte,YM,YN,J1,if_false]
    try simp only [J2,J3,J4,J5,decide_true,decide_false,Jj,Jk,Jl,eq_self,Za,Zb,Zc,Zd,Ze,Zf,Zg,Zh,Zi,Zj,Zk,Zl,Zm,Zn,Zo,Zp,Zq,Zr,Zs,Zt,Zu,Zv,Zw,Zx,Zy,Zz,ZA,ZB,ZC,ZD,ZE,ZF,ZG,ZH,ZI,ZJ,ZK,ZL,ZM,ZN,ZO,ZP,ZQ,ZR,ZS,ZT,ZU,ZV,ZW,ZX,ZY,ZZ,Z0,Z1,Z2,Z3,Z4,Z5,Z6,Z7,Z8,Z9,Ya,Yb,Yc,Yd,Ye,Yf,Yg,Yh,Yi,Yj,Yk,Yl,Ym,Yn,Yo,Yp,Yq,Yr,Ys,Yt,Yu,Yv,Yw,Yx,Yy,Yz,YA,YB,YC,YD,YE,YF,YG,YH,YI,YJ,YK,YL,YM,YN,YO,YP,YQ,YR,YS,YT,YU,YV,YW,YX,if_true,if_false,reduceIte,reduceCtorEq,YY,YZ,Y0,Y1,Y2,Y3,Y4,Y5,Y6,Y7,Y8,Y9,Ja,Jb,Jc,Jd,Je,Jf,Jg,Jh,or_true,and_true,true_and,and_self,Ji,cond_true,cond_false]
    refine call_is hC (rcheck_spec a (by omega)) rfl (by exact ⟨rfl, ⟨_, rfl⟩, trivial⟩) ?_
    simp only [JW,JX,JY,JZ,J0,YE,YW,YV,YR,YQ,YO,YP,Y6,YY,Y3,Y0,reduceIte,YM,YN,J1,if_false]
    try simp only [J2,J3,J4,J5,decide_true,decide_false,Jj,Jk,Jl,eq_self,Za,Zb,Zc,Zd,Ze,Zf,Zg,Zh,Zi,Zj,Zk,Zl,Zm,Zn,Zo,Zp,Zq,Zr,Zs,Zt,Zu,Zv,Zw,Zx,Zy,Zz,ZA,ZB,ZC,ZD,ZE,ZF,ZG,ZH,ZI,ZJ,ZK,ZL,ZM,ZN,ZO,ZP,ZQ,ZR,ZS,ZT,ZU,ZV,ZW,ZX,ZY,ZZ,Z0,Z1,Z2,Z3,Z4,Z5,Z6,Z7,Z8,Z9,Ya,Yb,Yc,Yd,Ye,Yf,Yg,Yh,Yi,Yj,Yk,Yl,Ym,Yn,Yo,Yp,Yq,Yr,Ys,Yt,Yu,Yv,Yw,Yx,Yy,Yz,YA,YB,YC,YD,YE,YF,YG,YH,YI,YJ,YK,YL,YM,YN,YO,YP,YQ,YR,YS,YT,YU,YV,YW,YX,if_true,if_false,reduceIte,reduceCtorEq,YY,YZ,Y0,Y1,Y2,Y3,Y4,Y5,Y6,Y7,Y8,Y9,Ja,Jb,Jc,Jd,Je,Jf,Jg,Jh,or_true,and_true,true_and,and_self,Ji,cond_true,cond_false]
    refine fin_of [] ?_ ?_ ?_ ?_ <;> first | rfl | trivial | exact List.nodup_nil | skip

set_option maxRecDepth 100000 in
set_option maxHeartbeats 4000000 in
theorem lawFind_spec (l : List Cell) (x : Id3) : Spec Try.prog 5 (inH 0 [(33, .cell l)]) 1 [.full 0, .agg (idS x)] (.v (.bool true)) [] := by
  refine spec_of_ex (wr := []) tys_ok Try.func5 rfl rfl fun C hC hk => ?_
  rw [Try.ntmps5, Try.results5]
  simp only [ini, List.length_cons, List.length_nil, Nat.reduceAdd, Nat.reduceSub, List.reduceReplicate, List.cons_append, List.nil_append]
  simp only [J2,J3,J4,J5,decide_true,decide_false,Jj,Jk,Jl,eq_self,Za,Zb,Zc,Zd,Ze,Zf,Zg,Zh,Zi,Zj,Zk,Zl,Zm,Zn,Zo,Zp,Zq,Zr,Zs,Zt,Zu,Zv,Zw,Zx,Zy,Zz,ZA,ZB,ZC,ZD,ZE,ZF,ZG,ZH,ZI,ZJ,ZK,ZL,ZM,ZN,ZO,ZP,ZQ,ZR,ZS,ZT,ZU,ZV,ZW,ZX,ZY,ZZ,Z0,Z1,Z2,Z3,Z4,Z5,Z6,Z7,Z8,Z9,Ya,Yb,Yc,Yd,Ye,Yf,Yg,Yh,Yi,Yj,Yk,Yl,Ym,Yn,Yo,Yp,Yq,Yr,Ys,Yt,Yu,Yv,Yw,Yx,Yy,Yz,YA,YB,YC,YD,YE,YF,YG,YH,YI,YJ,YK,YL,YM,YN,YO,YP,YQ,YR,YS,YT,YU,YV,YW,YX,if_true,if_false,reduceIte,reduceCtorEq,YY,YZ,Y0,Y1,Y2,Y3,Y4,Y5,Y6,Y7,Y8,Y9,Ja,Jb,Jc,Jd,Je,Jf,Jg,Jh,or_true,and_true,true_and,and_self,Ji,cond_true,cond_false]
  refine call_is hC sane_spec rfl trivial ?_
  simp only [JW,JX,JY,JZ,J0,YE,YW,YV,YR,YQ,YO,YP,Y6,YY,Y3,Y0,reduceIte,YM,YN,J1,if_false]
  try simp only [J2,J3,J4,J5,decide_true,decide_false,Jj,Jk,Jl,eq_self,Za,Zb,Zc,Zd,Ze,Zf,Zg,Zh,Zi,Zj,Zk,Zl,Zm,Zn,Zo,Zp,Zq,Zr,Zs,Zt,Zu,Zv,Zw,Zx,Zy,Zz,ZA,ZB,ZC,ZD,ZE,ZF,ZG,ZH,ZI,ZJ,ZK,ZL,ZM,ZN,ZO,ZP,ZQ,ZR,ZS,ZT,ZU,ZV,ZW,ZX,ZY,ZZ,Z0,Z1,Z2,Z3,Z4,Z5,Z6,Z7,Z8,Z9,Ya,Yb,Yc,Yd,Ye,Yf,Yg,Yh,Yi,Yj,Yk,Yl,Ym,Yn,Yo,Yp,Yq,Yr,Ys,Yt,Yu,Yv,Yw,Yx,Yy,Yz,YA,YB,YC,YD,YE,YF,YG,YH,YI,YJ,YK,YL,YM,YN,YO,YP,YQ,YR,YS,YT,YU,YV,YW,YX,if_true,if_false,reduceIte,reduceCtorEq,YY,YZ,Y0,Y1,Y2,Y3,Y4,Y5,Y6,Y7,Y8,Y9,Ja,Jb,Jc,Jd,Je,Jf,Jg,Jh,or_true,and_true,true_and,and_self,Ji,cond_true,cond_false]
  cases hfew : decide ((200 : Int) < (l.length : Int)) with
  | true =>
    simp only [J2,J3,J4,J5,decide_true,decide_false,Jj,Jk,Jl,eq_self,Za,Zb,Zc,Zd,Ze,Zf,Zg,Zh,Zi,Zj,Zk,Zl,Zm,Zn,Zo,Zp,Zq,Zr,Zs,Zt,Zu,Zv,Zw,Zx,Zy,Zz,ZA,ZB,ZC,ZD,ZE,ZF,ZG,ZH,ZI,ZJ,ZK,ZL,ZM,ZN,ZO,ZP,ZQ,ZR,ZS,ZT,ZU,ZV,ZW,ZX,ZY,ZZ,Z0,Z1,Z2,Z3,Z4,Z5,Z6,Z7,Z8,Z9,Ya,Yb,Yc,Yd,Ye,Yf,Yg,Yh,Yi,Yj,Yk,Yl,Ym,Yn,Yo,Yp,Yq,Yr,Ys,Yt,Yu,Yv,Yw,Yx,Yy,Yz,YA,YB,YC,YD,YE,YF,YG,YH,YI,YJ,YK,YL,YM,YN,YO,YP,YQ,YR,YS,YT,YU,YV,YW,YX,if_true,if_false,reduceIte,reduceCtorEq,YY,YZ,Y0,Y1,Y2,Y3,Y4,Y5,Y6,Y7,Y8,Y9,Ja,Jb,Jc,Jd,Je,Jf,Jg,Jh,or_true,and_true,true_and,and_self,Ji,cond_true,cond_false]
    refine fin_of [] ?_ ?_ ?_ ?_ <;> first | rfl | trivial | exact List.nodup_nil | skip
  | false =>
    have hl : l.length ≤ 200 := by have := of_decide_eq_false hfew; omega
    have hvl := visL_len l
    simp only [J2,J3,J4,J5,decide_true,decide_false,Jj,Jk,Jl,eq_self,Za,Zb,Zc,Zd,Ze,Zf,Zg,Zh,Zi,Zj,Zk,Zl,Zm,Zn,Zo,Zp,Zq,Zr,Zs,Zt,Zu,Zv,Zw,Zx,Zy,Zz,ZA,ZB,ZC,ZD,ZE,ZF,ZG,ZH,ZI,ZJ,ZK,ZL,ZM,ZN,ZO,ZP,ZQ,ZR,ZS,ZT,ZU,ZV,ZW,ZX,ZY,ZZ,Z0,Z1,Z2,Z3,Z4,Z5,Z6,Z7,Z8,Z9,Ya,Yb,Yc,Yd,Ye,Yf,Yg,Yh,Yi,Yj,Yk,Yl,Ym,Yn,Yo,Yp,Yq,Yr,Ys,Yt,Yu,Yv,Yw,Yx,Yy,Yz,YA,YB,YC,YD,YE,YF,YG,YH,YI,YJ,YK,YL,YM,YN,YO,YP,YQ,YR,YS,YT,YU,YV,YW,YX,if_true,if_false,reduceIte,reduceCtorEq,YY,YZ,Y0,Y1,Y2,Y3,Y4,Y5,Y6,Y7,Y8,Y9,Ja,Jb,Jc,Jd,Je,Jf,Jg,Jh,or_true,and_true,true_and,and_self,Ji,cond_true,cond_false]
    refine call_is hC (find_spec l x (by omega)) rfl (by exact ⟨rfl, ⟨_, rfl⟩, rfl, plain_id _, trivial⟩) ?_
    simp only [JW,JX,JY,JZ,J0,YE,YW,YV,YR,YQ,YO,YP,Y6,YY,Y3,Y0,reduceIte,YM,YN,J1,if_false]
    try simp only [J2,J3,J4,J5,decide_true,decide_false,Jj,Jk,Jl,eq_self,Za,Zb,Zc,Zd,Ze,Zf,Zg,Zh,Zi,Zj,Zk,Zl,Zm,Zn,Zo,Zp,Zq,Zr,Zs,Zt,Zu,Zv,Zw,Zx,Zy,Zz,ZA,ZB,ZC,ZD,ZE,ZF,ZG,ZH,ZI,ZJ,ZK,ZL,ZM,ZN,ZO,ZP,ZQ,ZR,ZS,ZT,ZU,ZV,ZW,ZX,ZY,ZZ,Z0,Z1,Z2,Z3,Z4,Z5,Z6,Z7,Z8,Z9,Ya,Yb,Yc,Yd,Ye,Yf,Yg,Yh,Yi,Yj,Yk,Yl,Ym,Yn,Yo,Yp,Yq,Yr,Ys,Yt,Yu,Yv,Yw,Yx,Yy,Yz,YA,YB,YC,YD,YE,YF,YG,YH,YI,YJ,YK,YL,YM,YN,YO,YP,YQ,YR,YS,YT,YU,YV,YW,YX,if_true,if_false,reduceIte,reduceCtorEq,YY,YZ,Y0,Y1,Y2,Y3,Y4,Y5,Y6,Y7,Y8,Y9,Ja,Jb,Jc,Jd,Je,Jf,Jg,Jh,or_true,and_true,true_and,and_self,Ji,cond_true,cond_false]
    refine call_is hC (rfind_spec l x (by omega)) rfl (by exact ⟨rfl, ⟨_, rfl⟩, rfl, plain_id _, trivial⟩) ?_
    simp only [JW,JX,JY,JZ,J0,YE,YW,YV,YR,YQ,YO,YP,Y6,YY,Y3,Y0,reduceIte,YM,YN,J1,if_false]
    try simp only [J2,J3,J4,J5,decide_true,decide_false,Jj,Jk,Jl,eq_self,Za,Zb,Zc,Zd,Ze,Zf,Zg,Zh,Zi,Zj,Zk,Zl,Zm,Zn,Zo,Zp,Zq,Zr,Zs,Zt,Zu,Zv,Zw,Zx,Zy,Zz,ZA,ZB,ZC,ZD,ZE,ZF,ZG,ZH,ZI,ZJ,ZK,ZL,ZM,ZN,ZO,ZP,ZQ,ZR,ZS,ZT,ZU,ZV,ZW,ZX,ZY,ZZ,Z0,Z1,Z2,Z3,Z4,Z5,Z6,Z7,Z8,Z9,Ya,Yb,Yc,Yd,Ye,Yf,Yg,Yh,Yi,Yj,Yk,Yl,Ym,Yn,Yo,Yp,Yq,Yr,Ys,Yt,Yu,Yv,Yw,Yx,Yy,Yz,YA,YB,YC,YD,YE,YF,YG,YH,YI,YJ,YK,YL,YM,YN,YO,YP,YQ,YR,YS,YT,YU,YV,YW,YX,if_true,if_false,reduceIte,reduceCtorEq,YY,YZ,Y0,Y1,Y2,Y3,Y4,Y5,Y6,Y7,Y8,Y9,Ja,Jb,Jc,Jd,Je,Jf,Jg,Jh,or_true,and_true,true_and,and_self,Ji,cond_true,cond_false]
    refine call_is hC (visible_spec l (by omega)) rfl (by exact ⟨rfl, ⟨_, rfl⟩, trivial⟩) ?_
    simp only [JW,JX,JY,JZ,J0,YE,YW,YV,YR,YQ,YO,YP,Y6,YY,Y3,Y0,reduceIte,YM,YN,J1,if_false]
    try simp only [J2,J3,J4,J5,decide_true,decide_false,Jj,Jk,Jl,eq_self,Za,Zb,Zc,Zd,Ze,Zf,Zg,Zh,Zi,Zj,Zk,Zl,Zm,Zn,Zo,Zp,Zq,Zr,Zs,Zt,Zu,Zv,Zw,Zx,Zy,Zz,ZA,ZB,ZC,ZD,ZE,ZF,ZG,ZH,ZI,ZJ,ZK,ZL,ZM,ZN,ZO,ZP,ZQ,ZR,ZS,ZT,ZU,ZV,ZW,ZX,ZY,ZZ,Z0,Z1,Z2,Z3,Z4,Z5,Z6,Z7,Z8,Z9,Ya,Yb,Yc,Yd,Ye,Yf,Yg,Yh,Yi,Yj,Yk,Yl,Ym,Yn,Yo,Yp,Yq,Yr,Ys,Yt,Yu,Yv,Yw,Yx,Yy,Yz,YA,YB,YC,YD,YE,YF,YG,YH,YI,YJ,YK,YL,YM,YN,YO,YP,YQ,YR,YS,YT,YU,YV,YW,YX,if_true,if_false,reduceIte,reduceCtorEq,YY,YZ,Y0,Y1,Y2,Y3,Y4,Y5,Y6,Y7,Y8,Y9,Ja,Jb,Jc,Jd,Je,Jf,Jg,Jh,or_true,and_true,true_and,and_self,Ji,cond_true,cond_false]
    refine call_is hC (rvisible_spec l (by omega)) rfl (by exact ⟨rfl, ⟨_, rfl⟩, trivial⟩) ?_
    simp only [JW,JX,JY,JZ,J0,YE,YW,YV,YR,YQ,YO,YP,Y6,YY,Y3,Y0,reduceIte,YM,YN,J1,if_false]
    try simp only [J2,J3,J4,J5,decide_true,decide_false,Jj,Jk,Jl,eq_self,Za,Zb,Zc,Zd,Ze,Zf,Zg,Zh,Zi,Zj,Zk,Zl,Zm,Zn,Zo,Zp,Zq,Zr,Zs,Zt,Zu,Zv,Zw,Zx,Zy,Zz,ZA,ZB,ZC,ZD,ZE,ZF,ZG,ZH,ZI,ZJ,ZK,ZL,ZM,ZN,ZO,ZP,ZQ,ZR,ZS,ZT,ZU,ZV,ZW,ZX,ZY,ZZ,Z0,Z1,Z2,Z3,Z4,Z5,Z6,Z7,Z8,Z9,Ya,Yb,Yc,Yd,Ye,Yf,Yg,Yh,Yi,Yj,Yk,Yl,Ym,Yn,Yo,Yp,Yq,Yr,Ys,Yt,Yu,Yv,Yw,Yx,Yy,Yz,YA,YB,YC,YD,YE,YF,YG,YH,YI,YJ,YK,YL,YM,YN,YO,YP,YQ,YR,YS,YT,YU,YV,YW,YX,if_true,if_false,reduceIte,reduceCtorEq,YY,YZ,Y0,Y1,Y2,Y3,Y4,Y5,Y6,Y7,Y8,Y9,Ja,Jb,Jc,Jd,Je,Jf,Jg,Jh,or_true,and_true,true_and,and_self,Ji,cond_true,cond_false]
    refine call_is hC (sameV_spec (visL l) (visL l) (by omega) (by omega)) rfl (by exact ⟨rfl, ⟨_, rfl⟩, rfl, ⟨_, rfl⟩, trivial⟩) ?_
    simp only [JW,JX,JY,JZ,J0,YE,YW,YV,YR,YQ,YO,YP,Y6,YY,Y3,Y0,reduceIte,YM,YN,J1,if_false]
    try simp only [J2,J3,J4,J5,decide_true,decide_false,Jj,Jk,Jl,eq_self,Za,Zb,Zc,Zd,Ze,Zf,Zg,Zh,Zi,Zj,Zk,Zl,Zm,Zn,Zo,Zp,Zq,Zr,Zs,Zt,Zu,Zv,Zw,Zx,Zy,Zz,ZA,ZB,ZC,ZD,ZE,ZF,ZG,ZH,ZI,ZJ,ZK,ZL,ZM,ZN,ZO,ZP,ZQ,ZR,ZS,ZT,ZU,ZV,ZW,ZX,ZY,ZZ,Z0,Z1,Z2,Z3,Z4,Z5,Z6,Z7,Z8,Z9,Ya,Yb,Yc,Yd,Ye,Yf,Yg,Yh,Yi,Yj,Yk,Yl,Ym,Yn,Yo,Yp,Yq,Yr,Ys,Yt,Yu,Yv,Yw,Yx,Yy,Yz,YA,YB,YC,YD,YE,YF,YG,YH,YI,YJ,YK,YL,YM,YN,YO,YP,YQ,YR,YS,YT,YU,YV,YW,YX,if_true,if_false,reduceIte,reduceCtorEq,YY,YZ,Y0,Y1,Y2,Y3,Y4,Y5,Y6,Y7,Y8,Y9,Ja,Jb,Jc,Jd,Je,Jf,Jg,Jh,or_true,and_true,true_and,and_self,Ji,cond_true,cond_false]
    refine fin_of [] ?_ ?_ ?_ ?_ <;> first | rfl | trivial | exact List.nodup_nil | skip

def anyF (l : List Cell) (u : Int) (k i : Nat) : St :=
  ⟨[.full 0, .v (.int .u8 u), .junk, .junk, .v (.bool false), .v (.int .i64 k), .full 1] ++ List.replicate 23 .junk ++ [.v (.int .i64 l.length), .v (.int .i64 i)] ++ List.replicate 59 .junk, [(1, true, .row 33 (.cell (turnL l k i))), (0, false, .row 33 (.cell l))], 2⟩

set_option maxRecDepth 100000 in
set_option maxHeartbeats 4000000 in
theorem lawAny_spec (l : List Cell) (u : Int) (hu : 0 ≤ u ∧ u ≤ 255) : Spec Try.prog 10 (inH 0 [(33, .cell l)]) 1 [.full 0, .v (.int .u8 u)] (.v (.bool true)) [] := by
  refine spec_of_ex (wr := []) tys_ok Try.func10 rfl rfl fun C hC hk => ?_
  rw [Try.ntmps10, Try.results10]
  simp only [ini, List.length_cons, List.length_nil, Nat.reduceAdd, Nat.reduceSub, List.reduceReplicate, List.cons_append, List.nil_append]
  simp only [J2,J3,J4,J5,decide_true,decide_false,Jj,Jk,Jl,eq_self,Za,Zb,Zc,Zd,Ze,Zf,Zg,Zh,Zi,Zj,Zk,Zl,Zm,Zn,Zo,Zp,Zq,Zr,Zs,Zt,Zu,Zv,Zw,Zx,Zy,Zz,ZA,ZB,ZC,ZD,ZE,ZF,ZG,ZH,ZI,ZJ,ZK,ZL,ZM,ZN,ZO,ZP,ZQ,ZR,ZS,ZT,ZU,ZV,ZW,ZX,ZY,ZZ,Z0,Z1,Z2,Z3,Z4,Z5,Z6,Z7,Z8,Z9,Ya,Yb,Yc,Yd,Ye,Yf,Yg,Yh,Yi,Yj,Yk,Yl,Ym,Yn,Yo,Yp,Yq,Yr,Ys,Yt,Yu,Yv,Yw,Yx,Yy,Yz,YA,YB,YC,YD,YE,YF,YG,YH,YI,YJ,YK,YL,YM,YN,YO,YP,YQ,YR,YS,YT,YU,YV,YW,YX,if_true,if_false,reduceIte,reduceCtorEq,YY,YZ,Y0,Y1,Y2,Y3,Y4,Y5,Y6,Y7,Y8,Y9,Ja,Jb,Jc,Jd,Je,Jf,Jg,Jh,or_true,and_true,true_and,and_self,Ji,cond_true,cond_false]
  refine call_is hC sane_spec rfl trivial ?_
  simp only [JW,JX,JY,JZ,J0,YE,YW,YV,YR,YQ,YO,YP,Y6,YY,Y3,Y0,reduceIte,YM,YN,J1,if_false]
  try simp only [J2,J3,J4,J5,decide_true,decide_false,Jj,Jk,Jl,eq_self,Za,Zb,Zc,Zd,Ze,Zf,Zg,Zh,Zi,Zj,Zk,Zl,Zm,Zn,Zo,Zp,Zq,Zr,Zs,Zt,Zu,Zv,Zw,Zx,Zy,Zz,ZA,ZB,ZC,ZD,ZE,ZF,ZG,ZH,ZI,ZJ,ZK,ZL,ZM,ZN,ZO,ZP,ZQ,ZR,ZS,ZT,ZU,ZV,ZW,ZX,ZY,ZZ,Z0,Z1,Z2,Z3,Z4,Z5,Z6,Z7,Z8,Z9,Ya,Yb,Yc,Yd,Ye,Yf,Yg,Yh,Yi,Yj,Yk,Yl,Ym,Yn,Yo,Yp,Yq,Yr,Ys,Yt,Yu,Yv,Yw,Yx,Yy,Yz,YA,YB,YC,YD,YE,YF,YG,YH,YI,YJ,YK,YL,YM,YN,YO,YP,YQ,YR,YS,YT,YU,YV,YW,YX,if_true,if_false,reduceIte,reduceCtorEq,YY,YZ,Y0,Y1,Y2,Y3,Y4,Y5,Y6,Y7,Y8,Y9,Ja,Jb,Jc,Jd,Je,Jf,Jg,Jh,or_true,and_true,true_and,and_self,Ji,cond_true,cond_false]
  refine call_is hC (few_spec l) rfl (by exact ⟨rfl, ⟨_, rfl⟩, trivial⟩) ?_
  simp only [JW,JX,JY,JZ,J0,YE,YW,YV,YR,YQ,YO,YP,Y6,YY,Y3,Y0,reduceIte,YM,YN,J1,if_false]
  cases hfew : decide ((l.length : Int) ≤ 40) with
  | false =>
    simp only [J2,J3,J4,J5,decide_true,decide_false,Jj,Jk,Jl,eq_self,Za,Zb,Zc,Zd,Ze,Zf,Zg,Zh,Zi,Zj,Zk,Zl,Zm,Zn,Zo,Zp,Zq,Zr,Zs,Zt,Zu,Zv,Zw,Zx,Zy,Zz,ZA,ZB,ZC,ZD,ZE,ZF,ZG,ZH,ZI,ZJ,ZK,ZL,ZM,ZN,ZO,ZP,ZQ,ZR,ZS,ZT,ZU,ZV,ZW,ZX,ZY,ZZ,Z0,Z1,Z2,Z3,Z4,Z5,Z6,Z7,Z8,Z9,Ya,Yb,Yc,Yd,Ye,Yf,Yg,Yh,Yi,Yj,Yk,Yl,Ym,Yn,Yo,Yp,Yq,Yr,Ys,Yt,Yu,Yv,Yw,Yx,Yy,Yz,YA,YB,YC,YD,YE,YF,YG,YH,YI,YJ,YK,YL,YM,YN,YO,YP,YQ,YR,YS,YT,YU,YV,YW,YX,if_true,if_false,reduceIte,reduceCtorEq,YY,YZ,Y0,Y1,Y2,Y3,Y4,Y5,Y6,Y7,Y8,Y9,Ja,Jb,Jc,Jd,Je,Jf,Jg,Jh,or_true,and_true,true_and,and_self,Ji,cond_true,cond_false]
    refine fin_of [] ?_ ?_ ?_ ?_ <;> first | rfl | trivial | exact List.nodup_nil | skip
  | true =>
    have hl : l.length ≤ 40 := by have := of_decide_eq_true hfew; omega
    simp only [J2,J3,J4,J5,decide_true,decide_false,Jj,Jk,Jl,eq_self,Za,Zb,Zc,Zd,Ze,Zf,Zg,Zh,Zi,Zj,Zk,Zl,Zm,Zn,Zo,Zp,Zq,Zr,Zs,Zt,Zu,Zv,Zw,Zx,Zy,Zz,ZA,ZB,ZC,ZD,ZE,ZF,ZG,ZH,ZI,ZJ,ZK,ZL,ZM,ZN,ZO,ZP,ZQ,ZR,ZS,ZT,ZU,ZV,ZW,ZX,ZY,ZZ,Z0,Z1,Z2,Z3,Z4,Z5,Z6,Z7,Z8,Z9,Ya,Yb,Yc,Yd,Ye,Yf,Yg,Yh,Yi,Yj,Yk,Yl,Ym,Yn,Yo,Yp,Yq,Yr,Ys,Yt,Yu,Yv,Yw,Yx,Yy,Yz,YA,YB,YC,YD,YE,YF,YG,YH,YI,YJ,YK,YL,YM,YN,YO,YP,YQ,YR,YS,YT,YU,YV,YW,YX,if_true,if_false,reduceIte,reduceCtorEq,YY,YZ,Y0,Y1,Y2,Y3,Y4,Y5,Y6,Y7,Y8,Y9,Ja,Jb,Jc,Jd,Je,Jf,Jg,Jh,or_true,and_true,true_and,and_self,Ji,cond_true,cond_false]
    by_cases hz : l.length = 0
    · have hz1 : decide ((l.length : Int) = 0) = true := decide_eq_true (by omega)
      simp only [hz1]
      simp only [J2,J3,J4,J5,decide_true,decide_false,Jj,Jk,Jl,eq_self,Za,Zb,Zc,Zd,Ze,Zf,Zg,Zh,Zi,Zj,Zk,Zl,Zm,Zn,Zo,Zp,Zq,Zr,Zs,Zt,Zu,Zv,Zw,Zx,Zy,Zz,ZA,ZB,ZC,ZD,ZE,ZF,ZG,ZH,ZI,ZJ,ZK,ZL,ZM,ZN,ZO,ZP,ZQ,ZR,ZS,ZT,ZU,ZV,ZW,ZX,ZY,ZZ,Z0,Z1,Z2,Z3,Z4,Z5,Z6,Z7,Z8,Z9,Ya,Yb,Yc,Yd,Ye,Yf,Yg,Yh,Yi,Yj,Yk,Yl,Ym,Yn,Yo,Yp,Yq,Yr,Ys,Yt,Yu,Yv,Yw,Yx,Yy,Yz,YA,YB,YC,YD,YE,YF,YG,YH,YI,YJ,YK,YL,YM,YN,YO,YP,YQ,YR,YS,YT,YU,YV,YW,YX,if_true,if_false,reduceIte,reduceCtorEq,YY,YZ,Y0,Y1,Y2,Y3,Y4,Y5,Y6,Y7,Y8,Y9,Ja,Jb,Jc,Jd,Je,Jf,Jg,Jh,or_true,and_true,true_and,and_self,Ji,cond_true,cond_false]
      refine fin_of [] ?_ ?_ ?_ ?_ <;> first | rfl | trivial | exact List.nodup_nil | skip
    have hz' : decide ((l.length : Int) = 0) = false := decide_eq_false (by omega)
    simp only [hz']
    simp only [J2,J3,J4,J5,decide_true,decide_false,Jj,Jk,Jl,eq_self,Za,Zb,Zc,Zd,Ze,Zf,Zg,Zh,Zi,Zj,Zk,Zl,Zm,Zn,Zo,Zp,Zq,Zr,Zs,Zt,Zu,Zv,Zw,Zx,Zy,Zz,ZA,ZB,ZC,ZD,ZE,ZF,ZG,ZH,ZI,ZJ,ZK,ZL,ZM,ZN,ZO,ZP,ZQ,ZR,ZS,ZT,ZU,ZV,ZW,ZX,ZY,ZZ,Z0,Z1,Z2,Z3,Z4,Z5,Z6,Z7,Z8,Z9,Ya,Yb,Yc,Yd,Ye,Yf,Yg,Yh,Yi,Yj,Yk,Yl,Ym,Yn,Yo,Yp,Yq,Yr,Ys,Yt,Yu,Yv,Yw,Yx,Yy,Yz,YA,YB,YC,YD,YE,YF,YG,YH,YI,YJ,YK,YL,YM,YN,YO,YP,YQ,YR,YS,YT,YU,YV,YW,YX,if_true,if_false,reduceIte,reduceCtorEq,YY,YZ,Y0,Y1,Y2,Y3,Y4,Y5,Y6,Y7,Y8,Y9,Ja,Jb,Jc,Jd,Je,Jf,Jg,Jh,or_true,and_true,true_and,and_self,Ji,cond_true,cond_false]
    obtain ⟨k, hku, hkl⟩ : ∃ k : Nat, u % (l.length : Int) = k ∧ k < l.length := by
      have h1 := Int.emod_nonneg u (show (l.length : Int) ≠ 0 by omega)
      have h2 := Int.emod_lt_of_pos u (show (0 : Int) < l.length by omega)
      exact ⟨(u % (l.length : Int)).toNat, by omega, by omega⟩
    rw [hku]
    refine ⟨by omega, ⟨hu.1, by omega⟩, ?_⟩
    refine loop_rule (wr := []) (by rw [hC]; exact tys_ok) (anyF l u k) (fun i => i ≤ l.length) (fun i => l.length - i) 0 (Nat.zero_le _) ?_ ?_
    · refine (nil_ent 6 33 (.cell []) rfl rfl).trans ?_
      simp only [anyF, turnL_zero, upd, List.reduceReplicate, List.cons_append, List.nil_append]
      refine ent_of [] (by rw [hk]; simp) (by simp) (by simp [entT, mp, mps, bd, bds, sg]) (by simp [entH, sg, get, mpC, mps, mp, bdC, bds, bd, inH]) (by simp [entI, inH, sg])
    · rintro i hil
      simp only [anyF, List.reduceReplicate, List.cons_append, List.nil_append]
      simp only [J2,J3,J4,J5,decide_true,decide_false,Jj,Jk,Jl,eq_self,Za,Zb,Zc,Zd,Ze,Zf,Zg,Zh,Zi,Zj,Zk,Zl,Zm,Zn,Zo,Zp,Zq,Zr,Zs,Zt,Zu,Zv,Zw,Zx,Zy,Zz,ZA,ZB,ZC,ZD,ZE,ZF,ZG,ZH,ZI,ZJ,ZK,ZL,ZM,ZN,ZO,ZP,ZQ,ZR,ZS,ZT,ZU,ZV,ZW,ZX,ZY,ZZ,Z0,Z1,Z2,Z3,Z4,Z5,Z6,Z7,Z8,Z9,Ya,Yb,Yc,Yd,Ye,Yf,Yg,Yh,Yi,Yj,Yk,Yl,Ym,Yn,Yo,Yp,Yq,Yr,Ys,Yt,Yu,Yv,Yw,Yx,Yy,Yz,YA,YB,YC,YD,YE,YF,YG,YH,YI,YJ,YK,YL,YM,YN,YO,YP,YQ,YR,YS,YT,YU,YV,YW,YX,if_true,if_false,reduceIte,reduceCtorEq,YY,YZ,Y0,Y1,Y2,Y3,Y4,Y5,Y6,Y7,Y8,Y9,Ja,Jb,Jc,Jd,Je,Jf,Jg,Jh,or_true,and_true,true_and,and_self,Ji,cond_true,cond_false]
      refine cond_split (fun h2 => ?_) (fun h2 => ?_)
      · have hlt : i < l.length := by simpa using h2
        simp only [J2,J3,J4,J5,decide_true,decide_false,Jj,Jk,Jl,eq_self,Za,Zb,Zc,Zd,Ze,Zf,Zg,Zh,Zi,Zj,Zk,Zl,Zm,Zn,Zo,Zp,Zq,Zr,Zs,Zt,Zu,Zv,Zw,Zx,Zy,Zz,ZA,ZB,ZC,ZD,ZE,ZF,ZG,ZH,ZI,ZJ,ZK,ZL,ZM,ZN,ZO,ZP,ZQ,ZR,ZS,ZT,ZU,ZV,ZW,ZX,ZY,ZZ,Z0,Z1,Z2,Z3,Z4,Z5,Z6,Z7,Z8,Z9,Ya,Yb,Yc,Yd,Ye,Yf,Yg,Yh,Yi,Yj,Yk,Yl,Ym,Yn,Yo,Yp,Yq,Yr,Ys,Yt,Yu,Yv,Yw,Yx,Yy,Yz,YA,YB,YC,YD,YE,YF,YG,YH,YI,YJ,YK,YL,YM,YN,YO,YP,YQ,YR,YS,YT,YU,YV,YW,YX,if_true,if_false,reduceIte,reduceCtorEq,YY,YZ,Y0,Y1,Y2,Y3,Y4,Y5,Y6,Y7,Y8,Y9,Ja,Jb,Jc,Jd,Je,Jf,Jg,Jh,or_true,and_true,true_and,and_self,Ji,cond_true,cond_false]
        have hm : ((k : Int) + (l.length : Int) - (i : Int)) % (l.length : Int) = (((k + l.length - i) % l.length : Nat) : Int) := by
          rw [Int.natCast_emod]; congr 1; omega
        have hml : (k + l.length - i) % l.length < l.length := Nat.mod_lt _ (by omega)
        have hts := turnL_succ l k i
        have htl := turnL_len l k i
        generalize (k + l.length - i) % l.length = m at *
        rw [hm]
        simp only [Int.toNat_natCast]
        refine ⟨by omega, by omega, by omega, by omega, by omega, ?_⟩
        refine append_rule (c := .cell (turnL l k i)) (d := .cell [l.getD m default]) (by rw [hC]; exact tys_ok) rfl rfl rfl rfl rfl rfl trivial rfl ⟨_, rfl⟩ (by simp only [RowC.len, List.length_append, List.length_cons, List.length_nil]; omega) ?_
        simp only [J2,J3,J4,J5,decide_true,decide_false,Jj,Jk,Jl,eq_self,Za,Zb,Zc,Zd,Ze,Zf,Zg,Zh,Zi,Zj,Zk,Zl,Zm,Zn,Zo,Zp,Zq,Zr,Zs,Zt,Zu,Zv,Zw,Zx,Zy,Zz,ZA,ZB,ZC,ZD,ZE,ZF,ZG,ZH,ZI,ZJ,ZK,ZL,ZM,ZN,ZO,ZP,ZQ,ZR,ZS,ZT,ZU,ZV,ZW,ZX,ZY,ZZ,Z0,Z1,Z2,Z3,Z4,Z5,Z6,Z7,Z8,Z9,Ya,Yb,Yc,Yd,Ye,Yf,Yg,Yh,Yi,Yj,Yk,Yl,Ym,Yn,Yo,Yp,Yq,Yr,Ys,Yt,Yu,Yv,Yw,Yx,Yy,Yz,YA,YB,YC,YD,YE,YF,YG,YH,YI,YJ,YK,YL,YM,YN,YO,YP,YQ,YR,YS,YT,YU,YV,YW,YX,if_true,if_false,reduceIte,reduceCtorEq,YY,YZ,Y0,Y1,Y2,Y3,Y4,Y5,Y6,Y7,Y8,Y9,Ja,Jb,Jc,Jd,Je,Jf,Jg,Jh,or_true,and_true,true_and,and_self,Ji,cond_true,cond_false]
        repeat (refine And.intro (by omega) ?_)
        refine ⟨i + 1, hlt, by omega, ?_⟩
        simp only [anyF, hts, List.reduceReplicate, List.cons_append, List.nil_append]
        refine ent_of [(1, 3)] (by rw [hk]; simp) (by rw [hk]; simp) ?_ ?_ ?_
        · simp [entT, mp, mps, bd, bds, sg]
        · simp [entH, sg, get, mpC, mps, mp, bdC, bds, bd, inH]
        · simp [entI, inH, sg]
      · have hge : i = l.length := by have := of_decide_eq_false h2; omega
        subst hge
        have htl := turnL_len l k l.length
        have hto := orderL_perm (turnL_perm hkl)
        generalize turnL l k l.length = tl at *
        rcases order_cases l with he | ⟨a, he, ho, hp⟩
        · have hto' := hto.trans he
          simp only [J2,J3,J4,J5,decide_true,decide_false,Jj,Jk,Jl,eq_self,Za,Zb,Zc,Zd,Ze,Zf,Zg,Zh,Zi,Zj,Zk,Zl,Zm,Zn,Zo,Zp,Zq,Zr,Zs,Zt,Zu,Zv,Zw,Zx,Zy,Zz,ZA,ZB,ZC,ZD,ZE,ZF,ZG,ZH,ZI,ZJ,ZK,ZL,ZM,ZN,ZO,ZP,ZQ,ZR,ZS,ZT,ZU,ZV,ZW,ZX,ZY,ZZ,Z0,Z1,Z2,Z3,Z4,Z5,Z6,Z7,Z8,Z9,Ya,Yb,Yc,Yd,Ye,Yf,Yg,Yh,Yi,Yj,Yk,Yl,Ym,Yn,Yo,Yp,Yq,Yr,Ys,Yt,Yu,Yv,Yw,Yx,Yy,Yz,YA,YB,YC,YD,YE,YF,YG,YH,YI,YJ,YK,YL,YM,YN,YO,YP,YQ,YR,YS,YT,YU,YV,YW,YX,if_true,if_false,reduceIte,reduceCtorEq,YY,YZ,Y0,Y1,Y2,Y3,Y4,Y5,Y6,Y7,Y8,Y9,Ja,Jb,Jc,Jd,Je,Jf,Jg,Jh,or_true,and_true,true_and,and_self,Ji,cond_true,cond_false]
          refine call_is hC (order_spec l (by omega)) rfl (by exact ⟨rfl, ⟨_, rfl⟩, trivial⟩) ?_
          rw [he]
          simp only [JW,JX,JY,JZ,J0,YE,YW,YV,YR,YQ,YO,YP,Y6,YY,Y3,Y0,reduceIte,YM,YN,J1,if_false]
          try simp only [J2,J3,J4,J5,decide_true,decide_false,Jj,Jk,Jl,eq_self,Za,Zb,Zc,Zd,Ze,Zf,Zg,Zh,Zi,Zj,Zk,Zl,Zm,Zn,Zo,Zp,Zq,Zr,Zs,Zt,Zu,Zv,Zw,Zx,Zy,Zz,ZA,ZB,ZC,ZD,ZE,ZF,ZG,ZH,ZI,ZJ,ZK,ZL,ZM,ZN,ZO,ZP,ZQ,ZR,ZS,ZT,ZU,ZV,ZW,ZX,ZY,ZZ,Z0,Z1,Z2,Z3,Z4,Z5,Z6,Z7,Z8,Z9,Ya,Yb,Yc,Yd,Ye,Yf,Yg,Yh,Yi,Yj,Yk,Yl,Ym,Yn,Yo,Yp,Yq,Yr,Ys,Yt,Yu,Yv,Yw,Yx,Yy,Yz,YA,YB,YC,YD,YE,YF,YG,YH,YI,YJ,YK,YL,YM,YN,YO,YP,YQ,YR,YS,YT,YU,YV,YW,YX,if_true,if_false,reduceIte,reduceCtorEq,YY,YZ,Y0,Y1,Y2,Y3,Y4,Y5,Y6,Y7,Y8,Y9,Ja,Jb,Jc,Jd,Je,Jf,Jg,Jh,or_true,and_true,true_and,and_self,Ji,cond_true,cond_false]
          refine call_is hC (order_spec tl (by omega)) rfl (by exact ⟨rfl, ⟨_, rfl⟩, trivial⟩) ?_
          rw [hto']
          simp only [JW,JX,JY,JZ,J0,YE,YW,YV,YR,YQ,YO,YP,Y6,YY,Y3,Y0,reduceIte,YM,YN,J1,if_false]
          try simp only [J2,J3,J4,J5,decide_true,decide_false,Jj,Jk,Jl,eq_self,Za,Zb,Zc,Zd,Ze,Zf,Zg,Zh,Zi,Zj,Zk,Zl,Zm,Zn,Zo,Zp,Zq,Zr,Zs,Zt,Zu,Zv,Zw,Zx,Zy,Zz,ZA,ZB,ZC,ZD,ZE,ZF,ZG,ZH,ZI,ZJ,ZK,ZL,ZM,ZN,ZO,ZP,ZQ,ZR,ZS,ZT,ZU,ZV,ZW,ZX,ZY,ZZ,Z0,Z1,Z2,Z3,Z4,Z5,Z6,Z7,Z8,Z9,Ya,Yb,Yc,Yd,Ye,Yf,Yg,Yh,Yi,Yj,Yk,Yl,Ym,Yn,Yo,Yp,Yq,Yr,Ys,Yt,Yu,Yv,Yw,Yx,Yy,Yz,YA,YB,YC,YD,YE,YF,YG,YH,YI,YJ,YK,YL,YM,YN,YO,YP,YQ,YR,YS,YT,YU,YV,YW,YX,if_true,if_false,reduceIte,reduceCtorEq,YY,YZ,Y0,Y1,Y2,Y3,Y4,Y5,Y6,Y7,Y8,Y9,Ja,Jb,Jc,Jd,Je,Jf,Jg,Jh,or_true,and_true,true_and,and_self,Ji,cond_true,cond_false]
          refine call_is hC (same_spec [] [] (by simp) (by simp)) rfl (by exact ⟨rfl, ⟨_, rfl⟩, rfl, ⟨_, rfl⟩, trivial⟩) ?_
          simp only [JW,JX,JY,JZ,J0,YE,YW,YV,YR,YQ,YO,YP,Y6,YY,Y3,Y0,reduceIte,YM,YN,J1,if_false]
          try simp only [J2,J3,J4,J5,decide_true,decide_false,Jj,Jk,Jl,eq_self,Za,Zb,Zc,Zd,Ze,Zf,Zg,Zh,Zi,Zj,Zk,Zl,Zm,Zn,Zo,Zp,Zq,Zr,Zs,Zt,Zu,Zv,Zw,Zx,Zy,Zz,ZA,ZB,ZC,ZD,ZE,ZF,ZG,ZH,ZI,ZJ,ZK,ZL,ZM,ZN,ZO,ZP,ZQ,ZR,ZS,ZT,ZU,ZV,ZW,ZX,ZY,ZZ,Z0,Z1,Z2,Z3,Z4,Z5,Z6,Z7,Z8,Z9,Ya,Yb,Yc,Yd,Ye,Yf,Yg,Yh,Yi,Yj,Yk,Yl,Ym,Yn,Yo,Yp,Yq,Yr,Ys,Yt,Yu,Yv,Yw,Yx,Yy,Yz,YA,YB,YC,YD,YE,YF,YG,YH,YI,YJ,YK,YL,YM,YN,YO,YP,YQ,YR,YS,YT,YU,YV,YW,YX,if_true,if_false,reduceIte,reduceCtorEq,YY,YZ,Y0,Y1,Y2,Y3,Y4,Y5,Y6,Y7,Y8,Y9,Ja,Jb,Jc,Jd,Je,Jf,Jg,Jh,or_true,and_true,true_and,and_self,Ji,cond_true,cond_false]
          refine fin_of [] ?_ ?_ ?_ ?_ <;> first | rfl | trivial | exact List.nodup_nil | skip
        · have hto' := hto.trans he
          have hal := hp.length_eq
          have hch := (checkL_iff a).2 ho
          have hdd : decide (a = a) = true := decide_eq_true rfl
          simp only [J2,J3,J4,J5,decide_true,decide_false,Jj,Jk,Jl,eq_self,Za,Zb,Zc,Zd,Ze,Zf,Zg,Zh,Zi,Zj,Zk,Zl,Zm,Zn,Zo,Zp,Zq,Zr,Zs,Zt,Zu,Zv,Zw,Zx,Zy,Zz,ZA,ZB,ZC,ZD,ZE,ZF,ZG,ZH,ZI,ZJ,ZK,ZL,ZM,ZN,ZO,ZP,ZQ,ZR,ZS,ZT,ZU,ZV,ZW,ZX,ZY,ZZ,Z0,Z1,Z2,Z3,Z4,Z5,Z6,Z7,Z8,Z9,Ya,Yb,Yc,Yd,Ye,Yf,Yg,Yh,Yi,Yj,Yk,Yl,Ym,Yn,Yo,Yp,Yq,Yr,Ys,Yt,Yu,Yv,Yw,Yx,Yy,Yz,YA,YB,YC,YD,YE,YF,YG,YH,YI,YJ,YK,YL,YM,YN,YO,YP,YQ,YR,YS,YT,YU,YV,YW,YX,if_true,if_false,reduceIte,reduceCtorEq,YY,YZ,Y0,Y1,Y2,Y3,Y4,Y5,Y6,Y7,Y8,Y9,Ja,Jb,Jc,Jd,Je,Jf,Jg,Jh,or_true,and_true,true_and,and_self,Ji,cond_true,cond_false]
          refine call_is hC (order_spec l (by omega)) rfl (by exact ⟨rfl, ⟨_, rfl⟩, trivial⟩) ?_
          rw [he]
          simp only [JW,JX,JY,JZ,J0,YE,YW,YV,YR,YQ,YO,YP,Y6,YY,Y3,Y0,reduceIte,YM,YN,J1,if_false]
          try simp only [J2,J3,J4,J5,decide_true,decide_false,Jj,Jk,Jl,eq_self,Za,Zb,Zc,Zd,Ze,Zf,Zg,Zh,Zi,Zj,Zk,Zl,Zm,Zn,Zo,Zp,Zq,Zr,Zs,Zt,Zu,Zv,Zw,Zx,Zy,Zz,ZA,ZB,ZC,ZD,ZE,ZF,ZG,ZH,ZI,ZJ,ZK,ZL,ZM,ZN,ZO,ZP,ZQ,ZR,ZS,ZT,ZU,ZV,ZW,ZX,ZY,ZZ,Z0,Z1,Z2,Z3,Z4,Z5,Z6,Z7,Z8,Z9,Ya,Yb,Yc,Yd,Ye,Yf,Yg,Yh,Yi,Yj,Yk,Yl,Ym,Yn,Yo,Yp,Yq,Yr,Ys,Yt,Yu,Yv,Yw,Yx,Yy,Yz,YA,YB,YC,YD,YE,YF,YG,YH,YI,YJ,YK,YL,YM,YN,YO,YP,YQ,YR,YS,YT,YU,YV,YW,YX,if_true,if_false,reduceIte,reduceCtorEq,YY,YZ,Y0,Y1,Y2,Y3,Y4,Y5,Y6,Y7,Y8,Y9,Ja,Jb,Jc,Jd,Je,Jf,Jg,Jh,or_true,and_true,true_and,and_self,Ji,cond_true,cond_false]
          refine call_is hC (order_spec tl (by omega)) rfl (by exact ⟨rfl, ⟨_, rfl⟩, trivial⟩) ?_
          rw [hto']
          simp only [JW,JX,JY,JZ,J0,YE,YW,YV,YR,YQ,YO,YP,Y6,YY,Y3,Y0,reduceIte,YM,YN,J1,if_false]
          try simp only [J2,J3,J4,J5,decide_true,decide_false,Jj,Jk,Jl,eq_self,Za,Zb,Zc,Zd,Ze,Zf,Zg,Zh,Zi,Zj,Zk,Zl,Zm,Zn,Zo,Zp,Zq,Zr,Zs,Zt,Zu,Zv,Zw,Zx,Zy,Zz,ZA,ZB,ZC,ZD,ZE,ZF,ZG,ZH,ZI,ZJ,ZK,ZL,ZM,ZN,ZO,ZP,ZQ,ZR,ZS,ZT,ZU,ZV,ZW,ZX,ZY,ZZ,Z0,Z1,Z2,Z3,Z4,Z5,Z6,Z7,Z8,Z9,Ya,Yb,Yc,Yd,Ye,Yf,Yg,Yh,Yi,Yj,Yk,Yl,Ym,Yn,Yo,Yp,Yq,Yr,Ys,Yt,Yu,Yv,Yw,Yx,Yy,Yz,YA,YB,YC,YD,YE,YF,YG,YH,YI,YJ,YK,YL,YM,YN,YO,YP,YQ,YR,YS,YT,YU,YV,YW,YX,if_true,if_false,reduceIte,reduceCtorEq,YY,YZ,Y0,Y1,Y2,Y3,Y4,Y5,Y6,Y7,Y8,Y9,Ja,Jb,Jc,Jd,Je,Jf,Jg,Jh,or_true,and_true,true_and,and_self,Ji,cond_true,cond_false]
          refine call_is hC (same_spec a a (by omega) (by omega)) rfl (by exact ⟨rfl, ⟨_, rfl⟩, rfl, ⟨_, rfl⟩, trivial⟩) ?_
          simp only [JW,JX,JY,JZ,J0,YE,YW,YV,YR,YQ,YO,YP,Y6,YY,Y3,Y0,reduceIte,YM,YN,J1,if_false]
          try simp only [J2,J3,J4,J5,decide_true,decide_false,Jj,Jk,Jl,eq_self,Za,Zb,Zc,Zd,Ze,Zf,Zg,Zh,Zi,Zj,Zk,Zl,Zm,Zn,Zo,Zp,Zq,Zr,Zs,Zt,Zu,Zv,Zw,Zx,Zy,Zz,ZA,ZB,ZC,ZD,ZE,ZF,ZG,ZH,ZI,ZJ,ZK,ZL,ZM,ZN,ZO,ZP,ZQ,ZR,ZS,ZT,ZU,ZV,ZW,ZX,ZY,ZZ,Z0,Z1,Z2,Z3,Z4,Z5,Z6,Z7,Z8,Z9,Ya,Yb,Yc,Yd,Ye,Yf,Yg,Yh,Yi,Yj,Yk,Yl,Ym,Yn,Yo,Yp,Yq,Yr,Ys,Yt,Yu,Yv,Yw,Yx,Yy,Yz,YA,YB,YC,YD,YE,YF,YG,YH,YI,YJ,YK,YL,YM,YN,YO,YP,YQ,YR,YS,YT,YU,YV,YW,YX,if_true,if_false,reduceIte,reduceCtorEq,YY,YZ,Y0,Y1,Y2,Y3,Y4,Y5,Y6,Y7,Y8,Y9,Ja,Jb,Jc,Jd,Je,Jf,Jg,Jh,or_true,and_true,true_and,and_self,Ji,cond_true,cond_false]
          refine call_is hC (order_spec a (by omega)) rfl (by exact ⟨rfl, ⟨_, rfl⟩, trivial⟩) ?_
          rw [ho]
          simp only [JW,JX,JY,JZ,J0,YE,YW,YV,YR,YQ,YO,YP,Y6,YY,Y3,Y0,reduceIte,YM,YN,J1,if_false]
          try simp only [J2,J3,J4,J5,decide_true,decide_false,Jj,Jk,Jl,eq_self,Za,Zb,Zc,Zd,Ze,Zf,Zg,Zh,Zi,Zj,Zk,Zl,Zm,Zn,Zo,Zp,Zq,Zr,Zs,Zt,Zu,Zv,Zw,Zx,Zy,Zz,ZA,ZB,ZC,ZD,ZE,ZF,ZG,ZH,ZI,ZJ,ZK,ZL,ZM,ZN,ZO,ZP,ZQ,ZR,ZS,ZT,ZU,ZV,ZW,ZX,ZY,ZZ,Z0,Z1,Z2,Z3,Z4,Z5,Z6,Z7,Z8,Z9,Ya,Yb,Yc,Yd,Ye,Yf,Yg,Yh,Yi,Yj,Yk,Yl,Ym,Yn,Yo,Yp,Yq,Yr,Ys,Yt,Yu,Yv,Yw,Yx,Yy,Yz,YA,YB,YC,YD,YE,YF,YG,YH,YI,YJ,YK,YL,YM,YN,YO,YP,YQ,YR,YS,YT,YU,YV,YW,YX,if_true,if_false,reduceIte,reduceCtorEq,YY,YZ,Y0,Y1,Y2,Y3,Y4,Y5,Y6,Y7,Y8,Y9,Ja,Jb,Jc,Jd,Je,Jf,Jg,Jh,or_true,and_true,true_and,and_self,Ji,cond_true,cond_false]
          refine call_is hC (same_spec a a (by omega) (by omega)) rfl (by exact ⟨rfl, ⟨_, rfl⟩, rfl, ⟨_, rfl⟩, trivial⟩) ?_
          simp only [JW,JX,JY,JZ,J0,YE,YW,YV,YR,YQ,YO,YP,Y6,YY,Y3,Y0,reduceIte,YM,YN,J1,if_false]
          try simp only [J2,J3,J4,J5,decide_true,decide_false,Jj,Jk,Jl,eq_self,Za,Zb,Zc,Zd,Ze,Zf,Zg,Zh,Zi,Zj,Zk,Zl,Zm,Zn,Zo,Zp,Zq,Zr,Zs,Zt,Zu,Zv,Zw,Zx,Zy,Zz,ZA,ZB,ZC,ZD,ZE,ZF,ZG,ZH,ZI,ZJ,ZK,ZL,ZM,ZN,ZO,ZP,ZQ,ZR,ZS,ZT,ZU,ZV,ZW,ZX,ZY,ZZ,Z0,Z1,Z2,Z3,Z4,Z5,Z6,Z7,Z8,Z9,Ya,Yb,Yc,Yd,Ye,Yf,Yg,Yh,Yi,Yj,Yk,Yl,Ym,Yn,Yo,Yp,Yq,Yr,Ys,Yt,Yu,Yv,Yw,Yx,Yy,Yz,YA,YB,YC,YD,YE,YF,YG,YH,YI,YJ,YK,YL,YM,YN,YO,YP,YQ,YR,YS,YT,YU,YV,YW,YX,if_true,if_false,reduceIte,reduceCtorEq,YY,YZ,Y0,Y1,Y2,Y3,Y4,Y5,Y6,Y7,Y8,Y9,Ja,Jb,Jc,Jd,Je,Jf,Jg,Jh,or_true,and_true,true_and,and_self,Ji,cond_true,cond_false]
          refine call_is hC (check_spec a (by omega)) rfl (by exact ⟨rfl, ⟨_, rfl⟩, trivial⟩) ?_
          rw [hch]
          simp only [JW,JX,JY,JZ,J0,YE,YW,YV,YR,YQ,YO,YP,Y6,YY,Y3,Y0,reduceIte,YM,YN,J1,if_false]
          try simp only [J2,J3,J4,J5,decide_true,decide_false,Jj,Jk,Jl,eq_self,Za,Zb,Zc,Zd,Ze,Zf,Zg,Zh,Zi,Zj,Zk,Zl,Zm,Zn,Zo,Zp,Zq,Zr,Zs,Zt,Zu,Zv,Zw,Zx,Zy,Zz,ZA,ZB,ZC,ZD,ZE,ZF,ZG,ZH,ZI,ZJ,ZK,ZL,ZM,ZN,ZO,ZP,ZQ,ZR,ZS,ZT,ZU,ZV,ZW,ZX,ZY,ZZ,Z0,Z1,Z2,Z3,Z4,Z5,Z6,Z7,Z8,Z9,Ya,Yb,Yc,Yd,Ye,Yf,Yg,Yh,Yi,Yj,Yk,Yl,Ym,Yn,Yo,Yp,Yq,Yr,Ys,Yt,Yu,Yv,Yw,Yx,Yy,Yz,YA,YB,YC,YD,YE,YF,YG,YH,YI,YJ,YK,YL,YM,YN,YO,YP,YQ,YR,YS,YT,YU,YV,YW,YX,if_true,if_false,reduceIte,reduceCtorEq,YY,YZ,Y0,Y1,Y2,Y3,Y4,Y5,Y6,Y7,Y8,Y9,Ja,Jb,Jc,Jd,Je,Jf,Jg,Jh,or_true,and_true,true_and,and_self,Ji,cond_true,cond_false]
          refine fin_of [] ?_ ?_ ?_ ?_ <;> first | rfl | trivial | exact List.nodup_nil | skip

end E
end Go.Proofs.Ytlkchnfgeedghaa
