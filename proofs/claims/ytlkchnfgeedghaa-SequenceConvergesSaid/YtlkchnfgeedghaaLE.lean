/- The law SequenceConverges is walked here. -/
import Derived.Test.YtlkchnfgeedghaaSE
import Derived.Test.YtlkchnfgeedghaaPI
import Derived.Test.YtlkchnfgeedghaaER
import Derived.Test.YtlkchnfgeedghaaEG
set_option linter.unusedSimpArgs false
set_option linter.unusedVariables false
namespace Go.Proofs.Ytlkchnfgeedghaa
namespace E
open Go
open Go.Proofs.Ytlkchnfgeedghaa.E renaming Ex_seq → Za, Ex_region → Zb, Ex_block → Zc, Ex_exit → Zd, Ex_ret → Ze, Ex_skip → Zf, Ex_label → Zg, Ex_scope → Zh, Ex_loop → Zi, Ex_draw → Zj, Ex_if → Zk, condD_t → Zl, condD_f → Zm, SeqK_normal → Zn, SeqK_ret → Zo, SeqK_exit → Zp, BlockK_normal → Zq, BlockK_exit → Zr, BlockK_ret → Zs, ScopeK_normal → Zt, ScopeK_exit → Zu, ScopeK_ret → Zv, LoopK_normal → Zw, LoopK_exit → Zx, LoopK_ret → Zy, NormK_run → Zz, sops_run → ZA, sops_nil → ZB, guardO → ZC, guardG → ZD, guardD_tt → ZE, guardD_ff → ZF, guardD_tf → ZG, guardD_ft → ZH, guardD_u → ZI, OpsK_run → ZJ, InlK_run → ZK, baseD → ZL, delC → ZM, RowC.ap → ZN, RowC.over → ZO, RowC.take → ZP, RowC.drop → ZQ, RowC.zeros → ZR, step → ZS, goRs → ZT, goCall → ZU, goNew → ZV, pur → ZW, bin → ZX, ibin → ZY, sbin → ZZ, num → Z0, lo → Z1, hi → Z2, St.ev → Z3, ofConst → Z4, nth → Z5, upd → Z6, PutD → Z7, tys → Z8, get → Z9, setC → Ya, ld → Yb, stO → Yc, segO → Yd, dropO → Ye, takeO → Yf, nthO → Yg, layO → Yh, flat → Yi, fillO → Yj, pushAll → Yk, RowC.push → Yl, RowC.nil → Ym, RowC.get → Yn, RowC.sz → Yo, RowC.len → Yp, setCells → Yq, RowC.setCell → Yr, lenK → Ys, boundsOf → Yt, caps → Yu, TK.agg → Yv, RetK_r → Yx, RetK_n → Yy, RetO → Yz, resOf → YA, noTup → YB, packR → YC, inH → YD, newH → YE, qops_run → Jm, qops_nil → Jn, qguardO → Jo, qguardG → Jp, qguardD_tt → Jq, qguardD_ff → Jr, qguardD_tf → Js, qguardD_ft → Jt, qguardD_u → Ju, QK_run → Jv, qstep → Jw, qRs → Jx, qCall → Jy, det → Jz, dets → JA, ren → JW, renB → JX, renA → JY, toC → JZ, rowsOf → J0, eqId → J2, eqCell → J3, id_eta → J4, cell_eta → J5
open Go renaming Value.oneCell' → Yw
open List renaming contains_cons → YF, contains_nil → YG, getElem?_toArray → YL, getElem?_cons_zero → YM, getElem?_cons_succ → YN, map_cons → YO, map_nil → YP, length_cons → YQ, length_nil → YR, all_cons → YS, all_nil → YT, append_nil → YU, cons_append → YV, nil_append → YW, size_toArray → YX, take_succ_cons → JB, take_zero → JC, drop_succ_cons → JD, drop_zero → JE
open Option renaming bind_some → YH, bind_none → YI, map_some → YJ, map_none → YK, isSome_some → Jh
open Nat renaming reduceAdd → YY, reduceMul → YZ, reduceSub → Y0, reduceEqDiff → Y1, reduceLeDiff → Y2, reduceLT → Y3, reduceBEq → Y4, reduceBNe → Y5, add_zero → Y6, zero_add → Y7, lt_irrefl → J1
open Bool renaming or_false → Y8, false_or → Y9, or_true → Ja, not_true → Jb, not_false → Jc, and_true → Jd, true_and → Je, and_self → Jf, false_eq_true → Jg
open Int renaming toNat_natCast → Ji, reduceEq → Jj, reduceNe → Jk, reduceNeg → Jl

theorem sl_behind (s t : List Cell) (c : Cell) {n : Nat} : ∀ i, i < n → (RowC.cell t).get i = (RowC.cell (s ++ c :: t)).get (s.length + 1 + i) := fun i hi => by
  rw [encC_get, encC_get]
  congr 1
  have : s ++ c :: t = (s ++ [c]) ++ t := by simp
  rw [this, List.getD, List.getD, List.getElem?_append_right (by simp only [List.length_append, List.length_cons, List.length_nil]; omega)]
  rw [show s.length + 1 + i - (s ++ [c]).length = i by simp only [List.length_append, List.length_cons, List.length_nil]; omega]

structure ConvS where
  left : List Cell
  late : List Id3
  l : List Cell
  d : List Cell
  n : Nat
def convH (a W : List Cell) (pk : List Int) (x : ConvS) : Heap :=
  [(3, true, .row 33 (.cell x.left)), (4, true, .row 33 (.cell x.l)), (5, true, .row 31 (.ids x.late)), (2, true, .row 33 (.cell W)), (0, false, .row 33 (.cell a)), (1, false, .row 5 (.ints .u8 pk))]
def convT (x : ConvS) : List SV := [.full 0, .full 1, .junk, .junk, .v (.bool false), .full 2, .v (.int .i64 0), .full 4, .full 5, .full 3, .v (.int .i64 x.n)]
def convF (a W : List Cell) (pk : List Int) (x : ConvS) : St := ⟨convT x ++ List.replicate 152 .junk, convH a W pk x, 6⟩
def seekF (a W : List Cell) (pk : List Int) (x : ConvS) (at0 j : Nat) : St :=
  ⟨convT x ++ [.v (.int .i64 (((at0 + j) % x.left.length : Nat) : Int)), .v (.bool false)] ++ List.replicate 51 .junk ++ [.v (.int .i64 x.left.length), .v (.int .i64 j)] ++ List.replicate 97 .junk, convH a W pk x, 6⟩
def lateF (a W : List Cell) (pk : List Int) (late : List Id3) (i : Nat) : St :=
  ⟨[.junk, .junk, .junk, .junk, .v (.bool false), .full 2, .junk, .full 4] ++ List.replicate 136 .junk ++ [.full 5, .v (.int .i64 late.length), .v (.int .i64 i)] ++ List.replicate 16 .junk,
    [(4, true, .row 33 (.cell (W.map (cur (late.drop i))))), (5, true, .row 31 (.ids late)), (2, true, .row 33 (.cell W)), (0, false, .row 33 (.cell a)), (1, false, .row 5 (.ints .u8 pk))], 6⟩

set_option maxRecDepth 100000 in
set_option maxHeartbeats 16000000 in
theorem lawConv_spec (a : List Cell) (pk : List Int) (hpk : ∀ i, 0 ≤ pk.getD i 0 ∧ pk.getD i 0 ≤ 255) : Spec Try.prog 6 (inH 0 [(33, .cell a), (5, .ints .u8 pk)]) 2 [.full 0, .full 1] (.v (.bool true)) [] := by
  refine spec_of_ex (wr := []) tys_ok Try.func6 rfl rfl fun C hC hk => ?_
  rw [Try.ntmps6, Try.results6]
  simp only [ini, List.length_cons, List.length_nil, Nat.reduceAdd, Nat.reduceSub, List.reduceReplicate, List.cons_append, List.nil_append]
  simp only [J2,J3,J4,J5,decide_true,decide_false,Jj,Jk,Jl,eq_self,Za,Zb,Zc,Zd,Ze,Zf,Zg,Zh,Zi,Zj,Zk,Zl,Zm,Zn,Zo,Zp,Zq,Zr,Zs,Zt,Zu,Zv,Zw,Zx,Zy,Zz,ZA,ZB,ZC,ZD,ZE,ZF,ZG,ZH,ZI,ZJ,ZK,ZL,ZM,ZN,ZO,ZP,ZQ,ZR,ZS,ZT,ZU,ZV,ZW,ZX,ZY,ZZ,Z0,Z1,Z2,Z3,Z4,Z5,Z6,Z7,Z8,Z9,Ya,Yb,Yc,Yd,Ye,Yf,Yg,Yh,Yi,Yj,Yk,Yl,Ym,Yn,Yo,Yp,Yq,Yr,Ys,Yt,Yu,Yv,Yw,Yx,Yy,Yz,YA,YB,YC,YD,YE,YF,YG,YH,YI,YJ,YK,YL,YM,YN,YO,YP,YQ,YR,YS,YT,YU,YV,YW,YX,if_true,if_false,reduceIte,reduceCtorEq,YY,YZ,Y0,Y1,Y2,Y3,Y4,Y5,Y6,Y7,Y8,Y9,Ja,Jb,Jc,Jd,Je,Jf,Jg,Jh,or_true,and_true,true_and,and_self,Ji,cond_true,cond_false]
  refine call_is hC sane_spec rfl trivial ?_
  simp only [JW,JX,JY,JZ,J0,YE,YW,YV,YR,YQ,YO,YP,Y6,YY,Y3,Y0,reduceIte,YM,YN,J1,if_false]
  try simp only [J2,J3,J4,J5,decide_true,decide_false,Jj,Jk,Jl,eq_self,Za,Zb,Zc,Zd,Ze,Zf,Zg,Zh,Zi,Zj,Zk,Zl,Zm,Zn,Zo,Zp,Zq,Zr,Zs,Zt,Zu,Zv,Zw,Zx,Zy,Zz,ZA,ZB,ZC,ZD,ZE,ZF,ZG,ZH,ZI,ZJ,ZK,ZL,ZM,ZN,ZO,ZP,ZQ,ZR,ZS,ZT,ZU,ZV,ZW,ZX,ZY,ZZ,Z0,Z1,Z2,Z3,Z4,Z5,Z6,Z7,Z8,Z9,Ya,Yb,Yc,Yd,Ye,Yf,Yg,Yh,Yi,Yj,Yk,Yl,Ym,Yn,Yo,Yp,Yq,Yr,Ys,Yt,Yu,Yv,Yw,Yx,Yy,Yz,YA,YB,YC,YD,YE,YF,YG,YH,YI,YJ,YK,YL,YM,YN,YO,YP,YQ,YR,YS,YT,YU,YV,YW,YX,if_true,if_false,reduceIte,reduceCtorEq,YY,YZ,Y0,Y1,Y2,Y3,Y4,Y5,Y6,Y7,Y8,Y9,Ja,Jb,Jc,Jd,Je,Jf,Jg,Jh,or_true,and_true,true_and,and_self,Ji,cond_true,cond_false]
  refine call_is hC (few_spec a) rfl (by exact ⟨rfl, ⟨_, rfl⟩, trivial⟩) ?_
  simp only [JW,JX,JY,JZ,J0,YE,YW,YV,YR,YQ,YO,YP,Y6,YY,Y3,Y0,reduceIte,YM,YN,J1,if_false]
  cases hfew : decide ((a.length : Int) ≤ 40) with
  | false =>
    simp only [J2,J3,J4,J5,decide_true,decide_false,Jj,Jk,Jl,eq_self,Za,Zb,Zc,Zd,Ze,Zf,Zg,Zh,Zi,Zj,Zk,Zl,Zm,Zn,Zo,Zp,Zq,Zr,Zs,Zt,Zu,Zv,Zw,Zx,Zy,Zz,ZA,ZB,ZC,ZD,ZE,ZF,ZG,ZH,ZI,ZJ,ZK,ZL,ZM,ZN,ZO,ZP,ZQ,ZR,ZS,ZT,ZU,ZV,ZW,ZX,ZY,ZZ,Z0,Z1,Z2,Z3,Z4,Z5,Z6,Z7,Z8,Z9,Ya,Yb,Yc,Yd,Ye,Yf,Yg,Yh,Yi,Yj,Yk,Yl,Ym,Yn,Yo,Yp,Yq,Yr,Ys,Yt,Yu,Yv,Yw,Yx,Yy,Yz,YA,YB,YC,YD,YE,YF,YG,YH,YI,YJ,YK,YL,YM,YN,YO,YP,YQ,YR,YS,YT,YU,YV,YW,YX,if_true,if_false,reduceIte,reduceCtorEq,YY,YZ,Y0,Y1,Y2,Y3,Y4,Y5,Y6,Y7,Y8,Y9,Ja,Jb,Jc,Jd,Je,Jf,Jg,Jh,or_true,and_true,true_and,and_self,Ji,cond_true,cond_false]
    refine fin_of [] ?_ ?_ ?_ ?_ <;> first | rfl | trivial | exact List.nodup_nil | skip
  | true =>
    have hl : a.length ≤ 40 := by have := of_decide_eq_true hfew; omega
    simp only [J2,J3,J4,J5,decide_true,decide_false,Jj,Jk,Jl,eq_self,Za,Zb,Zc,Zd,Ze,Zf,Zg,Zh,Zi,Zj,Zk,Zl,Zm,Zn,Zo,Zp,Zq,Zr,Zs,Zt,Zu,Zv,Zw,Zx,Zy,Zz,ZA,ZB,ZC,ZD,ZE,ZF,ZG,ZH,ZI,ZJ,ZK,ZL,ZM,ZN,ZO,ZP,ZQ,ZR,ZS,ZT,ZU,ZV,ZW,ZX,ZY,ZZ,Z0,Z1,Z2,Z3,Z4,Z5,Z6,Z7,Z8,Z9,Ya,Yb,Yc,Yd,Ye,Yf,Yg,Yh,Yi,Yj,Yk,Yl,Ym,Yn,Yo,Yp,Yq,Yr,Ys,Yt,Yu,Yv,Yw,Yx,Yy,Yz,YA,YB,YC,YD,YE,YF,YG,YH,YI,YJ,YK,YL,YM,YN,YO,YP,YQ,YR,YS,YT,YU,YV,YW,YX,if_true,if_false,reduceIte,reduceCtorEq,YY,YZ,Y0,Y1,Y2,Y3,Y4,Y5,Y6,Y7,Y8,Y9,Ja,Jb,Jc,Jd,Je,Jf,Jg,Jh,or_true,and_true,true_and,and_self,Ji,cond_true,cond_false]
    rcases order_cases a with he | ⟨W, he, ho, hp⟩
    · refine call_is hC (order_spec a (by omega)) rfl (by exact ⟨rfl, ⟨_, rfl⟩, trivial⟩) ?_
      rw [he]
      simp only [JW,JX,JY,JZ,J0,YE,YW,YV,YR,YQ,YO,YP,Y6,YY,Y3,Y0,reduceIte,YM,YN,J1,if_false]
      try simp only [J2,J3,J4,J5,decide_true,decide_false,Jj,Jk,Jl,eq_self,Za,Zb,Zc,Zd,Ze,Zf,Zg,Zh,Zi,Zj,Zk,Zl,Zm,Zn,Zo,Zp,Zq,Zr,Zs,Zt,Zu,Zv,Zw,Zx,Zy,Zz,ZA,ZB,ZC,ZD,ZE,ZF,ZG,ZH,ZI,ZJ,ZK,ZL,ZM,ZN,ZO,ZP,ZQ,ZR,ZS,ZT,ZU,ZV,ZW,ZX,ZY,ZZ,Z0,Z1,Z2,Z3,Z4,Z5,Z6,Z7,Z8,Z9,Ya,Yb,Yc,Yd,Ye,Yf,Yg,Yh,Yi,Yj,Yk,Yl,Ym,Yn,Yo,Yp,Yq,Yr,Ys,Yt,Yu,Yv,Yw,Yx,Yy,Yz,YA,YB,YC,YD,YE,YF,YG,YH,YI,YJ,YK,YL,YM,YN,YO,YP,YQ,YR,YS,YT,YU,YV,YW,YX,if_true,if_false,reduceIte,reduceCtorEq,YY,YZ,Y0,Y1,Y2,Y3,Y4,Y5,Y6,Y7,Y8,Y9,Ja,Jb,Jc,Jd,Je,Jf,Jg,Jh,or_true,and_true,true_and,and_self,Ji,cond_true,cond_false]
      rw [show decide (((0 : Nat) : Int) = 0) = true from rfl]
      simp only [J2,J3,J4,J5,decide_true,decide_false,Jj,Jk,Jl,eq_self,Za,Zb,Zc,Zd,Ze,Zf,Zg,Zh,Zi,Zj,Zk,Zl,Zm,Zn,Zo,Zp,Zq,Zr,Zs,Zt,Zu,Zv,Zw,Zx,Zy,Zz,ZA,ZB,ZC,ZD,ZE,ZF,ZG,ZH,ZI,ZJ,ZK,ZL,ZM,ZN,ZO,ZP,ZQ,ZR,ZS,ZT,ZU,ZV,ZW,ZX,ZY,ZZ,Z0,Z1,Z2,Z3,Z4,Z5,Z6,Z7,Z8,Z9,Ya,Yb,Yc,Yd,Ye,Yf,Yg,Yh,Yi,Yj,Yk,Yl,Ym,Yn,Yo,Yp,Yq,Yr,Ys,Yt,Yu,Yv,Yw,Yx,Yy,Yz,YA,YB,YC,YD,YE,YF,YG,YH,YI,YJ,YK,YL,YM,YN,YO,YP,YQ,YR,YS,YT,YU,YV,YW,YX,if_true,if_false,reduceIte,reduceCtorEq,YY,YZ,Y0,Y1,Y2,Y3,Y4,Y5,Y6,Y7,Y8,Y9,Ja,Jb,Jc,Jd,Je,Jf,Jg,Jh,or_true,and_true,true_and,and_self,Ji,cond_true,cond_false]
      refine fin_of [] ?_ ?_ ?_ ?_ <;> first | rfl | trivial | exact List.nodup_nil | skip
    have hwl := hp.length_eq
    have haf : forms a = true := order_forms (by rw [he])
    have hW : (orderL a).1 = W := by rw [he]
    refine call_is hC (order_spec a (by omega)) rfl (by exact ⟨rfl, ⟨_, rfl⟩, trivial⟩) ?_
    rw [he]
    simp only [JW,JX,JY,JZ,J0,YE,YW,YV,YR,YQ,YO,YP,Y6,YY,Y3,Y0,reduceIte,YM,YN,J1,if_false]
    try simp only [J2,J3,J4,J5,decide_true,decide_false,Jj,Jk,Jl,eq_self,Za,Zb,Zc,Zd,Ze,Zf,Zg,Zh,Zi,Zj,Zk,Zl,Zm,Zn,Zo,Zp,Zq,Zr,Zs,Zt,Zu,Zv,Zw,Zx,Zy,Zz,ZA,ZB,ZC,ZD,ZE,ZF,ZG,ZH,ZI,ZJ,ZK,ZL,ZM,ZN,ZO,ZP,ZQ,ZR,ZS,ZT,ZU,ZV,ZW,ZX,ZY,ZZ,Z0,Z1,Z2,Z3,Z4,Z5,Z6,Z7,Z8,Z9,Ya,Yb,Yc,Yd,Ye,Yf,Yg,Yh,Yi,Yj,Yk,Yl,Ym,Yn,Yo,Yp,Yq,Yr,Ys,Yt,Yu,Yv,Yw,Yx,Yy,Yz,YA,YB,YC,YD,YE,YF,YG,YH,YI,YJ,YK,YL,YM,YN,YO,YP,YQ,YR,YS,YT,YU,YV,YW,YX,if_true,if_false,reduceIte,reduceCtorEq,YY,YZ,Y0,Y1,Y2,Y3,Y4,Y5,Y6,Y7,Y8,Y9,Ja,Jb,Jc,Jd,Je,Jf,Jg,Jh,or_true,and_true,true_and,and_self,Ji,cond_true,cond_false]
    refine append_rule (c := .cell []) (d := .cell a) (by rw [hC]; exact tys_ok) rfl rfl rfl rfl rfl rfl trivial rfl ⟨_, rfl⟩ (by simp only [RowC.len, List.length_append, List.length_cons, List.length_nil]; omega) ?_
    simp only [J2,J3,J4,J5,decide_true,decide_false,Jj,Jk,Jl,eq_self,Za,Zb,Zc,Zd,Ze,Zf,Zg,Zh,Zi,Zj,Zk,Zl,Zm,Zn,Zo,Zp,Zq,Zr,Zs,Zt,Zu,Zv,Zw,Zx,Zy,Zz,ZA,ZB,ZC,ZD,ZE,ZF,ZG,ZH,ZI,ZJ,ZK,ZL,ZM,ZN,ZO,ZP,ZQ,ZR,ZS,ZT,ZU,ZV,ZW,ZX,ZY,ZZ,Z0,Z1,Z2,Z3,Z4,Z5,Z6,Z7,Z8,Z9,Ya,Yb,Yc,Yd,Ye,Yf,Yg,Yh,Yi,Yj,Yk,Yl,Ym,Yn,Yo,Yp,Yq,Yr,Ys,Yt,Yu,Yv,Yw,Yx,Yy,Yz,YA,YB,YC,YD,YE,YF,YG,YH,YI,YJ,YK,YL,YM,YN,YO,YP,YQ,YR,YS,YT,YU,YV,YW,YX,if_true,if_false,reduceIte,reduceCtorEq,YY,YZ,Y0,Y1,Y2,Y3,Y4,Y5,Y6,Y7,Y8,Y9,Ja,Jb,Jc,Jd,Je,Jf,Jg,Jh,or_true,and_true,true_and,and_self,Ji,cond_true,cond_false]
    refine loop_rule (wr := []) (by rw [hC]; exact tys_ok) (convF a W pk) (fun x => ConvI a x.d x.left x.late x.l ∧ x.n + x.left.length = a.length ∧ x.late.length ≤ x.n) (fun x => x.left.length) ⟨a, [], [], [], 0⟩ ⟨ConvI.start, by simp, Nat.le_refl _⟩ ?_ ?_
    · refine (nil_ent 7 33 (.cell []) rfl rfl).trans ?_
      refine (nil_ent 8 31 (.ids []) rfl rfl).trans ?_
      simp only [convF, convT, convH, upd, List.reduceReplicate, List.cons_append, List.nil_append]
      refine ent_of [(3, 4), (4, 5), (5, 6)] (by rw [hk]; simp) (by rw [hk]; simp) ?_ ?_ ?_
      · simp [entT, mp, mps, bd, bds, sg]
      · simp [entH, sg, get, mpC, mps, mp, bdC, bds, bd, inH]
      · simp [entI, inH, sg]
    · rintro ⟨left, late, l, d, n⟩ ⟨hI, hn, hla⟩
      simp only at hI hn hla
      have hlo := hI.ord
      have hll : l.length ≤ 40 := by
        have h1 := hlo.2.length_eq
        have h2 := hI.perm.length_eq
        simp only [List.length_map, List.length_append] at h1 h2
        omega
      simp only [convF, convT, convH, List.reduceReplicate, List.cons_append, List.nil_append]
      simp only [J2,J3,J4,J5,decide_true,decide_false,Jj,Jk,Jl,eq_self,Za,Zb,Zc,Zd,Ze,Zf,Zg,Zh,Zi,Zj,Zk,Zl,Zm,Zn,Zo,Zp,Zq,Zr,Zs,Zt,Zu,Zv,Zw,Zx,Zy,Zz,ZA,ZB,ZC,ZD,ZE,ZF,ZG,ZH,ZI,ZJ,ZK,ZL,ZM,ZN,ZO,ZP,ZQ,ZR,ZS,ZT,ZU,ZV,ZW,ZX,ZY,ZZ,Z0,Z1,Z2,Z3,Z4,Z5,Z6,Z7,Z8,Z9,Ya,Yb,Yc,Yd,Ye,Yf,Yg,Yh,Yi,Yj,Yk,Yl,Ym,Yn,Yo,Yp,Yq,Yr,Ys,Yt,Yu,Yv,Yw,Yx,Yy,Yz,YA,YB,YC,YD,YE,YF,YG,YH,YI,YJ,YK,YL,YM,YN,YO,YP,YQ,YR,YS,YT,YU,YV,YW,YX,if_true,if_false,reduceIte,reduceCtorEq,YY,YZ,Y0,Y1,Y2,Y3,Y4,Y5,Y6,Y7,Y8,Y9,Ja,Jb,Jc,Jd,Je,Jf,Jg,Jh,or_true,and_true,true_and,and_self,Ji,cond_true,cond_false]
      refine cond_split (fun h2 => ?_) (fun h2 => ?_)
      · have hm : 0 < left.length := by have := of_decide_eq_true h2; omega
        simp only [J2,J3,J4,J5,decide_true,decide_false,Jj,Jk,Jl,eq_self,Za,Zb,Zc,Zd,Ze,Zf,Zg,Zh,Zi,Zj,Zk,Zl,Zm,Zn,Zo,Zp,Zq,Zr,Zs,Zt,Zu,Zv,Zw,Zx,Zy,Zz,ZA,ZB,ZC,ZD,ZE,ZF,ZG,ZH,ZI,ZJ,ZK,ZL,ZM,ZN,ZO,ZP,ZQ,ZR,ZS,ZT,ZU,ZV,ZW,ZX,ZY,ZZ,Z0,Z1,Z2,Z3,Z4,Z5,Z6,Z7,Z8,Z9,Ya,Yb,Yc,Yd,Ye,Yf,Yg,Yh,Yi,Yj,Yk,Yl,Ym,Yn,Yo,Yp,Yq,Yr,Ys,Yt,Yu,Yv,Yw,Yx,Yy,Yz,YA,YB,YC,YD,YE,YF,YG,YH,YI,YJ,YK,YL,YM,YN,YO,YP,YQ,YR,YS,YT,YU,YV,YW,YX,if_true,if_false,reduceIte,reduceCtorEq,YY,YZ,Y0,Y1,Y2,Y3,Y4,Y5,Y6,Y7,Y8,Y9,Ja,Jb,Jc,Jd,Je,Jf,Jg,Jh,or_true,and_true,true_and,and_self,Ji,cond_true,cond_false]
        refine cond_split (fun h3 => ?_) (fun h3 => ?_)
        obtain ⟨at0, hku, hat0⟩ : ∃ k : Nat, pk.getD n 0 % (left.length : Int) = k ∧ k < left.length := by
          have h4 := Int.emod_nonneg (pk.getD n 0) (show (left.length : Int) ≠ 0 by omega)
          have h5 := Int.emod_lt_of_pos (pk.getD n 0) (show (0 : Int) < left.length by omega)
          exact ⟨(pk.getD n 0 % (left.length : Int)).toNat, by omega, by omega⟩
        have hpn := hpk n
        have hnl : n < pk.length := by have := of_decide_eq_true h3; omega
        simp only [J2,J3,J4,J5,decide_true,decide_false,Jj,Jk,Jl,eq_self,Za,Zb,Zc,Zd,Ze,Zf,Zg,Zh,Zi,Zj,Zk,Zl,Zm,Zn,Zo,Zp,Zq,Zr,Zs,Zt,Zu,Zv,Zw,Zx,Zy,Zz,ZA,ZB,ZC,ZD,ZE,ZF,ZG,ZH,ZI,ZJ,ZK,ZL,ZM,ZN,ZO,ZP,ZQ,ZR,ZS,ZT,ZU,ZV,ZW,ZX,ZY,ZZ,Z0,Z1,Z2,Z3,Z4,Z5,Z6,Z7,Z8,Z9,Ya,Yb,Yc,Yd,Ye,Yf,Yg,Yh,Yi,Yj,Yk,Yl,Ym,Yn,Yo,Yp,Yq,Yr,Ys,Yt,Yu,Yv,Yw,Yx,Yy,Yz,YA,YB,YC,YD,YE,YF,YG,YH,YI,YJ,YK,YL,YM,YN,YO,YP,YQ,YR,YS,YT,YU,YV,YW,YX,if_true,if_false,reduceIte,reduceCtorEq,YY,YZ,Y0,Y1,Y2,Y3,Y4,Y5,Y6,Y7,Y8,Y9,Ja,Jb,Jc,Jd,Je,Jf,Jg,Jh,or_true,and_true,true_and,and_self,Ji,cond_true,cond_false]
        rw [hku]
        repeat (refine And.intro (by omega) ?_)
        have hent : (((at0 + 0) % left.length : Nat) : Int) = (at0 : Int) := by rw [Nat.add_zero, Nat.mod_eq_of_lt hat0]
        rotate_left
        obtain ⟨at0, hat0, hat1⟩ : ∃ k : Nat, k < left.length ∧ k = 0 := ⟨0, hm, rfl⟩
        have hent : (((at0 + 0) % left.length : Nat) : Int) = 0 := by rw [hat1, Nat.zero_add, Nat.mod_eq_of_lt hm]; rfl
        simp only [J2,J3,J4,J5,decide_true,decide_false,Jj,Jk,Jl,eq_self,Za,Zb,Zc,Zd,Ze,Zf,Zg,Zh,Zi,Zj,Zk,Zl,Zm,Zn,Zo,Zp,Zq,Zr,Zs,Zt,Zu,Zv,Zw,Zx,Zy,Zz,ZA,ZB,ZC,ZD,ZE,ZF,ZG,ZH,ZI,ZJ,ZK,ZL,ZM,ZN,ZO,ZP,ZQ,ZR,ZS,ZT,ZU,ZV,ZW,ZX,ZY,ZZ,Z0,Z1,Z2,Z3,Z4,Z5,Z6,Z7,Z8,Z9,Ya,Yb,Yc,Yd,Ye,Yf,Yg,Yh,Yi,Yj,Yk,Yl,Ym,Yn,Yo,Yp,Yq,Yr,Ys,Yt,Yu,Yv,Yw,Yx,Yy,Yz,YA,YB,YC,YD,YE,YF,YG,YH,YI,YJ,YK,YL,YM,YN,YO,YP,YQ,YR,YS,YT,YU,YV,YW,YX,if_true,if_false,reduceIte,reduceCtorEq,YY,YZ,Y0,Y1,Y2,Y3,Y4,Y5,Y6,Y7,Y8,Y9,Ja,Jb,Jc,Jd,Je,Jf,Jg,Jh,or_true,and_true,true_and,and_self,Ji,cond_true,cond_false]
        rotate_left
        all_goals
          refine loop_rule (wr := []) (by rw [hC]; exact tys_ok) (seekF a W pk ⟨left, late, l, d, n⟩ at0) (fun j => j ≤ left.length ∧ ∀ i, i < j → ¬ canIn l (left.getD ((at0 + i) % left.length) default)) (fun j => left.length - j) 0 ⟨Nat.zero_le _, fun i hi => by omega⟩ ?_ ?_
          · simp only [seekF, convT, convH, hent, List.reduceReplicate, List.cons_append, List.nil_append]
            refine ent_of [] (by rw [hk]; simp) (by simp) (by simp [entT, mp, mps, bd, bds, sg]) (by simp [entH, sg, get, mpC, mps, mp, bdC, bds, bd, inH]) (by simp [entI, inH, sg])
          · rintro j ⟨hjl, hinv⟩
            simp only [seekF, convT, convH, List.reduceReplicate, List.cons_append, List.nil_append]
            simp only [J2,J3,J4,J5,decide_true,decide_false,Jj,Jk,Jl,eq_self,Za,Zb,Zc,Zd,Ze,Zf,Zg,Zh,Zi,Zj,Zk,Zl,Zm,Zn,Zo,Zp,Zq,Zr,Zs,Zt,Zu,Zv,Zw,Zx,Zy,Zz,ZA,ZB,ZC,ZD,ZE,ZF,ZG,ZH,ZI,ZJ,ZK,ZL,ZM,ZN,ZO,ZP,ZQ,ZR,ZS,ZT,ZU,ZV,ZW,ZX,ZY,ZZ,Z0,Z1,Z2,Z3,Z4,Z5,Z6,Z7,Z8,Z9,Ya,Yb,Yc,Yd,Ye,Yf,Yg,Yh,Yi,Yj,Yk,Yl,Ym,Yn,Yo,Yp,Yq,Yr,Ys,Yt,Yu,Yv,Yw,Yx,Yy,Yz,YA,YB,YC,YD,YE,YF,YG,YH,YI,YJ,YK,YL,YM,YN,YO,YP,YQ,YR,YS,YT,YU,YV,YW,YX,if_true,if_false,reduceIte,reduceCtorEq,YY,YZ,Y0,Y1,Y2,Y3,Y4,Y5,Y6,Y7,Y8,Y9,Ja,Jb,Jc,Jd,Je,Jf,Jg,Jh,or_true,and_true,true_and,and_self,Ji,cond_true,cond_false]
            refine cond_split (fun h6 => ?_) (fun h6 => ?_)
            · have hjm : j < left.length := by have := of_decide_eq_true h6; omega
              have hil : (at0 + j) % left.length < left.length := Nat.mod_lt _ hm
              have hnext : ((((at0 + j) % left.length : Nat) : Int) + 1) % (left.length : Int) = (((at0 + (j + 1)) % left.length : Nat) : Int) := by
                rw [Int.natCast_emod, Int.natCast_emod, Int.emod_add_emod]; congr 1
              generalize hie : (at0 + j) % left.length = i at *
              simp only [J2,J3,J4,J5,decide_true,decide_false,Jj,Jk,Jl,eq_self,Za,Zb,Zc,Zd,Ze,Zf,Zg,Zh,Zi,Zj,Zk,Zl,Zm,Zn,Zo,Zp,Zq,Zr,Zs,Zt,Zu,Zv,Zw,Zx,Zy,Zz,ZA,ZB,ZC,ZD,ZE,ZF,ZG,ZH,ZI,ZJ,ZK,ZL,ZM,ZN,ZO,ZP,ZQ,ZR,ZS,ZT,ZU,ZV,ZW,ZX,ZY,ZZ,Z0,Z1,Z2,Z3,Z4,Z5,Z6,Z7,Z8,Z9,Ya,Yb,Yc,Yd,Ye,Yf,Yg,Yh,Yi,Yj,Yk,Yl,Ym,Yn,Yo,Yp,Yq,Yr,Ys,Yt,Yu,Yv,Yw,Yx,Yy,Yz,YA,YB,YC,YD,YE,YF,YG,YH,YI,YJ,YK,YL,YM,YN,YO,YP,YQ,YR,YS,YT,YU,YV,YW,YX,if_true,if_false,reduceIte,reduceCtorEq,YY,YZ,Y0,Y1,Y2,Y3,Y4,Y5,Y6,Y7,Y8,Y9,Ja,Jb,Jc,Jd,Je,Jf,Jg,Jh,or_true,and_true,true_and,and_self,Ji,cond_true,cond_false]
              repeat (refine And.intro (by omega) ?_)
              by_cases hcan : canIn l (left.getD i default)
              · rcases Classical.em ((left.getD i default).after = zId) with hz | hz
                have hzd : decide ((left.getD i default).after = (⟨0, 0, 0⟩ : Id3)) = true := decide_eq_true hz
                obtain ⟨f1, f2, hfr⟩ : ∃ f1 f2, findR l (left.getD i default).after = (f1, f2) := ⟨_, _, rfl⟩
                refine call_is hC (find_spec l (left.getD i default).after (by omega)) rfl (by exact ⟨rfl, ⟨_, rfl⟩, rfl, plain_id _, trivial⟩) ?_
                rw [hfr]
                simp only [JW,JX,JY,JZ,J0,YE,YW,YV,YR,YQ,YO,YP,Y6,YY,Y3,Y0,reduceIte,YM,YN,J1,if_false]
                try simp only [J2,J3,J4,J5,decide_true,decide_false,Jj,Jk,Jl,eq_self,Za,Zb,Zc,Zd,Ze,Zf,Zg,Zh,Zi,Zj,Zk,Zl,Zm,Zn,Zo,Zp,Zq,Zr,Zs,Zt,Zu,Zv,Zw,Zx,Zy,Zz,ZA,ZB,ZC,ZD,ZE,ZF,ZG,ZH,ZI,ZJ,ZK,ZL,ZM,ZN,ZO,ZP,ZQ,ZR,ZS,ZT,ZU,ZV,ZW,ZX,ZY,ZZ,Z0,Z1,Z2,Z3,Z4,Z5,Z6,Z7,Z8,Z9,Ya,Yb,Yc,Yd,Ye,Yf,Yg,Yh,Yi,Yj,Yk,Yl,Ym,Yn,Yo,Yp,Yq,Yr,Ys,Yt,Yu,Yv,Yw,Yx,Yy,Yz,YA,YB,YC,YD,YE,YF,YG,YH,YI,YJ,YK,YL,YM,YN,YO,YP,YQ,YR,YS,YT,YU,YV,YW,YX,if_true,if_false,reduceIte,reduceCtorEq,YY,YZ,Y0,Y1,Y2,Y3,Y4,Y5,Y6,Y7,Y8,Y9,Ja,Jb,Jc,Jd,Je,Jf,Jg,Jh,or_true,and_true,true_and,and_self,Ji,cond_true,cond_false]
                simp only [hzd]
                simp only [J2,J3,J4,J5,decide_true,decide_false,Jj,Jk,Jl,eq_self,Za,Zb,Zc,Zd,Ze,Zf,Zg,Zh,Zi,Zj,Zk,Zl,Zm,Zn,Zo,Zp,Zq,Zr,Zs,Zt,Zu,Zv,Zw,Zx,Zy,Zz,ZA,ZB,ZC,ZD,ZE,ZF,ZG,ZH,ZI,ZJ,ZK,ZL,ZM,ZN,ZO,ZP,ZQ,ZR,ZS,ZT,ZU,ZV,ZW,ZX,ZY,ZZ,Z0,Z1,Z2,Z3,Z4,Z5,Z6,Z7,Z8,Z9,Ya,Yb,Yc,Yd,Ye,Yf,Yg,Yh,Yi,Yj,Yk,Yl,Ym,Yn,Yo,Yp,Yq,Yr,Ys,Yt,Yu,Yv,Yw,Yx,Yy,Yz,YA,YB,YC,YD,YE,YF,YG,YH,YI,YJ,YK,YL,YM,YN,YO,YP,YQ,YR,YS,YT,YU,YV,YW,YX,if_true,if_false,reduceIte,reduceCtorEq,YY,YZ,Y0,Y1,Y2,Y3,Y4,Y5,Y6,Y7,Y8,Y9,Ja,Jb,Jc,Jd,Je,Jf,Jg,Jh,or_true,and_true,true_and,and_self,Ji,cond_true,cond_false]
                rotate_left
                have hzd : decide ((left.getD i default).after = (⟨0, 0, 0⟩ : Id3)) = false := decide_eq_false hz
                obtain ⟨k, hfk⟩ := findL_isSome (hcan.resolve_left hz)
                have hfr := findR_some hfk
                refine call_is hC (find_spec l (left.getD i default).after (by omega)) rfl (by exact ⟨rfl, ⟨_, rfl⟩, rfl, plain_id _, trivial⟩) ?_
                rw [hfr]
                simp only [JW,JX,JY,JZ,J0,YE,YW,YV,YR,YQ,YO,YP,Y6,YY,Y3,Y0,reduceIte,YM,YN,J1,if_false]
                try simp only [J2,J3,J4,J5,decide_true,decide_false,Jj,Jk,Jl,eq_self,Za,Zb,Zc,Zd,Ze,Zf,Zg,Zh,Zi,Zj,Zk,Zl,Zm,Zn,Zo,Zp,Zq,Zr,Zs,Zt,Zu,Zv,Zw,Zx,Zy,Zz,ZA,ZB,ZC,ZD,ZE,ZF,ZG,ZH,ZI,ZJ,ZK,ZL,ZM,ZN,ZO,ZP,ZQ,ZR,ZS,ZT,ZU,ZV,ZW,ZX,ZY,ZZ,Z0,Z1,Z2,Z3,Z4,Z5,Z6,Z7,Z8,Z9,Ya,Yb,Yc,Yd,Ye,Yf,Yg,Yh,Yi,Yj,Yk,Yl,Ym,Yn,Yo,Yp,Yq,Yr,Ys,Yt,Yu,Yv,Yw,Yx,Yy,Yz,YA,YB,YC,YD,YE,YF,YG,YH,YI,YJ,YK,YL,YM,YN,YO,YP,YQ,YR,YS,YT,YU,YV,YW,YX,if_true,if_false,reduceIte,reduceCtorEq,YY,YZ,Y0,Y1,Y2,Y3,Y4,Y5,Y6,Y7,Y8,Y9,Ja,Jb,Jc,Jd,Je,Jf,Jg,Jh,or_true,and_true,true_and,and_self,Ji,cond_true,cond_false]
                simp only [hzd]
                simp only [J2,J3,J4,J5,decide_true,decide_false,Jj,Jk,Jl,eq_self,Za,Zb,Zc,Zd,Ze,Zf,Zg,Zh,Zi,Zj,Zk,Zl,Zm,Zn,Zo,Zp,Zq,Zr,Zs,Zt,Zu,Zv,Zw,Zx,Zy,Zz,ZA,ZB,ZC,ZD,ZE,ZF,ZG,ZH,ZI,ZJ,ZK,ZL,ZM,ZN,ZO,ZP,ZQ,ZR,ZS,ZT,ZU,ZV,ZW,ZX,ZY,ZZ,Z0,Z1,Z2,Z3,Z4,Z5,Z6,Z7,Z8,Z9,Ya,Yb,Yc,Yd,Ye,Yf,Yg,Yh,Yi,Yj,Yk,Yl,Ym,Yn,Yo,Yp,Yq,Yr,Ys,Yt,Yu,Yv,Yw,Yx,Yy,Yz,YA,YB,YC,YD,YE,YF,YG,YH,YI,YJ,YK,YL,YM,YN,YO,YP,YQ,YR,YS,YT,YU,YV,YW,YX,if_true,if_false,reduceIte,reduceCtorEq,YY,YZ,Y0,Y1,Y2,Y3,Y4,Y5,Y6,Y7,Y8,Y9,Ja,Jb,Jc,Jd,Je,Jf,Jg,Jh,or_true,and_true,true_and,and_self,Ji,cond_true,cond_false]
                rotate_left
                all_goals
                  obtain ⟨s, c, t, hst, hsl⟩ : ∃ s c t, left = s ++ c :: t ∧ s.length = i :=
                    ⟨left.take i, left[i], left.drop (i + 1), by rw [← List.drop_eq_getElem_cons hil, List.take_append_drop], by simp; omega⟩
                  have hgc : left.getD i default = c := by rw [hst, ← hsl]; simp
                  rw [hgc] at hcan ⊢
                  repeat (refine And.intro (by omega) ?_)
                  refine draw_tail (wr := []) hC tys_ok (by kernel_rfl) 7 (by kernel_rfl) ?_
                  simp only [J2,J3,J4,J5,Jm,Jn,Jo,Jp,Jq,Jr,Js,Jt,Ju,Jv,Jw,Jx,Jy,Jz,JA,JB,JC,JD,JE,Za,Zb,Zc,Zd,Ze,Zf,Zg,Zh,Zi,Zj,Zk,Zl,Zm,Zn,Zo,Zp,Zq,Zr,Zs,Zt,Zu,Zv,Zw,Zx,Zy,Zz,ZA,ZB,ZC,ZD,ZE,ZF,ZG,ZH,ZI,ZJ,ZK,ZL,ZM,ZN,ZO,ZP,ZQ,ZR,ZS,ZT,ZU,ZV,ZW,ZX,ZY,ZZ,Z0,Z1,Z2,Z3,Z4,Z5,Z6,Z7,Z8,Z9,Ya,Yb,Yc,Yd,Ye,Yf,Yg,Yh,Yi,Yj,Yk,Yl,Ym,Yn,Yo,Yp,Yq,Yr,Ys,Yt,Yu,Yv,Yw,Yx,Yy,Yz,YA,YB,YC,YD,YE,YF,YG,YH,YI,YJ,YK,YL,YM,YN,YO,YP,YQ,YR,YS,YT,YU,YV,YW,YX,if_true,if_false,reduceIte,reduceCtorEq,YY,YZ,Y0,Y1,Y2,Y3,Y4,Y5,Y6,Y7,Y8,Y9,Ja,Jb,Jc,Jd,Je,Jf,Jg,Jh,or_true,and_true,true_and,and_self,Ji,cond_true,cond_false]
                  have e1 : ((i : Int) + 1).toNat = i + 1 := by omega
                  have htk : left.take i = s := by rw [hst, ← hsl]; simp
                  have hlt2 : left.length = s.length + t.length + 1 := by rw [hst]; simp; omega
                  repeat (refine And.intro (by omega) ?_)
                  simp only [e1, Int.toNat_natCast]
                  refine del_rule (c := .cell left) (d := .cell t) (by rw [hC]; exact tys_ok) rfl rfl rfl rfl rfl rfl trivial rfl rfl (by simp only [RowC.len]; omega) ⟨_, _, rfl, by simp only [RowC.len]; omega, by simp only [RowC.len]; omega, rfl, fun j hj => by rw [hst, ← hsl]; exact sl_behind s t c j hj⟩ (by simp only [RowC.len]; omega) ?_
                  simp only [RowC.take, RowC.ap, Nat.sub_zero, htk]
                  rw [hst] at hI
                  have hcd : canIn d c := (hI.can c).1 hcan
                  obtain ⟨x, hins, hxl, hno, hgo⟩ := hI.step haf hcd
                  simp only [J2,J3,J4,J5,decide_true,decide_false,Jj,Jk,Jl,eq_self,Za,Zb,Zc,Zd,Ze,Zf,Zg,Zh,Zi,Zj,Zk,Zl,Zm,Zn,Zo,Zp,Zq,Zr,Zs,Zt,Zu,Zv,Zw,Zx,Zy,Zz,ZA,ZB,ZC,ZD,ZE,ZF,ZG,ZH,ZI,ZJ,ZK,ZL,ZM,ZN,ZO,ZP,ZQ,ZR,ZS,ZT,ZU,ZV,ZW,ZX,ZY,ZZ,Z0,Z1,Z2,Z3,Z4,Z5,Z6,Z7,Z8,Z9,Ya,Yb,Yc,Yd,Ye,Yf,Yg,Yh,Yi,Yj,Yk,Yl,Ym,Yn,Yo,Yp,Yq,Yr,Ys,Yt,Yu,Yv,Yw,Yx,Yy,Yz,YA,YB,YC,YD,YE,YF,YG,YH,YI,YJ,YK,YL,YM,YN,YO,YP,YQ,YR,YS,YT,YU,YV,YW,YX,if_true,if_false,reduceIte,reduceCtorEq,YY,YZ,Y0,Y1,Y2,Y3,Y4,Y5,Y6,Y7,Y8,Y9,Ja,Jb,Jc,Jd,Je,Jf,Jg,Jh,or_true,and_true,true_and,and_self,Ji,cond_true,cond_false]
                  refine call_is hC (insert_spec l { c with gone := false } (by omega)) rfl (by exact ⟨rfl, ⟨_, rfl⟩, rfl, plain_cell _, trivial⟩) ?_
                  rw [hins]
                  simp only [JW,JX,JY,JZ,J0,YE,YW,YV,YR,YQ,YO,YP,Y6,YY,Y3,Y0,reduceIte,YM,YN,J1,if_false]
                  try simp only [J2,J3,J4,J5,decide_true,decide_false,Jj,Jk,Jl,eq_self,Za,Zb,Zc,Zd,Ze,Zf,Zg,Zh,Zi,Zj,Zk,Zl,Zm,Zn,Zo,Zp,Zq,Zr,Zs,Zt,Zu,Zv,Zw,Zx,Zy,Zz,ZA,ZB,ZC,ZD,ZE,ZF,ZG,ZH,ZI,ZJ,ZK,ZL,ZM,ZN,ZO,ZP,ZQ,ZR,ZS,ZT,ZU,ZV,ZW,ZX,ZY,ZZ,Z0,Z1,Z2,Z3,Z4,Z5,Z6,Z7,Z8,Z9,Ya,Yb,Yc,Yd,Ye,Yf,Yg,Yh,Yi,Yj,Yk,Yl,Ym,Yn,Yo,Yp,Yq,Yr,Ys,Yt,Yu,Yv,Yw,Yx,Yy,Yz,YA,YB,YC,YD,YE,YF,YG,YH,YI,YJ,YK,YL,YM,YN,YO,YP,YQ,YR,YS,YT,YU,YV,YW,YX,if_true,if_false,reduceIte,reduceCtorEq,YY,YZ,Y0,Y1,Y2,Y3,Y4,Y5,Y6,Y7,Y8,Y9,Ja,Jb,Jc,Jd,Je,Jf,Jg,Jh,or_true,and_true,true_and,and_self,Ji,cond_true,cond_false]
                  have hxd : decide ((x.length : Int) = (l.length : Int) + 1) = true := decide_eq_true (by omega)
                  repeat (refine And.intro (by omega) ?_)
                  simp only [hxd]
                  simp only [J2,J3,J4,J5,decide_true,decide_false,Jj,Jk,Jl,eq_self,Za,Zb,Zc,Zd,Ze,Zf,Zg,Zh,Zi,Zj,Zk,Zl,Zm,Zn,Zo,Zp,Zq,Zr,Zs,Zt,Zu,Zv,Zw,Zx,Zy,Zz,ZA,ZB,ZC,ZD,ZE,ZF,ZG,ZH,ZI,ZJ,ZK,ZL,ZM,ZN,ZO,ZP,ZQ,ZR,ZS,ZT,ZU,ZV,ZW,ZX,ZY,ZZ,Z0,Z1,Z2,Z3,Z4,Z5,Z6,Z7,Z8,Z9,Ya,Yb,Yc,Yd,Ye,Yf,Yg,Yh,Yi,Yj,Yk,Yl,Ym,Yn,Yo,Yp,Yq,Yr,Ys,Yt,Yu,Yv,Yw,Yx,Yy,Yz,YA,YB,YC,YD,YE,YF,YG,YH,YI,YJ,YK,YL,YM,YN,YO,YP,YQ,YR,YS,YT,YU,YV,YW,YX,if_true,if_false,reduceIte,reduceCtorEq,YY,YZ,Y0,Y1,Y2,Y3,Y4,Y5,Y6,Y7,Y8,Y9,Ja,Jb,Jc,Jd,Je,Jf,Jg,Jh,or_true,and_true,true_and,and_self,Ji,cond_true,cond_false]
                  have hst2 : (s ++ t).length = s.length + t.length := List.length_append
                  have hxl2 : x.length ≤ 40 := by
                    have h1 := hlo.2.length_eq
                    have h2' := hI.perm.length_eq
                    simp only [List.length_map, List.length_append, List.length_cons] at h1 h2'
                    omega
                  cases hg : c.gone with
                  | false =>
                    simp only [J2,J3,J4,J5,decide_true,decide_false,Jj,Jk,Jl,eq_self,Za,Zb,Zc,Zd,Ze,Zf,Zg,Zh,Zi,Zj,Zk,Zl,Zm,Zn,Zo,Zp,Zq,Zr,Zs,Zt,Zu,Zv,Zw,Zx,Zy,Zz,ZA,ZB,ZC,ZD,ZE,ZF,ZG,ZH,ZI,ZJ,ZK,ZL,ZM,ZN,ZO,ZP,ZQ,ZR,ZS,ZT,ZU,ZV,ZW,ZX,ZY,ZZ,Z0,Z1,Z2,Z3,Z4,Z5,Z6,Z7,Z8,Z9,Ya,Yb,Yc,Yd,Ye,Yf,Yg,Yh,Yi,Yj,Yk,Yl,Ym,Yn,Yo,Yp,Yq,Yr,Ys,Yt,Yu,Yv,Yw,Yx,Yy,Yz,YA,YB,YC,YD,YE,YF,YG,YH,YI,YJ,YK,YL,YM,YN,YO,YP,YQ,YR,YS,YT,YU,YV,YW,YX,if_true,if_false,reduceIte,reduceCtorEq,YY,YZ,Y0,Y1,Y2,Y3,Y4,Y5,Y6,Y7,Y8,Y9,Ja,Jb,Jc,Jd,Je,Jf,Jg,Jh,or_true,and_true,true_and,and_self,Ji,cond_true,cond_false]
                    repeat (refine And.intro (by omega) ?_)
                    refine ⟨⟨s ++ t, late, x, d ++ [c], n + 1⟩, ⟨hno hg, by simp only; omega, by simp only; omega⟩, by simp only; omega, ?_⟩
                    simp only [convF, convT, convH, List.reduceReplicate, List.cons_append, List.nil_append]
                    refine ent_of [(3, 8), (4, 9)] (by rw [hk]; simp) (by rw [hk]; simp) ?_ ?_ ?_
                    · simp [entT, mp, mps, bd, bds, sg]
                    · simp [entH, sg, get, mpC, mps, mp, bdC, bds, bd, inH]
                    · simp [entI, inH, sg]
                  | true =>
                    obtain ⟨hI2, y, hey, hI3⟩ := hgo hg
                    simp only [J2,J3,J4,J5,decide_true,decide_false,Jj,Jk,Jl,eq_self,Za,Zb,Zc,Zd,Ze,Zf,Zg,Zh,Zi,Zj,Zk,Zl,Zm,Zn,Zo,Zp,Zq,Zr,Zs,Zt,Zu,Zv,Zw,Zx,Zy,Zz,ZA,ZB,ZC,ZD,ZE,ZF,ZG,ZH,ZI,ZJ,ZK,ZL,ZM,ZN,ZO,ZP,ZQ,ZR,ZS,ZT,ZU,ZV,ZW,ZX,ZY,ZZ,Z0,Z1,Z2,Z3,Z4,Z5,Z6,Z7,Z8,Z9,Ya,Yb,Yc,Yd,Ye,Yf,Yg,Yh,Yi,Yj,Yk,Yl,Ym,Yn,Yo,Yp,Yq,Yr,Ys,Yt,Yu,Yv,Yw,Yx,Yy,Yz,YA,YB,YC,YD,YE,YF,YG,YH,YI,YJ,YK,YL,YM,YN,YO,YP,YQ,YR,YS,YT,YU,YV,YW,YX,if_true,if_false,reduceIte,reduceCtorEq,YY,YZ,Y0,Y1,Y2,Y3,Y4,Y5,Y6,Y7,Y8,Y9,Ja,Jb,Jc,Jd,Je,Jf,Jg,Jh,or_true,and_true,true_and,and_self,Ji,cond_true,cond_false]
                    repeat (refine And.intro (by omega) ?_)
                    refine cond_split (fun h7 => ?_) (fun h7 => ?_)
                    · simp only [J2,J3,J4,J5,decide_true,decide_false,Jj,Jk,Jl,eq_self,Za,Zb,Zc,Zd,Ze,Zf,Zg,Zh,Zi,Zj,Zk,Zl,Zm,Zn,Zo,Zp,Zq,Zr,Zs,Zt,Zu,Zv,Zw,Zx,Zy,Zz,ZA,ZB,ZC,ZD,ZE,ZF,ZG,ZH,ZI,ZJ,ZK,ZL,ZM,ZN,ZO,ZP,ZQ,ZR,ZS,ZT,ZU,ZV,ZW,ZX,ZY,ZZ,Z0,Z1,Z2,Z3,Z4,Z5,Z6,Z7,Z8,Z9,Ya,Yb,Yc,Yd,Ye,Yf,Yg,Yh,Yi,Yj,Yk,Yl,Ym,Yn,Yo,Yp,Yq,Yr,Ys,Yt,Yu,Yv,Yw,Yx,Yy,Yz,YA,YB,YC,YD,YE,YF,YG,YH,YI,YJ,YK,YL,YM,YN,YO,YP,YQ,YR,YS,YT,YU,YV,YW,YX,if_true,if_false,reduceIte,reduceCtorEq,YY,YZ,Y0,Y1,Y2,Y3,Y4,Y5,Y6,Y7,Y8,Y9,Ja,Jb,Jc,Jd,Je,Jf,Jg,Jh,or_true,and_true,true_and,and_self,Ji,cond_true,cond_false]
                      refine append_rule (c := .ids late) (d := .ids [c.id]) (by rw [hC]; exact tys_ok) rfl rfl rfl rfl rfl rfl trivial rfl ⟨_, rfl⟩ (by simp only [RowC.len, List.length_append, List.length_cons, List.length_nil]; omega) ?_
                      simp only [J2,J3,J4,J5,decide_true,decide_false,Jj,Jk,Jl,eq_self,Za,Zb,Zc,Zd,Ze,Zf,Zg,Zh,Zi,Zj,Zk,Zl,Zm,Zn,Zo,Zp,Zq,Zr,Zs,Zt,Zu,Zv,Zw,Zx,Zy,Zz,ZA,ZB,ZC,ZD,ZE,ZF,ZG,ZH,ZI,ZJ,ZK,ZL,ZM,ZN,ZO,ZP,ZQ,ZR,ZS,ZT,ZU,ZV,ZW,ZX,ZY,ZZ,Z0,Z1,Z2,Z3,Z4,Z5,Z6,Z7,Z8,Z9,Ya,Yb,Yc,Yd,Ye,Yf,Yg,Yh,Yi,Yj,Yk,Yl,Ym,Yn,Yo,Yp,Yq,Yr,Ys,Yt,Yu,Yv,Yw,Yx,Yy,Yz,YA,YB,YC,YD,YE,YF,YG,YH,YI,YJ,YK,YL,YM,YN,YO,YP,YQ,YR,YS,YT,YU,YV,YW,YX,if_true,if_false,reduceIte,reduceCtorEq,YY,YZ,Y0,Y1,Y2,Y3,Y4,Y5,Y6,Y7,Y8,Y9,Ja,Jb,Jc,Jd,Je,Jf,Jg,Jh,or_true,and_true,true_and,and_self,Ji,cond_true,cond_false]
                      repeat (refine And.intro (by omega) ?_)
                      refine ⟨⟨s ++ t, late ++ [c.id], x, d ++ [c], n + 1⟩, ⟨hI2, by simp only; omega, by simp only [List.length_append, List.length_cons, List.length_nil]; omega⟩, by simp only; omega, ?_⟩
                      simp only [convF, convT, convH, List.reduceReplicate, List.cons_append, List.nil_append]
                      refine ent_of [(3, 8), (4, 9), (5, 11)] (by rw [hk]; simp) (by rw [hk]; simp) ?_ ?_ ?_
                      · simp [entT, mp, mps, bd, bds, sg]
                      · simp [entH, sg, get, mpC, mps, mp, bdC, bds, bd, inH]
                      · simp [entI, inH, sg]
                    · simp only [J2,J3,J4,J5,decide_true,decide_false,Jj,Jk,Jl,eq_self,Za,Zb,Zc,Zd,Ze,Zf,Zg,Zh,Zi,Zj,Zk,Zl,Zm,Zn,Zo,Zp,Zq,Zr,Zs,Zt,Zu,Zv,Zw,Zx,Zy,Zz,ZA,ZB,ZC,ZD,ZE,ZF,ZG,ZH,ZI,ZJ,ZK,ZL,ZM,ZN,ZO,ZP,ZQ,ZR,ZS,ZT,ZU,ZV,ZW,ZX,ZY,ZZ,Z0,Z1,Z2,Z3,Z4,Z5,Z6,Z7,Z8,Z9,Ya,Yb,Yc,Yd,Ye,Yf,Yg,Yh,Yi,Yj,Yk,Yl,Ym,Yn,Yo,Yp,Yq,Yr,Ys,Yt,Yu,Yv,Yw,Yx,Yy,Yz,YA,YB,YC,YD,YE,YF,YG,YH,YI,YJ,YK,YL,YM,YN,YO,YP,YQ,YR,YS,YT,YU,YV,YW,YX,if_true,if_false,reduceIte,reduceCtorEq,YY,YZ,Y0,Y1,Y2,Y3,Y4,Y5,Y6,Y7,Y8,Y9,Ja,Jb,Jc,Jd,Je,Jf,Jg,Jh,or_true,and_true,true_and,and_self,Ji,cond_true,cond_false]
                      refine call_is hC (erase_spec x c.id (by omega)) rfl (by exact ⟨rfl, ⟨_, rfl⟩, rfl, plain_id _, trivial⟩) ?_
                      rw [hey]
                      simp only [JW,JX,JY,JZ,J0,YE,YW,YV,YR,YQ,YO,YP,Y6,YY,Y3,Y0,reduceIte,YM,YN,J1,if_false]
                      try simp only [J2,J3,J4,J5,decide_true,decide_false,Jj,Jk,Jl,eq_self,Za,Zb,Zc,Zd,Ze,Zf,Zg,Zh,Zi,Zj,Zk,Zl,Zm,Zn,Zo,Zp,Zq,Zr,Zs,Zt,Zu,Zv,Zw,Zx,Zy,Zz,ZA,ZB,ZC,ZD,ZE,ZF,ZG,ZH,ZI,ZJ,ZK,ZL,ZM,ZN,ZO,ZP,ZQ,ZR,ZS,ZT,ZU,ZV,ZW,ZX,ZY,ZZ,Z0,Z1,Z2,Z3,Z4,Z5,Z6,Z7,Z8,Z9,Ya,Yb,Yc,Yd,Ye,Yf,Yg,Yh,Yi,Yj,Yk,Yl,Ym,Yn,Yo,Yp,Yq,Yr,Ys,Yt,Yu,Yv,Yw,Yx,Yy,Yz,YA,YB,YC,YD,YE,YF,YG,YH,YI,YJ,YK,YL,YM,YN,YO,YP,YQ,YR,YS,YT,YU,YV,YW,YX,if_true,if_false,reduceIte,reduceCtorEq,YY,YZ,Y0,Y1,Y2,Y3,Y4,Y5,Y6,Y7,Y8,Y9,Ja,Jb,Jc,Jd,Je,Jf,Jg,Jh,or_true,and_true,true_and,and_self,Ji,cond_true,cond_false]
                      repeat (refine And.intro (by omega) ?_)
                      refine ⟨⟨s ++ t, late, y, d ++ [c], n + 1⟩, ⟨hI3, by simp only; omega, by simp only; omega⟩, by simp only; omega, ?_⟩
                      simp only [convF, convT, convH, List.reduceReplicate, List.cons_append, List.nil_append]
                      refine ent_of [(3, 8), (4, 10)] (by rw [hk]; simp) (by rw [hk]; simp) ?_ ?_ ?_
                      · simp [entT, mp, mps, bd, bds, sg]
                      · simp [entH, sg, get, mpC, mps, mp, bdC, bds, bd, inH]
                      · simp [entI, inH, sg]
              · have hz : ¬ (left.getD i default).after = zId := fun h => hcan (.inl h)
                have hfn := findR_none ((findL_none_iff l (left.getD i default).after).2 fun h => hcan (.inr h))
                have hzd : decide ((left.getD i default).after = (⟨0, 0, 0⟩ : Id3)) = false := decide_eq_false hz
                refine call_is hC (find_spec l (left.getD i default).after (by omega)) rfl (by exact ⟨rfl, ⟨_, rfl⟩, rfl, plain_id _, trivial⟩) ?_
                rw [hfn]
                simp only [JW,JX,JY,JZ,J0,YE,YW,YV,YR,YQ,YO,YP,Y6,YY,Y3,Y0,reduceIte,YM,YN,J1,if_false]
                try simp only [J2,J3,J4,J5,decide_true,decide_false,Jj,Jk,Jl,eq_self,Za,Zb,Zc,Zd,Ze,Zf,Zg,Zh,Zi,Zj,Zk,Zl,Zm,Zn,Zo,Zp,Zq,Zr,Zs,Zt,Zu,Zv,Zw,Zx,Zy,Zz,ZA,ZB,ZC,ZD,ZE,ZF,ZG,ZH,ZI,ZJ,ZK,ZL,ZM,ZN,ZO,ZP,ZQ,ZR,ZS,ZT,ZU,ZV,ZW,ZX,ZY,ZZ,Z0,Z1,Z2,Z3,Z4,Z5,Z6,Z7,Z8,Z9,Ya,Yb,Yc,Yd,Ye,Yf,Yg,Yh,Yi,Yj,Yk,Yl,Ym,Yn,Yo,Yp,Yq,Yr,Ys,Yt,Yu,Yv,Yw,Yx,Yy,Yz,YA,YB,YC,YD,YE,YF,YG,YH,YI,YJ,YK,YL,YM,YN,YO,YP,YQ,YR,YS,YT,YU,YV,YW,YX,if_true,if_false,reduceIte,reduceCtorEq,YY,YZ,Y0,Y1,Y2,Y3,Y4,Y5,Y6,Y7,Y8,Y9,Ja,Jb,Jc,Jd,Je,Jf,Jg,Jh,or_true,and_true,true_and,and_self,Ji,cond_true,cond_false]
                simp only [hzd]
                simp only [J2,J3,J4,J5,decide_true,decide_false,Jj,Jk,Jl,eq_self,Za,Zb,Zc,Zd,Ze,Zf,Zg,Zh,Zi,Zj,Zk,Zl,Zm,Zn,Zo,Zp,Zq,Zr,Zs,Zt,Zu,Zv,Zw,Zx,Zy,Zz,ZA,ZB,ZC,ZD,ZE,ZF,ZG,ZH,ZI,ZJ,ZK,ZL,ZM,ZN,ZO,ZP,ZQ,ZR,ZS,ZT,ZU,ZV,ZW,ZX,ZY,ZZ,Z0,Z1,Z2,Z3,Z4,Z5,Z6,Z7,Z8,Z9,Ya,Yb,Yc,Yd,Ye,Yf,Yg,Yh,Yi,Yj,Yk,Yl,Ym,Yn,Yo,Yp,Yq,Yr,Ys,Yt,Yu,Yv,Yw,Yx,Yy,Yz,YA,YB,YC,YD,YE,YF,YG,YH,YI,YJ,YK,YL,YM,YN,YO,YP,YQ,YR,YS,YT,YU,YV,YW,YX,if_true,if_false,reduceIte,reduceCtorEq,YY,YZ,Y0,Y1,Y2,Y3,Y4,Y5,Y6,Y7,Y8,Y9,Ja,Jb,Jc,Jd,Je,Jf,Jg,Jh,or_true,and_true,true_and,and_self,Ji,cond_true,cond_false]
                rw [hnext]
                repeat (refine And.intro (by omega) ?_)
                refine ⟨j + 1, ⟨hjm, fun k hk2 => ?_⟩, by omega, ?_⟩
                · rcases Nat.lt_or_ge k j with d1 | d1
                  · exact hinv k d1
                  · obtain rfl : k = j := by omega
                    rw [hie]; exact hcan
                · simp only [seekF, convT, convH, List.reduceReplicate, List.cons_append, List.nil_append]
                  refine ent_of [] (by rw [hk]; simp) (by simp) (by simp [entT, mp, mps, bd, bds, sg]) (by simp [entH, sg, get, mpC, mps, mp, bdC, bds, bd, inH]) (by simp [entI, inH, sg])
            · exfalso
              obtain rfl : j = left.length := by have := of_decide_eq_false h6; omega
              obtain ⟨c0, hc0⟩ : ∃ c0, c0 ∈ left := by
                cases left with
                | nil => simp at hm
                | cons x xs => exact ⟨x, List.mem_cons_self⟩
              obtain ⟨c', hc', hcn⟩ := some_can haf hI.perm hc0
              obtain ⟨k, hk1, rfl⟩ := List.mem_iff_getElem.1 hc'
              refine hinv ((k + left.length - at0) % left.length) (Nat.mod_lt _ hm) ?_
              have e : (at0 + (k + left.length - at0) % left.length) % left.length = k := by
                rw [Nat.add_mod_mod, show at0 + (k + left.length - at0) = k + left.length by omega, Nat.add_mod_right, Nat.mod_eq_of_lt hk1]
              rw [e, hI.can]
              simpa [List.getD, hk1] using hcn
      · have h0 : left.length = 0 := by have := of_decide_eq_false h2; omega
        obtain rfl := List.length_eq_zero_iff.1 h0
        simp only [J2,J3,J4,J5,decide_true,decide_false,Jj,Jk,Jl,eq_self,Za,Zb,Zc,Zd,Ze,Zf,Zg,Zh,Zi,Zj,Zk,Zl,Zm,Zn,Zo,Zp,Zq,Zr,Zs,Zt,Zu,Zv,Zw,Zx,Zy,Zz,ZA,ZB,ZC,ZD,ZE,ZF,ZG,ZH,ZI,ZJ,ZK,ZL,ZM,ZN,ZO,ZP,ZQ,ZR,ZS,ZT,ZU,ZV,ZW,ZX,ZY,ZZ,Z0,Z1,Z2,Z3,Z4,Z5,Z6,Z7,Z8,Z9,Ya,Yb,Yc,Yd,Ye,Yf,Yg,Yh,Yi,Yj,Yk,Yl,Ym,Yn,Yo,Yp,Yq,Yr,Ys,Yt,Yu,Yv,Yw,Yx,Yy,Yz,YA,YB,YC,YD,YE,YF,YG,YH,YI,YJ,YK,YL,YM,YN,YO,YP,YQ,YR,YS,YT,YU,YV,YW,YX,if_true,if_false,reduceIte,reduceCtorEq,YY,YZ,Y0,Y1,Y2,Y3,Y4,Y5,Y6,Y7,Y8,Y9,Ja,Jb,Jc,Jd,Je,Jf,Jg,Jh,or_true,and_true,true_and,and_self,Ji,cond_true,cond_false]
        have hlt := conv_late haf hI
        rw [hW] at hlt
        have hlen40 : late.length ≤ 40 := by omega
        refine loop_rule (wr := []) (by rw [hC]; exact tys_ok) (lateF a W pk late) (fun i => i ≤ late.length) (fun i => late.length - i) 0 (Nat.zero_le _) ?_ ?_
        · simp only [lateF, List.drop_zero, ← hlt, List.reduceReplicate, List.cons_append, List.nil_append]
          refine ent_of [] (by rw [hk]; simp) (by simp) (by simp [entT, mp, mps, bd, bds, sg]) (by simp [entH, sg, get, mpC, mps, mp, bdC, bds, bd, inH]) (by simp [entI, inH, sg])
        · rintro i hil
          simp only [lateF, List.reduceReplicate, List.cons_append, List.nil_append]
          simp only [J2,J3,J4,J5,decide_true,decide_false,Jj,Jk,Jl,eq_self,Za,Zb,Zc,Zd,Ze,Zf,Zg,Zh,Zi,Zj,Zk,Zl,Zm,Zn,Zo,Zp,Zq,Zr,Zs,Zt,Zu,Zv,Zw,Zx,Zy,Zz,ZA,ZB,ZC,ZD,ZE,ZF,ZG,ZH,ZI,ZJ,ZK,ZL,ZM,ZN,ZO,ZP,ZQ,ZR,ZS,ZT,ZU,ZV,ZW,ZX,ZY,ZZ,Z0,Z1,Z2,Z3,Z4,Z5,Z6,Z7,Z8,Z9,Ya,Yb,Yc,Yd,Ye,Yf,Yg,Yh,Yi,Yj,Yk,Yl,Ym,Yn,Yo,Yp,Yq,Yr,Ys,Yt,Yu,Yv,Yw,Yx,Yy,Yz,YA,YB,YC,YD,YE,YF,YG,YH,YI,YJ,YK,YL,YM,YN,YO,YP,YQ,YR,YS,YT,YU,YV,YW,YX,if_true,if_false,reduceIte,reduceCtorEq,YY,YZ,Y0,Y1,Y2,Y3,Y4,Y5,Y6,Y7,Y8,Y9,Ja,Jb,Jc,Jd,Je,Jf,Jg,Jh,or_true,and_true,true_and,and_self,Ji,cond_true,cond_false]
          refine cond_split (fun h3 => ?_) (fun h3 => ?_)
          · have hi2 : i < late.length := by have := of_decide_eq_true h3; omega
            have hst := late_step haf hI hi2
            rw [hW] at hst
            have hwl2 : (W.map (cur (late.drop i))).length ≤ 40 := by rw [List.length_map]; omega
            simp only [J2,J3,J4,J5,decide_true,decide_false,Jj,Jk,Jl,eq_self,Za,Zb,Zc,Zd,Ze,Zf,Zg,Zh,Zi,Zj,Zk,Zl,Zm,Zn,Zo,Zp,Zq,Zr,Zs,Zt,Zu,Zv,Zw,Zx,Zy,Zz,ZA,ZB,ZC,ZD,ZE,ZF,ZG,ZH,ZI,ZJ,ZK,ZL,ZM,ZN,ZO,ZP,ZQ,ZR,ZS,ZT,ZU,ZV,ZW,ZX,ZY,ZZ,Z0,Z1,Z2,Z3,Z4,Z5,Z6,Z7,Z8,Z9,Ya,Yb,Yc,Yd,Ye,Yf,Yg,Yh,Yi,Yj,Yk,Yl,Ym,Yn,Yo,Yp,Yq,Yr,Ys,Yt,Yu,Yv,Yw,Yx,Yy,Yz,YA,YB,YC,YD,YE,YF,YG,YH,YI,YJ,YK,YL,YM,YN,YO,YP,YQ,YR,YS,YT,YU,YV,YW,YX,if_true,if_false,reduceIte,reduceCtorEq,YY,YZ,Y0,Y1,Y2,Y3,Y4,Y5,Y6,Y7,Y8,Y9,Ja,Jb,Jc,Jd,Je,Jf,Jg,Jh,or_true,and_true,true_and,and_self,Ji,cond_true,cond_false]
            repeat (refine And.intro (by omega) ?_)
            refine call_is hC (erase_spec (W.map (cur (late.drop i))) (late.getD i default) (by omega)) rfl (by exact ⟨rfl, ⟨_, rfl⟩, rfl, plain_id _, trivial⟩) ?_
            rw [hst]
            simp only [JW,JX,JY,JZ,J0,YE,YW,YV,YR,YQ,YO,YP,Y6,YY,Y3,Y0,reduceIte,YM,YN,J1,if_false]
            try simp only [J2,J3,J4,J5,decide_true,decide_false,Jj,Jk,Jl,eq_self,Za,Zb,Zc,Zd,Ze,Zf,Zg,Zh,Zi,Zj,Zk,Zl,Zm,Zn,Zo,Zp,Zq,Zr,Zs,Zt,Zu,Zv,Zw,Zx,Zy,Zz,ZA,ZB,ZC,ZD,ZE,ZF,ZG,ZH,ZI,ZJ,ZK,ZL,ZM,ZN,ZO,ZP,ZQ,ZR,ZS,ZT,ZU,ZV,ZW,ZX,ZY,ZZ,Z0,Z1,Z2,Z3,Z4,Z5,Z6,Z7,Z8,Z9,Ya,Yb,Yc,Yd,Ye,Yf,Yg,Yh,Yi,Yj,Yk,Yl,Ym,Yn,Yo,Yp,Yq,Yr,Ys,Yt,Yu,Yv,Yw,Yx,Yy,Yz,YA,YB,YC,YD,YE,YF,YG,YH,YI,YJ,YK,YL,YM,YN,YO,YP,YQ,YR,YS,YT,YU,YV,YW,YX,if_true,if_false,reduceIte,reduceCtorEq,YY,YZ,Y0,Y1,Y2,Y3,Y4,Y5,Y6,Y7,Y8,Y9,Ja,Jb,Jc,Jd,Je,Jf,Jg,Jh,or_true,and_true,true_and,and_self,Ji,cond_true,cond_false]
            repeat (refine And.intro (by omega) ?_)
            refine ⟨i + 1, hi2, by omega, ?_⟩
            simp only [lateF, List.reduceReplicate, List.cons_append, List.nil_append]
            refine ent_of [(4, 7)] (by rw [hk]; simp) (by rw [hk]; simp) ?_ ?_ ?_
            · simp [entT, mp, mps, bd, bds, sg]
            · simp [entH, sg, get, mpC, mps, mp, bdC, bds, bd, inH]
            · simp [entI, inH, sg]
          · obtain rfl : i = late.length := by have := of_decide_eq_false h3; omega
            have hdn : W.map (cur (late.drop late.length)) = W := by rw [List.drop_length]; exact map_cur_nil W
            rw [hdn]
            simp only [J2,J3,J4,J5,decide_true,decide_false,Jj,Jk,Jl,eq_self,Za,Zb,Zc,Zd,Ze,Zf,Zg,Zh,Zi,Zj,Zk,Zl,Zm,Zn,Zo,Zp,Zq,Zr,Zs,Zt,Zu,Zv,Zw,Zx,Zy,Zz,ZA,ZB,ZC,ZD,ZE,ZF,ZG,ZH,ZI,ZJ,ZK,ZL,ZM,ZN,ZO,ZP,ZQ,ZR,ZS,ZT,ZU,ZV,ZW,ZX,ZY,ZZ,Z0,Z1,Z2,Z3,Z4,Z5,Z6,Z7,Z8,Z9,Ya,Yb,Yc,Yd,Ye,Yf,Yg,Yh,Yi,Yj,Yk,Yl,Ym,Yn,Yo,Yp,Yq,Yr,Ys,Yt,Yu,Yv,Yw,Yx,Yy,Yz,YA,YB,YC,YD,YE,YF,YG,YH,YI,YJ,YK,YL,YM,YN,YO,YP,YQ,YR,YS,YT,YU,YV,YW,YX,if_true,if_false,reduceIte,reduceCtorEq,YY,YZ,Y0,Y1,Y2,Y3,Y4,Y5,Y6,Y7,Y8,Y9,Ja,Jb,Jc,Jd,Je,Jf,Jg,Jh,or_true,and_true,true_and,and_self,Ji,cond_true,cond_false]
            refine call_is hC (same_spec W W (by omega) (by omega)) rfl (by exact ⟨rfl, ⟨_, rfl⟩, rfl, ⟨_, rfl⟩, trivial⟩) ?_
            simp only [JW,JX,JY,JZ,J0,YE,YW,YV,YR,YQ,YO,YP,Y6,YY,Y3,Y0,reduceIte,YM,YN,J1,if_false]
            try simp only [J2,J3,J4,J5,decide_true,decide_false,Jj,Jk,Jl,eq_self,Za,Zb,Zc,Zd,Ze,Zf,Zg,Zh,Zi,Zj,Zk,Zl,Zm,Zn,Zo,Zp,Zq,Zr,Zs,Zt,Zu,Zv,Zw,Zx,Zy,Zz,ZA,ZB,ZC,ZD,ZE,ZF,ZG,ZH,ZI,ZJ,ZK,ZL,ZM,ZN,ZO,ZP,ZQ,ZR,ZS,ZT,ZU,ZV,ZW,ZX,ZY,ZZ,Z0,Z1,Z2,Z3,Z4,Z5,Z6,Z7,Z8,Z9,Ya,Yb,Yc,Yd,Ye,Yf,Yg,Yh,Yi,Yj,Yk,Yl,Ym,Yn,Yo,Yp,Yq,Yr,Ys,Yt,Yu,Yv,Yw,Yx,Yy,Yz,YA,YB,YC,YD,YE,YF,YG,YH,YI,YJ,YK,YL,YM,YN,YO,YP,YQ,YR,YS,YT,YU,YV,YW,YX,if_true,if_false,reduceIte,reduceCtorEq,YY,YZ,Y0,Y1,Y2,Y3,Y4,Y5,Y6,Y7,Y8,Y9,Ja,Jb,Jc,Jd,Je,Jf,Jg,Jh,or_true,and_true,true_and,and_self,Ji,cond_true,cond_false]
            refine fin_of [] ?_ ?_ ?_ ?_ <;> first | rfl | trivial | exact List.nodup_nil | skip

end E
end Go.Proofs.Ytlkchnfgeedghaa
