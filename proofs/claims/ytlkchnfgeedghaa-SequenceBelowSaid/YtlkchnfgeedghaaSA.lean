/- descending (sequence.Order's sort of one parent's children) is walked here. -/
import Derived.Test.YtlkchnfgeedghaaS9
set_option linter.unusedSimpArgs false
namespace Go.Proofs.Ytlkchnfgeedghaa
namespace E
open Go
open Go.Proofs.Ytlkchnfgeedghaa.E renaming Ex_seq → Za, Ex_region → Zb, Ex_block → Zc, Ex_exit → Zd, Ex_ret → Ze, Ex_skip → Zf, Ex_label → Zg, Ex_scope → Zh, Ex_loop → Zi, Ex_draw → Zj, Ex_if → Zk, condD_t → Zl, condD_f → Zm, SeqK_normal → Zn, SeqK_ret → Zo, SeqK_exit → Zp, BlockK_normal → Zq, BlockK_exit → Zr, BlockK_ret → Zs, ScopeK_normal → Zt, ScopeK_exit → Zu, ScopeK_ret → Zv, LoopK_normal → Zw, LoopK_exit → Zx, LoopK_ret → Zy, NormK_run → Zz, sops_run → ZA, sops_nil → ZB, guardO → ZC, guardG → ZD, guardD_tt → ZE, guardD_ff → ZF, guardD_tf → ZG, guardD_ft → ZH, guardD_u → ZI, OpsK_run → ZJ, InlK_run → ZK, baseD → ZL, delC → ZM, RowC.ap → ZN, RowC.over → ZO, RowC.take → ZP, RowC.drop → ZQ, RowC.zeros → ZR, step → ZS, goRs → ZT, goCall → ZU, goNew → ZV, pur → ZW, bin → ZX, ibin → ZY, sbin → ZZ, num → Z0, lo → Z1, hi → Z2, St.ev → Z3, ofConst → Z4, nth → Z5, upd → Z6, PutD → Z7, tys → Z8, get → Z9, setC → Ya, ld → Yb, stO → Yc, segO → Yd, dropO → Ye, takeO → Yf, nthO → Yg, layO → Yh, flat → Yi, fillO → Yj, pushAll → Yk, RowC.push → Yl, RowC.nil → Ym, RowC.get → Yn, RowC.sz → Yo, RowC.len → Yp, setCells → Yq, RowC.setCell → Yr, lenK → Ys, boundsOf → Yt, caps → Yu, TK.agg → Yv, RetK_r → Yx, RetK_n → Yy, RetO → Yz, resOf → YA, noTup → YB, packR → YC, inH → YD, newH → YE, eqId → J3, eqCell → J4, id_eta → J5, cell_eta → J6
open Go renaming Value.oneCell' → Yw
open List renaming contains_cons → YF, contains_nil → YG, getElem?_toArray → YL, getElem?_cons_zero → YM, getElem?_cons_succ → YN, map_cons → YO, map_nil → YP, length_cons → YQ, length_nil → YR, all_cons → YS, all_nil → YT, append_nil → YU, cons_append → YV, nil_append → YW, size_toArray → YX
open Option renaming bind_some → YH, bind_none → YI, map_some → YJ, map_none → YK, isSome_some → Jh
open Nat renaming reduceAdd → YY, reduceMul → YZ, reduceSub → Y0, reduceEqDiff → Y1, reduceLeDiff → Y2, reduceLT → Y3, reduceBEq → Y4, reduceBNe → Y5, add_zero → Y6, zero_add → Y7
open Bool renaming or_false → Y8, false_or → Y9, or_true → Ja, not_true → Jb, not_false → Jc, and_true → Jd, true_and → Je, and_self → Jf, false_eq_true → Jg
open Int renaming toNat_natCast → Ji

section
variable {C : Cx} {S : St} {K : SV → St → Prop}
/-- The sort at nil. -/
theorem sort_none_rule (hC : C.P = Try.prog) {b : Nat} (hK : K (.tup []) S) : CallP C 40 [.v (.slice none 0 0), .clo 41 [b]] S K := by
  refine .of ?_ fun β a w hs vs hvs => ?_
  · rw [hC]; exact ⟨_, Try.func40, by kernel_rfl, by kernel_rfl⟩
  rw [hC]
  obtain ⟨hl, hrel⟩ := hvs
  obtain ⟨v0, v1, rfl⟩ : ∃ v0 v1, vs = [v0, v1] := by
    rcases vs with _ | ⟨v0, _ | ⟨v1, _ | ⟨v2, vs⟩⟩⟩ <;> simp at hl
    exact ⟨v0, v1, rfl⟩
  obtain ⟨u0, e0, hR0⟩ := hrel 0 _ rfl
  cases e0
  cases (show v0 = .slice none 0 0 from hR0)
  refine (AnyF.slices_SortFunc_none Ytlkchnfgeedghaa.sortCells none 0 v1 w).mono ?_
  rintro e w' ⟨rfl, rfl⟩
  exact ⟨β, .tup [], .tuple #[], S, rfl, hs, ⟨[], rfl, rfl, fun i s h => by simp at h⟩, hK⟩
end

set_option maxRecDepth 100000 in
theorem desc_none : Spec Try.prog 31 (inH 0 []) 0 [.v (.slice none 0 0), .clo 32 []] (.tup []) [] := by
  refine spec_of_ex (wr := []) tys_ok Try.func31 rfl rfl fun C hC hk => ?_
  rw [Try.ntmps31, Try.results31]
  simp only [ini, List.length_cons, List.length_nil, Nat.reduceAdd, Nat.reduceSub, List.reduceReplicate, List.cons_append, List.nil_append]
  simp only [J3,J4,J5,J6,Za,Zb,Zc,Zd,Ze,Zf,Zg,Zh,Zi,Zj,Zk,Zl,Zm,Zn,Zo,Zp,Zq,Zr,Zs,Zt,Zu,Zv,Zw,Zx,Zy,Zz,ZA,ZB,ZC,ZD,ZE,ZF,ZG,ZH,ZI,ZJ,ZK,ZL,ZM,ZN,ZO,ZP,ZQ,ZR,ZS,ZT,ZU,ZV,ZW,ZX,ZY,ZZ,Z0,Z1,Z2,Z3,Z4,Z5,Z6,Z7,Z8,Z9,Ya,Yb,Yc,Yd,Ye,Yf,Yg,Yh,Yi,Yj,Yk,Yl,Ym,Yn,Yo,Yp,Yq,Yr,Ys,Yt,Yu,Yv,Yw,Yx,Yy,Yz,YA,YB,YC,YD,YE,YF,YG,YH,YI,YJ,YK,YL,YM,YN,YO,YP,YQ,YR,YS,YT,YU,YV,YW,YX,if_true,if_false,reduceIte,reduceCtorEq,YY,YZ,Y0,Y1,Y2,Y3,Y4,Y5,Y6,Y7,Y8,Y9,Ja,Jb,Jc,Jd,Je,Jf,Jg,Jh,or_true,and_true,true_and,and_self,Ji,cond_true,cond_false]
  refine sort_none_rule hC ?_
  simp only [J3,J4,J5,J6,Za,Zb,Zc,Zd,Ze,Zf,Zg,Zh,Zi,Zj,Zk,Zl,Zm,Zn,Zo,Zp,Zq,Zr,Zs,Zt,Zu,Zv,Zw,Zx,Zy,Zz,ZA,ZB,ZC,ZD,ZE,ZF,ZG,ZH,ZI,ZJ,ZK,ZL,ZM,ZN,ZO,ZP,ZQ,ZR,ZS,ZT,ZU,ZV,ZW,ZX,ZY,ZZ,Z0,Z1,Z2,Z3,Z4,Z5,Z6,Z7,Z8,Z9,Ya,Yb,Yc,Yd,Ye,Yf,Yg,Yh,Yi,Yj,Yk,Yl,Ym,Yn,Yo,Yp,Yq,Yr,Ys,Yt,Yu,Yv,Yw,Yx,Yy,Yz,YA,YB,YC,YD,YE,YF,YG,YH,YI,YJ,YK,YL,YM,YN,YO,YP,YQ,YR,YS,YT,YU,YV,YW,YX,if_true,if_false,reduceIte,reduceCtorEq,YY,YZ,Y0,Y1,Y2,Y3,Y4,Y5,Y6,Y7,Y8,Y9,Ja,Jb,Jc,Jd,Je,Jf,Jg,Jh,or_true,and_true,true_and,and_self,Ji,cond_true,cond_false]
  refine fin_of [] ?_ ?_ ?_ ?_ <;> first | rfl | trivial | exact List.nodup_nil | skip

set_option maxRecDepth 100000 in
theorem desc_spec {ch o : List Cell} (hd : (ch.map Cell.id).Nodup) (hlen : ch.length ≤ 1000000) (ho : o.Perm ch) (hso : sortedC o) : SpecM Try.prog 31 [(0, true, .row 33 (.cell ch))] 1 [.full 0, .clo 32 []] (.tup []) [(0, true, .row 33 (.cell o))] 1 := by
  refine specM_of_ex (wr := []) tys_ok Try.func31 rfl rfl fun C hC hk => ?_
  rw [Try.ntmps31, Try.results31]
  simp only [ini, List.length_cons, List.length_nil, Nat.reduceAdd, Nat.reduceSub, List.reduceReplicate, List.cons_append, List.nil_append]
  simp only [J3,J4,J5,J6,Za,Zb,Zc,Zd,Ze,Zf,Zg,Zh,Zi,Zj,Zk,Zl,Zm,Zn,Zo,Zp,Zq,Zr,Zs,Zt,Zu,Zv,Zw,Zx,Zy,Zz,ZA,ZB,ZC,ZD,ZE,ZF,ZG,ZH,ZI,ZJ,ZK,ZL,ZM,ZN,ZO,ZP,ZQ,ZR,ZS,ZT,ZU,ZV,ZW,ZX,ZY,ZZ,Z0,Z1,Z2,Z3,Z4,Z5,Z6,Z7,Z8,Z9,Ya,Yb,Yc,Yd,Ye,Yf,Yg,Yh,Yi,Yj,Yk,Yl,Ym,Yn,Yo,Yp,Yq,Yr,Ys,Yt,Yu,Yv,Yw,Yx,Yy,Yz,YA,YB,YC,YD,YE,YF,YG,YH,YI,YJ,YK,YL,YM,YN,YO,YP,YQ,YR,YS,YT,YU,YV,YW,YX,if_true,if_false,reduceIte,reduceCtorEq,YY,YZ,Y0,Y1,Y2,Y3,Y4,Y5,Y6,Y7,Y8,Y9,Ja,Jb,Jc,Jd,Je,Jf,Jg,Jh,or_true,and_true,true_and,and_self,Ji,cond_true,cond_false]
  refine sort_rule hC (o := o) rfl rfl (by decide) hd hlen ho hso ?_
  simp only [J3,J4,J5,J6,Za,Zb,Zc,Zd,Ze,Zf,Zg,Zh,Zi,Zj,Zk,Zl,Zm,Zn,Zo,Zp,Zq,Zr,Zs,Zt,Zu,Zv,Zw,Zx,Zy,Zz,ZA,ZB,ZC,ZD,ZE,ZF,ZG,ZH,ZI,ZJ,ZK,ZL,ZM,ZN,ZO,ZP,ZQ,ZR,ZS,ZT,ZU,ZV,ZW,ZX,ZY,ZZ,Z0,Z1,Z2,Z3,Z4,Z5,Z6,Z7,Z8,Z9,Ya,Yb,Yc,Yd,Ye,Yf,Yg,Yh,Yi,Yj,Yk,Yl,Ym,Yn,Yo,Yp,Yq,Yr,Ys,Yt,Yu,Yv,Yw,Yx,Yy,Yz,YA,YB,YC,YD,YE,YF,YG,YH,YI,YJ,YK,YL,YM,YN,YO,YP,YQ,YR,YS,YT,YU,YV,YW,YX,if_true,if_false,reduceIte,reduceCtorEq,YY,YZ,Y0,Y1,Y2,Y3,Y4,Y5,Y6,Y7,Y8,Y9,Ja,Jb,Jc,Jd,Je,Jf,Jg,Jh,or_true,and_true,true_and,and_self,Ji,cond_true,cond_false]
  refine finM_of [] hk (by omega) (by simp) rfl rfl ?_ ?_
  · simp [entH, sg, get, mpC, bdC]
  · simp [entI]

end E
end Go.Proofs.Ytlkchnfgeedghaa
