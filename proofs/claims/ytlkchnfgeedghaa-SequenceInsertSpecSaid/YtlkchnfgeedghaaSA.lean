/- descending (sequence.Order's sort of one parent's children) is walked here. -/
import Derived.Test.YtlkchnfgeedghaaS9
set_option linter.unusedSimpArgs false
namespace Go.Proofs.Ytlkchnfgeedghaa
namespace E
open Go
open Go.Proofs.Ytlkchnfgeedghaa.E renaming Ex_seq → Za, Ex_region → Zb, Ex_block → Zc, Ex_exit → Zd, Ex_ret → Ze, Ex_skip → Zf, Ex_label → Zg, Ex_scope → Zh, Ex_loop → Zi, Ex_draw → Zj, Ex_if → Zk, condD_t → Zl, condD_f → Zm, SeqK_normal → Zn, SeqK_ret → Zo, SeqK_exit → Zp, BlockK_normal → Zq, BlockK_exit → Zr, BlockK_ret → Zs, ScopeK_normal → Zt, ScopeK_exit → Zu, ScopeK_ret → Zv, LoopK_normal → Zw, LoopK_exit → Zx, LoopK_ret → Zy, NormK_run → Zz, sops_run → ZA, sops_nil → ZB, guardO → ZC, guardG → ZD, guardD_tt → ZE, guardD_ff → ZF, guardD_tf → ZG, guardD_ft → ZH, guardD_u → ZI, OpsK_run → ZJ, InlK_run → ZK, baseD → ZL, delC → ZM, RowC.ap → ZN, RowC.over → ZO, RowC.take → ZP, RowC.drop → ZQ, RowC.zeros → ZR, step → ZS, goRs → ZT, goCall → ZU, goNew → ZV, ibin → ZW, sbin → ZX, St.ev → ZY, ofConst → ZZ, PutD → Z0, setC → Z1, segO → Z2, dropO → Z3, takeO → Z4, nthO → Z5, layO → Z6, flat → Z7, fillO → Z8, pushAll → Z9, RowC.push → Ya, RowC.nil → Yb, RowC.get → Yc, RowC.sz → Yd, RowC.len → Ye, setCells → Yf, RowC.setCell → Yg, lenK → Yh, boundsOf → Yi, caps → Yj, TK.agg → Yk, RetK_r → Ym, RetK_n → Yn, RetO → Yo, resOf → Yp, noTup → Yq, packR → Yr, newH → Ys, eqId → JE, eqCell → JF, id_eta → JG, cell_eta → JH
open Go renaming Value.oneCell' → Yl
open List renaming contains_cons → Yt, contains_nil → Yu, getElem?_toArray → Yz, getElem?_cons_zero → YA, getElem?_cons_succ → YB, map_cons → YC, map_nil → YD, length_cons → YE, length_nil → YF, all_cons → YG, all_nil → YH, append_nil → YI, cons_append → YJ, nil_append → YK, size_toArray → YL
open Option renaming bind_some → Yv, bind_none → Yw, map_some → Yx, map_none → Yy, isSome_some → Y5
open Nat renaming reduceAdd → YM, reduceMul → YN, reduceSub → YO, reduceEqDiff → YP, reduceLeDiff → YQ, reduceLT → YR, reduceBEq → YS, reduceBNe → YT, add_zero → YU, zero_add → YV
open Bool renaming or_false → YW, false_or → YX, or_true → YY, not_true → YZ, not_false → Y0, and_true → Y1, true_and → Y2, and_self → Y3, false_eq_true → Y4
open Int renaming toNat_natCast → Y6

section
variable {C : Cx} {S : St} {K : SV → St → Prop}
/-- The sort at nil. -/
theorem sort_none_rule (hC : C.P = Try.prog) {b : Nat} (hK : K (.tup []) S) : CallP C 40 [.v (.slice none 0 0), .clo 41 [b]] S K := by
  refine .of ?_ fun β a w hs vs hvs => ?_
  · rw [hC]; exact ⟨_, Try.func40, by kernel_rfl, by kernel_rfl⟩
  rw [hC]
  obtain ⟨hl, hrel⟩ := hvs
  obtain ⟨v0, v1, rfl⟩ : ∃ v0 v1, vs = [v0, v1] := by
    rcases vs with _ | ⟨v0, _ | ⟨v1, _ | ⟨v2, vs⟩⟩⟩ <;> simp at hl
    exact ⟨v0, v1, rfl⟩
  obtain ⟨u0, e0, hR0⟩ := hrel 0 _ rfl
  cases e0
  cases (show v0 = .slice none 0 0 from hR0)
  refine (AnyF.slices_SortFunc_none Ytlkchnfgeedghaa.sortCells none 0 v1 w).mono ?_
  rintro e w' ⟨rfl, rfl⟩
  exact ⟨β, .tup [], .tuple #[], S, rfl, hs, ⟨[], rfl, rfl, fun i s h => by simp at h⟩, hK⟩
end

set_option maxRecDepth 100000 in
theorem desc_none : Spec Try.prog 31 (inH 0 []) 0 [.v (.slice none 0 0), .clo 32 []] (.tup []) [] := by
  refine spec_of_ex (wr := []) tys_ok Try.func31 rfl rfl fun C hC hk => ?_
  rw [Try.ntmps31, Try.results31]
  simp only [ini, List.length_cons, List.length_nil, Nat.reduceAdd, Nat.reduceSub, List.reduceReplicate, List.cons_append, List.nil_append]
  simp only [JE,JF,JG,JH,Za,Zb,Zc,Zd,Ze,Zf,Zg,Zh,Zi,Zj,Zk,Zl,Zm,Zn,Zo,Zp,Zq,Zr,Zs,Zt,Zu,Zv,Zw,Zx,Zy,Zz,ZA,ZB,ZC,ZD,ZE,ZF,ZG,ZH,ZI,ZJ,ZK,ZL,ZM,ZN,ZO,ZP,ZQ,ZR,ZS,ZT,ZU,ZV,pur,bin,ZW,ZX,num,lo,hi,ZY,ZZ,nth,upd,Z0,tys,get,Z1,ld,stO,Z2,Z3,Z4,Z5,Z6,Z7,Z8,Z9,Ya,Yb,Yc,Yd,Ye,Yf,Yg,Yh,Yi,Yj,Yk,Yl,Ym,Yn,Yo,Yp,Yq,Yr,inH,Ys,Yt,Yu,Yv,Yw,Yx,Yy,Yz,YA,YB,YC,YD,YE,YF,YG,YH,YI,YJ,YK,YL,if_true,if_false,reduceIte,reduceCtorEq,YM,YN,YO,YP,YQ,YR,YS,YT,YU,YV,YW,YX,YY,YZ,Y0,Y1,Y2,Y3,Y4,Y5,or_true,and_true,true_and,and_self,Y6,cond_true,cond_false]
  refine sort_none_rule hC ?_
  simp only [JE,JF,JG,JH,Za,Zb,Zc,Zd,Ze,Zf,Zg,Zh,Zi,Zj,Zk,Zl,Zm,Zn,Zo,Zp,Zq,Zr,Zs,Zt,Zu,Zv,Zw,Zx,Zy,Zz,ZA,ZB,ZC,ZD,ZE,ZF,ZG,ZH,ZI,ZJ,ZK,ZL,ZM,ZN,ZO,ZP,ZQ,ZR,ZS,ZT,ZU,ZV,pur,bin,ZW,ZX,num,lo,hi,ZY,ZZ,nth,upd,Z0,tys,get,Z1,ld,stO,Z2,Z3,Z4,Z5,Z6,Z7,Z8,Z9,Ya,Yb,Yc,Yd,Ye,Yf,Yg,Yh,Yi,Yj,Yk,Yl,Ym,Yn,Yo,Yp,Yq,Yr,inH,Ys,Yt,Yu,Yv,Yw,Yx,Yy,Yz,YA,YB,YC,YD,YE,YF,YG,YH,YI,YJ,YK,YL,if_true,if_false,reduceIte,reduceCtorEq,YM,YN,YO,YP,YQ,YR,YS,YT,YU,YV,YW,YX,YY,YZ,Y0,Y1,Y2,Y3,Y4,Y5,or_true,and_true,true_and,and_self,Y6,cond_true,cond_false]
  refine fin_of [] ?_ ?_ ?_ ?_ <;> first | rfl | trivial | exact List.nodup_nil | skip

set_option maxRecDepth 100000 in
theorem desc_spec {ch o : List Cell} (hd : (ch.map Cell.id).Nodup) (hlen : ch.length ≤ 1000000) (ho : o.Perm ch) (hso : sortedC o) : SpecM Try.prog 31 [(0, true, .row 33 (.cell ch))] 1 [.full 0, .clo 32 []] (.tup []) [(0, true, .row 33 (.cell o))] 1 := by
  refine specM_of_ex (wr := []) tys_ok Try.func31 rfl rfl fun C hC hk => ?_
  rw [Try.ntmps31, Try.results31]
  simp only [ini, List.length_cons, List.length_nil, Nat.reduceAdd, Nat.reduceSub, List.reduceReplicate, List.cons_append, List.nil_append]
  simp only [JE,JF,JG,JH,Za,Zb,Zc,Zd,Ze,Zf,Zg,Zh,Zi,Zj,Zk,Zl,Zm,Zn,Zo,Zp,Zq,Zr,Zs,Zt,Zu,Zv,Zw,Zx,Zy,Zz,ZA,ZB,ZC,ZD,ZE,ZF,ZG,ZH,ZI,ZJ,ZK,ZL,ZM,ZN,ZO,ZP,ZQ,ZR,ZS,ZT,ZU,ZV,pur,bin,ZW,ZX,num,lo,hi,ZY,ZZ,nth,upd,Z0,tys,get,Z1,ld,stO,Z2,Z3,Z4,Z5,Z6,Z7,Z8,Z9,Ya,Yb,Yc,Yd,Ye,Yf,Yg,Yh,Yi,Yj,Yk,Yl,Ym,Yn,Yo,Yp,Yq,Yr,inH,Ys,Yt,Yu,Yv,Yw,Yx,Yy,Yz,YA,YB,YC,YD,YE,YF,YG,YH,YI,YJ,YK,YL,if_true,if_false,reduceIte,reduceCtorEq,YM,YN,YO,YP,YQ,YR,YS,YT,YU,YV,YW,YX,YY,YZ,Y0,Y1,Y2,Y3,Y4,Y5,or_true,and_true,true_and,and_self,Y6,cond_true,cond_false]
  refine sort_rule hC (o := o) rfl rfl (by decide) hd hlen ho hso ?_
  simp only [JE,JF,JG,JH,Za,Zb,Zc,Zd,Ze,Zf,Zg,Zh,Zi,Zj,Zk,Zl,Zm,Zn,Zo,Zp,Zq,Zr,Zs,Zt,Zu,Zv,Zw,Zx,Zy,Zz,ZA,ZB,ZC,ZD,ZE,ZF,ZG,ZH,ZI,ZJ,ZK,ZL,ZM,ZN,ZO,ZP,ZQ,ZR,ZS,ZT,ZU,ZV,pur,bin,ZW,ZX,num,lo,hi,ZY,ZZ,nth,upd,Z0,tys,get,Z1,ld,stO,Z2,Z3,Z4,Z5,Z6,Z7,Z8,Z9,Ya,Yb,Yc,Yd,Ye,Yf,Yg,Yh,Yi,Yj,Yk,Yl,Ym,Yn,Yo,Yp,Yq,Yr,inH,Ys,Yt,Yu,Yv,Yw,Yx,Yy,Yz,YA,YB,YC,YD,YE,YF,YG,YH,YI,YJ,YK,YL,if_true,if_false,reduceIte,reduceCtorEq,YM,YN,YO,YP,YQ,YR,YS,YT,YU,YV,YW,YX,YY,YZ,Y0,Y1,Y2,Y3,Y4,Y5,or_true,and_true,true_and,and_self,Y6,cond_true,cond_false]
  refine finM_of [] hk (by omega) (by simp) rfl rfl ?_ ?_
  · simp [entH, sg, get, mpC, bdC]
  · simp [entI]

end E
end Go.Proofs.Ytlkchnfgeedghaa
