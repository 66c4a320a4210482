/- Small functions of sequence and its reference are walked here: Few, Same, SameValues, validID, valid, Greater, Find. -/
import Derived.Test.YtlkchnfgeedghaaT2
set_option linter.unusedSimpArgs false
namespace Go.Proofs.Ytlkchnfgeedghaa
namespace E
open Go
open Go.Proofs.Ytlkchnfgeedghaa.E renaming Ex_seq → Za, Ex_region → Zb, Ex_block → Zc, Ex_exit → Zd, Ex_ret → Ze, Ex_skip → Zf, Ex_label → Zg, Ex_scope → Zh, Ex_loop → Zi, Ex_draw → Zj, Ex_if → Zk, condD_t → Zl, condD_f → Zm, SeqK_normal → Zn, SeqK_ret → Zo, SeqK_exit → Zp, BlockK_normal → Zq, BlockK_exit → Zr, BlockK_ret → Zs, ScopeK_normal → Zt, ScopeK_exit → Zu, ScopeK_ret → Zv, LoopK_normal → Zw, LoopK_exit → Zx, LoopK_ret → Zy, NormK_run → Zz, sops_run → ZA, sops_nil → ZB, guardO → ZC, guardG → ZD, guardD_tt → ZE, guardD_ff → ZF, guardD_tf → ZG, guardD_ft → ZH, guardD_u → ZI, OpsK_run → ZJ, InlK_run → ZK, baseD → ZL, delC → ZM, RowC.ap → ZN, RowC.over → ZO, RowC.take → ZP, RowC.drop → ZQ, RowC.zeros → ZR, step → ZS, goRs → ZT, goCall → ZU, goNew → ZV, pur → ZW, bin → ZX, ibin → ZY, sbin → ZZ, num → Z0, lo → Z1, hi → Z2, St.ev → Z3, ofConst → Z4, nth → Z5, upd → Z6, PutD → Z7, tys → Z8, get → Z9, setC → Ya, ld → Yb, stO → Yc, segO → Yd, dropO → Ye, takeO → Yf, nthO → Yg, layO → Yh, flat → Yi, fillO → Yj, pushAll → Yk, RowC.push → Yl, RowC.nil → Ym, RowC.get → Yn, RowC.sz → Yo, RowC.len → Yp, setCells → Yq, RowC.setCell → Yr, lenK → Ys, boundsOf → Yt, caps → Yu, TK.agg → Yv, RetK_r → Yx, RetK_n → Yy, RetO → Yz, resOf → YA, noTup → YB, packR → YC, inH → YD, newH → YE, qops_run → Jm, qops_nil → Jn, qguardO → Jo, qguardG → Jp, qguardD_tt → Jq, qguardD_ff → Jr, qguardD_tf → Js, qguardD_ft → Jt, qguardD_u → Ju, QK_run → Jv, qstep → Jw, qRs → Jx, qRsO → Jy, qCall → Jz, det → JA, dets → JB
open Go renaming Value.oneCell' → Yw
open List renaming contains_cons → YF, contains_nil → YG, getElem?_toArray → YL, getElem?_cons_zero → YM, getElem?_cons_succ → YN, map_cons → YO, map_nil → YP, length_cons → YQ, length_nil → YR, all_cons → YS, all_nil → YT, append_nil → YU, cons_append → YV, nil_append → YW, size_toArray → YX, take_succ_cons → JC, take_zero → JD, drop_succ_cons → JE, drop_zero → JF
open Option renaming bind_some → YH, bind_none → YI, map_some → YJ, map_none → YK, isSome_some → Jh
open Nat renaming reduceAdd → YY, reduceMul → YZ, reduceSub → Y0, reduceEqDiff → Y1, reduceLeDiff → Y2, reduceLT → Y3, reduceBEq → Y4, reduceBNe → Y5, add_zero → Y6, zero_add → Y7
open Bool renaming or_false → Y8, false_or → Y9, or_true → Ja, not_true → Jb, not_false → Jc, and_true → Jd, true_and → Je, and_self → Jf, false_eq_true → Jg
open Int renaming toNat_natCast → Ji

def zId : Id3 := ⟨0, 0, 0⟩
def validI (x : Id3) : Bool := decide (0 ≤ x.dev) && (decide (x.dev < 512) && (decide (1 ≤ x.seq) && (decide (x.seq ≤ 1048576) && (decide (0 ≤ x.pos) && decide (x.pos ≤ 63)))))
def validC (c : Cell) : Bool := validI c.id && ((decide (c.after = zId) || validI c.after) && (decide (1 ≤ c.time) && (decide (c.time ≤ 1099511627776) && decide (c.val.size ≤ 4096))))
abbrev idS (x : Id3) : List SV := [.v (.int .i64 x.dev), .v (.int .i64 x.seq), .v (.int .i64 x.pos)]
abbrev cellS (c : Cell) : List SV := [.v (.int .i64 c.id.dev), .v (.int .i64 c.id.seq), .v (.int .i64 c.id.pos), .v (.int .i64 c.after.dev), .v (.int .i64 c.after.seq), .v (.int .i64 c.after.pos), .v (.int .i64 c.time), .v (.string c.val), .v (.bool c.gone)]

set_option maxRecDepth 100000 in
theorem few_spec (l : List Cell) : Spec Try.prog 12 (inH 0 [(33, .cell l)]) 1 [.full 0] (.v (.bool (decide ((l.length : Int) ≤ 40)))) [] := by
  refine spec_of_ex (wr := []) tys_ok Try.func12 rfl rfl fun C hC hk => ?_
  rw [Try.ntmps12, Try.results12]
  simp only [ini, List.length_cons, List.length_nil, Nat.reduceAdd, Nat.reduceSub, List.reduceReplicate, List.cons_append, List.nil_append]
  simp only [Za,Zb,Zc,Zd,Ze,Zf,Zg,Zh,Zi,Zj,Zk,Zl,Zm,Zn,Zo,Zp,Zq,Zr,Zs,Zt,Zu,Zv,Zw,Zx,Zy,Zz,ZA,ZB,ZC,ZD,ZE,ZF,ZG,ZH,ZI,ZJ,ZK,ZL,ZM,ZN,ZO,ZP,ZQ,ZR,ZS,ZT,ZU,ZV,ZW,ZX,ZY,ZZ,Z0,Z1,Z2,Z3,Z4,Z5,Z6,Z7,Z8,Z9,Ya,Yb,Yc,Yd,Ye,Yf,Yg,Yh,Yi,Yj,Yk,Yl,Ym,Yn,Yo,Yp,Yq,Yr,Ys,Yt,Yu,Yv,Yw,Yx,Yy,Yz,YA,YB,YC,YD,YE,YF,YG,YH,YI,YJ,YK,YL,YM,YN,YO,YP,YQ,YR,YS,YT,YU,YV,YW,YX,if_true,if_false,reduceIte,reduceCtorEq,YY,YZ,Y0,Y1,Y2,Y3,Y4,Y5,Y6,Y7,Y8,Y9,Ja,Jb,Jc,Jd,Je,Jf,Jg,Jh,or_true,and_true,true_and,and_self,Ji,cond_true,cond_false]
  refine fin_of [] ?_ ?_ ?_ ?_ <;> first | rfl | trivial | exact List.nodup_nil | skip

theorem take_succ_getD {α : Type} [Inhabited α] {l : List α} {i : Nat} (h : i < l.length) : l.take (i + 1) = l.take i ++ [l.getD i default] := by
  rw [List.take_add_one]; simp [List.getD, h]

def sameF (a b : List Cell) (i : Nat) : St :=
  ⟨[.full 0, .full 1, .junk, .junk, .v (.bool false), .v (.int .i64 i)] ++ List.replicate 20 .junk, inH 0 [(33, .cell a), (33, .cell b)], 2⟩
theorem cell_eta (x : Cell) : (⟨⟨x.id.dev, x.id.seq, x.id.pos⟩, ⟨x.after.dev, x.after.seq, x.after.pos⟩, x.time, x.val, x.gone⟩ : Cell) = x := rfl
theorem id_eta (x : Id3) : (⟨x.dev, x.seq, x.pos⟩ : Id3) = x := rfl

set_option maxRecDepth 100000 in
set_option maxHeartbeats 4000000 in
theorem same_spec (a b : List Cell) (ha : a.length ≤ 1000000) (hb : b.length ≤ 1000000) : Spec Try.prog 15 (inH 0 [(33, .cell a), (33, .cell b)]) 2 [.full 0, .full 1] (.v (.bool (decide (a = b)))) [] := by
  refine spec_of_ex (wr := []) tys_ok Try.func15 rfl rfl fun C hC hk => ?_
  rw [Try.ntmps15, Try.results15]
  simp only [ini, List.length_cons, List.length_nil, Nat.reduceAdd, Nat.reduceSub, List.reduceReplicate, List.cons_append, List.nil_append]
  simp only [Za,Zb,Zc,Zd,Ze,Zf,Zg,Zh,Zi,Zj,Zk,Zl,Zm,Zn,Zo,Zp,Zq,Zr,Zs,Zt,Zu,Zv,Zw,Zx,Zy,Zz,ZA,ZB,ZC,ZD,ZE,ZF,ZG,ZH,ZI,ZJ,ZK,ZL,ZM,ZN,ZO,ZP,ZQ,ZR,ZS,ZT,ZU,ZV,ZW,ZX,ZY,ZZ,Z0,Z1,Z2,Z3,Z4,Z5,Z6,Z7,Z8,Z9,Ya,Yb,Yc,Yd,Ye,Yf,Yg,Yh,Yi,Yj,Yk,Yl,Ym,Yn,Yo,Yp,Yq,Yr,Ys,Yt,Yu,Yv,Yw,Yx,Yy,Yz,YA,YB,YC,YD,YE,YF,YG,YH,YI,YJ,YK,YL,YM,YN,YO,YP,YQ,YR,YS,YT,YU,YV,YW,YX,if_true,if_false,reduceIte,reduceCtorEq,YY,YZ,Y0,Y1,Y2,Y3,Y4,Y5,Y6,Y7,Y8,Y9,Ja,Jb,Jc,Jd,Je,Jf,Jg,Jh,or_true,and_true,true_and,and_self,Ji,cond_true,cond_false]
  refine cond_split (fun h => ?_) (fun h => ?_)
  · simp only [Za,Zb,Zc,Zd,Ze,Zf,Zg,Zh,Zi,Zj,Zk,Zl,Zm,Zn,Zo,Zp,Zq,Zr,Zs,Zt,Zu,Zv,Zw,Zx,Zy,Zz,ZA,ZB,ZC,ZD,ZE,ZF,ZG,ZH,ZI,ZJ,ZK,ZL,ZM,ZN,ZO,ZP,ZQ,ZR,ZS,ZT,ZU,ZV,ZW,ZX,ZY,ZZ,Z0,Z1,Z2,Z3,Z4,Z5,Z6,Z7,Z8,Z9,Ya,Yb,Yc,Yd,Ye,Yf,Yg,Yh,Yi,Yj,Yk,Yl,Ym,Yn,Yo,Yp,Yq,Yr,Ys,Yt,Yu,Yv,Yw,Yx,Yy,Yz,YA,YB,YC,YD,YE,YF,YG,YH,YI,YJ,YK,YL,YM,YN,YO,YP,YQ,YR,YS,YT,YU,YV,YW,YX,if_true,if_false,reduceIte,reduceCtorEq,YY,YZ,Y0,Y1,Y2,Y3,Y4,Y5,Y6,Y7,Y8,Y9,Ja,Jb,Jc,Jd,Je,Jf,Jg,Jh,or_true,and_true,true_and,and_self,Ji,cond_true,cond_false]
    refine fin_of [] ?_ ?_ ?_ ?_ <;> first | rfl | trivial | exact List.nodup_nil | skip
    simp only [subS, subB, subA, List.map_cons, List.map_nil, reduceIte, Nat.reduceLT, Nat.reduceSub, List.getElem?_cons_zero, List.getElem?_cons_succ]
    have : a ≠ b := fun e => by subst e; simp at h
    simp [this]
  · simp only [Za,Zb,Zc,Zd,Ze,Zf,Zg,Zh,Zi,Zj,Zk,Zl,Zm,Zn,Zo,Zp,Zq,Zr,Zs,Zt,Zu,Zv,Zw,Zx,Zy,Zz,ZA,ZB,ZC,ZD,ZE,ZF,ZG,ZH,ZI,ZJ,ZK,ZL,ZM,ZN,ZO,ZP,ZQ,ZR,ZS,ZT,ZU,ZV,ZW,ZX,ZY,ZZ,Z0,Z1,Z2,Z3,Z4,Z5,Z6,Z7,Z8,Z9,Ya,Yb,Yc,Yd,Ye,Yf,Yg,Yh,Yi,Yj,Yk,Yl,Ym,Yn,Yo,Yp,Yq,Yr,Ys,Yt,Yu,Yv,Yw,Yx,Yy,Yz,YA,YB,YC,YD,YE,YF,YG,YH,YI,YJ,YK,YL,YM,YN,YO,YP,YQ,YR,YS,YT,YU,YV,YW,YX,if_true,if_false,reduceIte,reduceCtorEq,YY,YZ,Y0,Y1,Y2,Y3,Y4,Y5,Y6,Y7,Y8,Y9,Ja,Jb,Jc,Jd,Je,Jf,Jg,Jh,or_true,and_true,true_and,and_self,Ji,cond_true,cond_false]
    have hlen : a.length = b.length := by have : ((a.length : Int) = b.length) := by simpa using h
                                          omega
    refine loop_rule (wr := []) (by rw [hC]; exact tys_ok) (sameF a b) (fun i => i ≤ a.length ∧ a.take i = b.take i) (fun i => a.length - i) 0 ⟨Nat.zero_le _, by simp⟩ ?_ ?_
    · simp only [sameF, List.reduceReplicate, List.cons_append, List.nil_append]
      refine ent_of [] (by rw [hk]; simp) (by simp) (by simp [entT, mp, mps, bd, bds, sg]) (by simp [entH, sg, get, mpC, mps, mp, bdC, bds, bd, inH]) (by simp [entI, inH, sg])
    · rintro i ⟨hil, hinv⟩
      simp only [sameF, List.reduceReplicate, List.cons_append, List.nil_append]
      simp only [Za,Zb,Zc,Zd,Ze,Zf,Zg,Zh,Zi,Zj,Zk,Zl,Zm,Zn,Zo,Zp,Zq,Zr,Zs,Zt,Zu,Zv,Zw,Zx,Zy,Zz,ZA,ZB,ZC,ZD,ZE,ZF,ZG,ZH,ZI,ZJ,ZK,ZL,ZM,ZN,ZO,ZP,ZQ,ZR,ZS,ZT,ZU,ZV,ZW,ZX,ZY,ZZ,Z0,Z1,Z2,Z3,Z4,Z5,Z6,Z7,Z8,Z9,Ya,Yb,Yc,Yd,Ye,Yf,Yg,Yh,Yi,Yj,Yk,Yl,Ym,Yn,Yo,Yp,Yq,Yr,Ys,Yt,Yu,Yv,Yw,Yx,Yy,Yz,YA,YB,YC,YD,YE,YF,YG,YH,YI,YJ,YK,YL,YM,YN,YO,YP,YQ,YR,YS,YT,YU,YV,YW,YX,if_true,if_false,reduceIte,reduceCtorEq,YY,YZ,Y0,Y1,Y2,Y3,Y4,Y5,Y6,Y7,Y8,Y9,Ja,Jb,Jc,Jd,Je,Jf,Jg,Jh,or_true,and_true,true_and,and_self,Ji,cond_true,cond_false]
      refine cond_split (fun h2 => ?_) (fun h2 => ?_)
      · have hlt : i < a.length := by simpa using h2
        simp only [Za,Zb,Zc,Zd,Ze,Zf,Zg,Zh,Zi,Zj,Zk,Zl,Zm,Zn,Zo,Zp,Zq,Zr,Zs,Zt,Zu,Zv,Zw,Zx,Zy,Zz,ZA,ZB,ZC,ZD,ZE,ZF,ZG,ZH,ZI,ZJ,ZK,ZL,ZM,ZN,ZO,ZP,ZQ,ZR,ZS,ZT,ZU,ZV,ZW,ZX,ZY,ZZ,Z0,Z1,Z2,Z3,Z4,Z5,Z6,Z7,Z8,Z9,Ya,Yb,Yc,Yd,Ye,Yf,Yg,Yh,Yi,Yj,Yk,Yl,Ym,Yn,Yo,Yp,Yq,Yr,Ys,Yt,Yu,Yv,Yw,Yx,Yy,Yz,YA,YB,YC,YD,YE,YF,YG,YH,YI,YJ,YK,YL,YM,YN,YO,YP,YQ,YR,YS,YT,YU,YV,YW,YX,if_true,if_false,reduceIte,reduceCtorEq,YY,YZ,Y0,Y1,Y2,Y3,Y4,Y5,Y6,Y7,Y8,Y9,Ja,Jb,Jc,Jd,Je,Jf,Jg,Jh,or_true,and_true,true_and,and_self,Ji,cond_true,cond_false]
        refine draw_rule (wr := []) hC tys_ok (by kernel_rfl) (by kernel_rfl) ?_
        simp only [Jm,Jn,Jo,Jp,Jq,Jr,Js,Jt,Ju,Jv,Jw,Jx,Jy,Jz,JA,JB,JC,JD,JE,JF,Za,Zb,Zc,Zd,Ze,Zf,Zg,Zh,Zi,Zj,Zk,Zl,Zm,Zn,Zo,Zp,Zq,Zr,Zs,Zt,Zu,Zv,Zw,Zx,Zy,Zz,ZA,ZB,ZC,ZD,ZE,ZF,ZG,ZH,ZI,ZJ,ZK,ZL,ZM,ZN,ZO,ZP,ZQ,ZR,ZS,ZT,ZU,ZV,ZW,ZX,ZY,ZZ,Z0,Z1,Z2,Z3,Z4,Z5,Z6,Z7,Z8,Z9,Ya,Yb,Yc,Yd,Ye,Yf,Yg,Yh,Yi,Yj,Yk,Yl,Ym,Yn,Yo,Yp,Yq,Yr,Ys,Yt,Yu,Yv,Yw,Yx,Yy,Yz,YA,YB,YC,YD,YE,YF,YG,YH,YI,YJ,YK,YL,YM,YN,YO,YP,YQ,YR,YS,YT,YU,YV,YW,YX,if_true,if_false,reduceIte,reduceCtorEq,YY,YZ,Y0,Y1,Y2,Y3,Y4,Y5,Y6,Y7,Y8,Y9,Ja,Jb,Jc,Jd,Je,Jf,Jg,Jh,or_true,and_true,true_and,and_self,Ji,cond_true,cond_false]
        repeat (refine And.intro (by omega) ?_)
        simp only [bin, eqCell, det, true_and, cell_eta]
        refine cond_split (fun h3 => ?_) (fun h3 => ?_)
        · simp only [Za,Zb,Zc,Zd,Ze,Zf,Zg,Zh,Zi,Zj,Zk,Zl,Zm,Zn,Zo,Zp,Zq,Zr,Zs,Zt,Zu,Zv,Zw,Zx,Zy,Zz,ZA,ZB,ZC,ZD,ZE,ZF,ZG,ZH,ZI,ZJ,ZK,ZL,ZM,ZN,ZO,ZP,ZQ,ZR,ZS,ZT,ZU,ZV,ZW,ZX,ZY,ZZ,Z0,Z1,Z2,Z3,Z4,Z5,Z6,Z7,Z8,Z9,Ya,Yb,Yc,Yd,Ye,Yf,Yg,Yh,Yi,Yj,Yk,Yl,Ym,Yn,Yo,Yp,Yq,Yr,Ys,Yt,Yu,Yv,Yw,Yx,Yy,Yz,YA,YB,YC,YD,YE,YF,YG,YH,YI,YJ,YK,YL,YM,YN,YO,YP,YQ,YR,YS,YT,YU,YV,YW,YX,if_true,if_false,reduceIte,reduceCtorEq,YY,YZ,Y0,Y1,Y2,Y3,Y4,Y5,Y6,Y7,Y8,Y9,Ja,Jb,Jc,Jd,Je,Jf,Jg,Jh,or_true,and_true,true_and,and_self,Ji,cond_true,cond_false]
          refine fin_of [] ?_ ?_ ?_ ?_ <;> first | rfl | trivial | exact List.nodup_nil | skip
          simp only [subS, subB, subA, List.map_cons, List.map_nil, reduceIte, Nat.reduceLT, Nat.reduceSub, List.getElem?_cons_zero, List.getElem?_cons_succ]
          have : a ≠ b := fun e => by subst e; simp at h3
          simp [this]
        · have he : a.getD i default = b.getD i default := by simpa using h3
          simp only [Za,Zb,Zc,Zd,Ze,Zf,Zg,Zh,Zi,Zj,Zk,Zl,Zm,Zn,Zo,Zp,Zq,Zr,Zs,Zt,Zu,Zv,Zw,Zx,Zy,Zz,ZA,ZB,ZC,ZD,ZE,ZF,ZG,ZH,ZI,ZJ,ZK,ZL,ZM,ZN,ZO,ZP,ZQ,ZR,ZS,ZT,ZU,ZV,ZW,ZX,ZY,ZZ,Z0,Z1,Z2,Z3,Z4,Z5,Z6,Z7,Z8,Z9,Ya,Yb,Yc,Yd,Ye,Yf,Yg,Yh,Yi,Yj,Yk,Yl,Ym,Yn,Yo,Yp,Yq,Yr,Ys,Yt,Yu,Yv,Yw,Yx,Yy,Yz,YA,YB,YC,YD,YE,YF,YG,YH,YI,YJ,YK,YL,YM,YN,YO,YP,YQ,YR,YS,YT,YU,YV,YW,YX,if_true,if_false,reduceIte,reduceCtorEq,YY,YZ,Y0,Y1,Y2,Y3,Y4,Y5,Y6,Y7,Y8,Y9,Ja,Jb,Jc,Jd,Je,Jf,Jg,Jh,or_true,and_true,true_and,and_self,Ji,cond_true,cond_false]
          repeat (refine And.intro (by omega) ?_)
          refine ⟨i + 1, ⟨hlt, by rw [take_succ_getD hlt, take_succ_getD (by omega), hinv, he]⟩, by omega, ?_⟩
          simp only [sameF, List.reduceReplicate, List.cons_append, List.nil_append]
          refine ent_of [] (by rw [hk]; simp) (by simp) (by simp [entT, mp, mps, bd, bds, sg]) (by simp [entH, sg, get, mpC, mps, mp, bdC, bds, bd, inH]) (by simp [entI, inH, sg])
      · have hge : i = a.length := by have : ¬ i < a.length := by simpa using h2
                                      omega
        simp only [Za,Zb,Zc,Zd,Ze,Zf,Zg,Zh,Zi,Zj,Zk,Zl,Zm,Zn,Zo,Zp,Zq,Zr,Zs,Zt,Zu,Zv,Zw,Zx,Zy,Zz,ZA,ZB,ZC,ZD,ZE,ZF,ZG,ZH,ZI,ZJ,ZK,ZL,ZM,ZN,ZO,ZP,ZQ,ZR,ZS,ZT,ZU,ZV,ZW,ZX,ZY,ZZ,Z0,Z1,Z2,Z3,Z4,Z5,Z6,Z7,Z8,Z9,Ya,Yb,Yc,Yd,Ye,Yf,Yg,Yh,Yi,Yj,Yk,Yl,Ym,Yn,Yo,Yp,Yq,Yr,Ys,Yt,Yu,Yv,Yw,Yx,Yy,Yz,YA,YB,YC,YD,YE,YF,YG,YH,YI,YJ,YK,YL,YM,YN,YO,YP,YQ,YR,YS,YT,YU,YV,YW,YX,if_true,if_false,reduceIte,reduceCtorEq,YY,YZ,Y0,Y1,Y2,Y3,Y4,Y5,Y6,Y7,Y8,Y9,Ja,Jb,Jc,Jd,Je,Jf,Jg,Jh,or_true,and_true,true_and,and_self,Ji,cond_true,cond_false]
        refine fin_of [] ?_ ?_ ?_ ?_ <;> first | rfl | trivial | exact List.nodup_nil | skip
        simp only [subS, subB, subA, List.map_cons, List.map_nil, reduceIte, Nat.reduceLT, Nat.reduceSub, List.getElem?_cons_zero, List.getElem?_cons_succ]
        subst hge
        rw [List.take_length, hlen, List.take_length] at hinv
        simp [hinv]

set_option maxRecDepth 100000 in
theorem validID_spec (x : Id3) : Spec Try.prog 39 (inH 0 []) 0 [.agg (idS x)] (.v (.bool (validI x))) [] := by
  refine spec_of_ex (wr := []) tys_ok Try.func39 rfl rfl fun C hC hk => ?_
  rw [Try.ntmps39, Try.results39]
  simp only [ini, List.length_cons, List.length_nil, Nat.reduceAdd, Nat.reduceSub, List.reduceReplicate, List.cons_append, List.nil_append]
  simp only [Za,Zb,Zc,Zd,Ze,Zf,Zg,Zh,Zi,Zj,Zk,Zl,Zm,Zn,Zo,Zp,Zq,Zr,Zs,Zt,Zu,Zv,Zw,Zx,Zy,Zz,ZA,ZB,ZC,ZD,ZE,ZF,ZG,ZH,ZI,ZJ,ZK,ZL,ZM,ZN,ZO,ZP,ZQ,ZR,ZS,ZT,ZU,ZV,ZW,ZX,ZY,ZZ,Z0,Z1,Z2,Z3,Z4,Z5,Z6,Z7,Z8,Z9,Ya,Yb,Yc,Yd,Ye,Yf,Yg,Yh,Yi,Yj,Yk,Yl,Ym,Yn,Yo,Yp,Yq,Yr,Ys,Yt,Yu,Yv,Yw,Yx,Yy,Yz,YA,YB,YC,YD,YE,YF,YG,YH,YI,YJ,YK,YL,YM,YN,YO,YP,YQ,YR,YS,YT,YU,YV,YW,YX,if_true,if_false,reduceIte,reduceCtorEq,YY,YZ,Y0,Y1,Y2,Y3,Y4,Y5,Y6,Y7,Y8,Y9,Ja,Jb,Jc,Jd,Je,Jf,Jg,Jh,or_true,and_true,true_and,and_self,Ji,cond_true,cond_false]
  iterate 5
    all_goals try (refine guard_split (fun h => ?_) (fun h => ?_))
    all_goals try simp only [Za,Zb,Zc,Zd,Ze,Zf,Zg,Zh,Zi,Zj,Zk,Zl,Zm,Zn,Zo,Zp,Zq,Zr,Zs,Zt,Zu,Zv,Zw,Zx,Zy,Zz,ZA,ZB,ZC,ZD,ZE,ZF,ZG,ZH,ZI,ZJ,ZK,ZL,ZM,ZN,ZO,ZP,ZQ,ZR,ZS,ZT,ZU,ZV,ZW,ZX,ZY,ZZ,Z0,Z1,Z2,Z3,Z4,Z5,Z6,Z7,Z8,Z9,Ya,Yb,Yc,Yd,Ye,Yf,Yg,Yh,Yi,Yj,Yk,Yl,Ym,Yn,Yo,Yp,Yq,Yr,Ys,Yt,Yu,Yv,Yw,Yx,Yy,Yz,YA,YB,YC,YD,YE,YF,YG,YH,YI,YJ,YK,YL,YM,YN,YO,YP,YQ,YR,YS,YT,YU,YV,YW,YX,if_true,if_false,reduceIte,reduceCtorEq,YY,YZ,Y0,Y1,Y2,Y3,Y4,Y5,Y6,Y7,Y8,Y9,Ja,Jb,Jc,Jd,Je,Jf,Jg,Jh,or_true,and_true,true_and,and_self,Ji,cond_true,cond_false]
  all_goals (refine fin_of [] ?_ ?_ ?_ ?_ <;> first | rfl | trivial | exact List.nodup_nil | skip)
  all_goals (simp_all [subS, subB, subA, validI]; try omega)

set_option maxRecDepth 100000 in
theorem rvalidID_spec (x : Id3) : Spec Try.prog 49 (inH 0 []) 0 [.agg (idS x)] (.v (.bool (validI x))) [] := by
  refine spec_of_ex (wr := []) tys_ok Try.func49 rfl rfl fun C hC hk => ?_
  rw [Try.ntmps49, Try.results49]
  simp only [ini, List.length_cons, List.length_nil, Nat.reduceAdd, Nat.reduceSub, List.reduceReplicate, List.cons_append, List.nil_append]
  simp only [Za,Zb,Zc,Zd,Ze,Zf,Zg,Zh,Zi,Zj,Zk,Zl,Zm,Zn,Zo,Zp,Zq,Zr,Zs,Zt,Zu,Zv,Zw,Zx,Zy,Zz,ZA,ZB,ZC,ZD,ZE,ZF,ZG,ZH,ZI,ZJ,ZK,ZL,ZM,ZN,ZO,ZP,ZQ,ZR,ZS,ZT,ZU,ZV,ZW,ZX,ZY,ZZ,Z0,Z1,Z2,Z3,Z4,Z5,Z6,Z7,Z8,Z9,Ya,Yb,Yc,Yd,Ye,Yf,Yg,Yh,Yi,Yj,Yk,Yl,Ym,Yn,Yo,Yp,Yq,Yr,Ys,Yt,Yu,Yv,Yw,Yx,Yy,Yz,YA,YB,YC,YD,YE,YF,YG,YH,YI,YJ,YK,YL,YM,YN,YO,YP,YQ,YR,YS,YT,YU,YV,YW,YX,if_true,if_false,reduceIte,reduceCtorEq,YY,YZ,Y0,Y1,Y2,Y3,Y4,Y5,Y6,Y7,Y8,Y9,Ja,Jb,Jc,Jd,Je,Jf,Jg,Jh,or_true,and_true,true_and,and_self,Ji,cond_true,cond_false]
  iterate 5
    all_goals try (refine guard_split (fun h => ?_) (fun h => ?_))
    all_goals try simp only [Za,Zb,Zc,Zd,Ze,Zf,Zg,Zh,Zi,Zj,Zk,Zl,Zm,Zn,Zo,Zp,Zq,Zr,Zs,Zt,Zu,Zv,Zw,Zx,Zy,Zz,ZA,ZB,ZC,ZD,ZE,ZF,ZG,ZH,ZI,ZJ,ZK,ZL,ZM,ZN,ZO,ZP,ZQ,ZR,ZS,ZT,ZU,ZV,ZW,ZX,ZY,ZZ,Z0,Z1,Z2,Z3,Z4,Z5,Z6,Z7,Z8,Z9,Ya,Yb,Yc,Yd,Ye,Yf,Yg,Yh,Yi,Yj,Yk,Yl,Ym,Yn,Yo,Yp,Yq,Yr,Ys,Yt,Yu,Yv,Yw,Yx,Yy,Yz,YA,YB,YC,YD,YE,YF,YG,YH,YI,YJ,YK,YL,YM,YN,YO,YP,YQ,YR,YS,YT,YU,YV,YW,YX,if_true,if_false,reduceIte,reduceCtorEq,YY,YZ,Y0,Y1,Y2,Y3,Y4,Y5,Y6,Y7,Y8,Y9,Ja,Jb,Jc,Jd,Je,Jf,Jg,Jh,or_true,and_true,true_and,and_self,Ji,cond_true,cond_false]
  all_goals (refine fin_of [] ?_ ?_ ?_ ?_ <;> first | rfl | trivial | exact List.nodup_nil | skip)
  all_goals (simp_all [subS, subB, subA, validI]; try omega)

end E
end Go.Proofs.Ytlkchnfgeedghaa
