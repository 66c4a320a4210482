/- The recursion of sequence.Order is walked here. -/
import Derived.Test.YtlkchnfgeedghaaPD
set_option linter.unusedSimpArgs false
namespace Go.Proofs.Ytlkchnfgeedghaa
namespace E
open Go
open Go.Proofs.Ytlkchnfgeedghaa.E renaming Ex_seq → Za, Ex_region → Zb, Ex_block → Zc, Ex_exit → Zd, Ex_ret → Ze, Ex_skip → Zf, Ex_label → Zg, Ex_scope → Zh, Ex_loop → Zi, Ex_draw → Zj, Ex_if → Zk, condD_t → Zl, condD_f → Zm, SeqK_normal → Zn, SeqK_ret → Zo, SeqK_exit → Zp, BlockK_normal → Zq, BlockK_exit → Zr, BlockK_ret → Zs, ScopeK_normal → Zt, ScopeK_exit → Zu, ScopeK_ret → Zv, LoopK_normal → Zw, LoopK_exit → Zx, LoopK_ret → Zy, NormK_run → Zz, sops_run → ZA, sops_nil → ZB, guardO → ZC, guardG → ZD, guardD_tt → ZE, guardD_ff → ZF, guardD_tf → ZG, guardD_ft → ZH, guardD_u → ZI, OpsK_run → ZJ, InlK_run → ZK, baseD → ZL, delC → ZM, RowC.ap → ZN, RowC.over → ZO, RowC.take → ZP, RowC.drop → ZQ, RowC.zeros → ZR, step → ZS, goRs → ZT, goCall → ZU, goNew → ZV, pur → ZW, bin → ZX, ibin → ZY, sbin → ZZ, num → Z0, lo → Z1, hi → Z2, St.ev → Z3, ofConst → Z4, nth → Z5, upd → Z6, PutD → Z7, tys → Z8, get → Z9, setC → Ya, ld → Yb, stO → Yc, segO → Yd, dropO → Ye, takeO → Yf, nthO → Yg, layO → Yh, flat → Yi, fillO → Yj, pushAll → Yk, RowC.push → Yl, RowC.nil → Ym, RowC.get → Yn, RowC.sz → Yo, RowC.len → Yp, setCells → Yq, RowC.setCell → Yr, lenK → Ys, boundsOf → Yt, caps → Yu, TK.agg → Yv, RetK_r → Yx, RetK_n → Yy, RetO → Yz, resOf → YA, noTup → YB, packR → YC, inH → YD, newH → YE, ren → JX, renB → JY, renA → JZ, toC → J0, rowsOf → J1, eqId → J3, eqCell → J4, id_eta → J5, cell_eta → J6
open Go renaming Value.oneCell' → Yw
open List renaming contains_cons → YF, contains_nil → YG, getElem?_toArray → YL, getElem?_cons_zero → YM, getElem?_cons_succ → YN, map_cons → YO, map_nil → YP, length_cons → YQ, length_nil → YR, all_cons → YS, all_nil → YT, append_nil → YU, cons_append → YV, nil_append → YW, size_toArray → YX
open Option renaming bind_some → YH, bind_none → YI, map_some → YJ, map_none → YK, isSome_some → Jh
open Nat renaming reduceAdd → YY, reduceMul → YZ, reduceSub → Y0, reduceEqDiff → Y1, reduceLeDiff → Y2, reduceLT → Y3, reduceBEq → Y4, reduceBNe → Y5, add_zero → Y6, zero_add → Y7, lt_irrefl → J2
open Bool renaming or_false → Y8, false_or → Y9, or_true → Ja, not_true → Jb, not_false → Jc, and_true → Jd, true_and → Je, and_self → Jf, false_eq_true → Jg
open Int renaming toNat_natCast → Ji

/-- What the recursion works on: the boxes of the map, of the row so far and of itself; the map; the row. -/
def bH (M : List (List Int × RowC)) (acc : List Cell) (out : List Nat) (n : Nat) : Heap :=
  [(0, true, .box 54 [.mp 3]), (1, true, .box 22 [.full n]), (2, true, .box 59 [.clo 30 [0, 1, 2]]), (3, true, .kids 33 M out), (n, true, .row 33 (.cell acc))]
/-- .. after i children. -/
def accI (l : List Cell) (f : Nat) (acc ks : List Cell) (i : Nat) : List Cell := acc ++ (ks.take i).flatMap fun c => c :: belowN l f c.id
def outI (l : List Cell) (f : Nat) (M : List (List Int × RowC)) (x : Id3) (out : List Nat) (ks : List Cell) (i : Nat) : List Nat := outV M (x :: (ks.take i).flatMap fun c => visits l f c.id) out
def belF (l : List Cell) (f : Nat) (M : List (List Int × RowC)) (x : Id3) (out : List Nat) (acc ks : List Cell) (i : Nat) : St :=
  ⟨[.junk, .ptr 0 0, .ptr 1 0, .ptr 2 0] ++ List.replicate 9 .junk ++ [.full 6, .v (.int .i64 ks.length), .v (.int .i64 i)] ++ List.replicate 12 .junk, (6, true, .row 33 (.cell ks)) :: bH M (accI l f acc ks i) (outI l f M x out ks i) 7, 8⟩

set_option maxRecDepth 100000 in
set_option maxHeartbeats 8000000 in
theorem bel_spec (l : List Cell) (hl : l.length ≤ 100000) (hdl : distinct l) {M : List (List Int × RowC)} (hM : KidsOf l M) : ∀ (f : Nat) (x : Id3) (acc : List Cell) (out : List Nat), deepB l f x → (visits l f x).Nodup → fresh M out (visits l f x) → acc.length + (belowN l f x).length ≤ 1000000 →
    SpecM Try.prog 30 (bH M acc out 4) 5 [.agg (idS x), .ptr 0 0, .ptr 1 0, .ptr 2 0] (.tup []) (bH M (acc ++ belowN l f x) (outV M (visits l f x) out) 5) 6
  | 0, x, acc, out, h, _, _, _ => h.elim
  | f + 1, x, acc, out, hd, hnd, hfr, hlen => by
    have hln : ∀ e ∈ M, e.1.length = 3 := hM.len
    have hks := visits_succ l f x
    have hkp : (kidsL l x).Perm (kidsF l x) := kidsL_perm
    have hkl := kidsL_len l x
    refine specM_of_ex (wr := []) tys_ok Try.func30 rfl rfl fun C hC hk => ?_
    rw [Try.ntmps30, Try.results30]
    simp only [ini, List.length_cons, List.length_nil, Nat.reduceAdd, Nat.reduceSub, List.reduceReplicate, List.cons_append, List.nil_append]
    simp only [bH]
    simp only [J3,J4,J5,J6,Za,Zb,Zc,Zd,Ze,Zf,Zg,Zh,Zi,Zj,Zk,Zl,Zm,Zn,Zo,Zp,Zq,Zr,Zs,Zt,Zu,Zv,Zw,Zx,Zy,Zz,ZA,ZB,ZC,ZD,ZE,ZF,ZG,ZH,ZI,ZJ,ZK,ZL,ZM,ZN,ZO,ZP,ZQ,ZR,ZS,ZT,ZU,ZV,ZW,ZX,ZY,ZZ,Z0,Z1,Z2,Z3,Z4,Z5,Z6,Z7,Z8,Z9,Ya,Yb,Yc,Yd,Ye,Yf,Yg,Yh,Yi,Yj,Yk,Yl,Ym,Yn,Yo,Yp,Yq,Yr,Ys,Yt,Yu,Yv,Yw,Yx,Yy,Yz,YA,YB,YC,YD,YE,YF,YG,YH,YI,YJ,YK,YL,YM,YN,YO,YP,YQ,YR,YS,YT,YU,YV,YW,YX,if_true,if_false,reduceIte,reduceCtorEq,YY,YZ,Y0,Y1,Y2,Y3,Y4,Y5,Y6,Y7,Y8,Y9,Ja,Jb,Jc,Jd,Je,Jf,Jg,Jh,or_true,and_true,true_and,and_self,Ji,cond_true,cond_false]
    refine kidsLookup_rule (ks := keyI x) (by rw [hC]; exact tys_ok) rfl rfl (by rw [hC]; kernel_rfl) (by rw [hC]; exact key_id) rfl rfl rfl rfl hln (fun hno => ?_) (fun j hj hyes => ⟨hfr x (by simp [visits]) j hyes, ?_⟩)
    · have hk0 : kidsL l x = [] := by have := hM.abs x hno; rw [this] at hkp; exact List.perm_nil.1 hkp
      have hb0 : belowN l (f + 1) x = [] := by rw [belowN, hk0]; rfl
      have hv0 : outV M (visits l (f + 1) x) out = out := by rw [hks, hk0]; simp [outV, hno]
      simp only [J3,J4,J5,J6,Za,Zb,Zc,Zd,Ze,Zf,Zg,Zh,Zi,Zj,Zk,Zl,Zm,Zn,Zo,Zp,Zq,Zr,Zs,Zt,Zu,Zv,Zw,Zx,Zy,Zz,ZA,ZB,ZC,ZD,ZE,ZF,ZG,ZH,ZI,ZJ,ZK,ZL,ZM,ZN,ZO,ZP,ZQ,ZR,ZS,ZT,ZU,ZV,ZW,ZX,ZY,ZZ,Z0,Z1,Z2,Z3,Z4,Z5,Z6,Z7,Z8,Z9,Ya,Yb,Yc,Yd,Ye,Yf,Yg,Yh,Yi,Yj,Yk,Yl,Ym,Yn,Yo,Yp,Yq,Yr,Ys,Yt,Yu,Yv,Yw,Yx,Yy,Yz,YA,YB,YC,YD,YE,YF,YG,YH,YI,YJ,YK,YL,YM,YN,YO,YP,YQ,YR,YS,YT,YU,YV,YW,YX,if_true,if_false,reduceIte,reduceCtorEq,YY,YZ,Y0,Y1,Y2,Y3,Y4,Y5,Y6,Y7,Y8,Y9,Ja,Jb,Jc,Jd,Je,Jf,Jg,Jh,or_true,and_true,true_and,and_self,Ji,cond_true,cond_false]
      refine call_is hC desc_none rfl (by exact ⟨rfl, rfl, trivial⟩) ?_
      simp only [JX,JY,JZ,J0,J1,YE,YW,YV,YR,YQ,YO,YP,Y6,YY,Y3,Y0,reduceIte,YM,YN,J2,if_false]
      simp only [J3,J4,J5,J6,Za,Zb,Zc,Zd,Ze,Zf,Zg,Zh,Zi,Zj,Zk,Zl,Zm,Zn,Zo,Zp,Zq,Zr,Zs,Zt,Zu,Zv,Zw,Zx,Zy,Zz,ZA,ZB,ZC,ZD,ZE,ZF,ZG,ZH,ZI,ZJ,ZK,ZL,ZM,ZN,ZO,ZP,ZQ,ZR,ZS,ZT,ZU,ZV,ZW,ZX,ZY,ZZ,Z0,Z1,Z2,Z3,Z4,Z5,Z6,Z7,Z8,Z9,Ya,Yb,Yc,Yd,Ye,Yf,Yg,Yh,Yi,Yj,Yk,Yl,Ym,Yn,Yo,Yp,Yq,Yr,Ys,Yt,Yu,Yv,Yw,Yx,Yy,Yz,YA,YB,YC,YD,YE,YF,YG,YH,YI,YJ,YK,YL,YM,YN,YO,YP,YQ,YR,YS,YT,YU,YV,YW,YX,if_true,if_false,reduceIte,reduceCtorEq,YY,YZ,Y0,Y1,Y2,Y3,Y4,Y5,Y6,Y7,Y8,Y9,Ja,Jb,Jc,Jd,Je,Jf,Jg,Jh,or_true,and_true,true_and,and_self,Ji,cond_true,cond_false]
      refine loop_rule (α := Unit) (wr := []) (by rw [hC]; exact tys_ok) (fun _ => ⟨[.junk, .junk, .junk, .junk, .junk, .junk, .junk, .junk, .junk, .junk, .junk, .junk, .junk, .v (.slice none 0 0), .v (.int .i64 0), .v (.int .i64 0)] ++ List.replicate 12 .junk, bH M acc out 4, 5⟩) (fun _ => True) (fun _ => 0) () trivial ?_ ?_
      · simp only [bH, List.reduceReplicate, List.cons_append, List.nil_append]
        refine ent_of [] (by rw [hk]; simp) (by simp) (by simp [entT, mp, mps, bd, bds, sg]) (by simp [entH, sg, get, mpC, mps, mp, bdC, bds, bd, inH]) (by simp [entI, inH, sg])
      · rintro _ _
        simp only [bH, List.reduceReplicate, List.cons_append, List.nil_append]
        simp only [J3,J4,J5,J6,Za,Zb,Zc,Zd,Ze,Zf,Zg,Zh,Zi,Zj,Zk,Zl,Zm,Zn,Zo,Zp,Zq,Zr,Zs,Zt,Zu,Zv,Zw,Zx,Zy,Zz,ZA,ZB,ZC,ZD,ZE,ZF,ZG,ZH,ZI,ZJ,ZK,ZL,ZM,ZN,ZO,ZP,ZQ,ZR,ZS,ZT,ZU,ZV,ZW,ZX,ZY,ZZ,Z0,Z1,Z2,Z3,Z4,Z5,Z6,Z7,Z8,Z9,Ya,Yb,Yc,Yd,Ye,Yf,Yg,Yh,Yi,Yj,Yk,Yl,Ym,Yn,Yo,Yp,Yq,Yr,Ys,Yt,Yu,Yv,Yw,Yx,Yy,Yz,YA,YB,YC,YD,YE,YF,YG,YH,YI,YJ,YK,YL,YM,YN,YO,YP,YQ,YR,YS,YT,YU,YV,YW,YX,if_true,if_false,reduceIte,reduceCtorEq,YY,YZ,Y0,Y1,Y2,Y3,Y4,Y5,Y6,Y7,Y8,Y9,Ja,Jb,Jc,Jd,Je,Jf,Jg,Jh,or_true,and_true,true_and,and_self,Ji,cond_true,cond_false]
        refine cond_split (fun h2 => absurd (of_decide_eq_true h2) (by omega)) (fun h2 => ?_)
        simp only [J3,J4,J5,J6,Za,Zb,Zc,Zd,Ze,Zf,Zg,Zh,Zi,Zj,Zk,Zl,Zm,Zn,Zo,Zp,Zq,Zr,Zs,Zt,Zu,Zv,Zw,Zx,Zy,Zz,ZA,ZB,ZC,ZD,ZE,ZF,ZG,ZH,ZI,ZJ,ZK,ZL,ZM,ZN,ZO,ZP,ZQ,ZR,ZS,ZT,ZU,ZV,ZW,ZX,ZY,ZZ,Z0,Z1,Z2,Z3,Z4,Z5,Z6,Z7,Z8,Z9,Ya,Yb,Yc,Yd,Ye,Yf,Yg,Yh,Yi,Yj,Yk,Yl,Ym,Yn,Yo,Yp,Yq,Yr,Ys,Yt,Yu,Yv,Yw,Yx,Yy,Yz,YA,YB,YC,YD,YE,YF,YG,YH,YI,YJ,YK,YL,YM,YN,YO,YP,YQ,YR,YS,YT,YU,YV,YW,YX,if_true,if_false,reduceIte,reduceCtorEq,YY,YZ,Y0,Y1,Y2,Y3,Y4,Y5,Y6,Y7,Y8,Y9,Ja,Jb,Jc,Jd,Je,Jf,Jg,Jh,or_true,and_true,true_and,and_self,Ji,cond_true,cond_false]
        rw [hv0, hb0, List.append_nil]
        refine finM_of [(5, 4)] hk (by omega) (by simp) rfl rfl ?_ ?_
        · simp [entH, sg, get, mpC, bdC, mps, mp, bds, bd]
        · simp [entI, sg]
    · have hrow := hM.pres x j hj hyes
      have hkn : (kidsF l x).length = (kidsL l x).length := hkp.length_eq.symm
      have hkid : ((kidsF l x).map Cell.id).Nodup := (List.filter_sublist.map Cell.id).nodup hdl.1
      simp only [hrow]
      simp only [J3,J4,J5,J6,Za,Zb,Zc,Zd,Ze,Zf,Zg,Zh,Zi,Zj,Zk,Zl,Zm,Zn,Zo,Zp,Zq,Zr,Zs,Zt,Zu,Zv,Zw,Zx,Zy,Zz,ZA,ZB,ZC,ZD,ZE,ZF,ZG,ZH,ZI,ZJ,ZK,ZL,ZM,ZN,ZO,ZP,ZQ,ZR,ZS,ZT,ZU,ZV,ZW,ZX,ZY,ZZ,Z0,Z1,Z2,Z3,Z4,Z5,Z6,Z7,Z8,Z9,Ya,Yb,Yc,Yd,Ye,Yf,Yg,Yh,Yi,Yj,Yk,Yl,Ym,Yn,Yo,Yp,Yq,Yr,Ys,Yt,Yu,Yv,Yw,Yx,Yy,Yz,YA,YB,YC,YD,YE,YF,YG,YH,YI,YJ,YK,YL,YM,YN,YO,YP,YQ,YR,YS,YT,YU,YV,YW,YX,if_true,if_false,reduceIte,reduceCtorEq,YY,YZ,Y0,Y1,Y2,Y3,Y4,Y5,Y6,Y7,Y8,Y9,Ja,Jb,Jc,Jd,Je,Jf,Jg,Jh,or_true,and_true,true_and,and_self,Ji,cond_true,cond_false]
      refine callM_is hC [(0, 6)] (desc_spec (o := kidsL l x) hkid (by omega) hkp (kids_sorted hdl x)) (by omega) (fun p h1 h2 => by omega) ?_ ?_ ?_ rfl rfl ?_ rfl ?_
      · simp [entH, sg, get, mpC, bdC]
      · simp [entI]
      · intro p hp; exact ⟨_, _, by obtain rfl : p = 0 := by omega
                                    exact List.mem_cons_self⟩
      · intro p o ch hp
        simp only [List.mem_cons, List.not_mem_nil, or_false, Prod.mk.injEq] at hp
        obtain ⟨rfl, rfl, rfl⟩ := hp
        exact ⟨rfl, by omega, rfl, fun _ => ⟨_, List.mem_cons_self⟩⟩
      · simp only [renH, lentH, sg, mp, mps, mpC, delC, List.map_cons, List.map_nil, reduceIte, Nat.reduceEqDiff, Nat.reduceSub, Nat.sub_self, Nat.add_zero, reduceCtorEq]
        simp only [J3,J4,J5,J6,Za,Zb,Zc,Zd,Ze,Zf,Zg,Zh,Zi,Zj,Zk,Zl,Zm,Zn,Zo,Zp,Zq,Zr,Zs,Zt,Zu,Zv,Zw,Zx,Zy,Zz,ZA,ZB,ZC,ZD,ZE,ZF,ZG,ZH,ZI,ZJ,ZK,ZL,ZM,ZN,ZO,ZP,ZQ,ZR,ZS,ZT,ZU,ZV,ZW,ZX,ZY,ZZ,Z0,Z1,Z2,Z3,Z4,Z5,Z6,Z7,Z8,Z9,Ya,Yb,Yc,Yd,Ye,Yf,Yg,Yh,Yi,Yj,Yk,Yl,Ym,Yn,Yo,Yp,Yq,Yr,Ys,Yt,Yu,Yv,Yw,Yx,Yy,Yz,YA,YB,YC,YD,YE,YF,YG,YH,YI,YJ,YK,YL,YM,YN,YO,YP,YQ,YR,YS,YT,YU,YV,YW,YX,if_true,if_false,reduceIte,reduceCtorEq,YY,YZ,Y0,Y1,Y2,Y3,Y4,Y5,Y6,Y7,Y8,Y9,Ja,Jb,Jc,Jd,Je,Jf,Jg,Jh,or_true,and_true,true_and,and_self,Ji,cond_true,cond_false]
        generalize hkse : kidsL l x = ks at *
        have hbel : belowN l (f + 1) x = ks.flatMap fun c => c :: belowN l f c.id := by rw [belowN, hkse]
        refine loop_rule (wr := []) (by rw [hC]; exact tys_ok) (belF l f M x out acc ks) (fun i => i ≤ ks.length) (fun i => ks.length - i) 0 (Nat.zero_le _) ?_ ?_
        · have ho : outI l f M x out ks 0 = j :: out := by simp [outI, outV, hyes]
          have ha : accI l f acc ks 0 = acc := by simp [accI]
          simp only [belF, bH, ho, ha, List.reduceReplicate, List.cons_append, List.nil_append]
          refine ent_of [(7, 4)] (by rw [hk]; simp) (by rw [hk]; simp) ?_ ?_ ?_
          · simp [entT, mp, mps, bd, bds, sg]
          · simp [entH, sg, get, mpC, mps, mp, bdC, bds, bd]
          · simp [entI, sg]
        · rintro i hil
          simp only [belF, bH, List.reduceReplicate, List.cons_append, List.nil_append]
          simp only [J3,J4,J5,J6,Za,Zb,Zc,Zd,Ze,Zf,Zg,Zh,Zi,Zj,Zk,Zl,Zm,Zn,Zo,Zp,Zq,Zr,Zs,Zt,Zu,Zv,Zw,Zx,Zy,Zz,ZA,ZB,ZC,ZD,ZE,ZF,ZG,ZH,ZI,ZJ,ZK,ZL,ZM,ZN,ZO,ZP,ZQ,ZR,ZS,ZT,ZU,ZV,ZW,ZX,ZY,ZZ,Z0,Z1,Z2,Z3,Z4,Z5,Z6,Z7,Z8,Z9,Ya,Yb,Yc,Yd,Ye,Yf,Yg,Yh,Yi,Yj,Yk,Yl,Ym,Yn,Yo,Yp,Yq,Yr,Ys,Yt,Yu,Yv,Yw,Yx,Yy,Yz,YA,YB,YC,YD,YE,YF,YG,YH,YI,YJ,YK,YL,YM,YN,YO,YP,YQ,YR,YS,YT,YU,YV,YW,YX,if_true,if_false,reduceIte,reduceCtorEq,YY,YZ,Y0,Y1,Y2,Y3,Y4,Y5,Y6,Y7,Y8,Y9,Ja,Jb,Jc,Jd,Je,Jf,Jg,Jh,or_true,and_true,true_and,and_self,Ji,cond_true,cond_false]
          refine cond_split (fun h2 => ?_) (fun h2 => ?_)
          · have hlt : i < ks.length := by simpa using h2
            have htk := take_succ_getD hlt
            have hmem : ks.getD i default ∈ kidsL l x := by rw [hkse]; simp [List.getD, hlt]
            have haS : accI l f acc ks (i + 1) = accI l f acc ks i ++ [ks.getD i default] ++ belowN l f (ks.getD i default).id := by
              simp only [accI, htk, List.flatMap_append, List.flatMap_cons, List.flatMap_nil, List.append_nil, List.append_assoc, List.cons_append, List.nil_append]
            have hoS : outI l f M x out ks (i + 1) = outV M (visits l f (ks.getD i default).id) (outI l f M x out ks i) := by
              simp only [outI, htk, List.flatMap_append, List.flatMap_cons, List.flatMap_nil, List.append_nil]
              rw [← List.cons_append, outV_append]
            have hlenS : (accI l f acc ks (i + 1)).length ≤ 1000000 := by
              have := flatMap_len_take ks (fun c => c :: belowN l f c.id) (i + 1)
              rw [accI, List.length_append]
              rw [hbel] at hlen
              omega
            rw [haS, List.length_append, List.length_append] at hlenS
            simp only [List.length_cons, List.length_nil] at hlenS
            have hlen2 : (accI l f acc ks i ++ [ks.getD i default]).length + (belowN l f (ks.getD i default).id).length ≤ 1000000 := by
              rw [List.length_append]; simpa using hlenS
            have hsplit : visits l (f + 1) x = (x :: (ks.take i).flatMap fun c => visits l f c.id) ++ visits l f (ks.getD i default).id ++ (ks.drop (i + 1)).flatMap fun c => visits l f c.id := by
              rw [hks, List.cons_append, List.cons_append]
              congr 1
              conv => lhs; rw [← List.take_append_drop (i + 1) ks, htk]
              simp only [List.flatMap_append, List.flatMap_cons, List.flatMap_nil, List.append_nil]
            have hnd1 := hnd
            have hfr1 := hfr
            rw [hsplit] at hnd1 hfr1
            have hnd2 : (visits l f (ks.getD i default).id).Nodup := (List.nodup_append.1 (List.nodup_append.1 hnd1).1).2.1
            have hfr2 : fresh M (outI l f M x out ks i) (visits l f (ks.getD i default).id) := fresh_of hfr1 hnd1
            simp only [J3,J4,J5,J6,Za,Zb,Zc,Zd,Ze,Zf,Zg,Zh,Zi,Zj,Zk,Zl,Zm,Zn,Zo,Zp,Zq,Zr,Zs,Zt,Zu,Zv,Zw,Zx,Zy,Zz,ZA,ZB,ZC,ZD,ZE,ZF,ZG,ZH,ZI,ZJ,ZK,ZL,ZM,ZN,ZO,ZP,ZQ,ZR,ZS,ZT,ZU,ZV,ZW,ZX,ZY,ZZ,Z0,Z1,Z2,Z3,Z4,Z5,Z6,Z7,Z8,Z9,Ya,Yb,Yc,Yd,Ye,Yf,Yg,Yh,Yi,Yj,Yk,Yl,Ym,Yn,Yo,Yp,Yq,Yr,Ys,Yt,Yu,Yv,Yw,Yx,Yy,Yz,YA,YB,YC,YD,YE,YF,YG,YH,YI,YJ,YK,YL,YM,YN,YO,YP,YQ,YR,YS,YT,YU,YV,YW,YX,if_true,if_false,reduceIte,reduceCtorEq,YY,YZ,Y0,Y1,Y2,Y3,Y4,Y5,Y6,Y7,Y8,Y9,Ja,Jb,Jc,Jd,Je,Jf,Jg,Jh,or_true,and_true,true_and,and_self,Ji,cond_true,cond_false]
            repeat (refine And.intro (by omega) ?_)
            refine append_rule (c := .cell (accI l f acc ks i)) (d := .cell [ks.getD i default]) (by rw [hC]; exact tys_ok) rfl rfl rfl rfl rfl rfl trivial rfl ⟨_, rfl⟩ ?_ ?_
            · simp only [RowC.len, List.length_cons, List.length_nil]; omega
            simp only [J3,J4,J5,J6,Za,Zb,Zc,Zd,Ze,Zf,Zg,Zh,Zi,Zj,Zk,Zl,Zm,Zn,Zo,Zp,Zq,Zr,Zs,Zt,Zu,Zv,Zw,Zx,Zy,Zz,ZA,ZB,ZC,ZD,ZE,ZF,ZG,ZH,ZI,ZJ,ZK,ZL,ZM,ZN,ZO,ZP,ZQ,ZR,ZS,ZT,ZU,ZV,ZW,ZX,ZY,ZZ,Z0,Z1,Z2,Z3,Z4,Z5,Z6,Z7,Z8,Z9,Ya,Yb,Yc,Yd,Ye,Yf,Yg,Yh,Yi,Yj,Yk,Yl,Ym,Yn,Yo,Yp,Yq,Yr,Ys,Yt,Yu,Yv,Yw,Yx,Yy,Yz,YA,YB,YC,YD,YE,YF,YG,YH,YI,YJ,YK,YL,YM,YN,YO,YP,YQ,YR,YS,YT,YU,YV,YW,YX,if_true,if_false,reduceIte,reduceCtorEq,YY,YZ,Y0,Y1,Y2,Y3,Y4,Y5,Y6,Y7,Y8,Y9,Ja,Jb,Jc,Jd,Je,Jf,Jg,Jh,or_true,and_true,true_and,and_self,Ji,cond_true,cond_false]
            refine callM_is hC [(4, 10), (5, 11)] (bel_spec l hl hdl hM f (ks.getD i default).id (accI l f acc ks i ++ [ks.getD i default]) (outI l f M x out ks i) (hd _ hmem) hnd2 hfr2 hlen2) (by omega) (fun p h1 h2 => by rw [show p = 5 by omega]; rfl) ?_ ?_ ?_ rfl rfl ?_ rfl ?_
            · simp [bH, entH, sg, get, mpC, bdC, mps, mp, bds, bd]
            · simp [bH, entI, sg]
            · intro p hp
              have : p = 0 ∨ p = 1 ∨ p = 2 ∨ p = 3 ∨ p = 4 := by omega
              rcases this with rfl | rfl | rfl | rfl | rfl <;> simp [bH]
            · intro p o ch hp
              simp only [bH, List.mem_cons, List.not_mem_nil, or_false, Prod.mk.injEq] at hp
              rcases hp with ⟨rfl, rfl, rfl⟩ | ⟨rfl, rfl, rfl⟩ | ⟨rfl, rfl, rfl⟩ | ⟨rfl, rfl, rfl⟩ | ⟨rfl, rfl, rfl⟩ <;> refine ⟨rfl, by omega, by simp [bdC, bds, bd], fun hp => ?_⟩ <;> first | omega | (simp [bH]; done)
            · simp only [bH, renH, lentH, sg, mp, mps, mpC, delC, List.map_cons, List.map_nil, reduceIte, Nat.reduceEqDiff, Nat.reduceSub, Nat.sub_self, Nat.add_zero, Nat.reduceAdd, reduceCtorEq]
              simp only [J3,J4,J5,J6,Za,Zb,Zc,Zd,Ze,Zf,Zg,Zh,Zi,Zj,Zk,Zl,Zm,Zn,Zo,Zp,Zq,Zr,Zs,Zt,Zu,Zv,Zw,Zx,Zy,Zz,ZA,ZB,ZC,ZD,ZE,ZF,ZG,ZH,ZI,ZJ,ZK,ZL,ZM,ZN,ZO,ZP,ZQ,ZR,ZS,ZT,ZU,ZV,ZW,ZX,ZY,ZZ,Z0,Z1,Z2,Z3,Z4,Z5,Z6,Z7,Z8,Z9,Ya,Yb,Yc,Yd,Ye,Yf,Yg,Yh,Yi,Yj,Yk,Yl,Ym,Yn,Yo,Yp,Yq,Yr,Ys,Yt,Yu,Yv,Yw,Yx,Yy,Yz,YA,YB,YC,YD,YE,YF,YG,YH,YI,YJ,YK,YL,YM,YN,YO,YP,YQ,YR,YS,YT,YU,YV,YW,YX,if_true,if_false,reduceIte,reduceCtorEq,YY,YZ,Y0,Y1,Y2,Y3,Y4,Y5,Y6,Y7,Y8,Y9,Ja,Jb,Jc,Jd,Je,Jf,Jg,Jh,or_true,and_true,true_and,and_self,Ji,cond_true,cond_false]
              repeat (refine And.intro (by omega) ?_)
              refine ⟨i + 1, hlt, by omega, ?_⟩
              simp only [belF, bH, haS, hoS, List.reduceReplicate, List.cons_append, List.nil_append]
              refine ent_of [(7, 11)] (by rw [hk]; simp) (by rw [hk]; simp) ?_ ?_ ?_
              · simp [entT, mp, mps, bd, bds, sg]
              · simp [entH, sg, get, mpC, mps, mp, bdC, bds, bd]
              · simp [entI, sg]
          · have hge : i = ks.length := by have := of_decide_eq_false h2; omega
            subst hge
            have ho : outI l f M x out ks ks.length = outV M (visits l (f + 1) x) out := by rw [outI, List.take_length, hks]
            have ha : accI l f acc ks ks.length = acc ++ belowN l (f + 1) x := by rw [accI, List.take_length, hbel]
            simp only [J3,J4,J5,J6,Za,Zb,Zc,Zd,Ze,Zf,Zg,Zh,Zi,Zj,Zk,Zl,Zm,Zn,Zo,Zp,Zq,Zr,Zs,Zt,Zu,Zv,Zw,Zx,Zy,Zz,ZA,ZB,ZC,ZD,ZE,ZF,ZG,ZH,ZI,ZJ,ZK,ZL,ZM,ZN,ZO,ZP,ZQ,ZR,ZS,ZT,ZU,ZV,ZW,ZX,ZY,ZZ,Z0,Z1,Z2,Z3,Z4,Z5,Z6,Z7,Z8,Z9,Ya,Yb,Yc,Yd,Ye,Yf,Yg,Yh,Yi,Yj,Yk,Yl,Ym,Yn,Yo,Yp,Yq,Yr,Ys,Yt,Yu,Yv,Yw,Yx,Yy,Yz,YA,YB,YC,YD,YE,YF,YG,YH,YI,YJ,YK,YL,YM,YN,YO,YP,YQ,YR,YS,YT,YU,YV,YW,YX,if_true,if_false,reduceIte,reduceCtorEq,YY,YZ,Y0,Y1,Y2,Y3,Y4,Y5,Y6,Y7,Y8,Y9,Ja,Jb,Jc,Jd,Je,Jf,Jg,Jh,or_true,and_true,true_and,and_self,Ji,cond_true,cond_false]
            rw [ho, ha]
            refine finM_of [(5, 7)] hk (by omega) (by simp) rfl rfl ?_ ?_
            · simp [entH, sg, get, mpC, bdC, mps, mp, bds, bd]
            · simp [entI, sg]

end E
end Go.Proofs.Ytlkchnfgeedghaa
