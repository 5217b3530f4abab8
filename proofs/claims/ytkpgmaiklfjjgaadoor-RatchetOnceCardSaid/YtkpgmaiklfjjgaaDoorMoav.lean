/-
  The functions' own code as conditions on values and worlds; the kernel checks that each is the code's own.
-/
import Derived.Test.YtkpgmaiklfjjgaaDoorMoau
import Derived.Test.YtkpgmaiklfjjgaaDoorProg
section
set_option maxRecDepth 100000
set_option linter.unusedVariables false
namespace Go.Proofs.YtkpgmaiklfjjgaaDoor
open Go.G

/-! oubliette/oubliettelaw33.RatchetSteps -/
def oubliettelaw33_RatchetSteps.pl : Nat → DrawPlan
  | 3 => ⟨[([], [3]), ([], [2]), ([1, 0], [1, 3]), ([0, 2, 2], [0, 2, 4]), ([3], [3, 5, 6]), ([4], [4, 8]), ([4], [4, 9]), ([], [9]), ([5, 3, 0, 1, 2, 3, 4, 5, 7], [5]), ([7, 6, 8, 0, 1, 2, 3, 4, 5, 6, 7, 8], [6, 7])], .take 1 (.world 0 false (.world 2 true (.world 3 false (.take 4 (.take 5 (.take 6 (.world 7 false (.take 8 (.world 9 true (.done) .none)) .none)))) (.world 7 false (.world 3 false (.take 4 (.take 5 (.take 6 (.take 8 (.world 9 true (.done) .none))))) .none) .none)) (.world 7 false (.world 2 true (.world 3 false (.take 4 (.take 5 (.take 6 (.take 8 (.world 9 true (.done) .none))))) .none) .none) .none)) (.world 7 false (.world 0 false (.world 2 true (.world 3 false (.take 4 (.take 5 (.take 6 (.take 8 (.world 9 true (.done) .none))))) .none) .none) .none) .none))⟩
  | 7 => ⟨[([], [4]), ([], [2]), ([1], [1, 3]), ([2], [2, 4]), ([0, 3, 3], [0, 3, 5]), ([4, 4], [4, 6, 7, 8, 9, 10]), ([5], [5, 7]), ([6, 5, 5], [5, 6, 9]), ([5], [5, 9]), ([7, 8, 7, 5], [5, 7, 8, 10]), ([5, 9], [5, 9, 11]), ([10, 9], [10, 12, 13, 14, 15, 16, 17, 18]), ([11], [11, 13]), ([12, 11, 11], [11, 12, 14]), ([13, 13, 11], [11, 13, 17]), ([11], [11, 16]), ([15, 11], [11, 15, 17]), ([14, 16, 14, 11], [11, 14, 16, 18]), ([11, 17], [11, 17, 19]), ([18, 17], [18, 20, 21]), ([19, 19], [19, 21]), ([19, 20], [19, 20, 22]), ([21, 20, 0, 1, 2, 3, 4, 5, 6, 7, 8, 9, 10, 11, 12, 13, 14, 15, 16, 17, 18, 19, 20, 21], [21])], .take 0 (.take 1 (.take 2 (.world 3 true (.world 4 false (.take 5 (.take 6 (.take 8 (.world 7 false (.world 9 false (.take 10 (.take 11 (.take 12 (.take 15 (.take 16 (.world 13 false (.world 14 false (.world 17 false (.take 18 (.take 19 (.world 20 false (.take 21 (.take 22 (.done))) .none))) .none) .none) .none)))))) .none) .none)))) .none) .none)))⟩
  | _ => ⟨[], .done⟩
def oubliettelaw33_RatchetSteps.b (x0 : Value) (x1 : Value) (R : KV) (X : KX) (w : World) : Prop :=
  pBox 25 x0 w fun t2 w =>
  pLdN (· = w) 3 t2 fun t8 =>
  pCall Tryd.prog 10 [t8] X w fun t9 w =>
  pNot t9 fun t10 =>
  gIf t10 false (fun K => K x1) fun t12 =>
  gIf t10 false (fun K => pLenSl t12 K) fun t13 =>
  gIf t10 false (fun K => pBinI .gtr .i64 t13 (.int .i64 100) K) fun t14 =>
  pPick t10 (.bool true) t14 fun t15 =>
  gIf t15 false (fun K => pFA 0 t2 K) fun t17 =>
  gIf t15 false (fun K => pLd (· = w) t17 K) fun t18 =>
  gIf t15 false (fun K => pBinI .gtr .i64 t18 (.int .i64 1099511627776) K) fun t19 =>
  pPick t15 (.bool true) t19 fun t20 =>
  scond t20
  (pCall Tryd.prog 11 [] X w fun t21 w =>
    R t21 w)
  (drawn w fun S w =>
    pLdN S 3 t2 fun t24 =>
    (pCall Tryd.prog 13 [(.slice none 0 0)] X w fun t23 w =>
      S w ∧ ((pCall Tryd.prog 14 [t24] X w fun t25 w =>
          anew w fun S w =>
          (pCall Tryd.prog 12 [t23, t25] X w fun t26 w =>
            S w ∧ (pExt t26 0 fun t27 =>
              pExt t26 1 fun t28 =>
              pBox 30 (.agg #[.int .i64 0, .slice none 0 0, .slice none 0 0]) w fun t6 w =>
              S w ∧ (pStN 3 t6 t28 w fun _ w =>
                anew w fun S w =>
                pLdN (· = w) 3 t2 fun t29 =>
                pBox 25 (.agg #[.int .i64 0, .slice none 0 0, .slice none 0 0]) w fun t7 w =>
                pStN 3 t7 t29 w fun _ w =>
                pFA 0 t2 fun t30 =>
                pLd (· = w) t30 fun t31 =>
                pBinI .add .i64 t31 (.int .i64 1) fun t32 =>
                pFA 0 t7 fun t33 =>
                pSt t33 t32 w fun _ w =>
                pFA 1 t2 fun t34 =>
                pLd (· = w) t34 fun t35 =>
                pCall Tryd.prog 15 [t35, (.string ⟨#[110, 101, 120, 116]⟩)] X w fun t36 w =>
                pFA 1 t7 fun t37 =>
                pSt t37 t36 w fun _ w =>
                drawn w fun S w =>
                pFA 1 t2 fun t39 =>
                pLd S t39 fun t40 =>
                pCall Tryd.prog 15 [t40, (.string ⟨#[107, 101, 121]⟩)] X w fun t41 w =>
                anew w fun S w =>
                pCall Tryd.prog 16 [t27, t41] X w fun t42 w =>
                S w ∧ (gIf t42 true (fun K => pLdN S 3 t6 K) fun t44 =>
                  gIf t42 true (fun K => pLdN S 3 t7 K) fun t46 =>
                  gIfW t42 true (fun w K => pCall Tryd.prog 18 [t44] X w K) w fun t45 w =>
                  S w ∧ (gIfW t42 true (fun w K => pCall Tryd.prog 17 [t45, t46] X w K) w fun t47 w =>
                    S w ∧ (pPick t42 t47 (.bool false) fun t48 =>
                      gIf t48 true (fun K => K x1) fun t50 =>
                      gIf t48 true (fun K => K x1) fun t53 =>
                      gIf t48 true (fun K => pBuild [.int .i64 0, .slice none 0 0, .slice none 0 0] [(1, 1, t53)] K) fun t54 =>
                      gIfW t48 true (fun w K => pCall Tryd.prog 19 [t50] X w K) w fun t51 w =>
                      S w ∧ (gIfW t48 true (fun w K => pCall Tryd.prog 18 [t51] X w K) w fun t52 w =>
                        S w ∧ (gIfW t48 true (fun w K => pCall Tryd.prog 17 [t52, t54] X w K) w fun t55 w =>
                          S w ∧ (pPick t48 t55 (.bool false) fun t56 =>
                            gIfW t56 true (fun w K => pCall Tryd.prog 11 [] X w K) w fun t58 w =>
                            S w ∧ (pPick t56 t58 (.bool false) fun t59 =>
                              R t59 w)))))))))) ∧
          (pBox 30 (.agg #[.int .i64 0, .slice none 0 0, .slice none 0 0]) w fun t6_1 w =>
            S w ∧ (pCall Tryd.prog 12 [t23, t25] X w fun t26_1 w =>
              S w ∧ (pExt t26_1 0 fun t27_1 =>
                pExt t26_1 1 fun t28_1 =>
                pStN 3 t6_1 t28_1 w fun _ w =>
                anew w fun S w =>
                pLdN (· = w) 3 t2 fun t29_1 =>
                pBox 25 (.agg #[.int .i64 0, .slice none 0 0, .slice none 0 0]) w fun t7_1 w =>
                pStN 3 t7_1 t29_1 w fun _ w =>
                pFA 0 t2 fun t30_1 =>
                pLd (· = w) t30_1 fun t31_1 =>
                pBinI .add .i64 t31_1 (.int .i64 1) fun t32_1 =>
                pFA 0 t7_1 fun t33_1 =>
                pSt t33_1 t32_1 w fun _ w =>
                pFA 1 t2 fun t34_1 =>
                pLd (· = w) t34_1 fun t35_1 =>
                pCall Tryd.prog 15 [t35_1, (.string ⟨#[110, 101, 120, 116]⟩)] X w fun t36_1 w =>
                pFA 1 t7_1 fun t37_1 =>
                pSt t37_1 t36_1 w fun _ w =>
                drawn w fun S w =>
                pFA 1 t2 fun t39_1 =>
                pLd S t39_1 fun t40_1 =>
                pCall Tryd.prog 15 [t40_1, (.string ⟨#[107, 101, 121]⟩)] X w fun t41_1 w =>
                anew w fun S w =>
                pCall Tryd.prog 16 [t27_1, t41_1] X w fun t42_1 w =>
                S w ∧ (gIf t42_1 true (fun K => pLdN S 3 t6_1 K) fun t44_1 =>
                  gIf t42_1 true (fun K => pLdN S 3 t7_1 K) fun t46_1 =>
                  gIfW t42_1 true (fun w K => pCall Tryd.prog 18 [t44_1] X w K) w fun t45_1 w =>
                  S w ∧ (gIfW t42_1 true (fun w K => pCall Tryd.prog 17 [t45_1, t46_1] X w K) w fun t47_1 w =>
                    S w ∧ (pPick t42_1 t47_1 (.bool false) fun t48_1 =>
                      gIf t48_1 true (fun K => K x1) fun t50_1 =>
                      gIf t48_1 true (fun K => K x1) fun t53_1 =>
                      gIf t48_1 true (fun K => pBuild [.int .i64 0, .slice none 0 0, .slice none 0 0] [(1, 1, t53_1)] K) fun t54_1 =>
                      gIfW t48_1 true (fun w K => pCall Tryd.prog 19 [t50_1] X w K) w fun t51_1 w =>
                      S w ∧ (gIfW t48_1 true (fun w K => pCall Tryd.prog 18 [t51_1] X w K) w fun t52_1 w =>
                        S w ∧ (gIfW t48_1 true (fun w K => pCall Tryd.prog 17 [t52_1, t54_1] X w K) w fun t55_1 w =>
                          S w ∧ (pPick t48_1 t55_1 (.bool false) fun t56_1 =>
                            gIfW t56_1 true (fun w K => pCall Tryd.prog 11 [] X w K) w fun t58_1 w =>
                            S w ∧ (pPick t56_1 t58_1 (.bool false) fun t59_1 =>
                              R t59_1 w))))))))))) ∧
        (pBox 30 (.agg #[.int .i64 0, .slice none 0 0, .slice none 0 0]) w fun t6_2 w =>
          S w ∧ (pCall Tryd.prog 14 [t24] X w fun t25_1 w =>
            anew w fun S w =>
            pCall Tryd.prog 12 [t23, t25_1] X w fun t26_2 w =>
            S w ∧ (pExt t26_2 0 fun t27_2 =>
              pExt t26_2 1 fun t28_2 =>
              pStN 3 t6_2 t28_2 w fun _ w =>
              anew w fun S w =>
              pLdN (· = w) 3 t2 fun t29_2 =>
              pBox 25 (.agg #[.int .i64 0, .slice none 0 0, .slice none 0 0]) w fun t7_2 w =>
              pStN 3 t7_2 t29_2 w fun _ w =>
              pFA 0 t2 fun t30_2 =>
              pLd (· = w) t30_2 fun t31_2 =>
              pBinI .add .i64 t31_2 (.int .i64 1) fun t32_2 =>
              pFA 0 t7_2 fun t33_2 =>
              pSt t33_2 t32_2 w fun _ w =>
              pFA 1 t2 fun t34_2 =>
              pLd (· = w) t34_2 fun t35_2 =>
              pCall Tryd.prog 15 [t35_2, (.string ⟨#[110, 101, 120, 116]⟩)] X w fun t36_2 w =>
              pFA 1 t7_2 fun t37_2 =>
              pSt t37_2 t36_2 w fun _ w =>
              drawn w fun S w =>
              pFA 1 t2 fun t39_2 =>
              pLd S t39_2 fun t40_2 =>
              pCall Tryd.prog 15 [t40_2, (.string ⟨#[107, 101, 121]⟩)] X w fun t41_2 w =>
              anew w fun S w =>
              pCall Tryd.prog 16 [t27_2, t41_2] X w fun t42_2 w =>
              S w ∧ (gIf t42_2 true (fun K => pLdN S 3 t6_2 K) fun t44_2 =>
                gIf t42_2 true (fun K => pLdN S 3 t7_2 K) fun t46_2 =>
                gIfW t42_2 true (fun w K => pCall Tryd.prog 18 [t44_2] X w K) w fun t45_2 w =>
                S w ∧ (gIfW t42_2 true (fun w K => pCall Tryd.prog 17 [t45_2, t46_2] X w K) w fun t47_2 w =>
                  S w ∧ (pPick t42_2 t47_2 (.bool false) fun t48_2 =>
                    gIf t48_2 true (fun K => K x1) fun t50_2 =>
                    gIf t48_2 true (fun K => K x1) fun t53_2 =>
                    gIf t48_2 true (fun K => pBuild [.int .i64 0, .slice none 0 0, .slice none 0 0] [(1, 1, t53_2)] K) fun t54_2 =>
                    gIfW t48_2 true (fun w K => pCall Tryd.prog 19 [t50_2] X w K) w fun t51_2 w =>
                    S w ∧ (gIfW t48_2 true (fun w K => pCall Tryd.prog 18 [t51_2] X w K) w fun t52_2 w =>
                      S w ∧ (gIfW t48_2 true (fun w K => pCall Tryd.prog 17 [t52_2, t54_2] X w K) w fun t55_2 w =>
                        S w ∧ (pPick t48_2 t55_2 (.bool false) fun t56_2 =>
                          gIfW t56_2 true (fun w K => pCall Tryd.prog 11 [] X w K) w fun t58_2 w =>
                          S w ∧ (pPick t56_2 t58_2 (.bool false) fun t59_2 =>
                            R t59_2 w)))))))))))) ∧
    (pBox 30 (.agg #[.int .i64 0, .slice none 0 0, .slice none 0 0]) w fun t6_3 w =>
      S w ∧ (pCall Tryd.prog 13 [(.slice none 0 0)] X w fun t23_1 w =>
        S w ∧ (pCall Tryd.prog 14 [t24] X w fun t25_2 w =>
          anew w fun S w =>
          pCall Tryd.prog 12 [t23_1, t25_2] X w fun t26_3 w =>
          S w ∧ (pExt t26_3 0 fun t27_3 =>
            pExt t26_3 1 fun t28_3 =>
            pStN 3 t6_3 t28_3 w fun _ w =>
            anew w fun S w =>
            pLdN (· = w) 3 t2 fun t29_3 =>
            pBox 25 (.agg #[.int .i64 0, .slice none 0 0, .slice none 0 0]) w fun t7_3 w =>
            pStN 3 t7_3 t29_3 w fun _ w =>
            pFA 0 t2 fun t30_3 =>
            pLd (· = w) t30_3 fun t31_3 =>
            pBinI .add .i64 t31_3 (.int .i64 1) fun t32_3 =>
            pFA 0 t7_3 fun t33_3 =>
            pSt t33_3 t32_3 w fun _ w =>
            pFA 1 t2 fun t34_3 =>
            pLd (· = w) t34_3 fun t35_3 =>
            pCall Tryd.prog 15 [t35_3, (.string ⟨#[110, 101, 120, 116]⟩)] X w fun t36_3 w =>
            pFA 1 t7_3 fun t37_3 =>
            pSt t37_3 t36_3 w fun _ w =>
            drawn w fun S w =>
            pFA 1 t2 fun t39_3 =>
            pLd S t39_3 fun t40_3 =>
            pCall Tryd.prog 15 [t40_3, (.string ⟨#[107, 101, 121]⟩)] X w fun t41_3 w =>
            anew w fun S w =>
            pCall Tryd.prog 16 [t27_3, t41_3] X w fun t42_3 w =>
            S w ∧ (gIf t42_3 true (fun K => pLdN S 3 t6_3 K) fun t44_3 =>
              gIf t42_3 true (fun K => pLdN S 3 t7_3 K) fun t46_3 =>
              gIfW t42_3 true (fun w K => pCall Tryd.prog 18 [t44_3] X w K) w fun t45_3 w =>
              S w ∧ (gIfW t42_3 true (fun w K => pCall Tryd.prog 17 [t45_3, t46_3] X w K) w fun t47_3 w =>
                S w ∧ (pPick t42_3 t47_3 (.bool false) fun t48_3 =>
                  gIf t48_3 true (fun K => K x1) fun t50_3 =>
                  gIf t48_3 true (fun K => K x1) fun t53_3 =>
                  gIf t48_3 true (fun K => pBuild [.int .i64 0, .slice none 0 0, .slice none 0 0] [(1, 1, t53_3)] K) fun t54_3 =>
                  gIfW t48_3 true (fun w K => pCall Tryd.prog 19 [t50_3] X w K) w fun t51_3 w =>
                  S w ∧ (gIfW t48_3 true (fun w K => pCall Tryd.prog 18 [t51_3] X w K) w fun t52_3 w =>
                    S w ∧ (gIfW t48_3 true (fun w K => pCall Tryd.prog 17 [t52_3, t54_3] X w K) w fun t55_3 w =>
                      S w ∧ (pPick t48_3 t55_3 (.bool false) fun t56_3 =>
                        gIfW t56_3 true (fun w K => pCall Tryd.prog 11 [] X w K) w fun t58_3 w =>
                        S w ∧ (pPick t56_3 t58_3 (.bool false) fun t59_3 =>
                          R t59_3 w))))))))))))
theorem oubliettelaw33_RatchetSteps.b_eq (x0 : Value) (x1 : Value) (R : KV) (X : KX) (w : World) : atP Tryd.prog Tryd.f3 oubliettelaw33_RatchetSteps.pl [] [] R X ([x0, x1] ++ undefs 58) w = oubliettelaw33_RatchetSteps.b x0 x1 R X w := by kernel_rfl
theorem oubliettelaw33_RatchetSteps.calls {x0 x1 : Value} {R : KV} {X : KX} {w : World} (h : oubliettelaw33_RatchetSteps.b x0 x1 R X w) : GCalls Tryd.prog 3 [x0, x1] R X w :=
  gcalls_of (pl := oubliettelaw33_RatchetSteps.pl) Tryd.func3 rfl (by kernel_rfl) hmixed (oubliettelaw33_RatchetSteps.b_eq x0 x1 R X w ▸ h)

/-! oubliette/oubliettelaw33.RatchetOnce -/
def oubliettelaw33_RatchetOnce.pl : Nat → DrawPlan
  | 11 => ⟨[([], [5]), ([], [3]), ([], [3]), ([1, 2], [1, 2, 4]), ([3], [3, 5]), ([0, 4], [0, 4, 6]), ([5, 5, 0, 1, 2, 3, 4, 5], [5])], .take 0 (.take 1 (.take 2 (.take 3 (.take 4 (.world 5 true (.take 6 (.done)) .none)))))⟩
  | 12 => ⟨[([], [7]), ([], [7]), ([], [4]), ([], [4]), ([2, 3], [2, 3, 5]), ([4], [4, 7]), ([], [7]), ([0, 1, 5, 6], [0, 1, 5, 6, 8]), ([7], [7, 9, 10, 11]), ([8], [8, 13]), ([8], [8, 14]), ([8], [8, 15]), ([], [14]), ([9, 7, 0, 1, 2, 3, 4, 5, 6, 7, 8, 9, 12], [9]), ([12, 10, 13, 0, 1, 2, 3, 4, 5, 6, 7, 8, 9, 10, 12, 13], [10, 12]), ([11, 14, 0, 1, 2, 3, 4, 5, 6, 7, 8, 9, 10, 11, 12, 13, 14], [11])], .take 0 (.take 1 (.take 2 (.take 3 (.take 4 (.take 5 (.take 6 (.world 7 true (.take 8 (.take 9 (.take 10 (.take 11 (.world 12 false (.take 13 (.world 14 true (.take 15 (.done)) .none)) .none))))) (.world 12 false (.world 7 true (.take 8 (.take 9 (.take 10 (.take 11 (.take 13 (.world 14 true (.take 15 (.done)) .none)))))) .none) .none))))))))⟩
  | 16 => ⟨[([], [7]), ([], [6]), ([], [4]), ([], [4]), ([2, 3], [2, 3, 5]), ([4], [4, 6]), ([1, 5], [1, 5, 7]), ([0, 6, 6], [0, 6, 8]), ([7], [7, 9]), ([8, 7], [8, 10, 11, 12, 13, 14, 15]), ([9], [9, 11]), ([10, 9], [9, 10, 12]), ([11, 9], [9, 11, 14]), ([9], [9, 14]), ([12, 13, 9], [9, 12, 13, 15]), ([9, 14], [9, 14, 16]), ([15, 9], [15, 17, 18, 19, 20, 21, 22, 23]), ([16], [16, 22]), ([16], [16, 20]), ([16], [16, 20]), ([18, 19, 16], [16, 18, 19, 21]), ([20, 16], [16, 20, 22]), ([17, 21, 16, 16], [16, 17, 21, 23]), ([16, 22], [16, 22])], .take 0 (.take 1 (.take 2 (.take 3 (.take 4 (.take 5 (.world 6 true (.world 7 false (.take 8 (.take 9 (.take 10 (.take 11 (.take 12 (.take 13 (.take 14 (.take 15 (.take 16 (.take 17 (.take 18 (.take 19 (.take 20 (.take 21 (.world 22 false (.take 23 (.done)) .none))))))))))))))) .none) .none))))))⟩
  | _ => ⟨[], .done⟩
def oubliettelaw33_RatchetOnce.j1 (x0 : Value) (x1 : Value) (x2 : Value) (x7 : Value) (x8 : Value) (x9 : Value) (x10 : Value) (g : Nat → Value) (N1 : List Value → World → Prop) (R : KV) (X : KX) (w : World) : Prop :=
  pBinI .add .i64 x10 (.int .i64 1) fun t40 =>
  N1 [x0, x1, x2, (g 3), (g 4), (g 5), (g 6), x7, x8, x9, t40, (g 11), (g 12), (g 13), (g 14), (g 15), (g 16), (g 17), (g 18), (g 19), (g 20), (g 21), (g 22), (g 23), (g 24), (g 25), (g 26), (g 27), (g 28), (g 29), (g 30), (g 31), (g 32), (g 33), (g 34), (g 35), (g 36), (g 37), (g 38), x10, t40, (g 41), (g 42), (g 43), (g 44), (g 45), (g 46), (g 47), (g 48), (g 49), (g 50), (g 51), (g 52), (g 53), (g 54), (g 55), (g 56), (g 57), (g 58), (g 59), (g 60), (g 61), (g 62), (g 63), (g 64), (g 65), (g 66), (g 67), (g 68), (g 69), (g 70), (g 71), (g 72), (g 73), (g 74), (g 75), (g 76), (g 77), (g 78), (g 79), (g 80), (g 81), (g 82), (g 83), (g 84), (g 85), (g 86), (g 87), (g 88), (g 89), (g 90), (g 91), (g 92), (g 93), (g 94), (g 95), (g 96), (g 97), (g 98), (g 99), (g 100), (g 101), (g 102), (g 103), (g 104), (g 105), (g 106), (g 107), (g 108), (g 109), (g 110), (g 111), (g 112), (g 113), (g 114), (g 115), (g 116), (g 117), (g 118), (g 119), (g 120), (g 121), (g 122), (g 123)] w
def oubliettelaw33_RatchetOnce.b1 (x0 : Value) (x1 : Value) (x2 : Value) (x7 : Value) (x8 : Value) (x9 : Value) (x10 : Value) (g : Nat → Value) (N1 : List Value → World → Prop) (R : KV) (X : KX) (w : World) : Prop :=
  pLenSl x1 fun t37 =>
  pBinI .lss .i64 x10 t37 fun t38 =>
  scond t38
  (pIA 1 x1 x10 fun t43 =>
    pLd (· = w) t43 fun t44 =>
    pBinI .lss .i64 t44 (.int .i64 0) fun t45 =>
    gIf t45 false (fun K => K x1) fun t47 =>
    gIf t45 false (fun K => K x10) fun t48 =>
    gIf t45 false (fun K => pIA 1 t47 t48 K) fun t49 =>
    gIf t45 false (fun K => pLd (· = w) t49 K) fun t50 =>
    gIf t45 false (fun K => pBinI .gtr .i64 t50 (.int .i64 40) K) fun t51 =>
    pPick t45 (.bool true) t51 fun t52 =>
    scond t52
    (pCall Tryd.prog 11 [] X w fun t53 w =>
      R t53 w)
    (drawn w fun S w =>
      pLdN S 3 x8 fun t54 =>
      pIA 1 x1 x10 fun t57 =>
      pLd S t57 fun t58 =>
      pCall Tryd.prog 20 [t54, t58] X w fun t59 w =>
      anew w fun S w =>
      drawn w fun S w =>
      pLdN S 3 x8 fun t62 =>
      pIA 1 x1 x10 fun t65 =>
      pLd S t65 fun t66 =>
      (pCall Tryd.prog 21 [x7, t62, t66, x2] X w fun t68 w =>
        anew w fun S w =>
        pExt t68 0 fun t69 =>
        pExt t68 1 fun t70 =>
        pExt t68 2 fun t71 =>
        pBox 30 (.agg #[.int .i64 0, .slice none 0 0, .slice none 0 0]) w fun t13 w =>
        S w ∧ (pStN 3 t13 t70 w fun _ w =>
          anew w fun S w =>
          pIA 1 x1 x10 fun t75 =>
          pLd (· = w) t75 fun t76 =>
          pCall Tryd.prog 22 [x9, t76] X w fun t77 w =>
          gIf t77 true (fun K => K t71) fun t79 =>
          gIf t77 true (fun K => pBinI .neq .i64 t79 (.int .i64 9) K) fun t80 =>
          pPick t77 t80 (.bool false) fun t81 =>
          gIf t81 false (fun K => K t71) fun t83 =>
          gIf t81 false (fun K => pBinI .eql .i64 t83 (.int .i64 9) K) fun t84 =>
          gIf t81 false (fun K => K t59) fun t85 =>
          gIf t81 false (fun K => pNot t85 K) fun t86 =>
          gIf t81 false (fun K => pEq .bool true t84 t86 K) fun t87 =>
          pPick t81 (.bool true) t87 fun t88 =>
          scond t88
          (R (.bool false) w)
          (pBinI .neq .i64 t71 (.int .i64 0) fun t90 =>
            scond t90
            (oubliettelaw33_RatchetOnce.j1 x0 x1 x2 x7 x8 x9 x10 (fun i => nth [x0, x1, x2, (g 3), (g 4), (g 5), (g 6), x7, x8, x9, x10, t59, t69, t13, t71, (g 15), (g 16), (g 17), (g 18), (g 19), (g 20), (g 21), (g 22), (g 23), (g 24), (g 25), (g 26), (g 27), (g 28), (g 29), (g 30), (g 31), (g 32), (g 33), (g 34), x10, x1, t37, t38, (g 39), (g 40), x1, x10, t43, t44, t45, t45, t47, t48, t49, t50, t51, t52, (g 53), t54, x1, x10, t57, t58, t59, t68, x7, t62, x1, x10, t65, t66, x2, t68, t69, t70, t71, x9, x1, x10, t75, t76, t77, t77, t79, t80, t81, t81, t83, t84, t85, t86, t87, t88, t71, t90, (g 91), (g 92), (g 93), (g 94), (g 95), (g 96), (g 97), (g 98), (g 99), (g 100), (g 101), (g 102), (g 103), (g 104), (g 105), (g 106), (g 107), (g 108), (g 109), (g 110), (g 111), (g 112), (g 113), (g 114), (g 115), (g 116), (g 117), (g 118), (g 119), (g 120), (g 121), (g 122), (g 123)] i) N1 R X w)
            (drawn w fun S w =>
              pIA 1 x1 x10 fun t95 =>
              pLd S t95 fun t96 =>
              pCall Tryd.prog 23 [x0, t96] X w fun t97 w =>
              anew w fun S w =>
              pCall Tryd.prog 16 [t69, t97] X w fun t98 w =>
              S w ∧ (pNot t98 fun t99 =>
                gIf t99 false (fun K => pFA 2 t13 K) fun t101 =>
                gIf t99 false (fun K => pLd S t101 K) fun t102 =>
                gIf t99 false (fun K => pLenSl t102 K) fun t103 =>
                gIf t99 false (fun K => K x2) fun t104 =>
                gIf t99 false (fun K => pBinI .gtr .i64 t103 t104 K) fun t105 =>
                pPick t99 (.bool true) t105 fun t106 =>
                gIf t106 false (fun K => pLdN S 3 t13 K) fun t108 =>
                gIf t106 false (fun K => K x1) fun t109 =>
                gIf t106 false (fun K => K x10) fun t110 =>
                gIf t106 false (fun K => pIA 1 t109 t110 K) fun t111 =>
                gIf t106 false (fun K => pLd S t111 K) fun t112 =>
                gIfW t106 false (fun w K => pCall Tryd.prog 20 [t108, t112] X w K) w fun t113 w =>
                S w ∧ (pPick t106 (.bool true) t113 fun t114 =>
                  scond t114
                  (R (.bool false) w)
                  (pIA 1 x1 x10 fun t118 =>
                    pLd (· = w) t118 fun t119 =>
                    pBSlice 3 1 (rowOf [.int .i64 0] 1) [(0, 1, t119)] w fun t120 w =>
                    pApp 3 1 8 [.int .i64 0] x9 t120 w fun t121 w =>
                    pLdN (· = w) 3 t13 fun t122 =>
                    pStN 3 x8 t122 w fun _ w =>
                    oubliettelaw33_RatchetOnce.j1 x0 x1 x2 x7 x8 t121 x10 (fun i => nth [x0, x1, x2, (g 3), (g 4), (g 5), (g 6), x7, x8, t121, x10, t59, t69, t13, t71, (g 15), (g 16), (g 17), (g 18), (g 19), (g 20), (g 21), (g 22), (g 23), (g 24), (g 25), (g 26), (g 27), (g 28), (g 29), (g 30), (g 31), (g 32), (g 33), (g 34), x10, x1, t37, t38, (g 39), (g 40), x1, x10, t43, t44, t45, t45, t47, t48, t49, t50, t51, t52, (g 53), t54, x1, x10, t57, t58, t59, t68, x7, t62, x1, x10, t65, t66, x2, t68, t69, t70, t71, x9, x1, x10, t75, t76, t77, t77, t79, t80, t81, t81, t83, t84, t85, t86, t87, t88, t71, t90, t69, x0, x1, x10, t95, t96, t97, t98, t99, t99, t101, t102, t103, t104, t105, t106, t106, t108, t109, t110, t111, t112, t113, t114, x9, x1, x10, t118, t119, t120, t121, t122, (g 123)] i) N1 R X w))))))) ∧
      (pBox 30 (.agg #[.int .i64 0, .slice none 0 0, .slice none 0 0]) w fun t13_1 w =>
        S w ∧ (pCall Tryd.prog 21 [x7, t62, t66, x2] X w fun t68_1 w =>
          anew w fun S w =>
          pExt t68_1 0 fun t69_1 =>
          pExt t68_1 1 fun t70_1 =>
          pExt t68_1 2 fun t71_1 =>
          pStN 3 t13_1 t70_1 w fun _ w =>
          anew w fun S w =>
          pIA 1 x1 x10 fun t75_1 =>
          pLd (· = w) t75_1 fun t76_1 =>
          pCall Tryd.prog 22 [x9, t76_1] X w fun t77_1 w =>
          gIf t77_1 true (fun K => K t71_1) fun t79_1 =>
          gIf t77_1 true (fun K => pBinI .neq .i64 t79_1 (.int .i64 9) K) fun t80_1 =>
          pPick t77_1 t80_1 (.bool false) fun t81_1 =>
          gIf t81_1 false (fun K => K t71_1) fun t83_1 =>
          gIf t81_1 false (fun K => pBinI .eql .i64 t83_1 (.int .i64 9) K) fun t84_1 =>
          gIf t81_1 false (fun K => K t59) fun t85_1 =>
          gIf t81_1 false (fun K => pNot t85_1 K) fun t86_1 =>
          gIf t81_1 false (fun K => pEq .bool true t84_1 t86_1 K) fun t87_1 =>
          pPick t81_1 (.bool true) t87_1 fun t88_1 =>
          scond t88_1
          (R (.bool false) w)
          (pBinI .neq .i64 t71_1 (.int .i64 0) fun t90_1 =>
            scond t90_1
            (oubliettelaw33_RatchetOnce.j1 x0 x1 x2 x7 x8 x9 x10 (fun i => nth [x0, x1, x2, (g 3), (g 4), (g 5), (g 6), x7, x8, x9, x10, t59, t69_1, t13_1, t71_1, (g 15), (g 16), (g 17), (g 18), (g 19), (g 20), (g 21), (g 22), (g 23), (g 24), (g 25), (g 26), (g 27), (g 28), (g 29), (g 30), (g 31), (g 32), (g 33), (g 34), x10, x1, t37, t38, (g 39), (g 40), x1, x10, t43, t44, t45, t45, t47, t48, t49, t50, t51, t52, (g 53), t54, x1, x10, t57, t58, t59, t68_1, x7, t62, x1, x10, t65, t66, x2, t68_1, t69_1, t70_1, t71_1, x9, x1, x10, t75_1, t76_1, t77_1, t77_1, t79_1, t80_1, t81_1, t81_1, t83_1, t84_1, t85_1, t86_1, t87_1, t88_1, t71_1, t90_1, (g 91), (g 92), (g 93), (g 94), (g 95), (g 96), (g 97), (g 98), (g 99), (g 100), (g 101), (g 102), (g 103), (g 104), (g 105), (g 106), (g 107), (g 108), (g 109), (g 110), (g 111), (g 112), (g 113), (g 114), (g 115), (g 116), (g 117), (g 118), (g 119), (g 120), (g 121), (g 122), (g 123)] i) N1 R X w)
            (drawn w fun S w =>
              pIA 1 x1 x10 fun t95_1 =>
              pLd S t95_1 fun t96_1 =>
              pCall Tryd.prog 23 [x0, t96_1] X w fun t97_1 w =>
              anew w fun S w =>
              pCall Tryd.prog 16 [t69_1, t97_1] X w fun t98_1 w =>
              S w ∧ (pNot t98_1 fun t99_1 =>
                gIf t99_1 false (fun K => pFA 2 t13_1 K) fun t101_1 =>
                gIf t99_1 false (fun K => pLd S t101_1 K) fun t102_1 =>
                gIf t99_1 false (fun K => pLenSl t102_1 K) fun t103_1 =>
                gIf t99_1 false (fun K => K x2) fun t104_1 =>
                gIf t99_1 false (fun K => pBinI .gtr .i64 t103_1 t104_1 K) fun t105_1 =>
                pPick t99_1 (.bool true) t105_1 fun t106_1 =>
                gIf t106_1 false (fun K => pLdN S 3 t13_1 K) fun t108_1 =>
                gIf t106_1 false (fun K => K x1) fun t109_1 =>
                gIf t106_1 false (fun K => K x10) fun t110_1 =>
                gIf t106_1 false (fun K => pIA 1 t109_1 t110_1 K) fun t111_1 =>
                gIf t106_1 false (fun K => pLd S t111_1 K) fun t112_1 =>
                gIfW t106_1 false (fun w K => pCall Tryd.prog 20 [t108_1, t112_1] X w K) w fun t113_1 w =>
                S w ∧ (pPick t106_1 (.bool true) t113_1 fun t114_1 =>
                  scond t114_1
                  (R (.bool false) w)
                  (pIA 1 x1 x10 fun t118_1 =>
                    pLd (· = w) t118_1 fun t119_1 =>
                    pBSlice 3 1 (rowOf [.int .i64 0] 1) [(0, 1, t119_1)] w fun t120_1 w =>
                    pApp 3 1 8 [.int .i64 0] x9 t120_1 w fun t121_1 w =>
                    pLdN (· = w) 3 t13_1 fun t122_1 =>
                    pStN 3 x8 t122_1 w fun _ w =>
                    oubliettelaw33_RatchetOnce.j1 x0 x1 x2 x7 x8 t121_1 x10 (fun i => nth [x0, x1, x2, (g 3), (g 4), (g 5), (g 6), x7, x8, t121_1, x10, t59, t69_1, t13_1, t71_1, (g 15), (g 16), (g 17), (g 18), (g 19), (g 20), (g 21), (g 22), (g 23), (g 24), (g 25), (g 26), (g 27), (g 28), (g 29), (g 30), (g 31), (g 32), (g 33), (g 34), x10, x1, t37, t38, (g 39), (g 40), x1, x10, t43, t44, t45, t45, t47, t48, t49, t50, t51, t52, (g 53), t54, x1, x10, t57, t58, t59, t68_1, x7, t62, x1, x10, t65, t66, x2, t68_1, t69_1, t70_1, t71_1, x9, x1, x10, t75_1, t76_1, t77_1, t77_1, t79_1, t80_1, t81_1, t81_1, t83_1, t84_1, t85_1, t86_1, t87_1, t88_1, t71_1, t90_1, t69_1, x0, x1, x10, t95_1, t96_1, t97_1, t98_1, t99_1, t99_1, t101_1, t102_1, t103_1, t104_1, t105_1, t106_1, t106_1, t108_1, t109_1, t110_1, t111_1, t112_1, t113_1, t114_1, x9, x1, x10, t118_1, t119_1, t120_1, t121_1, t122_1, (g 123)] i) N1 R X w)))))))))
  (pCall Tryd.prog 11 [] X w fun t123 w =>
    R t123 w)
def oubliettelaw33_RatchetOnce.I1 (e : List Value) (R : KV) (X : KX) (w : World) : Prop := atP Tryd.prog Tryd.f4 oubliettelaw33_RatchetOnce.pl [1, 1, 1, 1, 1, 0, 1, 0] [] R X e w
theorem oubliettelaw33_RatchetOnce.I1_eq (e : List Value) (R : KV) (X : KX) (w : World) : oubliettelaw33_RatchetOnce.I1 e R X w = loopS (fun N e w => atP Tryd.prog Tryd.f4 oubliettelaw33_RatchetOnce.pl [1, 1, 1, 1, 1, 0, 1, 0, 0] [N] R X e w) e w := by kernel_rfl
def oubliettelaw33_RatchetOnce.fr1 (x0 : Value) (x1 : Value) (x2 : Value) (x7 : Value) (x8 : Value) (x9 : Value) (x10 : Value) (g : Nat → Value) : List Value := [x0, x1, x2, g 3, g 4, g 5, g 6, x7, x8, x9, x10, g 11, g 12, g 13, g 14, g 15, g 16, g 17, g 18, g 19, g 20, g 21, g 22, g 23, g 24, g 25, g 26, g 27, g 28, g 29, g 30, g 31, g 32, g 33, g 34, g 35, g 36, g 37, g 38, g 39, g 40, g 41, g 42, g 43, g 44, g 45, g 46, g 47, g 48, g 49, g 50, g 51, g 52, g 53, g 54, g 55, g 56, g 57, g 58, g 59, g 60, g 61, g 62, g 63, g 64, g 65, g 66, g 67, g 68, g 69, g 70, g 71, g 72, g 73, g 74, g 75, g 76, g 77, g 78, g 79, g 80, g 81, g 82, g 83, g 84, g 85, g 86, g 87, g 88, g 89, g 90, g 91, g 92, g 93, g 94, g 95, g 96, g 97, g 98, g 99, g 100, g 101, g 102, g 103, g 104, g 105, g 106, g 107, g 108, g 109, g 110, g 111, g 112, g 113, g 114, g 115, g 116, g 117, g 118, g 119, g 120, g 121, g 122, g 123]
theorem oubliettelaw33_RatchetOnce.b1_eq (x0 : Value) (x1 : Value) (x2 : Value) (x7 : Value) (x8 : Value) (x9 : Value) (x10 : Value) (g : Nat → Value) (N1 : List Value → World → Prop) (R : KV) (X : KX) (w : World) : atP Tryd.prog Tryd.f4 oubliettelaw33_RatchetOnce.pl [1, 1, 1, 1, 1, 0, 1, 0, 0] [N1] R X (oubliettelaw33_RatchetOnce.fr1 x0 x1 x2 x7 x8 x9 x10 g) w = oubliettelaw33_RatchetOnce.b1 x0 x1 x2 x7 x8 x9 x10 g N1 R X w := by kernel_rfl
/-- What a round of this loop hands on. -/
def oubliettelaw33_RatchetOnce.N1 (J : Value → Value → World → Prop) (m : Value → Value → World → Nat) (x0 : Value) (x1 : Value) (x2 : Value) (x7 : Value) (x8 : Value) (x9 : Value) (x10 : Value) (w : World) : List Value → World → Prop := fun e w' => (∃ y9 y10 g, e = oubliettelaw33_RatchetOnce.fr1 x0 x1 x2 x7 x8 y9 y10 g ∧ J y9 y10 w') ∧ m (nth e 9) (nth e 10) w' < m x9 x10 w
theorem oubliettelaw33_RatchetOnce.leaf1 {J : Value → Value → World → Prop} {m : Value → Value → World → Nat} {x0 : Value} {x1 : Value} {x2 : Value} {x7 : Value} {x8 : Value} {x9 : Value} {x10 : Value} {w w' : World} {e3 e4 e5 e6 e9 e10 e11 e12 e13 e14 e15 e16 e17 e18 e19 e20 e21 e22 e23 e24 e25 e26 e27 e28 e29 e30 e31 e32 e33 e34 e35 e36 e37 e38 e39 e40 e41 e42 e43 e44 e45 e46 e47 e48 e49 e50 e51 e52 e53 e54 e55 e56 e57 e58 e59 e60 e61 e62 e63 e64 e65 e66 e67 e68 e69 e70 e71 e72 e73 e74 e75 e76 e77 e78 e79 e80 e81 e82 e83 e84 e85 e86 e87 e88 e89 e90 e91 e92 e93 e94 e95 e96 e97 e98 e99 e100 e101 e102 e103 e104 e105 e106 e107 e108 e109 e110 e111 e112 e113 e114 e115 e116 e117 e118 e119 e120 e121 e122 e123 : Value} (h : J e9 e10 w') (hm : m e9 e10 w' < m x9 x10 w) : oubliettelaw33_RatchetOnce.N1 J m x0 x1 x2 x7 x8 x9 x10 w [x0, x1, x2, e3, e4, e5, e6, x7, x8, e9, e10, e11, e12, e13, e14, e15, e16, e17, e18, e19, e20, e21, e22, e23, e24, e25, e26, e27, e28, e29, e30, e31, e32, e33, e34, e35, e36, e37, e38, e39, e40, e41, e42, e43, e44, e45, e46, e47, e48, e49, e50, e51, e52, e53, e54, e55, e56, e57, e58, e59, e60, e61, e62, e63, e64, e65, e66, e67, e68, e69, e70, e71, e72, e73, e74, e75, e76, e77, e78, e79, e80, e81, e82, e83, e84, e85, e86, e87, e88, e89, e90, e91, e92, e93, e94, e95, e96, e97, e98, e99, e100, e101, e102, e103, e104, e105, e106, e107, e108, e109, e110, e111, e112, e113, e114, e115, e116, e117, e118, e119, e120, e121, e122, e123] w' :=
  ⟨⟨e9, e10, (fun i => nth [x0, x1, x2, e3, e4, e5, e6, x7, x8, e9, e10, e11, e12, e13, e14, e15, e16, e17, e18, e19, e20, e21, e22, e23, e24, e25, e26, e27, e28, e29, e30, e31, e32, e33, e34, e35, e36, e37, e38, e39, e40, e41, e42, e43, e44, e45, e46, e47, e48, e49, e50, e51, e52, e53, e54, e55, e56, e57, e58, e59, e60, e61, e62, e63, e64, e65, e66, e67, e68, e69, e70, e71, e72, e73, e74, e75, e76, e77, e78, e79, e80, e81, e82, e83, e84, e85, e86, e87, e88, e89, e90, e91, e92, e93, e94, e95, e96, e97, e98, e99, e100, e101, e102, e103, e104, e105, e106, e107, e108, e109, e110, e111, e112, e113, e114, e115, e116, e117, e118, e119, e120, e121, e122, e123] i), rfl, h⟩, hm⟩
theorem oubliettelaw33_RatchetOnce.loop1 (J : Value → Value → World → Prop) (m : Value → Value → World → Nat) {R : KV} {X : KX} {w : World} {x0 : Value} {x1 : Value} {x2 : Value} {x7 : Value} {x8 : Value} {e3 e4 e5 e6 e9 e10 e11 e12 e13 e14 e15 e16 e17 e18 e19 e20 e21 e22 e23 e24 e25 e26 e27 e28 e29 e30 e31 e32 e33 e34 e35 e36 e37 e38 e39 e40 e41 e42 e43 e44 e45 e46 e47 e48 e49 e50 e51 e52 e53 e54 e55 e56 e57 e58 e59 e60 e61 e62 e63 e64 e65 e66 e67 e68 e69 e70 e71 e72 e73 e74 e75 e76 e77 e78 e79 e80 e81 e82 e83 e84 e85 e86 e87 e88 e89 e90 e91 e92 e93 e94 e95 e96 e97 e98 e99 e100 e101 e102 e103 e104 e105 e106 e107 e108 e109 e110 e111 e112 e113 e114 e115 e116 e117 e118 e119 e120 e121 e122 e123 : Value} (h0 : J e9 e10 w)
    (hr : ∀ x9 x10 g w, J x9 x10 w → oubliettelaw33_RatchetOnce.b1 x0 x1 x2 x7 x8 x9 x10 g (oubliettelaw33_RatchetOnce.N1 J m x0 x1 x2 x7 x8 x9 x10 w) R X w) : oubliettelaw33_RatchetOnce.I1 [x0, x1, x2, e3, e4, e5, e6, x7, x8, e9, e10, e11, e12, e13, e14, e15, e16, e17, e18, e19, e20, e21, e22, e23, e24, e25, e26, e27, e28, e29, e30, e31, e32, e33, e34, e35, e36, e37, e38, e39, e40, e41, e42, e43, e44, e45, e46, e47, e48, e49, e50, e51, e52, e53, e54, e55, e56, e57, e58, e59, e60, e61, e62, e63, e64, e65, e66, e67, e68, e69, e70, e71, e72, e73, e74, e75, e76, e77, e78, e79, e80, e81, e82, e83, e84, e85, e86, e87, e88, e89, e90, e91, e92, e93, e94, e95, e96, e97, e98, e99, e100, e101, e102, e103, e104, e105, e106, e107, e108, e109, e110, e111, e112, e113, e114, e115, e116, e117, e118, e119, e120, e121, e122, e123] R X w := by
  rw [oubliettelaw33_RatchetOnce.I1_eq]
  refine ⟨fun e w => ∃ y9 y10 g, e = oubliettelaw33_RatchetOnce.fr1 x0 x1 x2 x7 x8 y9 y10 g ∧ J y9 y10 w, fun e w => m (nth e 9) (nth e 10) w, ⟨e9, e10, (fun i => nth [x0, x1, x2, e3, e4, e5, e6, x7, x8, e9, e10, e11, e12, e13, e14, e15, e16, e17, e18, e19, e20, e21, e22, e23, e24, e25, e26, e27, e28, e29, e30, e31, e32, e33, e34, e35, e36, e37, e38, e39, e40, e41, e42, e43, e44, e45, e46, e47, e48, e49, e50, e51, e52, e53, e54, e55, e56, e57, e58, e59, e60, e61, e62, e63, e64, e65, e66, e67, e68, e69, e70, e71, e72, e73, e74, e75, e76, e77, e78, e79, e80, e81, e82, e83, e84, e85, e86, e87, e88, e89, e90, e91, e92, e93, e94, e95, e96, e97, e98, e99, e100, e101, e102, e103, e104, e105, e106, e107, e108, e109, e110, e111, e112, e113, e114, e115, e116, e117, e118, e119, e120, e121, e122, e123] i), rfl, h0⟩, ?_⟩
  rintro _ w ⟨y9, y10, g, rfl, hJ⟩
  rw [oubliettelaw33_RatchetOnce.b1_eq]
  exact hr y9 y10 g w hJ
def oubliettelaw33_RatchetOnce.b (x0 : Value) (x1 : Value) (x2 : Value) (R : KV) (X : KX) (w : World) : Prop :=
  pLenSl x0 fun t16 =>
  pBinI .gtr .i64 t16 (.int .i64 100) fun t17 =>
  gIf t17 false (fun K => K x1) fun t19 =>
  gIf t17 false (fun K => pLenSl t19 K) fun t20 =>
  gIf t17 false (fun K => pBinI .gtr .i64 t20 (.int .i64 20) K) fun t21 =>
  pPick t17 (.bool true) t21 fun t22 =>
  gIf t22 false (fun K => K x2) fun t24 =>
  gIf t22 false (fun K => pBinI .lss .i64 t24 (.int .i64 1) K) fun t25 =>
  pPick t22 (.bool true) t25 fun t26 =>
  gIf t26 false (fun K => K x2) fun t28 =>
  gIf t26 false (fun K => pBinI .gtr .i64 t28 (.int .i64 8) K) fun t29 =>
  pPick t26 (.bool true) t29 fun t30 =>
  scond t30
  (pCall Tryd.prog 11 [] X w fun t31 w =>
    R t31 w)
  (pCall Tryd.prog 13 [(.slice none 0 0)] X w fun t32 w =>
    pCall Tryd.prog 19 [x0] X w fun t34 w =>
    pBox 30 (.agg #[.int .i64 0, .slice none 0 0, .slice none 0 0]) w fun t8 w =>
    pStN 3 t8 t34 w fun _ w =>
    oubliettelaw33_RatchetOnce.I1 [x0, x1, x2, undef, undef, undef, (.bool false), t32, t8, (.slice none 0 0), (.int .i64 0), undef, undef, undef, undef, x0, t16, t17, t17, t19, t20, t21, t22, t22, t24, t25, t26, t26, t28, t29, t30, undef, t32, x0, t34, undef, undef, undef, undef, undef, undef, undef, undef, undef, undef, undef, undef, undef, undef, undef, undef, undef, undef, undef, undef, undef, undef, undef, undef, undef, undef, undef, undef, undef, undef, undef, undef, undef, undef, undef, undef, undef, undef, undef, undef, undef, undef, undef, undef, undef, undef, undef, undef, undef, undef, undef, undef, undef, undef, undef, undef, undef, undef, undef, undef, undef, undef, undef, undef, undef, undef, undef, undef, undef, undef, undef, undef, undef, undef, undef, undef, undef, undef, undef, undef, undef, undef, undef, undef, undef, undef, undef, undef, undef] R X w)
theorem oubliettelaw33_RatchetOnce.b_eq (x0 : Value) (x1 : Value) (x2 : Value) (R : KV) (X : KX) (w : World) : atP Tryd.prog Tryd.f4 oubliettelaw33_RatchetOnce.pl [] [] R X ([x0, x1, x2] ++ undefs 121) w = oubliettelaw33_RatchetOnce.b x0 x1 x2 R X w := by kernel_rfl
theorem oubliettelaw33_RatchetOnce.calls {x0 x1 x2 : Value} {R : KV} {X : KX} {w : World} (h : oubliettelaw33_RatchetOnce.b x0 x1 x2 R X w) : GCalls Tryd.prog 4 [x0, x1, x2] R X w :=
  gcalls_of (pl := oubliettelaw33_RatchetOnce.pl) Tryd.func4 rfl (by kernel_rfl) hmixed (oubliettelaw33_RatchetOnce.b_eq x0 x1 x2 R X w ▸ h)

/-! oubliette/oubliettelaw22.Light -/
def oubliettelaw22_Light.pl : Nat → DrawPlan
  | _ => ⟨[], .done⟩
def oubliettelaw22_Light.b1 (x1 : Value) (x3 : Value) (g : Nat → Value) (N1 : List Value → World → Prop) (R : KV) (X : KX) (w : World) : Prop :=
  pFA 2 x1 fun t15 =>
  pLd (· = w) t15 fun t16 =>
  pLenSl t16 fun t17 =>
  pBinI .lss .i64 x3 t17 fun t18 =>
  scond t18
  (pFA 2 x1 fun t21 =>
    pLd (· = w) t21 fun t22 =>
    pIA 2 t22 x3 fun t24 =>
    pFA 1 t24 fun t25 =>
    pLd (· = w) t25 fun t26 =>
    pLenSl t26 fun t27 =>
    pBinI .gtr .i64 t27 (.int .i64 100) fun t28 =>
    scond t28
    (R (.bool false) w)
    (pBinI .add .i64 x3 (.int .i64 1) fun t20 =>
      N1 [(g 0), x1, (g 2), t20, (g 4), (g 5), (g 6), (g 7), (g 8), (g 9), (g 10), (g 11), (g 12), (g 13), x3, t15, t16, t17, t18, x3, t20, t21, t22, x3, t24, t25, t26, t27, t28] w))
  (R (.bool true) w)
def oubliettelaw22_Light.I1 (e : List Value) (R : KV) (X : KX) (w : World) : Prop := atP Tryd.prog Tryd.f10 oubliettelaw22_Light.pl [1, 1, 0, 1, 0] [] R X e w
theorem oubliettelaw22_Light.I1_eq (e : List Value) (R : KV) (X : KX) (w : World) : oubliettelaw22_Light.I1 e R X w = loopS (fun N e w => atP Tryd.prog Tryd.f10 oubliettelaw22_Light.pl [1, 1, 0, 1, 0, 0] [N] R X e w) e w := by kernel_rfl
def oubliettelaw22_Light.fr1 (x1 : Value) (x3 : Value) (g : Nat → Value) : List Value := [g 0, x1, g 2, x3, g 4, g 5, g 6, g 7, g 8, g 9, g 10, g 11, g 12, g 13, g 14, g 15, g 16, g 17, g 18, g 19, g 20, g 21, g 22, g 23, g 24, g 25, g 26, g 27, g 28]
theorem oubliettelaw22_Light.b1_eq (x1 : Value) (x3 : Value) (g : Nat → Value) (N1 : List Value → World → Prop) (R : KV) (X : KX) (w : World) : atP Tryd.prog Tryd.f10 oubliettelaw22_Light.pl [1, 1, 0, 1, 0, 0] [N1] R X (oubliettelaw22_Light.fr1 x1 x3 g) w = oubliettelaw22_Light.b1 x1 x3 g N1 R X w := by kernel_rfl
/-- What a round of this loop hands on. -/
def oubliettelaw22_Light.N1 (J : Value → World → Prop) (m : Value → World → Nat) (x1 : Value) (x3 : Value) (w : World) : List Value → World → Prop := fun e w' => (∃ y3 g, e = oubliettelaw22_Light.fr1 x1 y3 g ∧ J y3 w') ∧ m (nth e 3) w' < m x3 w
theorem oubliettelaw22_Light.leaf1 {J : Value → World → Prop} {m : Value → World → Nat} {x1 : Value} {x3 : Value} {w w' : World} {e0 e2 e3 e4 e5 e6 e7 e8 e9 e10 e11 e12 e13 e14 e15 e16 e17 e18 e19 e20 e21 e22 e23 e24 e25 e26 e27 e28 : Value} (h : J e3 w') (hm : m e3 w' < m x3 w) : oubliettelaw22_Light.N1 J m x1 x3 w [e0, x1, e2, e3, e4, e5, e6, e7, e8, e9, e10, e11, e12, e13, e14, e15, e16, e17, e18, e19, e20, e21, e22, e23, e24, e25, e26, e27, e28] w' :=
  ⟨⟨e3, (fun i => nth [e0, x1, e2, e3, e4, e5, e6, e7, e8, e9, e10, e11, e12, e13, e14, e15, e16, e17, e18, e19, e20, e21, e22, e23, e24, e25, e26, e27, e28] i), rfl, h⟩, hm⟩
theorem oubliettelaw22_Light.loop1 (J : Value → World → Prop) (m : Value → World → Nat) {R : KV} {X : KX} {w : World} {x1 : Value} {e0 e2 e3 e4 e5 e6 e7 e8 e9 e10 e11 e12 e13 e14 e15 e16 e17 e18 e19 e20 e21 e22 e23 e24 e25 e26 e27 e28 : Value} (h0 : J e3 w)
    (hr : ∀ x3 g w, J x3 w → oubliettelaw22_Light.b1 x1 x3 g (oubliettelaw22_Light.N1 J m x1 x3 w) R X w) : oubliettelaw22_Light.I1 [e0, x1, e2, e3, e4, e5, e6, e7, e8, e9, e10, e11, e12, e13, e14, e15, e16, e17, e18, e19, e20, e21, e22, e23, e24, e25, e26, e27, e28] R X w := by
  rw [oubliettelaw22_Light.I1_eq]
  refine ⟨fun e w => ∃ y3 g, e = oubliettelaw22_Light.fr1 x1 y3 g ∧ J y3 w, fun e w => m (nth e 3) w, ⟨e3, (fun i => nth [e0, x1, e2, e3, e4, e5, e6, e7, e8, e9, e10, e11, e12, e13, e14, e15, e16, e17, e18, e19, e20, e21, e22, e23, e24, e25, e26, e27, e28] i), rfl, h0⟩, ?_⟩
  rintro _ w ⟨y3, g, rfl, hJ⟩
  rw [oubliettelaw22_Light.b1_eq]
  exact hr y3 g w hJ
def oubliettelaw22_Light.b (x0 : Value) (R : KV) (X : KX) (w : World) : Prop :=
  pBox 25 x0 w fun t1 w =>
  pFA 1 t1 fun t4 =>
  pLd (· = w) t4 fun t5 =>
  pLenSl t5 fun t6 =>
  pBinI .gtr .i64 t6 (.int .i64 100) fun t7 =>
  gIf t7 false (fun K => pFA 2 t1 K) fun t9 =>
  gIf t7 false (fun K => pLd (· = w) t9 K) fun t10 =>
  gIf t7 false (fun K => pLenSl t10 K) fun t11 =>
  gIf t7 false (fun K => pBinI .gtr .i64 t11 (.int .i64 20) K) fun t12 =>
  pPick t7 (.bool true) t12 fun t13 =>
  scond t13
  (R (.bool false) w)
  (oubliettelaw22_Light.I1 [x0, t1, (.bool false), (.int .i64 0), t4, t5, t6, t7, t7, t9, t10, t11, t12, t13, undef, undef, undef, undef, undef, undef, undef, undef, undef, undef, undef, undef, undef, undef, undef] R X w)
theorem oubliettelaw22_Light.b_eq (x0 : Value) (R : KV) (X : KX) (w : World) : atP Tryd.prog Tryd.f10 oubliettelaw22_Light.pl [] [] R X ([x0] ++ undefs 28) w = oubliettelaw22_Light.b x0 R X w := by kernel_rfl
theorem oubliettelaw22_Light.calls {x0 : Value} {R : KV} {X : KX} {w : World} (h : oubliettelaw22_Light.b x0 R X w) : GCalls Tryd.prog 10 [x0] R X w :=
  gcalls_of (pl := oubliettelaw22_Light.pl) Tryd.func10 rfl (by kernel_rfl) hmixed (oubliettelaw22_Light.b_eq x0 R X w ▸ h)

/-! oubliette/oubliettelaw33.alive -/
def oubliettelaw33_alive.pl : Nat → DrawPlan
  | 1 => ⟨[([], [3]), ([], [2]), ([1, 0], [1, 3]), ([0, 2, 2], [0, 2, 4]), ([3], [3, 5, 6, 7]), ([4], [4, 9]), ([4], [4, 10]), ([4], [4, 11]), ([], [10]), ([5, 3, 0, 1, 2, 3, 4, 5, 8], [5]), ([8, 6, 9, 0, 1, 2, 3, 4, 5, 6, 8, 9], [6, 8]), ([7, 10, 0, 1, 2, 3, 4, 5, 6, 7, 8, 9, 10], [7])], .world 0 false (.world 1 false (.world 2 false (.world 3 false (.take 4 (.take 5 (.take 6 (.take 7 (.world 8 false (.take 9 (.world 10 false (.take 11 (.done)) .none)) .none))))) (.world 8 false (.world 3 false (.take 4 (.take 5 (.take 6 (.take 7 (.take 9 (.world 10 false (.take 11 (.done)) .none)))))) .none) .none)) (.world 8 false (.world 2 false (.world 3 false (.take 4 (.take 5 (.take 6 (.take 7 (.take 9 (.world 10 false (.take 11 (.done)) .none)))))) .none) .none) .none)) (.world 8 false (.world 1 false (.world 2 false (.world 3 false (.take 4 (.take 5 (.take 6 (.take 7 (.take 9 (.world 10 false (.take 11 (.done)) .none)))))) .none) .none) .none) .none)) (.world 1 false (.world 0 false (.world 2 false (.world 3 false (.take 4 (.take 5 (.take 6 (.take 7 (.world 8 false (.take 9 (.world 10 false (.take 11 (.done)) .none)) .none))))) (.world 8 false (.world 3 false (.take 4 (.take 5 (.take 6 (.take 7 (.take 9 (.world 10 false (.take 11 (.done)) .none)))))) .none) .none)) (.world 8 false (.world 2 false (.world 3 false (.take 4 (.take 5 (.take 6 (.take 7 (.take 9 (.world 10 false (.take 11 (.done)) .none)))))) .none) .none) .none)) (.world 8 false (.world 0 false (.world 2 false (.world 3 false (.take 4 (.take 5 (.take 6 (.take 7 (.take 9 (.world 10 false (.take 11 (.done)) .none)))))) .none) .none) .none) .none)) (.world 8 false (.world 0 false (.world 1 false (.world 2 false (.world 3 false (.take 4 (.take 5 (.take 6 (.take 7 (.take 9 (.world 10 false (.take 11 (.done)) .none)))))) .none) .none) .none) (.world 1 false (.world 0 false (.world 2 false (.world 3 false (.take 4 (.take 5 (.take 6 (.take 7 (.take 9 (.world 10 false (.take 11 (.done)) .none)))))) .none) .none) .none) .none)) .none))⟩
  | _ => ⟨[], .done⟩
def oubliettelaw33_alive.b (R : KV) (X : KX) (w : World) : Prop :=
  drawn w fun S w =>
  (pCall Tryd.prog 13 [(.slice none 0 0)] X w fun t5 w =>
    S w ∧ ((pMake 5 1 [.int .u8 0] (.int .i64 32) (.int .i64 32) w fun t6 w =>
        S w ∧ ((pCall Tryd.prog 19 [t6] X w fun t7 w =>
            S w ∧ ((pCall Tryd.prog 21 [t5, t7, (.int .i64 2), (.int .i64 4)] X w fun t8 w =>
                S w ∧ (pExt t8 0 fun t9 =>
                  pExt t8 1 fun t10 =>
                  pExt t8 2 fun t11 =>
                  pBox 30 (.agg #[.int .i64 0, .slice none 0 0, .slice none 0 0]) w fun t2 w =>
                  S w ∧ (pStN 3 t2 t10 w fun _ w =>
                    S w ∧ (pBinI .eql .i64 t11 (.int .i64 0) fun t13 =>
                      gIf t13 true (fun K => pFA 0 t2 K) fun t15 =>
                      gIf t13 true (fun K => pLd (· = w) t15 K) fun t16 =>
                      gIf t13 true (fun K => pBinI .eql .i64 t16 (.int .i64 3) K) fun t17 =>
                      pPick t13 t17 (.bool false) fun t18 =>
                      gIf t18 true (fun K => pFA 2 t2 K) fun t20 =>
                      gIf t18 true (fun K => pLd (· = w) t20 K) fun t21 =>
                      gIf t18 true (fun K => pLenSl t21 K) fun t22 =>
                      gIf t18 true (fun K => pBinI .eql .i64 t22 (.int .i64 2) K) fun t23 =>
                      pPick t18 t23 (.bool false) fun t24 =>
                      gIf t24 true (fun K => pLdN (· = w) 3 t2 K) fun t26 =>
                      gIfW t24 true (fun w K => pCall Tryd.prog 20 [t26, (.int .i64 0)] X w K) w fun t27 w =>
                      pPick t24 t27 (.bool false) fun t28 =>
                      gIf t28 true (fun K => pLdN (· = w) 3 t2 K) fun t30 =>
                      gIfW t28 true (fun w K => pCall Tryd.prog 20 [t30, (.int .i64 2)] X w K) w fun t31 w =>
                      gIf t28 true (fun K => pNot t31 K) fun t32 =>
                      pPick t28 t32 (.bool false) fun t33 =>
                      R t33 w)))) ∧
              (pBox 30 (.agg #[.int .i64 0, .slice none 0 0, .slice none 0 0]) w fun t2_1 w =>
                S w ∧ (pCall Tryd.prog 21 [t5, t7, (.int .i64 2), (.int .i64 4)] X w fun t8_1 w =>
                  S w ∧ (pExt t8_1 0 fun t9_1 =>
                    pExt t8_1 1 fun t10_1 =>
                    pExt t8_1 2 fun t11_1 =>
                    pStN 3 t2_1 t10_1 w fun _ w =>
                    S w ∧ (pBinI .eql .i64 t11_1 (.int .i64 0) fun t13_1 =>
                      gIf t13_1 true (fun K => pFA 0 t2_1 K) fun t15_1 =>
                      gIf t13_1 true (fun K => pLd (· = w) t15_1 K) fun t16_1 =>
                      gIf t13_1 true (fun K => pBinI .eql .i64 t16_1 (.int .i64 3) K) fun t17_1 =>
                      pPick t13_1 t17_1 (.bool false) fun t18_1 =>
                      gIf t18_1 true (fun K => pFA 2 t2_1 K) fun t20_1 =>
                      gIf t18_1 true (fun K => pLd (· = w) t20_1 K) fun t21_1 =>
                      gIf t18_1 true (fun K => pLenSl t21_1 K) fun t22_1 =>
                      gIf t18_1 true (fun K => pBinI .eql .i64 t22_1 (.int .i64 2) K) fun t23_1 =>
                      pPick t18_1 t23_1 (.bool false) fun t24_1 =>
                      gIf t24_1 true (fun K => pLdN (· = w) 3 t2_1 K) fun t26_1 =>
                      gIfW t24_1 true (fun w K => pCall Tryd.prog 20 [t26_1, (.int .i64 0)] X w K) w fun t27_1 w =>
                      pPick t24_1 t27_1 (.bool false) fun t28_1 =>
                      gIf t28_1 true (fun K => pLdN (· = w) 3 t2_1 K) fun t30_1 =>
                      gIfW t28_1 true (fun w K => pCall Tryd.prog 20 [t30_1, (.int .i64 2)] X w K) w fun t31_1 w =>
                      gIf t28_1 true (fun K => pNot t31_1 K) fun t32_1 =>
                      pPick t28_1 t32_1 (.bool false) fun t33_1 =>
                      R t33_1 w)))))) ∧
          (pBox 30 (.agg #[.int .i64 0, .slice none 0 0, .slice none 0 0]) w fun t2_2 w =>
            S w ∧ (pCall Tryd.prog 19 [t6] X w fun t7_1 w =>
              S w ∧ (pCall Tryd.prog 21 [t5, t7_1, (.int .i64 2), (.int .i64 4)] X w fun t8_2 w =>
                S w ∧ (pExt t8_2 0 fun t9_2 =>
                  pExt t8_2 1 fun t10_2 =>
                  pExt t8_2 2 fun t11_2 =>
                  pStN 3 t2_2 t10_2 w fun _ w =>
                  S w ∧ (pBinI .eql .i64 t11_2 (.int .i64 0) fun t13_2 =>
                    gIf t13_2 true (fun K => pFA 0 t2_2 K) fun t15_2 =>
                    gIf t13_2 true (fun K => pLd (· = w) t15_2 K) fun t16_2 =>
                    gIf t13_2 true (fun K => pBinI .eql .i64 t16_2 (.int .i64 3) K) fun t17_2 =>
                    pPick t13_2 t17_2 (.bool false) fun t18_2 =>
                    gIf t18_2 true (fun K => pFA 2 t2_2 K) fun t20_2 =>
                    gIf t18_2 true (fun K => pLd (· = w) t20_2 K) fun t21_2 =>
                    gIf t18_2 true (fun K => pLenSl t21_2 K) fun t22_2 =>
                    gIf t18_2 true (fun K => pBinI .eql .i64 t22_2 (.int .i64 2) K) fun t23_2 =>
                    pPick t18_2 t23_2 (.bool false) fun t24_2 =>
                    gIf t24_2 true (fun K => pLdN (· = w) 3 t2_2 K) fun t26_2 =>
                    gIfW t24_2 true (fun w K => pCall Tryd.prog 20 [t26_2, (.int .i64 0)] X w K) w fun t27_2 w =>
                    pPick t24_2 t27_2 (.bool false) fun t28_2 =>
                    gIf t28_2 true (fun K => pLdN (· = w) 3 t2_2 K) fun t30_2 =>
                    gIfW t28_2 true (fun w K => pCall Tryd.prog 20 [t30_2, (.int .i64 2)] X w K) w fun t31_2 w =>
                    gIf t28_2 true (fun K => pNot t31_2 K) fun t32_2 =>
                    pPick t28_2 t32_2 (.bool false) fun t33_2 =>
                    R t33_2 w))))))) ∧
      (pBox 30 (.agg #[.int .i64 0, .slice none 0 0, .slice none 0 0]) w fun t2_3 w =>
        S w ∧ (pMake 5 1 [.int .u8 0] (.int .i64 32) (.int .i64 32) w fun t6_1 w =>
          S w ∧ (pCall Tryd.prog 19 [t6_1] X w fun t7_2 w =>
            S w ∧ (pCall Tryd.prog 21 [t5, t7_2, (.int .i64 2), (.int .i64 4)] X w fun t8_3 w =>
              S w ∧ (pExt t8_3 0 fun t9_3 =>
                pExt t8_3 1 fun t10_3 =>
                pExt t8_3 2 fun t11_3 =>
                pStN 3 t2_3 t10_3 w fun _ w =>
                S w ∧ (pBinI .eql .i64 t11_3 (.int .i64 0) fun t13_3 =>
                  gIf t13_3 true (fun K => pFA 0 t2_3 K) fun t15_3 =>
                  gIf t13_3 true (fun K => pLd (· = w) t15_3 K) fun t16_3 =>
                  gIf t13_3 true (fun K => pBinI .eql .i64 t16_3 (.int .i64 3) K) fun t17_3 =>
                  pPick t13_3 t17_3 (.bool false) fun t18_3 =>
                  gIf t18_3 true (fun K => pFA 2 t2_3 K) fun t20_3 =>
                  gIf t18_3 true (fun K => pLd (· = w) t20_3 K) fun t21_3 =>
                  gIf t18_3 true (fun K => pLenSl t21_3 K) fun t22_3 =>
                  gIf t18_3 true (fun K => pBinI .eql .i64 t22_3 (.int .i64 2) K) fun t23_3 =>
                  pPick t18_3 t23_3 (.bool false) fun t24_3 =>
                  gIf t24_3 true (fun K => pLdN (· = w) 3 t2_3 K) fun t26_3 =>
                  gIfW t24_3 true (fun w K => pCall Tryd.prog 20 [t26_3, (.int .i64 0)] X w K) w fun t27_3 w =>
                  pPick t24_3 t27_3 (.bool false) fun t28_3 =>
                  gIf t28_3 true (fun K => pLdN (· = w) 3 t2_3 K) fun t30_3 =>
                  gIfW t28_3 true (fun w K => pCall Tryd.prog 20 [t30_3, (.int .i64 2)] X w K) w fun t31_3 w =>
                  gIf t28_3 true (fun K => pNot t31_3 K) fun t32_3 =>
                  pPick t28_3 t32_3 (.bool false) fun t33_3 =>
                  R t33_3 w)))))))) ∧
  (pMake 5 1 [.int .u8 0] (.int .i64 32) (.int .i64 32) w fun t6_2 w =>
    S w ∧ ((pCall Tryd.prog 13 [(.slice none 0 0)] X w fun t5_1 w =>
        S w ∧ ((pCall Tryd.prog 19 [t6_2] X w fun t7_3 w =>
            S w ∧ ((pCall Tryd.prog 21 [t5_1, t7_3, (.int .i64 2), (.int .i64 4)] X w fun t8_4 w =>
                S w ∧ (pExt t8_4 0 fun t9_4 =>
                  pExt t8_4 1 fun t10_4 =>
                  pExt t8_4 2 fun t11_4 =>
                  pBox 30 (.agg #[.int .i64 0, .slice none 0 0, .slice none 0 0]) w fun t2_4 w =>
                  S w ∧ (pStN 3 t2_4 t10_4 w fun _ w =>
                    S w ∧ (pBinI .eql .i64 t11_4 (.int .i64 0) fun t13_4 =>
                      gIf t13_4 true (fun K => pFA 0 t2_4 K) fun t15_4 =>
                      gIf t13_4 true (fun K => pLd (· = w) t15_4 K) fun t16_4 =>
                      gIf t13_4 true (fun K => pBinI .eql .i64 t16_4 (.int .i64 3) K) fun t17_4 =>
                      pPick t13_4 t17_4 (.bool false) fun t18_4 =>
                      gIf t18_4 true (fun K => pFA 2 t2_4 K) fun t20_4 =>
                      gIf t18_4 true (fun K => pLd (· = w) t20_4 K) fun t21_4 =>
                      gIf t18_4 true (fun K => pLenSl t21_4 K) fun t22_4 =>
                      gIf t18_4 true (fun K => pBinI .eql .i64 t22_4 (.int .i64 2) K) fun t23_4 =>
                      pPick t18_4 t23_4 (.bool false) fun t24_4 =>
                      gIf t24_4 true (fun K => pLdN (· = w) 3 t2_4 K) fun t26_4 =>
                      gIfW t24_4 true (fun w K => pCall Tryd.prog 20 [t26_4, (.int .i64 0)] X w K) w fun t27_4 w =>
                      pPick t24_4 t27_4 (.bool false) fun t28_4 =>
                      gIf t28_4 true (fun K => pLdN (· = w) 3 t2_4 K) fun t30_4 =>
                      gIfW t28_4 true (fun w K => pCall Tryd.prog 20 [t30_4, (.int .i64 2)] X w K) w fun t31_4 w =>
                      gIf t28_4 true (fun K => pNot t31_4 K) fun t32_4 =>
                      pPick t28_4 t32_4 (.bool false) fun t33_4 =>
                      R t33_4 w)))) ∧
              (pBox 30 (.agg #[.int .i64 0, .slice none 0 0, .slice none 0 0]) w fun t2_5 w =>
                S w ∧ (pCall Tryd.prog 21 [t5_1, t7_3, (.int .i64 2), (.int .i64 4)] X w fun t8_5 w =>
                  S w ∧ (pExt t8_5 0 fun t9_5 =>
                    pExt t8_5 1 fun t10_5 =>
                    pExt t8_5 2 fun t11_5 =>
                    pStN 3 t2_5 t10_5 w fun _ w =>
                    S w ∧ (pBinI .eql .i64 t11_5 (.int .i64 0) fun t13_5 =>
                      gIf t13_5 true (fun K => pFA 0 t2_5 K) fun t15_5 =>
                      gIf t13_5 true (fun K => pLd (· = w) t15_5 K) fun t16_5 =>
                      gIf t13_5 true (fun K => pBinI .eql .i64 t16_5 (.int .i64 3) K) fun t17_5 =>
                      pPick t13_5 t17_5 (.bool false) fun t18_5 =>
                      gIf t18_5 true (fun K => pFA 2 t2_5 K) fun t20_5 =>
                      gIf t18_5 true (fun K => pLd (· = w) t20_5 K) fun t21_5 =>
                      gIf t18_5 true (fun K => pLenSl t21_5 K) fun t22_5 =>
                      gIf t18_5 true (fun K => pBinI .eql .i64 t22_5 (.int .i64 2) K) fun t23_5 =>
                      pPick t18_5 t23_5 (.bool false) fun t24_5 =>
                      gIf t24_5 true (fun K => pLdN (· = w) 3 t2_5 K) fun t26_5 =>
                      gIfW t24_5 true (fun w K => pCall Tryd.prog 20 [t26_5, (.int .i64 0)] X w K) w fun t27_5 w =>
                      pPick t24_5 t27_5 (.bool false) fun t28_5 =>
                      gIf t28_5 true (fun K => pLdN (· = w) 3 t2_5 K) fun t30_5 =>
                      gIfW t28_5 true (fun w K => pCall Tryd.prog 20 [t30_5, (.int .i64 2)] X w K) w fun t31_5 w =>
                      gIf t28_5 true (fun K => pNot t31_5 K) fun t32_5 =>
                      pPick t28_5 t32_5 (.bool false) fun t33_5 =>
                      R t33_5 w)))))) ∧
          (pBox 30 (.agg #[.int .i64 0, .slice none 0 0, .slice none 0 0]) w fun t2_6 w =>
            S w ∧ (pCall Tryd.prog 19 [t6_2] X w fun t7_4 w =>
              S w ∧ (pCall Tryd.prog 21 [t5_1, t7_4, (.int .i64 2), (.int .i64 4)] X w fun t8_6 w =>
                S w ∧ (pExt t8_6 0 fun t9_6 =>
                  pExt t8_6 1 fun t10_6 =>
                  pExt t8_6 2 fun t11_6 =>
                  pStN 3 t2_6 t10_6 w fun _ w =>
                  S w ∧ (pBinI .eql .i64 t11_6 (.int .i64 0) fun t13_6 =>
                    gIf t13_6 true (fun K => pFA 0 t2_6 K) fun t15_6 =>
                    gIf t13_6 true (fun K => pLd (· = w) t15_6 K) fun t16_6 =>
                    gIf t13_6 true (fun K => pBinI .eql .i64 t16_6 (.int .i64 3) K) fun t17_6 =>
                    pPick t13_6 t17_6 (.bool false) fun t18_6 =>
                    gIf t18_6 true (fun K => pFA 2 t2_6 K) fun t20_6 =>
                    gIf t18_6 true (fun K => pLd (· = w) t20_6 K) fun t21_6 =>
                    gIf t18_6 true (fun K => pLenSl t21_6 K) fun t22_6 =>
                    gIf t18_6 true (fun K => pBinI .eql .i64 t22_6 (.int .i64 2) K) fun t23_6 =>
                    pPick t18_6 t23_6 (.bool false) fun t24_6 =>
                    gIf t24_6 true (fun K => pLdN (· = w) 3 t2_6 K) fun t26_6 =>
                    gIfW t24_6 true (fun w K => pCall Tryd.prog 20 [t26_6, (.int .i64 0)] X w K) w fun t27_6 w =>
                    pPick t24_6 t27_6 (.bool false) fun t28_6 =>
                    gIf t28_6 true (fun K => pLdN (· = w) 3 t2_6 K) fun t30_6 =>
                    gIfW t28_6 true (fun w K => pCall Tryd.prog 20 [t30_6, (.int .i64 2)] X w K) w fun t31_6 w =>
                    gIf t28_6 true (fun K => pNot t31_6 K) fun t32_6 =>
                    pPick t28_6 t32_6 (.bool false) fun t33_6 =>
                    R t33_6 w))))))) ∧
      (pBox 30 (.agg #[.int .i64 0, .slice none 0 0, .slice none 0 0]) w fun t2_7 w =>
        S w ∧ (pCall Tryd.prog 13 [(.slice none 0 0)] X w fun t5_2 w =>
          S w ∧ (pCall Tryd.prog 19 [t6_2] X w fun t7_5 w =>
            S w ∧ (pCall Tryd.prog 21 [t5_2, t7_5, (.int .i64 2), (.int .i64 4)] X w fun t8_7 w =>
              S w ∧ (pExt t8_7 0 fun t9_7 =>
                pExt t8_7 1 fun t10_7 =>
                pExt t8_7 2 fun t11_7 =>
                pStN 3 t2_7 t10_7 w fun _ w =>
                S w ∧ (pBinI .eql .i64 t11_7 (.int .i64 0) fun t13_7 =>
                  gIf t13_7 true (fun K => pFA 0 t2_7 K) fun t15_7 =>
                  gIf t13_7 true (fun K => pLd (· = w) t15_7 K) fun t16_7 =>
                  gIf t13_7 true (fun K => pBinI .eql .i64 t16_7 (.int .i64 3) K) fun t17_7 =>
                  pPick t13_7 t17_7 (.bool false) fun t18_7 =>
                  gIf t18_7 true (fun K => pFA 2 t2_7 K) fun t20_7 =>
                  gIf t18_7 true (fun K => pLd (· = w) t20_7 K) fun t21_7 =>
                  gIf t18_7 true (fun K => pLenSl t21_7 K) fun t22_7 =>
                  gIf t18_7 true (fun K => pBinI .eql .i64 t22_7 (.int .i64 2) K) fun t23_7 =>
                  pPick t18_7 t23_7 (.bool false) fun t24_7 =>
                  gIf t24_7 true (fun K => pLdN (· = w) 3 t2_7 K) fun t26_7 =>
                  gIfW t24_7 true (fun w K => pCall Tryd.prog 20 [t26_7, (.int .i64 0)] X w K) w fun t27_7 w =>
                  pPick t24_7 t27_7 (.bool false) fun t28_7 =>
                  gIf t28_7 true (fun K => pLdN (· = w) 3 t2_7 K) fun t30_7 =>
                  gIfW t28_7 true (fun w K => pCall Tryd.prog 20 [t30_7, (.int .i64 2)] X w K) w fun t31_7 w =>
                  gIf t28_7 true (fun K => pNot t31_7 K) fun t32_7 =>
                  pPick t28_7 t32_7 (.bool false) fun t33_7 =>
                  R t33_7 w)))))))) ∧
  (pBox 30 (.agg #[.int .i64 0, .slice none 0 0, .slice none 0 0]) w fun t2_8 w =>
    S w ∧ ((pCall Tryd.prog 13 [(.slice none 0 0)] X w fun t5_3 w =>
        S w ∧ (pMake 5 1 [.int .u8 0] (.int .i64 32) (.int .i64 32) w fun t6_3 w =>
          S w ∧ (pCall Tryd.prog 19 [t6_3] X w fun t7_6 w =>
            S w ∧ (pCall Tryd.prog 21 [t5_3, t7_6, (.int .i64 2), (.int .i64 4)] X w fun t8_8 w =>
              S w ∧ (pExt t8_8 0 fun t9_8 =>
                pExt t8_8 1 fun t10_8 =>
                pExt t8_8 2 fun t11_8 =>
                pStN 3 t2_8 t10_8 w fun _ w =>
                S w ∧ (pBinI .eql .i64 t11_8 (.int .i64 0) fun t13_8 =>
                  gIf t13_8 true (fun K => pFA 0 t2_8 K) fun t15_8 =>
                  gIf t13_8 true (fun K => pLd (· = w) t15_8 K) fun t16_8 =>
                  gIf t13_8 true (fun K => pBinI .eql .i64 t16_8 (.int .i64 3) K) fun t17_8 =>
                  pPick t13_8 t17_8 (.bool false) fun t18_8 =>
                  gIf t18_8 true (fun K => pFA 2 t2_8 K) fun t20_8 =>
                  gIf t18_8 true (fun K => pLd (· = w) t20_8 K) fun t21_8 =>
                  gIf t18_8 true (fun K => pLenSl t21_8 K) fun t22_8 =>
                  gIf t18_8 true (fun K => pBinI .eql .i64 t22_8 (.int .i64 2) K) fun t23_8 =>
                  pPick t18_8 t23_8 (.bool false) fun t24_8 =>
                  gIf t24_8 true (fun K => pLdN (· = w) 3 t2_8 K) fun t26_8 =>
                  gIfW t24_8 true (fun w K => pCall Tryd.prog 20 [t26_8, (.int .i64 0)] X w K) w fun t27_8 w =>
                  pPick t24_8 t27_8 (.bool false) fun t28_8 =>
                  gIf t28_8 true (fun K => pLdN (· = w) 3 t2_8 K) fun t30_8 =>
                  gIfW t28_8 true (fun w K => pCall Tryd.prog 20 [t30_8, (.int .i64 2)] X w K) w fun t31_8 w =>
                  gIf t28_8 true (fun K => pNot t31_8 K) fun t32_8 =>
                  pPick t28_8 t32_8 (.bool false) fun t33_8 =>
                  R t33_8 w)))))) ∧
      (pMake 5 1 [.int .u8 0] (.int .i64 32) (.int .i64 32) w fun t6_4 w =>
        S w ∧ (pCall Tryd.prog 13 [(.slice none 0 0)] X w fun t5_4 w =>
          S w ∧ (pCall Tryd.prog 19 [t6_4] X w fun t7_7 w =>
            S w ∧ (pCall Tryd.prog 21 [t5_4, t7_7, (.int .i64 2), (.int .i64 4)] X w fun t8_9 w =>
              S w ∧ (pExt t8_9 0 fun t9_9 =>
                pExt t8_9 1 fun t10_9 =>
                pExt t8_9 2 fun t11_9 =>
                pStN 3 t2_8 t10_9 w fun _ w =>
                S w ∧ (pBinI .eql .i64 t11_9 (.int .i64 0) fun t13_9 =>
                  gIf t13_9 true (fun K => pFA 0 t2_8 K) fun t15_9 =>
                  gIf t13_9 true (fun K => pLd (· = w) t15_9 K) fun t16_9 =>
                  gIf t13_9 true (fun K => pBinI .eql .i64 t16_9 (.int .i64 3) K) fun t17_9 =>
                  pPick t13_9 t17_9 (.bool false) fun t18_9 =>
                  gIf t18_9 true (fun K => pFA 2 t2_8 K) fun t20_9 =>
                  gIf t18_9 true (fun K => pLd (· = w) t20_9 K) fun t21_9 =>
                  gIf t18_9 true (fun K => pLenSl t21_9 K) fun t22_9 =>
                  gIf t18_9 true (fun K => pBinI .eql .i64 t22_9 (.int .i64 2) K) fun t23_9 =>
                  pPick t18_9 t23_9 (.bool false) fun t24_9 =>
                  gIf t24_9 true (fun K => pLdN (· = w) 3 t2_8 K) fun t26_9 =>
                  gIfW t24_9 true (fun w K => pCall Tryd.prog 20 [t26_9, (.int .i64 0)] X w K) w fun t27_9 w =>
                  pPick t24_9 t27_9 (.bool false) fun t28_9 =>
                  gIf t28_9 true (fun K => pLdN (· = w) 3 t2_8 K) fun t30_9 =>
                  gIfW t28_9 true (fun w K => pCall Tryd.prog 20 [t30_9, (.int .i64 2)] X w K) w fun t31_9 w =>
                  gIf t28_9 true (fun K => pNot t31_9 K) fun t32_9 =>
                  pPick t28_9 t32_9 (.bool false) fun t33_9 =>
                  R t33_9 w))))))))
theorem oubliettelaw33_alive.b_eq (R : KV) (X : KX) (w : World) : atP Tryd.prog Tryd.f11 oubliettelaw33_alive.pl [] [] R X ([] ++ undefs 34) w = oubliettelaw33_alive.b R X w := by kernel_rfl
theorem oubliettelaw33_alive.calls {R : KV} {X : KX} {w : World} (h : oubliettelaw33_alive.b R X w) : GCalls Tryd.prog 11 [] R X w :=
  gcalls_of (pl := oubliettelaw33_alive.pl) Tryd.func11 rfl (by kernel_rfl) hmixed (oubliettelaw33_alive.b_eq R X w ▸ h)

/-! oubliette/ratchet.Step -/
def ratchet_Step.pl : Nat → DrawPlan
  | 2 => ⟨[([], [1]), ([0], [0, 2]), ([1], [1, 11]), ([], [6]), ([], [5]), ([4], [4, 6]), ([3, 5], [3, 5, 13]), ([], [8]), ([7], [7, 9]), ([8, 6], [8, 15]), ([0, 1, 2, 4, 5, 7, 8], [11]), ([10, 2, 9, 0, 1, 2, 4, 5, 7, 8], [2, 10]), ([0, 1, 2, 3, 4, 5, 6, 7, 8, 10, 11], [13]), ([12, 6, 11, 0, 1, 2, 3, 4, 5, 6, 7, 8, 10, 11], [6, 12]), ([0, 1, 2, 3, 4, 5, 6, 7, 8, 9, 10, 11, 12, 13], [15]), ([14, 9, 13, 0, 1, 2, 3, 4, 5, 6, 7, 8, 9, 10, 11, 12, 13], [9, 14])], .take 0 (.take 1 (.take 2 (.take 3 (.take 4 (.take 5 (.take 7 (.take 8 (.take 10 (.world 6 false (.world 9 false (.world 11 true (.take 12 (.world 13 true (.take 14 (.world 15 true (.done) .none)) .none)) .none) .none) .none)))))))))⟩
  | 3 => ⟨[([], [2]), ([], [3]), ([0, 0], [0]), ([1, 2, 0, 1, 2], [1])], .take 0 (.take 1 (.take 2 (.world 3 true (.done) .none)))⟩
  | _ => ⟨[], .done⟩
def ratchet_Step.b (x0 : Value) (x1 : Value) (R : KV) (X : KX) (w : World) : Prop :=
  pBox 30 x1 w fun t3 w =>
  pBox 30 (.agg #[.int .i64 0, .slice none 0 0, .slice none 0 0]) w fun t5 w =>
  pFA 1 t3 fun t8 =>
  pLd (· = w) t8 fun t9 =>
  pCall Tryd.prog 44 [x0, t9, (.string ⟨#[107, 101, 121]⟩)] X w fun t10 w =>
  drawn w fun S w =>
  pFA 0 t3 fun t11 =>
  pLd S t11 fun t12 =>
  pBinI .add .i64 t12 (.int .i64 1) fun t13 =>
  pFA 1 t3 fun t15 =>
  pLd S t15 fun t16 =>
  pFA 2 t3 fun t18 =>
  pLd S t18 fun t19 =>
  pFA 0 t3 fun t21 =>
  pCall Tryd.prog 44 [x0, t16, (.string ⟨#[110, 101, 120, 116]⟩)] X w fun t17 w =>
  S w ∧ (pCall Tryd.prog 45 [t19] X w fun t20 w =>
    S w ∧ (pSt t21 t13 w fun _ w =>
      anew w fun S w =>
      pFA 1 t3 fun t22 =>
      pSt t22 t17 w fun _ w =>
      anew w fun S w =>
      pFA 2 t3 fun t23 =>
      pSt t23 t20 w fun _ w =>
      anew w fun S w =>
      drawn w fun S w =>
      pLdN S 3 t3 fun t25 =>
      pStN 3 t5 t25 w fun _ w =>
      anew w fun S w =>
      pLdN (· = w) 3 t5 fun r1 =>
      R (.tuple #[t10, r1]) w))
theorem ratchet_Step.b_eq (x0 : Value) (x1 : Value) (R : KV) (X : KX) (w : World) : atP Tryd.prog Tryd.f12 ratchet_Step.pl [] [] R X ([x0, x1] ++ undefs 24) w = ratchet_Step.b x0 x1 R X w := by kernel_rfl
theorem ratchet_Step.calls {x0 x1 : Value} {R : KV} {X : KX} {w : World} (h : ratchet_Step.b x0 x1 R X w) : GCalls Tryd.prog 12 [x0, x1] R X w :=
  gcalls_of (pl := ratchet_Step.pl) Tryd.func12 rfl (by kernel_rfl) hmixed (ratchet_Step.b_eq x0 x1 R X w ▸ h)

/-! oubliette/suite.Real -/
def suite_Real.pl : Nat → DrawPlan
  | _ => ⟨[], .done⟩
def suite_Real.b (x0 : Value) (R : KV) (X : KX) (w : World) : Prop :=
  pCall Tryd.prog 25 [x0] X w fun t4 w =>
  pBuild [.pointer none, .map none, .pointer none] [(2, 1, t4)] fun t5 =>
  pBox 90 t5 w fun t6 w =>
  R t6 w
theorem suite_Real.b_eq (x0 : Value) (R : KV) (X : KX) (w : World) : atP Tryd.prog Tryd.f13 suite_Real.pl [] [] R X ([x0] ++ undefs 6) w = suite_Real.b x0 R X w := by kernel_rfl
theorem suite_Real.calls {x0 : Value} {R : KV} {X : KX} {w : World} (h : suite_Real.b x0 R X w) : GCalls Tryd.prog 13 [x0] R X w :=
  gcalls_of (pl := suite_Real.pl) Tryd.func13 rfl (by kernel_rfl) hmixed (suite_Real.b_eq x0 R X w ▸ h)

/-! oubliette/oubliettelaw22.Of -/
def oubliettelaw22_Of.pl : Nat → DrawPlan
  | 5 => ⟨[([], [1]), ([0], [0, 16]), ([], [3]), ([2], [2, 5]), ([], [5]), ([3, 4], [3, 4, 6]), ([5], [5, 7]), ([6], [6, 14]), ([], [9]), ([8], [8, 11]), ([], [11]), ([9, 10], [9, 10, 12]), ([11], [11, 13]), ([12], [12, 14]), ([7, 13], [7, 13, 15]), ([14], [14, 16]), ([1, 15], [1, 15, 18]), ([0, 1, 2, 3, 4, 5, 6, 7, 8, 9, 10, 11, 12, 13, 14, 15, 16], [18]), ([17, 16, 16, 0, 1, 2, 3, 4, 5, 6, 7, 8, 9, 10, 11, 12, 13, 14, 15, 16], [16, 17])], .take 0 (.take 1 (.take 2 (.take 3 (.take 4 (.take 5 (.take 6 (.take 7 (.take 8 (.take 9 (.take 10 (.take 11 (.take 12 (.take 13 (.take 14 (.world 15 false (.world 16 false (.take 17 (.world 18 true (.done) .none)) .none) .none)))))))))))))))⟩
  | _ => ⟨[], .done⟩
def oubliettelaw22_Of.b1 (x1 : Value) (x2 : Value) (x3 : Value) (x4 : Value) (g : Nat → Value) (N1 : List Value → World → Prop) (R : KV) (X : KX) (w : World) : Prop :=
  pFA 2 x1 fun t11 =>
  pLd (· = w) t11 fun t12 =>
  pLenSl t12 fun t13 =>
  pBinI .lss .i64 x4 t13 fun t14 =>
  scond t14
  (drawn w fun S w =>
    pFA 2 x3 fun t17 =>
    pLd S t17 fun t18 =>
    pFA 2 x1 fun t19 =>
    pLd S t19 fun t20 =>
    pIA 2 t20 x4 fun t22 =>
    pFA 0 t22 fun t23 =>
    pLd S t23 fun t24 =>
    pFA 2 x1 fun t25 =>
    pLd S t25 fun t26 =>
    pIA 2 t26 x4 fun t28 =>
    pFA 1 t28 fun t29 =>
    pLd S t29 fun t30 =>
    pBuild [.int .i64 0, .slice none 0 0] [(0, 1, t24), (1, 1, t30)] fun t31 =>
    pBSlice 83 1 (rowOf [.int .i64 0, .slice none 0 0] 1) [(0, 2, t31)] w fun t32 w =>
    S w ∧ (pApp 83 2 32 [.int .i64 0, .slice none 0 0] t18 t32 w fun t33 w =>
      S w ∧ (pFA 2 x3 fun t34 =>
        pSt t34 t33 w fun _ w =>
        anew w fun S w =>
        pBinI .add .i64 x4 (.int .i64 1) fun t16 =>
        N1 [(g 0), x1, x2, x3, t16, (g 5), (g 6), (g 7), (g 8), (g 9), x4, t11, t12, t13, t14, x4, t16, t17, t18, t19, t20, x4, t22, t23, t24, t25, t26, x4, t28, t29, t30, t31, t32, t33, t34, (g 35)] w)))
  (pLdN (· = w) 3 x3 fun t35 =>
    pStN 3 x2 t35 w fun _ w =>
    pLdN (· = w) 3 x2 fun r0 =>
    R r0 w)
def oubliettelaw22_Of.I1 (e : List Value) (R : KV) (X : KX) (w : World) : Prop := atP Tryd.prog Tryd.f14 oubliettelaw22_Of.pl [1, 1, 0, 1, 0] [] R X e w
theorem oubliettelaw22_Of.I1_eq (e : List Value) (R : KV) (X : KX) (w : World) : oubliettelaw22_Of.I1 e R X w = loopS (fun N e w => atP Tryd.prog Tryd.f14 oubliettelaw22_Of.pl [1, 1, 0, 1, 0, 0] [N] R X e w) e w := by kernel_rfl
def oubliettelaw22_Of.fr1 (x1 : Value) (x2 : Value) (x3 : Value) (x4 : Value) (g : Nat → Value) : List Value := [g 0, x1, x2, x3, x4, g 5, g 6, g 7, g 8, g 9, g 10, g 11, g 12, g 13, g 14, g 15, g 16, g 17, g 18, g 19, g 20, g 21, g 22, g 23, g 24, g 25, g 26, g 27, g 28, g 29, g 30, g 31, g 32, g 33, g 34, g 35]
theorem oubliettelaw22_Of.b1_eq (x1 : Value) (x2 : Value) (x3 : Value) (x4 : Value) (g : Nat → Value) (N1 : List Value → World → Prop) (R : KV) (X : KX) (w : World) : atP Tryd.prog Tryd.f14 oubliettelaw22_Of.pl [1, 1, 0, 1, 0, 0] [N1] R X (oubliettelaw22_Of.fr1 x1 x2 x3 x4 g) w = oubliettelaw22_Of.b1 x1 x2 x3 x4 g N1 R X w := by kernel_rfl
/-- What a round of this loop hands on. -/
def oubliettelaw22_Of.N1 (J : Value → World → Prop) (m : Value → World → Nat) (x1 : Value) (x2 : Value) (x3 : Value) (x4 : Value) (w : World) : List Value → World → Prop := fun e w' => (∃ y4 g, e = oubliettelaw22_Of.fr1 x1 x2 x3 y4 g ∧ J y4 w') ∧ m (nth e 4) w' < m x4 w
theorem oubliettelaw22_Of.leaf1 {J : Value → World → Prop} {m : Value → World → Nat} {x1 : Value} {x2 : Value} {x3 : Value} {x4 : Value} {w w' : World} {e0 e4 e5 e6 e7 e8 e9 e10 e11 e12 e13 e14 e15 e16 e17 e18 e19 e20 e21 e22 e23 e24 e25 e26 e27 e28 e29 e30 e31 e32 e33 e34 e35 : Value} (h : J e4 w') (hm : m e4 w' < m x4 w) : oubliettelaw22_Of.N1 J m x1 x2 x3 x4 w [e0, x1, x2, x3, e4, e5, e6, e7, e8, e9, e10, e11, e12, e13, e14, e15, e16, e17, e18, e19, e20, e21, e22, e23, e24, e25, e26, e27, e28, e29, e30, e31, e32, e33, e34, e35] w' :=
  ⟨⟨e4, (fun i => nth [e0, x1, x2, x3, e4, e5, e6, e7, e8, e9, e10, e11, e12, e13, e14, e15, e16, e17, e18, e19, e20, e21, e22, e23, e24, e25, e26, e27, e28, e29, e30, e31, e32, e33, e34, e35] i), rfl, h⟩, hm⟩
theorem oubliettelaw22_Of.loop1 (J : Value → World → Prop) (m : Value → World → Nat) {R : KV} {X : KX} {w : World} {x1 : Value} {x2 : Value} {x3 : Value} {e0 e4 e5 e6 e7 e8 e9 e10 e11 e12 e13 e14 e15 e16 e17 e18 e19 e20 e21 e22 e23 e24 e25 e26 e27 e28 e29 e30 e31 e32 e33 e34 e35 : Value} (h0 : J e4 w)
    (hr : ∀ x4 g w, J x4 w → oubliettelaw22_Of.b1 x1 x2 x3 x4 g (oubliettelaw22_Of.N1 J m x1 x2 x3 x4 w) R X w) : oubliettelaw22_Of.I1 [e0, x1, x2, x3, e4, e5, e6, e7, e8, e9, e10, e11, e12, e13, e14, e15, e16, e17, e18, e19, e20, e21, e22, e23, e24, e25, e26, e27, e28, e29, e30, e31, e32, e33, e34, e35] R X w := by
  rw [oubliettelaw22_Of.I1_eq]
  refine ⟨fun e w => ∃ y4 g, e = oubliettelaw22_Of.fr1 x1 x2 x3 y4 g ∧ J y4 w, fun e w => m (nth e 4) w, ⟨e4, (fun i => nth [e0, x1, x2, x3, e4, e5, e6, e7, e8, e9, e10, e11, e12, e13, e14, e15, e16, e17, e18, e19, e20, e21, e22, e23, e24, e25, e26, e27, e28, e29, e30, e31, e32, e33, e34, e35] i), rfl, h0⟩, ?_⟩
  rintro _ w ⟨y4, g, rfl, hJ⟩
  rw [oubliettelaw22_Of.b1_eq]
  exact hr y4 g w hJ
def oubliettelaw22_Of.b (x0 : Value) (R : KV) (X : KX) (w : World) : Prop :=
  pBox 25 x0 w fun t1 w =>
  pBox 30 (.agg #[.int .i64 0, .slice none 0 0, .slice none 0 0]) w fun t2 w =>
  pFA 0 t1 fun t5 =>
  pLd (· = w) t5 fun t6 =>
  pFA 1 t1 fun t7 =>
  pLd (· = w) t7 fun t8 =>
  pBuild [.int .i64 0, .slice none 0 0, .slice none 0 0] [(0, 1, t6), (1, 1, t8)] fun t9 =>
  pBox 30 (.agg #[.int .i64 0, .slice none 0 0, .slice none 0 0]) w fun t3 w =>
  pStN 3 t3 t9 w fun _ w =>
  oubliettelaw22_Of.I1 [x0, t1, t2, t3, (.int .i64 0), t5, t6, t7, t8, t9, undef, undef, undef, undef, undef, undef, undef, undef, undef, undef, undef, undef, undef, undef, undef, undef, undef, undef, undef, undef, undef, undef, undef, undef, undef, undef] R X w
theorem oubliettelaw22_Of.b_eq (x0 : Value) (R : KV) (X : KX) (w : World) : atP Tryd.prog Tryd.f14 oubliettelaw22_Of.pl [] [] R X ([x0] ++ undefs 35) w = oubliettelaw22_Of.b x0 R X w := by kernel_rfl
theorem oubliettelaw22_Of.calls {x0 : Value} {R : KV} {X : KX} {w : World} (h : oubliettelaw22_Of.b x0 R X w) : GCalls Tryd.prog 14 [x0] R X w :=
  gcalls_of (pl := oubliettelaw22_Of.pl) Tryd.func14 rfl (by kernel_rfl) hmixed (oubliettelaw22_Of.b_eq x0 R X w ▸ h)

/-! oubliette/oublietteref22.SameChain -/
def oublietteref22_SameChain.pl : Nat → DrawPlan
  | 6 => ⟨[([], [1]), ([0], [0, 3]), ([], [3]), ([1, 2], [1, 2, 4]), ([3], [3, 5]), ([4], [4, 12]), ([], [7]), ([6], [6, 9]), ([], [9]), ([7, 8], [7, 8, 10]), ([9], [9, 11]), ([10], [10, 12]), ([5, 11], [5, 11, 13]), ([12], [12, 14, 15, 16, 17, 18, 19, 20, 21, 22, 23, 24, 25, 26, 27, 28]), ([13], [13, 15]), ([14, 13], [13, 14, 17]), ([13], [13, 17]), ([15, 16, 13], [13, 15, 16, 18]), ([17, 13], [13, 17, 19]), ([18, 13], [13, 18, 26]), ([13], [13, 21]), ([20, 13], [13, 20, 23]), ([13], [13, 23]), ([21, 22, 13], [13, 21, 22, 24]), ([23, 13], [13, 23, 25]), ([24, 13], [13, 24, 26]), ([19, 25, 13, 13], [13, 19, 25, 27]), ([26, 13], [13, 26, 28]), ([13, 27], [13, 27])], .take 0 (.take 1 (.take 2 (.take 3 (.take 4 (.take 5 (.take 6 (.take 7 (.take 8 (.take 9 (.take 10 (.take 11 (.take 12 (.take 13 (.take 14 (.take 15 (.take 16 (.take 17 (.take 18 (.take 19 (.take 20 (.take 21 (.take 22 (.take 23 (.take 24 (.take 25 (.world 26 false (.take 27 (.take 28 (.done))) .none))))))))))))))))))))))))))⟩
  | _ => ⟨[], .done⟩
def oublietteref22_SameChain.b1 (x2 : Value) (x3 : Value) (x5 : Value) (g : Nat → Value) (N1 : List Value → World → Prop) (R : KV) (X : KX) (w : World) : Prop :=
  pFA 2 x2 fun t29 =>
  pLd (· = w) t29 fun t30 =>
  pLenSl t30 fun t31 =>
  pBinI .lss .i64 x5 t31 fun t32 =>
  scond t32
  (drawn w fun S w =>
    pFA 2 x2 fun t35 =>
    pLd S t35 fun t36 =>
    pIA 2 t36 x5 fun t38 =>
    pFA 0 t38 fun t39 =>
    pLd S t39 fun t40 =>
    pFA 2 x3 fun t41 =>
    pLd S t41 fun t42 =>
    pIA 2 t42 x5 fun t44 =>
    pFA 0 t44 fun t45 =>
    pLd S t45 fun t46 =>
    pBinI .neq .i64 t40 t46 fun t47 =>
    gIf t47 false (fun K => pFA 2 x2 K) fun t49 =>
    gIf t47 false (fun K => pLd S t49 K) fun t50 =>
    gIf t47 false (fun K => K x5) fun t51 =>
    gIf t47 false (fun K => pIA 2 t50 t51 K) fun t52 =>
    gIf t47 false (fun K => pFA 1 t52 K) fun t53 =>
    gIf t47 false (fun K => pLd S t53 K) fun t54 =>
    gIf t47 false (fun K => pFA 2 x3 K) fun t55 =>
    gIf t47 false (fun K => pLd S t55 K) fun t56 =>
    gIf t47 false (fun K => K x5) fun t57 =>
    gIf t47 false (fun K => pIA 2 t56 t57 K) fun t58 =>
    gIf t47 false (fun K => pFA 1 t58 K) fun t59 =>
    gIf t47 false (fun K => pLd S t59 K) fun t60 =>
    gIfW t47 false (fun w K => pCall Tryd.prog 16 [t54, t60] X w K) w fun t61 w =>
    S w ∧ (gIf t47 false (fun K => pNot t61 K) fun t62 =>
      pPick t47 (.bool true) t62 fun t63 =>
      scond t63
      (R (.bool false) w)
      (pBinI .add .i64 x5 (.int .i64 1) fun t34 =>
        N1 [(g 0), (g 1), x2, x3, (g 4), t34, (g 6), (g 7), (g 8), (g 9), (g 10), (g 11), (g 12), (g 13), (g 14), (g 15), (g 16), (g 17), (g 18), (g 19), (g 20), (g 21), (g 22), (g 23), (g 24), (g 25), (g 26), (g 27), x5, t29, t30, t31, t32, x5, t34, t35, t36, x5, t38, t39, t40, t41, t42, x5, t44, t45, t46, t47, t47, t49, t50, t51, t52, t53, t54, t55, t56, t57, t58, t59, t60, t61, t62, t63] w)))
  (R (.bool true) w)
def oublietteref22_SameChain.I1 (e : List Value) (R : KV) (X : KX) (w : World) : Prop := atP Tryd.prog Tryd.f17 oublietteref22_SameChain.pl [1, 1, 0, 1, 0] [] R X e w
theorem oublietteref22_SameChain.I1_eq (e : List Value) (R : KV) (X : KX) (w : World) : oublietteref22_SameChain.I1 e R X w = loopS (fun N e w => atP Tryd.prog Tryd.f17 oublietteref22_SameChain.pl [1, 1, 0, 1, 0, 0] [N] R X e w) e w := by kernel_rfl
def oublietteref22_SameChain.fr1 (x2 : Value) (x3 : Value) (x5 : Value) (g : Nat → Value) : List Value := [g 0, g 1, x2, x3, g 4, x5, g 6, g 7, g 8, g 9, g 10, g 11, g 12, g 13, g 14, g 15, g 16, g 17, g 18, g 19, g 20, g 21, g 22, g 23, g 24, g 25, g 26, g 27, g 28, g 29, g 30, g 31, g 32, g 33, g 34, g 35, g 36, g 37, g 38, g 39, g 40, g 41, g 42, g 43, g 44, g 45, g 46, g 47, g 48, g 49, g 50, g 51, g 52, g 53, g 54, g 55, g 56, g 57, g 58, g 59, g 60, g 61, g 62, g 63]
theorem oublietteref22_SameChain.b1_eq (x2 : Value) (x3 : Value) (x5 : Value) (g : Nat → Value) (N1 : List Value → World → Prop) (R : KV) (X : KX) (w : World) : atP Tryd.prog Tryd.f17 oublietteref22_SameChain.pl [1, 1, 0, 1, 0, 0] [N1] R X (oublietteref22_SameChain.fr1 x2 x3 x5 g) w = oublietteref22_SameChain.b1 x2 x3 x5 g N1 R X w := by kernel_rfl
/-- What a round of this loop hands on. -/
def oublietteref22_SameChain.N1 (J : Value → World → Prop) (m : Value → World → Nat) (x2 : Value) (x3 : Value) (x5 : Value) (w : World) : List Value → World → Prop := fun e w' => (∃ y5 g, e = oublietteref22_SameChain.fr1 x2 x3 y5 g ∧ J y5 w') ∧ m (nth e 5) w' < m x5 w
theorem oublietteref22_SameChain.leaf1 {J : Value → World → Prop} {m : Value → World → Nat} {x2 : Value} {x3 : Value} {x5 : Value} {w w' : World} {e0 e1 e4 e5 e6 e7 e8 e9 e10 e11 e12 e13 e14 e15 e16 e17 e18 e19 e20 e21 e22 e23 e24 e25 e26 e27 e28 e29 e30 e31 e32 e33 e34 e35 e36 e37 e38 e39 e40 e41 e42 e43 e44 e45 e46 e47 e48 e49 e50 e51 e52 e53 e54 e55 e56 e57 e58 e59 e60 e61 e62 e63 : Value} (h : J e5 w') (hm : m e5 w' < m x5 w) : oublietteref22_SameChain.N1 J m x2 x3 x5 w [e0, e1, x2, x3, e4, e5, e6, e7, e8, e9, e10, e11, e12, e13, e14, e15, e16, e17, e18, e19, e20, e21, e22, e23, e24, e25, e26, e27, e28, e29, e30, e31, e32, e33, e34, e35, e36, e37, e38, e39, e40, e41, e42, e43, e44, e45, e46, e47, e48, e49, e50, e51, e52, e53, e54, e55, e56, e57, e58, e59, e60, e61, e62, e63] w' :=
  ⟨⟨e5, (fun i => nth [e0, e1, x2, x3, e4, e5, e6, e7, e8, e9, e10, e11, e12, e13, e14, e15, e16, e17, e18, e19, e20, e21, e22, e23, e24, e25, e26, e27, e28, e29, e30, e31, e32, e33, e34, e35, e36, e37, e38, e39, e40, e41, e42, e43, e44, e45, e46, e47, e48, e49, e50, e51, e52, e53, e54, e55, e56, e57, e58, e59, e60, e61, e62, e63] i), rfl, h⟩, hm⟩
theorem oublietteref22_SameChain.loop1 (J : Value → World → Prop) (m : Value → World → Nat) {R : KV} {X : KX} {w : World} {x2 : Value} {x3 : Value} {e0 e1 e4 e5 e6 e7 e8 e9 e10 e11 e12 e13 e14 e15 e16 e17 e18 e19 e20 e21 e22 e23 e24 e25 e26 e27 e28 e29 e30 e31 e32 e33 e34 e35 e36 e37 e38 e39 e40 e41 e42 e43 e44 e45 e46 e47 e48 e49 e50 e51 e52 e53 e54 e55 e56 e57 e58 e59 e60 e61 e62 e63 : Value} (h0 : J e5 w)
    (hr : ∀ x5 g w, J x5 w → oublietteref22_SameChain.b1 x2 x3 x5 g (oublietteref22_SameChain.N1 J m x2 x3 x5 w) R X w) : oublietteref22_SameChain.I1 [e0, e1, x2, x3, e4, e5, e6, e7, e8, e9, e10, e11, e12, e13, e14, e15, e16, e17, e18, e19, e20, e21, e22, e23, e24, e25, e26, e27, e28, e29, e30, e31, e32, e33, e34, e35, e36, e37, e38, e39, e40, e41, e42, e43, e44, e45, e46, e47, e48, e49, e50, e51, e52, e53, e54, e55, e56, e57, e58, e59, e60, e61, e62, e63] R X w := by
  rw [oublietteref22_SameChain.I1_eq]
  refine ⟨fun e w => ∃ y5 g, e = oublietteref22_SameChain.fr1 x2 x3 y5 g ∧ J y5 w, fun e w => m (nth e 5) w, ⟨e5, (fun i => nth [e0, e1, x2, x3, e4, e5, e6, e7, e8, e9, e10, e11, e12, e13, e14, e15, e16, e17, e18, e19, e20, e21, e22, e23, e24, e25, e26, e27, e28, e29, e30, e31, e32, e33, e34, e35, e36, e37, e38, e39, e40, e41, e42, e43, e44, e45, e46, e47, e48, e49, e50, e51, e52, e53, e54, e55, e56, e57, e58, e59, e60, e61, e62, e63] i), rfl, h0⟩, ?_⟩
  rintro _ w ⟨y5, g, rfl, hJ⟩
  rw [oublietteref22_SameChain.b1_eq]
  exact hr y5 g w hJ
def oublietteref22_SameChain.b (x0 : Value) (x1 : Value) (R : KV) (X : KX) (w : World) : Prop :=
  pBox 25 x0 w fun t2 w =>
  pBox 25 x1 w fun t3 w =>
  pFA 0 t2 fun t6 =>
  pLd (· = w) t6 fun t7 =>
  pFA 0 t3 fun t8 =>
  pLd (· = w) t8 fun t9 =>
  pBinI .neq .i64 t7 t9 fun t10 =>
  gIf t10 false (fun K => pFA 1 t2 K) fun t12 =>
  gIf t10 false (fun K => pLd (· = w) t12 K) fun t13 =>
  gIf t10 false (fun K => pFA 1 t3 K) fun t14 =>
  gIf t10 false (fun K => pLd (· = w) t14 K) fun t15 =>
  gIfW t10 false (fun w K => pCall Tryd.prog 16 [t13, t15] X w K) w fun t16 w =>
  gIf t10 false (fun K => pNot t16 K) fun t17 =>
  pPick t10 (.bool true) t17 fun t18 =>
  gIf t18 false (fun K => pFA 2 t2 K) fun t20 =>
  gIf t18 false (fun K => pLd (· = w) t20 K) fun t21 =>
  gIf t18 false (fun K => pLenSl t21 K) fun t22 =>
  gIf t18 false (fun K => pFA 2 t3 K) fun t23 =>
  gIf t18 false (fun K => pLd (· = w) t23 K) fun t24 =>
  gIf t18 false (fun K => pLenSl t24 K) fun t25 =>
  gIf t18 false (fun K => pBinI .neq .i64 t22 t25 K) fun t26 =>
  pPick t18 (.bool true) t26 fun t27 =>
  scond t27
  (R (.bool false) w)
  (oublietteref22_SameChain.I1 [x0, x1, t2, t3, (.bool false), (.int .i64 0), t6, t7, t8, t9, t10, t10, t12, t13, t14, t15, t16, t17, t18, t18, t20, t21, t22, t23, t24, t25, t26, t27, undef, undef, undef, undef, undef, undef, undef, undef, undef, undef, undef, undef, undef, undef, undef, undef, undef, undef, undef, undef, undef, undef, undef, undef, undef, undef, undef, undef, undef, undef, undef, undef, undef, undef, undef, undef] R X w)
theorem oublietteref22_SameChain.b_eq (x0 : Value) (x1 : Value) (R : KV) (X : KX) (w : World) : atP Tryd.prog Tryd.f17 oublietteref22_SameChain.pl [] [] R X ([x0, x1] ++ undefs 62) w = oublietteref22_SameChain.b x0 x1 R X w := by kernel_rfl
theorem oublietteref22_SameChain.calls {x0 x1 : Value} {R : KV} {X : KX} {w : World} (h : oublietteref22_SameChain.b x0 x1 R X w) : GCalls Tryd.prog 17 [x0, x1] R X w :=
  gcalls_of (pl := oublietteref22_SameChain.pl) Tryd.func17 rfl (by kernel_rfl) hmixed (oublietteref22_SameChain.b_eq x0 x1 R X w ▸ h)

/-! oubliette/oubliettelaw22.Back -/
def oubliettelaw22_Back.pl : Nat → DrawPlan
  | 5 => ⟨[([], [1]), ([0], [0, 16]), ([], [3]), ([2], [2, 5]), ([], [5]), ([3, 4], [3, 4, 6]), ([5], [5, 7]), ([6], [6, 14]), ([], [9]), ([8], [8, 11]), ([], [11]), ([9, 10], [9, 10, 12]), ([11], [11, 13]), ([12], [12, 14]), ([7, 13], [7, 13, 15]), ([14], [14, 16]), ([1, 15], [1, 15, 18]), ([0, 1, 2, 3, 4, 5, 6, 7, 8, 9, 10, 11, 12, 13, 14, 15, 16], [18]), ([17, 16, 16, 0, 1, 2, 3, 4, 5, 6, 7, 8, 9, 10, 11, 12, 13, 14, 15, 16], [16, 17])], .take 0 (.take 1 (.take 2 (.take 3 (.take 4 (.take 5 (.take 6 (.take 7 (.take 8 (.take 9 (.take 10 (.take 11 (.take 12 (.take 13 (.take 14 (.world 15 false (.world 16 false (.take 17 (.world 18 true (.done) .none)) .none) .none)))))))))))))))⟩
  | _ => ⟨[], .done⟩
def oubliettelaw22_Back.b1 (x1 : Value) (x2 : Value) (x3 : Value) (x4 : Value) (g : Nat → Value) (N1 : List Value → World → Prop) (R : KV) (X : KX) (w : World) : Prop :=
  pFA 2 x1 fun t11 =>
  pLd (· = w) t11 fun t12 =>
  pLenSl t12 fun t13 =>
  pBinI .lss .i64 x4 t13 fun t14 =>
  scond t14
  (drawn w fun S w =>
    pFA 2 x3 fun t17 =>
    pLd S t17 fun t18 =>
    pFA 2 x1 fun t19 =>
    pLd S t19 fun t20 =>
    pIA 2 t20 x4 fun t22 =>
    pFA 0 t22 fun t23 =>
    pLd S t23 fun t24 =>
    pFA 2 x1 fun t25 =>
    pLd S t25 fun t26 =>
    pIA 2 t26 x4 fun t28 =>
    pFA 1 t28 fun t29 =>
    pLd S t29 fun t30 =>
    pBuild [.int .i64 0, .slice none 0 0] [(0, 1, t24), (1, 1, t30)] fun t31 =>
    pBSlice 84 1 (rowOf [.int .i64 0, .slice none 0 0] 1) [(0, 2, t31)] w fun t32 w =>
    S w ∧ (pApp 84 2 32 [.int .i64 0, .slice none 0 0] t18 t32 w fun t33 w =>
      S w ∧ (pFA 2 x3 fun t34 =>
        pSt t34 t33 w fun _ w =>
        anew w fun S w =>
        pBinI .add .i64 x4 (.int .i64 1) fun t16 =>
        N1 [(g 0), x1, x2, x3, t16, (g 5), (g 6), (g 7), (g 8), (g 9), x4, t11, t12, t13, t14, x4, t16, t17, t18, t19, t20, x4, t22, t23, t24, t25, t26, x4, t28, t29, t30, t31, t32, t33, t34, (g 35)] w)))
  (pLdN (· = w) 3 x3 fun t35 =>
    pStN 3 x2 t35 w fun _ w =>
    pLdN (· = w) 3 x2 fun r0 =>
    R r0 w)
def oubliettelaw22_Back.I1 (e : List Value) (R : KV) (X : KX) (w : World) : Prop := atP Tryd.prog Tryd.f18 oubliettelaw22_Back.pl [1, 1, 0, 1, 0] [] R X e w
theorem oubliettelaw22_Back.I1_eq (e : List Value) (R : KV) (X : KX) (w : World) : oubliettelaw22_Back.I1 e R X w = loopS (fun N e w => atP Tryd.prog Tryd.f18 oubliettelaw22_Back.pl [1, 1, 0, 1, 0, 0] [N] R X e w) e w := by kernel_rfl
def oubliettelaw22_Back.fr1 (x1 : Value) (x2 : Value) (x3 : Value) (x4 : Value) (g : Nat → Value) : List Value := [g 0, x1, x2, x3, x4, g 5, g 6, g 7, g 8, g 9, g 10, g 11, g 12, g 13, g 14, g 15, g 16, g 17, g 18, g 19, g 20, g 21, g 22, g 23, g 24, g 25, g 26, g 27, g 28, g 29, g 30, g 31, g 32, g 33, g 34, g 35]
theorem oubliettelaw22_Back.b1_eq (x1 : Value) (x2 : Value) (x3 : Value) (x4 : Value) (g : Nat → Value) (N1 : List Value → World → Prop) (R : KV) (X : KX) (w : World) : atP Tryd.prog Tryd.f18 oubliettelaw22_Back.pl [1, 1, 0, 1, 0, 0] [N1] R X (oubliettelaw22_Back.fr1 x1 x2 x3 x4 g) w = oubliettelaw22_Back.b1 x1 x2 x3 x4 g N1 R X w := by kernel_rfl
/-- What a round of this loop hands on. -/
def oubliettelaw22_Back.N1 (J : Value → World → Prop) (m : Value → World → Nat) (x1 : Value) (x2 : Value) (x3 : Value) (x4 : Value) (w : World) : List Value → World → Prop := fun e w' => (∃ y4 g, e = oubliettelaw22_Back.fr1 x1 x2 x3 y4 g ∧ J y4 w') ∧ m (nth e 4) w' < m x4 w
theorem oubliettelaw22_Back.leaf1 {J : Value → World → Prop} {m : Value → World → Nat} {x1 : Value} {x2 : Value} {x3 : Value} {x4 : Value} {w w' : World} {e0 e4 e5 e6 e7 e8 e9 e10 e11 e12 e13 e14 e15 e16 e17 e18 e19 e20 e21 e22 e23 e24 e25 e26 e27 e28 e29 e30 e31 e32 e33 e34 e35 : Value} (h : J e4 w') (hm : m e4 w' < m x4 w) : oubliettelaw22_Back.N1 J m x1 x2 x3 x4 w [e0, x1, x2, x3, e4, e5, e6, e7, e8, e9, e10, e11, e12, e13, e14, e15, e16, e17, e18, e19, e20, e21, e22, e23, e24, e25, e26, e27, e28, e29, e30, e31, e32, e33, e34, e35] w' :=
  ⟨⟨e4, (fun i => nth [e0, x1, x2, x3, e4, e5, e6, e7, e8, e9, e10, e11, e12, e13, e14, e15, e16, e17, e18, e19, e20, e21, e22, e23, e24, e25, e26, e27, e28, e29, e30, e31, e32, e33, e34, e35] i), rfl, h⟩, hm⟩
theorem oubliettelaw22_Back.loop1 (J : Value → World → Prop) (m : Value → World → Nat) {R : KV} {X : KX} {w : World} {x1 : Value} {x2 : Value} {x3 : Value} {e0 e4 e5 e6 e7 e8 e9 e10 e11 e12 e13 e14 e15 e16 e17 e18 e19 e20 e21 e22 e23 e24 e25 e26 e27 e28 e29 e30 e31 e32 e33 e34 e35 : Value} (h0 : J e4 w)
    (hr : ∀ x4 g w, J x4 w → oubliettelaw22_Back.b1 x1 x2 x3 x4 g (oubliettelaw22_Back.N1 J m x1 x2 x3 x4 w) R X w) : oubliettelaw22_Back.I1 [e0, x1, x2, x3, e4, e5, e6, e7, e8, e9, e10, e11, e12, e13, e14, e15, e16, e17, e18, e19, e20, e21, e22, e23, e24, e25, e26, e27, e28, e29, e30, e31, e32, e33, e34, e35] R X w := by
  rw [oubliettelaw22_Back.I1_eq]
  refine ⟨fun e w => ∃ y4 g, e = oubliettelaw22_Back.fr1 x1 x2 x3 y4 g ∧ J y4 w, fun e w => m (nth e 4) w, ⟨e4, (fun i => nth [e0, x1, x2, x3, e4, e5, e6, e7, e8, e9, e10, e11, e12, e13, e14, e15, e16, e17, e18, e19, e20, e21, e22, e23, e24, e25, e26, e27, e28, e29, e30, e31, e32, e33, e34, e35] i), rfl, h0⟩, ?_⟩
  rintro _ w ⟨y4, g, rfl, hJ⟩
  rw [oubliettelaw22_Back.b1_eq]
  exact hr y4 g w hJ
def oubliettelaw22_Back.b (x0 : Value) (R : KV) (X : KX) (w : World) : Prop :=
  pBox 30 x0 w fun t1 w =>
  pBox 25 (.agg #[.int .i64 0, .slice none 0 0, .slice none 0 0]) w fun t2 w =>
  pFA 0 t1 fun t5 =>
  pLd (· = w) t5 fun t6 =>
  pFA 1 t1 fun t7 =>
  pLd (· = w) t7 fun t8 =>
  pBuild [.int .i64 0, .slice none 0 0, .slice none 0 0] [(0, 1, t6), (1, 1, t8)] fun t9 =>
  pBox 25 (.agg #[.int .i64 0, .slice none 0 0, .slice none 0 0]) w fun t3 w =>
  pStN 3 t3 t9 w fun _ w =>
  oubliettelaw22_Back.I1 [x0, t1, t2, t3, (.int .i64 0), t5, t6, t7, t8, t9, undef, undef, undef, undef, undef, undef, undef, undef, undef, undef, undef, undef, undef, undef, undef, undef, undef, undef, undef, undef, undef, undef, undef, undef, undef, undef] R X w
theorem oubliettelaw22_Back.b_eq (x0 : Value) (R : KV) (X : KX) (w : World) : atP Tryd.prog Tryd.f18 oubliettelaw22_Back.pl [] [] R X ([x0] ++ undefs 35) w = oubliettelaw22_Back.b x0 R X w := by kernel_rfl
theorem oubliettelaw22_Back.calls {x0 : Value} {R : KV} {X : KX} {w : World} (h : oubliettelaw22_Back.b x0 R X w) : GCalls Tryd.prog 18 [x0] R X w :=
  gcalls_of (pl := oubliettelaw22_Back.pl) Tryd.func18 rfl (by kernel_rfl) hmixed (oubliettelaw22_Back.b_eq x0 R X w ▸ h)

/-! oubliette/ratchet.Start -/
def ratchet_Start.pl : Nat → DrawPlan
  | _ => ⟨[], .done⟩
def ratchet_Start.b (x0 : Value) (R : KV) (X : KX) (w : World) : Prop :=
  pBox 30 (.agg #[.int .i64 0, .slice none 0 0, .slice none 0 0]) w fun t2 w =>
  pCall Tryd.prog 48 [x0] X w fun t4 w =>
  pBuild [.int .i64 0, .slice none 0 0, .slice none 0 0] [(1, 1, t4)] fun t5 =>
  pStN 3 t2 t5 w fun _ w =>
  pLdN (· = w) 3 t2 fun r0 =>
  R r0 w
theorem ratchet_Start.b_eq (x0 : Value) (R : KV) (X : KX) (w : World) : atP Tryd.prog Tryd.f19 ratchet_Start.pl [] [] R X ([x0] ++ undefs 5) w = ratchet_Start.b x0 R X w := by kernel_rfl
theorem ratchet_Start.calls {x0 : Value} {R : KV} {X : KX} {w : World} (h : ratchet_Start.b x0 R X w) : GCalls Tryd.prog 19 [x0] R X w :=
  gcalls_of (pl := ratchet_Start.pl) Tryd.func19 rfl (by kernel_rfl) hmixed (ratchet_Start.b_eq x0 R X w ▸ h)

/-! oubliette/ratchet.Has -/
def ratchet_Has.pl : Nat → DrawPlan
  | _ => ⟨[], .done⟩
def ratchet_Has.b (x0 : Value) (x1 : Value) (R : KV) (X : KX) (w : World) : Prop :=
  pBox 30 x0 w fun t2 w =>
  pFA 0 t2 fun t6 =>
  pLd (· = w) t6 fun t7 =>
  pBinI .geq .i64 x1 t7 fun t8 =>
  gIf t8 false (fun K => pLdN (· = w) 3 t2 K) fun t10 =>
  gIf t8 false (fun K => K x1) fun t11 =>
  gIfW t8 false (fun w K => pCall Tryd.prog 49 [t10, t11] X w K) w fun t12 w =>
  gIf t8 false (fun K => pBinI .geq .i64 t12 (.int .i64 0) K) fun t13 =>
  pPick t8 (.bool true) t13 fun t14 =>
  R t14 w
theorem ratchet_Has.b_eq (x0 : Value) (x1 : Value) (R : KV) (X : KX) (w : World) : atP Tryd.prog Tryd.f20 ratchet_Has.pl [] [] R X ([x0, x1] ++ undefs 13) w = ratchet_Has.b x0 x1 R X w := by kernel_rfl
theorem ratchet_Has.calls {x0 x1 : Value} {R : KV} {X : KX} {w : World} (h : ratchet_Has.b x0 x1 R X w) : GCalls Tryd.prog 20 [x0, x1] R X w :=
  gcalls_of (pl := ratchet_Has.pl) Tryd.func20 rfl (by kernel_rfl) hmixed (ratchet_Has.b_eq x0 x1 R X w ▸ h)

/-! oubliette/ratchet.At -/
def ratchet_At.pl : Nat → DrawPlan
  | 10 => ⟨[([], [2]), ([], [3]), ([0, 0], [0]), ([1, 2, 0, 1, 2], [1]), ([3, 0, 1, 2, 3], [])], .take 0 (.take 1 (.take 2 (.world 3 true (.take 4 (.done)) .none)))⟩
  | _ => ⟨[], .done⟩
def ratchet_At.b1 (x0 : Value) (x2 : Value) (x3 : Value) (x5 : Value) (x9 : Value) (g : Nat → Value) (N1 : List Value → World → Prop) (R : KV) (X : KX) (w : World) : Prop :=
  pLdN (· = w) 3 x5 fun t84 =>
  pCall Tryd.prog 12 [x0, t84] X w fun t85 w =>
  pExt t85 0 fun t86 =>
  pExt t85 1 fun t87 =>
  pBox 30 (.agg #[.int .i64 0, .slice none 0 0, .slice none 0 0]) w fun t14 w =>
  pStN 3 t14 t87 w fun _ w =>
  pFA 0 x5 fun t88 =>
  pLd (· = w) t88 fun t89 =>
  pBinI .eql .i64 t89 x2 fun t91 =>
  scond t91
  (pLdN (· = w) 3 t14 fun t93 =>
    pCall Tryd.prog 50 [t93, x3] X w fun t95 w =>
    pStN 3 x9 t95 w fun _ w =>
    pLdN (· = w) 3 x9 fun r1 =>
    R (.tuple #[t86, r1, (.int .i64 0)]) w)
  (pFA 2 t14 fun t96 =>
    pLd (· = w) t96 fun t97 =>
    pFA 0 x5 fun t98 =>
    pLd (· = w) t98 fun t99 =>
    pBuild [.int .i64 0, .slice none 0 0] [(0, 1, t99), (1, 1, t86)] fun t101 =>
    pBSlice 83 1 (rowOf [.int .i64 0, .slice none 0 0] 1) [(0, 2, t101)] w fun t102 w =>
    pApp 83 2 32 [.int .i64 0, .slice none 0 0] t97 t102 w fun t103 w =>
    pFA 2 t14 fun t104 =>
    pSt t104 t103 w fun _ w =>
    pLdN (· = w) 3 t14 fun t105 =>
    pStN 3 x5 t105 w fun _ w =>
    N1 [x0, (g 1), x2, x3, (g 4), x5, (g 6), (g 7), (g 8), x9, (g 10), (g 11), (g 12), t86, t14, (g 15), (g 16), (g 17), (g 18), (g 19), (g 20), (g 21), (g 22), (g 23), (g 24), (g 25), (g 26), (g 27), (g 28), (g 29), (g 30), (g 31), (g 32), (g 33), (g 34), (g 35), (g 36), (g 37), (g 38), (g 39), (g 40), (g 41), (g 42), (g 43), (g 44), (g 45), (g 46), (g 47), (g 48), (g 49), (g 50), (g 51), (g 52), (g 53), (g 54), (g 55), (g 56), (g 57), (g 58), (g 59), (g 60), (g 61), (g 62), (g 63), (g 64), (g 65), (g 66), (g 67), (g 68), (g 69), (g 70), (g 71), (g 72), (g 73), (g 74), (g 75), (g 76), (g 77), (g 78), (g 79), (g 80), (g 81), t85, x0, t84, t85, t86, t87, t88, t89, x2, t91, (g 92), (g 93), (g 94), (g 95), t96, t97, t98, t99, t86, t101, t102, t103, t104, t105] w)
def ratchet_At.I1 (e : List Value) (R : KV) (X : KX) (w : World) : Prop := atP Tryd.prog Tryd.f21 ratchet_At.pl [1, 0, 1, 1, 1, 0] [] R X e w
theorem ratchet_At.I1_eq (e : List Value) (R : KV) (X : KX) (w : World) : ratchet_At.I1 e R X w = loopS (fun N e w => atP Tryd.prog Tryd.f21 ratchet_At.pl [1, 0, 1, 1, 1, 0, 0] [N] R X e w) e w := by kernel_rfl
def ratchet_At.fr1 (x0 : Value) (x2 : Value) (x3 : Value) (x5 : Value) (x9 : Value) (g : Nat → Value) : List Value := [x0, g 1, x2, x3, g 4, x5, g 6, g 7, g 8, x9, g 10, g 11, g 12, g 13, g 14, g 15, g 16, g 17, g 18, g 19, g 20, g 21, g 22, g 23, g 24, g 25, g 26, g 27, g 28, g 29, g 30, g 31, g 32, g 33, g 34, g 35, g 36, g 37, g 38, g 39, g 40, g 41, g 42, g 43, g 44, g 45, g 46, g 47, g 48, g 49, g 50, g 51, g 52, g 53, g 54, g 55, g 56, g 57, g 58, g 59, g 60, g 61, g 62, g 63, g 64, g 65, g 66, g 67, g 68, g 69, g 70, g 71, g 72, g 73, g 74, g 75, g 76, g 77, g 78, g 79, g 80, g 81, g 82, g 83, g 84, g 85, g 86, g 87, g 88, g 89, g 90, g 91, g 92, g 93, g 94, g 95, g 96, g 97, g 98, g 99, g 100, g 101, g 102, g 103, g 104, g 105]
theorem ratchet_At.b1_eq (x0 : Value) (x2 : Value) (x3 : Value) (x5 : Value) (x9 : Value) (g : Nat → Value) (N1 : List Value → World → Prop) (R : KV) (X : KX) (w : World) : atP Tryd.prog Tryd.f21 ratchet_At.pl [1, 0, 1, 1, 1, 0, 0] [N1] R X (ratchet_At.fr1 x0 x2 x3 x5 x9 g) w = ratchet_At.b1 x0 x2 x3 x5 x9 g N1 R X w := by kernel_rfl
/-- What a round of this loop hands on. -/
def ratchet_At.N1 (J : World → Prop) (m : World → Nat) (x0 : Value) (x2 : Value) (x3 : Value) (x5 : Value) (x9 : Value) (w : World) : List Value → World → Prop := fun e w' => (∃ g, e = ratchet_At.fr1 x0 x2 x3 x5 x9 g ∧ J w') ∧ m w' < m w
theorem ratchet_At.leaf1 {J : World → Prop} {m : World → Nat} {x0 : Value} {x2 : Value} {x3 : Value} {x5 : Value} {x9 : Value} {w w' : World} {e1 e4 e6 e7 e8 e10 e11 e12 e13 e14 e15 e16 e17 e18 e19 e20 e21 e22 e23 e24 e25 e26 e27 e28 e29 e30 e31 e32 e33 e34 e35 e36 e37 e38 e39 e40 e41 e42 e43 e44 e45 e46 e47 e48 e49 e50 e51 e52 e53 e54 e55 e56 e57 e58 e59 e60 e61 e62 e63 e64 e65 e66 e67 e68 e69 e70 e71 e72 e73 e74 e75 e76 e77 e78 e79 e80 e81 e82 e83 e84 e85 e86 e87 e88 e89 e90 e91 e92 e93 e94 e95 e96 e97 e98 e99 e100 e101 e102 e103 e104 e105 : Value} (h : J w') (hm : m w' < m w) : ratchet_At.N1 J m x0 x2 x3 x5 x9 w [x0, e1, x2, x3, e4, x5, e6, e7, e8, x9, e10, e11, e12, e13, e14, e15, e16, e17, e18, e19, e20, e21, e22, e23, e24, e25, e26, e27, e28, e29, e30, e31, e32, e33, e34, e35, e36, e37, e38, e39, e40, e41, e42, e43, e44, e45, e46, e47, e48, e49, e50, e51, e52, e53, e54, e55, e56, e57, e58, e59, e60, e61, e62, e63, e64, e65, e66, e67, e68, e69, e70, e71, e72, e73, e74, e75, e76, e77, e78, e79, e80, e81, e82, e83, e84, e85, e86, e87, e88, e89, e90, e91, e92, e93, e94, e95, e96, e97, e98, e99, e100, e101, e102, e103, e104, e105] w' :=
  ⟨⟨(fun i => nth [x0, e1, x2, x3, e4, x5, e6, e7, e8, x9, e10, e11, e12, e13, e14, e15, e16, e17, e18, e19, e20, e21, e22, e23, e24, e25, e26, e27, e28, e29, e30, e31, e32, e33, e34, e35, e36, e37, e38, e39, e40, e41, e42, e43, e44, e45, e46, e47, e48, e49, e50, e51, e52, e53, e54, e55, e56, e57, e58, e59, e60, e61, e62, e63, e64, e65, e66, e67, e68, e69, e70, e71, e72, e73, e74, e75, e76, e77, e78, e79, e80, e81, e82, e83, e84, e85, e86, e87, e88, e89, e90, e91, e92, e93, e94, e95, e96, e97, e98, e99, e100, e101, e102, e103, e104, e105] i), rfl, h⟩, hm⟩
theorem ratchet_At.loop1 (J : World → Prop) (m : World → Nat) {R : KV} {X : KX} {w : World} {x0 : Value} {x2 : Value} {x3 : Value} {x5 : Value} {x9 : Value} {e1 e4 e6 e7 e8 e10 e11 e12 e13 e14 e15 e16 e17 e18 e19 e20 e21 e22 e23 e24 e25 e26 e27 e28 e29 e30 e31 e32 e33 e34 e35 e36 e37 e38 e39 e40 e41 e42 e43 e44 e45 e46 e47 e48 e49 e50 e51 e52 e53 e54 e55 e56 e57 e58 e59 e60 e61 e62 e63 e64 e65 e66 e67 e68 e69 e70 e71 e72 e73 e74 e75 e76 e77 e78 e79 e80 e81 e82 e83 e84 e85 e86 e87 e88 e89 e90 e91 e92 e93 e94 e95 e96 e97 e98 e99 e100 e101 e102 e103 e104 e105 : Value} (h0 : J w)
    (hr : ∀ g w, J w → ratchet_At.b1 x0 x2 x3 x5 x9 g (ratchet_At.N1 J m x0 x2 x3 x5 x9 w) R X w) : ratchet_At.I1 [x0, e1, x2, x3, e4, x5, e6, e7, e8, x9, e10, e11, e12, e13, e14, e15, e16, e17, e18, e19, e20, e21, e22, e23, e24, e25, e26, e27, e28, e29, e30, e31, e32, e33, e34, e35, e36, e37, e38, e39, e40, e41, e42, e43, e44, e45, e46, e47, e48, e49, e50, e51, e52, e53, e54, e55, e56, e57, e58, e59, e60, e61, e62, e63, e64, e65, e66, e67, e68, e69, e70, e71, e72, e73, e74, e75, e76, e77, e78, e79, e80, e81, e82, e83, e84, e85, e86, e87, e88, e89, e90, e91, e92, e93, e94, e95, e96, e97, e98, e99, e100, e101, e102, e103, e104, e105] R X w := by
  rw [ratchet_At.I1_eq]
  refine ⟨fun e w => ∃ g, e = ratchet_At.fr1 x0 x2 x3 x5 x9 g ∧ J w, fun e w => m w, ⟨(fun i => nth [x0, e1, x2, x3, e4, x5, e6, e7, e8, x9, e10, e11, e12, e13, e14, e15, e16, e17, e18, e19, e20, e21, e22, e23, e24, e25, e26, e27, e28, e29, e30, e31, e32, e33, e34, e35, e36, e37, e38, e39, e40, e41, e42, e43, e44, e45, e46, e47, e48, e49, e50, e51, e52, e53, e54, e55, e56, e57, e58, e59, e60, e61, e62, e63, e64, e65, e66, e67, e68, e69, e70, e71, e72, e73, e74, e75, e76, e77, e78, e79, e80, e81, e82, e83, e84, e85, e86, e87, e88, e89, e90, e91, e92, e93, e94, e95, e96, e97, e98, e99, e100, e101, e102, e103, e104, e105] i), rfl, h0⟩, ?_⟩
  rintro _ w ⟨g, rfl, hJ⟩
  rw [ratchet_At.b1_eq]
  exact hr g w hJ
def ratchet_At.b (x0 : Value) (x1 : Value) (x2 : Value) (x3 : Value) (R : KV) (X : KX) (w : World) : Prop :=
  pBox 30 x1 w fun t5 w =>
  pBox 30 (.agg #[.int .i64 0, .slice none 0 0, .slice none 0 0]) w fun t9 w =>
  pLdN (· = w) 3 t5 fun t15 =>
  pCall Tryd.prog 49 [t15, x2] X w fun t17 w =>
  pBinI .lss .i64 x3 (.int .i64 1) fun t20 =>
  gIf t20 false (fun K => K x3) fun t22 =>
  gIf t20 false (fun K => pBinI .gtr .i64 t22 (.int .i64 8) K) fun t23 =>
  pPick t20 (.bool true) t23 fun t24 =>
  gIf t24 false (fun K => K x2) fun t26 =>
  gIf t24 false (fun K => pBinI .lss .i64 t26 (.int .i64 0) K) fun t27 =>
  pPick t24 (.bool true) t27 fun t28 =>
  gIf t28 false (fun K => K x2) fun t30 =>
  gIf t28 false (fun K => pBinI .geq .i64 t30 (.int .i64 1073741824) K) fun t31 =>
  pPick t28 (.bool true) t31 fun t32 =>
  gIf t32 false (fun K => pFA 0 t5 K) fun t34 =>
  gIf t32 false (fun K => pLd (· = w) t34 K) fun t35 =>
  gIf t32 false (fun K => pBinI .lss .i64 t35 (.int .i64 0) K) fun t36 =>
  pPick t32 (.bool true) t36 fun t37 =>
  scond t37
  (pBuild [.int .i64 0, .slice none 0 0, .slice none 0 0] [] fun t38 =>
    pStN 3 t9 t38 w fun _ w =>
    pLdN (· = w) 3 t9 fun r1 =>
    R (.tuple #[(.slice none 0 0), r1, (.int .i64 2)]) w)
  (pFA 0 t5 fun t41 =>
    pLd (· = w) t41 fun t42 =>
    pBinI .lss .i64 x2 t42 fun t43 =>
    gIf t43 true (fun K => K t17) fun t45 =>
    gIf t43 true (fun K => pBinI .lss .i64 t45 (.int .i64 0) K) fun t46 =>
    pPick t43 t46 (.bool false) fun t47 =>
    scond t47
    (pBuild [.int .i64 0, .slice none 0 0, .slice none 0 0] [] fun t48 =>
      pStN 3 t9 t48 w fun _ w =>
      pLdN (· = w) 3 t9 fun r1 =>
      R (.tuple #[(.slice none 0 0), r1, (.int .i64 9)]) w)
    (pFA 0 t5 fun t51 =>
      pLd (· = w) t51 fun t52 =>
      pBinI .lss .i64 x2 t52 fun t53 =>
      scond t53
      (pLdN (· = w) 3 t5 fun t54 =>
        pFA 2 t5 fun t55 =>
        pLd (· = w) t55 fun t56 =>
        pLenSl t56 fun t57 =>
        pCall Tryd.prog 50 [t54, t57] X w fun t58 w =>
        pStN 3 t5 t58 w fun _ w =>
        pFA 2 t5 fun t59 =>
        pLd (· = w) t59 fun t60 =>
        pIA 2 t60 t17 fun t62 =>
        pFA 1 t62 fun t63 =>
        pLd (· = w) t63 fun t64 =>
        pFA 2 t5 fun t65 =>
        pLd (· = w) t65 fun t66 =>
        pBinI .add .i64 t17 (.int .i64 1) fun t69 =>
        pCall Tryd.prog 51 [t66, t17, t69] X w fun t70 w =>
        pFA 2 t5 fun t71 =>
        pSt t71 t70 w fun _ w =>
        drawn w fun S w =>
        pLdN S 3 t5 fun t73 =>
        pStN 3 t9 t73 w fun _ w =>
        anew w fun S w =>
        pLdN (· = w) 3 t9 fun r1 =>
        R (.tuple #[t64, r1, (.int .i64 0)]) w)
      (pFA 0 t5 fun t76 =>
        pLd (· = w) t76 fun t77 =>
        pBinI .sub .i64 x2 t77 fun t78 =>
        pBinI .gtr .i64 t78 x3 fun t80 =>
        scond t80
        (pBuild [.int .i64 0, .slice none 0 0, .slice none 0 0] [] fun t81 =>
          pStN 3 t9 t81 w fun _ w =>
          pLdN (· = w) 3 t9 fun r1 =>
          R (.tuple #[(.slice none 0 0), r1, (.int .i64 10)]) w)
        (ratchet_At.I1 [x0, x1, x2, x3, undef, t5, undef, undef, (.slice none 0 0), t9, (.int .i64 0), t17, undef, undef, undef, t15, x2, t17, t37, x3, t20, t20, t22, t23, t24, t24, t26, t27, t28, t28, t30, t31, t32, t32, t34, t35, t36, t37, undef, t47, x2, t41, t42, t43, t43, t45, t46, t47, undef, t53, x2, t51, t52, t53, undef, undef, undef, undef, undef, undef, undef, undef, undef, undef, undef, undef, undef, undef, undef, undef, undef, undef, undef, undef, t80, x2, t76, t77, t78, x3, t80, undef, undef, undef, undef, undef, undef, undef, undef, undef, undef, undef, undef, undef, undef, undef, undef, undef, undef, undef, undef, undef, undef, undef, undef, undef] R X w))))
theorem ratchet_At.b_eq (x0 : Value) (x1 : Value) (x2 : Value) (x3 : Value) (R : KV) (X : KX) (w : World) : atP Tryd.prog Tryd.f21 ratchet_At.pl [] [] R X ([x0, x1, x2, x3] ++ undefs 102) w = ratchet_At.b x0 x1 x2 x3 R X w := by kernel_rfl
theorem ratchet_At.calls {x0 x1 x2 x3 : Value} {R : KV} {X : KX} {w : World} (h : ratchet_At.b x0 x1 x2 x3 R X w) : GCalls Tryd.prog 21 [x0, x1, x2, x3] R X w :=
  gcalls_of (pl := ratchet_At.pl) Tryd.func21 rfl (by kernel_rfl) hmixed (ratchet_At.b_eq x0 x1 x2 x3 R X w ▸ h)

/-! oubliette/oublietteref01.Has -/
def oublietteref01_Has.pl : Nat → DrawPlan
  | _ => ⟨[], .done⟩
def oublietteref01_Has.b1 (x0 : Value) (x1 : Value) (x5 : Value) (g : Nat → Value) (N1 : List Value → World → Prop) (R : KV) (X : KX) (w : World) : Prop :=
  pLenSl x0 fun t8 =>
  pBinI .lss .i64 x5 t8 fun t9 =>
  scond t9
  (pIA 1 x0 x5 fun t14 =>
    pLd (· = w) t14 fun t15 =>
    pBinI .eql .i64 t15 x1 fun t17 =>
    scond t17
    (R (.bool true) w)
    (pBinI .add .i64 x5 (.int .i64 1) fun t11 =>
      N1 [x0, x1, (g 2), (g 3), (g 4), t11, x5, x0, t8, t9, x5, t11, x0, x5, t14, t15, x1, t17] w))
  (R (.bool false) w)
def oublietteref01_Has.I1 (e : List Value) (R : KV) (X : KX) (w : World) : Prop := atP Tryd.prog Tryd.f22 oublietteref01_Has.pl [1, 0, 1, 0] [] R X e w
theorem oublietteref01_Has.I1_eq (e : List Value) (R : KV) (X : KX) (w : World) : oublietteref01_Has.I1 e R X w = loopS (fun N e w => atP Tryd.prog Tryd.f22 oublietteref01_Has.pl [1, 0, 1, 0, 0] [N] R X e w) e w := by kernel_rfl
def oublietteref01_Has.fr1 (x0 : Value) (x1 : Value) (x5 : Value) (g : Nat → Value) : List Value := [x0, x1, g 2, g 3, g 4, x5, g 6, g 7, g 8, g 9, g 10, g 11, g 12, g 13, g 14, g 15, g 16, g 17]
theorem oublietteref01_Has.b1_eq (x0 : Value) (x1 : Value) (x5 : Value) (g : Nat → Value) (N1 : List Value → World → Prop) (R : KV) (X : KX) (w : World) : atP Tryd.prog Tryd.f22 oublietteref01_Has.pl [1, 0, 1, 0, 0] [N1] R X (oublietteref01_Has.fr1 x0 x1 x5 g) w = oublietteref01_Has.b1 x0 x1 x5 g N1 R X w := by kernel_rfl
/-- What a round of this loop hands on. -/
def oublietteref01_Has.N1 (J : Value → World → Prop) (m : Value → World → Nat) (x0 : Value) (x1 : Value) (x5 : Value) (w : World) : List Value → World → Prop := fun e w' => (∃ y5 g, e = oublietteref01_Has.fr1 x0 x1 y5 g ∧ J y5 w') ∧ m (nth e 5) w' < m x5 w
theorem oublietteref01_Has.leaf1 {J : Value → World → Prop} {m : Value → World → Nat} {x0 : Value} {x1 : Value} {x5 : Value} {w w' : World} {e2 e3 e4 e5 e6 e7 e8 e9 e10 e11 e12 e13 e14 e15 e16 e17 : Value} (h : J e5 w') (hm : m e5 w' < m x5 w) : oublietteref01_Has.N1 J m x0 x1 x5 w [x0, x1, e2, e3, e4, e5, e6, e7, e8, e9, e10, e11, e12, e13, e14, e15, e16, e17] w' :=
  ⟨⟨e5, (fun i => nth [x0, x1, e2, e3, e4, e5, e6, e7, e8, e9, e10, e11, e12, e13, e14, e15, e16, e17] i), rfl, h⟩, hm⟩
theorem oublietteref01_Has.loop1 (J : Value → World → Prop) (m : Value → World → Nat) {R : KV} {X : KX} {w : World} {x0 : Value} {x1 : Value} {e2 e3 e4 e5 e6 e7 e8 e9 e10 e11 e12 e13 e14 e15 e16 e17 : Value} (h0 : J e5 w)
    (hr : ∀ x5 g w, J x5 w → oublietteref01_Has.b1 x0 x1 x5 g (oublietteref01_Has.N1 J m x0 x1 x5 w) R X w) : oublietteref01_Has.I1 [x0, x1, e2, e3, e4, e5, e6, e7, e8, e9, e10, e11, e12, e13, e14, e15, e16, e17] R X w := by
  rw [oublietteref01_Has.I1_eq]
  refine ⟨fun e w => ∃ y5 g, e = oublietteref01_Has.fr1 x0 x1 y5 g ∧ J y5 w, fun e w => m (nth e 5) w, ⟨e5, (fun i => nth [x0, x1, e2, e3, e4, e5, e6, e7, e8, e9, e10, e11, e12, e13, e14, e15, e16, e17] i), rfl, h0⟩, ?_⟩
  rintro _ w ⟨y5, g, rfl, hJ⟩
  rw [oublietteref01_Has.b1_eq]
  exact hr y5 g w hJ
def oublietteref01_Has.b (x0 : Value) (x1 : Value) (R : KV) (X : KX) (w : World) : Prop :=
  oublietteref01_Has.I1 [x0, x1, undef, undef, (.bool false), (.int .i64 0), undef, undef, undef, undef, undef, undef, undef, undef, undef, undef, undef, undef] R X w
theorem oublietteref01_Has.b_eq (x0 : Value) (x1 : Value) (R : KV) (X : KX) (w : World) : atP Tryd.prog Tryd.f22 oublietteref01_Has.pl [] [] R X ([x0, x1] ++ undefs 16) w = oublietteref01_Has.b x0 x1 R X w := by kernel_rfl
theorem oublietteref01_Has.calls {x0 x1 : Value} {R : KV} {X : KX} {w : World} (h : oublietteref01_Has.b x0 x1 R X w) : GCalls Tryd.prog 22 [x0, x1] R X w :=
  gcalls_of (pl := oublietteref01_Has.pl) Tryd.func22 rfl (by kernel_rfl) hmixed (oublietteref01_Has.b_eq x0 x1 R X w ▸ h)

/-! oubliette/oublietteref33.Key -/
def oublietteref33_Key.pl : Nat → DrawPlan
  | _ => ⟨[], .done⟩
def oublietteref33_Key.b (x0 : Value) (x1 : Value) (R : KV) (X : KX) (w : World) : Prop :=
  pCall Tryd.prog 52 [x0, (.string ⟨#[110, 101, 120, 116]⟩), x1] X w fun t7 w =>
  pCall Tryd.prog 15 [t7, (.string ⟨#[107, 101, 121]⟩)] X w fun t8 w =>
  R t8 w
theorem oublietteref33_Key.b_eq (x0 : Value) (x1 : Value) (R : KV) (X : KX) (w : World) : atP Tryd.prog Tryd.f23 oublietteref33_Key.pl [] [] R X ([x0, x1] ++ undefs 7) w = oublietteref33_Key.b x0 x1 R X w := by kernel_rfl
theorem oublietteref33_Key.calls {x0 x1 : Value} {R : KV} {X : KX} {w : World} (h : oublietteref33_Key.b x0 x1 R X w) : GCalls Tryd.prog 23 [x0, x1] R X w :=
  gcalls_of (pl := oublietteref33_Key.pl) Tryd.func23 rfl (by kernel_rfl) hmixed (oublietteref33_Key.b_eq x0 x1 R X w ▸ h)

/-! (*oubliette/suite.Suite).Derive -/
def suite_Suite_Derive.pl : Nat → DrawPlan
  | 5 => ⟨[([], [1]), ([0], [0, 2]), ([1], [1, 3]), ([2], [2, 4]), ([3], [3, 9]), ([], [7]), ([], [7]), ([5, 6], [5, 6, 9]), ([], [9]), ([4, 7, 8, 7], [4, 7, 8, 10]), ([9, 9], [9, 11]), ([10, 10, 0, 1, 2, 3, 4, 5, 6, 7, 8, 9, 10], [10])], .take 0 (.take 1 (.take 2 (.take 3 (.take 4 (.take 5 (.take 6 (.take 8 (.world 7 false (.world 9 true (.world 10 false (.take 11 (.done)) .none) .none) .none))))))))⟩
  | _ => ⟨[], .done⟩
def suite_Suite_Derive.b (x0 : Value) (x1 : Value) (x2 : Value) (R : KV) (X : KX) (w : World) : Prop :=
  pCall Tryd.prog 59 [x0] X w fun t9 w =>
  scond t9
  (R (.slice none 0 0) w)
  (pCall Tryd.prog 60 [x0] X w fun t12 w =>
    scond t12
    (pCall Tryd.prog 54 [x1, x2] X w fun t15 w =>
      R t15 w)
    (drawn w fun S w =>
      pNil x0 fun t17 =>
      pFA 0 t17 fun t18 =>
      pFA 0 t18 fun t19 =>
      pLd S t19 fun t20 =>
      pCall Tryd.prog 74 [x0, x1] X w fun t23 w =>
      S w ∧ (pCall Tryd.prog 73 [t20, t23, x2] X w fun t25 w =>
        anew w fun S w =>
        pCall Tryd.prog 61 [t25] X w fun t26 w =>
        S w ∧ (R t26 w))))
theorem suite_Suite_Derive.b_eq (x0 : Value) (x1 : Value) (x2 : Value) (R : KV) (X : KX) (w : World) : atP Tryd.prog Tryd.f44 suite_Suite_Derive.pl [] [] R X ([x0, x1, x2] ++ undefs 24) w = suite_Suite_Derive.b x0 x1 x2 R X w := by kernel_rfl
theorem suite_Suite_Derive.calls {x0 x1 x2 : Value} {R : KV} {X : KX} {w : World} (h : suite_Suite_Derive.b x0 x1 x2 R X w) : GCalls Tryd.prog 44 [x0, x1, x2] R X w :=
  gcalls_of (pl := suite_Suite_Derive.pl) Tryd.func44 rfl (by kernel_rfl) hmixed (suite_Suite_Derive.b_eq x0 x1 x2 R X w ▸ h)

/-! oubliette/ratchet.copied -/
def ratchet_copied.pl : Nat → DrawPlan
  | 4 => ⟨[([], [8, 9]), ([], [2]), ([1], [1, 6]), ([], [4]), ([3], [3, 5]), ([4], [4, 6]), ([2, 5], [2, 5, 7]), ([6], [6, 8]), ([0, 7, 5], [0, 7, 9]), ([8, 8, 0, 1, 2, 3, 4, 5, 6, 7, 8], [0, 8])], .take 0 (.take 1 (.take 2 (.take 3 (.take 4 (.world 5 false (.take 6 (.world 7 false (.world 8 false (.take 9 (.done)) .none) .none)) .none)))))⟩
  | _ => ⟨[], .done⟩
def ratchet_copied.b1 (x2 : Value) (x5 : Value) (x6 : Value) (x7 : Value) (g : Nat → Value) (N1 : List Value → World → Prop) (R : KV) (X : KX) (w : World) : Prop :=
  pBinI .lss .i64 x7 x6 fun t8 =>
  scond t8
  (pIA 2 x5 x7 fun t9 =>
    pLdN (· = w) 2 t9 fun t10 =>
    pBox 83 (.agg #[.int .i64 0, .slice none 0 0]) w fun t4 w =>
    pStN 2 t4 t10 w fun _ w =>
    drawn w fun S w =>
    pFA 0 t4 fun t12 =>
    pLd S t12 fun t13 =>
    pFA 1 t4 fun t14 =>
    pLd S t14 fun t15 =>
    pCall Tryd.prog 48 [t15] X w fun t16 w =>
    S w ∧ (pBuild [.int .i64 0, .slice none 0 0] [(0, 1, t13), (1, 1, t16)] fun t17 =>
      pBSlice 83 1 (rowOf [.int .i64 0, .slice none 0 0] 1) [(0, 2, t17)] w fun t18 w =>
      S w ∧ (pApp 83 2 32 [.int .i64 0, .slice none 0 0] x2 t18 w fun t19 w =>
        S w ∧ (pBinI .add .i64 x7 (.int .i64 1) fun t20 =>
          N1 [(g 0), (g 1), t19, (g 3), t4, x5, x6, t20, t8, t9, t10, x2, t12, t13, t14, t15, t16, t17, t18, t19, t20, (g 21)] w))))
  (R x2 w)
def ratchet_copied.I1 (e : List Value) (R : KV) (X : KX) (w : World) : Prop := atP Tryd.prog Tryd.f45 ratchet_copied.pl [1, 0, 1, 0] [] R X e w
theorem ratchet_copied.I1_eq (e : List Value) (R : KV) (X : KX) (w : World) : ratchet_copied.I1 e R X w = loopS (fun N e w => atP Tryd.prog Tryd.f45 ratchet_copied.pl [1, 0, 1, 0, 0] [N] R X e w) e w := by kernel_rfl
def ratchet_copied.fr1 (x2 : Value) (x5 : Value) (x6 : Value) (x7 : Value) (g : Nat → Value) : List Value := [g 0, g 1, x2, g 3, g 4, x5, x6, x7, g 8, g 9, g 10, g 11, g 12, g 13, g 14, g 15, g 16, g 17, g 18, g 19, g 20, g 21]
theorem ratchet_copied.b1_eq (x2 : Value) (x5 : Value) (x6 : Value) (x7 : Value) (g : Nat → Value) (N1 : List Value → World → Prop) (R : KV) (X : KX) (w : World) : atP Tryd.prog Tryd.f45 ratchet_copied.pl [1, 0, 1, 0, 0] [N1] R X (ratchet_copied.fr1 x2 x5 x6 x7 g) w = ratchet_copied.b1 x2 x5 x6 x7 g N1 R X w := by kernel_rfl
/-- What a round of this loop hands on. -/
def ratchet_copied.N1 (J : Value → Value → World → Prop) (m : Value → Value → World → Nat) (x5 : Value) (x6 : Value) (x2 : Value) (x7 : Value) (w : World) : List Value → World → Prop := fun e w' => (∃ y2 y7 g, e = ratchet_copied.fr1 y2 x5 x6 y7 g ∧ J y2 y7 w') ∧ m (nth e 2) (nth e 7) w' < m x2 x7 w
theorem ratchet_copied.leaf1 {J : Value → Value → World → Prop} {m : Value → Value → World → Nat} {x2 : Value} {x5 : Value} {x6 : Value} {x7 : Value} {w w' : World} {e0 e1 e2 e3 e4 e7 e8 e9 e10 e11 e12 e13 e14 e15 e16 e17 e18 e19 e20 e21 : Value} (h : J e2 e7 w') (hm : m e2 e7 w' < m x2 x7 w) : ratchet_copied.N1 J m x5 x6 x2 x7 w [e0, e1, e2, e3, e4, x5, x6, e7, e8, e9, e10, e11, e12, e13, e14, e15, e16, e17, e18, e19, e20, e21] w' :=
  ⟨⟨e2, e7, (fun i => nth [e0, e1, e2, e3, e4, x5, x6, e7, e8, e9, e10, e11, e12, e13, e14, e15, e16, e17, e18, e19, e20, e21] i), rfl, h⟩, hm⟩
theorem ratchet_copied.loop1 (J : Value → Value → World → Prop) (m : Value → Value → World → Nat) {R : KV} {X : KX} {w : World} {x5 : Value} {x6 : Value} {e0 e1 e2 e3 e4 e7 e8 e9 e10 e11 e12 e13 e14 e15 e16 e17 e18 e19 e20 e21 : Value} (h0 : J e2 e7 w)
    (hr : ∀ x2 x7 g w, J x2 x7 w → ratchet_copied.b1 x2 x5 x6 x7 g (ratchet_copied.N1 J m x5 x6 x2 x7 w) R X w) : ratchet_copied.I1 [e0, e1, e2, e3, e4, x5, x6, e7, e8, e9, e10, e11, e12, e13, e14, e15, e16, e17, e18, e19, e20, e21] R X w := by
  rw [ratchet_copied.I1_eq]
  refine ⟨fun e w => ∃ y2 y7 g, e = ratchet_copied.fr1 y2 x5 x6 y7 g ∧ J y2 y7 w, fun e w => m (nth e 2) (nth e 7) w, ⟨e2, e7, (fun i => nth [e0, e1, e2, e3, e4, x5, x6, e7, e8, e9, e10, e11, e12, e13, e14, e15, e16, e17, e18, e19, e20, e21] i), rfl, h0⟩, ?_⟩
  rintro _ w ⟨y2, y7, g, rfl, hJ⟩
  rw [ratchet_copied.b1_eq]
  exact hr y2 y7 g w hJ
def ratchet_copied.b (x0 : Value) (R : KV) (X : KX) (w : World) : Prop :=
  pLenSl x0 fun t6 =>
  ratchet_copied.I1 [x0, undef, (.slice none 0 0), undef, undef, x0, t6, (.int .i64 0), undef, undef, undef, undef, undef, undef, undef, undef, undef, undef, undef, undef, undef, undef] R X w
theorem ratchet_copied.b_eq (x0 : Value) (R : KV) (X : KX) (w : World) : atP Tryd.prog Tryd.f45 ratchet_copied.pl [] [] R X ([x0] ++ undefs 21) w = ratchet_copied.b x0 R X w := by kernel_rfl
theorem ratchet_copied.calls {x0 : Value} {R : KV} {X : KX} {w : World} (h : ratchet_copied.b x0 R X w) : GCalls Tryd.prog 45 [x0] R X w :=
  gcalls_of (pl := ratchet_copied.pl) Tryd.func45 rfl (by kernel_rfl) hmixed (ratchet_copied.b_eq x0 R X w ▸ h)

/-! oubliette/ratchet.place -/
def ratchet_place.pl : Nat → DrawPlan
  | _ => ⟨[], .done⟩
def ratchet_place.b (x0 : Value) (x1 : Value) (R : KV) (X : KX) (w : World) : Prop :=
  pBox 30 x0 w fun t2 w =>
  pBox 3 x1 w fun t3 w =>
  pFA 2 t2 fun t5 =>
  pLd (· = w) t5 fun t6 =>
  pCall Tryd.prog 76 [t6, (.func (.func 77) #[] #[t3])] X w fun t8 w =>
  R t8 w
theorem ratchet_place.b_eq (x0 : Value) (x1 : Value) (R : KV) (X : KX) (w : World) : atP Tryd.prog Tryd.f49 ratchet_place.pl [] [] R X ([x0, x1] ++ undefs 7) w = ratchet_place.b x0 x1 R X w := by kernel_rfl
theorem ratchet_place.calls {x0 x1 : Value} {R : KV} {X : KX} {w : World} (h : ratchet_place.b x0 x1 R X w) : GCalls Tryd.prog 49 [x0, x1] R X w :=
  gcalls_of (pl := ratchet_place.pl) Tryd.func49 rfl (by kernel_rfl) hmixed (ratchet_place.b_eq x0 x1 R X w ▸ h)

/-! oubliette/ratchet.Drop -/
def ratchet_Drop.pl : Nat → DrawPlan
  | 3 => ⟨[([], [1]), ([0], [0, 2]), ([1], [1, 12]), ([], [9]), ([], [9]), ([], [6]), ([5], [5, 9]), ([], [8]), ([7], [7, 9]), ([3, 4, 6, 8], [3, 4, 6, 8, 10]), ([9, 2], [9, 14]), ([0, 1, 2], [12]), ([11, 2, 10, 0, 1, 2], [2, 11]), ([0, 1, 2, 3, 4, 5, 6, 7, 8, 9, 10, 11, 12], [14]), ([13, 10, 12, 0, 1, 2, 3, 4, 5, 6, 7, 8, 9, 10, 11, 12], [10, 13])], .take 0 (.take 1 (.take 3 (.take 4 (.take 5 (.take 6 (.take 7 (.take 8 (.take 9 (.world 2 true (.take 11 (.world 10 false (.world 12 true (.take 13 (.world 14 true (.done) .none)) .none) .none)) .none)))))))))⟩
  | _ => ⟨[], .done⟩
def ratchet_Drop.b (x0 : Value) (x1 : Value) (R : KV) (X : KX) (w : World) : Prop :=
  pBox 30 x0 w fun t2 w =>
  pBox 30 (.agg #[.int .i64 0, .slice none 0 0, .slice none 0 0]) w fun t4 w =>
  pFA 2 t2 fun t7 =>
  pLd (· = w) t7 fun t8 =>
  pLenSl t8 fun t10 =>
  pMax x1 (.int .i64 0) fun t12 =>
  pBinI .sub .i64 t10 t12 fun t13 =>
  pMax (.int .i64 0) t13 fun t14 =>
  drawn w fun S w =>
  pFA 1 t2 fun t15 =>
  pLd S t15 fun t16 =>
  pLenSl t8 fun t21 =>
  pLenSl t8 fun t23 =>
  pSl 2 t8 (some t14) (some t21) (some t23) fun t24 =>
  pCall Tryd.prog 48 [t16] X w fun t17 w =>
  anew w fun S w =>
  pFA 1 t2 fun t26 =>
  pCall Tryd.prog 45 [t24] X w fun t25 w =>
  S w ∧ (pSt t26 t17 w fun _ w =>
    anew w fun S w =>
    pFA 2 t2 fun t27 =>
    pSt t27 t25 w fun _ w =>
    anew w fun S w =>
    pLdN (· = w) 3 t2 fun t28 =>
    pStN 3 t4 t28 w fun _ w =>
    pLdN (· = w) 3 t4 fun r0 =>
    R r0 w)
theorem ratchet_Drop.b_eq (x0 : Value) (x1 : Value) (R : KV) (X : KX) (w : World) : atP Tryd.prog Tryd.f50 ratchet_Drop.pl [] [] R X ([x0, x1] ++ undefs 27) w = ratchet_Drop.b x0 x1 R X w := by kernel_rfl
theorem ratchet_Drop.calls {x0 x1 : Value} {R : KV} {X : KX} {w : World} (h : ratchet_Drop.b x0 x1 R X w) : GCalls Tryd.prog 50 [x0, x1] R X w :=
  gcalls_of (pl := ratchet_Drop.pl) Tryd.func50 rfl (by kernel_rfl) hmixed (ratchet_Drop.b_eq x0 x1 R X w ▸ h)

/-! slices.Delete[[]oubliette/record.Skip,oubliette/record.Skip] -/
def slices_Delete_record_Skip_record_Skip.pl : Nat → DrawPlan
  | 5 => ⟨[([], [2, 7]), ([], [2]), ([0, 1], [0, 1, 6]), ([], [5, 7]), ([], [5]), ([3, 4], [3, 4, 6]), ([2, 5], [2, 5, 7]), ([6, 6, 0, 1, 2, 3, 4, 5, 6], [0, 3, 6])], .take 0 (.take 1 (.take 2 (.take 3 (.take 4 (.take 5 (.world 6 false (.take 7 (.done)) .none))))))⟩
  | _ => ⟨[], .done⟩
def slices_Delete_record_Skip_record_Skip.b (x0 : Value) (x1 : Value) (x2 : Value) (R : KV) (X : KX) (w : World) : Prop :=
  pLenSl x0 fun t12 =>
  pSl 2 x0 (some x1) (some x2) (some t12) fun t13 =>
  pBinI .eql .i64 x1 x2 fun t16 =>
  scond t16
  (R x0 w)
  (pLenSl x0 fun t19 =>
    drawn w fun S w =>
    pSl 2 x0 none (some x1) none fun t22 =>
    pSl 2 x0 (some x2) none none fun t25 =>
    pApp 83 2 32 [.int .i64 0, .slice none 0 0] t22 t25 w fun t26 w =>
    S w ∧ (pLenSl t26 fun t29 =>
      pSl 2 t26 (some t29) (some t19) none fun t31 =>
      pRun Tryd.prog (Builtin.clear_ #[28] 0 #[t31]) w fun _ w =>
      R t26 w))
theorem slices_Delete_record_Skip_record_Skip.b_eq (x0 : Value) (x1 : Value) (x2 : Value) (R : KV) (X : KX) (w : World) : atP Tryd.prog Tryd.f51 slices_Delete_record_Skip_record_Skip.pl [] [] R X ([x0, x1, x2] ++ undefs 30) w = slices_Delete_record_Skip_record_Skip.b x0 x1 x2 R X w := by kernel_rfl
theorem slices_Delete_record_Skip_record_Skip.calls {x0 x1 x2 : Value} {R : KV} {X : KX} {w : World} (h : slices_Delete_record_Skip_record_Skip.b x0 x1 x2 R X w) : GCalls Tryd.prog 51 [x0, x1, x2] R X w :=
  gcalls_of (pl := slices_Delete_record_Skip_record_Skip.pl) Tryd.func51 rfl (by kernel_rfl) hmixed (slices_Delete_record_Skip_record_Skip.b_eq x0 x1 x2 R X w ▸ h)

/-! (*oubliette/suite.Suite).none -/
def suite_Suite_none.pl : Nat → DrawPlan
  | _ => ⟨[], .done⟩
def suite_Suite_none.b (x0 : Value) (R : KV) (X : KX) (w : World) : Prop :=
  pEq .ptr false x0 (.pointer none) fun t4 =>
  gIf t4 false (fun K => K x0) fun t6 =>
  gIf t4 false (fun K => pNil t6 K) fun t7 =>
  gIf t4 false (fun K => pFA 2 t7 K) fun t8 =>
  gIf t4 false (fun K => pLd (· = w) t8 K) fun t9 =>
  gIf t4 false (fun K => pEq .ptr false t9 (.pointer none) K) fun t10 =>
  gIf t4 false (fun K => K t10) fun t11 =>
  gIf t11 true (fun K => K x0) fun t12 =>
  gIf t11 true (fun K => pNil t12 K) fun t13 =>
  gIf t11 true (fun K => pFA 0 t13 K) fun t14 =>
  gIf t11 true (fun K => pFA 0 t14 K) fun t15 =>
  gIf t11 true (fun K => pLd (· = w) t15 K) fun t16 =>
  gIf t11 true (fun K => pEq .ptr false t16 (.pointer none) K) fun t17 =>
  gIf t4 false (fun K => pPick t11 t17 (.bool false) K) fun t18 =>
  pPick t4 (.bool true) t18 fun t19 =>
  R t19 w
theorem suite_Suite_none.b_eq (x0 : Value) (R : KV) (X : KX) (w : World) : atP Tryd.prog Tryd.f59 suite_Suite_none.pl [] [] R X ([x0] ++ undefs 19) w = suite_Suite_none.b x0 R X w := by kernel_rfl
theorem suite_Suite_none.calls {x0 : Value} {R : KV} {X : KX} {w : World} (h : suite_Suite_none.b x0 R X w) : GCalls Tryd.prog 59 [x0] R X w :=
  gcalls_of (pl := suite_Suite_none.pl) Tryd.func59 rfl (by kernel_rfl) hmixed (suite_Suite_none.b_eq x0 R X w ▸ h)

/-! (*oubliette/suite.Suite).real -/
def suite_Suite_real.pl : Nat → DrawPlan
  | _ => ⟨[], .done⟩
def suite_Suite_real.b (x0 : Value) (R : KV) (X : KX) (w : World) : Prop :=
  pNil x0 fun t4 =>
  pFA 2 t4 fun t5 =>
  pLd (· = w) t5 fun t6 =>
  pEq .ptr true t6 (.pointer none) fun t7 =>
  R t7 w
theorem suite_Suite_real.b_eq (x0 : Value) (R : KV) (X : KX) (w : World) : atP Tryd.prog Tryd.f60 suite_Suite_real.pl [] [] R X ([x0] ++ undefs 7) w = suite_Suite_real.b x0 R X w := by kernel_rfl
theorem suite_Suite_real.calls {x0 : Value} {R : KV} {X : KX} {w : World} (h : suite_Suite_real.b x0 R X w) : GCalls Tryd.prog 60 [x0] R X w :=
  gcalls_of (pl := suite_Suite_real.pl) Tryd.func60 rfl (by kernel_rfl) hmixed (suite_Suite_real.b_eq x0 R X w ▸ h)

/-! slices.IndexFunc[[]oubliette/record.Skip,oubliette/record.Skip] -/
def slices_IndexFunc_record_Skip_record_Skip.pl : Nat → DrawPlan
  | _ => ⟨[], .done⟩
def slices_IndexFunc_record_Skip_record_Skip.b1 (x0 : Value) (x1 : Value) (x7 : Value) (x8 : Value) (g : Nat → Value) (N1 : List Value → World → Prop) (R : KV) (X : KX) (w : World) : Prop :=
  pBinI .lss .i64 x8 x7 fun t9 =>
  scond t9
  (pIA 2 x0 x8 fun t14 =>
    pLdN (· = w) 2 t14 fun t15 =>
    pCallV Tryd.prog x1 [t15] X w fun t16 w =>
    scond t16
    (R x8 w)
    (pBinI .add .i64 x8 (.int .i64 1) fun t18 =>
      N1 [x0, x1, (g 2), (g 3), (g 4), x8, (g 6), x7, t18, t9, x8, x1, x0, x8, t14, t15, t16, (g 17), t18] w))
  (R (.int .i64 (-1)) w)
def slices_IndexFunc_record_Skip_record_Skip.I1 (e : List Value) (R : KV) (X : KX) (w : World) : Prop := atP Tryd.prog Tryd.f76 slices_IndexFunc_record_Skip_record_Skip.pl [1, 0, 1, 0] [] R X e w
theorem slices_IndexFunc_record_Skip_record_Skip.I1_eq (e : List Value) (R : KV) (X : KX) (w : World) : slices_IndexFunc_record_Skip_record_Skip.I1 e R X w = loopS (fun N e w => atP Tryd.prog Tryd.f76 slices_IndexFunc_record_Skip_record_Skip.pl [1, 0, 1, 0, 0] [N] R X e w) e w := by kernel_rfl
def slices_IndexFunc_record_Skip_record_Skip.fr1 (x0 : Value) (x1 : Value) (x7 : Value) (x8 : Value) (g : Nat → Value) : List Value := [x0, x1, g 2, g 3, g 4, g 5, g 6, x7, x8, g 9, g 10, g 11, g 12, g 13, g 14, g 15, g 16, g 17, g 18]
theorem slices_IndexFunc_record_Skip_record_Skip.b1_eq (x0 : Value) (x1 : Value) (x7 : Value) (x8 : Value) (g : Nat → Value) (N1 : List Value → World → Prop) (R : KV) (X : KX) (w : World) : atP Tryd.prog Tryd.f76 slices_IndexFunc_record_Skip_record_Skip.pl [1, 0, 1, 0, 0] [N1] R X (slices_IndexFunc_record_Skip_record_Skip.fr1 x0 x1 x7 x8 g) w = slices_IndexFunc_record_Skip_record_Skip.b1 x0 x1 x7 x8 g N1 R X w := by kernel_rfl
/-- What a round of this loop hands on. -/
def slices_IndexFunc_record_Skip_record_Skip.N1 (J : Value → World → Prop) (m : Value → World → Nat) (x0 : Value) (x1 : Value) (x7 : Value) (x8 : Value) (w : World) : List Value → World → Prop := fun e w' => (∃ y8 g, e = slices_IndexFunc_record_Skip_record_Skip.fr1 x0 x1 x7 y8 g ∧ J y8 w') ∧ m (nth e 8) w' < m x8 w
theorem slices_IndexFunc_record_Skip_record_Skip.leaf1 {J : Value → World → Prop} {m : Value → World → Nat} {x0 : Value} {x1 : Value} {x7 : Value} {x8 : Value} {w w' : World} {e2 e3 e4 e5 e6 e8 e9 e10 e11 e12 e13 e14 e15 e16 e17 e18 : Value} (h : J e8 w') (hm : m e8 w' < m x8 w) : slices_IndexFunc_record_Skip_record_Skip.N1 J m x0 x1 x7 x8 w [x0, x1, e2, e3, e4, e5, e6, x7, e8, e9, e10, e11, e12, e13, e14, e15, e16, e17, e18] w' :=
  ⟨⟨e8, (fun i => nth [x0, x1, e2, e3, e4, e5, e6, x7, e8, e9, e10, e11, e12, e13, e14, e15, e16, e17, e18] i), rfl, h⟩, hm⟩
theorem slices_IndexFunc_record_Skip_record_Skip.loop1 (J : Value → World → Prop) (m : Value → World → Nat) {R : KV} {X : KX} {w : World} {x0 : Value} {x1 : Value} {x7 : Value} {e2 e3 e4 e5 e6 e8 e9 e10 e11 e12 e13 e14 e15 e16 e17 e18 : Value} (h0 : J e8 w)
    (hr : ∀ x8 g w, J x8 w → slices_IndexFunc_record_Skip_record_Skip.b1 x0 x1 x7 x8 g (slices_IndexFunc_record_Skip_record_Skip.N1 J m x0 x1 x7 x8 w) R X w) : slices_IndexFunc_record_Skip_record_Skip.I1 [x0, x1, e2, e3, e4, e5, e6, x7, e8, e9, e10, e11, e12, e13, e14, e15, e16, e17, e18] R X w := by
  rw [slices_IndexFunc_record_Skip_record_Skip.I1_eq]
  refine ⟨fun e w => ∃ y8 g, e = slices_IndexFunc_record_Skip_record_Skip.fr1 x0 x1 x7 y8 g ∧ J y8 w, fun e w => m (nth e 8) w, ⟨e8, (fun i => nth [x0, x1, e2, e3, e4, e5, e6, x7, e8, e9, e10, e11, e12, e13, e14, e15, e16, e17, e18] i), rfl, h0⟩, ?_⟩
  rintro _ w ⟨y8, g, rfl, hJ⟩
  rw [slices_IndexFunc_record_Skip_record_Skip.b1_eq]
  exact hr y8 g w hJ
def slices_IndexFunc_record_Skip_record_Skip.b (x0 : Value) (x1 : Value) (R : KV) (X : KX) (w : World) : Prop :=
  pLenSl x0 fun t7 =>
  slices_IndexFunc_record_Skip_record_Skip.I1 [x0, x1, undef, undef, (.int .i64 0), undef, x0, t7, (.int .i64 0), undef, undef, undef, undef, undef, undef, undef, undef, undef, undef] R X w
theorem slices_IndexFunc_record_Skip_record_Skip.b_eq (x0 : Value) (x1 : Value) (R : KV) (X : KX) (w : World) : atP Tryd.prog Tryd.f76 slices_IndexFunc_record_Skip_record_Skip.pl [] [] R X ([x0, x1] ++ undefs 17) w = slices_IndexFunc_record_Skip_record_Skip.b x0 x1 R X w := by kernel_rfl
theorem slices_IndexFunc_record_Skip_record_Skip.calls {x0 x1 : Value} {R : KV} {X : KX} {w : World} (h : slices_IndexFunc_record_Skip_record_Skip.b x0 x1 R X w) : GCalls Tryd.prog 76 [x0, x1] R X w :=
  gcalls_of (pl := slices_IndexFunc_record_Skip_record_Skip.pl) Tryd.func76 rfl (by kernel_rfl) hmixed (slices_IndexFunc_record_Skip_record_Skip.b_eq x0 x1 R X w ▸ h)

/-! oubliette/ratchet.place$1 -/
def ratchet_place_c1.pl : Nat → DrawPlan
  | _ => ⟨[], .done⟩
def ratchet_place_c1.b (x0 : Value) (x1 : Value) (R : KV) (X : KX) (w : World) : Prop :=
  pBox 83 x0 w fun t2 w =>
  pFA 0 t2 fun t4 =>
  pLd (· = w) t4 fun t5 =>
  pLd (· = w) x1 fun t6 =>
  pBinI .eql .i64 t5 t6 fun t7 =>
  R t7 w
theorem ratchet_place_c1.b_eq (x0 : Value) (x1 : Value) (R : KV) (X : KX) (w : World) : atP Tryd.prog Tryd.f77 ratchet_place_c1.pl [] [] R X ([x0, x1] ++ undefs 6) w = ratchet_place_c1.b x0 x1 R X w := by kernel_rfl
theorem ratchet_place_c1.calls {x0 x1 : Value} {R : KV} {X : KX} {w : World} (h : ratchet_place_c1.b x0 x1 R X w) : GCalls Tryd.prog 77 [x0, x1] R X w :=
  gcalls_of (pl := ratchet_place_c1.pl) Tryd.func77 rfl (by kernel_rfl) hmixed (ratchet_place_c1.b_eq x0 x1 R X w ▸ h)
end Go.Proofs.YtkpgmaiklfjjgaaDoor
end
