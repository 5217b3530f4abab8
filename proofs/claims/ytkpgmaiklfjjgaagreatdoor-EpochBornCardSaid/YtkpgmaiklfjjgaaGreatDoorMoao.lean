/-
  The functions' own code as conditions on values and worlds; the kernel checks that each is the code's own.
-/
import Derived.Test.YtkpgmaiklfjjgaaGreatDoorMoan
import Derived.Test.YtkpgmaiklfjjgaaGreatDoorProg
section
set_option maxRecDepth 100000
set_option linter.unusedVariables false
namespace Go.Proofs.YtkpgmaiklfjjgaaGreatDoor
open Go.G

/-! oubliette/oubliettelaw34.alive -/
def oubliettelaw34_alive.pl : Nat → DrawPlan
  | 1 => ⟨[([], [2]), ([], [2]), ([0, 1, 0], [0, 1, 3]), ([2], [2, 4, 5]), ([3], [3, 7]), ([3], [3, 8]), ([], [7]), ([6, 4, 2, 0, 1, 2, 3, 4, 6], [4, 6]), ([5, 7, 0, 1, 2, 3, 4, 5, 6, 7], [5])], .world 0 false (.world 1 false (.world 2 false (.take 3 (.take 4 (.take 5 (.world 6 false (.world 7 false (.take 8 (.done)) .none) .none)))) (.world 6 false (.world 2 false (.take 3 (.take 4 (.take 5 (.world 7 false (.take 8 (.done)) .none)))) .none) .none)) (.world 6 false (.world 1 false (.world 2 false (.take 3 (.take 4 (.take 5 (.world 7 false (.take 8 (.done)) .none)))) .none) .none) .none)) (.world 1 false (.world 0 false (.world 2 false (.take 3 (.take 4 (.take 5 (.world 6 false (.world 7 false (.take 8 (.done)) .none) .none)))) (.world 6 false (.world 2 false (.take 3 (.take 4 (.take 5 (.world 7 false (.take 8 (.done)) .none)))) .none) .none)) (.world 6 false (.world 0 false (.world 2 false (.take 3 (.take 4 (.take 5 (.world 7 false (.take 8 (.done)) .none)))) .none) .none) .none)) (.world 6 false (.world 0 false (.world 1 false (.world 2 false (.take 3 (.take 4 (.take 5 (.world 7 false (.take 8 (.done)) .none)))) .none) .none) (.world 1 false (.world 0 false (.world 2 false (.take 3 (.take 4 (.take 5 (.world 7 false (.take 8 (.done)) .none)))) .none) .none) .none)) .none))⟩
  | _ => ⟨[], .done⟩
def oubliettelaw34_alive.b (R : KV) (X : KX) (w : World) : Prop :=
  drawn w fun S w =>
  (pCall Tryz.prog 6 [(.slice none 0 0)] X w fun t4 w =>
    S w ∧ ((pMake 5 1 [.int .u8 0] (.int .i64 32) (.int .i64 32) w fun t5 w =>
        S w ∧ ((pCall Tryz.prog 7 [t4, t5, (.int .i64 1)] X w fun t6 w =>
            S w ∧ (pExt t6 0 fun t7 =>
              pExt t6 1 fun t8 =>
              pBox 30 (.agg #[.slice none 0 0, .slice none 0 0, .slice none 0 0]) w fun t1 w =>
              S w ∧ (pStN 3 t1 t7 w fun _ w =>
                S w ∧ (pBinI .eql .i64 t8 (.int .i64 0) fun t10 =>
                  gIf t10 true (fun K => pFA 2 t1 K) fun t12 =>
                  gIf t10 true (fun K => pLd (· = w) t12 K) fun t13 =>
                  gIf t10 true (fun K => pLenSl t13 K) fun t14 =>
                  gIf t10 true (fun K => pBinI .eql .i64 t14 (.int .i64 1) K) fun t15 =>
                  pPick t10 t15 (.bool false) fun t16 =>
                  gIf t16 true (fun K => pFA 2 t1 K) fun t18 =>
                  gIf t16 true (fun K => pLd (· = w) t18 K) fun t19 =>
                  gIf t16 true (fun K => pIA 3 t19 (.int .i64 0) K) fun t20 =>
                  gIf t16 true (fun K => pFA 0 t20 K) fun t21 =>
                  gIf t16 true (fun K => pLd (· = w) t21 K) fun t22 =>
                  gIf t16 true (fun K => pBinI .eql .i64 t22 (.int .i64 0) K) fun t23 =>
                  pPick t16 t23 (.bool false) fun t24 =>
                  gIfW t24 true (fun w K => pCall Tryz.prog 23 [(.int .i64 3)] X w K) w fun t26 w =>
                  gIf t24 true (fun K => pBinS .eql t26 (.string ⟨#[115, 101, 110, 100, 101, 114, 32, 51]⟩) K) fun t27 =>
                  pPick t24 t27 (.bool false) fun t28 =>
                  R t28 w)))) ∧
          (pBox 30 (.agg #[.slice none 0 0, .slice none 0 0, .slice none 0 0]) w fun t1_1 w =>
            S w ∧ (pCall Tryz.prog 7 [t4, t5, (.int .i64 1)] X w fun t6_1 w =>
              S w ∧ (pExt t6_1 0 fun t7_1 =>
                pExt t6_1 1 fun t8_1 =>
                pStN 3 t1_1 t7_1 w fun _ w =>
                S w ∧ (pBinI .eql .i64 t8_1 (.int .i64 0) fun t10_1 =>
                  gIf t10_1 true (fun K => pFA 2 t1_1 K) fun t12_1 =>
                  gIf t10_1 true (fun K => pLd (· = w) t12_1 K) fun t13_1 =>
                  gIf t10_1 true (fun K => pLenSl t13_1 K) fun t14_1 =>
                  gIf t10_1 true (fun K => pBinI .eql .i64 t14_1 (.int .i64 1) K) fun t15_1 =>
                  pPick t10_1 t15_1 (.bool false) fun t16_1 =>
                  gIf t16_1 true (fun K => pFA 2 t1_1 K) fun t18_1 =>
                  gIf t16_1 true (fun K => pLd (· = w) t18_1 K) fun t19_1 =>
                  gIf t16_1 true (fun K => pIA 3 t19_1 (.int .i64 0) K) fun t20_1 =>
                  gIf t16_1 true (fun K => pFA 0 t20_1 K) fun t21_1 =>
                  gIf t16_1 true (fun K => pLd (· = w) t21_1 K) fun t22_1 =>
                  gIf t16_1 true (fun K => pBinI .eql .i64 t22_1 (.int .i64 0) K) fun t23_1 =>
                  pPick t16_1 t23_1 (.bool false) fun t24_1 =>
                  gIfW t24_1 true (fun w K => pCall Tryz.prog 23 [(.int .i64 3)] X w K) w fun t26_1 w =>
                  gIf t24_1 true (fun K => pBinS .eql t26_1 (.string ⟨#[115, 101, 110, 100, 101, 114, 32, 51]⟩) K) fun t27_1 =>
                  pPick t24_1 t27_1 (.bool false) fun t28_1 =>
                  R t28_1 w)))))) ∧
      (pBox 30 (.agg #[.slice none 0 0, .slice none 0 0, .slice none 0 0]) w fun t1_2 w =>
        S w ∧ (pMake 5 1 [.int .u8 0] (.int .i64 32) (.int .i64 32) w fun t5_1 w =>
          S w ∧ (pCall Tryz.prog 7 [t4, t5_1, (.int .i64 1)] X w fun t6_2 w =>
            S w ∧ (pExt t6_2 0 fun t7_2 =>
              pExt t6_2 1 fun t8_2 =>
              pStN 3 t1_2 t7_2 w fun _ w =>
              S w ∧ (pBinI .eql .i64 t8_2 (.int .i64 0) fun t10_2 =>
                gIf t10_2 true (fun K => pFA 2 t1_2 K) fun t12_2 =>
                gIf t10_2 true (fun K => pLd (· = w) t12_2 K) fun t13_2 =>
                gIf t10_2 true (fun K => pLenSl t13_2 K) fun t14_2 =>
                gIf t10_2 true (fun K => pBinI .eql .i64 t14_2 (.int .i64 1) K) fun t15_2 =>
                pPick t10_2 t15_2 (.bool false) fun t16_2 =>
                gIf t16_2 true (fun K => pFA 2 t1_2 K) fun t18_2 =>
                gIf t16_2 true (fun K => pLd (· = w) t18_2 K) fun t19_2 =>
                gIf t16_2 true (fun K => pIA 3 t19_2 (.int .i64 0) K) fun t20_2 =>
                gIf t16_2 true (fun K => pFA 0 t20_2 K) fun t21_2 =>
                gIf t16_2 true (fun K => pLd (· = w) t21_2 K) fun t22_2 =>
                gIf t16_2 true (fun K => pBinI .eql .i64 t22_2 (.int .i64 0) K) fun t23_2 =>
                pPick t16_2 t23_2 (.bool false) fun t24_2 =>
                gIfW t24_2 true (fun w K => pCall Tryz.prog 23 [(.int .i64 3)] X w K) w fun t26_2 w =>
                gIf t24_2 true (fun K => pBinS .eql t26_2 (.string ⟨#[115, 101, 110, 100, 101, 114, 32, 51]⟩) K) fun t27_2 =>
                pPick t24_2 t27_2 (.bool false) fun t28_2 =>
                R t28_2 w))))))) ∧
  (pMake 5 1 [.int .u8 0] (.int .i64 32) (.int .i64 32) w fun t5_2 w =>
    S w ∧ ((pCall Tryz.prog 6 [(.slice none 0 0)] X w fun t4_1 w =>
        S w ∧ ((pCall Tryz.prog 7 [t4_1, t5_2, (.int .i64 1)] X w fun t6_3 w =>
            S w ∧ (pExt t6_3 0 fun t7_3 =>
              pExt t6_3 1 fun t8_3 =>
              pBox 30 (.agg #[.slice none 0 0, .slice none 0 0, .slice none 0 0]) w fun t1_3 w =>
              S w ∧ (pStN 3 t1_3 t7_3 w fun _ w =>
                S w ∧ (pBinI .eql .i64 t8_3 (.int .i64 0) fun t10_3 =>
                  gIf t10_3 true (fun K => pFA 2 t1_3 K) fun t12_3 =>
                  gIf t10_3 true (fun K => pLd (· = w) t12_3 K) fun t13_3 =>
                  gIf t10_3 true (fun K => pLenSl t13_3 K) fun t14_3 =>
                  gIf t10_3 true (fun K => pBinI .eql .i64 t14_3 (.int .i64 1) K) fun t15_3 =>
                  pPick t10_3 t15_3 (.bool false) fun t16_3 =>
                  gIf t16_3 true (fun K => pFA 2 t1_3 K) fun t18_3 =>
                  gIf t16_3 true (fun K => pLd (· = w) t18_3 K) fun t19_3 =>
                  gIf t16_3 true (fun K => pIA 3 t19_3 (.int .i64 0) K) fun t20_3 =>
                  gIf t16_3 true (fun K => pFA 0 t20_3 K) fun t21_3 =>
                  gIf t16_3 true (fun K => pLd (· = w) t21_3 K) fun t22_3 =>
                  gIf t16_3 true (fun K => pBinI .eql .i64 t22_3 (.int .i64 0) K) fun t23_3 =>
                  pPick t16_3 t23_3 (.bool false) fun t24_3 =>
                  gIfW t24_3 true (fun w K => pCall Tryz.prog 23 [(.int .i64 3)] X w K) w fun t26_3 w =>
                  gIf t24_3 true (fun K => pBinS .eql t26_3 (.string ⟨#[115, 101, 110, 100, 101, 114, 32, 51]⟩) K) fun t27_3 =>
                  pPick t24_3 t27_3 (.bool false) fun t28_3 =>
                  R t28_3 w)))) ∧
          (pBox 30 (.agg #[.slice none 0 0, .slice none 0 0, .slice none 0 0]) w fun t1_4 w =>
            S w ∧ (pCall Tryz.prog 7 [t4_1, t5_2, (.int .i64 1)] X w fun t6_4 w =>
              S w ∧ (pExt t6_4 0 fun t7_4 =>
                pExt t6_4 1 fun t8_4 =>
                pStN 3 t1_4 t7_4 w fun _ w =>
                S w ∧ (pBinI .eql .i64 t8_4 (.int .i64 0) fun t10_4 =>
                  gIf t10_4 true (fun K => pFA 2 t1_4 K) fun t12_4 =>
                  gIf t10_4 true (fun K => pLd (· = w) t12_4 K) fun t13_4 =>
                  gIf t10_4 true (fun K => pLenSl t13_4 K) fun t14_4 =>
                  gIf t10_4 true (fun K => pBinI .eql .i64 t14_4 (.int .i64 1) K) fun t15_4 =>
                  pPick t10_4 t15_4 (.bool false) fun t16_4 =>
                  gIf t16_4 true (fun K => pFA 2 t1_4 K) fun t18_4 =>
                  gIf t16_4 true (fun K => pLd (· = w) t18_4 K) fun t19_4 =>
                  gIf t16_4 true (fun K => pIA 3 t19_4 (.int .i64 0) K) fun t20_4 =>
                  gIf t16_4 true (fun K => pFA 0 t20_4 K) fun t21_4 =>
                  gIf t16_4 true (fun K => pLd (· = w) t21_4 K) fun t22_4 =>
                  gIf t16_4 true (fun K => pBinI .eql .i64 t22_4 (.int .i64 0) K) fun t23_4 =>
                  pPick t16_4 t23_4 (.bool false) fun t24_4 =>
                  gIfW t24_4 true (fun w K => pCall Tryz.prog 23 [(.int .i64 3)] X w K) w fun t26_4 w =>
                  gIf t24_4 true (fun K => pBinS .eql t26_4 (.string ⟨#[115, 101, 110, 100, 101, 114, 32, 51]⟩) K) fun t27_4 =>
                  pPick t24_4 t27_4 (.bool false) fun t28_4 =>
                  R t28_4 w)))))) ∧
      (pBox 30 (.agg #[.slice none 0 0, .slice none 0 0, .slice none 0 0]) w fun t1_5 w =>
        S w ∧ (pCall Tryz.prog 6 [(.slice none 0 0)] X w fun t4_2 w =>
          S w ∧ (pCall Tryz.prog 7 [t4_2, t5_2, (.int .i64 1)] X w fun t6_5 w =>
            S w ∧ (pExt t6_5 0 fun t7_5 =>
              pExt t6_5 1 fun t8_5 =>
              pStN 3 t1_5 t7_5 w fun _ w =>
              S w ∧ (pBinI .eql .i64 t8_5 (.int .i64 0) fun t10_5 =>
                gIf t10_5 true (fun K => pFA 2 t1_5 K) fun t12_5 =>
                gIf t10_5 true (fun K => pLd (· = w) t12_5 K) fun t13_5 =>
                gIf t10_5 true (fun K => pLenSl t13_5 K) fun t14_5 =>
                gIf t10_5 true (fun K => pBinI .eql .i64 t14_5 (.int .i64 1) K) fun t15_5 =>
                pPick t10_5 t15_5 (.bool false) fun t16_5 =>
                gIf t16_5 true (fun K => pFA 2 t1_5 K) fun t18_5 =>
                gIf t16_5 true (fun K => pLd (· = w) t18_5 K) fun t19_5 =>
                gIf t16_5 true (fun K => pIA 3 t19_5 (.int .i64 0) K) fun t20_5 =>
                gIf t16_5 true (fun K => pFA 0 t20_5 K) fun t21_5 =>
                gIf t16_5 true (fun K => pLd (· = w) t21_5 K) fun t22_5 =>
                gIf t16_5 true (fun K => pBinI .eql .i64 t22_5 (.int .i64 0) K) fun t23_5 =>
                pPick t16_5 t23_5 (.bool false) fun t24_5 =>
                gIfW t24_5 true (fun w K => pCall Tryz.prog 23 [(.int .i64 3)] X w K) w fun t26_5 w =>
                gIf t24_5 true (fun K => pBinS .eql t26_5 (.string ⟨#[115, 101, 110, 100, 101, 114, 32, 51]⟩) K) fun t27_5 =>
                pPick t24_5 t27_5 (.bool false) fun t28_5 =>
                R t28_5 w))))))) ∧
  (pBox 30 (.agg #[.slice none 0 0, .slice none 0 0, .slice none 0 0]) w fun t1_6 w =>
    S w ∧ ((pCall Tryz.prog 6 [(.slice none 0 0)] X w fun t4_3 w =>
        S w ∧ (pMake 5 1 [.int .u8 0] (.int .i64 32) (.int .i64 32) w fun t5_3 w =>
          S w ∧ (pCall Tryz.prog 7 [t4_3, t5_3, (.int .i64 1)] X w fun t6_6 w =>
            S w ∧ (pExt t6_6 0 fun t7_6 =>
              pExt t6_6 1 fun t8_6 =>
              pStN 3 t1_6 t7_6 w fun _ w =>
              S w ∧ (pBinI .eql .i64 t8_6 (.int .i64 0) fun t10_6 =>
                gIf t10_6 true (fun K => pFA 2 t1_6 K) fun t12_6 =>
                gIf t10_6 true (fun K => pLd (· = w) t12_6 K) fun t13_6 =>
                gIf t10_6 true (fun K => pLenSl t13_6 K) fun t14_6 =>
                gIf t10_6 true (fun K => pBinI .eql .i64 t14_6 (.int .i64 1) K) fun t15_6 =>
                pPick t10_6 t15_6 (.bool false) fun t16_6 =>
                gIf t16_6 true (fun K => pFA 2 t1_6 K) fun t18_6 =>
                gIf t16_6 true (fun K => pLd (· = w) t18_6 K) fun t19_6 =>
                gIf t16_6 true (fun K => pIA 3 t19_6 (.int .i64 0) K) fun t20_6 =>
                gIf t16_6 true (fun K => pFA 0 t20_6 K) fun t21_6 =>
                gIf t16_6 true (fun K => pLd (· = w) t21_6 K) fun t22_6 =>
                gIf t16_6 true (fun K => pBinI .eql .i64 t22_6 (.int .i64 0) K) fun t23_6 =>
                pPick t16_6 t23_6 (.bool false) fun t24_6 =>
                gIfW t24_6 true (fun w K => pCall Tryz.prog 23 [(.int .i64 3)] X w K) w fun t26_6 w =>
                gIf t24_6 true (fun K => pBinS .eql t26_6 (.string ⟨#[115, 101, 110, 100, 101, 114, 32, 51]⟩) K) fun t27_6 =>
                pPick t24_6 t27_6 (.bool false) fun t28_6 =>
                R t28_6 w))))) ∧
      (pMake 5 1 [.int .u8 0] (.int .i64 32) (.int .i64 32) w fun t5_4 w =>
        S w ∧ (pCall Tryz.prog 6 [(.slice none 0 0)] X w fun t4_4 w =>
          S w ∧ (pCall Tryz.prog 7 [t4_4, t5_4, (.int .i64 1)] X w fun t6_7 w =>
            S w ∧ (pExt t6_7 0 fun t7_7 =>
              pExt t6_7 1 fun t8_7 =>
              pStN 3 t1_6 t7_7 w fun _ w =>
              S w ∧ (pBinI .eql .i64 t8_7 (.int .i64 0) fun t10_7 =>
                gIf t10_7 true (fun K => pFA 2 t1_6 K) fun t12_7 =>
                gIf t10_7 true (fun K => pLd (· = w) t12_7 K) fun t13_7 =>
                gIf t10_7 true (fun K => pLenSl t13_7 K) fun t14_7 =>
                gIf t10_7 true (fun K => pBinI .eql .i64 t14_7 (.int .i64 1) K) fun t15_7 =>
                pPick t10_7 t15_7 (.bool false) fun t16_7 =>
                gIf t16_7 true (fun K => pFA 2 t1_6 K) fun t18_7 =>
                gIf t16_7 true (fun K => pLd (· = w) t18_7 K) fun t19_7 =>
                gIf t16_7 true (fun K => pIA 3 t19_7 (.int .i64 0) K) fun t20_7 =>
                gIf t16_7 true (fun K => pFA 0 t20_7 K) fun t21_7 =>
                gIf t16_7 true (fun K => pLd (· = w) t21_7 K) fun t22_7 =>
                gIf t16_7 true (fun K => pBinI .eql .i64 t22_7 (.int .i64 0) K) fun t23_7 =>
                pPick t16_7 t23_7 (.bool false) fun t24_7 =>
                gIfW t24_7 true (fun w K => pCall Tryz.prog 23 [(.int .i64 3)] X w K) w fun t26_7 w =>
                gIf t24_7 true (fun K => pBinS .eql t26_7 (.string ⟨#[115, 101, 110, 100, 101, 114, 32, 51]⟩) K) fun t27_7 =>
                pPick t24_7 t27_7 (.bool false) fun t28_7 =>
                R t28_7 w)))))))
theorem oubliettelaw34_alive.b_eq (R : KV) (X : KX) (w : World) : atP Tryz.prog Tryz.f5 oubliettelaw34_alive.pl [] [] R X ([] ++ undefs 29) w = oubliettelaw34_alive.b R X w := by kernel_rfl
theorem oubliettelaw34_alive.calls {R : KV} {X : KX} {w : World} (h : oubliettelaw34_alive.b R X w) : GCalls Tryz.prog 5 [] R X w :=
  gcalls_of (pl := oubliettelaw34_alive.pl) Tryz.func5 rfl (by kernel_rfl) hmixed (oubliettelaw34_alive.b_eq R X w ▸ h)

/-! oubliette/suite.Real -/
def suite_Real.pl : Nat → DrawPlan
  | _ => ⟨[], .done⟩
def suite_Real.b (x0 : Value) (R : KV) (X : KX) (w : World) : Prop :=
  pCall Tryz.prog 24 [x0] X w fun t4 w =>
  pBuild [.pointer none, .map none, .pointer none] [(2, 1, t4)] fun t5 =>
  pBox 66 t5 w fun t6 w =>
  R t6 w
theorem suite_Real.b_eq (x0 : Value) (R : KV) (X : KX) (w : World) : atP Tryz.prog Tryz.f6 suite_Real.pl [] [] R X ([x0] ++ undefs 6) w = suite_Real.b x0 R X w := by kernel_rfl
theorem suite_Real.calls {x0 : Value} {R : KV} {X : KX} {w : World} (h : suite_Real.b x0 R X w) : GCalls Tryz.prog 6 [x0] R X w :=
  gcalls_of (pl := suite_Real.pl) Tryz.func6 rfl (by kernel_rfl) hmixed (suite_Real.b_eq x0 R X w ▸ h)

/-! oubliette/epoch.First -/
def epoch_First.pl : Nat → DrawPlan
  | _ => ⟨[], .done⟩
def epoch_First.b (x0 : Value) (x1 : Value) (x2 : Value) (R : KV) (X : KX) (w : World) : Prop :=
  pBox 30 (.agg #[.slice none 0 0, .slice none 0 0, .slice none 0 0]) w fun t6 w =>
  pBSlice 22 1 (rowOf [.slice none 0 0] 1) [(0, 1, x1)] w fun t12 w =>
  pCall Tryz.prog 25 [x0, x2, t12] X w fun t13 w =>
  pBinI .neq .i64 t13 (.int .i64 0) fun t15 =>
  scond t15
  (pBuild [.slice none 0 0, .slice none 0 0, .slice none 0 0] [] fun t16 =>
    pStN 3 t6 t16 w fun _ w =>
    pLdN (· = w) 3 t6 fun r0 =>
    R (.tuple #[r0, t13]) w)
  (pCall Tryz.prog 26 [x0, x1, (.string ⟨#[106, 111, 105, 110]⟩)] X w fun t21 w =>
    pCall Tryz.prog 9 [x0, t21, x2] X w fun t23 w =>
    pExt t23 0 fun t24 =>
    pExt t23 1 fun t25 =>
    pStN 3 t6 t24 w fun _ w =>
    pLdN (· = w) 3 t6 fun r0 =>
    R (.tuple #[r0, t25]) w)
theorem epoch_First.b_eq (x0 : Value) (x1 : Value) (x2 : Value) (R : KV) (X : KX) (w : World) : atP Tryz.prog Tryz.f7 epoch_First.pl [] [] R X ([x0, x1, x2] ++ undefs 23) w = epoch_First.b x0 x1 x2 R X w := by kernel_rfl
theorem epoch_First.calls {x0 x1 x2 : Value} {R : KV} {X : KX} {w : World} (h : epoch_First.b x0 x1 x2 R X w) : GCalls Tryz.prog 7 [x0, x1, x2] R X w :=
  gcalls_of (pl := epoch_First.pl) Tryz.func7 rfl (by kernel_rfl) hmixed (epoch_First.b_eq x0 x1 x2 R X w ▸ h)

/-! oubliette/epoch.Next -/
def epoch_Next.pl : Nat → DrawPlan
  | _ => ⟨[], .done⟩
def epoch_Next.b (x0 : Value) (x1 : Value) (x2 : Value) (x3 : Value) (R : KV) (X : KX) (w : World) : Prop :=
  pBox 30 (.agg #[.slice none 0 0, .slice none 0 0, .slice none 0 0]) w fun t8 w =>
  pBSlice 22 2 (rowOf [.slice none 0 0] 2) [(0, 1, x1), (1, 1, x2)] w fun t15 w =>
  pCall Tryz.prog 25 [x0, x3, t15] X w fun t16 w =>
  pBinI .neq .i64 t16 (.int .i64 0) fun t18 =>
  scond t18
  (pBuild [.slice none 0 0, .slice none 0 0, .slice none 0 0] [] fun t19 =>
    pStN 3 t8 t19 w fun _ w =>
    pLdN (· = w) 3 t8 fun r0 =>
    R (.tuple #[r0, t16]) w)
  (pCall Tryz.prog 27 [x0, x1, x2] X w fun t26 w =>
    pCall Tryz.prog 26 [x0, t26, (.string ⟨#[106, 111, 105, 110]⟩)] X w fun t27 w =>
    pCall Tryz.prog 9 [x0, t27, x3] X w fun t29 w =>
    pExt t29 0 fun t30 =>
    pExt t29 1 fun t31 =>
    pStN 3 t8 t30 w fun _ w =>
    pLdN (· = w) 3 t8 fun r0 =>
    R (.tuple #[r0, t31]) w)
theorem epoch_Next.b_eq (x0 : Value) (x1 : Value) (x2 : Value) (x3 : Value) (R : KV) (X : KX) (w : World) : atP Tryz.prog Tryz.f8 epoch_Next.pl [] [] R X ([x0, x1, x2, x3] ++ undefs 28) w = epoch_Next.b x0 x1 x2 x3 R X w := by kernel_rfl
theorem epoch_Next.calls {x0 x1 x2 x3 : Value} {R : KV} {X : KX} {w : World} (h : epoch_Next.b x0 x1 x2 x3 R X w) : GCalls Tryz.prog 8 [x0, x1, x2, x3] R X w :=
  gcalls_of (pl := epoch_Next.pl) Tryz.func8 rfl (by kernel_rfl) hmixed (epoch_Next.b_eq x0 x1 x2 x3 R X w ▸ h)

/-! oubliette/epoch.Born -/
def epoch_Born.pl : Nat → DrawPlan
  | 9 => ⟨[([], [1]), ([0], [0, 8]), ([], [5]), ([], [4]), ([3], [3, 5]), ([2, 4, 4], [2, 4, 6]), ([5, 5], [5, 7]), ([6], [6, 8]), ([1, 7, 6], [1, 7, 10]), ([0, 1, 2, 3, 4, 5, 6, 7, 8], [10]), ([9, 8, 8, 0, 1, 2, 3, 4, 5, 6, 7, 8], [8, 9])], .take 0 (.take 1 (.take 2 (.take 3 (.world 4 false (.world 5 false (.world 6 false (.world 7 false (.world 8 true (.take 9 (.world 10 true (.done) .none)) .none) .none) .none) .none) .none))))⟩
  | _ => ⟨[], .done⟩
def epoch_Born.b1 (x6 : Value) (x9 : Value) (x27 : Value) (x28 : Value) (g : Nat → Value) (N1 : List Value → World → Prop) (R : KV) (X : KX) (w : World) : Prop :=
  pBinI .lss .i64 x28 x27 fun t29 =>
  scond t29
  (drawn w fun S w =>
    pFA 2 x6 fun t31 =>
    pLd S t31 fun t32 =>
    pCall Tryz.prog 23 [x28] X w fun t35 w =>
    S w ∧ (pCallV Tryz.prog x9 [t35] X w fun t36 w =>
      S w ∧ (pCall Tryz.prog 29 [t36] X w fun t37 w =>
        S w ∧ (pBSlice 50 1 (rowOf [.int .i64 0, .slice none 0 0, .slice none 0 0] 1) [(0, 3, t37)] w fun t38 w =>
          S w ∧ (pApp 50 3 56 [.int .i64 0, .slice none 0 0, .slice none 0 0] t32 t38 w fun t39 w =>
            anew w fun S w =>
            pFA 2 x6 fun t40 =>
            pSt t40 t39 w fun _ w =>
            anew w fun S w =>
            pBinI .add .i64 x28 (.int .i64 1) fun t41 =>
            N1 [(g 0), (g 1), (g 2), (g 3), (g 4), (g 5), x6, (g 7), (g 8), x9, x28, (g 11), (g 12), (g 13), (g 14), (g 15), (g 16), (g 17), (g 18), (g 19), (g 20), (g 21), (g 22), (g 23), (g 24), (g 25), (g 26), x27, t41, t29, x28, t31, t32, x9, x28, t35, t36, t37, t38, t39, t40, t41, (g 42)] w)))))
  (pLdN (· = w) 3 x6 fun t42 =>
    pStN 3 x6 t42 w fun _ w =>
    pLdN (· = w) 3 x6 fun r0 =>
    R (.tuple #[r0, (.int .i64 0)]) w)
def epoch_Born.I1 (e : List Value) (R : KV) (X : KX) (w : World) : Prop := atP Tryz.prog Tryz.f9 epoch_Born.pl [1, 1, 1, 1, 0, 1, 0] [] R X e w
theorem epoch_Born.I1_eq (e : List Value) (R : KV) (X : KX) (w : World) : epoch_Born.I1 e R X w = loopS (fun N e w => atP Tryz.prog Tryz.f9 epoch_Born.pl [1, 1, 1, 1, 0, 1, 0, 0] [N] R X e w) e w := by kernel_rfl
def epoch_Born.fr1 (x6 : Value) (x9 : Value) (x27 : Value) (x28 : Value) (g : Nat → Value) : List Value := [g 0, g 1, g 2, g 3, g 4, g 5, x6, g 7, g 8, x9, g 10, g 11, g 12, g 13, g 14, g 15, g 16, g 17, g 18, g 19, g 20, g 21, g 22, g 23, g 24, g 25, g 26, x27, x28, g 29, g 30, g 31, g 32, g 33, g 34, g 35, g 36, g 37, g 38, g 39, g 40, g 41, g 42]
theorem epoch_Born.b1_eq (x6 : Value) (x9 : Value) (x27 : Value) (x28 : Value) (g : Nat → Value) (N1 : List Value → World → Prop) (R : KV) (X : KX) (w : World) : atP Tryz.prog Tryz.f9 epoch_Born.pl [1, 1, 1, 1, 0, 1, 0, 0] [N1] R X (epoch_Born.fr1 x6 x9 x27 x28 g) w = epoch_Born.b1 x6 x9 x27 x28 g N1 R X w := by kernel_rfl
/-- What a round of this loop hands on. -/
def epoch_Born.N1 (J : Value → World → Prop) (m : Value → World → Nat) (x6 : Value) (x9 : Value) (x27 : Value) (x28 : Value) (w : World) : List Value → World → Prop := fun e w' => (∃ y28 g, e = epoch_Born.fr1 x6 x9 x27 y28 g ∧ J y28 w') ∧ m (nth e 28) w' < m x28 w
theorem epoch_Born.leaf1 {J : Value → World → Prop} {m : Value → World → Nat} {x6 : Value} {x9 : Value} {x27 : Value} {x28 : Value} {w w' : World} {e0 e1 e2 e3 e4 e5 e7 e8 e10 e11 e12 e13 e14 e15 e16 e17 e18 e19 e20 e21 e22 e23 e24 e25 e26 e28 e29 e30 e31 e32 e33 e34 e35 e36 e37 e38 e39 e40 e41 e42 : Value} (h : J e28 w') (hm : m e28 w' < m x28 w) : epoch_Born.N1 J m x6 x9 x27 x28 w [e0, e1, e2, e3, e4, e5, x6, e7, e8, x9, e10, e11, e12, e13, e14, e15, e16, e17, e18, e19, e20, e21, e22, e23, e24, e25, e26, x27, e28, e29, e30, e31, e32, e33, e34, e35, e36, e37, e38, e39, e40, e41, e42] w' :=
  ⟨⟨e28, (fun i => nth [e0, e1, e2, e3, e4, e5, x6, e7, e8, x9, e10, e11, e12, e13, e14, e15, e16, e17, e18, e19, e20, e21, e22, e23, e24, e25, e26, x27, e28, e29, e30, e31, e32, e33, e34, e35, e36, e37, e38, e39, e40, e41, e42] i), rfl, h⟩, hm⟩
theorem epoch_Born.loop1 (J : Value → World → Prop) (m : Value → World → Nat) {R : KV} {X : KX} {w : World} {x6 : Value} {x9 : Value} {x27 : Value} {e0 e1 e2 e3 e4 e5 e7 e8 e10 e11 e12 e13 e14 e15 e16 e17 e18 e19 e20 e21 e22 e23 e24 e25 e26 e28 e29 e30 e31 e32 e33 e34 e35 e36 e37 e38 e39 e40 e41 e42 : Value} (h0 : J e28 w)
    (hr : ∀ x28 g w, J x28 w → epoch_Born.b1 x6 x9 x27 x28 g (epoch_Born.N1 J m x6 x9 x27 x28 w) R X w) : epoch_Born.I1 [e0, e1, e2, e3, e4, e5, x6, e7, e8, x9, e10, e11, e12, e13, e14, e15, e16, e17, e18, e19, e20, e21, e22, e23, e24, e25, e26, x27, e28, e29, e30, e31, e32, e33, e34, e35, e36, e37, e38, e39, e40, e41, e42] R X w := by
  rw [epoch_Born.I1_eq]
  refine ⟨fun e w => ∃ y28 g, e = epoch_Born.fr1 x6 x9 x27 y28 g ∧ J y28 w, fun e w => m (nth e 28) w, ⟨e28, (fun i => nth [e0, e1, e2, e3, e4, e5, x6, e7, e8, x9, e10, e11, e12, e13, e14, e15, e16, e17, e18, e19, e20, e21, e22, e23, e24, e25, e26, x27, e28, e29, e30, e31, e32, e33, e34, e35, e36, e37, e38, e39, e40, e41, e42] i), rfl, h0⟩, ?_⟩
  rintro _ w ⟨y28, g, rfl, hJ⟩
  rw [epoch_Born.b1_eq]
  exact hr y28 g w hJ
def epoch_Born.b (x0 : Value) (x1 : Value) (x2 : Value) (R : KV) (X : KX) (w : World) : Prop :=
  pBox 24 x0 w fun t3 w =>
  pBox 22 x1 w fun t4 w =>
  pBox 30 (.agg #[.slice none 0 0, .slice none 0 0, .slice none 0 0]) w fun t6 w =>
  pLd (· = w) t3 fun t11 =>
  pLd (· = w) t4 fun t13 =>
  pBSlice 22 1 (rowOf [.slice none 0 0] 1) [(0, 1, t13)] w fun t14 w =>
  pCall Tryz.prog 25 [t11, x2, t14] X w fun t15 w =>
  pBinI .neq .i64 t15 (.int .i64 0) fun t17 =>
  scond t17
  (pLdN (· = w) 3 t6 fun t18 =>
    pStN 3 t6 t18 w fun _ w =>
    pLdN (· = w) 3 t6 fun r0 =>
    R (.tuple #[r0, t15]) w)
  (pCallV Tryz.prog (.func (.func 28) #[] #[t3, t4]) [(.string ⟨#[101, 120, 112, 111, 114, 116]⟩)] X w fun t22 w =>
    pCallV Tryz.prog (.func (.func 28) #[] #[t3, t4]) [(.string ⟨#[105, 110, 105, 116]⟩)] X w fun t24 w =>
    pBuild [.slice none 0 0, .slice none 0 0] [(0, 1, t22), (1, 1, t24)] fun t25 =>
    pFA 0 t6 fun t26 =>
    pStN 2 t26 t25 w fun _ w =>
    epoch_Born.I1 [x0, x1, x2, t3, t4, undef, t6, (.int .i64 0), t15, (.func (.func 28) #[] #[t3, t4]), undef, t11, x2, t13, t14, t15, t15, t17, undef, undef, (.func (.func 28) #[] #[t3, t4]), (.func (.func 28) #[] #[t3, t4]), t22, (.func (.func 28) #[] #[t3, t4]), t24, t25, t26, x2, (.int .i64 0), undef, undef, undef, undef, undef, undef, undef, undef, undef, undef, undef, undef, undef, undef] R X w)
theorem epoch_Born.b_eq (x0 : Value) (x1 : Value) (x2 : Value) (R : KV) (X : KX) (w : World) : atP Tryz.prog Tryz.f9 epoch_Born.pl [] [] R X ([x0, x1, x2] ++ undefs 40) w = epoch_Born.b x0 x1 x2 R X w := by kernel_rfl
theorem epoch_Born.calls {x0 x1 x2 : Value} {R : KV} {X : KX} {w : World} (h : epoch_Born.b x0 x1 x2 R X w) : GCalls Tryz.prog 9 [x0, x1, x2] R X w :=
  gcalls_of (pl := epoch_Born.pl) Tryz.func9 rfl (by kernel_rfl) hmixed (epoch_Born.b_eq x0 x1 x2 R X w ▸ h)

/-! oubliette/oublietteref34.Why -/
def oublietteref34_Why.pl : Nat → DrawPlan
  | _ => ⟨[], .done⟩
def oublietteref34_Why.b1 (x0 : Value) (x5 : Value) (g : Nat → Value) (N1 : List Value → World → Prop) (R : KV) (X : KX) (w : World) : Prop :=
  pLenSl x0 fun t14 =>
  pBinI .lss .i64 x5 t14 fun t15 =>
  scond t15
  (pIA 1 x0 x5 fun t20 =>
    pLd (· = w) t20 fun t21 =>
    pLenSl t21 fun t22 =>
    pBinI .neq .i64 t22 (.int .i64 32) fun t23 =>
    scond t23
    (R (.int .i64 4) w)
    (pBinI .add .i64 x5 (.int .i64 1) fun t17 =>
      N1 [x0, (g 1), (g 2), (g 3), (g 4), t17, (g 6), (g 7), (g 8), (g 9), (g 10), (g 11), x5, x0, t14, t15, x5, t17, x0, x5, t20, t21, t22, t23] w))
  (R (.int .i64 0) w)
def oublietteref34_Why.I1 (e : List Value) (R : KV) (X : KX) (w : World) : Prop := atP Tryz.prog Tryz.f10 oublietteref34_Why.pl [1, 1, 0, 1, 0] [] R X e w
theorem oublietteref34_Why.I1_eq (e : List Value) (R : KV) (X : KX) (w : World) : oublietteref34_Why.I1 e R X w = loopS (fun N e w => atP Tryz.prog Tryz.f10 oublietteref34_Why.pl [1, 1, 0, 1, 0, 0] [N] R X e w) e w := by kernel_rfl
def oublietteref34_Why.fr1 (x0 : Value) (x5 : Value) (g : Nat → Value) : List Value := [x0, g 1, g 2, g 3, g 4, x5, g 6, g 7, g 8, g 9, g 10, g 11, g 12, g 13, g 14, g 15, g 16, g 17, g 18, g 19, g 20, g 21, g 22, g 23]
theorem oublietteref34_Why.b1_eq (x0 : Value) (x5 : Value) (g : Nat → Value) (N1 : List Value → World → Prop) (R : KV) (X : KX) (w : World) : atP Tryz.prog Tryz.f10 oublietteref34_Why.pl [1, 1, 0, 1, 0, 0] [N1] R X (oublietteref34_Why.fr1 x0 x5 g) w = oublietteref34_Why.b1 x0 x5 g N1 R X w := by kernel_rfl
/-- What a round of this loop hands on. -/
def oublietteref34_Why.N1 (J : Value → World → Prop) (m : Value → World → Nat) (x0 : Value) (x5 : Value) (w : World) : List Value → World → Prop := fun e w' => (∃ y5 g, e = oublietteref34_Why.fr1 x0 y5 g ∧ J y5 w') ∧ m (nth e 5) w' < m x5 w
theorem oublietteref34_Why.leaf1 {J : Value → World → Prop} {m : Value → World → Nat} {x0 : Value} {x5 : Value} {w w' : World} {e1 e2 e3 e4 e5 e6 e7 e8 e9 e10 e11 e12 e13 e14 e15 e16 e17 e18 e19 e20 e21 e22 e23 : Value} (h : J e5 w') (hm : m e5 w' < m x5 w) : oublietteref34_Why.N1 J m x0 x5 w [x0, e1, e2, e3, e4, e5, e6, e7, e8, e9, e10, e11, e12, e13, e14, e15, e16, e17, e18, e19, e20, e21, e22, e23] w' :=
  ⟨⟨e5, (fun i => nth [x0, e1, e2, e3, e4, e5, e6, e7, e8, e9, e10, e11, e12, e13, e14, e15, e16, e17, e18, e19, e20, e21, e22, e23] i), rfl, h⟩, hm⟩
theorem oublietteref34_Why.loop1 (J : Value → World → Prop) (m : Value → World → Nat) {R : KV} {X : KX} {w : World} {x0 : Value} {e1 e2 e3 e4 e5 e6 e7 e8 e9 e10 e11 e12 e13 e14 e15 e16 e17 e18 e19 e20 e21 e22 e23 : Value} (h0 : J e5 w)
    (hr : ∀ x5 g w, J x5 w → oublietteref34_Why.b1 x0 x5 g (oublietteref34_Why.N1 J m x0 x5 w) R X w) : oublietteref34_Why.I1 [x0, e1, e2, e3, e4, e5, e6, e7, e8, e9, e10, e11, e12, e13, e14, e15, e16, e17, e18, e19, e20, e21, e22, e23] R X w := by
  rw [oublietteref34_Why.I1_eq]
  refine ⟨fun e w => ∃ y5 g, e = oublietteref34_Why.fr1 x0 y5 g ∧ J y5 w, fun e w => m (nth e 5) w, ⟨e5, (fun i => nth [x0, e1, e2, e3, e4, e5, e6, e7, e8, e9, e10, e11, e12, e13, e14, e15, e16, e17, e18, e19, e20, e21, e22, e23] i), rfl, h0⟩, ?_⟩
  rintro _ w ⟨y5, g, rfl, hJ⟩
  rw [oublietteref34_Why.b1_eq]
  exact hr y5 g w hJ
def oublietteref34_Why.b (x0 : Value) (x1 : Value) (R : KV) (X : KX) (w : World) : Prop :=
  pBinI .lss .i64 x1 (.int .i64 1) fun t7 =>
  gIf t7 false (fun K => K x1) fun t9 =>
  gIf t7 false (fun K => pBinI .gtr .i64 t9 (.int .i64 4) K) fun t10 =>
  pPick t7 (.bool true) t10 fun t11 =>
  scond t11
  (R (.int .i64 2) w)
  (oublietteref34_Why.I1 [x0, x1, undef, undef, (.int .i64 0), (.int .i64 0), x1, t7, t7, t9, t10, t11, undef, undef, undef, undef, undef, undef, undef, undef, undef, undef, undef, undef] R X w)
theorem oublietteref34_Why.b_eq (x0 : Value) (x1 : Value) (R : KV) (X : KX) (w : World) : atP Tryz.prog Tryz.f10 oublietteref34_Why.pl [] [] R X ([x0, x1] ++ undefs 22) w = oublietteref34_Why.b x0 x1 R X w := by kernel_rfl
theorem oublietteref34_Why.calls {x0 x1 : Value} {R : KV} {X : KX} {w : World} (h : oublietteref34_Why.b x0 x1 R X w) : GCalls Tryz.prog 10 [x0, x1] R X w :=
  gcalls_of (pl := oublietteref34_Why.pl) Tryz.func10 rfl (by kernel_rfl) hmixed (oublietteref34_Why.b_eq x0 x1 R X w ▸ h)

/-! oubliette/oublietteref34.Same -/
def oublietteref34_Same.pl : Nat → DrawPlan
  | 6 => ⟨[([], [1]), ([0], [0, 3]), ([], [3]), ([1, 2], [1, 2, 4]), ([3], [3, 10]), ([], [6]), ([5], [5, 8]), ([], [8]), ([6, 7], [6, 7, 9]), ([8], [8, 10]), ([4, 9], [4, 9, 11]), ([10], [10])], .take 0 (.take 1 (.take 2 (.take 3 (.take 4 (.take 5 (.take 6 (.take 7 (.take 8 (.take 9 (.world 10 false (.take 11 (.done)) .none))))))))))⟩
  | _ => ⟨[], .done⟩
def oublietteref34_Same.b1 (x2 : Value) (x3 : Value) (x5 : Value) (g : Nat → Value) (N1 : List Value → World → Prop) (R : KV) (X : KX) (w : World) : Prop :=
  pFA 2 x2 fun t34 =>
  pLd (· = w) t34 fun t35 =>
  pLenSl t35 fun t36 =>
  pBinI .lss .i64 x5 t36 fun t37 =>
  scond t37
  (drawn w fun S w =>
    pFA 2 x2 fun t40 =>
    pLd S t40 fun t41 =>
    pIA 3 t41 x5 fun t43 =>
    pLdN S 3 t43 fun t44 =>
    pFA 2 x3 fun t45 =>
    pLd S t45 fun t46 =>
    pIA 3 t46 x5 fun t48 =>
    pLdN S 3 t48 fun t49 =>
    pCall Tryz.prog 31 [t44, t49] X w fun t50 w =>
    S w ∧ (pNot t50 fun t51 =>
      scond t51
      (R (.bool false) w)
      (pBinI .add .i64 x5 (.int .i64 1) fun t39 =>
        N1 [(g 0), (g 1), x2, x3, (g 4), t39, (g 6), (g 7), (g 8), (g 9), (g 10), (g 11), (g 12), (g 13), (g 14), (g 15), (g 16), (g 17), (g 18), (g 19), (g 20), (g 21), (g 22), (g 23), (g 24), (g 25), (g 26), (g 27), (g 28), (g 29), (g 30), (g 31), (g 32), x5, t34, t35, t36, t37, x5, t39, t40, t41, x5, t43, t44, t45, t46, x5, t48, t49, t50, t51] w)))
  (R (.bool true) w)
def oublietteref34_Same.I1 (e : List Value) (R : KV) (X : KX) (w : World) : Prop := atP Tryz.prog Tryz.f11 oublietteref34_Same.pl [1, 1, 0, 1, 0] [] R X e w
theorem oublietteref34_Same.I1_eq (e : List Value) (R : KV) (X : KX) (w : World) : oublietteref34_Same.I1 e R X w = loopS (fun N e w => atP Tryz.prog Tryz.f11 oublietteref34_Same.pl [1, 1, 0, 1, 0, 0] [N] R X e w) e w := by kernel_rfl
def oublietteref34_Same.fr1 (x2 : Value) (x3 : Value) (x5 : Value) (g : Nat → Value) : List Value := [g 0, g 1, x2, x3, g 4, x5, g 6, g 7, g 8, g 9, g 10, g 11, g 12, g 13, g 14, g 15, g 16, g 17, g 18, g 19, g 20, g 21, g 22, g 23, g 24, g 25, g 26, g 27, g 28, g 29, g 30, g 31, g 32, g 33, g 34, g 35, g 36, g 37, g 38, g 39, g 40, g 41, g 42, g 43, g 44, g 45, g 46, g 47, g 48, g 49, g 50, g 51]
theorem oublietteref34_Same.b1_eq (x2 : Value) (x3 : Value) (x5 : Value) (g : Nat → Value) (N1 : List Value → World → Prop) (R : KV) (X : KX) (w : World) : atP Tryz.prog Tryz.f11 oublietteref34_Same.pl [1, 1, 0, 1, 0, 0] [N1] R X (oublietteref34_Same.fr1 x2 x3 x5 g) w = oublietteref34_Same.b1 x2 x3 x5 g N1 R X w := by kernel_rfl
/-- What a round of this loop hands on. -/
def oublietteref34_Same.N1 (J : Value → World → Prop) (m : Value → World → Nat) (x2 : Value) (x3 : Value) (x5 : Value) (w : World) : List Value → World → Prop := fun e w' => (∃ y5 g, e = oublietteref34_Same.fr1 x2 x3 y5 g ∧ J y5 w') ∧ m (nth e 5) w' < m x5 w
theorem oublietteref34_Same.leaf1 {J : Value → World → Prop} {m : Value → World → Nat} {x2 : Value} {x3 : Value} {x5 : Value} {w w' : World} {e0 e1 e4 e5 e6 e7 e8 e9 e10 e11 e12 e13 e14 e15 e16 e17 e18 e19 e20 e21 e22 e23 e24 e25 e26 e27 e28 e29 e30 e31 e32 e33 e34 e35 e36 e37 e38 e39 e40 e41 e42 e43 e44 e45 e46 e47 e48 e49 e50 e51 : Value} (h : J e5 w') (hm : m e5 w' < m x5 w) : oublietteref34_Same.N1 J m x2 x3 x5 w [e0, e1, x2, x3, e4, e5, e6, e7, e8, e9, e10, e11, e12, e13, e14, e15, e16, e17, e18, e19, e20, e21, e22, e23, e24, e25, e26, e27, e28, e29, e30, e31, e32, e33, e34, e35, e36, e37, e38, e39, e40, e41, e42, e43, e44, e45, e46, e47, e48, e49, e50, e51] w' :=
  ⟨⟨e5, (fun i => nth [e0, e1, x2, x3, e4, e5, e6, e7, e8, e9, e10, e11, e12, e13, e14, e15, e16, e17, e18, e19, e20, e21, e22, e23, e24, e25, e26, e27, e28, e29, e30, e31, e32, e33, e34, e35, e36, e37, e38, e39, e40, e41, e42, e43, e44, e45, e46, e47, e48, e49, e50, e51] i), rfl, h⟩, hm⟩
theorem oublietteref34_Same.loop1 (J : Value → World → Prop) (m : Value → World → Nat) {R : KV} {X : KX} {w : World} {x2 : Value} {x3 : Value} {e0 e1 e4 e5 e6 e7 e8 e9 e10 e11 e12 e13 e14 e15 e16 e17 e18 e19 e20 e21 e22 e23 e24 e25 e26 e27 e28 e29 e30 e31 e32 e33 e34 e35 e36 e37 e38 e39 e40 e41 e42 e43 e44 e45 e46 e47 e48 e49 e50 e51 : Value} (h0 : J e5 w)
    (hr : ∀ x5 g w, J x5 w → oublietteref34_Same.b1 x2 x3 x5 g (oublietteref34_Same.N1 J m x2 x3 x5 w) R X w) : oublietteref34_Same.I1 [e0, e1, x2, x3, e4, e5, e6, e7, e8, e9, e10, e11, e12, e13, e14, e15, e16, e17, e18, e19, e20, e21, e22, e23, e24, e25, e26, e27, e28, e29, e30, e31, e32, e33, e34, e35, e36, e37, e38, e39, e40, e41, e42, e43, e44, e45, e46, e47, e48, e49, e50, e51] R X w := by
  rw [oublietteref34_Same.I1_eq]
  refine ⟨fun e w => ∃ y5 g, e = oublietteref34_Same.fr1 x2 x3 y5 g ∧ J y5 w, fun e w => m (nth e 5) w, ⟨e5, (fun i => nth [e0, e1, x2, x3, e4, e5, e6, e7, e8, e9, e10, e11, e12, e13, e14, e15, e16, e17, e18, e19, e20, e21, e22, e23, e24, e25, e26, e27, e28, e29, e30, e31, e32, e33, e34, e35, e36, e37, e38, e39, e40, e41, e42, e43, e44, e45, e46, e47, e48, e49, e50, e51] i), rfl, h0⟩, ?_⟩
  rintro _ w ⟨y5, g, rfl, hJ⟩
  rw [oublietteref34_Same.b1_eq]
  exact hr y5 g w hJ
def oublietteref34_Same.b (x0 : Value) (x1 : Value) (R : KV) (X : KX) (w : World) : Prop :=
  pBox 41 x0 w fun t2 w =>
  pBox 41 x1 w fun t3 w =>
  pFA 0 t2 fun t6 =>
  pFA 0 t6 fun t7 =>
  pLd (· = w) t7 fun t8 =>
  pFA 0 t3 fun t9 =>
  pFA 0 t9 fun t10 =>
  pLd (· = w) t10 fun t11 =>
  pCall Tryz.prog 30 [t8, t11] X w fun t12 w =>
  pNot t12 fun t13 =>
  gIf t13 false (fun K => pFA 0 t2 K) fun t15 =>
  gIf t13 false (fun K => pFA 1 t15 K) fun t16 =>
  gIf t13 false (fun K => pLd (· = w) t16 K) fun t17 =>
  gIf t13 false (fun K => pFA 0 t3 K) fun t18 =>
  gIf t13 false (fun K => pFA 1 t18 K) fun t19 =>
  gIf t13 false (fun K => pLd (· = w) t19 K) fun t20 =>
  gIfW t13 false (fun w K => pCall Tryz.prog 30 [t17, t20] X w K) w fun t21 w =>
  gIf t13 false (fun K => pNot t21 K) fun t22 =>
  pPick t13 (.bool true) t22 fun t23 =>
  gIf t23 false (fun K => pFA 2 t2 K) fun t25 =>
  gIf t23 false (fun K => pLd (· = w) t25 K) fun t26 =>
  gIf t23 false (fun K => pLenSl t26 K) fun t27 =>
  gIf t23 false (fun K => pFA 2 t3 K) fun t28 =>
  gIf t23 false (fun K => pLd (· = w) t28 K) fun t29 =>
  gIf t23 false (fun K => pLenSl t29 K) fun t30 =>
  gIf t23 false (fun K => pBinI .neq .i64 t27 t30 K) fun t31 =>
  pPick t23 (.bool true) t31 fun t32 =>
  scond t32
  (R (.bool false) w)
  (oublietteref34_Same.I1 [x0, x1, t2, t3, (.bool false), (.int .i64 0), t6, t7, t8, t9, t10, t11, t12, t13, t13, t15, t16, t17, t18, t19, t20, t21, t22, t23, t23, t25, t26, t27, t28, t29, t30, t31, t32, undef, undef, undef, undef, undef, undef, undef, undef, undef, undef, undef, undef, undef, undef, undef, undef, undef, undef, undef] R X w)
theorem oublietteref34_Same.b_eq (x0 : Value) (x1 : Value) (R : KV) (X : KX) (w : World) : atP Tryz.prog Tryz.f11 oublietteref34_Same.pl [] [] R X ([x0, x1] ++ undefs 50) w = oublietteref34_Same.b x0 x1 R X w := by kernel_rfl
theorem oublietteref34_Same.calls {x0 x1 : Value} {R : KV} {X : KX} {w : World} (h : oublietteref34_Same.b x0 x1 R X w) : GCalls Tryz.prog 11 [x0, x1] R X w :=
  gcalls_of (pl := oublietteref34_Same.pl) Tryz.func11 rfl (by kernel_rfl) hmixed (oublietteref34_Same.b_eq x0 x1 R X w ▸ h)

/-! oubliette/oubliettelaw34.Back -/
def oubliettelaw34_Back.pl : Nat → DrawPlan
  | 5 => ⟨[([], [1]), ([0], [0, 9]), ([], [3]), ([2], [2, 5]), ([], [5]), ([3, 4], [3, 4, 6]), ([5], [5, 7]), ([6], [6, 8]), ([7], [7, 9]), ([1, 8, 7], [1, 8, 11]), ([0, 1, 2, 3, 4, 5, 6, 7, 8, 9], [11]), ([10, 9, 9, 0, 1, 2, 3, 4, 5, 6, 7, 8, 9], [9, 10])], .take 0 (.take 1 (.take 2 (.take 3 (.take 4 (.take 5 (.take 6 (.world 7 false (.world 8 false (.world 9 false (.take 10 (.world 11 true (.done) .none)) .none) .none) .none)))))))⟩
  | _ => ⟨[], .done⟩
def oubliettelaw34_Back.b1 (x1 : Value) (x2 : Value) (x3 : Value) (x4 : Value) (g : Nat → Value) (N1 : List Value → World → Prop) (R : KV) (X : KX) (w : World) : Prop :=
  pFA 2 x1 fun t14 =>
  pLd (· = w) t14 fun t15 =>
  pLenSl t15 fun t16 =>
  pBinI .lss .i64 x4 t16 fun t17 =>
  scond t17
  (drawn w fun S w =>
    pFA 2 x3 fun t20 =>
    pLd S t20 fun t21 =>
    pFA 2 x1 fun t22 =>
    pLd S t22 fun t23 =>
    pIA 3 t23 x4 fun t25 =>
    pLdN S 3 t25 fun t26 =>
    pCall Tryz.prog 32 [t26] X w fun t27 w =>
    S w ∧ (pBSlice 76 1 (rowOf [.int .i64 0, .slice none 0 0, .slice none 0 0] 1) [(0, 3, t27)] w fun t28 w =>
      S w ∧ (pApp 76 3 56 [.int .i64 0, .slice none 0 0, .slice none 0 0] t21 t28 w fun t29 w =>
        S w ∧ (pFA 2 x3 fun t30 =>
          pSt t30 t29 w fun _ w =>
          anew w fun S w =>
          pBinI .add .i64 x4 (.int .i64 1) fun t19 =>
          N1 [(g 0), x1, x2, x3, t19, (g 5), (g 6), (g 7), (g 8), (g 9), (g 10), (g 11), (g 12), x4, t14, t15, t16, t17, x4, t19, t20, t21, t22, t23, x4, t25, t26, t27, t28, t29, t30, (g 31)] w))))
  (pLdN (· = w) 3 x3 fun t31 =>
    pStN 3 x2 t31 w fun _ w =>
    pLdN (· = w) 3 x2 fun r0 =>
    R r0 w)
def oubliettelaw34_Back.I1 (e : List Value) (R : KV) (X : KX) (w : World) : Prop := atP Tryz.prog Tryz.f12 oubliettelaw34_Back.pl [1, 1, 0, 1, 0] [] R X e w
theorem oubliettelaw34_Back.I1_eq (e : List Value) (R : KV) (X : KX) (w : World) : oubliettelaw34_Back.I1 e R X w = loopS (fun N e w => atP Tryz.prog Tryz.f12 oubliettelaw34_Back.pl [1, 1, 0, 1, 0, 0] [N] R X e w) e w := by kernel_rfl
def oubliettelaw34_Back.fr1 (x1 : Value) (x2 : Value) (x3 : Value) (x4 : Value) (g : Nat → Value) : List Value := [g 0, x1, x2, x3, x4, g 5, g 6, g 7, g 8, g 9, g 10, g 11, g 12, g 13, g 14, g 15, g 16, g 17, g 18, g 19, g 20, g 21, g 22, g 23, g 24, g 25, g 26, g 27, g 28, g 29, g 30, g 31]
theorem oubliettelaw34_Back.b1_eq (x1 : Value) (x2 : Value) (x3 : Value) (x4 : Value) (g : Nat → Value) (N1 : List Value → World → Prop) (R : KV) (X : KX) (w : World) : atP Tryz.prog Tryz.f12 oubliettelaw34_Back.pl [1, 1, 0, 1, 0, 0] [N1] R X (oubliettelaw34_Back.fr1 x1 x2 x3 x4 g) w = oubliettelaw34_Back.b1 x1 x2 x3 x4 g N1 R X w := by kernel_rfl
/-- What a round of this loop hands on. -/
def oubliettelaw34_Back.N1 (J : Value → World → Prop) (m : Value → World → Nat) (x1 : Value) (x2 : Value) (x3 : Value) (x4 : Value) (w : World) : List Value → World → Prop := fun e w' => (∃ y4 g, e = oubliettelaw34_Back.fr1 x1 x2 x3 y4 g ∧ J y4 w') ∧ m (nth e 4) w' < m x4 w
theorem oubliettelaw34_Back.leaf1 {J : Value → World → Prop} {m : Value → World → Nat} {x1 : Value} {x2 : Value} {x3 : Value} {x4 : Value} {w w' : World} {e0 e4 e5 e6 e7 e8 e9 e10 e11 e12 e13 e14 e15 e16 e17 e18 e19 e20 e21 e22 e23 e24 e25 e26 e27 e28 e29 e30 e31 : Value} (h : J e4 w') (hm : m e4 w' < m x4 w) : oubliettelaw34_Back.N1 J m x1 x2 x3 x4 w [e0, x1, x2, x3, e4, e5, e6, e7, e8, e9, e10, e11, e12, e13, e14, e15, e16, e17, e18, e19, e20, e21, e22, e23, e24, e25, e26, e27, e28, e29, e30, e31] w' :=
  ⟨⟨e4, (fun i => nth [e0, x1, x2, x3, e4, e5, e6, e7, e8, e9, e10, e11, e12, e13, e14, e15, e16, e17, e18, e19, e20, e21, e22, e23, e24, e25, e26, e27, e28, e29, e30, e31] i), rfl, h⟩, hm⟩
theorem oubliettelaw34_Back.loop1 (J : Value → World → Prop) (m : Value → World → Nat) {R : KV} {X : KX} {w : World} {x1 : Value} {x2 : Value} {x3 : Value} {e0 e4 e5 e6 e7 e8 e9 e10 e11 e12 e13 e14 e15 e16 e17 e18 e19 e20 e21 e22 e23 e24 e25 e26 e27 e28 e29 e30 e31 : Value} (h0 : J e4 w)
    (hr : ∀ x4 g w, J x4 w → oubliettelaw34_Back.b1 x1 x2 x3 x4 g (oubliettelaw34_Back.N1 J m x1 x2 x3 x4 w) R X w) : oubliettelaw34_Back.I1 [e0, x1, x2, x3, e4, e5, e6, e7, e8, e9, e10, e11, e12, e13, e14, e15, e16, e17, e18, e19, e20, e21, e22, e23, e24, e25, e26, e27, e28, e29, e30, e31] R X w := by
  rw [oubliettelaw34_Back.I1_eq]
  refine ⟨fun e w => ∃ y4 g, e = oubliettelaw34_Back.fr1 x1 x2 x3 y4 g ∧ J y4 w, fun e w => m (nth e 4) w, ⟨e4, (fun i => nth [e0, x1, x2, x3, e4, e5, e6, e7, e8, e9, e10, e11, e12, e13, e14, e15, e16, e17, e18, e19, e20, e21, e22, e23, e24, e25, e26, e27, e28, e29, e30, e31] i), rfl, h0⟩, ?_⟩
  rintro _ w ⟨y4, g, rfl, hJ⟩
  rw [oubliettelaw34_Back.b1_eq]
  exact hr y4 g w hJ
def oubliettelaw34_Back.b (x0 : Value) (R : KV) (X : KX) (w : World) : Prop :=
  pBox 30 x0 w fun t1 w =>
  pBox 41 (.agg #[.slice none 0 0, .slice none 0 0, .slice none 0 0]) w fun t2 w =>
  pFA 0 t1 fun t5 =>
  pFA 0 t5 fun t6 =>
  pLd (· = w) t6 fun t7 =>
  pFA 0 t1 fun t8 =>
  pFA 1 t8 fun t9 =>
  pLd (· = w) t9 fun t10 =>
  pBuild [.slice none 0 0, .slice none 0 0] [(0, 1, t7), (1, 1, t10)] fun t11 =>
  pBuild [.slice none 0 0, .slice none 0 0, .slice none 0 0] [(0, 2, t11)] fun t12 =>
  pBox 41 (.agg #[.slice none 0 0, .slice none 0 0, .slice none 0 0]) w fun t3 w =>
  pStN 3 t3 t12 w fun _ w =>
  oubliettelaw34_Back.I1 [x0, t1, t2, t3, (.int .i64 0), t5, t6, t7, t8, t9, t10, t11, t12, undef, undef, undef, undef, undef, undef, undef, undef, undef, undef, undef, undef, undef, undef, undef, undef, undef, undef, undef] R X w
theorem oubliettelaw34_Back.b_eq (x0 : Value) (R : KV) (X : KX) (w : World) : atP Tryz.prog Tryz.f12 oubliettelaw34_Back.pl [] [] R X ([x0] ++ undefs 31) w = oubliettelaw34_Back.b x0 R X w := by kernel_rfl
theorem oubliettelaw34_Back.calls {x0 : Value} {R : KV} {X : KX} {w : World} (h : oubliettelaw34_Back.b x0 R X w) : GCalls Tryz.prog 12 [x0] R X w :=
  gcalls_of (pl := oubliettelaw34_Back.pl) Tryz.func12 rfl (by kernel_rfl) hmixed (oubliettelaw34_Back.b_eq x0 R X w ▸ h)

/-! oubliette/oublietteref34.First -/
def oublietteref34_First.pl : Nat → DrawPlan
  | _ => ⟨[], .done⟩
def oublietteref34_First.b (x0 : Value) (x1 : Value) (R : KV) (X : KX) (w : World) : Prop :=
  pBox 41 (.agg #[.slice none 0 0, .slice none 0 0, .slice none 0 0]) w fun t4 w =>
  pCall Tryz.prog 33 [x0, (.string ⟨#[106, 111, 105, 110]⟩)] X w fun t6 w =>
  pCall Tryz.prog 14 [t6, x1] X w fun t8 w =>
  pStN 3 t4 t8 w fun _ w =>
  pLdN (· = w) 3 t4 fun r0 =>
  R r0 w
theorem oublietteref34_First.b_eq (x0 : Value) (x1 : Value) (R : KV) (X : KX) (w : World) : atP Tryz.prog Tryz.f13 oublietteref34_First.pl [] [] R X ([x0, x1] ++ undefs 7) w = oublietteref34_First.b x0 x1 R X w := by kernel_rfl
theorem oublietteref34_First.calls {x0 x1 : Value} {R : KV} {X : KX} {w : World} (h : oublietteref34_First.b x0 x1 R X w) : GCalls Tryz.prog 13 [x0, x1] R X w :=
  gcalls_of (pl := oublietteref34_First.pl) Tryz.func13 rfl (by kernel_rfl) hmixed (oublietteref34_First.b_eq x0 x1 R X w ▸ h)

/-! oubliette/oublietteref34.Born -/
def oublietteref34_Born.pl : Nat → DrawPlan
  | 5 => ⟨[([], [1]), ([0], [0, 9]), ([], [6]), ([], [4]), ([3], [3, 5]), ([4], [4, 6]), ([2, 5, 4], [2, 5, 7]), ([6], [6, 8]), ([7], [7, 9]), ([1, 8, 6], [1, 8, 11]), ([0, 1, 2, 3, 4, 5, 6, 7, 8, 9], [11]), ([10, 9, 9, 0, 1, 2, 3, 4, 5, 6, 7, 8, 9], [9, 10])], .take 0 (.take 1 (.take 2 (.take 3 (.world 4 false (.take 5 (.world 6 false (.take 7 (.world 8 false (.world 9 true (.take 10 (.world 11 true (.done) .none)) .none) .none)) .none)) .none))))⟩
  | _ => ⟨[], .done⟩
def oublietteref34_Born.b1 (x0 : Value) (x1 : Value) (x4 : Value) (x5 : Value) (x6 : Value) (g : Nat → Value) (N1 : List Value → World → Prop) (R : KV) (X : KX) (w : World) : Prop :=
  pBinI .lss .i64 x6 x1 fun t15 =>
  scond t15
  (drawn w fun S w =>
    pFA 2 x5 fun t18 =>
    pLd S t18 fun t19 =>
    pCall Tryz.prog 34 [x6] X w fun t22 w =>
    S w ∧ (pBinS .add (.string ⟨#[115, 101, 110, 100, 101, 114, 32]⟩) t22 fun t23 =>
      pCall Tryz.prog 33 [x0, t23] X w fun t24 w =>
      S w ∧ (pBuild [.int .i64 0, .slice none 0 0, .slice none 0 0] [(1, 1, t24)] fun t25 =>
        pBSlice 76 1 (rowOf [.int .i64 0, .slice none 0 0, .slice none 0 0] 1) [(0, 3, t25)] w fun t26 w =>
        S w ∧ (pApp 76 3 56 [.int .i64 0, .slice none 0 0, .slice none 0 0] t19 t26 w fun t27 w =>
          anew w fun S w =>
          pFA 2 x5 fun t28 =>
          pSt t28 t27 w fun _ w =>
          anew w fun S w =>
          pBinI .add .i64 x6 (.int .i64 1) fun t17 =>
          N1 [x0, x1, (g 2), (g 3), x4, x5, t17, (g 7), (g 8), (g 9), (g 10), (g 11), (g 12), x6, x1, t15, x6, t17, t18, t19, x0, x6, t22, t23, t24, t25, t26, t27, t28, (g 29)] w))))
  (pLdN (· = w) 3 x5 fun t29 =>
    pStN 3 x4 t29 w fun _ w =>
    pLdN (· = w) 3 x4 fun r0 =>
    R r0 w)
def oublietteref34_Born.I1 (e : List Value) (R : KV) (X : KX) (w : World) : Prop := atP Tryz.prog Tryz.f14 oublietteref34_Born.pl [1, 1, 0, 1, 0] [] R X e w
theorem oublietteref34_Born.I1_eq (e : List Value) (R : KV) (X : KX) (w : World) : oublietteref34_Born.I1 e R X w = loopS (fun N e w => atP Tryz.prog Tryz.f14 oublietteref34_Born.pl [1, 1, 0, 1, 0, 0] [N] R X e w) e w := by kernel_rfl
def oublietteref34_Born.fr1 (x0 : Value) (x1 : Value) (x4 : Value) (x5 : Value) (x6 : Value) (g : Nat → Value) : List Value := [x0, x1, g 2, g 3, x4, x5, x6, g 7, g 8, g 9, g 10, g 11, g 12, g 13, g 14, g 15, g 16, g 17, g 18, g 19, g 20, g 21, g 22, g 23, g 24, g 25, g 26, g 27, g 28, g 29]
theorem oublietteref34_Born.b1_eq (x0 : Value) (x1 : Value) (x4 : Value) (x5 : Value) (x6 : Value) (g : Nat → Value) (N1 : List Value → World → Prop) (R : KV) (X : KX) (w : World) : atP Tryz.prog Tryz.f14 oublietteref34_Born.pl [1, 1, 0, 1, 0, 0] [N1] R X (oublietteref34_Born.fr1 x0 x1 x4 x5 x6 g) w = oublietteref34_Born.b1 x0 x1 x4 x5 x6 g N1 R X w := by kernel_rfl
/-- What a round of this loop hands on. -/
def oublietteref34_Born.N1 (J : Value → World → Prop) (m : Value → World → Nat) (x0 : Value) (x1 : Value) (x4 : Value) (x5 : Value) (x6 : Value) (w : World) : List Value → World → Prop := fun e w' => (∃ y6 g, e = oublietteref34_Born.fr1 x0 x1 x4 x5 y6 g ∧ J y6 w') ∧ m (nth e 6) w' < m x6 w
theorem oublietteref34_Born.leaf1 {J : Value → World → Prop} {m : Value → World → Nat} {x0 : Value} {x1 : Value} {x4 : Value} {x5 : Value} {x6 : Value} {w w' : World} {e2 e3 e6 e7 e8 e9 e10 e11 e12 e13 e14 e15 e16 e17 e18 e19 e20 e21 e22 e23 e24 e25 e26 e27 e28 e29 : Value} (h : J e6 w') (hm : m e6 w' < m x6 w) : oublietteref34_Born.N1 J m x0 x1 x4 x5 x6 w [x0, x1, e2, e3, x4, x5, e6, e7, e8, e9, e10, e11, e12, e13, e14, e15, e16, e17, e18, e19, e20, e21, e22, e23, e24, e25, e26, e27, e28, e29] w' :=
  ⟨⟨e6, (fun i => nth [x0, x1, e2, e3, x4, x5, e6, e7, e8, e9, e10, e11, e12, e13, e14, e15, e16, e17, e18, e19, e20, e21, e22, e23, e24, e25, e26, e27, e28, e29] i), rfl, h⟩, hm⟩
theorem oublietteref34_Born.loop1 (J : Value → World → Prop) (m : Value → World → Nat) {R : KV} {X : KX} {w : World} {x0 : Value} {x1 : Value} {x4 : Value} {x5 : Value} {e2 e3 e6 e7 e8 e9 e10 e11 e12 e13 e14 e15 e16 e17 e18 e19 e20 e21 e22 e23 e24 e25 e26 e27 e28 e29 : Value} (h0 : J e6 w)
    (hr : ∀ x6 g w, J x6 w → oublietteref34_Born.b1 x0 x1 x4 x5 x6 g (oublietteref34_Born.N1 J m x0 x1 x4 x5 x6 w) R X w) : oublietteref34_Born.I1 [x0, x1, e2, e3, x4, x5, e6, e7, e8, e9, e10, e11, e12, e13, e14, e15, e16, e17, e18, e19, e20, e21, e22, e23, e24, e25, e26, e27, e28, e29] R X w := by
  rw [oublietteref34_Born.I1_eq]
  refine ⟨fun e w => ∃ y6 g, e = oublietteref34_Born.fr1 x0 x1 x4 x5 y6 g ∧ J y6 w, fun e w => m (nth e 6) w, ⟨e6, (fun i => nth [x0, x1, e2, e3, x4, x5, e6, e7, e8, e9, e10, e11, e12, e13, e14, e15, e16, e17, e18, e19, e20, e21, e22, e23, e24, e25, e26, e27, e28, e29] i), rfl, h0⟩, ?_⟩
  rintro _ w ⟨y6, g, rfl, hJ⟩
  rw [oublietteref34_Born.b1_eq]
  exact hr y6 g w hJ
def oublietteref34_Born.b (x0 : Value) (x1 : Value) (R : KV) (X : KX) (w : World) : Prop :=
  pBox 41 (.agg #[.slice none 0 0, .slice none 0 0, .slice none 0 0]) w fun t4 w =>
  pCall Tryz.prog 33 [x0, (.string ⟨#[101, 120, 112, 111, 114, 116]⟩)] X w fun t8 w =>
  pCall Tryz.prog 33 [x0, (.string ⟨#[105, 110, 105, 116]⟩)] X w fun t10 w =>
  pBuild [.slice none 0 0, .slice none 0 0] [(0, 1, t8), (1, 1, t10)] fun t11 =>
  pBuild [.slice none 0 0, .slice none 0 0, .slice none 0 0] [(0, 2, t11)] fun t12 =>
  pBox 41 (.agg #[.slice none 0 0, .slice none 0 0, .slice none 0 0]) w fun t5 w =>
  pStN 3 t5 t12 w fun _ w =>
  oublietteref34_Born.I1 [x0, x1, undef, undef, t4, t5, (.int .i64 0), x0, t8, x0, t10, t11, t12, undef, undef, undef, undef, undef, undef, undef, undef, undef, undef, undef, undef, undef, undef, undef, undef, undef] R X w
theorem oublietteref34_Born.b_eq (x0 : Value) (x1 : Value) (R : KV) (X : KX) (w : World) : atP Tryz.prog Tryz.f14 oublietteref34_Born.pl [] [] R X ([x0, x1] ++ undefs 28) w = oublietteref34_Born.b x0 x1 R X w := by kernel_rfl
theorem oublietteref34_Born.calls {x0 x1 : Value} {R : KV} {X : KX} {w : World} (h : oublietteref34_Born.b x0 x1 R X w) : GCalls Tryz.prog 14 [x0, x1] R X w :=
  gcalls_of (pl := oublietteref34_Born.pl) Tryz.func14 rfl (by kernel_rfl) hmixed (oublietteref34_Born.b_eq x0 x1 R X w ▸ h)

/-! oubliette/oublietteref34.Next -/
def oublietteref34_Next.pl : Nat → DrawPlan
  | _ => ⟨[], .done⟩
def oublietteref34_Next.b (x0 : Value) (x1 : Value) (x2 : Value) (R : KV) (X : KX) (w : World) : Prop :=
  pBox 41 (.agg #[.slice none 0 0, .slice none 0 0, .slice none 0 0]) w fun t6 w =>
  pCall Tryz.prog 35 [x0, x1] X w fun t9 w =>
  pCall Tryz.prog 33 [t9, (.string ⟨#[106, 111, 105, 110]⟩)] X w fun t10 w =>
  pCall Tryz.prog 14 [t10, x2] X w fun t12 w =>
  pStN 3 t6 t12 w fun _ w =>
  pLdN (· = w) 3 t6 fun r0 =>
  R r0 w
theorem oublietteref34_Next.b_eq (x0 : Value) (x1 : Value) (x2 : Value) (R : KV) (X : KX) (w : World) : atP Tryz.prog Tryz.f15 oublietteref34_Next.pl [] [] R X ([x0, x1, x2] ++ undefs 10) w = oublietteref34_Next.b x0 x1 x2 R X w := by kernel_rfl
theorem oublietteref34_Next.calls {x0 x1 x2 : Value} {R : KV} {X : KX} {w : World} (h : oublietteref34_Next.b x0 x1 x2 R X w) : GCalls Tryz.prog 15 [x0, x1, x2] R X w :=
  gcalls_of (pl := oublietteref34_Next.pl) Tryz.func15 rfl (by kernel_rfl) hmixed (oublietteref34_Next.b_eq x0 x1 x2 R X w ▸ h)

/-! oubliette/epoch.Label -/
def epoch_Label.pl : Nat → DrawPlan
  | _ => ⟨[], .done⟩
def epoch_Label.b (x0 : Value) (R : KV) (X : KX) (w : World) : Prop :=
  pCall Tryz.prog 49 [x0] X w fun t4 w =>
  pBinS .add (.string ⟨#[115, 101, 110, 100, 101, 114, 32]⟩) t4 fun t5 =>
  R t5 w
theorem epoch_Label.b_eq (x0 : Value) (R : KV) (X : KX) (w : World) : atP Tryz.prog Tryz.f23 epoch_Label.pl [] [] R X ([x0] ++ undefs 5) w = epoch_Label.b x0 R X w := by kernel_rfl
theorem epoch_Label.calls {x0 : Value} {R : KV} {X : KX} {w : World} (h : epoch_Label.b x0 R X w) : GCalls Tryz.prog 23 [x0] R X w :=
  gcalls_of (pl := epoch_Label.pl) Tryz.func23 rfl (by kernel_rfl) hmixed (epoch_Label.b_eq x0 R X w ▸ h)

/-! oubliette/epoch.why -/
def epoch_why.pl : Nat → DrawPlan
  | _ => ⟨[], .done⟩
def epoch_why.b (x0 : Value) (x1 : Value) (x2 : Value) (R : KV) (X : KX) (w : World) : Prop :=
  pEq .ptr false x0 (.pointer none) fun t10 =>
  scond t10
  (R (.int .i64 1) w)
  (pBinI .lss .i64 x1 (.int .i64 1) fun t13 =>
    gIf t13 false (fun K => K x1) fun t15 =>
    gIf t13 false (fun K => pBinI .gtr .i64 t15 (.int .i64 4) K) fun t16 =>
    pPick t13 (.bool true) t16 fun t17 =>
    scond t17
    (R (.int .i64 2) w)
    (pCall Tryz.prog 52 [x2, (.func (.func 51) #[] #[])] X w fun t21 w =>
      scond t21
      (R (.int .i64 4) w)
      (R (.int .i64 0) w)))
theorem epoch_why.b_eq (x0 : Value) (x1 : Value) (x2 : Value) (R : KV) (X : KX) (w : World) : atP Tryz.prog Tryz.f25 epoch_why.pl [] [] R X ([x0, x1, x2] ++ undefs 19) w = epoch_why.b x0 x1 x2 R X w := by kernel_rfl
theorem epoch_why.calls {x0 x1 x2 : Value} {R : KV} {X : KX} {w : World} (h : epoch_why.b x0 x1 x2 R X w) : GCalls Tryz.prog 25 [x0, x1, x2] R X w :=
  gcalls_of (pl := epoch_why.pl) Tryz.func25 rfl (by kernel_rfl) hmixed (epoch_why.b_eq x0 x1 x2 R X w ▸ h)

/-! (*oubliette/suite.Suite).Derive -/
def suite_Suite_Derive.pl : Nat → DrawPlan
  | 5 => ⟨[([], [1]), ([0], [0, 2]), ([1], [1, 3]), ([2], [2, 4]), ([3], [3, 9]), ([], [7]), ([], [7]), ([5, 6], [5, 6, 9]), ([], [9]), ([4, 7, 8, 7], [4, 7, 8, 10]), ([9, 9], [9, 11]), ([10, 10, 0, 1, 2, 3, 4, 5, 6, 7, 8, 9, 10], [10])], .take 0 (.take 1 (.take 2 (.take 3 (.take 4 (.take 5 (.take 6 (.take 8 (.world 7 false (.world 9 true (.world 10 false (.take 11 (.done)) .none) .none) .none))))))))⟩
  | _ => ⟨[], .done⟩
def suite_Suite_Derive.b (x0 : Value) (x1 : Value) (x2 : Value) (R : KV) (X : KX) (w : World) : Prop :=
  pCall Tryz.prog 37 [x0] X w fun t9 w =>
  scond t9
  (R (.slice none 0 0) w)
  (pCall Tryz.prog 38 [x0] X w fun t12 w =>
    scond t12
    (pCall Tryz.prog 53 [x1, x2] X w fun t15 w =>
      R t15 w)
    (drawn w fun S w =>
      pNil x0 fun t17 =>
      pFA 0 t17 fun t18 =>
      pFA 0 t18 fun t19 =>
      pLd S t19 fun t20 =>
      pCall Tryz.prog 55 [x0, x1] X w fun t23 w =>
      S w ∧ (pCall Tryz.prog 54 [t20, t23, x2] X w fun t25 w =>
        anew w fun S w =>
        pCall Tryz.prog 40 [t25] X w fun t26 w =>
        S w ∧ (R t26 w))))
theorem suite_Suite_Derive.b_eq (x0 : Value) (x1 : Value) (x2 : Value) (R : KV) (X : KX) (w : World) : atP Tryz.prog Tryz.f26 suite_Suite_Derive.pl [] [] R X ([x0, x1, x2] ++ undefs 24) w = suite_Suite_Derive.b x0 x1 x2 R X w := by kernel_rfl
theorem suite_Suite_Derive.calls {x0 x1 x2 : Value} {R : KV} {X : KX} {w : World} (h : suite_Suite_Derive.b x0 x1 x2 R X w) : GCalls Tryz.prog 26 [x0, x1, x2] R X w :=
  gcalls_of (pl := suite_Suite_Derive.pl) Tryz.func26 rfl (by kernel_rfl) hmixed (suite_Suite_Derive.b_eq x0 x1 x2 R X w ▸ h)

/-! (*oubliette/suite.Suite).Mix -/
def suite_Suite_Mix.pl : Nat → DrawPlan
  | 6 => ⟨[([], [1]), ([0], [0, 2]), ([1], [1, 3]), ([2], [2, 4]), ([3], [3, 9]), ([], [9]), ([], [8]), ([], [8]), ([6, 7], [6, 7, 9]), ([4, 5, 8, 8], [4, 5, 8, 10]), ([9, 9], [9, 11]), ([10, 10, 0, 1, 2, 3, 4, 5, 6, 7, 8, 9, 10], [10])], .take 0 (.take 1 (.take 2 (.take 3 (.take 4 (.take 5 (.take 6 (.take 7 (.world 8 false (.world 9 true (.world 10 false (.take 11 (.done)) .none) .none) .none))))))))⟩
  | _ => ⟨[], .done⟩
def suite_Suite_Mix.b (x0 : Value) (x1 : Value) (x2 : Value) (R : KV) (X : KX) (w : World) : Prop :=
  pCall Tryz.prog 37 [x0] X w fun t10 w =>
  scond t10
  (R (.slice none 0 0) w)
  (pCall Tryz.prog 38 [x0] X w fun t13 w =>
    scond t13
    (pCall Tryz.prog 56 [x1, x2] X w fun t16 w =>
      R t16 w)
    (pCall Tryz.prog 55 [x0, x1] X w fun t19 w =>
      drawn w fun S w =>
      pNil x0 fun t21 =>
      pFA 0 t21 fun t22 =>
      pFA 0 t22 fun t23 =>
      pLd S t23 fun t24 =>
      pCall Tryz.prog 55 [x0, x2] X w fun t28 w =>
      S w ∧ (pCall Tryz.prog 57 [t24, t19, t28] X w fun t29 w =>
        anew w fun S w =>
        pCall Tryz.prog 40 [t29] X w fun t30 w =>
        S w ∧ (R t30 w))))
theorem suite_Suite_Mix.b_eq (x0 : Value) (x1 : Value) (x2 : Value) (R : KV) (X : KX) (w : World) : atP Tryz.prog Tryz.f27 suite_Suite_Mix.pl [] [] R X ([x0, x1, x2] ++ undefs 28) w = suite_Suite_Mix.b x0 x1 x2 R X w := by kernel_rfl
theorem suite_Suite_Mix.calls {x0 x1 x2 : Value} {R : KV} {X : KX} {w : World} (h : suite_Suite_Mix.b x0 x1 x2 R X w) : GCalls Tryz.prog 27 [x0, x1, x2] R X w :=
  gcalls_of (pl := suite_Suite_Mix.pl) Tryz.func27 rfl (by kernel_rfl) hmixed (suite_Suite_Mix.b_eq x0 x1 x2 R X w ▸ h)

/-! oubliette/epoch.Born$1 -/
def epoch_Born_c1.pl : Nat → DrawPlan
  | _ => ⟨[], .done⟩
def epoch_Born_c1.b (x0 : Value) (x1 : Value) (x2 : Value) (R : KV) (X : KX) (w : World) : Prop :=
  pLd (· = w) x1 fun t5 =>
  pLd (· = w) x2 fun t6 =>
  pCall Tryz.prog 26 [t5, t6, x0] X w fun t8 w =>
  R t8 w
theorem epoch_Born_c1.b_eq (x0 : Value) (x1 : Value) (x2 : Value) (R : KV) (X : KX) (w : World) : atP Tryz.prog Tryz.f28 epoch_Born_c1.pl [] [] R X ([x0, x1, x2] ++ undefs 6) w = epoch_Born_c1.b x0 x1 x2 R X w := by kernel_rfl
theorem epoch_Born_c1.calls {x0 x1 x2 : Value} {R : KV} {X : KX} {w : World} (h : epoch_Born_c1.b x0 x1 x2 R X w) : GCalls Tryz.prog 28 [x0, x1, x2] R X w :=
  gcalls_of (pl := epoch_Born_c1.pl) Tryz.func28 rfl (by kernel_rfl) hmixed (epoch_Born_c1.b_eq x0 x1 x2 R X w ▸ h)

/-! oubliette/ratchet.Start -/
def ratchet_Start.pl : Nat → DrawPlan
  | _ => ⟨[], .done⟩
def ratchet_Start.b (x0 : Value) (R : KV) (X : KX) (w : World) : Prop :=
  pBox 50 (.agg #[.int .i64 0, .slice none 0 0, .slice none 0 0]) w fun t2 w =>
  pCall Tryz.prog 50 [x0] X w fun t4 w =>
  pBuild [.int .i64 0, .slice none 0 0, .slice none 0 0] [(1, 1, t4)] fun t5 =>
  pStN 3 t2 t5 w fun _ w =>
  pLdN (· = w) 3 t2 fun r0 =>
  R r0 w
theorem ratchet_Start.b_eq (x0 : Value) (R : KV) (X : KX) (w : World) : atP Tryz.prog Tryz.f29 ratchet_Start.pl [] [] R X ([x0] ++ undefs 5) w = ratchet_Start.b x0 R X w := by kernel_rfl
theorem ratchet_Start.calls {x0 : Value} {R : KV} {X : KX} {w : World} (h : ratchet_Start.b x0 R X w) : GCalls Tryz.prog 29 [x0] R X w :=
  gcalls_of (pl := ratchet_Start.pl) Tryz.func29 rfl (by kernel_rfl) hmixed (ratchet_Start.b_eq x0 R X w ▸ h)

/-! oubliette/oublietteref22.SameChain -/
def oublietteref22_SameChain.pl : Nat → DrawPlan
  | 6 => ⟨[([], [1]), ([0], [0, 3]), ([], [3]), ([1, 2], [1, 2, 4]), ([3], [3, 5]), ([4], [4, 12]), ([], [7]), ([6], [6, 9]), ([], [9]), ([7, 8], [7, 8, 10]), ([9], [9, 11]), ([10], [10, 12]), ([5, 11], [5, 11, 13]), ([12], [12, 14, 15, 16, 17, 18, 19, 20, 21, 22, 23, 24, 25, 26, 27, 28]), ([13], [13, 15]), ([14, 13], [13, 14, 17]), ([13], [13, 17]), ([15, 16, 13], [13, 15, 16, 18]), ([17, 13], [13, 17, 19]), ([18, 13], [13, 18, 26]), ([13], [13, 21]), ([20, 13], [13, 20, 23]), ([13], [13, 23]), ([21, 22, 13], [13, 21, 22, 24]), ([23, 13], [13, 23, 25]), ([24, 13], [13, 24, 26]), ([19, 25, 13, 13], [13, 19, 25, 27]), ([26, 13], [13, 26, 28]), ([13, 27], [13, 27])], .take 0 (.take 1 (.take 2 (.take 3 (.take 4 (.take 5 (.take 6 (.take 7 (.take 8 (.take 9 (.take 10 (.take 11 (.take 12 (.take 13 (.take 14 (.take 15 (.take 16 (.take 17 (.take 18 (.take 19 (.take 20 (.take 21 (.take 22 (.take 23 (.take 24 (.take 25 (.world 26 false (.take 27 (.take 28 (.done))) .none))))))))))))))))))))))))))⟩
  | _ => ⟨[], .done⟩
def oublietteref22_SameChain.b1 (x2 : Value) (x3 : Value) (x5 : Value) (g : Nat → Value) (N1 : List Value → World → Prop) (R : KV) (X : KX) (w : World) : Prop :=
  pFA 2 x2 fun t29 =>
  pLd (· = w) t29 fun t30 =>
  pLenSl t30 fun t31 =>
  pBinI .lss .i64 x5 t31 fun t32 =>
  scond t32
  (drawn w fun S w =>
    pFA 2 x2 fun t35 =>
    pLd S t35 fun t36 =>
    pIA 2 t36 x5 fun t38 =>
    pFA 0 t38 fun t39 =>
    pLd S t39 fun t40 =>
    pFA 2 x3 fun t41 =>
    pLd S t41 fun t42 =>
    pIA 2 t42 x5 fun t44 =>
    pFA 0 t44 fun t45 =>
    pLd S t45 fun t46 =>
    pBinI .neq .i64 t40 t46 fun t47 =>
    gIf t47 false (fun K => pFA 2 x2 K) fun t49 =>
    gIf t47 false (fun K => pLd S t49 K) fun t50 =>
    gIf t47 false (fun K => K x5) fun t51 =>
    gIf t47 false (fun K => pIA 2 t50 t51 K) fun t52 =>
    gIf t47 false (fun K => pFA 1 t52 K) fun t53 =>
    gIf t47 false (fun K => pLd S t53 K) fun t54 =>
    gIf t47 false (fun K => pFA 2 x3 K) fun t55 =>
    gIf t47 false (fun K => pLd S t55 K) fun t56 =>
    gIf t47 false (fun K => K x5) fun t57 =>
    gIf t47 false (fun K => pIA 2 t56 t57 K) fun t58 =>
    gIf t47 false (fun K => pFA 1 t58 K) fun t59 =>
    gIf t47 false (fun K => pLd S t59 K) fun t60 =>
    gIfW t47 false (fun w K => pCall Tryz.prog 30 [t54, t60] X w K) w fun t61 w =>
    S w ∧ (gIf t47 false (fun K => pNot t61 K) fun t62 =>
      pPick t47 (.bool true) t62 fun t63 =>
      scond t63
      (R (.bool false) w)
      (pBinI .add .i64 x5 (.int .i64 1) fun t34 =>
        N1 [(g 0), (g 1), x2, x3, (g 4), t34, (g 6), (g 7), (g 8), (g 9), (g 10), (g 11), (g 12), (g 13), (g 14), (g 15), (g 16), (g 17), (g 18), (g 19), (g 20), (g 21), (g 22), (g 23), (g 24), (g 25), (g 26), (g 27), x5, t29, t30, t31, t32, x5, t34, t35, t36, x5, t38, t39, t40, t41, t42, x5, t44, t45, t46, t47, t47, t49, t50, t51, t52, t53, t54, t55, t56, t57, t58, t59, t60, t61, t62, t63] w)))
  (R (.bool true) w)
def oublietteref22_SameChain.I1 (e : List Value) (R : KV) (X : KX) (w : World) : Prop := atP Tryz.prog Tryz.f31 oublietteref22_SameChain.pl [1, 1, 0, 1, 0] [] R X e w
theorem oublietteref22_SameChain.I1_eq (e : List Value) (R : KV) (X : KX) (w : World) : oublietteref22_SameChain.I1 e R X w = loopS (fun N e w => atP Tryz.prog Tryz.f31 oublietteref22_SameChain.pl [1, 1, 0, 1, 0, 0] [N] R X e w) e w := by kernel_rfl
def oublietteref22_SameChain.fr1 (x2 : Value) (x3 : Value) (x5 : Value) (g : Nat → Value) : List Value := [g 0, g 1, x2, x3, g 4, x5, g 6, g 7, g 8, g 9, g 10, g 11, g 12, g 13, g 14, g 15, g 16, g 17, g 18, g 19, g 20, g 21, g 22, g 23, g 24, g 25, g 26, g 27, g 28, g 29, g 30, g 31, g 32, g 33, g 34, g 35, g 36, g 37, g 38, g 39, g 40, g 41, g 42, g 43, g 44, g 45, g 46, g 47, g 48, g 49, g 50, g 51, g 52, g 53, g 54, g 55, g 56, g 57, g 58, g 59, g 60, g 61, g 62, g 63]
theorem oublietteref22_SameChain.b1_eq (x2 : Value) (x3 : Value) (x5 : Value) (g : Nat → Value) (N1 : List Value → World → Prop) (R : KV) (X : KX) (w : World) : atP Tryz.prog Tryz.f31 oublietteref22_SameChain.pl [1, 1, 0, 1, 0, 0] [N1] R X (oublietteref22_SameChain.fr1 x2 x3 x5 g) w = oublietteref22_SameChain.b1 x2 x3 x5 g N1 R X w := by kernel_rfl
/-- What a round of this loop hands on. -/
def oublietteref22_SameChain.N1 (J : Value → World → Prop) (m : Value → World → Nat) (x2 : Value) (x3 : Value) (x5 : Value) (w : World) : List Value → World → Prop := fun e w' => (∃ y5 g, e = oublietteref22_SameChain.fr1 x2 x3 y5 g ∧ J y5 w') ∧ m (nth e 5) w' < m x5 w
theorem oublietteref22_SameChain.leaf1 {J : Value → World → Prop} {m : Value → World → Nat} {x2 : Value} {x3 : Value} {x5 : Value} {w w' : World} {e0 e1 e4 e5 e6 e7 e8 e9 e10 e11 e12 e13 e14 e15 e16 e17 e18 e19 e20 e21 e22 e23 e24 e25 e26 e27 e28 e29 e30 e31 e32 e33 e34 e35 e36 e37 e38 e39 e40 e41 e42 e43 e44 e45 e46 e47 e48 e49 e50 e51 e52 e53 e54 e55 e56 e57 e58 e59 e60 e61 e62 e63 : Value} (h : J e5 w') (hm : m e5 w' < m x5 w) : oublietteref22_SameChain.N1 J m x2 x3 x5 w [e0, e1, x2, x3, e4, e5, e6, e7, e8, e9, e10, e11, e12, e13, e14, e15, e16, e17, e18, e19, e20, e21, e22, e23, e24, e25, e26, e27, e28, e29, e30, e31, e32, e33, e34, e35, e36, e37, e38, e39, e40, e41, e42, e43, e44, e45, e46, e47, e48, e49, e50, e51, e52, e53, e54, e55, e56, e57, e58, e59, e60, e61, e62, e63] w' :=
  ⟨⟨e5, (fun i => nth [e0, e1, x2, x3, e4, e5, e6, e7, e8, e9, e10, e11, e12, e13, e14, e15, e16, e17, e18, e19, e20, e21, e22, e23, e24, e25, e26, e27, e28, e29, e30, e31, e32, e33, e34, e35, e36, e37, e38, e39, e40, e41, e42, e43, e44, e45, e46, e47, e48, e49, e50, e51, e52, e53, e54, e55, e56, e57, e58, e59, e60, e61, e62, e63] i), rfl, h⟩, hm⟩
theorem oublietteref22_SameChain.loop1 (J : Value → World → Prop) (m : Value → World → Nat) {R : KV} {X : KX} {w : World} {x2 : Value} {x3 : Value} {e0 e1 e4 e5 e6 e7 e8 e9 e10 e11 e12 e13 e14 e15 e16 e17 e18 e19 e20 e21 e22 e23 e24 e25 e26 e27 e28 e29 e30 e31 e32 e33 e34 e35 e36 e37 e38 e39 e40 e41 e42 e43 e44 e45 e46 e47 e48 e49 e50 e51 e52 e53 e54 e55 e56 e57 e58 e59 e60 e61 e62 e63 : Value} (h0 : J e5 w)
    (hr : ∀ x5 g w, J x5 w → oublietteref22_SameChain.b1 x2 x3 x5 g (oublietteref22_SameChain.N1 J m x2 x3 x5 w) R X w) : oublietteref22_SameChain.I1 [e0, e1, x2, x3, e4, e5, e6, e7, e8, e9, e10, e11, e12, e13, e14, e15, e16, e17, e18, e19, e20, e21, e22, e23, e24, e25, e26, e27, e28, e29, e30, e31, e32, e33, e34, e35, e36, e37, e38, e39, e40, e41, e42, e43, e44, e45, e46, e47, e48, e49, e50, e51, e52, e53, e54, e55, e56, e57, e58, e59, e60, e61, e62, e63] R X w := by
  rw [oublietteref22_SameChain.I1_eq]
  refine ⟨fun e w => ∃ y5 g, e = oublietteref22_SameChain.fr1 x2 x3 y5 g ∧ J y5 w, fun e w => m (nth e 5) w, ⟨e5, (fun i => nth [e0, e1, x2, x3, e4, e5, e6, e7, e8, e9, e10, e11, e12, e13, e14, e15, e16, e17, e18, e19, e20, e21, e22, e23, e24, e25, e26, e27, e28, e29, e30, e31, e32, e33, e34, e35, e36, e37, e38, e39, e40, e41, e42, e43, e44, e45, e46, e47, e48, e49, e50, e51, e52, e53, e54, e55, e56, e57, e58, e59, e60, e61, e62, e63] i), rfl, h0⟩, ?_⟩
  rintro _ w ⟨y5, g, rfl, hJ⟩
  rw [oublietteref22_SameChain.b1_eq]
  exact hr y5 g w hJ
def oublietteref22_SameChain.b (x0 : Value) (x1 : Value) (R : KV) (X : KX) (w : World) : Prop :=
  pBox 76 x0 w fun t2 w =>
  pBox 76 x1 w fun t3 w =>
  pFA 0 t2 fun t6 =>
  pLd (· = w) t6 fun t7 =>
  pFA 0 t3 fun t8 =>
  pLd (· = w) t8 fun t9 =>
  pBinI .neq .i64 t7 t9 fun t10 =>
  gIf t10 false (fun K => pFA 1 t2 K) fun t12 =>
  gIf t10 false (fun K => pLd (· = w) t12 K) fun t13 =>
  gIf t10 false (fun K => pFA 1 t3 K) fun t14 =>
  gIf t10 false (fun K => pLd (· = w) t14 K) fun t15 =>
  gIfW t10 false (fun w K => pCall Tryz.prog 30 [t13, t15] X w K) w fun t16 w =>
  gIf t10 false (fun K => pNot t16 K) fun t17 =>
  pPick t10 (.bool true) t17 fun t18 =>
  gIf t18 false (fun K => pFA 2 t2 K) fun t20 =>
  gIf t18 false (fun K => pLd (· = w) t20 K) fun t21 =>
  gIf t18 false (fun K => pLenSl t21 K) fun t22 =>
  gIf t18 false (fun K => pFA 2 t3 K) fun t23 =>
  gIf t18 false (fun K => pLd (· = w) t23 K) fun t24 =>
  gIf t18 false (fun K => pLenSl t24 K) fun t25 =>
  gIf t18 false (fun K => pBinI .neq .i64 t22 t25 K) fun t26 =>
  pPick t18 (.bool true) t26 fun t27 =>
  scond t27
  (R (.bool false) w)
  (oublietteref22_SameChain.I1 [x0, x1, t2, t3, (.bool false), (.int .i64 0), t6, t7, t8, t9, t10, t10, t12, t13, t14, t15, t16, t17, t18, t18, t20, t21, t22, t23, t24, t25, t26, t27, undef, undef, undef, undef, undef, undef, undef, undef, undef, undef, undef, undef, undef, undef, undef, undef, undef, undef, undef, undef, undef, undef, undef, undef, undef, undef, undef, undef, undef, undef, undef, undef, undef, undef, undef, undef] R X w)
theorem oublietteref22_SameChain.b_eq (x0 : Value) (x1 : Value) (R : KV) (X : KX) (w : World) : atP Tryz.prog Tryz.f31 oublietteref22_SameChain.pl [] [] R X ([x0, x1] ++ undefs 62) w = oublietteref22_SameChain.b x0 x1 R X w := by kernel_rfl
theorem oublietteref22_SameChain.calls {x0 x1 : Value} {R : KV} {X : KX} {w : World} (h : oublietteref22_SameChain.b x0 x1 R X w) : GCalls Tryz.prog 31 [x0, x1] R X w :=
  gcalls_of (pl := oublietteref22_SameChain.pl) Tryz.func31 rfl (by kernel_rfl) hmixed (oublietteref22_SameChain.b_eq x0 x1 R X w ▸ h)

/-! oubliette/oubliettelaw22.Back -/
def oubliettelaw22_Back.pl : Nat → DrawPlan
  | 5 => ⟨[([], [1]), ([0], [0, 16]), ([], [3]), ([2], [2, 5]), ([], [5]), ([3, 4], [3, 4, 6]), ([5], [5, 7]), ([6], [6, 14]), ([], [9]), ([8], [8, 11]), ([], [11]), ([9, 10], [9, 10, 12]), ([11], [11, 13]), ([12], [12, 14]), ([7, 13], [7, 13, 15]), ([14], [14, 16]), ([1, 15], [1, 15, 18]), ([0, 1, 2, 3, 4, 5, 6, 7, 8, 9, 10, 11, 12, 13, 14, 15, 16], [18]), ([17, 16, 16, 0, 1, 2, 3, 4, 5, 6, 7, 8, 9, 10, 11, 12, 13, 14, 15, 16], [16, 17])], .take 0 (.take 1 (.take 2 (.take 3 (.take 4 (.take 5 (.take 6 (.take 7 (.take 8 (.take 9 (.take 10 (.take 11 (.take 12 (.take 13 (.take 14 (.world 15 false (.world 16 false (.take 17 (.world 18 true (.done) .none)) .none) .none)))))))))))))))⟩
  | _ => ⟨[], .done⟩
def oubliettelaw22_Back.b1 (x1 : Value) (x2 : Value) (x3 : Value) (x4 : Value) (g : Nat → Value) (N1 : List Value → World → Prop) (R : KV) (X : KX) (w : World) : Prop :=
  pFA 2 x1 fun t11 =>
  pLd (· = w) t11 fun t12 =>
  pLenSl t12 fun t13 =>
  pBinI .lss .i64 x4 t13 fun t14 =>
  scond t14
  (drawn w fun S w =>
    pFA 2 x3 fun t17 =>
    pLd S t17 fun t18 =>
    pFA 2 x1 fun t19 =>
    pLd S t19 fun t20 =>
    pIA 2 t20 x4 fun t22 =>
    pFA 0 t22 fun t23 =>
    pLd S t23 fun t24 =>
    pFA 2 x1 fun t25 =>
    pLd S t25 fun t26 =>
    pIA 2 t26 x4 fun t28 =>
    pFA 1 t28 fun t29 =>
    pLd S t29 fun t30 =>
    pBuild [.int .i64 0, .slice none 0 0] [(0, 1, t24), (1, 1, t30)] fun t31 =>
    pBSlice 101 1 (rowOf [.int .i64 0, .slice none 0 0] 1) [(0, 2, t31)] w fun t32 w =>
    S w ∧ (pApp 101 2 32 [.int .i64 0, .slice none 0 0] t18 t32 w fun t33 w =>
      S w ∧ (pFA 2 x3 fun t34 =>
        pSt t34 t33 w fun _ w =>
        anew w fun S w =>
        pBinI .add .i64 x4 (.int .i64 1) fun t16 =>
        N1 [(g 0), x1, x2, x3, t16, (g 5), (g 6), (g 7), (g 8), (g 9), x4, t11, t12, t13, t14, x4, t16, t17, t18, t19, t20, x4, t22, t23, t24, t25, t26, x4, t28, t29, t30, t31, t32, t33, t34, (g 35)] w)))
  (pLdN (· = w) 3 x3 fun t35 =>
    pStN 3 x2 t35 w fun _ w =>
    pLdN (· = w) 3 x2 fun r0 =>
    R r0 w)
def oubliettelaw22_Back.I1 (e : List Value) (R : KV) (X : KX) (w : World) : Prop := atP Tryz.prog Tryz.f32 oubliettelaw22_Back.pl [1, 1, 0, 1, 0] [] R X e w
theorem oubliettelaw22_Back.I1_eq (e : List Value) (R : KV) (X : KX) (w : World) : oubliettelaw22_Back.I1 e R X w = loopS (fun N e w => atP Tryz.prog Tryz.f32 oubliettelaw22_Back.pl [1, 1, 0, 1, 0, 0] [N] R X e w) e w := by kernel_rfl
def oubliettelaw22_Back.fr1 (x1 : Value) (x2 : Value) (x3 : Value) (x4 : Value) (g : Nat → Value) : List Value := [g 0, x1, x2, x3, x4, g 5, g 6, g 7, g 8, g 9, g 10, g 11, g 12, g 13, g 14, g 15, g 16, g 17, g 18, g 19, g 20, g 21, g 22, g 23, g 24, g 25, g 26, g 27, g 28, g 29, g 30, g 31, g 32, g 33, g 34, g 35]
theorem oubliettelaw22_Back.b1_eq (x1 : Value) (x2 : Value) (x3 : Value) (x4 : Value) (g : Nat → Value) (N1 : List Value → World → Prop) (R : KV) (X : KX) (w : World) : atP Tryz.prog Tryz.f32 oubliettelaw22_Back.pl [1, 1, 0, 1, 0, 0] [N1] R X (oubliettelaw22_Back.fr1 x1 x2 x3 x4 g) w = oubliettelaw22_Back.b1 x1 x2 x3 x4 g N1 R X w := by kernel_rfl
/-- What a round of this loop hands on. -/
def oubliettelaw22_Back.N1 (J : Value → World → Prop) (m : Value → World → Nat) (x1 : Value) (x2 : Value) (x3 : Value) (x4 : Value) (w : World) : List Value → World → Prop := fun e w' => (∃ y4 g, e = oubliettelaw22_Back.fr1 x1 x2 x3 y4 g ∧ J y4 w') ∧ m (nth e 4) w' < m x4 w
theorem oubliettelaw22_Back.leaf1 {J : Value → World → Prop} {m : Value → World → Nat} {x1 : Value} {x2 : Value} {x3 : Value} {x4 : Value} {w w' : World} {e0 e4 e5 e6 e7 e8 e9 e10 e11 e12 e13 e14 e15 e16 e17 e18 e19 e20 e21 e22 e23 e24 e25 e26 e27 e28 e29 e30 e31 e32 e33 e34 e35 : Value} (h : J e4 w') (hm : m e4 w' < m x4 w) : oubliettelaw22_Back.N1 J m x1 x2 x3 x4 w [e0, x1, x2, x3, e4, e5, e6, e7, e8, e9, e10, e11, e12, e13, e14, e15, e16, e17, e18, e19, e20, e21, e22, e23, e24, e25, e26, e27, e28, e29, e30, e31, e32, e33, e34, e35] w' :=
  ⟨⟨e4, (fun i => nth [e0, x1, x2, x3, e4, e5, e6, e7, e8, e9, e10, e11, e12, e13, e14, e15, e16, e17, e18, e19, e20, e21, e22, e23, e24, e25, e26, e27, e28, e29, e30, e31, e32, e33, e34, e35] i), rfl, h⟩, hm⟩
theorem oubliettelaw22_Back.loop1 (J : Value → World → Prop) (m : Value → World → Nat) {R : KV} {X : KX} {w : World} {x1 : Value} {x2 : Value} {x3 : Value} {e0 e4 e5 e6 e7 e8 e9 e10 e11 e12 e13 e14 e15 e16 e17 e18 e19 e20 e21 e22 e23 e24 e25 e26 e27 e28 e29 e30 e31 e32 e33 e34 e35 : Value} (h0 : J e4 w)
    (hr : ∀ x4 g w, J x4 w → oubliettelaw22_Back.b1 x1 x2 x3 x4 g (oubliettelaw22_Back.N1 J m x1 x2 x3 x4 w) R X w) : oubliettelaw22_Back.I1 [e0, x1, x2, x3, e4, e5, e6, e7, e8, e9, e10, e11, e12, e13, e14, e15, e16, e17, e18, e19, e20, e21, e22, e23, e24, e25, e26, e27, e28, e29, e30, e31, e32, e33, e34, e35] R X w := by
  rw [oubliettelaw22_Back.I1_eq]
  refine ⟨fun e w => ∃ y4 g, e = oubliettelaw22_Back.fr1 x1 x2 x3 y4 g ∧ J y4 w, fun e w => m (nth e 4) w, ⟨e4, (fun i => nth [e0, x1, x2, x3, e4, e5, e6, e7, e8, e9, e10, e11, e12, e13, e14, e15, e16, e17, e18, e19, e20, e21, e22, e23, e24, e25, e26, e27, e28, e29, e30, e31, e32, e33, e34, e35] i), rfl, h0⟩, ?_⟩
  rintro _ w ⟨y4, g, rfl, hJ⟩
  rw [oubliettelaw22_Back.b1_eq]
  exact hr y4 g w hJ
def oubliettelaw22_Back.b (x0 : Value) (R : KV) (X : KX) (w : World) : Prop :=
  pBox 50 x0 w fun t1 w =>
  pBox 76 (.agg #[.int .i64 0, .slice none 0 0, .slice none 0 0]) w fun t2 w =>
  pFA 0 t1 fun t5 =>
  pLd (· = w) t5 fun t6 =>
  pFA 1 t1 fun t7 =>
  pLd (· = w) t7 fun t8 =>
  pBuild [.int .i64 0, .slice none 0 0, .slice none 0 0] [(0, 1, t6), (1, 1, t8)] fun t9 =>
  pBox 76 (.agg #[.int .i64 0, .slice none 0 0, .slice none 0 0]) w fun t3 w =>
  pStN 3 t3 t9 w fun _ w =>
  oubliettelaw22_Back.I1 [x0, t1, t2, t3, (.int .i64 0), t5, t6, t7, t8, t9, undef, undef, undef, undef, undef, undef, undef, undef, undef, undef, undef, undef, undef, undef, undef, undef, undef, undef, undef, undef, undef, undef, undef, undef, undef, undef] R X w
theorem oubliettelaw22_Back.b_eq (x0 : Value) (R : KV) (X : KX) (w : World) : atP Tryz.prog Tryz.f32 oubliettelaw22_Back.pl [] [] R X ([x0] ++ undefs 35) w = oubliettelaw22_Back.b x0 R X w := by kernel_rfl
theorem oubliettelaw22_Back.calls {x0 : Value} {R : KV} {X : KX} {w : World} (h : oubliettelaw22_Back.b x0 R X w) : GCalls Tryz.prog 32 [x0] R X w :=
  gcalls_of (pl := oubliettelaw22_Back.pl) Tryz.func32 rfl (by kernel_rfl) hmixed (oubliettelaw22_Back.b_eq x0 R X w ▸ h)

/-! oubliette/oublietteref09.Mix -/
def oublietteref09_Mix.pl : Nat → DrawPlan
  | _ => ⟨[], .done⟩
def oublietteref09_Mix.b (x0 : Value) (x1 : Value) (R : KV) (X : KX) (w : World) : Prop :=
  pCall Tryz.prog 60 [x0, x1] X w fun t7 w =>
  R t7 w
theorem oublietteref09_Mix.b_eq (x0 : Value) (x1 : Value) (R : KV) (X : KX) (w : World) : atP Tryz.prog Tryz.f35 oublietteref09_Mix.pl [] [] R X ([x0, x1] ++ undefs 6) w = oublietteref09_Mix.b x0 x1 R X w := by kernel_rfl
theorem oublietteref09_Mix.calls {x0 x1 : Value} {R : KV} {X : KX} {w : World} (h : oublietteref09_Mix.b x0 x1 R X w) : GCalls Tryz.prog 35 [x0, x1] R X w :=
  gcalls_of (pl := oublietteref09_Mix.pl) Tryz.func35 rfl (by kernel_rfl) hmixed (oublietteref09_Mix.b_eq x0 x1 R X w ▸ h)

/-! (*oubliette/suite.Suite).none -/
def suite_Suite_none.pl : Nat → DrawPlan
  | _ => ⟨[], .done⟩
def suite_Suite_none.b (x0 : Value) (R : KV) (X : KX) (w : World) : Prop :=
  pEq .ptr false x0 (.pointer none) fun t4 =>
  gIf t4 false (fun K => K x0) fun t6 =>
  gIf t4 false (fun K => pNil t6 K) fun t7 =>
  gIf t4 false (fun K => pFA 2 t7 K) fun t8 =>
  gIf t4 false (fun K => pLd (· = w) t8 K) fun t9 =>
  gIf t4 false (fun K => pEq .ptr false t9 (.pointer none) K) fun t10 =>
  gIf t4 false (fun K => K t10) fun t11 =>
  gIf t11 true (fun K => K x0) fun t12 =>
  gIf t11 true (fun K => pNil t12 K) fun t13 =>
  gIf t11 true (fun K => pFA 0 t13 K) fun t14 =>
  gIf t11 true (fun K => pFA 0 t14 K) fun t15 =>
  gIf t11 true (fun K => pLd (· = w) t15 K) fun t16 =>
  gIf t11 true (fun K => pEq .ptr false t16 (.pointer none) K) fun t17 =>
  gIf t4 false (fun K => pPick t11 t17 (.bool false) K) fun t18 =>
  pPick t4 (.bool true) t18 fun t19 =>
  R t19 w
theorem suite_Suite_none.b_eq (x0 : Value) (R : KV) (X : KX) (w : World) : atP Tryz.prog Tryz.f37 suite_Suite_none.pl [] [] R X ([x0] ++ undefs 19) w = suite_Suite_none.b x0 R X w := by kernel_rfl
theorem suite_Suite_none.calls {x0 : Value} {R : KV} {X : KX} {w : World} (h : suite_Suite_none.b x0 R X w) : GCalls Tryz.prog 37 [x0] R X w :=
  gcalls_of (pl := suite_Suite_none.pl) Tryz.func37 rfl (by kernel_rfl) hmixed (suite_Suite_none.b_eq x0 R X w ▸ h)

/-! (*oubliette/suite.Suite).real -/
def suite_Suite_real.pl : Nat → DrawPlan
  | _ => ⟨[], .done⟩
def suite_Suite_real.b (x0 : Value) (R : KV) (X : KX) (w : World) : Prop :=
  pNil x0 fun t4 =>
  pFA 2 t4 fun t5 =>
  pLd (· = w) t5 fun t6 =>
  pEq .ptr true t6 (.pointer none) fun t7 =>
  R t7 w
theorem suite_Suite_real.b_eq (x0 : Value) (R : KV) (X : KX) (w : World) : atP Tryz.prog Tryz.f38 suite_Suite_real.pl [] [] R X ([x0] ++ undefs 7) w = suite_Suite_real.b x0 R X w := by kernel_rfl
theorem suite_Suite_real.calls {x0 : Value} {R : KV} {X : KX} {w : World} (h : suite_Suite_real.b x0 R X w) : GCalls Tryz.prog 38 [x0] R X w :=
  gcalls_of (pl := suite_Suite_real.pl) Tryz.func38 rfl (by kernel_rfl) hmixed (suite_Suite_real.b_eq x0 R X w ▸ h)

/-! oubliette/epoch.why$1 -/
def epoch_why_c1.pl : Nat → DrawPlan
  | _ => ⟨[], .done⟩
def epoch_why_c1.b (x0 : Value) (R : KV) (X : KX) (w : World) : Prop :=
  pLenSl x0 fun t4 =>
  pBinI .neq .i64 t4 (.int .i64 32) fun t5 =>
  R t5 w
theorem epoch_why_c1.b_eq (x0 : Value) (R : KV) (X : KX) (w : World) : atP Tryz.prog Tryz.f51 epoch_why_c1.pl [] [] R X ([x0] ++ undefs 5) w = epoch_why_c1.b x0 R X w := by kernel_rfl
theorem epoch_why_c1.calls {x0 : Value} {R : KV} {X : KX} {w : World} (h : epoch_why_c1.b x0 R X w) : GCalls Tryz.prog 51 [x0] R X w :=
  gcalls_of (pl := epoch_why_c1.pl) Tryz.func51 rfl (by kernel_rfl) hmixed (epoch_why_c1.b_eq x0 R X w ▸ h)

/-! slices.ContainsFunc[[][]byte,[]byte] -/
def slices_ContainsFunc_byte_byte.pl : Nat → DrawPlan
  | _ => ⟨[], .done⟩
def slices_ContainsFunc_byte_byte.b (x0 : Value) (x1 : Value) (R : KV) (X : KX) (w : World) : Prop :=
  pCall Tryz.prog 69 [x0, x1] X w fun t7 w =>
  pBinI .geq .i64 t7 (.int .i64 0) fun t8 =>
  R t8 w
theorem slices_ContainsFunc_byte_byte.b_eq (x0 : Value) (x1 : Value) (R : KV) (X : KX) (w : World) : atP Tryz.prog Tryz.f52 slices_ContainsFunc_byte_byte.pl [] [] R X ([x0, x1] ++ undefs 7) w = slices_ContainsFunc_byte_byte.b x0 x1 R X w := by kernel_rfl
theorem slices_ContainsFunc_byte_byte.calls {x0 x1 : Value} {R : KV} {X : KX} {w : World} (h : slices_ContainsFunc_byte_byte.b x0 x1 R X w) : GCalls Tryz.prog 52 [x0, x1] R X w :=
  gcalls_of (pl := slices_ContainsFunc_byte_byte.pl) Tryz.func52 rfl (by kernel_rfl) hmixed (slices_ContainsFunc_byte_byte.b_eq x0 x1 R X w ▸ h)

/-! oubliette/kdf.Mix -/
def kdf_Mix.pl : Nat → DrawPlan
  | _ => ⟨[], .done⟩
def kdf_Mix.b (x0 : Value) (x1 : Value) (R : KV) (X : KX) (w : World) : Prop :=
  pCall Tryz.prog 73 [x0, x1] X w fun t7 w =>
  R t7 w
theorem kdf_Mix.b_eq (x0 : Value) (x1 : Value) (R : KV) (X : KX) (w : World) : atP Tryz.prog Tryz.f56 kdf_Mix.pl [] [] R X ([x0, x1] ++ undefs 6) w = kdf_Mix.b x0 x1 R X w := by kernel_rfl
theorem kdf_Mix.calls {x0 x1 : Value} {R : KV} {X : KX} {w : World} (h : kdf_Mix.b x0 x1 R X w) : GCalls Tryz.prog 56 [x0, x1] R X w :=
  gcalls_of (pl := kdf_Mix.pl) Tryz.func56 rfl (by kernel_rfl) hmixed (kdf_Mix.b_eq x0 x1 R X w ▸ h)

/-! slices.IndexFunc[[][]byte,[]byte] -/
def slices_IndexFunc_byte_byte.pl : Nat → DrawPlan
  | _ => ⟨[], .done⟩
def slices_IndexFunc_byte_byte.b1 (x0 : Value) (x1 : Value) (x7 : Value) (x8 : Value) (g : Nat → Value) (N1 : List Value → World → Prop) (R : KV) (X : KX) (w : World) : Prop :=
  pBinI .lss .i64 x8 x7 fun t9 =>
  scond t9
  (pIA 1 x0 x8 fun t14 =>
    pLd (· = w) t14 fun t15 =>
    pCallV Tryz.prog x1 [t15] X w fun t16 w =>
    scond t16
    (R x8 w)
    (pBinI .add .i64 x8 (.int .i64 1) fun t18 =>
      N1 [x0, x1, (g 2), (g 3), (g 4), x8, (g 6), x7, t18, t9, x8, x1, x0, x8, t14, t15, t16, (g 17), t18] w))
  (R (.int .i64 (-1)) w)
def slices_IndexFunc_byte_byte.I1 (e : List Value) (R : KV) (X : KX) (w : World) : Prop := atP Tryz.prog Tryz.f69 slices_IndexFunc_byte_byte.pl [1, 0, 1, 0] [] R X e w
theorem slices_IndexFunc_byte_byte.I1_eq (e : List Value) (R : KV) (X : KX) (w : World) : slices_IndexFunc_byte_byte.I1 e R X w = loopS (fun N e w => atP Tryz.prog Tryz.f69 slices_IndexFunc_byte_byte.pl [1, 0, 1, 0, 0] [N] R X e w) e w := by kernel_rfl
def slices_IndexFunc_byte_byte.fr1 (x0 : Value) (x1 : Value) (x7 : Value) (x8 : Value) (g : Nat → Value) : List Value := [x0, x1, g 2, g 3, g 4, g 5, g 6, x7, x8, g 9, g 10, g 11, g 12, g 13, g 14, g 15, g 16, g 17, g 18]
theorem slices_IndexFunc_byte_byte.b1_eq (x0 : Value) (x1 : Value) (x7 : Value) (x8 : Value) (g : Nat → Value) (N1 : List Value → World → Prop) (R : KV) (X : KX) (w : World) : atP Tryz.prog Tryz.f69 slices_IndexFunc_byte_byte.pl [1, 0, 1, 0, 0] [N1] R X (slices_IndexFunc_byte_byte.fr1 x0 x1 x7 x8 g) w = slices_IndexFunc_byte_byte.b1 x0 x1 x7 x8 g N1 R X w := by kernel_rfl
/-- What a round of this loop hands on. -/
def slices_IndexFunc_byte_byte.N1 (J : Value → World → Prop) (m : Value → World → Nat) (x0 : Value) (x1 : Value) (x7 : Value) (x8 : Value) (w : World) : List Value → World → Prop := fun e w' => (∃ y8 g, e = slices_IndexFunc_byte_byte.fr1 x0 x1 x7 y8 g ∧ J y8 w') ∧ m (nth e 8) w' < m x8 w
theorem slices_IndexFunc_byte_byte.leaf1 {J : Value → World → Prop} {m : Value → World → Nat} {x0 : Value} {x1 : Value} {x7 : Value} {x8 : Value} {w w' : World} {e2 e3 e4 e5 e6 e8 e9 e10 e11 e12 e13 e14 e15 e16 e17 e18 : Value} (h : J e8 w') (hm : m e8 w' < m x8 w) : slices_IndexFunc_byte_byte.N1 J m x0 x1 x7 x8 w [x0, x1, e2, e3, e4, e5, e6, x7, e8, e9, e10, e11, e12, e13, e14, e15, e16, e17, e18] w' :=
  ⟨⟨e8, (fun i => nth [x0, x1, e2, e3, e4, e5, e6, x7, e8, e9, e10, e11, e12, e13, e14, e15, e16, e17, e18] i), rfl, h⟩, hm⟩
theorem slices_IndexFunc_byte_byte.loop1 (J : Value → World → Prop) (m : Value → World → Nat) {R : KV} {X : KX} {w : World} {x0 : Value} {x1 : Value} {x7 : Value} {e2 e3 e4 e5 e6 e8 e9 e10 e11 e12 e13 e14 e15 e16 e17 e18 : Value} (h0 : J e8 w)
    (hr : ∀ x8 g w, J x8 w → slices_IndexFunc_byte_byte.b1 x0 x1 x7 x8 g (slices_IndexFunc_byte_byte.N1 J m x0 x1 x7 x8 w) R X w) : slices_IndexFunc_byte_byte.I1 [x0, x1, e2, e3, e4, e5, e6, x7, e8, e9, e10, e11, e12, e13, e14, e15, e16, e17, e18] R X w := by
  rw [slices_IndexFunc_byte_byte.I1_eq]
  refine ⟨fun e w => ∃ y8 g, e = slices_IndexFunc_byte_byte.fr1 x0 x1 x7 y8 g ∧ J y8 w, fun e w => m (nth e 8) w, ⟨e8, (fun i => nth [x0, x1, e2, e3, e4, e5, e6, x7, e8, e9, e10, e11, e12, e13, e14, e15, e16, e17, e18] i), rfl, h0⟩, ?_⟩
  rintro _ w ⟨y8, g, rfl, hJ⟩
  rw [slices_IndexFunc_byte_byte.b1_eq]
  exact hr y8 g w hJ
def slices_IndexFunc_byte_byte.b (x0 : Value) (x1 : Value) (R : KV) (X : KX) (w : World) : Prop :=
  pLenSl x0 fun t7 =>
  slices_IndexFunc_byte_byte.I1 [x0, x1, undef, undef, (.int .i64 0), undef, x0, t7, (.int .i64 0), undef, undef, undef, undef, undef, undef, undef, undef, undef, undef] R X w
theorem slices_IndexFunc_byte_byte.b_eq (x0 : Value) (x1 : Value) (R : KV) (X : KX) (w : World) : atP Tryz.prog Tryz.f69 slices_IndexFunc_byte_byte.pl [] [] R X ([x0, x1] ++ undefs 17) w = slices_IndexFunc_byte_byte.b x0 x1 R X w := by kernel_rfl
theorem slices_IndexFunc_byte_byte.calls {x0 x1 : Value} {R : KV} {X : KX} {w : World} (h : slices_IndexFunc_byte_byte.b x0 x1 R X w) : GCalls Tryz.prog 69 [x0, x1] R X w :=
  gcalls_of (pl := slices_IndexFunc_byte_byte.pl) Tryz.func69 rfl (by kernel_rfl) hmixed (slices_IndexFunc_byte_byte.b_eq x0 x1 R X w ▸ h)
end Go.Proofs.YtkpgmaiklfjjgaaGreatDoor
end
