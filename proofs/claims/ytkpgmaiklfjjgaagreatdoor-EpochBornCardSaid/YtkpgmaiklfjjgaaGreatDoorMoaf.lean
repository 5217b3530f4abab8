/-
  The functions' own code as conditions on values and worlds; the kernel checks that each is the code's own.
-/
import Derived.Test.YtkpgmaiklfjjgaaGreatDoorMoae
import Derived.Test.YtkpgmaiklfjjgaaGreatDoorProg
section
set_option maxRecDepth 100000
set_option linter.unusedVariables false
namespace Go.Proofs.YtkpgmaiklfjjgaaGreatDoor
open Go.G

/-! oubliette/oublietteref07.Sum -/
def oublietteref07_Sum.pl : Nat → DrawPlan
  | 7 => ⟨[([], [7]), ([], [7]), ([], [6]), ([], [6]), ([], [5]), ([4], [4, 6]), ([2, 3, 5], [2, 3, 5, 7]), ([0, 1, 6], [0, 1, 6, 8]), ([7, 7, 0, 1, 2, 3, 4, 5, 6, 7], [7])], .take 0 (.take 1 (.take 2 (.take 3 (.take 4 (.take 5 (.take 6 (.world 7 true (.world 8 true (.done) .none) .none)))))))⟩
  | _ => ⟨[], .done⟩
def oublietteref07_Sum.b2 (x4 : Value) (x7 : Value) (x8 : Value) (g : Nat → Value) (N1 : List Value → World → Prop) (R : KV) (X : KX) (w : World) : Prop :=
  pBinI .lss .i64 x8 (.int .i64 8) fun t32 =>
  scond t32
  (pIAr 8 1 x4 x8 fun t37 =>
    pLd (· = w) t37 fun t38 =>
    pConv .u64 t38 fun t39 =>
    pCall Tryz.prog 87 [t39, (.int .i64 4)] X w fun t40 w =>
    pApp 5 1 1 [.int .u8 0] x7 t40 w fun t41 w =>
    pBinI .add .i64 x8 (.int .i64 1) fun t34 =>
    N1 [(g 0), (g 1), (g 2), (g 3), x4, (g 5), (g 6), t41, t34, (g 9), (g 10), (g 11), (g 12), (g 13), (g 14), (g 15), (g 16), (g 17), (g 18), (g 19), (g 20), (g 21), (g 22), (g 23), (g 24), (g 25), (g 26), (g 27), (g 28), (g 29), (g 30), x8, t32, x8, t34, x7, x8, t37, t38, t39, t40, t41, (g 42)] w)
  (R x7 w)
def oublietteref07_Sum.I2 (e : List Value) (R : KV) (X : KX) (w : World) : Prop := atP Tryz.prog Tryz.f74 oublietteref07_Sum.pl [1, 1, 1, 1, 1, 1, 0, 1, 0] [] R X e w
theorem oublietteref07_Sum.I2_eq (e : List Value) (R : KV) (X : KX) (w : World) : oublietteref07_Sum.I2 e R X w = loopS (fun N e w => atP Tryz.prog Tryz.f74 oublietteref07_Sum.pl [1, 1, 1, 1, 1, 1, 0, 1, 0, 0] [N] R X e w) e w := by kernel_rfl
def oublietteref07_Sum.fr2 (x4 : Value) (x7 : Value) (x8 : Value) (g : Nat → Value) : List Value := [g 0, g 1, g 2, g 3, x4, g 5, g 6, x7, x8, g 9, g 10, g 11, g 12, g 13, g 14, g 15, g 16, g 17, g 18, g 19, g 20, g 21, g 22, g 23, g 24, g 25, g 26, g 27, g 28, g 29, g 30, g 31, g 32, g 33, g 34, g 35, g 36, g 37, g 38, g 39, g 40, g 41, g 42]
theorem oublietteref07_Sum.b2_eq (x4 : Value) (x7 : Value) (x8 : Value) (g : Nat → Value) (N1 : List Value → World → Prop) (R : KV) (X : KX) (w : World) : atP Tryz.prog Tryz.f74 oublietteref07_Sum.pl [1, 1, 1, 1, 1, 1, 0, 1, 0, 0] [N1] R X (oublietteref07_Sum.fr2 x4 x7 x8 g) w = oublietteref07_Sum.b2 x4 x7 x8 g N1 R X w := by kernel_rfl
/-- What a round of this loop hands on. -/
def oublietteref07_Sum.N2 (J : Value → Value → World → Prop) (m : Value → Value → World → Nat) (x4 : Value) (x7 : Value) (x8 : Value) (w : World) : List Value → World → Prop := fun e w' => (∃ y7 y8 g, e = oublietteref07_Sum.fr2 x4 y7 y8 g ∧ J y7 y8 w') ∧ m (nth e 7) (nth e 8) w' < m x7 x8 w
theorem oublietteref07_Sum.leaf2 {J : Value → Value → World → Prop} {m : Value → Value → World → Nat} {x4 : Value} {x7 : Value} {x8 : Value} {w w' : World} {e0 e1 e2 e3 e5 e6 e7 e8 e9 e10 e11 e12 e13 e14 e15 e16 e17 e18 e19 e20 e21 e22 e23 e24 e25 e26 e27 e28 e29 e30 e31 e32 e33 e34 e35 e36 e37 e38 e39 e40 e41 e42 : Value} (h : J e7 e8 w') (hm : m e7 e8 w' < m x7 x8 w) : oublietteref07_Sum.N2 J m x4 x7 x8 w [e0, e1, e2, e3, x4, e5, e6, e7, e8, e9, e10, e11, e12, e13, e14, e15, e16, e17, e18, e19, e20, e21, e22, e23, e24, e25, e26, e27, e28, e29, e30, e31, e32, e33, e34, e35, e36, e37, e38, e39, e40, e41, e42] w' :=
  ⟨⟨e7, e8, (fun i => nth [e0, e1, e2, e3, x4, e5, e6, e7, e8, e9, e10, e11, e12, e13, e14, e15, e16, e17, e18, e19, e20, e21, e22, e23, e24, e25, e26, e27, e28, e29, e30, e31, e32, e33, e34, e35, e36, e37, e38, e39, e40, e41, e42] i), rfl, h⟩, hm⟩
theorem oublietteref07_Sum.loop2 (J : Value → Value → World → Prop) (m : Value → Value → World → Nat) {R : KV} {X : KX} {w : World} {x4 : Value} {e0 e1 e2 e3 e5 e6 e7 e8 e9 e10 e11 e12 e13 e14 e15 e16 e17 e18 e19 e20 e21 e22 e23 e24 e25 e26 e27 e28 e29 e30 e31 e32 e33 e34 e35 e36 e37 e38 e39 e40 e41 e42 : Value} (h0 : J e7 e8 w)
    (hr : ∀ x7 x8 g w, J x7 x8 w → oublietteref07_Sum.b2 x4 x7 x8 g (oublietteref07_Sum.N2 J m x4 x7 x8 w) R X w) : oublietteref07_Sum.I2 [e0, e1, e2, e3, x4, e5, e6, e7, e8, e9, e10, e11, e12, e13, e14, e15, e16, e17, e18, e19, e20, e21, e22, e23, e24, e25, e26, e27, e28, e29, e30, e31, e32, e33, e34, e35, e36, e37, e38, e39, e40, e41, e42] R X w := by
  rw [oublietteref07_Sum.I2_eq]
  refine ⟨fun e w => ∃ y7 y8 g, e = oublietteref07_Sum.fr2 x4 y7 y8 g ∧ J y7 y8 w, fun e w => m (nth e 7) (nth e 8) w, ⟨e7, e8, (fun i => nth [e0, e1, e2, e3, x4, e5, e6, e7, e8, e9, e10, e11, e12, e13, e14, e15, e16, e17, e18, e19, e20, e21, e22, e23, e24, e25, e26, e27, e28, e29, e30, e31, e32, e33, e34, e35, e36, e37, e38, e39, e40, e41, e42] i), rfl, h0⟩, ?_⟩
  rintro _ w ⟨y7, y8, g, rfl, hJ⟩
  rw [oublietteref07_Sum.b2_eq]
  exact hr y7 y8 g w hJ
def oublietteref07_Sum.b1 (x3 : Value) (x4 : Value) (x5 : Value) (x6 : Value) (g : Nat → Value) (N1 : List Value → World → Prop) (R : KV) (X : KX) (w : World) : Prop :=
  pBinI .add .i64 x6 (.int .i64 64) fun t17 =>
  pLenSl x5 fun t19 =>
  pBinI .leq .i64 t17 t19 fun t20 =>
  scond t20
  (drawn w fun S w =>
    pLdN S 64 x3 fun t23 =>
    pLdN S 8 x4 fun t24 =>
    pBinI .add .i64 x6 (.int .i64 64) fun t28 =>
    pSl 1 x5 (some x6) (some t28) none fun t29 =>
    pCall Tryz.prog 86 [t23, t24, t29] X w fun t30 w =>
    anew w fun S w =>
    pStN 8 x4 t30 w fun _ w =>
    anew w fun S w =>
    pBinI .add .i64 x6 (.int .i64 64) fun t22 =>
    N1 [(g 0), (g 1), (g 2), x3, x4, x5, t22, (g 7), (g 8), (g 9), (g 10), (g 11), (g 12), (g 13), (g 14), (g 15), x6, t17, x5, t19, t20, x6, t22, t23, t24, x5, x6, x6, t28, t29, t30, (g 31), (g 32), (g 33), (g 34), (g 35), (g 36), (g 37), (g 38), (g 39), (g 40), (g 41), (g 42)] w)
  (oublietteref07_Sum.I2 [(g 0), (g 1), (g 2), x3, x4, x5, x6, (.slice none 0 0), (.int .i64 0), (g 9), (g 10), (g 11), (g 12), (g 13), (g 14), (g 15), x6, t17, x5, t19, t20, (g 21), (g 22), (g 23), (g 24), (g 25), (g 26), (g 27), (g 28), (g 29), (g 30), (g 31), (g 32), (g 33), (g 34), (g 35), (g 36), (g 37), (g 38), (g 39), (g 40), (g 41), (g 42)] R X w)
def oublietteref07_Sum.I1 (e : List Value) (R : KV) (X : KX) (w : World) : Prop := atP Tryz.prog Tryz.f74 oublietteref07_Sum.pl [1, 1, 1, 1, 0, 1, 0] [] R X e w
theorem oublietteref07_Sum.I1_eq (e : List Value) (R : KV) (X : KX) (w : World) : oublietteref07_Sum.I1 e R X w = loopS (fun N e w => atP Tryz.prog Tryz.f74 oublietteref07_Sum.pl [1, 1, 1, 1, 0, 1, 0, 0] [N] R X e w) e w := by kernel_rfl
def oublietteref07_Sum.fr1 (x3 : Value) (x4 : Value) (x5 : Value) (x6 : Value) (g : Nat → Value) : List Value := [g 0, g 1, g 2, x3, x4, x5, x6, g 7, g 8, g 9, g 10, g 11, g 12, g 13, g 14, g 15, g 16, g 17, g 18, g 19, g 20, g 21, g 22, g 23, g 24, g 25, g 26, g 27, g 28, g 29, g 30, g 31, g 32, g 33, g 34, g 35, g 36, g 37, g 38, g 39, g 40, g 41, g 42]
theorem oublietteref07_Sum.b1_eq (x3 : Value) (x4 : Value) (x5 : Value) (x6 : Value) (g : Nat → Value) (N1 : List Value → World → Prop) (R : KV) (X : KX) (w : World) : atP Tryz.prog Tryz.f74 oublietteref07_Sum.pl [1, 1, 1, 1, 0, 1, 0, 0] [N1] R X (oublietteref07_Sum.fr1 x3 x4 x5 x6 g) w = oublietteref07_Sum.b1 x3 x4 x5 x6 g N1 R X w := by kernel_rfl
/-- What a round of this loop hands on. -/
def oublietteref07_Sum.N1 (J : Value → World → Prop) (m : Value → World → Nat) (x3 : Value) (x4 : Value) (x5 : Value) (x6 : Value) (w : World) : List Value → World → Prop := fun e w' => (∃ y6 g, e = oublietteref07_Sum.fr1 x3 x4 x5 y6 g ∧ J y6 w') ∧ m (nth e 6) w' < m x6 w
theorem oublietteref07_Sum.leaf1 {J : Value → World → Prop} {m : Value → World → Nat} {x3 : Value} {x4 : Value} {x5 : Value} {x6 : Value} {w w' : World} {e0 e1 e2 e6 e7 e8 e9 e10 e11 e12 e13 e14 e15 e16 e17 e18 e19 e20 e21 e22 e23 e24 e25 e26 e27 e28 e29 e30 e31 e32 e33 e34 e35 e36 e37 e38 e39 e40 e41 e42 : Value} (h : J e6 w') (hm : m e6 w' < m x6 w) : oublietteref07_Sum.N1 J m x3 x4 x5 x6 w [e0, e1, e2, x3, x4, x5, e6, e7, e8, e9, e10, e11, e12, e13, e14, e15, e16, e17, e18, e19, e20, e21, e22, e23, e24, e25, e26, e27, e28, e29, e30, e31, e32, e33, e34, e35, e36, e37, e38, e39, e40, e41, e42] w' :=
  ⟨⟨e6, (fun i => nth [e0, e1, e2, x3, x4, x5, e6, e7, e8, e9, e10, e11, e12, e13, e14, e15, e16, e17, e18, e19, e20, e21, e22, e23, e24, e25, e26, e27, e28, e29, e30, e31, e32, e33, e34, e35, e36, e37, e38, e39, e40, e41, e42] i), rfl, h⟩, hm⟩
theorem oublietteref07_Sum.loop1 (J : Value → World → Prop) (m : Value → World → Nat) {R : KV} {X : KX} {w : World} {x3 : Value} {x4 : Value} {x5 : Value} {e0 e1 e2 e6 e7 e8 e9 e10 e11 e12 e13 e14 e15 e16 e17 e18 e19 e20 e21 e22 e23 e24 e25 e26 e27 e28 e29 e30 e31 e32 e33 e34 e35 e36 e37 e38 e39 e40 e41 e42 : Value} (h0 : J e6 w)
    (hr : ∀ x6 g w, J x6 w → oublietteref07_Sum.b1 x3 x4 x5 x6 g (oublietteref07_Sum.N1 J m x3 x4 x5 x6 w) R X w) : oublietteref07_Sum.I1 [e0, e1, e2, x3, x4, x5, e6, e7, e8, e9, e10, e11, e12, e13, e14, e15, e16, e17, e18, e19, e20, e21, e22, e23, e24, e25, e26, e27, e28, e29, e30, e31, e32, e33, e34, e35, e36, e37, e38, e39, e40, e41, e42] R X w := by
  rw [oublietteref07_Sum.I1_eq]
  refine ⟨fun e w => ∃ y6 g, e = oublietteref07_Sum.fr1 x3 x4 x5 y6 g ∧ J y6 w, fun e w => m (nth e 6) w, ⟨e6, (fun i => nth [e0, e1, e2, x3, x4, x5, e6, e7, e8, e9, e10, e11, e12, e13, e14, e15, e16, e17, e18, e19, e20, e21, e22, e23, e24, e25, e26, e27, e28, e29, e30, e31, e32, e33, e34, e35, e36, e37, e38, e39, e40, e41, e42] i), rfl, h0⟩, ?_⟩
  rintro _ w ⟨y6, g, rfl, hJ⟩
  rw [oublietteref07_Sum.b1_eq]
  exact hr y6 g w hJ
def oublietteref07_Sum.b (x0 : Value) (R : KV) (X : KX) (w : World) : Prop :=
  pCall Tryz.prog 84 [] X w fun t9 w =>
  pBox 138 (.agg #[.int .u32 0, .int .u32 0, .int .u32 0, .int .u32 0, .int .u32 0, .int .u32 0, .int .u32 0, .int .u32 0, .int .u32 0, .int .u32 0, .int .u32 0, .int .u32 0, .int .u32 0, .int .u32 0, .int .u32 0, .int .u32 0, .int .u32 0, .int .u32 0, .int .u32 0, .int .u32 0, .int .u32 0, .int .u32 0, .int .u32 0, .int .u32 0, .int .u32 0, .int .u32 0, .int .u32 0, .int .u32 0, .int .u32 0, .int .u32 0, .int .u32 0, .int .u32 0, .int .u32 0, .int .u32 0, .int .u32 0, .int .u32 0, .int .u32 0, .int .u32 0, .int .u32 0, .int .u32 0, .int .u32 0, .int .u32 0, .int .u32 0, .int .u32 0, .int .u32 0, .int .u32 0, .int .u32 0, .int .u32 0, .int .u32 0, .int .u32 0, .int .u32 0, .int .u32 0, .int .u32 0, .int .u32 0, .int .u32 0, .int .u32 0, .int .u32 0, .int .u32 0, .int .u32 0, .int .u32 0, .int .u32 0, .int .u32 0, .int .u32 0, .int .u32 0]) w fun t3 w =>
  pStN 64 t3 t9 w fun _ w =>
  pBuild [.int .u32 0, .int .u32 0, .int .u32 0, .int .u32 0, .int .u32 0, .int .u32 0, .int .u32 0, .int .u32 0] [(0, 1, (.int .u32 1779033703)), (1, 1, (.int .u32 3144134277)), (2, 1, (.int .u32 1013904242)), (3, 1, (.int .u32 2773480762)), (4, 1, (.int .u32 1359893119)), (5, 1, (.int .u32 2600822924)), (6, 1, (.int .u32 528734635)), (7, 1, (.int .u32 1541459225))] fun t10 =>
  pBox 140 (.agg #[.int .u32 0, .int .u32 0, .int .u32 0, .int .u32 0, .int .u32 0, .int .u32 0, .int .u32 0, .int .u32 0]) w fun t4 w =>
  pStN 8 t4 t10 w fun _ w =>
  pLenSl x0 fun t13 =>
  pCall Tryz.prog 85 [t13] X w fun t14 w =>
  pCall Tryz.prog 58 [x0, t14] X w fun t15 w =>
  oublietteref07_Sum.I1 [x0, undef, (.slice none 0 0), t3, t4, t15, (.int .i64 0), undef, undef, t9, t10, x0, x0, t13, t14, t15, undef, undef, undef, undef, undef, undef, undef, undef, undef, undef, undef, undef, undef, undef, undef, undef, undef, undef, undef, undef, undef, undef, undef, undef, undef, undef, undef] R X w
theorem oublietteref07_Sum.b_eq (x0 : Value) (R : KV) (X : KX) (w : World) : atP Tryz.prog Tryz.f74 oublietteref07_Sum.pl [] [] R X ([x0] ++ undefs 42) w = oublietteref07_Sum.b x0 R X w := by kernel_rfl
theorem oublietteref07_Sum.calls {x0 : Value} {R : KV} {X : KX} {w : World} (h : oublietteref07_Sum.b x0 R X w) : GCalls Tryz.prog 74 [x0] R X w :=
  gcalls_of (pl := oublietteref07_Sum.pl) Tryz.func74 rfl (by kernel_rfl) hmixed (oublietteref07_Sum.b_eq x0 R X w ▸ h)

/-! oubliette/oublietteref07.Table -/
def oublietteref07_Table.pl : Nat → DrawPlan
  | _ => ⟨[], .done⟩
def oublietteref07_Table.b (R : KV) (X : KX) (w : World) : Prop :=
  pBox 138 (.agg #[.int .u32 0, .int .u32 0, .int .u32 0, .int .u32 0, .int .u32 0, .int .u32 0, .int .u32 0, .int .u32 0, .int .u32 0, .int .u32 0, .int .u32 0, .int .u32 0, .int .u32 0, .int .u32 0, .int .u32 0, .int .u32 0, .int .u32 0, .int .u32 0, .int .u32 0, .int .u32 0, .int .u32 0, .int .u32 0, .int .u32 0, .int .u32 0, .int .u32 0, .int .u32 0, .int .u32 0, .int .u32 0, .int .u32 0, .int .u32 0, .int .u32 0, .int .u32 0, .int .u32 0, .int .u32 0, .int .u32 0, .int .u32 0, .int .u32 0, .int .u32 0, .int .u32 0, .int .u32 0, .int .u32 0, .int .u32 0, .int .u32 0, .int .u32 0, .int .u32 0, .int .u32 0, .int .u32 0, .int .u32 0, .int .u32 0, .int .u32 0, .int .u32 0, .int .u32 0, .int .u32 0, .int .u32 0, .int .u32 0, .int .u32 0, .int .u32 0, .int .u32 0, .int .u32 0, .int .u32 0, .int .u32 0, .int .u32 0, .int .u32 0, .int .u32 0]) w fun t0 w =>
  pBuild [.int .u32 0, .int .u32 0, .int .u32 0, .int .u32 0, .int .u32 0, .int .u32 0, .int .u32 0, .int .u32 0, .int .u32 0, .int .u32 0, .int .u32 0, .int .u32 0, .int .u32 0, .int .u32 0, .int .u32 0, .int .u32 0, .int .u32 0, .int .u32 0, .int .u32 0, .int .u32 0, .int .u32 0, .int .u32 0, .int .u32 0, .int .u32 0, .int .u32 0, .int .u32 0, .int .u32 0, .int .u32 0, .int .u32 0, .int .u32 0, .int .u32 0, .int .u32 0, .int .u32 0, .int .u32 0, .int .u32 0, .int .u32 0, .int .u32 0, .int .u32 0, .int .u32 0, .int .u32 0, .int .u32 0, .int .u32 0, .int .u32 0, .int .u32 0, .int .u32 0, .int .u32 0, .int .u32 0, .int .u32 0, .int .u32 0, .int .u32 0, .int .u32 0, .int .u32 0, .int .u32 0, .int .u32 0, .int .u32 0, .int .u32 0, .int .u32 0, .int .u32 0, .int .u32 0, .int .u32 0, .int .u32 0, .int .u32 0, .int .u32 0, .int .u32 0] [(0, 1, (.int .u32 1116352408)), (1, 1, (.int .u32 1899447441)), (2, 1, (.int .u32 3049323471)), (3, 1, (.int .u32 3921009573)), (4, 1, (.int .u32 961987163)), (5, 1, (.int .u32 1508970993)), (6, 1, (.int .u32 2453635748)), (7, 1, (.int .u32 2870763221)), (8, 1, (.int .u32 3624381080)), (9, 1, (.int .u32 310598401)), (10, 1, (.int .u32 607225278)), (11, 1, (.int .u32 1426881987)), (12, 1, (.int .u32 1925078388)), (13, 1, (.int .u32 2162078206)), (14, 1, (.int .u32 2614888103)), (15, 1, (.int .u32 3248222580)), (16, 1, (.int .u32 3835390401)), (17, 1, (.int .u32 4022224774)), (18, 1, (.int .u32 264347078)), (19, 1, (.int .u32 604807628)), (20, 1, (.int .u32 770255983)), (21, 1, (.int .u32 1249150122)), (22, 1, (.int .u32 1555081692)), (23, 1, (.int .u32 1996064986)), (24, 1, (.int .u32 2554220882)), (25, 1, (.int .u32 2821834349)), (26, 1, (.int .u32 2952996808)), (27, 1, (.int .u32 3210313671)), (28, 1, (.int .u32 3336571891)), (29, 1, (.int .u32 3584528711)), (30, 1, (.int .u32 113926993)), (31, 1, (.int .u32 338241895)), (32, 1, (.int .u32 666307205)), (33, 1, (.int .u32 773529912)), (34, 1, (.int .u32 1294757372)), (35, 1, (.int .u32 1396182291)), (36, 1, (.int .u32 1695183700)), (37, 1, (.int .u32 1986661051)), (38, 1, (.int .u32 2177026350)), (39, 1, (.int .u32 2456956037)), (40, 1, (.int .u32 2730485921)), (41, 1, (.int .u32 2820302411)), (42, 1, (.int .u32 3259730800)), (43, 1, (.int .u32 3345764771)), (44, 1, (.int .u32 3516065817)), (45, 1, (.int .u32 3600352804)), (46, 1, (.int .u32 4094571909)), (47, 1, (.int .u32 275423344)), (48, 1, (.int .u32 430227734)), (49, 1, (.int .u32 506948616)), (50, 1, (.int .u32 659060556)), (51, 1, (.int .u32 883997877)), (52, 1, (.int .u32 958139571)), (53, 1, (.int .u32 1322822218)), (54, 1, (.int .u32 1537002063)), (55, 1, (.int .u32 1747873779)), (56, 1, (.int .u32 1955562222)), (57, 1, (.int .u32 2024104815)), (58, 1, (.int .u32 2227730452)), (59, 1, (.int .u32 2361852424)), (60, 1, (.int .u32 2428436474)), (61, 1, (.int .u32 2756734187)), (62, 1, (.int .u32 3204031479)), (63, 1, (.int .u32 3329325298))] fun t1 =>
  pStN 64 t0 t1 w fun _ w =>
  pLdN (· = w) 64 t0 fun r0 =>
  R r0 w
theorem oublietteref07_Table.b_eq (R : KV) (X : KX) (w : World) : atP Tryz.prog Tryz.f84 oublietteref07_Table.pl [] [] R X ([] ++ undefs 2) w = oublietteref07_Table.b R X w := by kernel_rfl
theorem oublietteref07_Table.calls {R : KV} {X : KX} {w : World} (h : oublietteref07_Table.b R X w) : GCalls Tryz.prog 84 [] R X w :=
  gcalls_of (pl := oublietteref07_Table.pl) Tryz.func84 rfl (by kernel_rfl) hmixed (oublietteref07_Table.b_eq R X w ▸ h)

/-! oubliette/oublietteref07.Pad -/
def oublietteref07_Pad.pl : Nat → DrawPlan
  | _ => ⟨[], .done⟩
def oublietteref07_Pad.b1 (x0 : Value) (x3 : Value) (g : Nat → Value) (N1 : List Value → World → Prop) (R : KV) (X : KX) (w : World) : Prop :=
  pLenSl x3 fun t13 =>
  pBinI .add .i64 x0 t13 fun t14 =>
  pDiv .rem .i64 t14 (.int .i64 64) fun t15 =>
  pBinI .neq .i64 t15 (.int .i64 56) fun t16 =>
  scond t16
  (pBSlice 5 1 (rowOf [.int .u8 0] 1) [(0, 1, (.int .u8 0))] w fun t18 w =>
    pApp 5 1 1 [.int .u8 0] x3 t18 w fun t19 w =>
    N1 [x0, (g 1), (g 2), t19, (g 4), (g 5), (g 6), (g 7), (g 8), (g 9), (g 10), x0, x3, t13, t14, t15, t16, x3, t18, t19, (g 20), (g 21), (g 22), (g 23), (g 24), (g 25)] w)
  (pConv .u64 x0 fun t22 =>
    pBinI .mul .u64 t22 (.int .u64 8) fun t23 =>
    pCall Tryz.prog 87 [t23, (.int .i64 8)] X w fun t24 w =>
    pApp 5 1 1 [.int .u8 0] x3 t24 w fun t25 w =>
    R t25 w)
def oublietteref07_Pad.I1 (e : List Value) (R : KV) (X : KX) (w : World) : Prop := atP Tryz.prog Tryz.f85 oublietteref07_Pad.pl [1, 1, 1, 0, 0] [] R X e w
theorem oublietteref07_Pad.I1_eq (e : List Value) (R : KV) (X : KX) (w : World) : oublietteref07_Pad.I1 e R X w = loopS (fun N e w => atP Tryz.prog Tryz.f85 oublietteref07_Pad.pl [1, 1, 1, 0, 0, 0] [N] R X e w) e w := by kernel_rfl
def oublietteref07_Pad.fr1 (x0 : Value) (x3 : Value) (g : Nat → Value) : List Value := [x0, g 1, g 2, x3, g 4, g 5, g 6, g 7, g 8, g 9, g 10, g 11, g 12, g 13, g 14, g 15, g 16, g 17, g 18, g 19, g 20, g 21, g 22, g 23, g 24, g 25]
theorem oublietteref07_Pad.b1_eq (x0 : Value) (x3 : Value) (g : Nat → Value) (N1 : List Value → World → Prop) (R : KV) (X : KX) (w : World) : atP Tryz.prog Tryz.f85 oublietteref07_Pad.pl [1, 1, 1, 0, 0, 0] [N1] R X (oublietteref07_Pad.fr1 x0 x3 g) w = oublietteref07_Pad.b1 x0 x3 g N1 R X w := by kernel_rfl
/-- What a round of this loop hands on. -/
def oublietteref07_Pad.N1 (J : Value → World → Prop) (m : Value → World → Nat) (x0 : Value) (x3 : Value) (w : World) : List Value → World → Prop := fun e w' => (∃ y3 g, e = oublietteref07_Pad.fr1 x0 y3 g ∧ J y3 w') ∧ m (nth e 3) w' < m x3 w
theorem oublietteref07_Pad.leaf1 {J : Value → World → Prop} {m : Value → World → Nat} {x0 : Value} {x3 : Value} {w w' : World} {e1 e2 e3 e4 e5 e6 e7 e8 e9 e10 e11 e12 e13 e14 e15 e16 e17 e18 e19 e20 e21 e22 e23 e24 e25 : Value} (h : J e3 w') (hm : m e3 w' < m x3 w) : oublietteref07_Pad.N1 J m x0 x3 w [x0, e1, e2, e3, e4, e5, e6, e7, e8, e9, e10, e11, e12, e13, e14, e15, e16, e17, e18, e19, e20, e21, e22, e23, e24, e25] w' :=
  ⟨⟨e3, (fun i => nth [x0, e1, e2, e3, e4, e5, e6, e7, e8, e9, e10, e11, e12, e13, e14, e15, e16, e17, e18, e19, e20, e21, e22, e23, e24, e25] i), rfl, h⟩, hm⟩
theorem oublietteref07_Pad.loop1 (J : Value → World → Prop) (m : Value → World → Nat) {R : KV} {X : KX} {w : World} {x0 : Value} {e1 e2 e3 e4 e5 e6 e7 e8 e9 e10 e11 e12 e13 e14 e15 e16 e17 e18 e19 e20 e21 e22 e23 e24 e25 : Value} (h0 : J e3 w)
    (hr : ∀ x3 g w, J x3 w → oublietteref07_Pad.b1 x0 x3 g (oublietteref07_Pad.N1 J m x0 x3 w) R X w) : oublietteref07_Pad.I1 [x0, e1, e2, e3, e4, e5, e6, e7, e8, e9, e10, e11, e12, e13, e14, e15, e16, e17, e18, e19, e20, e21, e22, e23, e24, e25] R X w := by
  rw [oublietteref07_Pad.I1_eq]
  refine ⟨fun e w => ∃ y3 g, e = oublietteref07_Pad.fr1 x0 y3 g ∧ J y3 w, fun e w => m (nth e 3) w, ⟨e3, (fun i => nth [x0, e1, e2, e3, e4, e5, e6, e7, e8, e9, e10, e11, e12, e13, e14, e15, e16, e17, e18, e19, e20, e21, e22, e23, e24, e25] i), rfl, h0⟩, ?_⟩
  rintro _ w ⟨y3, g, rfl, hJ⟩
  rw [oublietteref07_Pad.b1_eq]
  exact hr y3 g w hJ
def oublietteref07_Pad.b (x0 : Value) (R : KV) (X : KX) (w : World) : Prop :=
  pBinI .lss .i64 x0 (.int .i64 0) fun t5 =>
  gIf t5 false (fun K => K x0) fun t7 =>
  gIf t5 false (fun K => pBinI .gtr .i64 t7 (.int .i64 1099511627776) K) fun t8 =>
  pPick t5 (.bool true) t8 fun t9 =>
  scond t9
  (R (.slice none 0 0) w)
  (pBSlice 5 1 (rowOf [.int .u8 0] 1) [(0, 1, (.int .u8 128))] w fun t10 w =>
    oublietteref07_Pad.I1 [x0, undef, (.slice none 0 0), t10, x0, t5, t5, t7, t8, t9, t10, undef, undef, undef, undef, undef, undef, undef, undef, undef, undef, undef, undef, undef, undef, undef] R X w)
theorem oublietteref07_Pad.b_eq (x0 : Value) (R : KV) (X : KX) (w : World) : atP Tryz.prog Tryz.f85 oublietteref07_Pad.pl [] [] R X ([x0] ++ undefs 25) w = oublietteref07_Pad.b x0 R X w := by kernel_rfl
theorem oublietteref07_Pad.calls {x0 : Value} {R : KV} {X : KX} {w : World} (h : oublietteref07_Pad.b x0 R X w) : GCalls Tryz.prog 85 [x0] R X w :=
  gcalls_of (pl := oublietteref07_Pad.pl) Tryz.func85 rfl (by kernel_rfl) hmixed (oublietteref07_Pad.b_eq x0 R X w ▸ h)

/-! oubliette/oublietteref07.With -/
def oublietteref07_With.pl : Nat → DrawPlan
  | 8 => ⟨[([], [1]), ([0], [0, 4]), ([], [3]), ([2], [2, 5]), ([1, 0, 1], [1]), ([3, 4, 0, 1, 2, 3, 4], [3])], .take 0 (.take 1 (.take 2 (.take 3 (.take 4 (.take 5 (.done))))))⟩
  | 9 => ⟨[([], [1]), ([0], [0, 10]), ([], [3]), ([2], [2, 6]), ([], [5]), ([4, 3], [4, 6]), ([3, 5], [3, 5, 9]), ([], [8]), ([7, 5], [7, 9]), ([6, 8], [6, 8, 10]), ([1, 9], [1, 9, 21]), ([], [14]), ([], [13]), ([12], [12, 14]), ([11, 13], [11, 13, 20]), ([], [16]), ([15], [15, 19]), ([], [18]), ([17], [17, 19]), ([16, 18], [16, 18, 20]), ([14, 19], [14, 19, 21]), ([10, 20], [10, 20, 25]), ([], [23]), ([22], [22, 24]), ([23], [23, 25]), ([21, 24], [21, 24, 29]), ([], [27]), ([26], [26, 28]), ([27], [27, 29]), ([25, 28], [25, 28, 30]), ([29, 8, 0, 1, 2, 3, 4, 5, 6, 7, 8, 9, 10, 11, 12, 13, 14, 15, 16, 17, 18, 19, 20, 21, 22, 23, 24, 25, 26, 27, 28, 29], [29])], .take 0 (.take 1 (.take 2 (.take 4 (.take 7 (.take 11 (.take 12 (.take 13 (.take 14 (.take 15 (.take 16 (.take 17 (.take 18 (.take 19 (.take 20 (.take 22 (.take 23 (.take 24 (.take 26 (.take 27 (.take 28 (.world 3 false (.world 5 false (.take 6 (.world 8 false (.take 9 (.take 10 (.take 21 (.take 25 (.take 29 (.take 30 (.done))))))) .none)) .none) .none)))))))))))))))))))))⟩
  | 10 => ⟨[([], [1]), ([0], [0, 4]), ([], [3]), ([2, 1], [2, 4]), ([1, 3], [1, 3, 7]), ([], [6]), ([5, 3], [5, 7]), ([4, 6], [4, 6, 23]), ([], [11]), ([], [10]), ([9], [9, 11]), ([8, 10], [8, 10, 16]), ([], [15]), ([], [14]), ([13], [13, 15]), ([12, 14], [12, 14, 16]), ([11, 15], [11, 15, 22]), ([], [18]), ([17], [17, 21]), ([], [20]), ([19], [19, 21]), ([18, 20], [18, 20, 22]), ([16, 21], [16, 21, 23]), ([7, 22], [7, 22, 24]), ([23, 6, 0, 1, 2, 3, 4, 5, 6, 7, 8, 9, 10, 11, 12, 13, 14, 15, 16, 17, 18, 19, 20, 21, 22, 23], [23])], .take 0 (.take 2 (.take 5 (.take 8 (.take 9 (.take 10 (.take 11 (.take 12 (.take 13 (.take 14 (.take 15 (.take 16 (.take 17 (.take 18 (.take 19 (.take 20 (.take 21 (.take 22 (.world 1 false (.world 3 false (.take 4 (.world 6 false (.take 7 (.take 23 (.take 24 (.done)))) .none)) .none) .none))))))))))))))))))⟩
  | 15 => ⟨[([], [8]), ([], [2]), ([1], [1, 3]), ([2], [2, 7]), ([], [5]), ([4], [4, 6]), ([5], [5, 7]), ([3, 6], [3, 6, 9]), ([0, 0, 1, 2, 3, 4, 5, 6, 7], [0, 9]), ([8, 7, 0, 1, 2, 3, 4, 5, 6, 7], [7, 8])], .take 0 (.take 1 (.take 2 (.take 3 (.take 4 (.take 5 (.take 6 (.take 7 (.take 8 (.world 9 true (.done) .none)))))))))⟩
  | _ => ⟨[], .done⟩
def oublietteref07_With.b2 (x4 : Value) (x6 : Value) (x8 : Value) (x14 : Value) (g : Nat → Value) (N1 : List Value → World → Prop) (R : KV) (X : KX) (w : World) : Prop :=
  pBinI .lss .i64 x14 (.int .i64 8) fun t105 =>
  scond t105
  (drawn w fun S w =>
    pIAr 8 1 x8 x14 fun t110 =>
    pLd S t110 fun t111 =>
    pIAr 8 1 x4 x14 fun t113 =>
    pLd S t113 fun t114 =>
    pBinI .add .u32 t111 t114 fun t115 =>
    pIAr 8 1 x8 x14 fun t116 =>
    pSt t116 t115 w fun _ w =>
    anew w fun S w =>
    pBinI .add .i64 x14 (.int .i64 1) fun t107 =>
    N1 [(g 0), (g 1), (g 2), (g 3), x4, (g 5), x6, (g 7), x8, (g 9), (g 10), (g 11), (g 12), (g 13), t107, (g 15), (g 16), (g 17), (g 18), (g 19), (g 20), (g 21), (g 22), (g 23), (g 24), (g 25), (g 26), (g 27), (g 28), (g 29), (g 30), (g 31), (g 32), (g 33), (g 34), (g 35), (g 36), (g 37), (g 38), (g 39), (g 40), (g 41), (g 42), (g 43), (g 44), (g 45), (g 46), (g 47), (g 48), (g 49), (g 50), (g 51), (g 52), (g 53), (g 54), (g 55), (g 56), (g 57), (g 58), (g 59), (g 60), (g 61), (g 62), (g 63), (g 64), (g 65), (g 66), (g 67), (g 68), (g 69), (g 70), (g 71), (g 72), (g 73), (g 74), (g 75), (g 76), (g 77), (g 78), (g 79), (g 80), (g 81), (g 82), (g 83), (g 84), (g 85), (g 86), (g 87), (g 88), (g 89), (g 90), (g 91), (g 92), (g 93), (g 94), (g 95), (g 96), (g 97), (g 98), (g 99), (g 100), (g 101), (g 102), (g 103), x14, t105, x14, t107, x14, x14, t110, t111, x14, t113, t114, t115, t116, (g 117)] w)
  (pLdN (· = w) 8 x8 fun t117 =>
    pStN 8 x6 t117 w fun _ w =>
    pLdN (· = w) 8 x6 fun r0 =>
    R r0 w)
def oublietteref07_With.I2 (e : List Value) (R : KV) (X : KX) (w : World) : Prop := atP Tryz.prog Tryz.f86 oublietteref07_With.pl [1, 1, 1, 1, 1, 0, 1, 0] [] R X e w
theorem oublietteref07_With.I2_eq (e : List Value) (R : KV) (X : KX) (w : World) : oublietteref07_With.I2 e R X w = loopS (fun N e w => atP Tryz.prog Tryz.f86 oublietteref07_With.pl [1, 1, 1, 1, 1, 0, 1, 0, 0] [N] R X e w) e w := by kernel_rfl
def oublietteref07_With.fr2 (x4 : Value) (x6 : Value) (x8 : Value) (x14 : Value) (g : Nat → Value) : List Value := [g 0, g 1, g 2, g 3, x4, g 5, x6, g 7, x8, g 9, g 10, g 11, g 12, g 13, x14, g 15, g 16, g 17, g 18, g 19, g 20, g 21, g 22, g 23, g 24, g 25, g 26, g 27, g 28, g 29, g 30, g 31, g 32, g 33, g 34, g 35, g 36, g 37, g 38, g 39, g 40, g 41, g 42, g 43, g 44, g 45, g 46, g 47, g 48, g 49, g 50, g 51, g 52, g 53, g 54, g 55, g 56, g 57, g 58, g 59, g 60, g 61, g 62, g 63, g 64, g 65, g 66, g 67, g 68, g 69, g 70, g 71, g 72, g 73, g 74, g 75, g 76, g 77, g 78, g 79, g 80, g 81, g 82, g 83, g 84, g 85, g 86, g 87, g 88, g 89, g 90, g 91, g 92, g 93, g 94, g 95, g 96, g 97, g 98, g 99, g 100, g 101, g 102, g 103, g 104, g 105, g 106, g 107, g 108, g 109, g 110, g 111, g 112, g 113, g 114, g 115, g 116, g 117]
theorem oublietteref07_With.b2_eq (x4 : Value) (x6 : Value) (x8 : Value) (x14 : Value) (g : Nat → Value) (N1 : List Value → World → Prop) (R : KV) (X : KX) (w : World) : atP Tryz.prog Tryz.f86 oublietteref07_With.pl [1, 1, 1, 1, 1, 0, 1, 0, 0] [N1] R X (oublietteref07_With.fr2 x4 x6 x8 x14 g) w = oublietteref07_With.b2 x4 x6 x8 x14 g N1 R X w := by kernel_rfl
/-- What a round of this loop hands on. -/
def oublietteref07_With.N2 (J : Value → World → Prop) (m : Value → World → Nat) (x4 : Value) (x6 : Value) (x8 : Value) (x14 : Value) (w : World) : List Value → World → Prop := fun e w' => (∃ y14 g, e = oublietteref07_With.fr2 x4 x6 x8 y14 g ∧ J y14 w') ∧ m (nth e 14) w' < m x14 w
theorem oublietteref07_With.leaf2 {J : Value → World → Prop} {m : Value → World → Nat} {x4 : Value} {x6 : Value} {x8 : Value} {x14 : Value} {w w' : World} {e0 e1 e2 e3 e5 e7 e9 e10 e11 e12 e13 e14 e15 e16 e17 e18 e19 e20 e21 e22 e23 e24 e25 e26 e27 e28 e29 e30 e31 e32 e33 e34 e35 e36 e37 e38 e39 e40 e41 e42 e43 e44 e45 e46 e47 e48 e49 e50 e51 e52 e53 e54 e55 e56 e57 e58 e59 e60 e61 e62 e63 e64 e65 e66 e67 e68 e69 e70 e71 e72 e73 e74 e75 e76 e77 e78 e79 e80 e81 e82 e83 e84 e85 e86 e87 e88 e89 e90 e91 e92 e93 e94 e95 e96 e97 e98 e99 e100 e101 e102 e103 e104 e105 e106 e107 e108 e109 e110 e111 e112 e113 e114 e115 e116 e117 : Value} (h : J e14 w') (hm : m e14 w' < m x14 w) : oublietteref07_With.N2 J m x4 x6 x8 x14 w [e0, e1, e2, e3, x4, e5, x6, e7, x8, e9, e10, e11, e12, e13, e14, e15, e16, e17, e18, e19, e20, e21, e22, e23, e24, e25, e26, e27, e28, e29, e30, e31, e32, e33, e34, e35, e36, e37, e38, e39, e40, e41, e42, e43, e44, e45, e46, e47, e48, e49, e50, e51, e52, e53, e54, e55, e56, e57, e58, e59, e60, e61, e62, e63, e64, e65, e66, e67, e68, e69, e70, e71, e72, e73, e74, e75, e76, e77, e78, e79, e80, e81, e82, e83, e84, e85, e86, e87, e88, e89, e90, e91, e92, e93, e94, e95, e96, e97, e98, e99, e100, e101, e102, e103, e104, e105, e106, e107, e108, e109, e110, e111, e112, e113, e114, e115, e116, e117] w' :=
  ⟨⟨e14, (fun i => nth [e0, e1, e2, e3, x4, e5, x6, e7, x8, e9, e10, e11, e12, e13, e14, e15, e16, e17, e18, e19, e20, e21, e22, e23, e24, e25, e26, e27, e28, e29, e30, e31, e32, e33, e34, e35, e36, e37, e38, e39, e40, e41, e42, e43, e44, e45, e46, e47, e48, e49, e50, e51, e52, e53, e54, e55, e56, e57, e58, e59, e60, e61, e62, e63, e64, e65, e66, e67, e68, e69, e70, e71, e72, e73, e74, e75, e76, e77, e78, e79, e80, e81, e82, e83, e84, e85, e86, e87, e88, e89, e90, e91, e92, e93, e94, e95, e96, e97, e98, e99, e100, e101, e102, e103, e104, e105, e106, e107, e108, e109, e110, e111, e112, e113, e114, e115, e116, e117] i), rfl, h⟩, hm⟩
theorem oublietteref07_With.loop2 (J : Value → World → Prop) (m : Value → World → Nat) {R : KV} {X : KX} {w : World} {x4 : Value} {x6 : Value} {x8 : Value} {e0 e1 e2 e3 e5 e7 e9 e10 e11 e12 e13 e14 e15 e16 e17 e18 e19 e20 e21 e22 e23 e24 e25 e26 e27 e28 e29 e30 e31 e32 e33 e34 e35 e36 e37 e38 e39 e40 e41 e42 e43 e44 e45 e46 e47 e48 e49 e50 e51 e52 e53 e54 e55 e56 e57 e58 e59 e60 e61 e62 e63 e64 e65 e66 e67 e68 e69 e70 e71 e72 e73 e74 e75 e76 e77 e78 e79 e80 e81 e82 e83 e84 e85 e86 e87 e88 e89 e90 e91 e92 e93 e94 e95 e96 e97 e98 e99 e100 e101 e102 e103 e104 e105 e106 e107 e108 e109 e110 e111 e112 e113 e114 e115 e116 e117 : Value} (h0 : J e14 w)
    (hr : ∀ x14 g w, J x14 w → oublietteref07_With.b2 x4 x6 x8 x14 g (oublietteref07_With.N2 J m x4 x6 x8 x14 w) R X w) : oublietteref07_With.I2 [e0, e1, e2, e3, x4, e5, x6, e7, x8, e9, e10, e11, e12, e13, e14, e15, e16, e17, e18, e19, e20, e21, e22, e23, e24, e25, e26, e27, e28, e29, e30, e31, e32, e33, e34, e35, e36, e37, e38, e39, e40, e41, e42, e43, e44, e45, e46, e47, e48, e49, e50, e51, e52, e53, e54, e55, e56, e57, e58, e59, e60, e61, e62, e63, e64, e65, e66, e67, e68, e69, e70, e71, e72, e73, e74, e75, e76, e77, e78, e79, e80, e81, e82, e83, e84, e85, e86, e87, e88, e89, e90, e91, e92, e93, e94, e95, e96, e97, e98, e99, e100, e101, e102, e103, e104, e105, e106, e107, e108, e109, e110, e111, e112, e113, e114, e115, e116, e117] R X w := by
  rw [oublietteref07_With.I2_eq]
  refine ⟨fun e w => ∃ y14 g, e = oublietteref07_With.fr2 x4 x6 x8 y14 g ∧ J y14 w, fun e w => m (nth e 14) w, ⟨e14, (fun i => nth [e0, e1, e2, e3, x4, e5, x6, e7, x8, e9, e10, e11, e12, e13, e14, e15, e16, e17, e18, e19, e20, e21, e22, e23, e24, e25, e26, e27, e28, e29, e30, e31, e32, e33, e34, e35, e36, e37, e38, e39, e40, e41, e42, e43, e44, e45, e46, e47, e48, e49, e50, e51, e52, e53, e54, e55, e56, e57, e58, e59, e60, e61, e62, e63, e64, e65, e66, e67, e68, e69, e70, e71, e72, e73, e74, e75, e76, e77, e78, e79, e80, e81, e82, e83, e84, e85, e86, e87, e88, e89, e90, e91, e92, e93, e94, e95, e96, e97, e98, e99, e100, e101, e102, e103, e104, e105, e106, e107, e108, e109, e110, e111, e112, e113, e114, e115, e116, e117] i), rfl, h0⟩, ?_⟩
  rintro _ w ⟨y14, g, rfl, hJ⟩
  rw [oublietteref07_With.b2_eq]
  exact hr y14 g w hJ
def oublietteref07_With.b1 (x3 : Value) (x4 : Value) (x6 : Value) (x7 : Value) (x8 : Value) (x9 : Value) (g : Nat → Value) (N1 : List Value → World → Prop) (R : KV) (X : KX) (w : World) : Prop :=
  pBinI .lss .i64 x9 (.int .i64 64) fun t23 =>
  scond t23
  (drawn w fun S w =>
    pIAr 8 1 x8 (.int .i64 0) fun t26 =>
    pLd S t26 fun t27 =>
    pIAr 8 1 x8 (.int .i64 4) fun t28 =>
    pLd S t28 fun t29 =>
    drawn w fun S w =>
    pIAr 8 1 x8 (.int .i64 7) fun t30 =>
    pLd S t30 fun t31 =>
    pIAr 8 1 x8 (.int .i64 5) fun t42 =>
    pLd S t42 fun t43 =>
    pBinI .and .u32 t29 t43 fun t44 =>
    pInv .u32 t29 fun t46 =>
    pIAr 8 1 x8 (.int .i64 6) fun t47 =>
    pLd S t47 fun t48 =>
    pBinI .and .u32 t46 t48 fun t49 =>
    pBinI .xor .u32 t44 t49 fun t50 =>
    pIAr 64 1 x3 x9 fun t53 =>
    pLd S t53 fun t54 =>
    pIAr 64 1 x7 x9 fun t57 =>
    pLd S t57 fun t58 =>
    pCall Tryz.prog 96 [t29, (.int .i64 6)] X w fun t33 w =>
    S w ∧ (pCall Tryz.prog 96 [t29, (.int .i64 11)] X w fun t35 w =>
      S w ∧ (pBinI .xor .u32 t33 t35 fun t36 =>
        pCall Tryz.prog 96 [t29, (.int .i64 25)] X w fun t38 w =>
        S w ∧ (pBinI .xor .u32 t36 t38 fun t39 =>
          pBinI .add .u32 t31 t39 fun t40 =>
          pBinI .add .u32 t40 t50 fun t51 =>
          pBinI .add .u32 t51 t54 fun t55 =>
          pBinI .add .u32 t55 t58 fun t59 =>
          drawn w fun S w =>
          pIAr 8 1 x8 (.int .i64 1) fun t69 =>
          pLd S t69 fun t70 =>
          pBinI .and .u32 t27 t70 fun t71 =>
          pIAr 8 1 x8 (.int .i64 2) fun t73 =>
          pLd S t73 fun t74 =>
          pBinI .and .u32 t27 t74 fun t75 =>
          pBinI .xor .u32 t71 t75 fun t76 =>
          pIAr 8 1 x8 (.int .i64 1) fun t77 =>
          pLd S t77 fun t78 =>
          pIAr 8 1 x8 (.int .i64 2) fun t79 =>
          pLd S t79 fun t80 =>
          pBinI .and .u32 t78 t80 fun t81 =>
          pBinI .xor .u32 t76 t81 fun t82 =>
          pCall Tryz.prog 96 [t27, (.int .i64 2)] X w fun t61 w =>
          S w ∧ (pCall Tryz.prog 96 [t27, (.int .i64 13)] X w fun t63 w =>
            S w ∧ (pBinI .xor .u32 t61 t63 fun t64 =>
              pCall Tryz.prog 96 [t27, (.int .i64 22)] X w fun t66 w =>
              S w ∧ (pBinI .xor .u32 t64 t66 fun t67 =>
                pBinI .add .u32 t67 t82 fun t83 =>
                pBinI .add .u32 t59 t83 fun t86 =>
                pIAr 8 1 x8 (.int .i64 0) fun t87 =>
                pLd (· = w) t87 fun t88 =>
                pIAr 8 1 x8 (.int .i64 1) fun t89 =>
                pLd (· = w) t89 fun t90 =>
                pIAr 8 1 x8 (.int .i64 2) fun t91 =>
                pLd (· = w) t91 fun t92 =>
                pIAr 8 1 x8 (.int .i64 3) fun t93 =>
                pLd (· = w) t93 fun t94 =>
                pBinI .add .u32 t94 t59 fun t96 =>
                pIAr 8 1 x8 (.int .i64 4) fun t97 =>
                pLd (· = w) t97 fun t98 =>
                pIAr 8 1 x8 (.int .i64 5) fun t99 =>
                pLd (· = w) t99 fun t100 =>
                pIAr 8 1 x8 (.int .i64 6) fun t101 =>
                pLd (· = w) t101 fun t102 =>
                pBuild [.int .u32 0, .int .u32 0, .int .u32 0, .int .u32 0, .int .u32 0, .int .u32 0, .int .u32 0, .int .u32 0] [(0, 1, t86), (1, 1, t88), (2, 1, t90), (3, 1, t92), (4, 1, t96), (5, 1, t98), (6, 1, t100), (7, 1, t102)] fun t103 =>
                pStN 8 x8 t103 w fun _ w =>
                pBinI .add .i64 x9 (.int .i64 1) fun t25 =>
                N1 [(g 0), (g 1), (g 2), x3, x4, (g 5), x6, x7, x8, t25, t27, t29, t59, t83, (g 14), (g 15), (g 16), (g 17), (g 18), (g 19), (g 20), (g 21), x9, t23, x9, t25, t26, t27, t28, t29, t30, t31, t29, t33, t29, t35, t36, t29, t38, t39, t40, t29, t42, t43, t44, t29, t46, t47, t48, t49, t50, t51, x9, t53, t54, t55, x9, t57, t58, t59, t27, t61, t27, t63, t64, t27, t66, t67, t27, t69, t70, t71, t27, t73, t74, t75, t76, t77, t78, t79, t80, t81, t82, t83, t59, t83, t86, t87, t88, t89, t90, t91, t92, t93, t94, t59, t96, t97, t98, t99, t100, t101, t102, t103, (g 104), (g 105), (g 106), (g 107), (g 108), (g 109), (g 110), (g 111), (g 112), (g 113), (g 114), (g 115), (g 116), (g 117)] w)))))))
  (oublietteref07_With.I2 [(g 0), (g 1), (g 2), x3, x4, (g 5), x6, x7, x8, x9, (g 10), (g 11), (g 12), (g 13), (.int .i64 0), (g 15), (g 16), (g 17), (g 18), (g 19), (g 20), (g 21), x9, t23, (g 24), (g 25), (g 26), (g 27), (g 28), (g 29), (g 30), (g 31), (g 32), (g 33), (g 34), (g 35), (g 36), (g 37), (g 38), (g 39), (g 40), (g 41), (g 42), (g 43), (g 44), (g 45), (g 46), (g 47), (g 48), (g 49), (g 50), (g 51), (g 52), (g 53), (g 54), (g 55), (g 56), (g 57), (g 58), (g 59), (g 60), (g 61), (g 62), (g 63), (g 64), (g 65), (g 66), (g 67), (g 68), (g 69), (g 70), (g 71), (g 72), (g 73), (g 74), (g 75), (g 76), (g 77), (g 78), (g 79), (g 80), (g 81), (g 82), (g 83), (g 84), (g 85), (g 86), (g 87), (g 88), (g 89), (g 90), (g 91), (g 92), (g 93), (g 94), (g 95), (g 96), (g 97), (g 98), (g 99), (g 100), (g 101), (g 102), (g 103), (g 104), (g 105), (g 106), (g 107), (g 108), (g 109), (g 110), (g 111), (g 112), (g 113), (g 114), (g 115), (g 116), (g 117)] R X w)
def oublietteref07_With.I1 (e : List Value) (R : KV) (X : KX) (w : World) : Prop := atP Tryz.prog Tryz.f86 oublietteref07_With.pl [1, 1, 1, 1, 0, 1, 0] [] R X e w
theorem oublietteref07_With.I1_eq (e : List Value) (R : KV) (X : KX) (w : World) : oublietteref07_With.I1 e R X w = loopS (fun N e w => atP Tryz.prog Tryz.f86 oublietteref07_With.pl [1, 1, 1, 1, 0, 1, 0, 0] [N] R X e w) e w := by kernel_rfl
def oublietteref07_With.fr1 (x3 : Value) (x4 : Value) (x6 : Value) (x7 : Value) (x8 : Value) (x9 : Value) (g : Nat → Value) : List Value := [g 0, g 1, g 2, x3, x4, g 5, x6, x7, x8, x9, g 10, g 11, g 12, g 13, g 14, g 15, g 16, g 17, g 18, g 19, g 20, g 21, g 22, g 23, g 24, g 25, g 26, g 27, g 28, g 29, g 30, g 31, g 32, g 33, g 34, g 35, g 36, g 37, g 38, g 39, g 40, g 41, g 42, g 43, g 44, g 45, g 46, g 47, g 48, g 49, g 50, g 51, g 52, g 53, g 54, g 55, g 56, g 57, g 58, g 59, g 60, g 61, g 62, g 63, g 64, g 65, g 66, g 67, g 68, g 69, g 70, g 71, g 72, g 73, g 74, g 75, g 76, g 77, g 78, g 79, g 80, g 81, g 82, g 83, g 84, g 85, g 86, g 87, g 88, g 89, g 90, g 91, g 92, g 93, g 94, g 95, g 96, g 97, g 98, g 99, g 100, g 101, g 102, g 103, g 104, g 105, g 106, g 107, g 108, g 109, g 110, g 111, g 112, g 113, g 114, g 115, g 116, g 117]
theorem oublietteref07_With.b1_eq (x3 : Value) (x4 : Value) (x6 : Value) (x7 : Value) (x8 : Value) (x9 : Value) (g : Nat → Value) (N1 : List Value → World → Prop) (R : KV) (X : KX) (w : World) : atP Tryz.prog Tryz.f86 oublietteref07_With.pl [1, 1, 1, 1, 0, 1, 0, 0] [N1] R X (oublietteref07_With.fr1 x3 x4 x6 x7 x8 x9 g) w = oublietteref07_With.b1 x3 x4 x6 x7 x8 x9 g N1 R X w := by kernel_rfl
/-- What a round of this loop hands on. -/
def oublietteref07_With.N1 (J : Value → World → Prop) (m : Value → World → Nat) (x3 : Value) (x4 : Value) (x6 : Value) (x7 : Value) (x8 : Value) (x9 : Value) (w : World) : List Value → World → Prop := fun e w' => (∃ y9 g, e = oublietteref07_With.fr1 x3 x4 x6 x7 x8 y9 g ∧ J y9 w') ∧ m (nth e 9) w' < m x9 w
theorem oublietteref07_With.leaf1 {J : Value → World → Prop} {m : Value → World → Nat} {x3 : Value} {x4 : Value} {x6 : Value} {x7 : Value} {x8 : Value} {x9 : Value} {w w' : World} {e0 e1 e2 e5 e9 e10 e11 e12 e13 e14 e15 e16 e17 e18 e19 e20 e21 e22 e23 e24 e25 e26 e27 e28 e29 e30 e31 e32 e33 e34 e35 e36 e37 e38 e39 e40 e41 e42 e43 e44 e45 e46 e47 e48 e49 e50 e51 e52 e53 e54 e55 e56 e57 e58 e59 e60 e61 e62 e63 e64 e65 e66 e67 e68 e69 e70 e71 e72 e73 e74 e75 e76 e77 e78 e79 e80 e81 e82 e83 e84 e85 e86 e87 e88 e89 e90 e91 e92 e93 e94 e95 e96 e97 e98 e99 e100 e101 e102 e103 e104 e105 e106 e107 e108 e109 e110 e111 e112 e113 e114 e115 e116 e117 : Value} (h : J e9 w') (hm : m e9 w' < m x9 w) : oublietteref07_With.N1 J m x3 x4 x6 x7 x8 x9 w [e0, e1, e2, x3, x4, e5, x6, x7, x8, e9, e10, e11, e12, e13, e14, e15, e16, e17, e18, e19, e20, e21, e22, e23, e24, e25, e26, e27, e28, e29, e30, e31, e32, e33, e34, e35, e36, e37, e38, e39, e40, e41, e42, e43, e44, e45, e46, e47, e48, e49, e50, e51, e52, e53, e54, e55, e56, e57, e58, e59, e60, e61, e62, e63, e64, e65, e66, e67, e68, e69, e70, e71, e72, e73, e74, e75, e76, e77, e78, e79, e80, e81, e82, e83, e84, e85, e86, e87, e88, e89, e90, e91, e92, e93, e94, e95, e96, e97, e98, e99, e100, e101, e102, e103, e104, e105, e106, e107, e108, e109, e110, e111, e112, e113, e114, e115, e116, e117] w' :=
  ⟨⟨e9, (fun i => nth [e0, e1, e2, x3, x4, e5, x6, x7, x8, e9, e10, e11, e12, e13, e14, e15, e16, e17, e18, e19, e20, e21, e22, e23, e24, e25, e26, e27, e28, e29, e30, e31, e32, e33, e34, e35, e36, e37, e38, e39, e40, e41, e42, e43, e44, e45, e46, e47, e48, e49, e50, e51, e52, e53, e54, e55, e56, e57, e58, e59, e60, e61, e62, e63, e64, e65, e66, e67, e68, e69, e70, e71, e72, e73, e74, e75, e76, e77, e78, e79, e80, e81, e82, e83, e84, e85, e86, e87, e88, e89, e90, e91, e92, e93, e94, e95, e96, e97, e98, e99, e100, e101, e102, e103, e104, e105, e106, e107, e108, e109, e110, e111, e112, e113, e114, e115, e116, e117] i), rfl, h⟩, hm⟩
theorem oublietteref07_With.loop1 (J : Value → World → Prop) (m : Value → World → Nat) {R : KV} {X : KX} {w : World} {x3 : Value} {x4 : Value} {x6 : Value} {x7 : Value} {x8 : Value} {e0 e1 e2 e5 e9 e10 e11 e12 e13 e14 e15 e16 e17 e18 e19 e20 e21 e22 e23 e24 e25 e26 e27 e28 e29 e30 e31 e32 e33 e34 e35 e36 e37 e38 e39 e40 e41 e42 e43 e44 e45 e46 e47 e48 e49 e50 e51 e52 e53 e54 e55 e56 e57 e58 e59 e60 e61 e62 e63 e64 e65 e66 e67 e68 e69 e70 e71 e72 e73 e74 e75 e76 e77 e78 e79 e80 e81 e82 e83 e84 e85 e86 e87 e88 e89 e90 e91 e92 e93 e94 e95 e96 e97 e98 e99 e100 e101 e102 e103 e104 e105 e106 e107 e108 e109 e110 e111 e112 e113 e114 e115 e116 e117 : Value} (h0 : J e9 w)
    (hr : ∀ x9 g w, J x9 w → oublietteref07_With.b1 x3 x4 x6 x7 x8 x9 g (oublietteref07_With.N1 J m x3 x4 x6 x7 x8 x9 w) R X w) : oublietteref07_With.I1 [e0, e1, e2, x3, x4, e5, x6, x7, x8, e9, e10, e11, e12, e13, e14, e15, e16, e17, e18, e19, e20, e21, e22, e23, e24, e25, e26, e27, e28, e29, e30, e31, e32, e33, e34, e35, e36, e37, e38, e39, e40, e41, e42, e43, e44, e45, e46, e47, e48, e49, e50, e51, e52, e53, e54, e55, e56, e57, e58, e59, e60, e61, e62, e63, e64, e65, e66, e67, e68, e69, e70, e71, e72, e73, e74, e75, e76, e77, e78, e79, e80, e81, e82, e83, e84, e85, e86, e87, e88, e89, e90, e91, e92, e93, e94, e95, e96, e97, e98, e99, e100, e101, e102, e103, e104, e105, e106, e107, e108, e109, e110, e111, e112, e113, e114, e115, e116, e117] R X w := by
  rw [oublietteref07_With.I1_eq]
  refine ⟨fun e w => ∃ y9 g, e = oublietteref07_With.fr1 x3 x4 x6 x7 x8 y9 g ∧ J y9 w, fun e w => m (nth e 9) w, ⟨e9, (fun i => nth [e0, e1, e2, x3, x4, e5, x6, x7, x8, e9, e10, e11, e12, e13, e14, e15, e16, e17, e18, e19, e20, e21, e22, e23, e24, e25, e26, e27, e28, e29, e30, e31, e32, e33, e34, e35, e36, e37, e38, e39, e40, e41, e42, e43, e44, e45, e46, e47, e48, e49, e50, e51, e52, e53, e54, e55, e56, e57, e58, e59, e60, e61, e62, e63, e64, e65, e66, e67, e68, e69, e70, e71, e72, e73, e74, e75, e76, e77, e78, e79, e80, e81, e82, e83, e84, e85, e86, e87, e88, e89, e90, e91, e92, e93, e94, e95, e96, e97, e98, e99, e100, e101, e102, e103, e104, e105, e106, e107, e108, e109, e110, e111, e112, e113, e114, e115, e116, e117] i), rfl, h0⟩, ?_⟩
  rintro _ w ⟨y9, g, rfl, hJ⟩
  rw [oublietteref07_With.b1_eq]
  exact hr y9 g w hJ
def oublietteref07_With.b (x0 : Value) (x1 : Value) (x2 : Value) (R : KV) (X : KX) (w : World) : Prop :=
  pBox 138 x0 w fun t3 w =>
  pBox 140 x1 w fun t4 w =>
  pBox 140 (.agg #[.int .u32 0, .int .u32 0, .int .u32 0, .int .u32 0, .int .u32 0, .int .u32 0, .int .u32 0, .int .u32 0]) w fun t6 w =>
  pLenSl x2 fun t16 =>
  pBinI .neq .i64 t16 (.int .i64 64) fun t17 =>
  scond t17
  (pLdN (· = w) 8 t4 fun t18 =>
    pStN 8 t6 t18 w fun _ w =>
    pLdN (· = w) 8 t6 fun r0 =>
    R r0 w)
  (pCall Tryz.prog 95 [x2] X w fun t20 w =>
    pBox 138 (.agg #[.int .u32 0, .int .u32 0, .int .u32 0, .int .u32 0, .int .u32 0, .int .u32 0, .int .u32 0, .int .u32 0, .int .u32 0, .int .u32 0, .int .u32 0, .int .u32 0, .int .u32 0, .int .u32 0, .int .u32 0, .int .u32 0, .int .u32 0, .int .u32 0, .int .u32 0, .int .u32 0, .int .u32 0, .int .u32 0, .int .u32 0, .int .u32 0, .int .u32 0, .int .u32 0, .int .u32 0, .int .u32 0, .int .u32 0, .int .u32 0, .int .u32 0, .int .u32 0, .int .u32 0, .int .u32 0, .int .u32 0, .int .u32 0, .int .u32 0, .int .u32 0, .int .u32 0, .int .u32 0, .int .u32 0, .int .u32 0, .int .u32 0, .int .u32 0, .int .u32 0, .int .u32 0, .int .u32 0, .int .u32 0, .int .u32 0, .int .u32 0, .int .u32 0, .int .u32 0, .int .u32 0, .int .u32 0, .int .u32 0, .int .u32 0, .int .u32 0, .int .u32 0, .int .u32 0, .int .u32 0, .int .u32 0, .int .u32 0, .int .u32 0, .int .u32 0]) w fun t7 w =>
    pStN 64 t7 t20 w fun _ w =>
    pLdN (· = w) 8 t4 fun t21 =>
    pBox 140 (.agg #[.int .u32 0, .int .u32 0, .int .u32 0, .int .u32 0, .int .u32 0, .int .u32 0, .int .u32 0, .int .u32 0]) w fun t8 w =>
    pStN 8 t8 t21 w fun _ w =>
    oublietteref07_With.I1 [x0, x1, x2, t3, t4, undef, t6, t7, t8, (.int .i64 0), undef, undef, undef, undef, undef, x2, t16, t17, undef, x2, t20, t21, undef, undef, undef, undef, undef, undef, undef, undef, undef, undef, undef, undef, undef, undef, undef, undef, undef, undef, undef, undef, undef, undef, undef, undef, undef, undef, undef, undef, undef, undef, undef, undef, undef, undef, undef, undef, undef, undef, undef, undef, undef, undef, undef, undef, undef, undef, undef, undef, undef, undef, undef, undef, undef, undef, undef, undef, undef, undef, undef, undef, undef, undef, undef, undef, undef, undef, undef, undef, undef, undef, undef, undef, undef, undef, undef, undef, undef, undef, undef, undef, undef, undef, undef, undef, undef, undef, undef, undef, undef, undef, undef, undef, undef, undef, undef, undef] R X w)
theorem oublietteref07_With.b_eq (x0 : Value) (x1 : Value) (x2 : Value) (R : KV) (X : KX) (w : World) : atP Tryz.prog Tryz.f86 oublietteref07_With.pl [] [] R X ([x0, x1, x2] ++ undefs 115) w = oublietteref07_With.b x0 x1 x2 R X w := by kernel_rfl
theorem oublietteref07_With.calls {x0 x1 x2 : Value} {R : KV} {X : KX} {w : World} (h : oublietteref07_With.b x0 x1 x2 R X w) : GCalls Tryz.prog 86 [x0, x1, x2] R X w :=
  gcalls_of (pl := oublietteref07_With.pl) Tryz.func86 rfl (by kernel_rfl) hmixed (oublietteref07_With.b_eq x0 x1 x2 R X w ▸ h)

/-! oubliette/oublietteref07.Words -/
def oublietteref07_Words.pl : Nat → DrawPlan
  | 12 => ⟨[([], [1]), ([0], [0, 2]), ([1], [1, 3]), ([2], [2, 8]), ([], [5]), ([4], [4, 6]), ([5], [5, 7]), ([6], [6, 9]), ([3, 0, 1, 2, 3], [3]), ([7, 8, 0, 1, 2, 3, 4, 5, 6, 7, 8], [7])], .take 0 (.take 1 (.take 2 (.take 3 (.take 4 (.take 5 (.take 6 (.take 7 (.take 8 (.take 9 (.done))))))))))⟩
  | 13 => ⟨[([], [28]), ([], [2]), ([1], [1, 5]), ([], [4]), ([3, 2], [3, 5]), ([2, 4], [2, 4, 8]), ([], [7]), ([6], [6, 8]), ([5, 7], [5, 7, 13]), ([], [10]), ([9], [9, 11]), ([10], [10, 12]), ([11], [11, 13]), ([8, 12], [8, 12, 22]), ([], [15]), ([14, 4], [14, 18]), ([], [17]), ([16, 15], [16, 18]), ([15, 17], [15, 17, 21]), ([], [20]), ([19], [19, 21]), ([18, 20], [18, 20, 22]), ([13, 21], [13, 21, 27]), ([], [24]), ([23], [23, 25]), ([24], [24, 26]), ([25], [25, 27]), ([22, 26], [22, 26, 29]), ([0, 0, 1, 2, 3, 4, 5, 6, 7, 8, 9, 10, 11, 12, 13, 14, 15, 16, 17, 18, 19, 20, 21, 22, 23, 24, 25, 26, 27], [0, 29]), ([28, 27, 17, 0, 1, 2, 3, 4, 5, 6, 7, 8, 9, 10, 11, 12, 13, 14, 15, 16, 17, 18, 19, 20, 21, 22, 23, 24, 25, 26, 27], [27, 28])], .take 0 (.take 1 (.take 3 (.take 6 (.take 7 (.take 9 (.take 10 (.take 11 (.take 12 (.take 14 (.take 16 (.take 19 (.take 20 (.take 23 (.take 24 (.take 25 (.take 26 (.world 2 false (.world 4 false (.take 5 (.take 8 (.take 13 (.world 15 false (.world 17 false (.take 18 (.take 21 (.take 22 (.take 27 (.take 28 (.world 29 true (.done) .none)))))) .none) .none)))) .none) .none)))))))))))))))))⟩
  | _ => ⟨[], .done⟩
def oublietteref07_Words.b2 (x2 : Value) (x3 : Value) (x7 : Value) (g : Nat → Value) (N1 : List Value → World → Prop) (R : KV) (X : KX) (w : World) : Prop :=
  pBinI .lss .i64 x7 (.int .i64 64) fun t34 =>
  scond t34
  (drawn w fun S w =>
    pBinI .sub .i64 x7 (.int .i64 2) fun t38 =>
    pIAr 64 1 x3 t38 fun t39 =>
    pLd S t39 fun t40 =>
    pBinI .sub .i64 x7 (.int .i64 15) fun t42 =>
    pIAr 64 1 x3 t42 fun t43 =>
    pLd S t43 fun t44 =>
    drawn w fun S w =>
    pShift .shr .u32 t40 (.int .u64 10) fun t52 =>
    pBinI .sub .i64 x7 (.int .i64 7) fun t55 =>
    pIAr 64 1 x3 t55 fun t56 =>
    pLd S t56 fun t57 =>
    pShift .shr .u32 t44 (.int .u64 3) fun t65 =>
    pBinI .sub .i64 x7 (.int .i64 16) fun t69 =>
    pIAr 64 1 x3 t69 fun t70 =>
    pLd S t70 fun t71 =>
    pCall Tryz.prog 96 [t40, (.int .i64 17)] X w fun t47 w =>
    S w ∧ (pCall Tryz.prog 96 [t40, (.int .i64 19)] X w fun t49 w =>
      S w ∧ (pBinI .xor .u32 t47 t49 fun t50 =>
        pBinI .xor .u32 t50 t52 fun t53 =>
        pBinI .add .u32 t53 t57 fun t58 =>
        pCall Tryz.prog 96 [t44, (.int .i64 7)] X w fun t60 w =>
        S w ∧ (pCall Tryz.prog 96 [t44, (.int .i64 18)] X w fun t62 w =>
          S w ∧ (pBinI .xor .u32 t60 t62 fun t63 =>
            pBinI .xor .u32 t63 t65 fun t66 =>
            pBinI .add .u32 t58 t66 fun t67 =>
            pBinI .add .u32 t67 t71 fun t72 =>
            pIAr 64 1 x3 x7 fun t73 =>
            pSt t73 t72 w fun _ w =>
            anew w fun S w =>
            pBinI .add .i64 x7 (.int .i64 1) fun t36 =>
            N1 [(g 0), (g 1), x2, x3, (g 4), (g 5), (g 6), t36, t40, t44, (g 10), (g 11), (g 12), (g 13), (g 14), (g 15), (g 16), (g 17), (g 18), (g 19), (g 20), (g 21), (g 22), (g 23), (g 24), (g 25), (g 26), (g 27), (g 28), (g 29), (g 30), (g 31), (g 32), x7, t34, x7, t36, x7, t38, t39, t40, x7, t42, t43, t44, x7, t40, t47, t40, t49, t50, t40, t52, t53, x7, t55, t56, t57, t58, t44, t60, t44, t62, t63, t44, t65, t66, t67, x7, t69, t70, t71, t72, t73, (g 74)] w)))))
  (pLdN (· = w) 64 x3 fun t74 =>
    pStN 64 x2 t74 w fun _ w =>
    pLdN (· = w) 64 x2 fun r0 =>
    R r0 w)
def oublietteref07_Words.I2 (e : List Value) (R : KV) (X : KX) (w : World) : Prop := atP Tryz.prog Tryz.f95 oublietteref07_Words.pl [1, 1, 1, 1, 0, 1, 0] [] R X e w
theorem oublietteref07_Words.I2_eq (e : List Value) (R : KV) (X : KX) (w : World) : oublietteref07_Words.I2 e R X w = loopS (fun N e w => atP Tryz.prog Tryz.f95 oublietteref07_Words.pl [1, 1, 1, 1, 0, 1, 0, 0] [N] R X e w) e w := by kernel_rfl
def oublietteref07_Words.fr2 (x2 : Value) (x3 : Value) (x7 : Value) (g : Nat → Value) : List Value := [g 0, g 1, x2, x3, g 4, g 5, g 6, x7, g 8, g 9, g 10, g 11, g 12, g 13, g 14, g 15, g 16, g 17, g 18, g 19, g 20, g 21, g 22, g 23, g 24, g 25, g 26, g 27, g 28, g 29, g 30, g 31, g 32, g 33, g 34, g 35, g 36, g 37, g 38, g 39, g 40, g 41, g 42, g 43, g 44, g 45, g 46, g 47, g 48, g 49, g 50, g 51, g 52, g 53, g 54, g 55, g 56, g 57, g 58, g 59, g 60, g 61, g 62, g 63, g 64, g 65, g 66, g 67, g 68, g 69, g 70, g 71, g 72, g 73, g 74]
theorem oublietteref07_Words.b2_eq (x2 : Value) (x3 : Value) (x7 : Value) (g : Nat → Value) (N1 : List Value → World → Prop) (R : KV) (X : KX) (w : World) : atP Tryz.prog Tryz.f95 oublietteref07_Words.pl [1, 1, 1, 1, 0, 1, 0, 0] [N1] R X (oublietteref07_Words.fr2 x2 x3 x7 g) w = oublietteref07_Words.b2 x2 x3 x7 g N1 R X w := by kernel_rfl
/-- What a round of this loop hands on. -/
def oublietteref07_Words.N2 (J : Value → World → Prop) (m : Value → World → Nat) (x2 : Value) (x3 : Value) (x7 : Value) (w : World) : List Value → World → Prop := fun e w' => (∃ y7 g, e = oublietteref07_Words.fr2 x2 x3 y7 g ∧ J y7 w') ∧ m (nth e 7) w' < m x7 w
theorem oublietteref07_Words.leaf2 {J : Value → World → Prop} {m : Value → World → Nat} {x2 : Value} {x3 : Value} {x7 : Value} {w w' : World} {e0 e1 e4 e5 e6 e7 e8 e9 e10 e11 e12 e13 e14 e15 e16 e17 e18 e19 e20 e21 e22 e23 e24 e25 e26 e27 e28 e29 e30 e31 e32 e33 e34 e35 e36 e37 e38 e39 e40 e41 e42 e43 e44 e45 e46 e47 e48 e49 e50 e51 e52 e53 e54 e55 e56 e57 e58 e59 e60 e61 e62 e63 e64 e65 e66 e67 e68 e69 e70 e71 e72 e73 e74 : Value} (h : J e7 w') (hm : m e7 w' < m x7 w) : oublietteref07_Words.N2 J m x2 x3 x7 w [e0, e1, x2, x3, e4, e5, e6, e7, e8, e9, e10, e11, e12, e13, e14, e15, e16, e17, e18, e19, e20, e21, e22, e23, e24, e25, e26, e27, e28, e29, e30, e31, e32, e33, e34, e35, e36, e37, e38, e39, e40, e41, e42, e43, e44, e45, e46, e47, e48, e49, e50, e51, e52, e53, e54, e55, e56, e57, e58, e59, e60, e61, e62, e63, e64, e65, e66, e67, e68, e69, e70, e71, e72, e73, e74] w' :=
  ⟨⟨e7, (fun i => nth [e0, e1, x2, x3, e4, e5, e6, e7, e8, e9, e10, e11, e12, e13, e14, e15, e16, e17, e18, e19, e20, e21, e22, e23, e24, e25, e26, e27, e28, e29, e30, e31, e32, e33, e34, e35, e36, e37, e38, e39, e40, e41, e42, e43, e44, e45, e46, e47, e48, e49, e50, e51, e52, e53, e54, e55, e56, e57, e58, e59, e60, e61, e62, e63, e64, e65, e66, e67, e68, e69, e70, e71, e72, e73, e74] i), rfl, h⟩, hm⟩
theorem oublietteref07_Words.loop2 (J : Value → World → Prop) (m : Value → World → Nat) {R : KV} {X : KX} {w : World} {x2 : Value} {x3 : Value} {e0 e1 e4 e5 e6 e7 e8 e9 e10 e11 e12 e13 e14 e15 e16 e17 e18 e19 e20 e21 e22 e23 e24 e25 e26 e27 e28 e29 e30 e31 e32 e33 e34 e35 e36 e37 e38 e39 e40 e41 e42 e43 e44 e45 e46 e47 e48 e49 e50 e51 e52 e53 e54 e55 e56 e57 e58 e59 e60 e61 e62 e63 e64 e65 e66 e67 e68 e69 e70 e71 e72 e73 e74 : Value} (h0 : J e7 w)
    (hr : ∀ x7 g w, J x7 w → oublietteref07_Words.b2 x2 x3 x7 g (oublietteref07_Words.N2 J m x2 x3 x7 w) R X w) : oublietteref07_Words.I2 [e0, e1, x2, x3, e4, e5, e6, e7, e8, e9, e10, e11, e12, e13, e14, e15, e16, e17, e18, e19, e20, e21, e22, e23, e24, e25, e26, e27, e28, e29, e30, e31, e32, e33, e34, e35, e36, e37, e38, e39, e40, e41, e42, e43, e44, e45, e46, e47, e48, e49, e50, e51, e52, e53, e54, e55, e56, e57, e58, e59, e60, e61, e62, e63, e64, e65, e66, e67, e68, e69, e70, e71, e72, e73, e74] R X w := by
  rw [oublietteref07_Words.I2_eq]
  refine ⟨fun e w => ∃ y7 g, e = oublietteref07_Words.fr2 x2 x3 y7 g ∧ J y7 w, fun e w => m (nth e 7) w, ⟨e7, (fun i => nth [e0, e1, x2, x3, e4, e5, e6, e7, e8, e9, e10, e11, e12, e13, e14, e15, e16, e17, e18, e19, e20, e21, e22, e23, e24, e25, e26, e27, e28, e29, e30, e31, e32, e33, e34, e35, e36, e37, e38, e39, e40, e41, e42, e43, e44, e45, e46, e47, e48, e49, e50, e51, e52, e53, e54, e55, e56, e57, e58, e59, e60, e61, e62, e63, e64, e65, e66, e67, e68, e69, e70, e71, e72, e73, e74] i), rfl, h0⟩, ?_⟩
  rintro _ w ⟨y7, g, rfl, hJ⟩
  rw [oublietteref07_Words.b2_eq]
  exact hr y7 g w hJ
def oublietteref07_Words.b1 (x0 : Value) (x2 : Value) (x3 : Value) (x4 : Value) (g : Nat → Value) (N1 : List Value → World → Prop) (R : KV) (X : KX) (w : World) : Prop :=
  pBinI .lss .i64 x4 (.int .i64 16) fun t15 =>
  scond t15
  (pBinI .mul .i64 (.int .i64 4) x4 fun t21 =>
    pBinI .mul .i64 (.int .i64 4) x4 fun t23 =>
    pBinI .add .i64 t23 (.int .i64 4) fun t24 =>
    pSl 1 x0 (some t21) (some t24) none fun t25 =>
    pCall Tryz.prog 107 [t25] X w fun t26 w =>
    pExt t26 0 fun t27 =>
    pExt t26 1 fun t28 =>
    pConv .u32 t27 fun t31 =>
    pIAr 64 1 x3 x4 fun t32 =>
    pSt t32 t31 w fun _ w =>
    pBinI .add .i64 x4 (.int .i64 1) fun t17 =>
    N1 [x0, (g 1), x2, x3, t17, t27, t28, (g 7), (g 8), (g 9), (g 10), (g 11), (g 12), (g 13), x4, t15, x4, t17, t26, x0, x4, t21, x4, t23, t24, t25, t26, t27, t28, x4, t27, t31, t32, (g 33), (g 34), (g 35), (g 36), (g 37), (g 38), (g 39), (g 40), (g 41), (g 42), (g 43), (g 44), (g 45), (g 46), (g 47), (g 48), (g 49), (g 50), (g 51), (g 52), (g 53), (g 54), (g 55), (g 56), (g 57), (g 58), (g 59), (g 60), (g 61), (g 62), (g 63), (g 64), (g 65), (g 66), (g 67), (g 68), (g 69), (g 70), (g 71), (g 72), (g 73), (g 74)] w)
  (oublietteref07_Words.I2 [x0, (g 1), x2, x3, x4, (g 5), (g 6), (.int .i64 16), (g 8), (g 9), (g 10), (g 11), (g 12), (g 13), x4, t15, (g 16), (g 17), (g 18), (g 19), (g 20), (g 21), (g 22), (g 23), (g 24), (g 25), (g 26), (g 27), (g 28), (g 29), (g 30), (g 31), (g 32), (g 33), (g 34), (g 35), (g 36), (g 37), (g 38), (g 39), (g 40), (g 41), (g 42), (g 43), (g 44), (g 45), (g 46), (g 47), (g 48), (g 49), (g 50), (g 51), (g 52), (g 53), (g 54), (g 55), (g 56), (g 57), (g 58), (g 59), (g 60), (g 61), (g 62), (g 63), (g 64), (g 65), (g 66), (g 67), (g 68), (g 69), (g 70), (g 71), (g 72), (g 73), (g 74)] R X w)
def oublietteref07_Words.I1 (e : List Value) (R : KV) (X : KX) (w : World) : Prop := atP Tryz.prog Tryz.f95 oublietteref07_Words.pl [1, 1, 1, 0, 1, 0] [] R X e w
theorem oublietteref07_Words.I1_eq (e : List Value) (R : KV) (X : KX) (w : World) : oublietteref07_Words.I1 e R X w = loopS (fun N e w => atP Tryz.prog Tryz.f95 oublietteref07_Words.pl [1, 1, 1, 0, 1, 0, 0] [N] R X e w) e w := by kernel_rfl
def oublietteref07_Words.fr1 (x0 : Value) (x2 : Value) (x3 : Value) (x4 : Value) (g : Nat → Value) : List Value := [x0, g 1, x2, x3, x4, g 5, g 6, g 7, g 8, g 9, g 10, g 11, g 12, g 13, g 14, g 15, g 16, g 17, g 18, g 19, g 20, g 21, g 22, g 23, g 24, g 25, g 26, g 27, g 28, g 29, g 30, g 31, g 32, g 33, g 34, g 35, g 36, g 37, g 38, g 39, g 40, g 41, g 42, g 43, g 44, g 45, g 46, g 47, g 48, g 49, g 50, g 51, g 52, g 53, g 54, g 55, g 56, g 57, g 58, g 59, g 60, g 61, g 62, g 63, g 64, g 65, g 66, g 67, g 68, g 69, g 70, g 71, g 72, g 73, g 74]
theorem oublietteref07_Words.b1_eq (x0 : Value) (x2 : Value) (x3 : Value) (x4 : Value) (g : Nat → Value) (N1 : List Value → World → Prop) (R : KV) (X : KX) (w : World) : atP Tryz.prog Tryz.f95 oublietteref07_Words.pl [1, 1, 1, 0, 1, 0, 0] [N1] R X (oublietteref07_Words.fr1 x0 x2 x3 x4 g) w = oublietteref07_Words.b1 x0 x2 x3 x4 g N1 R X w := by kernel_rfl
/-- What a round of this loop hands on. -/
def oublietteref07_Words.N1 (J : Value → World → Prop) (m : Value → World → Nat) (x0 : Value) (x2 : Value) (x3 : Value) (x4 : Value) (w : World) : List Value → World → Prop := fun e w' => (∃ y4 g, e = oublietteref07_Words.fr1 x0 x2 x3 y4 g ∧ J y4 w') ∧ m (nth e 4) w' < m x4 w
theorem oublietteref07_Words.leaf1 {J : Value → World → Prop} {m : Value → World → Nat} {x0 : Value} {x2 : Value} {x3 : Value} {x4 : Value} {w w' : World} {e1 e4 e5 e6 e7 e8 e9 e10 e11 e12 e13 e14 e15 e16 e17 e18 e19 e20 e21 e22 e23 e24 e25 e26 e27 e28 e29 e30 e31 e32 e33 e34 e35 e36 e37 e38 e39 e40 e41 e42 e43 e44 e45 e46 e47 e48 e49 e50 e51 e52 e53 e54 e55 e56 e57 e58 e59 e60 e61 e62 e63 e64 e65 e66 e67 e68 e69 e70 e71 e72 e73 e74 : Value} (h : J e4 w') (hm : m e4 w' < m x4 w) : oublietteref07_Words.N1 J m x0 x2 x3 x4 w [x0, e1, x2, x3, e4, e5, e6, e7, e8, e9, e10, e11, e12, e13, e14, e15, e16, e17, e18, e19, e20, e21, e22, e23, e24, e25, e26, e27, e28, e29, e30, e31, e32, e33, e34, e35, e36, e37, e38, e39, e40, e41, e42, e43, e44, e45, e46, e47, e48, e49, e50, e51, e52, e53, e54, e55, e56, e57, e58, e59, e60, e61, e62, e63, e64, e65, e66, e67, e68, e69, e70, e71, e72, e73, e74] w' :=
  ⟨⟨e4, (fun i => nth [x0, e1, x2, x3, e4, e5, e6, e7, e8, e9, e10, e11, e12, e13, e14, e15, e16, e17, e18, e19, e20, e21, e22, e23, e24, e25, e26, e27, e28, e29, e30, e31, e32, e33, e34, e35, e36, e37, e38, e39, e40, e41, e42, e43, e44, e45, e46, e47, e48, e49, e50, e51, e52, e53, e54, e55, e56, e57, e58, e59, e60, e61, e62, e63, e64, e65, e66, e67, e68, e69, e70, e71, e72, e73, e74] i), rfl, h⟩, hm⟩
theorem oublietteref07_Words.loop1 (J : Value → World → Prop) (m : Value → World → Nat) {R : KV} {X : KX} {w : World} {x0 : Value} {x2 : Value} {x3 : Value} {e1 e4 e5 e6 e7 e8 e9 e10 e11 e12 e13 e14 e15 e16 e17 e18 e19 e20 e21 e22 e23 e24 e25 e26 e27 e28 e29 e30 e31 e32 e33 e34 e35 e36 e37 e38 e39 e40 e41 e42 e43 e44 e45 e46 e47 e48 e49 e50 e51 e52 e53 e54 e55 e56 e57 e58 e59 e60 e61 e62 e63 e64 e65 e66 e67 e68 e69 e70 e71 e72 e73 e74 : Value} (h0 : J e4 w)
    (hr : ∀ x4 g w, J x4 w → oublietteref07_Words.b1 x0 x2 x3 x4 g (oublietteref07_Words.N1 J m x0 x2 x3 x4 w) R X w) : oublietteref07_Words.I1 [x0, e1, x2, x3, e4, e5, e6, e7, e8, e9, e10, e11, e12, e13, e14, e15, e16, e17, e18, e19, e20, e21, e22, e23, e24, e25, e26, e27, e28, e29, e30, e31, e32, e33, e34, e35, e36, e37, e38, e39, e40, e41, e42, e43, e44, e45, e46, e47, e48, e49, e50, e51, e52, e53, e54, e55, e56, e57, e58, e59, e60, e61, e62, e63, e64, e65, e66, e67, e68, e69, e70, e71, e72, e73, e74] R X w := by
  rw [oublietteref07_Words.I1_eq]
  refine ⟨fun e w => ∃ y4 g, e = oublietteref07_Words.fr1 x0 x2 x3 y4 g ∧ J y4 w, fun e w => m (nth e 4) w, ⟨e4, (fun i => nth [x0, e1, x2, x3, e4, e5, e6, e7, e8, e9, e10, e11, e12, e13, e14, e15, e16, e17, e18, e19, e20, e21, e22, e23, e24, e25, e26, e27, e28, e29, e30, e31, e32, e33, e34, e35, e36, e37, e38, e39, e40, e41, e42, e43, e44, e45, e46, e47, e48, e49, e50, e51, e52, e53, e54, e55, e56, e57, e58, e59, e60, e61, e62, e63, e64, e65, e66, e67, e68, e69, e70, e71, e72, e73, e74] i), rfl, h0⟩, ?_⟩
  rintro _ w ⟨y4, g, rfl, hJ⟩
  rw [oublietteref07_Words.b1_eq]
  exact hr y4 g w hJ
def oublietteref07_Words.b (x0 : Value) (R : KV) (X : KX) (w : World) : Prop :=
  pBox 138 (.agg #[.int .u32 0, .int .u32 0, .int .u32 0, .int .u32 0, .int .u32 0, .int .u32 0, .int .u32 0, .int .u32 0, .int .u32 0, .int .u32 0, .int .u32 0, .int .u32 0, .int .u32 0, .int .u32 0, .int .u32 0, .int .u32 0, .int .u32 0, .int .u32 0, .int .u32 0, .int .u32 0, .int .u32 0, .int .u32 0, .int .u32 0, .int .u32 0, .int .u32 0, .int .u32 0, .int .u32 0, .int .u32 0, .int .u32 0, .int .u32 0, .int .u32 0, .int .u32 0, .int .u32 0, .int .u32 0, .int .u32 0, .int .u32 0, .int .u32 0, .int .u32 0, .int .u32 0, .int .u32 0, .int .u32 0, .int .u32 0, .int .u32 0, .int .u32 0, .int .u32 0, .int .u32 0, .int .u32 0, .int .u32 0, .int .u32 0, .int .u32 0, .int .u32 0, .int .u32 0, .int .u32 0, .int .u32 0, .int .u32 0, .int .u32 0, .int .u32 0, .int .u32 0, .int .u32 0, .int .u32 0, .int .u32 0, .int .u32 0, .int .u32 0, .int .u32 0]) w fun t2 w =>
  pBox 138 (.agg #[.int .u32 0, .int .u32 0, .int .u32 0, .int .u32 0, .int .u32 0, .int .u32 0, .int .u32 0, .int .u32 0, .int .u32 0, .int .u32 0, .int .u32 0, .int .u32 0, .int .u32 0, .int .u32 0, .int .u32 0, .int .u32 0, .int .u32 0, .int .u32 0, .int .u32 0, .int .u32 0, .int .u32 0, .int .u32 0, .int .u32 0, .int .u32 0, .int .u32 0, .int .u32 0, .int .u32 0, .int .u32 0, .int .u32 0, .int .u32 0, .int .u32 0, .int .u32 0, .int .u32 0, .int .u32 0, .int .u32 0, .int .u32 0, .int .u32 0, .int .u32 0, .int .u32 0, .int .u32 0, .int .u32 0, .int .u32 0, .int .u32 0, .int .u32 0, .int .u32 0, .int .u32 0, .int .u32 0, .int .u32 0, .int .u32 0, .int .u32 0, .int .u32 0, .int .u32 0, .int .u32 0, .int .u32 0, .int .u32 0, .int .u32 0, .int .u32 0, .int .u32 0, .int .u32 0, .int .u32 0, .int .u32 0, .int .u32 0, .int .u32 0, .int .u32 0]) w fun t3 w =>
  pLenSl x0 fun t11 =>
  pBinI .neq .i64 t11 (.int .i64 64) fun t12 =>
  scond t12
  (pLdN (· = w) 64 t3 fun t13 =>
    pStN 64 t2 t13 w fun _ w =>
    pLdN (· = w) 64 t2 fun r0 =>
    R r0 w)
  (oublietteref07_Words.I1 [x0, undef, t2, t3, (.int .i64 0), undef, undef, undef, undef, undef, x0, t11, t12, undef, undef, undef, undef, undef, undef, undef, undef, undef, undef, undef, undef, undef, undef, undef, undef, undef, undef, undef, undef, undef, undef, undef, undef, undef, undef, undef, undef, undef, undef, undef, undef, undef, undef, undef, undef, undef, undef, undef, undef, undef, undef, undef, undef, undef, undef, undef, undef, undef, undef, undef, undef, undef, undef, undef, undef, undef, undef, undef, undef, undef, undef] R X w)
theorem oublietteref07_Words.b_eq (x0 : Value) (R : KV) (X : KX) (w : World) : atP Tryz.prog Tryz.f95 oublietteref07_Words.pl [] [] R X ([x0] ++ undefs 74) w = oublietteref07_Words.b x0 R X w := by kernel_rfl
theorem oublietteref07_Words.calls {x0 : Value} {R : KV} {X : KX} {w : World} (h : oublietteref07_Words.b x0 R X w) : GCalls Tryz.prog 95 [x0] R X w :=
  gcalls_of (pl := oublietteref07_Words.pl) Tryz.func95 rfl (by kernel_rfl) hmixed (oublietteref07_Words.b_eq x0 R X w ▸ h)

/-! oubliette/oublietteref07.right -/
def oublietteref07_right.pl : Nat → DrawPlan
  | 1 => ⟨[([], [2]), ([], [2]), ([0, 1], [0, 1, 7]), ([], [6]), ([], [5]), ([4], [4, 6]), ([3, 5], [3, 5, 7]), ([2, 6], [2, 6, 8]), ([7, 0, 1, 2, 3, 4, 5, 6, 7], [7])], .take 0 (.take 1 (.take 2 (.take 3 (.take 4 (.take 5 (.take 6 (.take 7 (.take 8 (.done)))))))))⟩
  | _ => ⟨[], .done⟩
def oublietteref07_right.b (x0 : Value) (x1 : Value) (R : KV) (X : KX) (w : World) : Prop :=
  drawn w fun S w =>
  pShift .shr .u32 x0 x1 fun t7 =>
  pBinI .sub .i64 (.int .i64 32) x1 fun t10 =>
  pShift .shl .u32 x0 t10 fun t11 =>
  pBinI .or .u32 t7 t11 fun t12 =>
  R t12 w
theorem oublietteref07_right.b_eq (x0 : Value) (x1 : Value) (R : KV) (X : KX) (w : World) : atP Tryz.prog Tryz.f96 oublietteref07_right.pl [] [] R X ([x0, x1] ++ undefs 11) w = oublietteref07_right.b x0 x1 R X w := by kernel_rfl
theorem oublietteref07_right.calls {x0 x1 : Value} {R : KV} {X : KX} {w : World} (h : oublietteref07_right.b x0 x1 R X w) : GCalls Tryz.prog 96 [x0, x1] R X w :=
  gcalls_of (pl := oublietteref07_right.pl) Tryz.func96 rfl (by kernel_rfl) hmixed (oublietteref07_right.b_eq x0 x1 R X w ▸ h)

/-! oubliette/sha.First -/
def sha_First.pl : Nat → DrawPlan
  | _ => ⟨[], .done⟩
def sha_First.b (R : KV) (X : KX) (w : World) : Prop :=
  pBox 140 (.agg #[.int .u32 0, .int .u32 0, .int .u32 0, .int .u32 0, .int .u32 0, .int .u32 0, .int .u32 0, .int .u32 0]) w fun t0 w =>
  pBuild [.int .u32 0, .int .u32 0, .int .u32 0, .int .u32 0, .int .u32 0, .int .u32 0, .int .u32 0, .int .u32 0] [(0, 1, (.int .u32 1779033703)), (1, 1, (.int .u32 3144134277)), (2, 1, (.int .u32 1013904242)), (3, 1, (.int .u32 2773480762)), (4, 1, (.int .u32 1359893119)), (5, 1, (.int .u32 2600822924)), (6, 1, (.int .u32 528734635)), (7, 1, (.int .u32 1541459225))] fun t1 =>
  pStN 8 t0 t1 w fun _ w =>
  pLdN (· = w) 8 t0 fun r0 =>
  R r0 w
theorem sha_First.b_eq (R : KV) (X : KX) (w : World) : atP Tryz.prog Tryz.f115 sha_First.pl [] [] R X ([] ++ undefs 2) w = sha_First.b R X w := by kernel_rfl
theorem sha_First.calls {R : KV} {X : KX} {w : World} (h : sha_First.b R X w) : GCalls Tryz.prog 115 [] R X w :=
  gcalls_of (pl := sha_First.pl) Tryz.func115 rfl (by kernel_rfl) hmixed (sha_First.b_eq R X w ▸ h)

/-! oubliette/sha.Pad -/
def sha_Pad.pl : Nat → DrawPlan
  | _ => ⟨[], .done⟩
def sha_Pad.b (x0 : Value) (R : KV) (X : KX) (w : World) : Prop :=
  pBinI .lss .i64 x0 (.int .i64 0) fun t6 =>
  gIf t6 false (fun K => K x0) fun t8 =>
  gIf t6 false (fun K => pBinI .gtr .i64 t8 (.int .i64 1099511627776) K) fun t9 =>
  pPick t6 (.bool true) t9 fun t10 =>
  scond t10
  (R (.slice none 0 0) w)
  (pDiv .rem .i64 x0 (.int .i64 64) fun t12 =>
    pBinI .sub .i64 (.int .i64 119) t12 fun t13 =>
    pDiv .rem .i64 t13 (.int .i64 64) fun t14 =>
    pBinI .add .i64 (.int .i64 1) t14 fun t16 =>
    pBinI .add .i64 (.int .i64 1) t14 fun t18 =>
    pBinI .add .i64 t18 (.int .i64 8) fun t19 =>
    pMake 5 1 [.int .u8 0] t16 t19 w fun t20 w =>
    pIA 1 t20 (.int .i64 0) fun t22 =>
    pSt t22 (.int .u8 128) w fun _ w =>
    pConv .u64 x0 fun t25 =>
    pBinI .mul .u64 t25 (.int .u64 8) fun t26 =>
    pCall Tryz.prog 62 [t26, (.int .i64 8)] X w fun t27 w =>
    pApp 5 1 1 [.int .u8 0] t20 t27 w fun t28 w =>
    R t28 w)
theorem sha_Pad.b_eq (x0 : Value) (R : KV) (X : KX) (w : World) : atP Tryz.prog Tryz.f117 sha_Pad.pl [] [] R X ([x0] ++ undefs 28) w = sha_Pad.b x0 R X w := by kernel_rfl
theorem sha_Pad.calls {x0 : Value} {R : KV} {X : KX} {w : World} (h : sha_Pad.b x0 R X w) : GCalls Tryz.prog 117 [x0] R X w :=
  gcalls_of (pl := sha_Pad.pl) Tryz.func117 rfl (by kernel_rfl) hmixed (sha_Pad.b_eq x0 R X w ▸ h)

/-! oubliette/sha.Block -/
def sha_Block.pl : Nat → DrawPlan
  | 7 => ⟨[([], [1]), ([0], [0, 4]), ([], [3]), ([2], [2, 5]), ([1, 0, 1], [1]), ([3, 4, 0, 1, 2, 3, 4], [3])], .take 0 (.take 1 (.take 2 (.take 3 (.take 4 (.take 5 (.done))))))⟩
  | 8 => ⟨[([], [1]), ([0], [0, 10]), ([], [3]), ([2], [2, 6]), ([], [5]), ([4, 3], [4, 6]), ([3, 5], [3, 5, 9]), ([], [8]), ([7, 5], [7, 9]), ([6, 8], [6, 8, 10]), ([1, 9], [1, 9, 21]), ([], [12]), ([11], [11, 20]), ([], [19]), ([], [15]), ([14], [14, 18]), ([], [17]), ([16], [16, 18]), ([15, 17], [15, 17, 19]), ([13, 18], [13, 18, 20]), ([12, 19], [12, 19, 21]), ([10, 20], [10, 20, 25]), ([], [23]), ([22], [22, 24]), ([23], [23, 25]), ([21, 24], [21, 24, 27]), ([], [27]), ([25, 26], [25, 26, 28]), ([27, 8, 0, 1, 2, 3, 4, 5, 6, 7, 8, 9, 10, 11, 12, 13, 14, 15, 16, 17, 18, 19, 20, 21, 22, 23, 24, 25, 26, 27], [27])], .take 0 (.take 1 (.take 2 (.take 4 (.take 7 (.take 11 (.take 12 (.take 13 (.take 14 (.take 15 (.take 16 (.take 17 (.take 18 (.take 19 (.take 20 (.take 22 (.take 23 (.take 24 (.take 26 (.world 3 false (.world 5 false (.take 6 (.world 8 false (.take 9 (.take 10 (.take 21 (.take 25 (.take 27 (.take 28 (.done))))))) .none)) .none) .none)))))))))))))))))))⟩
  | 9 => ⟨[([], [1]), ([0], [0, 4]), ([], [3]), ([2, 1], [2, 4]), ([1, 3], [1, 3, 7]), ([], [6]), ([5, 3], [5, 7]), ([4, 6], [4, 6, 20]), ([], [11]), ([], [10]), ([9], [9, 11]), ([8, 10], [8, 10, 19]), ([], [13]), ([12], [12, 18]), ([], [17]), ([], [16]), ([15], [15, 17]), ([14, 16], [14, 16, 18]), ([13, 17], [13, 17, 19]), ([11, 18], [11, 18, 20]), ([7, 19], [7, 19, 21]), ([20, 6, 0, 1, 2, 3, 4, 5, 6, 7, 8, 9, 10, 11, 12, 13, 14, 15, 16, 17, 18, 19, 20], [20])], .take 0 (.take 2 (.take 5 (.take 8 (.take 9 (.take 10 (.take 11 (.take 12 (.take 13 (.take 14 (.take 15 (.take 16 (.take 17 (.take 18 (.take 19 (.world 1 false (.world 3 false (.take 4 (.world 6 false (.take 7 (.take 20 (.take 21 (.done)))) .none)) .none) .none)))))))))))))))⟩
  | 10 => ⟨[([], [2]), ([], [2]), ([0, 1], [0, 1])], .take 0 (.take 1 (.world 2 false (.done) .none))⟩
  | 17 => ⟨[([], [1, 7]), ([0], [0, 2]), ([1], [1, 6]), ([], [4]), ([3], [3, 5]), ([4], [4, 6]), ([2, 5], [2, 5, 8]), ([0, 0, 1, 2, 3, 4, 5, 6], [0, 8]), ([7, 6, 0, 1, 2, 3, 4, 5, 6], [6, 7])], .take 0 (.take 1 (.take 2 (.take 3 (.take 4 (.take 5 (.take 6 (.take 7 (.world 8 true (.done) .none))))))))⟩
  | _ => ⟨[], .done⟩
def sha_Block.b2 (x2 : Value) (x4 : Value) (x5 : Value) (x90 : Value) (g : Nat → Value) (N1 : List Value → World → Prop) (R : KV) (X : KX) (w : World) : Prop :=
  pBinI .lss .i64 x90 (.int .i64 8) fun t91 =>
  scond t91
  (drawn w fun S w =>
    pIAr 8 1 x2 x90 fun t94 =>
    pLd S t94 fun t95 =>
    pIAr 8 1 x5 x90 fun t97 =>
    pLd S t97 fun t98 =>
    pBinI .add .u32 t95 t98 fun t99 =>
    pIAr 8 1 x2 x90 fun t100 =>
    pSt t100 t99 w fun _ w =>
    anew w fun S w =>
    pBinI .add .i64 x90 (.int .i64 1) fun t101 =>
    N1 [(g 0), (g 1), x2, (g 3), x4, x5, (g 6), (g 7), (g 8), (g 9), (g 10), (g 11), x90, (g 13), (g 14), (g 15), (g 16), (g 17), (g 18), (g 19), (g 20), (g 21), (g 22), (g 23), (g 24), (g 25), (g 26), (g 27), (g 28), (g 29), (g 30), (g 31), (g 32), (g 33), (g 34), (g 35), (g 36), (g 37), (g 38), (g 39), (g 40), (g 41), (g 42), (g 43), (g 44), (g 45), (g 46), (g 47), (g 48), (g 49), (g 50), (g 51), (g 52), (g 53), (g 54), (g 55), (g 56), (g 57), (g 58), (g 59), (g 60), (g 61), (g 62), (g 63), (g 64), (g 65), (g 66), (g 67), (g 68), (g 69), (g 70), (g 71), (g 72), (g 73), (g 74), (g 75), (g 76), (g 77), (g 78), (g 79), (g 80), (g 81), (g 82), (g 83), (g 84), (g 85), (g 86), (g 87), (g 88), (g 89), t101, t91, x90, x90, t94, t95, x90, t97, t98, t99, t100, t101, (g 102)] w)
  (pLdN (· = w) 8 x2 fun t102 =>
    pStN 8 x4 t102 w fun _ w =>
    pLdN (· = w) 8 x4 fun r0 =>
    R r0 w)
def sha_Block.I2 (e : List Value) (R : KV) (X : KX) (w : World) : Prop := atP Tryz.prog Tryz.f118 sha_Block.pl [1, 1, 1, 1, 0, 1, 0] [] R X e w
theorem sha_Block.I2_eq (e : List Value) (R : KV) (X : KX) (w : World) : sha_Block.I2 e R X w = loopS (fun N e w => atP Tryz.prog Tryz.f118 sha_Block.pl [1, 1, 1, 1, 0, 1, 0, 0] [N] R X e w) e w := by kernel_rfl
def sha_Block.fr2 (x2 : Value) (x4 : Value) (x5 : Value) (x90 : Value) (g : Nat → Value) : List Value := [g 0, g 1, x2, g 3, x4, x5, g 6, g 7, g 8, g 9, g 10, g 11, g 12, g 13, g 14, g 15, g 16, g 17, g 18, g 19, g 20, g 21, g 22, g 23, g 24, g 25, g 26, g 27, g 28, g 29, g 30, g 31, g 32, g 33, g 34, g 35, g 36, g 37, g 38, g 39, g 40, g 41, g 42, g 43, g 44, g 45, g 46, g 47, g 48, g 49, g 50, g 51, g 52, g 53, g 54, g 55, g 56, g 57, g 58, g 59, g 60, g 61, g 62, g 63, g 64, g 65, g 66, g 67, g 68, g 69, g 70, g 71, g 72, g 73, g 74, g 75, g 76, g 77, g 78, g 79, g 80, g 81, g 82, g 83, g 84, g 85, g 86, g 87, g 88, g 89, x90, g 91, g 92, g 93, g 94, g 95, g 96, g 97, g 98, g 99, g 100, g 101, g 102]
theorem sha_Block.b2_eq (x2 : Value) (x4 : Value) (x5 : Value) (x90 : Value) (g : Nat → Value) (N1 : List Value → World → Prop) (R : KV) (X : KX) (w : World) : atP Tryz.prog Tryz.f118 sha_Block.pl [1, 1, 1, 1, 0, 1, 0, 0] [N1] R X (sha_Block.fr2 x2 x4 x5 x90 g) w = sha_Block.b2 x2 x4 x5 x90 g N1 R X w := by kernel_rfl
/-- What a round of this loop hands on. -/
def sha_Block.N2 (J : Value → World → Prop) (m : Value → World → Nat) (x2 : Value) (x4 : Value) (x5 : Value) (x90 : Value) (w : World) : List Value → World → Prop := fun e w' => (∃ y90 g, e = sha_Block.fr2 x2 x4 x5 y90 g ∧ J y90 w') ∧ m (nth e 90) w' < m x90 w
theorem sha_Block.leaf2 {J : Value → World → Prop} {m : Value → World → Nat} {x2 : Value} {x4 : Value} {x5 : Value} {x90 : Value} {w w' : World} {e0 e1 e3 e6 e7 e8 e9 e10 e11 e12 e13 e14 e15 e16 e17 e18 e19 e20 e21 e22 e23 e24 e25 e26 e27 e28 e29 e30 e31 e32 e33 e34 e35 e36 e37 e38 e39 e40 e41 e42 e43 e44 e45 e46 e47 e48 e49 e50 e51 e52 e53 e54 e55 e56 e57 e58 e59 e60 e61 e62 e63 e64 e65 e66 e67 e68 e69 e70 e71 e72 e73 e74 e75 e76 e77 e78 e79 e80 e81 e82 e83 e84 e85 e86 e87 e88 e89 e90 e91 e92 e93 e94 e95 e96 e97 e98 e99 e100 e101 e102 : Value} (h : J e90 w') (hm : m e90 w' < m x90 w) : sha_Block.N2 J m x2 x4 x5 x90 w [e0, e1, x2, e3, x4, x5, e6, e7, e8, e9, e10, e11, e12, e13, e14, e15, e16, e17, e18, e19, e20, e21, e22, e23, e24, e25, e26, e27, e28, e29, e30, e31, e32, e33, e34, e35, e36, e37, e38, e39, e40, e41, e42, e43, e44, e45, e46, e47, e48, e49, e50, e51, e52, e53, e54, e55, e56, e57, e58, e59, e60, e61, e62, e63, e64, e65, e66, e67, e68, e69, e70, e71, e72, e73, e74, e75, e76, e77, e78, e79, e80, e81, e82, e83, e84, e85, e86, e87, e88, e89, e90, e91, e92, e93, e94, e95, e96, e97, e98, e99, e100, e101, e102] w' :=
  ⟨⟨e90, (fun i => nth [e0, e1, x2, e3, x4, x5, e6, e7, e8, e9, e10, e11, e12, e13, e14, e15, e16, e17, e18, e19, e20, e21, e22, e23, e24, e25, e26, e27, e28, e29, e30, e31, e32, e33, e34, e35, e36, e37, e38, e39, e40, e41, e42, e43, e44, e45, e46, e47, e48, e49, e50, e51, e52, e53, e54, e55, e56, e57, e58, e59, e60, e61, e62, e63, e64, e65, e66, e67, e68, e69, e70, e71, e72, e73, e74, e75, e76, e77, e78, e79, e80, e81, e82, e83, e84, e85, e86, e87, e88, e89, e90, e91, e92, e93, e94, e95, e96, e97, e98, e99, e100, e101, e102] i), rfl, h⟩, hm⟩
theorem sha_Block.loop2 (J : Value → World → Prop) (m : Value → World → Nat) {R : KV} {X : KX} {w : World} {x2 : Value} {x4 : Value} {x5 : Value} {e0 e1 e3 e6 e7 e8 e9 e10 e11 e12 e13 e14 e15 e16 e17 e18 e19 e20 e21 e22 e23 e24 e25 e26 e27 e28 e29 e30 e31 e32 e33 e34 e35 e36 e37 e38 e39 e40 e41 e42 e43 e44 e45 e46 e47 e48 e49 e50 e51 e52 e53 e54 e55 e56 e57 e58 e59 e60 e61 e62 e63 e64 e65 e66 e67 e68 e69 e70 e71 e72 e73 e74 e75 e76 e77 e78 e79 e80 e81 e82 e83 e84 e85 e86 e87 e88 e89 e90 e91 e92 e93 e94 e95 e96 e97 e98 e99 e100 e101 e102 : Value} (h0 : J e90 w)
    (hr : ∀ x90 g w, J x90 w → sha_Block.b2 x2 x4 x5 x90 g (sha_Block.N2 J m x2 x4 x5 x90 w) R X w) : sha_Block.I2 [e0, e1, x2, e3, x4, x5, e6, e7, e8, e9, e10, e11, e12, e13, e14, e15, e16, e17, e18, e19, e20, e21, e22, e23, e24, e25, e26, e27, e28, e29, e30, e31, e32, e33, e34, e35, e36, e37, e38, e39, e40, e41, e42, e43, e44, e45, e46, e47, e48, e49, e50, e51, e52, e53, e54, e55, e56, e57, e58, e59, e60, e61, e62, e63, e64, e65, e66, e67, e68, e69, e70, e71, e72, e73, e74, e75, e76, e77, e78, e79, e80, e81, e82, e83, e84, e85, e86, e87, e88, e89, e90, e91, e92, e93, e94, e95, e96, e97, e98, e99, e100, e101, e102] R X w := by
  rw [sha_Block.I2_eq]
  refine ⟨fun e w => ∃ y90 g, e = sha_Block.fr2 x2 x4 x5 y90 g ∧ J y90 w, fun e w => m (nth e 90) w, ⟨e90, (fun i => nth [e0, e1, x2, e3, x4, x5, e6, e7, e8, e9, e10, e11, e12, e13, e14, e15, e16, e17, e18, e19, e20, e21, e22, e23, e24, e25, e26, e27, e28, e29, e30, e31, e32, e33, e34, e35, e36, e37, e38, e39, e40, e41, e42, e43, e44, e45, e46, e47, e48, e49, e50, e51, e52, e53, e54, e55, e56, e57, e58, e59, e60, e61, e62, e63, e64, e65, e66, e67, e68, e69, e70, e71, e72, e73, e74, e75, e76, e77, e78, e79, e80, e81, e82, e83, e84, e85, e86, e87, e88, e89, e90, e91, e92, e93, e94, e95, e96, e97, e98, e99, e100, e101, e102] i), rfl, h0⟩, ?_⟩
  rintro _ w ⟨y90, g, rfl, hJ⟩
  rw [sha_Block.b2_eq]
  exact hr y90 g w hJ
def sha_Block.b1 (x2 : Value) (x4 : Value) (x5 : Value) (x19 : Value) (x20 : Value) (g : Nat → Value) (N1 : List Value → World → Prop) (R : KV) (X : KX) (w : World) : Prop :=
  pBinI .lss .i64 x20 (.int .i64 64) fun t21 =>
  scond t21
  (pIx 64 x19 x20 fun t23 =>
    drawn w fun S w =>
    pIAr 8 1 x2 (.int .i64 0) fun t24 =>
    pLd S t24 fun t25 =>
    pIAr 8 1 x2 (.int .i64 4) fun t26 =>
    pLd S t26 fun t27 =>
    drawn w fun S w =>
    pIAr 8 1 x2 (.int .i64 7) fun t28 =>
    pLd S t28 fun t29 =>
    pIAr 8 1 x2 (.int .i64 6) fun t39 =>
    pLd S t39 fun t40 =>
    pIAr 8 1 x2 (.int .i64 5) fun t42 =>
    pLd S t42 fun t43 =>
    pIAr 8 1 x2 (.int .i64 6) fun t44 =>
    pLd S t44 fun t45 =>
    pBinI .xor .u32 t43 t45 fun t46 =>
    pBinI .and .u32 t27 t46 fun t47 =>
    pBinI .xor .u32 t40 t47 fun t48 =>
    pIAr 64 1 (.pointer (some ⟨2, 0, none⟩)) x20 fun t51 =>
    pLd S t51 fun t52 =>
    pCall Tryz.prog 125 [t27, (.int .i64 6)] X w fun t31 w =>
    S w ∧ (pCall Tryz.prog 125 [t27, (.int .i64 11)] X w fun t33 w =>
      S w ∧ (pBinI .xor .u32 t31 t33 fun t34 =>
        pCall Tryz.prog 125 [t27, (.int .i64 25)] X w fun t36 w =>
        S w ∧ (pBinI .xor .u32 t34 t36 fun t37 =>
          pBinI .add .u32 t29 t37 fun t38 =>
          pBinI .add .u32 t38 t48 fun t49 =>
          pBinI .add .u32 t49 t52 fun t53 =>
          pBinI .add .u32 t53 t23 fun t55 =>
          drawn w fun S w =>
          pIAr 8 1 x2 (.int .i64 1) fun t65 =>
          pLd S t65 fun t66 =>
          pBinI .and .u32 t25 t66 fun t67 =>
          pIAr 8 1 x2 (.int .i64 2) fun t68 =>
          pLd S t68 fun t69 =>
          pIAr 8 1 x2 (.int .i64 1) fun t71 =>
          pLd S t71 fun t72 =>
          pBinI .or .u32 t25 t72 fun t73 =>
          pBinI .and .u32 t69 t73 fun t74 =>
          pBinI .or .u32 t67 t74 fun t75 =>
          pCall Tryz.prog 125 [t25, (.int .i64 2)] X w fun t57 w =>
          S w ∧ (pCall Tryz.prog 125 [t25, (.int .i64 13)] X w fun t59 w =>
            S w ∧ (pBinI .xor .u32 t57 t59 fun t60 =>
              pCall Tryz.prog 125 [t25, (.int .i64 22)] X w fun t62 w =>
              S w ∧ (pBinI .xor .u32 t60 t62 fun t63 =>
                pBinI .add .u32 t63 t75 fun t76 =>
                drawn w fun S w =>
                pSlA 8 1 x2 (some (.int .i64 1)) none none fun t77 =>
                pSlA 8 1 x2 none (some (.int .i64 7)) none fun t78 =>
                pCopy 1 t77 t78 w fun t79 w =>
                S w ∧ (pBinI .add .u32 t55 t76 fun t82 =>
                  pIAr 8 1 x2 (.int .i64 0) fun t83 =>
                  pSt t83 t82 w fun _ w =>
                  pIAr 8 1 x2 (.int .i64 4) fun t84 =>
                  pLd (· = w) t84 fun t85 =>
                  pBinI .add .u32 t85 t55 fun t87 =>
                  pIAr 8 1 x2 (.int .i64 4) fun t88 =>
                  pSt t88 t87 w fun _ w =>
                  pBinI .add .i64 x20 (.int .i64 1) fun t89 =>
                  N1 [(g 0), (g 1), x2, (g 3), x4, x5, x20, t23, t25, t27, t55, t76, (g 12), (g 13), (g 14), (g 15), (g 16), (g 17), (g 18), x19, t89, t21, x20, t23, t24, t25, t26, t27, t28, t29, t27, t31, t27, t33, t34, t27, t36, t37, t38, t39, t40, t27, t42, t43, t44, t45, t46, t47, t48, t49, x20, t51, t52, t53, t23, t55, t25, t57, t25, t59, t60, t25, t62, t63, t25, t65, t66, t67, t68, t69, t25, t71, t72, t73, t74, t75, t76, t77, t78, t79, t55, t76, t82, t83, t84, t85, t55, t87, t88, t89, (g 90), (g 91), (g 92), (g 93), (g 94), (g 95), (g 96), (g 97), (g 98), (g 99), (g 100), (g 101), (g 102)] w))))))))
  (sha_Block.I2 [(g 0), (g 1), x2, (g 3), x4, x5, (g 6), (g 7), (g 8), (g 9), (g 10), (g 11), (g 12), (g 13), (g 14), (g 15), (g 16), (g 17), (g 18), x19, x20, t21, (g 22), (g 23), (g 24), (g 25), (g 26), (g 27), (g 28), (g 29), (g 30), (g 31), (g 32), (g 33), (g 34), (g 35), (g 36), (g 37), (g 38), (g 39), (g 40), (g 41), (g 42), (g 43), (g 44), (g 45), (g 46), (g 47), (g 48), (g 49), (g 50), (g 51), (g 52), (g 53), (g 54), (g 55), (g 56), (g 57), (g 58), (g 59), (g 60), (g 61), (g 62), (g 63), (g 64), (g 65), (g 66), (g 67), (g 68), (g 69), (g 70), (g 71), (g 72), (g 73), (g 74), (g 75), (g 76), (g 77), (g 78), (g 79), (g 80), (g 81), (g 82), (g 83), (g 84), (g 85), (g 86), (g 87), (g 88), (g 89), (.int .i64 0), (g 91), (g 92), (g 93), (g 94), (g 95), (g 96), (g 97), (g 98), (g 99), (g 100), (g 101), (g 102)] R X w)
def sha_Block.I1 (e : List Value) (R : KV) (X : KX) (w : World) : Prop := atP Tryz.prog Tryz.f118 sha_Block.pl [1, 1, 1, 0, 1, 0] [] R X e w
theorem sha_Block.I1_eq (e : List Value) (R : KV) (X : KX) (w : World) : sha_Block.I1 e R X w = loopS (fun N e w => atP Tryz.prog Tryz.f118 sha_Block.pl [1, 1, 1, 0, 1, 0, 0] [N] R X e w) e w := by kernel_rfl
def sha_Block.fr1 (x2 : Value) (x4 : Value) (x5 : Value) (x19 : Value) (x20 : Value) (g : Nat → Value) : List Value := [g 0, g 1, x2, g 3, x4, x5, g 6, g 7, g 8, g 9, g 10, g 11, g 12, g 13, g 14, g 15, g 16, g 17, g 18, x19, x20, g 21, g 22, g 23, g 24, g 25, g 26, g 27, g 28, g 29, g 30, g 31, g 32, g 33, g 34, g 35, g 36, g 37, g 38, g 39, g 40, g 41, g 42, g 43, g 44, g 45, g 46, g 47, g 48, g 49, g 50, g 51, g 52, g 53, g 54, g 55, g 56, g 57, g 58, g 59, g 60, g 61, g 62, g 63, g 64, g 65, g 66, g 67, g 68, g 69, g 70, g 71, g 72, g 73, g 74, g 75, g 76, g 77, g 78, g 79, g 80, g 81, g 82, g 83, g 84, g 85, g 86, g 87, g 88, g 89, g 90, g 91, g 92, g 93, g 94, g 95, g 96, g 97, g 98, g 99, g 100, g 101, g 102]
theorem sha_Block.b1_eq (x2 : Value) (x4 : Value) (x5 : Value) (x19 : Value) (x20 : Value) (g : Nat → Value) (N1 : List Value → World → Prop) (R : KV) (X : KX) (w : World) : atP Tryz.prog Tryz.f118 sha_Block.pl [1, 1, 1, 0, 1, 0, 0] [N1] R X (sha_Block.fr1 x2 x4 x5 x19 x20 g) w = sha_Block.b1 x2 x4 x5 x19 x20 g N1 R X w := by kernel_rfl
/-- What a round of this loop hands on. -/
def sha_Block.N1 (J : Value → World → Prop) (m : Value → World → Nat) (x2 : Value) (x4 : Value) (x5 : Value) (x19 : Value) (x20 : Value) (w : World) : List Value → World → Prop := fun e w' => (∃ y20 g, e = sha_Block.fr1 x2 x4 x5 x19 y20 g ∧ J y20 w') ∧ m (nth e 20) w' < m x20 w
theorem sha_Block.leaf1 {J : Value → World → Prop} {m : Value → World → Nat} {x2 : Value} {x4 : Value} {x5 : Value} {x19 : Value} {x20 : Value} {w w' : World} {e0 e1 e3 e6 e7 e8 e9 e10 e11 e12 e13 e14 e15 e16 e17 e18 e20 e21 e22 e23 e24 e25 e26 e27 e28 e29 e30 e31 e32 e33 e34 e35 e36 e37 e38 e39 e40 e41 e42 e43 e44 e45 e46 e47 e48 e49 e50 e51 e52 e53 e54 e55 e56 e57 e58 e59 e60 e61 e62 e63 e64 e65 e66 e67 e68 e69 e70 e71 e72 e73 e74 e75 e76 e77 e78 e79 e80 e81 e82 e83 e84 e85 e86 e87 e88 e89 e90 e91 e92 e93 e94 e95 e96 e97 e98 e99 e100 e101 e102 : Value} (h : J e20 w') (hm : m e20 w' < m x20 w) : sha_Block.N1 J m x2 x4 x5 x19 x20 w [e0, e1, x2, e3, x4, x5, e6, e7, e8, e9, e10, e11, e12, e13, e14, e15, e16, e17, e18, x19, e20, e21, e22, e23, e24, e25, e26, e27, e28, e29, e30, e31, e32, e33, e34, e35, e36, e37, e38, e39, e40, e41, e42, e43, e44, e45, e46, e47, e48, e49, e50, e51, e52, e53, e54, e55, e56, e57, e58, e59, e60, e61, e62, e63, e64, e65, e66, e67, e68, e69, e70, e71, e72, e73, e74, e75, e76, e77, e78, e79, e80, e81, e82, e83, e84, e85, e86, e87, e88, e89, e90, e91, e92, e93, e94, e95, e96, e97, e98, e99, e100, e101, e102] w' :=
  ⟨⟨e20, (fun i => nth [e0, e1, x2, e3, x4, x5, e6, e7, e8, e9, e10, e11, e12, e13, e14, e15, e16, e17, e18, x19, e20, e21, e22, e23, e24, e25, e26, e27, e28, e29, e30, e31, e32, e33, e34, e35, e36, e37, e38, e39, e40, e41, e42, e43, e44, e45, e46, e47, e48, e49, e50, e51, e52, e53, e54, e55, e56, e57, e58, e59, e60, e61, e62, e63, e64, e65, e66, e67, e68, e69, e70, e71, e72, e73, e74, e75, e76, e77, e78, e79, e80, e81, e82, e83, e84, e85, e86, e87, e88, e89, e90, e91, e92, e93, e94, e95, e96, e97, e98, e99, e100, e101, e102] i), rfl, h⟩, hm⟩
theorem sha_Block.loop1 (J : Value → World → Prop) (m : Value → World → Nat) {R : KV} {X : KX} {w : World} {x2 : Value} {x4 : Value} {x5 : Value} {x19 : Value} {e0 e1 e3 e6 e7 e8 e9 e10 e11 e12 e13 e14 e15 e16 e17 e18 e20 e21 e22 e23 e24 e25 e26 e27 e28 e29 e30 e31 e32 e33 e34 e35 e36 e37 e38 e39 e40 e41 e42 e43 e44 e45 e46 e47 e48 e49 e50 e51 e52 e53 e54 e55 e56 e57 e58 e59 e60 e61 e62 e63 e64 e65 e66 e67 e68 e69 e70 e71 e72 e73 e74 e75 e76 e77 e78 e79 e80 e81 e82 e83 e84 e85 e86 e87 e88 e89 e90 e91 e92 e93 e94 e95 e96 e97 e98 e99 e100 e101 e102 : Value} (h0 : J e20 w)
    (hr : ∀ x20 g w, J x20 w → sha_Block.b1 x2 x4 x5 x19 x20 g (sha_Block.N1 J m x2 x4 x5 x19 x20 w) R X w) : sha_Block.I1 [e0, e1, x2, e3, x4, x5, e6, e7, e8, e9, e10, e11, e12, e13, e14, e15, e16, e17, e18, x19, e20, e21, e22, e23, e24, e25, e26, e27, e28, e29, e30, e31, e32, e33, e34, e35, e36, e37, e38, e39, e40, e41, e42, e43, e44, e45, e46, e47, e48, e49, e50, e51, e52, e53, e54, e55, e56, e57, e58, e59, e60, e61, e62, e63, e64, e65, e66, e67, e68, e69, e70, e71, e72, e73, e74, e75, e76, e77, e78, e79, e80, e81, e82, e83, e84, e85, e86, e87, e88, e89, e90, e91, e92, e93, e94, e95, e96, e97, e98, e99, e100, e101, e102] R X w := by
  rw [sha_Block.I1_eq]
  refine ⟨fun e w => ∃ y20 g, e = sha_Block.fr1 x2 x4 x5 x19 y20 g ∧ J y20 w, fun e w => m (nth e 20) w, ⟨e20, (fun i => nth [e0, e1, x2, e3, x4, x5, e6, e7, e8, e9, e10, e11, e12, e13, e14, e15, e16, e17, e18, x19, e20, e21, e22, e23, e24, e25, e26, e27, e28, e29, e30, e31, e32, e33, e34, e35, e36, e37, e38, e39, e40, e41, e42, e43, e44, e45, e46, e47, e48, e49, e50, e51, e52, e53, e54, e55, e56, e57, e58, e59, e60, e61, e62, e63, e64, e65, e66, e67, e68, e69, e70, e71, e72, e73, e74, e75, e76, e77, e78, e79, e80, e81, e82, e83, e84, e85, e86, e87, e88, e89, e90, e91, e92, e93, e94, e95, e96, e97, e98, e99, e100, e101, e102] i), rfl, h0⟩, ?_⟩
  rintro _ w ⟨y20, g, rfl, hJ⟩
  rw [sha_Block.b1_eq]
  exact hr y20 g w hJ
def sha_Block.b (x0 : Value) (x1 : Value) (R : KV) (X : KX) (w : World) : Prop :=
  pBox 140 x0 w fun t2 w =>
  pBox 140 (.agg #[.int .u32 0, .int .u32 0, .int .u32 0, .int .u32 0, .int .u32 0, .int .u32 0, .int .u32 0, .int .u32 0]) w fun t4 w =>
  pLenSl x1 fun t14 =>
  pBinI .neq .i64 t14 (.int .i64 64) fun t15 =>
  scond t15
  (pLdN (· = w) 8 t2 fun t16 =>
    pStN 8 t4 t16 w fun _ w =>
    pLdN (· = w) 8 t4 fun r0 =>
    R r0 w)
  (pLdN (· = w) 8 t2 fun t17 =>
    pBox 140 (.agg #[.int .u32 0, .int .u32 0, .int .u32 0, .int .u32 0, .int .u32 0, .int .u32 0, .int .u32 0, .int .u32 0]) w fun t5 w =>
    pStN 8 t5 t17 w fun _ w =>
    pCall Tryz.prog 124 [x1] X w fun t19 w =>
    sha_Block.I1 [x0, x1, t2, undef, t4, t5, undef, undef, undef, undef, undef, undef, undef, x1, t14, t15, undef, t17, x1, t19, (.int .i64 0), undef, undef, undef, undef, undef, undef, undef, undef, undef, undef, undef, undef, undef, undef, undef, undef, undef, undef, undef, undef, undef, undef, undef, undef, undef, undef, undef, undef, undef, undef, undef, undef, undef, undef, undef, undef, undef, undef, undef, undef, undef, undef, undef, undef, undef, undef, undef, undef, undef, undef, undef, undef, undef, undef, undef, undef, undef, undef, undef, undef, undef, undef, undef, undef, undef, undef, undef, undef, undef, undef, undef, undef, undef, undef, undef, undef, undef, undef, undef, undef, undef, undef] R X w)
theorem sha_Block.b_eq (x0 : Value) (x1 : Value) (R : KV) (X : KX) (w : World) : atP Tryz.prog Tryz.f118 sha_Block.pl [] [] R X ([x0, x1] ++ undefs 101) w = sha_Block.b x0 x1 R X w := by kernel_rfl
theorem sha_Block.calls {x0 x1 : Value} {R : KV} {X : KX} {w : World} (h : sha_Block.b x0 x1 R X w) : GCalls Tryz.prog 118 [x0, x1] R X w :=
  gcalls_of (pl := sha_Block.pl) Tryz.func118 rfl (by kernel_rfl) hmixed (sha_Block.b_eq x0 x1 R X w ▸ h)

/-! slices.Chunk[[]byte,byte] -/
def slices_Chunk_byte_byte.pl : Nat → DrawPlan
  | _ => ⟨[], .done⟩
def slices_Chunk_byte_byte.b (x0 : Value) (x1 : Value) (R : KV) (X : KX) (w : World) : Prop :=
  pBox 22 x0 w fun t2 w =>
  pBox 3 x1 w fun t3 w =>
  pLd (· = w) t3 fun t5 =>
  pBinI .lss .i64 t5 (.int .i64 1) fun t6 =>
  scond t6
  (pPanic (.iface 9 (.string ⟨#[99, 97, 110, 110, 111, 116, 32, 98, 101, 32, 108, 101, 115, 115, 32, 116, 104, 97, 110, 32, 49]⟩)) X w)
  (R (.func (.func 123) #[] #[t2, t3]) w)
theorem slices_Chunk_byte_byte.b_eq (x0 : Value) (x1 : Value) (R : KV) (X : KX) (w : World) : atP Tryz.prog Tryz.f116 slices_Chunk_byte_byte.pl [] [] R X ([x0, x1] ++ undefs 7) w = slices_Chunk_byte_byte.b x0 x1 R X w := by kernel_rfl
theorem slices_Chunk_byte_byte.calls {x0 x1 : Value} {R : KV} {X : KX} {w : World} (h : slices_Chunk_byte_byte.b x0 x1 R X w) : GCalls Tryz.prog 116 [x0, x1] R X w :=
  gcalls_of (pl := slices_Chunk_byte_byte.pl) Tryz.func116 rfl (by kernel_rfl) hmixed (slices_Chunk_byte_byte.b_eq x0 x1 R X w ▸ h)

/-! slices.Chunk[[]byte,byte]$1 -/
def slices_Chunk_byte_byte_c1.pl : Nat → DrawPlan
  | 3 => ⟨[([], [5]), ([], [3]), ([], [3]), ([1, 2], [1, 2, 4]), ([3], [3, 5]), ([0, 4], [0, 4, 6]), ([5, 0, 1, 2, 3, 4, 5], [5])], .take 0 (.take 1 (.take 2 (.take 3 (.take 4 (.take 5 (.take 6 (.done)))))))⟩
  | _ => ⟨[], .done⟩
def slices_Chunk_byte_byte_c1.b1 (x0 : Value) (x1 : Value) (x2 : Value) (x4 : Value) (g : Nat → Value) (N1 : List Value → World → Prop) (R : KV) (X : KX) (w : World) : Prop :=
  pLd (· = w) x1 fun t7 =>
  pLenSl t7 fun t8 =>
  pBinI .lss .i64 x4 t8 fun t9 =>
  scond t9
  (drawn w fun S w =>
    pLd S x2 fun t13 =>
    pLd S x1 fun t14 =>
    pSl 1 t14 (some x4) none none fun t16 =>
    pLenSl t16 fun t17 =>
    pMin t13 t17 fun t18 =>
    pLd (· = w) x1 fun t20 =>
    pBinI .add .i64 x4 t18 fun t24 =>
    pBinI .add .i64 x4 t18 fun t27 =>
    pSl 1 t20 (some x4) (some t24) (some t27) fun t28 =>
    pCallV Tryz.prog x0 [t28] X w fun t29 w =>
    pNot t29 fun t30 =>
    scond t30
    (R (.tuple #[]) w)
    (pLd (· = w) x2 fun t11 =>
      pBinI .add .i64 x4 t11 fun t12 =>
      N1 [x0, x1, x2, (g 3), t12, t18, x4, t7, t8, t9, x4, t11, t12, t13, t14, x4, t16, t17, t18, x0, t20, x4, x4, t18, t24, x4, t18, t27, t28, t29, t30] w))
  (R (.tuple #[]) w)
def slices_Chunk_byte_byte_c1.I1 (e : List Value) (R : KV) (X : KX) (w : World) : Prop := atP Tryz.prog Tryz.f123 slices_Chunk_byte_byte_c1.pl [1, 0] [] R X e w
theorem slices_Chunk_byte_byte_c1.I1_eq (e : List Value) (R : KV) (X : KX) (w : World) : slices_Chunk_byte_byte_c1.I1 e R X w = loopS (fun N e w => atP Tryz.prog Tryz.f123 slices_Chunk_byte_byte_c1.pl [1, 0, 0] [N] R X e w) e w := by kernel_rfl
def slices_Chunk_byte_byte_c1.fr1 (x0 : Value) (x1 : Value) (x2 : Value) (x4 : Value) (g : Nat → Value) : List Value := [x0, x1, x2, g 3, x4, g 5, g 6, g 7, g 8, g 9, g 10, g 11, g 12, g 13, g 14, g 15, g 16, g 17, g 18, g 19, g 20, g 21, g 22, g 23, g 24, g 25, g 26, g 27, g 28, g 29, g 30]
theorem slices_Chunk_byte_byte_c1.b1_eq (x0 : Value) (x1 : Value) (x2 : Value) (x4 : Value) (g : Nat → Value) (N1 : List Value → World → Prop) (R : KV) (X : KX) (w : World) : atP Tryz.prog Tryz.f123 slices_Chunk_byte_byte_c1.pl [1, 0, 0] [N1] R X (slices_Chunk_byte_byte_c1.fr1 x0 x1 x2 x4 g) w = slices_Chunk_byte_byte_c1.b1 x0 x1 x2 x4 g N1 R X w := by kernel_rfl
/-- What a round of this loop hands on. -/
def slices_Chunk_byte_byte_c1.N1 (J : Value → World → Prop) (m : Value → World → Nat) (x0 : Value) (x1 : Value) (x2 : Value) (x4 : Value) (w : World) : List Value → World → Prop := fun e w' => (∃ y4 g, e = slices_Chunk_byte_byte_c1.fr1 x0 x1 x2 y4 g ∧ J y4 w') ∧ m (nth e 4) w' < m x4 w
theorem slices_Chunk_byte_byte_c1.leaf1 {J : Value → World → Prop} {m : Value → World → Nat} {x0 : Value} {x1 : Value} {x2 : Value} {x4 : Value} {w w' : World} {e3 e4 e5 e6 e7 e8 e9 e10 e11 e12 e13 e14 e15 e16 e17 e18 e19 e20 e21 e22 e23 e24 e25 e26 e27 e28 e29 e30 : Value} (h : J e4 w') (hm : m e4 w' < m x4 w) : slices_Chunk_byte_byte_c1.N1 J m x0 x1 x2 x4 w [x0, x1, x2, e3, e4, e5, e6, e7, e8, e9, e10, e11, e12, e13, e14, e15, e16, e17, e18, e19, e20, e21, e22, e23, e24, e25, e26, e27, e28, e29, e30] w' :=
  ⟨⟨e4, (fun i => nth [x0, x1, x2, e3, e4, e5, e6, e7, e8, e9, e10, e11, e12, e13, e14, e15, e16, e17, e18, e19, e20, e21, e22, e23, e24, e25, e26, e27, e28, e29, e30] i), rfl, h⟩, hm⟩
theorem slices_Chunk_byte_byte_c1.loop1 (J : Value → World → Prop) (m : Value → World → Nat) {R : KV} {X : KX} {w : World} {x0 : Value} {x1 : Value} {x2 : Value} {e3 e4 e5 e6 e7 e8 e9 e10 e11 e12 e13 e14 e15 e16 e17 e18 e19 e20 e21 e22 e23 e24 e25 e26 e27 e28 e29 e30 : Value} (h0 : J e4 w)
    (hr : ∀ x4 g w, J x4 w → slices_Chunk_byte_byte_c1.b1 x0 x1 x2 x4 g (slices_Chunk_byte_byte_c1.N1 J m x0 x1 x2 x4 w) R X w) : slices_Chunk_byte_byte_c1.I1 [x0, x1, x2, e3, e4, e5, e6, e7, e8, e9, e10, e11, e12, e13, e14, e15, e16, e17, e18, e19, e20, e21, e22, e23, e24, e25, e26, e27, e28, e29, e30] R X w := by
  rw [slices_Chunk_byte_byte_c1.I1_eq]
  refine ⟨fun e w => ∃ y4 g, e = slices_Chunk_byte_byte_c1.fr1 x0 x1 x2 y4 g ∧ J y4 w, fun e w => m (nth e 4) w, ⟨e4, (fun i => nth [x0, x1, x2, e3, e4, e5, e6, e7, e8, e9, e10, e11, e12, e13, e14, e15, e16, e17, e18, e19, e20, e21, e22, e23, e24, e25, e26, e27, e28, e29, e30] i), rfl, h0⟩, ?_⟩
  rintro _ w ⟨y4, g, rfl, hJ⟩
  rw [slices_Chunk_byte_byte_c1.b1_eq]
  exact hr y4 g w hJ
def slices_Chunk_byte_byte_c1.b (x0 : Value) (x1 : Value) (x2 : Value) (R : KV) (X : KX) (w : World) : Prop :=
  slices_Chunk_byte_byte_c1.I1 [x0, x1, x2, undef, (.int .i64 0), undef, undef, undef, undef, undef, undef, undef, undef, undef, undef, undef, undef, undef, undef, undef, undef, undef, undef, undef, undef, undef, undef, undef, undef, undef, undef] R X w
theorem slices_Chunk_byte_byte_c1.b_eq (x0 : Value) (x1 : Value) (x2 : Value) (R : KV) (X : KX) (w : World) : atP Tryz.prog Tryz.f123 slices_Chunk_byte_byte_c1.pl [] [] R X ([x0, x1, x2] ++ undefs 28) w = slices_Chunk_byte_byte_c1.b x0 x1 x2 R X w := by kernel_rfl
theorem slices_Chunk_byte_byte_c1.calls {x0 x1 x2 : Value} {R : KV} {X : KX} {w : World} (h : slices_Chunk_byte_byte_c1.b x0 x1 x2 R X w) : GCalls Tryz.prog 123 [x0, x1, x2] R X w :=
  gcalls_of (pl := slices_Chunk_byte_byte_c1.pl) Tryz.func123 rfl (by kernel_rfl) hmixed (slices_Chunk_byte_byte_c1.b_eq x0 x1 x2 R X w ▸ h)

/-! oubliette/sha.Words -/
def sha_Words.pl : Nat → DrawPlan
  | 11 => ⟨[([], [24]), ([], [6]), ([], [3]), ([2], [2, 4]), ([3], [3, 5]), ([4], [4, 6]), ([1, 5], [1, 5, 11]), ([], [8]), ([7], [7, 9]), ([8], [8, 10]), ([9], [9, 11]), ([6, 10], [6, 10, 18]), ([], [17]), ([], [14]), ([13], [13, 15]), ([14], [14, 16]), ([15], [15, 17]), ([12, 16, 6], [12, 16, 18]), ([11, 17], [11, 17, 23]), ([], [20]), ([19], [19, 21]), ([20], [20, 22]), ([21], [21, 23]), ([18, 22], [18, 22, 25]), ([0, 0, 1, 2, 3, 4, 5, 6, 7, 8, 9, 10, 11, 12, 13, 14, 15, 16, 17, 18, 19, 20, 21, 22, 23], [0, 25]), ([24, 23, 17, 0, 1, 2, 3, 4, 5, 6, 7, 8, 9, 10, 11, 12, 13, 14, 15, 16, 17, 18, 19, 20, 21, 22, 23], [23, 24])], .take 0 (.take 1 (.take 2 (.take 3 (.take 4 (.take 5 (.take 7 (.take 8 (.take 9 (.take 10 (.take 12 (.take 13 (.take 14 (.take 15 (.take 16 (.take 19 (.take 20 (.take 21 (.take 22 (.world 6 false (.take 11 (.world 17 false (.take 18 (.take 23 (.take 24 (.world 25 true (.done) .none)))) .none)) .none)))))))))))))))))))⟩
  | _ => ⟨[], .done⟩
def sha_Words.j1 (x0 : Value) (x2 : Value) (x3 : Value) (x4 : Value) (x12 : Value) (g : Nat → Value) (N1 : List Value → World → Prop) (R : KV) (X : KX) (w : World) : Prop :=
  pBinI .add .i64 x12 (.int .i64 1) fun t57 =>
  N1 [x0, (g 1), x2, x3, x4, (g 5), (g 6), (g 7), (g 8), (g 9), (g 10), (g 11), t57, (g 13), (g 14), (g 15), (g 16), (g 17), (g 18), (g 19), (g 20), (g 21), (g 22), (g 23), (g 24), (g 25), (g 26), (g 27), (g 28), (g 29), (g 30), (g 31), (g 32), (g 33), (g 34), (g 35), (g 36), (g 37), (g 38), (g 39), (g 40), (g 41), (g 42), (g 43), (g 44), (g 45), (g 46), (g 47), (g 48), (g 49), (g 50), (g 51), (g 52), (g 53), (g 54), (g 55), (g 56), t57, (g 58)] w
def sha_Words.b1 (x0 : Value) (x2 : Value) (x3 : Value) (x4 : Value) (x12 : Value) (g : Nat → Value) (N1 : List Value → World → Prop) (R : KV) (X : KX) (w : World) : Prop :=
  pBinI .lss .i64 x12 (.int .i64 64) fun t13 =>
  scond t13
  (pBinI .lss .i64 x12 (.int .i64 16) fun t16 =>
    scond t16
    (pBinI .mul .i64 (.int .i64 4) x12 fun t20 =>
      pBinI .add .i64 x12 (.int .i64 1) fun t22 =>
      pBinI .mul .i64 (.int .i64 4) t22 fun t23 =>
      pSl 1 x0 (some t20) (some t23) none fun t24 =>
      pCall Tryz.prog 44 [t24] X w fun t25 w =>
      pExt t25 0 fun t26 =>
      pExt t25 1 fun t27 =>
      pConv .u32 t26 fun t30 =>
      pIAr 64 1 x2 x12 fun t31 =>
      pSt t31 t30 w fun _ w =>
      sha_Words.j1 x0 x2 x3 x4 x12 (fun i => nth [x0, (g 1), x2, x3, x4, x12, t26, t27, (g 8), (g 9), (g 10), (g 11), x12, t13, x12, x12, t16, t25, x0, x12, t20, x12, t22, t23, t24, t25, t26, t27, x12, t26, t30, t31, (g 32), (g 33), (g 34), (g 35), (g 36), (g 37), (g 38), (g 39), (g 40), (g 41), (g 42), (g 43), (g 44), (g 45), (g 46), (g 47), (g 48), (g 49), (g 50), (g 51), (g 52), (g 53), (g 54), (g 55), (g 56), (g 57), (g 58)] i) N1 R X w)
    (drawn w fun S w =>
      pBinI .sub .i64 x12 (.int .i64 2) fun t35 =>
      pIAr 64 1 x2 t35 fun t36 =>
      pLd S t36 fun t37 =>
      pBinI .sub .i64 x12 (.int .i64 7) fun t40 =>
      pIAr 64 1 x2 t40 fun t41 =>
      pLd S t41 fun t42 =>
      pBinI .sub .i64 x12 (.int .i64 15) fun t46 =>
      pIAr 64 1 x2 t46 fun t47 =>
      pLd S t47 fun t48 =>
      pBinI .sub .i64 x12 (.int .i64 16) fun t52 =>
      pIAr 64 1 x2 t52 fun t53 =>
      pLd S t53 fun t54 =>
      pCallV Tryz.prog x4 [t37] X w fun t38 w =>
      S w ∧ (pBinI .add .u32 t38 t42 fun t43 =>
        pCallV Tryz.prog x3 [t48] X w fun t49 w =>
        S w ∧ (pBinI .add .u32 t43 t49 fun t50 =>
          pBinI .add .u32 t50 t54 fun t55 =>
          pIAr 64 1 x2 x12 fun t56 =>
          pSt t56 t55 w fun _ w =>
          anew w fun S w =>
          sha_Words.j1 x0 x2 x3 x4 x12 (fun i => nth [x0, (g 1), x2, x3, x4, x12, (g 6), (g 7), (g 8), (g 9), (g 10), (g 11), x12, t13, x12, x12, t16, (g 17), (g 18), (g 19), (g 20), (g 21), (g 22), (g 23), (g 24), (g 25), (g 26), (g 27), (g 28), (g 29), (g 30), (g 31), x12, x4, x12, t35, t36, t37, t38, x12, t40, t41, t42, t43, x3, x12, t46, t47, t48, t49, t50, x12, t52, t53, t54, t55, t56, (g 57), (g 58)] i) N1 R X w))))
  (pLdN (· = w) 64 x2 fun t58 =>
    pStN 64 x2 t58 w fun _ w =>
    pLdN (· = w) 64 x2 fun r0 =>
    R r0 w)
def sha_Words.I1 (e : List Value) (R : KV) (X : KX) (w : World) : Prop := atP Tryz.prog Tryz.f124 sha_Words.pl [1, 1, 1, 1, 0, 1, 0] [] R X e w
theorem sha_Words.I1_eq (e : List Value) (R : KV) (X : KX) (w : World) : sha_Words.I1 e R X w = loopS (fun N e w => atP Tryz.prog Tryz.f124 sha_Words.pl [1, 1, 1, 1, 0, 1, 0, 0] [N] R X e w) e w := by kernel_rfl
def sha_Words.fr1 (x0 : Value) (x2 : Value) (x3 : Value) (x4 : Value) (x12 : Value) (g : Nat → Value) : List Value := [x0, g 1, x2, x3, x4, g 5, g 6, g 7, g 8, g 9, g 10, g 11, x12, g 13, g 14, g 15, g 16, g 17, g 18, g 19, g 20, g 21, g 22, g 23, g 24, g 25, g 26, g 27, g 28, g 29, g 30, g 31, g 32, g 33, g 34, g 35, g 36, g 37, g 38, g 39, g 40, g 41, g 42, g 43, g 44, g 45, g 46, g 47, g 48, g 49, g 50, g 51, g 52, g 53, g 54, g 55, g 56, g 57, g 58]
theorem sha_Words.b1_eq (x0 : Value) (x2 : Value) (x3 : Value) (x4 : Value) (x12 : Value) (g : Nat → Value) (N1 : List Value → World → Prop) (R : KV) (X : KX) (w : World) : atP Tryz.prog Tryz.f124 sha_Words.pl [1, 1, 1, 1, 0, 1, 0, 0] [N1] R X (sha_Words.fr1 x0 x2 x3 x4 x12 g) w = sha_Words.b1 x0 x2 x3 x4 x12 g N1 R X w := by kernel_rfl
/-- What a round of this loop hands on. -/
def sha_Words.N1 (J : Value → World → Prop) (m : Value → World → Nat) (x0 : Value) (x2 : Value) (x3 : Value) (x4 : Value) (x12 : Value) (w : World) : List Value → World → Prop := fun e w' => (∃ y12 g, e = sha_Words.fr1 x0 x2 x3 x4 y12 g ∧ J y12 w') ∧ m (nth e 12) w' < m x12 w
theorem sha_Words.leaf1 {J : Value → World → Prop} {m : Value → World → Nat} {x0 : Value} {x2 : Value} {x3 : Value} {x4 : Value} {x12 : Value} {w w' : World} {e1 e5 e6 e7 e8 e9 e10 e11 e12 e13 e14 e15 e16 e17 e18 e19 e20 e21 e22 e23 e24 e25 e26 e27 e28 e29 e30 e31 e32 e33 e34 e35 e36 e37 e38 e39 e40 e41 e42 e43 e44 e45 e46 e47 e48 e49 e50 e51 e52 e53 e54 e55 e56 e57 e58 : Value} (h : J e12 w') (hm : m e12 w' < m x12 w) : sha_Words.N1 J m x0 x2 x3 x4 x12 w [x0, e1, x2, x3, x4, e5, e6, e7, e8, e9, e10, e11, e12, e13, e14, e15, e16, e17, e18, e19, e20, e21, e22, e23, e24, e25, e26, e27, e28, e29, e30, e31, e32, e33, e34, e35, e36, e37, e38, e39, e40, e41, e42, e43, e44, e45, e46, e47, e48, e49, e50, e51, e52, e53, e54, e55, e56, e57, e58] w' :=
  ⟨⟨e12, (fun i => nth [x0, e1, x2, x3, x4, e5, e6, e7, e8, e9, e10, e11, e12, e13, e14, e15, e16, e17, e18, e19, e20, e21, e22, e23, e24, e25, e26, e27, e28, e29, e30, e31, e32, e33, e34, e35, e36, e37, e38, e39, e40, e41, e42, e43, e44, e45, e46, e47, e48, e49, e50, e51, e52, e53, e54, e55, e56, e57, e58] i), rfl, h⟩, hm⟩
theorem sha_Words.loop1 (J : Value → World → Prop) (m : Value → World → Nat) {R : KV} {X : KX} {w : World} {x0 : Value} {x2 : Value} {x3 : Value} {x4 : Value} {e1 e5 e6 e7 e8 e9 e10 e11 e12 e13 e14 e15 e16 e17 e18 e19 e20 e21 e22 e23 e24 e25 e26 e27 e28 e29 e30 e31 e32 e33 e34 e35 e36 e37 e38 e39 e40 e41 e42 e43 e44 e45 e46 e47 e48 e49 e50 e51 e52 e53 e54 e55 e56 e57 e58 : Value} (h0 : J e12 w)
    (hr : ∀ x12 g w, J x12 w → sha_Words.b1 x0 x2 x3 x4 x12 g (sha_Words.N1 J m x0 x2 x3 x4 x12 w) R X w) : sha_Words.I1 [x0, e1, x2, x3, x4, e5, e6, e7, e8, e9, e10, e11, e12, e13, e14, e15, e16, e17, e18, e19, e20, e21, e22, e23, e24, e25, e26, e27, e28, e29, e30, e31, e32, e33, e34, e35, e36, e37, e38, e39, e40, e41, e42, e43, e44, e45, e46, e47, e48, e49, e50, e51, e52, e53, e54, e55, e56, e57, e58] R X w := by
  rw [sha_Words.I1_eq]
  refine ⟨fun e w => ∃ y12 g, e = sha_Words.fr1 x0 x2 x3 x4 y12 g ∧ J y12 w, fun e w => m (nth e 12) w, ⟨e12, (fun i => nth [x0, e1, x2, x3, x4, e5, e6, e7, e8, e9, e10, e11, e12, e13, e14, e15, e16, e17, e18, e19, e20, e21, e22, e23, e24, e25, e26, e27, e28, e29, e30, e31, e32, e33, e34, e35, e36, e37, e38, e39, e40, e41, e42, e43, e44, e45, e46, e47, e48, e49, e50, e51, e52, e53, e54, e55, e56, e57, e58] i), rfl, h0⟩, ?_⟩
  rintro _ w ⟨y12, g, rfl, hJ⟩
  rw [sha_Words.b1_eq]
  exact hr y12 g w hJ
def sha_Words.b (x0 : Value) (R : KV) (X : KX) (w : World) : Prop :=
  pBox 138 (.agg #[.int .u32 0, .int .u32 0, .int .u32 0, .int .u32 0, .int .u32 0, .int .u32 0, .int .u32 0, .int .u32 0, .int .u32 0, .int .u32 0, .int .u32 0, .int .u32 0, .int .u32 0, .int .u32 0, .int .u32 0, .int .u32 0, .int .u32 0, .int .u32 0, .int .u32 0, .int .u32 0, .int .u32 0, .int .u32 0, .int .u32 0, .int .u32 0, .int .u32 0, .int .u32 0, .int .u32 0, .int .u32 0, .int .u32 0, .int .u32 0, .int .u32 0, .int .u32 0, .int .u32 0, .int .u32 0, .int .u32 0, .int .u32 0, .int .u32 0, .int .u32 0, .int .u32 0, .int .u32 0, .int .u32 0, .int .u32 0, .int .u32 0, .int .u32 0, .int .u32 0, .int .u32 0, .int .u32 0, .int .u32 0, .int .u32 0, .int .u32 0, .int .u32 0, .int .u32 0, .int .u32 0, .int .u32 0, .int .u32 0, .int .u32 0, .int .u32 0, .int .u32 0, .int .u32 0, .int .u32 0, .int .u32 0, .int .u32 0, .int .u32 0, .int .u32 0]) w fun t2 w =>
  pLenSl x0 fun t9 =>
  pBinI .neq .i64 t9 (.int .i64 64) fun t10 =>
  scond t10
  (pLdN (· = w) 64 t2 fun t11 =>
    pStN 64 t2 t11 w fun _ w =>
    pLdN (· = w) 64 t2 fun r0 =>
    R r0 w)
  (sha_Words.I1 [x0, undef, t2, (.func (.func 126) #[] #[]), (.func (.func 127) #[] #[]), undef, undef, undef, x0, t9, t10, undef, (.int .i64 0), undef, undef, undef, undef, undef, undef, undef, undef, undef, undef, undef, undef, undef, undef, undef, undef, undef, undef, undef, undef, undef, undef, undef, undef, undef, undef, undef, undef, undef, undef, undef, undef, undef, undef, undef, undef, undef, undef, undef, undef, undef, undef, undef, undef, undef, undef] R X w)
theorem sha_Words.b_eq (x0 : Value) (R : KV) (X : KX) (w : World) : atP Tryz.prog Tryz.f124 sha_Words.pl [] [] R X ([x0] ++ undefs 58) w = sha_Words.b x0 R X w := by kernel_rfl
theorem sha_Words.calls {x0 : Value} {R : KV} {X : KX} {w : World} (h : sha_Words.b x0 R X w) : GCalls Tryz.prog 124 [x0] R X w :=
  gcalls_of (pl := sha_Words.pl) Tryz.func124 rfl (by kernel_rfl) hmixed (sha_Words.b_eq x0 R X w ▸ h)

/-! oubliette/sha.right -/
def sha_right.pl : Nat → DrawPlan
  | _ => ⟨[], .done⟩
def sha_right.b (x0 : Value) (x1 : Value) (R : KV) (X : KX) (w : World) : Prop :=
  pNeg .i64 x1 fun t7 =>
  pCall Tryz.prog 128 [x0, t7] X w fun t8 w =>
  R t8 w
theorem sha_right.b_eq (x0 : Value) (x1 : Value) (R : KV) (X : KX) (w : World) : atP Tryz.prog Tryz.f125 sha_right.pl [] [] R X ([x0, x1] ++ undefs 7) w = sha_right.b x0 x1 R X w := by kernel_rfl
theorem sha_right.calls {x0 x1 : Value} {R : KV} {X : KX} {w : World} (h : sha_right.b x0 x1 R X w) : GCalls Tryz.prog 125 [x0, x1] R X w :=
  gcalls_of (pl := sha_right.pl) Tryz.func125 rfl (by kernel_rfl) hmixed (sha_right.b_eq x0 x1 R X w ▸ h)

/-! oubliette/sha.Words$1 -/
def sha_Words_c1.pl : Nat → DrawPlan
  | _ => ⟨[], .done⟩
def sha_Words_c1.b (x0 : Value) (R : KV) (X : KX) (w : World) : Prop :=
  pCall Tryz.prog 125 [x0, (.int .i64 7)] X w fun t4 w =>
  pCall Tryz.prog 125 [x0, (.int .i64 18)] X w fun t6 w =>
  pBinI .xor .u32 t4 t6 fun t7 =>
  pShift .shr .u32 x0 (.int .u64 3) fun t9 =>
  pBinI .xor .u32 t7 t9 fun t10 =>
  R t10 w
theorem sha_Words_c1.b_eq (x0 : Value) (R : KV) (X : KX) (w : World) : atP Tryz.prog Tryz.f126 sha_Words_c1.pl [] [] R X ([x0] ++ undefs 10) w = sha_Words_c1.b x0 R X w := by kernel_rfl
theorem sha_Words_c1.calls {x0 : Value} {R : KV} {X : KX} {w : World} (h : sha_Words_c1.b x0 R X w) : GCalls Tryz.prog 126 [x0] R X w :=
  gcalls_of (pl := sha_Words_c1.pl) Tryz.func126 rfl (by kernel_rfl) hmixed (sha_Words_c1.b_eq x0 R X w ▸ h)

/-! oubliette/sha.Words$2 -/
def sha_Words_c2.pl : Nat → DrawPlan
  | _ => ⟨[], .done⟩
def sha_Words_c2.b (x0 : Value) (R : KV) (X : KX) (w : World) : Prop :=
  pCall Tryz.prog 125 [x0, (.int .i64 17)] X w fun t4 w =>
  pCall Tryz.prog 125 [x0, (.int .i64 19)] X w fun t6 w =>
  pBinI .xor .u32 t4 t6 fun t7 =>
  pShift .shr .u32 x0 (.int .u64 10) fun t9 =>
  pBinI .xor .u32 t7 t9 fun t10 =>
  R t10 w
theorem sha_Words_c2.b_eq (x0 : Value) (R : KV) (X : KX) (w : World) : atP Tryz.prog Tryz.f127 sha_Words_c2.pl [] [] R X ([x0] ++ undefs 10) w = sha_Words_c2.b x0 R X w := by kernel_rfl
theorem sha_Words_c2.calls {x0 : Value} {R : KV} {X : KX} {w : World} (h : sha_Words_c2.b x0 R X w) : GCalls Tryz.prog 127 [x0] R X w :=
  gcalls_of (pl := sha_Words_c2.pl) Tryz.func127 rfl (by kernel_rfl) hmixed (sha_Words_c2.b_eq x0 R X w ▸ h)

/-! math/bits.RotateLeft32 -/
def bits_RotateLeft32.pl : Nat → DrawPlan
  | _ => ⟨[], .done⟩
def bits_RotateLeft32.b (x0 : Value) (x1 : Value) (R : KV) (X : KX) (w : World) : Prop :=
  pConv .u64 x1 fun t7 =>
  pBinI .and .u64 t7 (.int .u64 31) fun t8 =>
  pShift .shl .u32 x0 t8 fun t11 =>
  pBinI .sub .u64 (.int .u64 32) t8 fun t14 =>
  pShift .shr .u32 x0 t14 fun t15 =>
  pBinI .or .u32 t11 t15 fun t16 =>
  R t16 w
theorem bits_RotateLeft32.b_eq (x0 : Value) (x1 : Value) (R : KV) (X : KX) (w : World) : atP Tryz.prog Tryz.f128 bits_RotateLeft32.pl [] [] R X ([x0, x1] ++ undefs 15) w = bits_RotateLeft32.b x0 x1 R X w := by kernel_rfl
theorem bits_RotateLeft32.calls {x0 x1 : Value} {R : KV} {X : KX} {w : World} (h : bits_RotateLeft32.b x0 x1 R X w) : GCalls Tryz.prog 128 [x0, x1] R X w :=
  gcalls_of (pl := bits_RotateLeft32.pl) Tryz.func128 rfl (by kernel_rfl) hmixed (bits_RotateLeft32.b_eq x0 x1 R X w ▸ h)
end Go.Proofs.YtkpgmaiklfjjgaaGreatDoor
end
