/-
  The functions' own code as conditions on values and worlds; the kernel checks that each is the code's own.
-/
import Derived.Test.YtkpgmaiklfjjgaaDoorMoag
import Derived.Test.YtkpgmaiklfjjgaaDoorProg
section
set_option maxRecDepth 100000
set_option linter.unusedVariables false
namespace Go.Proofs.YtkpgmaiklfjjgaaDoor
open Go.G

/-! oubliette/oublietteref09.Derive -/
def oublietteref09_Derive.pl : Nat → DrawPlan
  | _ => ⟨[], .done⟩
def oublietteref09_Derive.b (x0 : Value) (x1 : Value) (R : KV) (X : KX) (w : World) : Prop :=
  pBinS .add (.string ⟨#[111, 117, 98, 108, 105, 101, 116, 116, 101, 32]⟩) x1 fun t10 =>
  pLenS t10 fun t12 =>
  pDiv .rem .i64 t12 (.int .i64 256) fun t13 =>
  pConv .u8 t13 fun t14 =>
  pBSlice 5 3 (rowOf [.int .u8 0] 3) [(0, 1, (.int .u8 0)), (1, 1, (.int .u8 32)), (2, 1, t14)] w fun t15 w =>
  pBytesOf 5 t10 w fun t17 w =>
  pCall Tryd.prog 46 [t15, t17] X w fun t18 w =>
  pCall Tryd.prog 47 [x0, t18, (.int .i64 32)] X w fun t22 w =>
  pExt t22 0 fun t23 =>
  pExt t22 1 fun t24 =>
  R t23 w
theorem oublietteref09_Derive.b_eq (x0 : Value) (x1 : Value) (R : KV) (X : KX) (w : World) : atP Tryd.prog Tryd.f15 oublietteref09_Derive.pl [] [] R X ([x0, x1] ++ undefs 24) w = oublietteref09_Derive.b x0 x1 R X w := by kernel_rfl
theorem oublietteref09_Derive.calls {x0 x1 : Value} {R : KV} {X : KX} {w : World} (h : oublietteref09_Derive.b x0 x1 R X w) : GCalls Tryd.prog 15 [x0, x1] R X w :=
  gcalls_of (pl := oublietteref09_Derive.pl) Tryd.func15 rfl (by kernel_rfl) hmixed (oublietteref09_Derive.b_eq x0 x1 R X w ▸ h)

/-! oubliette/oublietteref09.Expand -/
def oublietteref09_Expand.pl : Nat → DrawPlan
  | _ => ⟨[], .done⟩
def oublietteref09_Expand.b1 (x0 : Value) (x1 : Value) (x2 : Value) (x8 : Value) (x9 : Value) (x10 : Value) (g : Nat → Value) (N1 : List Value → World → Prop) (R : KV) (X : KX) (w : World) : Prop :=
  pLenSl x8 fun t18 =>
  pBinI .lss .i64 t18 x2 fun t20 =>
  scond t20
  (pCall Tryd.prog 46 [x9, x1] X w fun t26 w =>
    pConv .u8 x10 fun t28 =>
    pBSlice 5 1 (rowOf [.int .u8 0] 1) [(0, 1, t28)] w fun t29 w =>
    pCall Tryd.prog 46 [t26, t29] X w fun t30 w =>
    pCall Tryd.prog 75 [x0, t30] X w fun t31 w =>
    pApp 5 1 1 [.int .u8 0] x8 t31 w fun t34 w =>
    pBinI .add .i64 x10 (.int .i64 1) fun t22 =>
    N1 [x0, x1, x2, (g 3), (g 4), (g 5), (g 6), (g 7), t34, t31, t22, (g 11), (g 12), (g 13), (g 14), (g 15), (g 16), x8, t18, x2, t20, x10, t22, x0, x9, x1, t26, x10, t28, t29, t30, t31, x8, t31, t34, (g 35), (g 36), (g 37)] w)
  (pSl 1 x8 none (some x2) none fun t37 =>
    R (.tuple #[t37, (.int .i64 0)]) w)
def oublietteref09_Expand.I1 (e : List Value) (R : KV) (X : KX) (w : World) : Prop := atP Tryd.prog Tryd.f47 oublietteref09_Expand.pl [1, 1, 1, 0, 1, 0] [] R X e w
theorem oublietteref09_Expand.I1_eq (e : List Value) (R : KV) (X : KX) (w : World) : oublietteref09_Expand.I1 e R X w = loopS (fun N e w => atP Tryd.prog Tryd.f47 oublietteref09_Expand.pl [1, 1, 1, 0, 1, 0, 0] [N] R X e w) e w := by kernel_rfl
def oublietteref09_Expand.fr1 (x0 : Value) (x1 : Value) (x2 : Value) (x8 : Value) (x9 : Value) (x10 : Value) (g : Nat → Value) : List Value := [x0, x1, x2, g 3, g 4, g 5, g 6, g 7, x8, x9, x10, g 11, g 12, g 13, g 14, g 15, g 16, g 17, g 18, g 19, g 20, g 21, g 22, g 23, g 24, g 25, g 26, g 27, g 28, g 29, g 30, g 31, g 32, g 33, g 34, g 35, g 36, g 37]
theorem oublietteref09_Expand.b1_eq (x0 : Value) (x1 : Value) (x2 : Value) (x8 : Value) (x9 : Value) (x10 : Value) (g : Nat → Value) (N1 : List Value → World → Prop) (R : KV) (X : KX) (w : World) : atP Tryd.prog Tryd.f47 oublietteref09_Expand.pl [1, 1, 1, 0, 1, 0, 0] [N1] R X (oublietteref09_Expand.fr1 x0 x1 x2 x8 x9 x10 g) w = oublietteref09_Expand.b1 x0 x1 x2 x8 x9 x10 g N1 R X w := by kernel_rfl
/-- What a round of this loop hands on. -/
def oublietteref09_Expand.N1 (J : Value → Value → Value → World → Prop) (m : Value → Value → Value → World → Nat) (x0 : Value) (x1 : Value) (x2 : Value) (x8 : Value) (x9 : Value) (x10 : Value) (w : World) : List Value → World → Prop := fun e w' => (∃ y8 y9 y10 g, e = oublietteref09_Expand.fr1 x0 x1 x2 y8 y9 y10 g ∧ J y8 y9 y10 w') ∧ m (nth e 8) (nth e 9) (nth e 10) w' < m x8 x9 x10 w
theorem oublietteref09_Expand.leaf1 {J : Value → Value → Value → World → Prop} {m : Value → Value → Value → World → Nat} {x0 : Value} {x1 : Value} {x2 : Value} {x8 : Value} {x9 : Value} {x10 : Value} {w w' : World} {e3 e4 e5 e6 e7 e8 e9 e10 e11 e12 e13 e14 e15 e16 e17 e18 e19 e20 e21 e22 e23 e24 e25 e26 e27 e28 e29 e30 e31 e32 e33 e34 e35 e36 e37 : Value} (h : J e8 e9 e10 w') (hm : m e8 e9 e10 w' < m x8 x9 x10 w) : oublietteref09_Expand.N1 J m x0 x1 x2 x8 x9 x10 w [x0, x1, x2, e3, e4, e5, e6, e7, e8, e9, e10, e11, e12, e13, e14, e15, e16, e17, e18, e19, e20, e21, e22, e23, e24, e25, e26, e27, e28, e29, e30, e31, e32, e33, e34, e35, e36, e37] w' :=
  ⟨⟨e8, e9, e10, (fun i => nth [x0, x1, x2, e3, e4, e5, e6, e7, e8, e9, e10, e11, e12, e13, e14, e15, e16, e17, e18, e19, e20, e21, e22, e23, e24, e25, e26, e27, e28, e29, e30, e31, e32, e33, e34, e35, e36, e37] i), rfl, h⟩, hm⟩
theorem oublietteref09_Expand.loop1 (J : Value → Value → Value → World → Prop) (m : Value → Value → Value → World → Nat) {R : KV} {X : KX} {w : World} {x0 : Value} {x1 : Value} {x2 : Value} {e3 e4 e5 e6 e7 e8 e9 e10 e11 e12 e13 e14 e15 e16 e17 e18 e19 e20 e21 e22 e23 e24 e25 e26 e27 e28 e29 e30 e31 e32 e33 e34 e35 e36 e37 : Value} (h0 : J e8 e9 e10 w)
    (hr : ∀ x8 x9 x10 g w, J x8 x9 x10 w → oublietteref09_Expand.b1 x0 x1 x2 x8 x9 x10 g (oublietteref09_Expand.N1 J m x0 x1 x2 x8 x9 x10 w) R X w) : oublietteref09_Expand.I1 [x0, x1, x2, e3, e4, e5, e6, e7, e8, e9, e10, e11, e12, e13, e14, e15, e16, e17, e18, e19, e20, e21, e22, e23, e24, e25, e26, e27, e28, e29, e30, e31, e32, e33, e34, e35, e36, e37] R X w := by
  rw [oublietteref09_Expand.I1_eq]
  refine ⟨fun e w => ∃ y8 y9 y10 g, e = oublietteref09_Expand.fr1 x0 x1 x2 y8 y9 y10 g ∧ J y8 y9 y10 w, fun e w => m (nth e 8) (nth e 9) (nth e 10) w, ⟨e8, e9, e10, (fun i => nth [x0, x1, x2, e3, e4, e5, e6, e7, e8, e9, e10, e11, e12, e13, e14, e15, e16, e17, e18, e19, e20, e21, e22, e23, e24, e25, e26, e27, e28, e29, e30, e31, e32, e33, e34, e35, e36, e37] i), rfl, h0⟩, ?_⟩
  rintro _ w ⟨y8, y9, y10, g, rfl, hJ⟩
  rw [oublietteref09_Expand.b1_eq]
  exact hr y8 y9 y10 g w hJ
def oublietteref09_Expand.b (x0 : Value) (x1 : Value) (x2 : Value) (R : KV) (X : KX) (w : World) : Prop :=
  pBinI .lss .i64 x2 (.int .i64 1) fun t12 =>
  gIf t12 false (fun K => K x2) fun t14 =>
  gIf t12 false (fun K => pBinI .gtr .i64 t14 (.int .i64 8160) K) fun t15 =>
  pPick t12 (.bool true) t15 fun t16 =>
  scond t16
  (R (.tuple #[(.slice none 0 0), (.int .i64 2)]) w)
  (oublietteref09_Expand.I1 [x0, x1, x2, undef, undef, undef, (.slice none 0 0), (.int .i64 0), (.slice none 0 0), (.slice none 0 0), (.int .i64 1), x2, t12, t12, t14, t15, t16, undef, undef, undef, undef, undef, undef, undef, undef, undef, undef, undef, undef, undef, undef, undef, undef, undef, undef, undef, undef, undef] R X w)
theorem oublietteref09_Expand.b_eq (x0 : Value) (x1 : Value) (x2 : Value) (R : KV) (X : KX) (w : World) : atP Tryd.prog Tryd.f47 oublietteref09_Expand.pl [] [] R X ([x0, x1, x2] ++ undefs 35) w = oublietteref09_Expand.b x0 x1 x2 R X w := by kernel_rfl
theorem oublietteref09_Expand.calls {x0 x1 x2 : Value} {R : KV} {X : KX} {w : World} (h : oublietteref09_Expand.b x0 x1 x2 R X w) : GCalls Tryd.prog 47 [x0, x1, x2] R X w :=
  gcalls_of (pl := oublietteref09_Expand.pl) Tryd.func47 rfl (by kernel_rfl) hmixed (oublietteref09_Expand.b_eq x0 x1 x2 R X w ▸ h)

/-! oubliette/oublietteref09.Chain -/
def oublietteref09_Chain.pl : Nat → DrawPlan
  | _ => ⟨[], .done⟩
def oublietteref09_Chain.b1 (x1 : Value) (x2 : Value) (x7 : Value) (x8 : Value) (g : Nat → Value) (N1 : List Value → World → Prop) (R : KV) (X : KX) (w : World) : Prop :=
  pBinI .lss .i64 x8 x2 fun t14 =>
  gIf t14 true (fun K => K x8) fun t16 =>
  gIf t14 true (fun K => pBinI .lss .i64 t16 (.int .i64 1000) K) fun t17 =>
  pPick t14 t17 (.bool false) fun t18 =>
  scond t18
  (pCall Tryd.prog 15 [x7, x1] X w fun t23 w =>
    pBinI .add .i64 x8 (.int .i64 1) fun t20 =>
    N1 [(g 0), x1, x2, (g 3), (g 4), (g 5), (g 6), t23, t20, (g 9), (g 10), (g 11), x8, x2, t14, t14, t16, t17, t18, x8, t20, x7, x1, t23, (g 24)] w)
  (R x7 w)
def oublietteref09_Chain.I1 (e : List Value) (R : KV) (X : KX) (w : World) : Prop := atP Tryd.prog Tryd.f52 oublietteref09_Chain.pl [1, 1, 0, 1, 0] [] R X e w
theorem oublietteref09_Chain.I1_eq (e : List Value) (R : KV) (X : KX) (w : World) : oublietteref09_Chain.I1 e R X w = loopS (fun N e w => atP Tryd.prog Tryd.f52 oublietteref09_Chain.pl [1, 1, 0, 1, 0, 0] [N] R X e w) e w := by kernel_rfl
def oublietteref09_Chain.fr1 (x1 : Value) (x2 : Value) (x7 : Value) (x8 : Value) (g : Nat → Value) : List Value := [g 0, x1, x2, g 3, g 4, g 5, g 6, x7, x8, g 9, g 10, g 11, g 12, g 13, g 14, g 15, g 16, g 17, g 18, g 19, g 20, g 21, g 22, g 23, g 24]
theorem oublietteref09_Chain.b1_eq (x1 : Value) (x2 : Value) (x7 : Value) (x8 : Value) (g : Nat → Value) (N1 : List Value → World → Prop) (R : KV) (X : KX) (w : World) : atP Tryd.prog Tryd.f52 oublietteref09_Chain.pl [1, 1, 0, 1, 0, 0] [N1] R X (oublietteref09_Chain.fr1 x1 x2 x7 x8 g) w = oublietteref09_Chain.b1 x1 x2 x7 x8 g N1 R X w := by kernel_rfl
/-- What a round of this loop hands on. -/
def oublietteref09_Chain.N1 (J : Value → Value → World → Prop) (m : Value → Value → World → Nat) (x1 : Value) (x2 : Value) (x7 : Value) (x8 : Value) (w : World) : List Value → World → Prop := fun e w' => (∃ y7 y8 g, e = oublietteref09_Chain.fr1 x1 x2 y7 y8 g ∧ J y7 y8 w') ∧ m (nth e 7) (nth e 8) w' < m x7 x8 w
theorem oublietteref09_Chain.leaf1 {J : Value → Value → World → Prop} {m : Value → Value → World → Nat} {x1 : Value} {x2 : Value} {x7 : Value} {x8 : Value} {w w' : World} {e0 e3 e4 e5 e6 e7 e8 e9 e10 e11 e12 e13 e14 e15 e16 e17 e18 e19 e20 e21 e22 e23 e24 : Value} (h : J e7 e8 w') (hm : m e7 e8 w' < m x7 x8 w) : oublietteref09_Chain.N1 J m x1 x2 x7 x8 w [e0, x1, x2, e3, e4, e5, e6, e7, e8, e9, e10, e11, e12, e13, e14, e15, e16, e17, e18, e19, e20, e21, e22, e23, e24] w' :=
  ⟨⟨e7, e8, (fun i => nth [e0, x1, x2, e3, e4, e5, e6, e7, e8, e9, e10, e11, e12, e13, e14, e15, e16, e17, e18, e19, e20, e21, e22, e23, e24] i), rfl, h⟩, hm⟩
theorem oublietteref09_Chain.loop1 (J : Value → Value → World → Prop) (m : Value → Value → World → Nat) {R : KV} {X : KX} {w : World} {x1 : Value} {x2 : Value} {e0 e3 e4 e5 e6 e7 e8 e9 e10 e11 e12 e13 e14 e15 e16 e17 e18 e19 e20 e21 e22 e23 e24 : Value} (h0 : J e7 e8 w)
    (hr : ∀ x7 x8 g w, J x7 x8 w → oublietteref09_Chain.b1 x1 x2 x7 x8 g (oublietteref09_Chain.N1 J m x1 x2 x7 x8 w) R X w) : oublietteref09_Chain.I1 [e0, x1, x2, e3, e4, e5, e6, e7, e8, e9, e10, e11, e12, e13, e14, e15, e16, e17, e18, e19, e20, e21, e22, e23, e24] R X w := by
  rw [oublietteref09_Chain.I1_eq]
  refine ⟨fun e w => ∃ y7 y8 g, e = oublietteref09_Chain.fr1 x1 x2 y7 y8 g ∧ J y7 y8 w, fun e w => m (nth e 7) (nth e 8) w, ⟨e7, e8, (fun i => nth [e0, x1, x2, e3, e4, e5, e6, e7, e8, e9, e10, e11, e12, e13, e14, e15, e16, e17, e18, e19, e20, e21, e22, e23, e24] i), rfl, h0⟩, ?_⟩
  rintro _ w ⟨y7, y8, g, rfl, hJ⟩
  rw [oublietteref09_Chain.b1_eq]
  exact hr y7 y8 g w hJ
def oublietteref09_Chain.b (x0 : Value) (x1 : Value) (x2 : Value) (R : KV) (X : KX) (w : World) : Prop :=
  pBSlice 5 0 (rowOf [.int .u8 0] 0) [] w fun t9 w =>
  pApp 5 1 1 [.int .u8 0] t9 x0 w fun t11 w =>
  oublietteref09_Chain.I1 [x0, x1, x2, undef, undef, undef, (.slice none 0 0), t11, (.int .i64 0), t9, x0, t11, undef, undef, undef, undef, undef, undef, undef, undef, undef, undef, undef, undef, undef] R X w
theorem oublietteref09_Chain.b_eq (x0 : Value) (x1 : Value) (x2 : Value) (R : KV) (X : KX) (w : World) : atP Tryd.prog Tryd.f52 oublietteref09_Chain.pl [] [] R X ([x0, x1, x2] ++ undefs 22) w = oublietteref09_Chain.b x0 x1 x2 R X w := by kernel_rfl
theorem oublietteref09_Chain.calls {x0 x1 x2 : Value} {R : KV} {X : KX} {w : World} (h : oublietteref09_Chain.b x0 x1 x2 R X w) : GCalls Tryd.prog 52 [x0, x1, x2] R X w :=
  gcalls_of (pl := oublietteref09_Chain.pl) Tryd.func52 rfl (by kernel_rfl) hmixed (oublietteref09_Chain.b_eq x0 x1 x2 R X w ▸ h)

/-! oubliette/kdf.Derive -/
def kdf_Derive.pl : Nat → DrawPlan
  | _ => ⟨[], .done⟩
def kdf_Derive.b (x0 : Value) (x1 : Value) (R : KV) (X : KX) (w : World) : Prop :=
  pBinS .add (.string ⟨#[111, 117, 98, 108, 105, 101, 116, 116, 101, 32]⟩) x1 fun t10 =>
  pCall Tryd.prog 78 [(.int .u64 32), (.int .i64 2)] X w fun t11 w =>
  pLenS t10 fun t13 =>
  pConv .u8 t13 fun t14 =>
  pBSlice 5 1 (rowOf [.int .u8 0] 1) [(0, 1, t14)] w fun t15 w =>
  pApp 5 1 1 [.int .u8 0] t11 t15 w fun t16 w =>
  pApp 5 1 1 [.int .u8 0] t16 t10 w fun t21 w =>
  pCall Tryd.prog 79 [x0, t21, (.int .i64 32)] X w fun t22 w =>
  pExt t22 0 fun t23 =>
  pExt t22 1 fun t24 =>
  R t23 w
theorem kdf_Derive.b_eq (x0 : Value) (x1 : Value) (R : KV) (X : KX) (w : World) : atP Tryd.prog Tryd.f54 kdf_Derive.pl [] [] R X ([x0, x1] ++ undefs 24) w = kdf_Derive.b x0 x1 R X w := by kernel_rfl
theorem kdf_Derive.calls {x0 x1 : Value} {R : KV} {X : KX} {w : World} (h : kdf_Derive.b x0 x1 R X w) : GCalls Tryd.prog 54 [x0, x1] R X w :=
  gcalls_of (pl := kdf_Derive.pl) Tryd.func54 rfl (by kernel_rfl) hmixed (kdf_Derive.b_eq x0 x1 R X w ▸ h)

/-! oubliette/oublietteref08.Of -/
def oublietteref08_Of.pl : Nat → DrawPlan
  | _ => ⟨[], .done⟩
def oublietteref08_Of.b (x0 : Value) (x1 : Value) (R : KV) (X : KX) (w : World) : Prop :=
  pCall Tryd.prog 94 [x0, (.int .u8 54)] X w fun t7 w =>
  pCall Tryd.prog 46 [t7, x1] X w fun t9 w =>
  pCall Tryd.prog 93 [t9] X w fun t10 w =>
  pCall Tryd.prog 94 [x0, (.int .u8 92)] X w fun t12 w =>
  pCall Tryd.prog 46 [t12, t10] X w fun t14 w =>
  pCall Tryd.prog 93 [t14] X w fun t15 w =>
  R t15 w
theorem oublietteref08_Of.b_eq (x0 : Value) (x1 : Value) (R : KV) (X : KX) (w : World) : atP Tryd.prog Tryd.f75 oublietteref08_Of.pl [] [] R X ([x0, x1] ++ undefs 14) w = oublietteref08_Of.b x0 x1 R X w := by kernel_rfl
theorem oublietteref08_Of.calls {x0 x1 : Value} {R : KV} {X : KX} {w : World} (h : oublietteref08_Of.b x0 x1 R X w) : GCalls Tryd.prog 75 [x0, x1] R X w :=
  gcalls_of (pl := oublietteref08_Of.pl) Tryd.func75 rfl (by kernel_rfl) hmixed (oublietteref08_Of.b_eq x0 x1 R X w ▸ h)

/-! oubliette/kdf.Expand -/
def kdf_Expand.pl : Nat → DrawPlan
  | _ => ⟨[], .done⟩
def kdf_Expand.b1 (x2 : Value) (x6 : Value) (x8 : Value) (x9 : Value) (x10 : Value) (g : Nat → Value) (N1 : List Value → World → Prop) (R : KV) (X : KX) (w : World) : Prop :=
  pCallV Tryd.prog x9 [x10] X w fun t22 w =>
  pSt x8 t22 w fun _ w =>
  pLd (· = w) x8 fun t24 =>
  pApp 5 1 1 [.int .u8 0] x6 t24 w fun t25 w =>
  pLenSl t25 fun t27 =>
  pBinI .geq .i64 t27 x2 fun t29 =>
  scond t29
  (pSl 1 t25 none (some x2) (some x2) fun t33 =>
    R (.tuple #[t33, (.int .i64 0)]) w)
  (pBinI .add .i64 x10 (.int .i64 1) fun t19 =>
    N1 [(g 0), (g 1), x2, (g 3), (g 4), (g 5), t25, (g 7), x8, x9, t19, (g 11), (g 12), (g 13), (g 14), (g 15), (g 16), (g 17), x10, t19, x9, x10, t22, x6, t24, t25, t25, t27, x2, t29, (g 30), (g 31), (g 32), (g 33)] w)
def kdf_Expand.I1 (e : List Value) (R : KV) (X : KX) (w : World) : Prop := atP Tryd.prog Tryd.f79 kdf_Expand.pl [1, 0, 1, 1, 1, 1, 0, 1, 0] [] R X e w
theorem kdf_Expand.I1_eq (e : List Value) (R : KV) (X : KX) (w : World) : kdf_Expand.I1 e R X w = loopS (fun N e w => atP Tryd.prog Tryd.f79 kdf_Expand.pl [1, 0, 1, 1, 1, 1, 0, 1, 0, 0] [N] R X e w) e w := by kernel_rfl
def kdf_Expand.fr1 (x2 : Value) (x6 : Value) (x8 : Value) (x9 : Value) (x10 : Value) (g : Nat → Value) : List Value := [g 0, g 1, x2, g 3, g 4, g 5, x6, g 7, x8, x9, x10, g 11, g 12, g 13, g 14, g 15, g 16, g 17, g 18, g 19, g 20, g 21, g 22, g 23, g 24, g 25, g 26, g 27, g 28, g 29, g 30, g 31, g 32, g 33]
theorem kdf_Expand.b1_eq (x2 : Value) (x6 : Value) (x8 : Value) (x9 : Value) (x10 : Value) (g : Nat → Value) (N1 : List Value → World → Prop) (R : KV) (X : KX) (w : World) : atP Tryd.prog Tryd.f79 kdf_Expand.pl [1, 0, 1, 1, 1, 1, 0, 1, 0, 0] [N1] R X (kdf_Expand.fr1 x2 x6 x8 x9 x10 g) w = kdf_Expand.b1 x2 x6 x8 x9 x10 g N1 R X w := by kernel_rfl
/-- What a round of this loop hands on. -/
def kdf_Expand.N1 (J : Value → Value → World → Prop) (m : Value → Value → World → Nat) (x2 : Value) (x8 : Value) (x9 : Value) (x6 : Value) (x10 : Value) (w : World) : List Value → World → Prop := fun e w' => (∃ y6 y10 g, e = kdf_Expand.fr1 x2 y6 x8 x9 y10 g ∧ J y6 y10 w') ∧ m (nth e 6) (nth e 10) w' < m x6 x10 w
theorem kdf_Expand.leaf1 {J : Value → Value → World → Prop} {m : Value → Value → World → Nat} {x2 : Value} {x6 : Value} {x8 : Value} {x9 : Value} {x10 : Value} {w w' : World} {e0 e1 e3 e4 e5 e6 e7 e10 e11 e12 e13 e14 e15 e16 e17 e18 e19 e20 e21 e22 e23 e24 e25 e26 e27 e28 e29 e30 e31 e32 e33 : Value} (h : J e6 e10 w') (hm : m e6 e10 w' < m x6 x10 w) : kdf_Expand.N1 J m x2 x8 x9 x6 x10 w [e0, e1, x2, e3, e4, e5, e6, e7, x8, x9, e10, e11, e12, e13, e14, e15, e16, e17, e18, e19, e20, e21, e22, e23, e24, e25, e26, e27, e28, e29, e30, e31, e32, e33] w' :=
  ⟨⟨e6, e10, (fun i => nth [e0, e1, x2, e3, e4, e5, e6, e7, x8, x9, e10, e11, e12, e13, e14, e15, e16, e17, e18, e19, e20, e21, e22, e23, e24, e25, e26, e27, e28, e29, e30, e31, e32, e33] i), rfl, h⟩, hm⟩
theorem kdf_Expand.loop1 (J : Value → Value → World → Prop) (m : Value → Value → World → Nat) {R : KV} {X : KX} {w : World} {x2 : Value} {x8 : Value} {x9 : Value} {e0 e1 e3 e4 e5 e6 e7 e10 e11 e12 e13 e14 e15 e16 e17 e18 e19 e20 e21 e22 e23 e24 e25 e26 e27 e28 e29 e30 e31 e32 e33 : Value} (h0 : J e6 e10 w)
    (hr : ∀ x6 x10 g w, J x6 x10 w → kdf_Expand.b1 x2 x6 x8 x9 x10 g (kdf_Expand.N1 J m x2 x8 x9 x6 x10 w) R X w) : kdf_Expand.I1 [e0, e1, x2, e3, e4, e5, e6, e7, x8, x9, e10, e11, e12, e13, e14, e15, e16, e17, e18, e19, e20, e21, e22, e23, e24, e25, e26, e27, e28, e29, e30, e31, e32, e33] R X w := by
  rw [kdf_Expand.I1_eq]
  refine ⟨fun e w => ∃ y6 y10 g, e = kdf_Expand.fr1 x2 y6 x8 x9 y10 g ∧ J y6 y10 w, fun e w => m (nth e 6) (nth e 10) w, ⟨e6, e10, (fun i => nth [e0, e1, x2, e3, e4, e5, e6, e7, x8, x9, e10, e11, e12, e13, e14, e15, e16, e17, e18, e19, e20, e21, e22, e23, e24, e25, e26, e27, e28, e29, e30, e31, e32, e33] i), rfl, h0⟩, ?_⟩
  rintro _ w ⟨y6, y10, g, rfl, hJ⟩
  rw [kdf_Expand.b1_eq]
  exact hr y6 y10 g w hJ
def kdf_Expand.b (x0 : Value) (x1 : Value) (x2 : Value) (R : KV) (X : KX) (w : World) : Prop :=
  pBox 22 x0 w fun t3 w =>
  pBox 22 x1 w fun t4 w =>
  pBinI .lss .i64 x2 (.int .i64 1) fun t12 =>
  gIf t12 false (fun K => K x2) fun t14 =>
  gIf t12 false (fun K => pBinI .gtr .i64 t14 (.int .i64 8160) K) fun t15 =>
  pPick t12 (.bool true) t15 fun t16 =>
  scond t16
  (R (.tuple #[(.slice none 0 0), (.int .i64 2)]) w)
  (pBox 22 (.agg #[.slice none 0 0]) w fun t8 w =>
    kdf_Expand.I1 [x0, x1, x2, t3, t4, undef, (.slice none 0 0), (.int .i64 0), t8, (.func (.func 95) #[] #[t3, t8, t4]), (.int .i64 1), x2, t12, t12, t14, t15, t16, (.func (.func 95) #[] #[t3, t8, t4]), undef, undef, undef, undef, undef, undef, undef, undef, undef, undef, undef, undef, undef, undef, undef, undef] R X w)
theorem kdf_Expand.b_eq (x0 : Value) (x1 : Value) (x2 : Value) (R : KV) (X : KX) (w : World) : atP Tryd.prog Tryd.f79 kdf_Expand.pl [] [] R X ([x0, x1, x2] ++ undefs 31) w = kdf_Expand.b x0 x1 x2 R X w := by kernel_rfl
theorem kdf_Expand.calls {x0 x1 x2 : Value} {R : KV} {X : KX} {w : World} (h : kdf_Expand.b x0 x1 x2 R X w) : GCalls Tryd.prog 79 [x0, x1, x2] R X w :=
  gcalls_of (pl := kdf_Expand.pl) Tryd.func79 rfl (by kernel_rfl) hmixed (kdf_Expand.b_eq x0 x1 x2 R X w ▸ h)

/-! oubliette/oublietteref08.over -/
def oublietteref08_over.pl : Nat → DrawPlan
  | _ => ⟨[], .done⟩
def oublietteref08_over.b1 (x1 : Value) (x5 : Value) (x6 : Value) (x7 : Value) (g : Nat → Value) (N1 : List Value → World → Prop) (R : KV) (X : KX) (w : World) : Prop :=
  pBinI .lss .i64 x7 (.int .i64 64) fun t11 =>
  scond t11
  (pIA 1 x6 x7 fun t17 =>
    pLd (· = w) t17 fun t18 =>
    pBinI .xor .u8 t18 x1 fun t20 =>
    pBSlice 5 1 (rowOf [.int .u8 0] 1) [(0, 1, t20)] w fun t21 w =>
    pApp 5 1 1 [.int .u8 0] x5 t21 w fun t22 w =>
    pBinI .add .i64 x7 (.int .i64 1) fun t13 =>
    N1 [(g 0), x1, (g 2), (g 3), (g 4), t22, x6, t13, (g 8), (g 9), x7, t11, x7, t13, x5, x6, x7, t17, t18, x1, t20, t21, t22, (g 23)] w)
  (R x5 w)
def oublietteref08_over.I1 (e : List Value) (R : KV) (X : KX) (w : World) : Prop := atP Tryd.prog Tryd.f94 oublietteref08_over.pl [1, 1, 1, 0, 1, 0] [] R X e w
theorem oublietteref08_over.I1_eq (e : List Value) (R : KV) (X : KX) (w : World) : oublietteref08_over.I1 e R X w = loopS (fun N e w => atP Tryd.prog Tryd.f94 oublietteref08_over.pl [1, 1, 1, 0, 1, 0, 0] [N] R X e w) e w := by kernel_rfl
def oublietteref08_over.fr1 (x1 : Value) (x5 : Value) (x6 : Value) (x7 : Value) (g : Nat → Value) : List Value := [g 0, x1, g 2, g 3, g 4, x5, x6, x7, g 8, g 9, g 10, g 11, g 12, g 13, g 14, g 15, g 16, g 17, g 18, g 19, g 20, g 21, g 22, g 23]
theorem oublietteref08_over.b1_eq (x1 : Value) (x5 : Value) (x6 : Value) (x7 : Value) (g : Nat → Value) (N1 : List Value → World → Prop) (R : KV) (X : KX) (w : World) : atP Tryd.prog Tryd.f94 oublietteref08_over.pl [1, 1, 1, 0, 1, 0, 0] [N1] R X (oublietteref08_over.fr1 x1 x5 x6 x7 g) w = oublietteref08_over.b1 x1 x5 x6 x7 g N1 R X w := by kernel_rfl
/-- What a round of this loop hands on. -/
def oublietteref08_over.N1 (J : Value → Value → World → Prop) (m : Value → Value → World → Nat) (x1 : Value) (x6 : Value) (x5 : Value) (x7 : Value) (w : World) : List Value → World → Prop := fun e w' => (∃ y5 y7 g, e = oublietteref08_over.fr1 x1 y5 x6 y7 g ∧ J y5 y7 w') ∧ m (nth e 5) (nth e 7) w' < m x5 x7 w
theorem oublietteref08_over.leaf1 {J : Value → Value → World → Prop} {m : Value → Value → World → Nat} {x1 : Value} {x5 : Value} {x6 : Value} {x7 : Value} {w w' : World} {e0 e2 e3 e4 e5 e7 e8 e9 e10 e11 e12 e13 e14 e15 e16 e17 e18 e19 e20 e21 e22 e23 : Value} (h : J e5 e7 w') (hm : m e5 e7 w' < m x5 x7 w) : oublietteref08_over.N1 J m x1 x6 x5 x7 w [e0, x1, e2, e3, e4, e5, x6, e7, e8, e9, e10, e11, e12, e13, e14, e15, e16, e17, e18, e19, e20, e21, e22, e23] w' :=
  ⟨⟨e5, e7, (fun i => nth [e0, x1, e2, e3, e4, e5, x6, e7, e8, e9, e10, e11, e12, e13, e14, e15, e16, e17, e18, e19, e20, e21, e22, e23] i), rfl, h⟩, hm⟩
theorem oublietteref08_over.loop1 (J : Value → Value → World → Prop) (m : Value → Value → World → Nat) {R : KV} {X : KX} {w : World} {x1 : Value} {x6 : Value} {e0 e2 e3 e4 e5 e7 e8 e9 e10 e11 e12 e13 e14 e15 e16 e17 e18 e19 e20 e21 e22 e23 : Value} (h0 : J e5 e7 w)
    (hr : ∀ x5 x7 g w, J x5 x7 w → oublietteref08_over.b1 x1 x5 x6 x7 g (oublietteref08_over.N1 J m x1 x6 x5 x7 w) R X w) : oublietteref08_over.I1 [e0, x1, e2, e3, e4, e5, x6, e7, e8, e9, e10, e11, e12, e13, e14, e15, e16, e17, e18, e19, e20, e21, e22, e23] R X w := by
  rw [oublietteref08_over.I1_eq]
  refine ⟨fun e w => ∃ y5 y7 g, e = oublietteref08_over.fr1 x1 y5 x6 y7 g ∧ J y5 y7 w, fun e w => m (nth e 5) (nth e 7) w, ⟨e5, e7, (fun i => nth [e0, x1, e2, e3, e4, e5, x6, e7, e8, e9, e10, e11, e12, e13, e14, e15, e16, e17, e18, e19, e20, e21, e22, e23] i), rfl, h0⟩, ?_⟩
  rintro _ w ⟨y5, y7, g, rfl, hJ⟩
  rw [oublietteref08_over.b1_eq]
  exact hr y5 y7 g w hJ
def oublietteref08_over.b (x0 : Value) (x1 : Value) (R : KV) (X : KX) (w : World) : Prop :=
  pCall Tryd.prog 109 [x0] X w fun t9 w =>
  oublietteref08_over.I1 [x0, x1, undef, undef, (.slice none 0 0), (.slice none 0 0), t9, (.int .i64 0), x0, t9, undef, undef, undef, undef, undef, undef, undef, undef, undef, undef, undef, undef, undef, undef] R X w
theorem oublietteref08_over.b_eq (x0 : Value) (x1 : Value) (R : KV) (X : KX) (w : World) : atP Tryd.prog Tryd.f94 oublietteref08_over.pl [] [] R X ([x0, x1] ++ undefs 22) w = oublietteref08_over.b x0 x1 R X w := by kernel_rfl
theorem oublietteref08_over.calls {x0 x1 : Value} {R : KV} {X : KX} {w : World} (h : oublietteref08_over.b x0 x1 R X w) : GCalls Tryd.prog 94 [x0, x1] R X w :=
  gcalls_of (pl := oublietteref08_over.pl) Tryd.func94 rfl (by kernel_rfl) hmixed (oublietteref08_over.b_eq x0 x1 R X w ▸ h)

/-! oubliette/kdf.Expand$1 -/
def kdf_Expand_c1.pl : Nat → DrawPlan
  | 1 => ⟨[([], [9]), ([], [3]), ([], [3]), ([1, 2], [1, 2, 4]), ([3], [3, 8]), ([], [6]), ([5], [5, 7]), ([6], [6, 8]), ([4, 7, 4], [4, 7, 9]), ([0, 8, 8], [0, 8, 10]), ([9, 9, 0, 1, 2, 3, 4, 5, 6, 7, 8, 9], [9])], .take 0 (.take 1 (.take 2 (.take 5 (.take 6 (.world 3 false (.world 4 false (.world 7 false (.world 8 false (.world 9 false (.take 10 (.done)) .none) .none) .none) (.world 7 false (.world 4 false (.world 8 false (.world 9 false (.take 10 (.done)) .none) .none) .none) .none)) (.world 7 false (.world 3 false (.world 4 false (.world 8 false (.world 9 false (.take 10 (.done)) .none) .none) .none) .none) .none))))))⟩
  | _ => ⟨[], .done⟩
def kdf_Expand_c1.b (x0 : Value) (x1 : Value) (x2 : Value) (x3 : Value) (R : KV) (X : KX) (w : World) : Prop :=
  drawn w fun S w =>
  pLd S x1 fun t6 =>
  pLd S x2 fun t7 =>
  pLd S x3 fun t8 =>
  pConv .u8 x0 fun t12 =>
  (pBSlice 22 2 (rowOf [.slice none 0 0] 2) [(0, 1, t7), (1, 1, t8)] w fun t9 w =>
    S w ∧ ((pCall Tryd.prog 97 [t9] X w fun t10 w =>
        S w ∧ (pBSlice 5 1 (rowOf [.int .u8 0] 1) [(0, 1, t12)] w fun t13 w =>
          S w ∧ (pApp 5 1 1 [.int .u8 0] t10 t13 w fun t14 w =>
            S w ∧ (pCall Tryd.prog 96 [t6, t14] X w fun t15 w =>
              S w ∧ (R t15 w))))) ∧
      (pBSlice 5 1 (rowOf [.int .u8 0] 1) [(0, 1, t12)] w fun t13_1 w =>
        S w ∧ (pCall Tryd.prog 97 [t9] X w fun t10_1 w =>
          S w ∧ (pApp 5 1 1 [.int .u8 0] t10_1 t13_1 w fun t14_1 w =>
            S w ∧ (pCall Tryd.prog 96 [t6, t14_1] X w fun t15_1 w =>
              S w ∧ (R t15_1 w))))))) ∧
  (pBSlice 5 1 (rowOf [.int .u8 0] 1) [(0, 1, t12)] w fun t13_2 w =>
    S w ∧ (pBSlice 22 2 (rowOf [.slice none 0 0] 2) [(0, 1, t7), (1, 1, t8)] w fun t9_1 w =>
      S w ∧ (pCall Tryd.prog 97 [t9_1] X w fun t10_2 w =>
        S w ∧ (pApp 5 1 1 [.int .u8 0] t10_2 t13_2 w fun t14_2 w =>
          S w ∧ (pCall Tryd.prog 96 [t6, t14_2] X w fun t15_2 w =>
            S w ∧ (R t15_2 w))))))
theorem kdf_Expand_c1.b_eq (x0 : Value) (x1 : Value) (x2 : Value) (x3 : Value) (R : KV) (X : KX) (w : World) : atP Tryd.prog Tryd.f95 kdf_Expand_c1.pl [] [] R X ([x0, x1, x2, x3] ++ undefs 12) w = kdf_Expand_c1.b x0 x1 x2 x3 R X w := by kernel_rfl
theorem kdf_Expand_c1.calls {x0 x1 x2 x3 : Value} {R : KV} {X : KX} {w : World} (h : kdf_Expand_c1.b x0 x1 x2 x3 R X w) : GCalls Tryd.prog 95 [x0, x1, x2, x3] R X w :=
  gcalls_of (pl := kdf_Expand_c1.pl) Tryd.func95 rfl (by kernel_rfl) hmixed (kdf_Expand_c1.b_eq x0 x1 x2 x3 R X w ▸ h)

/-! oubliette/mac.Of -/
def mac_Of.pl : Nat → DrawPlan
  | _ => ⟨[], .done⟩
def mac_Of.b (x0 : Value) (x1 : Value) (R : KV) (X : KX) (w : World) : Prop :=
  pBSlice 22 1 (rowOf [.slice none 0 0] 1) [(0, 1, x1)] w fun t7 w =>
  pCall Tryd.prog 110 [x0, t7] X w fun t8 w =>
  R t8 w
theorem mac_Of.b_eq (x0 : Value) (x1 : Value) (R : KV) (X : KX) (w : World) : atP Tryd.prog Tryd.f96 mac_Of.pl [] [] R X ([x0, x1] ++ undefs 7) w = mac_Of.b x0 x1 R X w := by kernel_rfl
theorem mac_Of.calls {x0 x1 : Value} {R : KV} {X : KX} {w : World} (h : mac_Of.b x0 x1 R X w) : GCalls Tryd.prog 96 [x0, x1] R X w :=
  gcalls_of (pl := mac_Of.pl) Tryd.func96 rfl (by kernel_rfl) hmixed (mac_Of.b_eq x0 x1 R X w ▸ h)

/-! oubliette/kdf.Extract -/
def kdf_Extract.pl : Nat → DrawPlan
  | _ => ⟨[], .done⟩
def kdf_Extract.b (x0 : Value) (x1 : Value) (R : KV) (X : KX) (w : World) : Prop :=
  pCall Tryd.prog 96 [x0, x1] X w fun t7 w =>
  R t7 w
theorem kdf_Extract.b_eq (x0 : Value) (x1 : Value) (R : KV) (X : KX) (w : World) : atP Tryd.prog Tryd.f100 kdf_Extract.pl [] [] R X ([x0, x1] ++ undefs 6) w = kdf_Extract.b x0 x1 R X w := by kernel_rfl
theorem kdf_Extract.calls {x0 x1 : Value} {R : KV} {X : KX} {w : World} (h : kdf_Extract.b x0 x1 R X w) : GCalls Tryd.prog 100 [x0, x1] R X w :=
  gcalls_of (pl := kdf_Extract.pl) Tryd.func100 rfl (by kernel_rfl) hmixed (kdf_Extract.b_eq x0 x1 R X w ▸ h)

/-! oubliette/oublietteref08.Key -/
def oublietteref08_Key.pl : Nat → DrawPlan
  | _ => ⟨[], .done⟩
def oublietteref08_Key.j1 (x0 : Value) (g : Nat → Value) (R : KV) (X : KX) (w : World) : Prop :=
  pCall Tryd.prog 118 [x0, (.int .i64 64)] X w fun t9 w =>
  R t9 w
def oublietteref08_Key.b (x0 : Value) (R : KV) (X : KX) (w : World) : Prop :=
  pLenSl x0 fun t4 =>
  pBinI .gtr .i64 t4 (.int .i64 64) fun t5 =>
  scond t5
  (pCall Tryd.prog 93 [x0] X w fun t7 w =>
    oublietteref08_Key.j1 t7 (fun i => nth [t7, undef, (.slice none 0 0), x0, t4, t5, x0, t7, undef, undef] i) R X w)
  (oublietteref08_Key.j1 x0 (fun i => nth [x0, undef, (.slice none 0 0), x0, t4, t5, undef, undef, undef, undef] i) R X w)
theorem oublietteref08_Key.b_eq (x0 : Value) (R : KV) (X : KX) (w : World) : atP Tryd.prog Tryd.f109 oublietteref08_Key.pl [] [] R X ([x0] ++ undefs 9) w = oublietteref08_Key.b x0 R X w := by kernel_rfl
theorem oublietteref08_Key.calls {x0 : Value} {R : KV} {X : KX} {w : World} (h : oublietteref08_Key.b x0 R X w) : GCalls Tryd.prog 109 [x0] R X w :=
  gcalls_of (pl := oublietteref08_Key.pl) Tryd.func109 rfl (by kernel_rfl) hmixed (oublietteref08_Key.b_eq x0 R X w ▸ h)

/-! oubliette/mac.tag -/
def mac_tag.pl : Nat → DrawPlan
  | _ => ⟨[], .done⟩
def mac_tag.b (x0 : Value) (x1 : Value) (R : KV) (X : KX) (w : World) : Prop :=
  pCall Tryd.prog 119 [x0] X w fun t9 w =>
  pBox 22 (.agg #[.slice none 0 0]) w fun t5 w =>
  pSt t5 t9 w fun _ w =>
  pCallV Tryd.prog (.func (.func 120) #[] #[t5]) [(.int .u8 54)] X w fun t12 w =>
  pCall Tryd.prog 97 [x1] X w fun t14 w =>
  pApp 5 1 1 [.int .u8 0] t12 t14 w fun t15 w =>
  pCall Tryd.prog 123 [t15] X w fun t16 w =>
  pCallV Tryd.prog (.func (.func 120) #[] #[t5]) [(.int .u8 92)] X w fun t18 w =>
  pApp 5 1 1 [.int .u8 0] t18 t16 w fun t20 w =>
  pCall Tryd.prog 123 [t20] X w fun t21 w =>
  R t21 w
theorem mac_tag.b_eq (x0 : Value) (x1 : Value) (R : KV) (X : KX) (w : World) : atP Tryd.prog Tryd.f110 mac_tag.pl [] [] R X ([x0, x1] ++ undefs 20) w = mac_tag.b x0 x1 R X w := by kernel_rfl
theorem mac_tag.calls {x0 x1 : Value} {R : KV} {X : KX} {w : World} (h : mac_tag.b x0 x1 R X w) : GCalls Tryd.prog 110 [x0, x1] R X w :=
  gcalls_of (pl := mac_tag.pl) Tryd.func110 rfl (by kernel_rfl) hmixed (mac_tag.b_eq x0 x1 R X w ▸ h)

/-! oubliette/mac.Key -/
def mac_Key.pl : Nat → DrawPlan
  | _ => ⟨[], .done⟩
def mac_Key.j1 (x0 : Value) (g : Nat → Value) (R : KV) (X : KX) (w : World) : Prop :=
  pCall Tryd.prog 81 [x0, (.int .i64 64)] X w fun t9 w =>
  R t9 w
def mac_Key.b (x0 : Value) (R : KV) (X : KX) (w : World) : Prop :=
  pLenSl x0 fun t4 =>
  pBinI .gtr .i64 t4 (.int .i64 64) fun t5 =>
  scond t5
  (pCall Tryd.prog 123 [x0] X w fun t7 w =>
    mac_Key.j1 t7 (fun i => nth [t7, undef, (.slice none 0 0), x0, t4, t5, x0, t7, undef, undef] i) R X w)
  (mac_Key.j1 x0 (fun i => nth [x0, undef, (.slice none 0 0), x0, t4, t5, undef, undef, undef, undef] i) R X w)
theorem mac_Key.b_eq (x0 : Value) (R : KV) (X : KX) (w : World) : atP Tryd.prog Tryd.f119 mac_Key.pl [] [] R X ([x0] ++ undefs 9) w = mac_Key.b x0 R X w := by kernel_rfl
theorem mac_Key.calls {x0 : Value} {R : KV} {X : KX} {w : World} (h : mac_Key.b x0 R X w) : GCalls Tryd.prog 119 [x0] R X w :=
  gcalls_of (pl := mac_Key.pl) Tryd.func119 rfl (by kernel_rfl) hmixed (mac_Key.b_eq x0 R X w ▸ h)

/-! oubliette/mac.tag$1 -/
def mac_tag_c1.pl : Nat → DrawPlan
  | 1 => ⟨[([], [4]), ([], [2]), ([1], [1, 3]), ([2], [2, 4]), ([0, 3, 3], [0, 3, 5]), ([4, 4, 0, 1, 2, 3, 4], [4])], .take 0 (.take 1 (.world 2 false (.world 3 false (.world 4 true (.take 5 (.done)) .none) .none) .none))⟩
  | _ => ⟨[], .done⟩
def mac_tag_c1.b (x0 : Value) (x1 : Value) (R : KV) (X : KX) (w : World) : Prop :=
  drawn w fun S w =>
  pLd S x1 fun t4 =>
  pBSlice 5 1 (rowOf [.int .u8 0] 1) [(0, 1, x0)] w fun t6 w =>
  S w ∧ (pCall Tryd.prog 122 [t6, (.int .i64 64)] X w fun t7 w =>
    S w ∧ (pCall Tryd.prog 121 [t4, t7] X w fun t8 w =>
      anew w fun S w =>
      R t8 w))
theorem mac_tag_c1.b_eq (x0 : Value) (x1 : Value) (R : KV) (X : KX) (w : World) : atP Tryd.prog Tryd.f120 mac_tag_c1.pl [] [] R X ([x0, x1] ++ undefs 7) w = mac_tag_c1.b x0 x1 R X w := by kernel_rfl
theorem mac_tag_c1.calls {x0 x1 : Value} {R : KV} {X : KX} {w : World} (h : mac_tag_c1.b x0 x1 R X w) : GCalls Tryd.prog 120 [x0, x1] R X w :=
  gcalls_of (pl := mac_tag_c1.pl) Tryd.func120 rfl (by kernel_rfl) hmixed (mac_tag_c1.b_eq x0 x1 R X w ▸ h)
end Go.Proofs.YtkpgmaiklfjjgaaDoor
end
