/-
  The functions' own code as conditions on values and worlds; the kernel checks that each is the code's own.
  The functions' own code as conditions on values and worlds; the kernel checks that each is the code's own.
  What values read as, and what a call leaves as it was.
-/
import Derived.Test.YtkpgmaiklfjjgaaGreatDoorMoaf
import Derived.Test.YtkpgmaiklfjjgaaGreatDoorProg
section
set_option maxRecDepth 100000
set_option linter.unusedVariables false
namespace Go.Proofs.YtkpgmaiklfjjgaaGreatDoor
open Go.G

/-! oubliette/oublietteref09.Derive -/
def oublietteref09_Derive.pl : Nat → DrawPlan
  | _ => ⟨[], .done⟩
def oublietteref09_Derive.b (x0 : Value) (x1 : Value) (R : KV) (X : KX) (w : World) : Prop :=
  pBinS .add (.string ⟨#[111, 117, 98, 108, 105, 101, 116, 116, 101, 32]⟩) x1 fun t10 =>
  pLenS t10 fun t12 =>
  pDiv .rem .i64 t12 (.int .i64 256) fun t13 =>
  pConv .u8 t13 fun t14 =>
  pBSlice 5 3 (rowOf [.int .u8 0] 3) [(0, 1, (.int .u8 0)), (1, 1, (.int .u8 32)), (2, 1, t14)] w fun t15 w =>
  pBytesOf 5 t10 w fun t17 w =>
  pCall Tryz.prog 58 [t15, t17] X w fun t18 w =>
  pCall Tryz.prog 59 [x0, t18, (.int .i64 32)] X w fun t22 w =>
  pExt t22 0 fun t23 =>
  pExt t22 1 fun t24 =>
  R t23 w
theorem oublietteref09_Derive.b_eq (x0 : Value) (x1 : Value) (R : KV) (X : KX) (w : World) : atP Tryz.prog Tryz.f33 oublietteref09_Derive.pl [] [] R X ([x0, x1] ++ undefs 24) w = oublietteref09_Derive.b x0 x1 R X w := by kernel_rfl
theorem oublietteref09_Derive.calls {x0 x1 : Value} {R : KV} {X : KX} {w : World} (h : oublietteref09_Derive.b x0 x1 R X w) : GCalls Tryz.prog 33 [x0, x1] R X w :=
  gcalls_of (pl := oublietteref09_Derive.pl) Tryz.func33 rfl (by kernel_rfl) hmixed (oublietteref09_Derive.b_eq x0 x1 R X w ▸ h)

/-! oubliette/oublietteref09.Expand -/
def oublietteref09_Expand.pl : Nat → DrawPlan
  | _ => ⟨[], .done⟩
def oublietteref09_Expand.b1 (x0 : Value) (x1 : Value) (x2 : Value) (x8 : Value) (x9 : Value) (x10 : Value) (g : Nat → Value) (N1 : List Value → World → Prop) (R : KV) (X : KX) (w : World) : Prop :=
  pLenSl x8 fun t18 =>
  pBinI .lss .i64 t18 x2 fun t20 =>
  scond t20
  (pCall Tryz.prog 58 [x9, x1] X w fun t26 w =>
    pConv .u8 x10 fun t28 =>
    pBSlice 5 1 (rowOf [.int .u8 0] 1) [(0, 1, t28)] w fun t29 w =>
    pCall Tryz.prog 58 [t26, t29] X w fun t30 w =>
    pCall Tryz.prog 60 [x0, t30] X w fun t31 w =>
    pApp 5 1 1 [.int .u8 0] x8 t31 w fun t34 w =>
    pBinI .add .i64 x10 (.int .i64 1) fun t22 =>
    N1 [x0, x1, x2, (g 3), (g 4), (g 5), (g 6), (g 7), t34, t31, t22, (g 11), (g 12), (g 13), (g 14), (g 15), (g 16), x8, t18, x2, t20, x10, t22, x0, x9, x1, t26, x10, t28, t29, t30, t31, x8, t31, t34, (g 35), (g 36), (g 37)] w)
  (pSl 1 x8 none (some x2) none fun t37 =>
    R (.tuple #[t37, (.int .i64 0)]) w)
def oublietteref09_Expand.I1 (e : List Value) (R : KV) (X : KX) (w : World) : Prop := atP Tryz.prog Tryz.f59 oublietteref09_Expand.pl [1, 1, 1, 0, 1, 0] [] R X e w
theorem oublietteref09_Expand.I1_eq (e : List Value) (R : KV) (X : KX) (w : World) : oublietteref09_Expand.I1 e R X w = loopS (fun N e w => atP Tryz.prog Tryz.f59 oublietteref09_Expand.pl [1, 1, 1, 0, 1, 0, 0] [N] R X e w) e w := by kernel_rfl
def oublietteref09_Expand.fr1 (x0 : Value) (x1 : Value) (x2 : Value) (x8 : Value) (x9 : Value) (x10 : Value) (g : Nat → Value) : List Value := [x0, x1, x2, g 3, g 4, g 5, g 6, g 7, x8, x9, x10, g 11, g 12, g 13, g 14, g 15, g 16, g 17, g 18, g 19, g 20, g 21, g 22, g 23, g 24, g 25, g 26, g 27, g 28, g 29, g 30, g 31, g 32, g 33, g 34, g 35, g 36, g 37]
theorem oublietteref09_Expand.b1_eq (x0 : Value) (x1 : Value) (x2 : Value) (x8 : Value) (x9 : Value) (x10 : Value) (g : Nat → Value) (N1 : List Value → World → Prop) (R : KV) (X : KX) (w : World) : atP Tryz.prog Tryz.f59 oublietteref09_Expand.pl [1, 1, 1, 0, 1, 0, 0] [N1] R X (oublietteref09_Expand.fr1 x0 x1 x2 x8 x9 x10 g) w = oublietteref09_Expand.b1 x0 x1 x2 x8 x9 x10 g N1 R X w := by kernel_rfl
/-- What a round of this loop hands on. -/
def oublietteref09_Expand.N1 (J : Value → Value → Value → World → Prop) (m : Value → Value → Value → World → Nat) (x0 : Value) (x1 : Value) (x2 : Value) (x8 : Value) (x9 : Value) (x10 : Value) (w : World) : List Value → World → Prop := fun e w' => (∃ y8 y9 y10 g, e = oublietteref09_Expand.fr1 x0 x1 x2 y8 y9 y10 g ∧ J y8 y9 y10 w') ∧ m (nth e 8) (nth e 9) (nth e 10) w' < m x8 x9 x10 w
theorem oublietteref09_Expand.leaf1 {J : Value → Value → Value → World → Prop} {m : Value → Value → Value → World → Nat} {x0 : Value} {x1 : Value} {x2 : Value} {x8 : Value} {x9 : Value} {x10 : Value} {w w' : World} {e3 e4 e5 e6 e7 e8 e9 e10 e11 e12 e13 e14 e15 e16 e17 e18 e19 e20 e21 e22 e23 e24 e25 e26 e27 e28 e29 e30 e31 e32 e33 e34 e35 e36 e37 : Value} (h : J e8 e9 e10 w') (hm : m e8 e9 e10 w' < m x8 x9 x10 w) : oublietteref09_Expand.N1 J m x0 x1 x2 x8 x9 x10 w [x0, x1, x2, e3, e4, e5, e6, e7, e8, e9, e10, e11, e12, e13, e14, e15, e16, e17, e18, e19, e20, e21, e22, e23, e24, e25, e26, e27, e28, e29, e30, e31, e32, e33, e34, e35, e36, e37] w' :=
  ⟨⟨e8, e9, e10, (fun i => nth [x0, x1, x2, e3, e4, e5, e6, e7, e8, e9, e10, e11, e12, e13, e14, e15, e16, e17, e18, e19, e20, e21, e22, e23, e24, e25, e26, e27, e28, e29, e30, e31, e32, e33, e34, e35, e36, e37] i), rfl, h⟩, hm⟩
theorem oublietteref09_Expand.loop1 (J : Value → Value → Value → World → Prop) (m : Value → Value → Value → World → Nat) {R : KV} {X : KX} {w : World} {x0 : Value} {x1 : Value} {x2 : Value} {e3 e4 e5 e6 e7 e8 e9 e10 e11 e12 e13 e14 e15 e16 e17 e18 e19 e20 e21 e22 e23 e24 e25 e26 e27 e28 e29 e30 e31 e32 e33 e34 e35 e36 e37 : Value} (h0 : J e8 e9 e10 w)
    (hr : ∀ x8 x9 x10 g w, J x8 x9 x10 w → oublietteref09_Expand.b1 x0 x1 x2 x8 x9 x10 g (oublietteref09_Expand.N1 J m x0 x1 x2 x8 x9 x10 w) R X w) : oublietteref09_Expand.I1 [x0, x1, x2, e3, e4, e5, e6, e7, e8, e9, e10, e11, e12, e13, e14, e15, e16, e17, e18, e19, e20, e21, e22, e23, e24, e25, e26, e27, e28, e29, e30, e31, e32, e33, e34, e35, e36, e37] R X w := by
  rw [oublietteref09_Expand.I1_eq]
  refine ⟨fun e w => ∃ y8 y9 y10 g, e = oublietteref09_Expand.fr1 x0 x1 x2 y8 y9 y10 g ∧ J y8 y9 y10 w, fun e w => m (nth e 8) (nth e 9) (nth e 10) w, ⟨e8, e9, e10, (fun i => nth [x0, x1, x2, e3, e4, e5, e6, e7, e8, e9, e10, e11, e12, e13, e14, e15, e16, e17, e18, e19, e20, e21, e22, e23, e24, e25, e26, e27, e28, e29, e30, e31, e32, e33, e34, e35, e36, e37] i), rfl, h0⟩, ?_⟩
  rintro _ w ⟨y8, y9, y10, g, rfl, hJ⟩
  rw [oublietteref09_Expand.b1_eq]
  exact hr y8 y9 y10 g w hJ
def oublietteref09_Expand.b (x0 : Value) (x1 : Value) (x2 : Value) (R : KV) (X : KX) (w : World) : Prop :=
  pBinI .lss .i64 x2 (.int .i64 1) fun t12 =>
  gIf t12 false (fun K => K x2) fun t14 =>
  gIf t12 false (fun K => pBinI .gtr .i64 t14 (.int .i64 8160) K) fun t15 =>
  pPick t12 (.bool true) t15 fun t16 =>
  scond t16
  (R (.tuple #[(.slice none 0 0), (.int .i64 2)]) w)
  (oublietteref09_Expand.I1 [x0, x1, x2, undef, undef, undef, (.slice none 0 0), (.int .i64 0), (.slice none 0 0), (.slice none 0 0), (.int .i64 1), x2, t12, t12, t14, t15, t16, undef, undef, undef, undef, undef, undef, undef, undef, undef, undef, undef, undef, undef, undef, undef, undef, undef, undef, undef, undef, undef] R X w)
theorem oublietteref09_Expand.b_eq (x0 : Value) (x1 : Value) (x2 : Value) (R : KV) (X : KX) (w : World) : atP Tryz.prog Tryz.f59 oublietteref09_Expand.pl [] [] R X ([x0, x1, x2] ++ undefs 35) w = oublietteref09_Expand.b x0 x1 x2 R X w := by kernel_rfl
theorem oublietteref09_Expand.calls {x0 x1 x2 : Value} {R : KV} {X : KX} {w : World} (h : oublietteref09_Expand.b x0 x1 x2 R X w) : GCalls Tryz.prog 59 [x0, x1, x2] R X w :=
  gcalls_of (pl := oublietteref09_Expand.pl) Tryz.func59 rfl (by kernel_rfl) hmixed (oublietteref09_Expand.b_eq x0 x1 x2 R X w ▸ h)

/-! oubliette/kdf.Derive -/
def kdf_Derive.pl : Nat → DrawPlan
  | _ => ⟨[], .done⟩
def kdf_Derive.b (x0 : Value) (x1 : Value) (R : KV) (X : KX) (w : World) : Prop :=
  pBinS .add (.string ⟨#[111, 117, 98, 108, 105, 101, 116, 116, 101, 32]⟩) x1 fun t10 =>
  pCall Tryz.prog 62 [(.int .u64 32), (.int .i64 2)] X w fun t11 w =>
  pLenS t10 fun t13 =>
  pConv .u8 t13 fun t14 =>
  pBSlice 5 1 (rowOf [.int .u8 0] 1) [(0, 1, t14)] w fun t15 w =>
  pApp 5 1 1 [.int .u8 0] t11 t15 w fun t16 w =>
  pApp 5 1 1 [.int .u8 0] t16 t10 w fun t21 w =>
  pCall Tryz.prog 70 [x0, t21, (.int .i64 32)] X w fun t22 w =>
  pExt t22 0 fun t23 =>
  pExt t22 1 fun t24 =>
  R t23 w
theorem kdf_Derive.b_eq (x0 : Value) (x1 : Value) (R : KV) (X : KX) (w : World) : atP Tryz.prog Tryz.f53 kdf_Derive.pl [] [] R X ([x0, x1] ++ undefs 24) w = kdf_Derive.b x0 x1 R X w := by kernel_rfl
theorem kdf_Derive.calls {x0 x1 : Value} {R : KV} {X : KX} {w : World} (h : kdf_Derive.b x0 x1 R X w) : GCalls Tryz.prog 53 [x0, x1] R X w :=
  gcalls_of (pl := kdf_Derive.pl) Tryz.func53 rfl (by kernel_rfl) hmixed (kdf_Derive.b_eq x0 x1 R X w ▸ h)

/-! oubliette/oublietteref08.Of -/
def oublietteref08_Of.pl : Nat → DrawPlan
  | _ => ⟨[], .done⟩
def oublietteref08_Of.b (x0 : Value) (x1 : Value) (R : KV) (X : KX) (w : World) : Prop :=
  pCall Tryz.prog 75 [x0, (.int .u8 54)] X w fun t7 w =>
  pCall Tryz.prog 58 [t7, x1] X w fun t9 w =>
  pCall Tryz.prog 74 [t9] X w fun t10 w =>
  pCall Tryz.prog 75 [x0, (.int .u8 92)] X w fun t12 w =>
  pCall Tryz.prog 58 [t12, t10] X w fun t14 w =>
  pCall Tryz.prog 74 [t14] X w fun t15 w =>
  R t15 w
theorem oublietteref08_Of.b_eq (x0 : Value) (x1 : Value) (R : KV) (X : KX) (w : World) : atP Tryz.prog Tryz.f60 oublietteref08_Of.pl [] [] R X ([x0, x1] ++ undefs 14) w = oublietteref08_Of.b x0 x1 R X w := by kernel_rfl
theorem oublietteref08_Of.calls {x0 x1 : Value} {R : KV} {X : KX} {w : World} (h : oublietteref08_Of.b x0 x1 R X w) : GCalls Tryz.prog 60 [x0, x1] R X w :=
  gcalls_of (pl := oublietteref08_Of.pl) Tryz.func60 rfl (by kernel_rfl) hmixed (oublietteref08_Of.b_eq x0 x1 R X w ▸ h)

/-! oubliette/kdf.Expand -/
def kdf_Expand.pl : Nat → DrawPlan
  | _ => ⟨[], .done⟩
def kdf_Expand.b1 (x2 : Value) (x6 : Value) (x8 : Value) (x9 : Value) (x10 : Value) (g : Nat → Value) (N1 : List Value → World → Prop) (R : KV) (X : KX) (w : World) : Prop :=
  pCallV Tryz.prog x9 [x10] X w fun t22 w =>
  pSt x8 t22 w fun _ w =>
  pLd (· = w) x8 fun t24 =>
  pApp 5 1 1 [.int .u8 0] x6 t24 w fun t25 w =>
  pLenSl t25 fun t27 =>
  pBinI .geq .i64 t27 x2 fun t29 =>
  scond t29
  (pSl 1 t25 none (some x2) (some x2) fun t33 =>
    R (.tuple #[t33, (.int .i64 0)]) w)
  (pBinI .add .i64 x10 (.int .i64 1) fun t19 =>
    N1 [(g 0), (g 1), x2, (g 3), (g 4), (g 5), t25, (g 7), x8, x9, t19, (g 11), (g 12), (g 13), (g 14), (g 15), (g 16), (g 17), x10, t19, x9, x10, t22, x6, t24, t25, t25, t27, x2, t29, (g 30), (g 31), (g 32), (g 33)] w)
def kdf_Expand.I1 (e : List Value) (R : KV) (X : KX) (w : World) : Prop := atP Tryz.prog Tryz.f70 kdf_Expand.pl [1, 0, 1, 1, 1, 1, 0, 1, 0] [] R X e w
theorem kdf_Expand.I1_eq (e : List Value) (R : KV) (X : KX) (w : World) : kdf_Expand.I1 e R X w = loopS (fun N e w => atP Tryz.prog Tryz.f70 kdf_Expand.pl [1, 0, 1, 1, 1, 1, 0, 1, 0, 0] [N] R X e w) e w := by kernel_rfl
def kdf_Expand.fr1 (x2 : Value) (x6 : Value) (x8 : Value) (x9 : Value) (x10 : Value) (g : Nat → Value) : List Value := [g 0, g 1, x2, g 3, g 4, g 5, x6, g 7, x8, x9, x10, g 11, g 12, g 13, g 14, g 15, g 16, g 17, g 18, g 19, g 20, g 21, g 22, g 23, g 24, g 25, g 26, g 27, g 28, g 29, g 30, g 31, g 32, g 33]
theorem kdf_Expand.b1_eq (x2 : Value) (x6 : Value) (x8 : Value) (x9 : Value) (x10 : Value) (g : Nat → Value) (N1 : List Value → World → Prop) (R : KV) (X : KX) (w : World) : atP Tryz.prog Tryz.f70 kdf_Expand.pl [1, 0, 1, 1, 1, 1, 0, 1, 0, 0] [N1] R X (kdf_Expand.fr1 x2 x6 x8 x9 x10 g) w = kdf_Expand.b1 x2 x6 x8 x9 x10 g N1 R X w := by kernel_rfl
/-- What a round of this loop hands on. -/
def kdf_Expand.N1 (J : Value → Value → World → Prop) (m : Value → Value → World → Nat) (x2 : Value) (x8 : Value) (x9 : Value) (x6 : Value) (x10 : Value) (w : World) : List Value → World → Prop := fun e w' => (∃ y6 y10 g, e = kdf_Expand.fr1 x2 y6 x8 x9 y10 g ∧ J y6 y10 w') ∧ m (nth e 6) (nth e 10) w' < m x6 x10 w
theorem kdf_Expand.leaf1 {J : Value → Value → World → Prop} {m : Value → Value → World → Nat} {x2 : Value} {x6 : Value} {x8 : Value} {x9 : Value} {x10 : Value} {w w' : World} {e0 e1 e3 e4 e5 e6 e7 e10 e11 e12 e13 e14 e15 e16 e17 e18 e19 e20 e21 e22 e23 e24 e25 e26 e27 e28 e29 e30 e31 e32 e33 : Value} (h : J e6 e10 w') (hm : m e6 e10 w' < m x6 x10 w) : kdf_Expand.N1 J m x2 x8 x9 x6 x10 w [e0, e1, x2, e3, e4, e5, e6, e7, x8, x9, e10, e11, e12, e13, e14, e15, e16, e17, e18, e19, e20, e21, e22, e23, e24, e25, e26, e27, e28, e29, e30, e31, e32, e33] w' :=
  ⟨⟨e6, e10, (fun i => nth [e0, e1, x2, e3, e4, e5, e6, e7, x8, x9, e10, e11, e12, e13, e14, e15, e16, e17, e18, e19, e20, e21, e22, e23, e24, e25, e26, e27, e28, e29, e30, e31, e32, e33] i), rfl, h⟩, hm⟩
theorem kdf_Expand.loop1 (J : Value → Value → World → Prop) (m : Value → Value → World → Nat) {R : KV} {X : KX} {w : World} {x2 : Value} {x8 : Value} {x9 : Value} {e0 e1 e3 e4 e5 e6 e7 e10 e11 e12 e13 e14 e15 e16 e17 e18 e19 e20 e21 e22 e23 e24 e25 e26 e27 e28 e29 e30 e31 e32 e33 : Value} (h0 : J e6 e10 w)
    (hr : ∀ x6 x10 g w, J x6 x10 w → kdf_Expand.b1 x2 x6 x8 x9 x10 g (kdf_Expand.N1 J m x2 x8 x9 x6 x10 w) R X w) : kdf_Expand.I1 [e0, e1, x2, e3, e4, e5, e6, e7, x8, x9, e10, e11, e12, e13, e14, e15, e16, e17, e18, e19, e20, e21, e22, e23, e24, e25, e26, e27, e28, e29, e30, e31, e32, e33] R X w := by
  rw [kdf_Expand.I1_eq]
  refine ⟨fun e w => ∃ y6 y10 g, e = kdf_Expand.fr1 x2 y6 x8 x9 y10 g ∧ J y6 y10 w, fun e w => m (nth e 6) (nth e 10) w, ⟨e6, e10, (fun i => nth [e0, e1, x2, e3, e4, e5, e6, e7, x8, x9, e10, e11, e12, e13, e14, e15, e16, e17, e18, e19, e20, e21, e22, e23, e24, e25, e26, e27, e28, e29, e30, e31, e32, e33] i), rfl, h0⟩, ?_⟩
  rintro _ w ⟨y6, y10, g, rfl, hJ⟩
  rw [kdf_Expand.b1_eq]
  exact hr y6 y10 g w hJ
def kdf_Expand.b (x0 : Value) (x1 : Value) (x2 : Value) (R : KV) (X : KX) (w : World) : Prop :=
  pBox 22 x0 w fun t3 w =>
  pBox 22 x1 w fun t4 w =>
  pBinI .lss .i64 x2 (.int .i64 1) fun t12 =>
  gIf t12 false (fun K => K x2) fun t14 =>
  gIf t12 false (fun K => pBinI .gtr .i64 t14 (.int .i64 8160) K) fun t15 =>
  pPick t12 (.bool true) t15 fun t16 =>
  scond t16
  (R (.tuple #[(.slice none 0 0), (.int .i64 2)]) w)
  (pBox 22 (.agg #[.slice none 0 0]) w fun t8 w =>
    kdf_Expand.I1 [x0, x1, x2, t3, t4, undef, (.slice none 0 0), (.int .i64 0), t8, (.func (.func 81) #[] #[t3, t8, t4]), (.int .i64 1), x2, t12, t12, t14, t15, t16, (.func (.func 81) #[] #[t3, t8, t4]), undef, undef, undef, undef, undef, undef, undef, undef, undef, undef, undef, undef, undef, undef, undef, undef] R X w)
theorem kdf_Expand.b_eq (x0 : Value) (x1 : Value) (x2 : Value) (R : KV) (X : KX) (w : World) : atP Tryz.prog Tryz.f70 kdf_Expand.pl [] [] R X ([x0, x1, x2] ++ undefs 31) w = kdf_Expand.b x0 x1 x2 R X w := by kernel_rfl
theorem kdf_Expand.calls {x0 x1 x2 : Value} {R : KV} {X : KX} {w : World} (h : kdf_Expand.b x0 x1 x2 R X w) : GCalls Tryz.prog 70 [x0, x1, x2] R X w :=
  gcalls_of (pl := kdf_Expand.pl) Tryz.func70 rfl (by kernel_rfl) hmixed (kdf_Expand.b_eq x0 x1 x2 R X w ▸ h)

/-! oubliette/oublietteref08.over -/
def oublietteref08_over.pl : Nat → DrawPlan
  | _ => ⟨[], .done⟩
def oublietteref08_over.b1 (x1 : Value) (x5 : Value) (x6 : Value) (x7 : Value) (g : Nat → Value) (N1 : List Value → World → Prop) (R : KV) (X : KX) (w : World) : Prop :=
  pBinI .lss .i64 x7 (.int .i64 64) fun t11 =>
  scond t11
  (pIA 1 x6 x7 fun t17 =>
    pLd (· = w) t17 fun t18 =>
    pBinI .xor .u8 t18 x1 fun t20 =>
    pBSlice 5 1 (rowOf [.int .u8 0] 1) [(0, 1, t20)] w fun t21 w =>
    pApp 5 1 1 [.int .u8 0] x5 t21 w fun t22 w =>
    pBinI .add .i64 x7 (.int .i64 1) fun t13 =>
    N1 [(g 0), x1, (g 2), (g 3), (g 4), t22, x6, t13, (g 8), (g 9), x7, t11, x7, t13, x5, x6, x7, t17, t18, x1, t20, t21, t22, (g 23)] w)
  (R x5 w)
def oublietteref08_over.I1 (e : List Value) (R : KV) (X : KX) (w : World) : Prop := atP Tryz.prog Tryz.f75 oublietteref08_over.pl [1, 1, 1, 0, 1, 0] [] R X e w
theorem oublietteref08_over.I1_eq (e : List Value) (R : KV) (X : KX) (w : World) : oublietteref08_over.I1 e R X w = loopS (fun N e w => atP Tryz.prog Tryz.f75 oublietteref08_over.pl [1, 1, 1, 0, 1, 0, 0] [N] R X e w) e w := by kernel_rfl
def oublietteref08_over.fr1 (x1 : Value) (x5 : Value) (x6 : Value) (x7 : Value) (g : Nat → Value) : List Value := [g 0, x1, g 2, g 3, g 4, x5, x6, x7, g 8, g 9, g 10, g 11, g 12, g 13, g 14, g 15, g 16, g 17, g 18, g 19, g 20, g 21, g 22, g 23]
theorem oublietteref08_over.b1_eq (x1 : Value) (x5 : Value) (x6 : Value) (x7 : Value) (g : Nat → Value) (N1 : List Value → World → Prop) (R : KV) (X : KX) (w : World) : atP Tryz.prog Tryz.f75 oublietteref08_over.pl [1, 1, 1, 0, 1, 0, 0] [N1] R X (oublietteref08_over.fr1 x1 x5 x6 x7 g) w = oublietteref08_over.b1 x1 x5 x6 x7 g N1 R X w := by kernel_rfl
/-- What a round of this loop hands on. -/
def oublietteref08_over.N1 (J : Value → Value → World → Prop) (m : Value → Value → World → Nat) (x1 : Value) (x6 : Value) (x5 : Value) (x7 : Value) (w : World) : List Value → World → Prop := fun e w' => (∃ y5 y7 g, e = oublietteref08_over.fr1 x1 y5 x6 y7 g ∧ J y5 y7 w') ∧ m (nth e 5) (nth e 7) w' < m x5 x7 w
theorem oublietteref08_over.leaf1 {J : Value → Value → World → Prop} {m : Value → Value → World → Nat} {x1 : Value} {x5 : Value} {x6 : Value} {x7 : Value} {w w' : World} {e0 e2 e3 e4 e5 e7 e8 e9 e10 e11 e12 e13 e14 e15 e16 e17 e18 e19 e20 e21 e22 e23 : Value} (h : J e5 e7 w') (hm : m e5 e7 w' < m x5 x7 w) : oublietteref08_over.N1 J m x1 x6 x5 x7 w [e0, x1, e2, e3, e4, e5, x6, e7, e8, e9, e10, e11, e12, e13, e14, e15, e16, e17, e18, e19, e20, e21, e22, e23] w' :=
  ⟨⟨e5, e7, (fun i => nth [e0, x1, e2, e3, e4, e5, x6, e7, e8, e9, e10, e11, e12, e13, e14, e15, e16, e17, e18, e19, e20, e21, e22, e23] i), rfl, h⟩, hm⟩
theorem oublietteref08_over.loop1 (J : Value → Value → World → Prop) (m : Value → Value → World → Nat) {R : KV} {X : KX} {w : World} {x1 : Value} {x6 : Value} {e0 e2 e3 e4 e5 e7 e8 e9 e10 e11 e12 e13 e14 e15 e16 e17 e18 e19 e20 e21 e22 e23 : Value} (h0 : J e5 e7 w)
    (hr : ∀ x5 x7 g w, J x5 x7 w → oublietteref08_over.b1 x1 x5 x6 x7 g (oublietteref08_over.N1 J m x1 x6 x5 x7 w) R X w) : oublietteref08_over.I1 [e0, x1, e2, e3, e4, e5, x6, e7, e8, e9, e10, e11, e12, e13, e14, e15, e16, e17, e18, e19, e20, e21, e22, e23] R X w := by
  rw [oublietteref08_over.I1_eq]
  refine ⟨fun e w => ∃ y5 y7 g, e = oublietteref08_over.fr1 x1 y5 x6 y7 g ∧ J y5 y7 w, fun e w => m (nth e 5) (nth e 7) w, ⟨e5, e7, (fun i => nth [e0, x1, e2, e3, e4, e5, x6, e7, e8, e9, e10, e11, e12, e13, e14, e15, e16, e17, e18, e19, e20, e21, e22, e23] i), rfl, h0⟩, ?_⟩
  rintro _ w ⟨y5, y7, g, rfl, hJ⟩
  rw [oublietteref08_over.b1_eq]
  exact hr y5 y7 g w hJ
def oublietteref08_over.b (x0 : Value) (x1 : Value) (R : KV) (X : KX) (w : World) : Prop :=
  pCall Tryz.prog 88 [x0] X w fun t9 w =>
  oublietteref08_over.I1 [x0, x1, undef, undef, (.slice none 0 0), (.slice none 0 0), t9, (.int .i64 0), x0, t9, undef, undef, undef, undef, undef, undef, undef, undef, undef, undef, undef, undef, undef, undef] R X w
theorem oublietteref08_over.b_eq (x0 : Value) (x1 : Value) (R : KV) (X : KX) (w : World) : atP Tryz.prog Tryz.f75 oublietteref08_over.pl [] [] R X ([x0, x1] ++ undefs 22) w = oublietteref08_over.b x0 x1 R X w := by kernel_rfl
theorem oublietteref08_over.calls {x0 x1 : Value} {R : KV} {X : KX} {w : World} (h : oublietteref08_over.b x0 x1 R X w) : GCalls Tryz.prog 75 [x0, x1] R X w :=
  gcalls_of (pl := oublietteref08_over.pl) Tryz.func75 rfl (by kernel_rfl) hmixed (oublietteref08_over.b_eq x0 x1 R X w ▸ h)

/-! oubliette/kdf.Expand$1 -/
def kdf_Expand_c1.pl : Nat → DrawPlan
  | 1 => ⟨[([], [9]), ([], [3]), ([], [3]), ([1, 2], [1, 2, 4]), ([3], [3, 8]), ([], [6]), ([5], [5, 7]), ([6], [6, 8]), ([4, 7, 4], [4, 7, 9]), ([0, 8, 8], [0, 8, 10]), ([9, 9, 0, 1, 2, 3, 4, 5, 6, 7, 8, 9], [9])], .take 0 (.take 1 (.take 2 (.take 5 (.take 6 (.world 3 false (.world 4 false (.world 7 false (.world 8 false (.world 9 false (.take 10 (.done)) .none) .none) .none) (.world 7 false (.world 4 false (.world 8 false (.world 9 false (.take 10 (.done)) .none) .none) .none) .none)) (.world 7 false (.world 3 false (.world 4 false (.world 8 false (.world 9 false (.take 10 (.done)) .none) .none) .none) .none) .none))))))⟩
  | _ => ⟨[], .done⟩
def kdf_Expand_c1.b (x0 : Value) (x1 : Value) (x2 : Value) (x3 : Value) (R : KV) (X : KX) (w : World) : Prop :=
  drawn w fun S w =>
  pLd S x1 fun t6 =>
  pLd S x2 fun t7 =>
  pLd S x3 fun t8 =>
  pConv .u8 x0 fun t12 =>
  (pBSlice 22 2 (rowOf [.slice none 0 0] 2) [(0, 1, t7), (1, 1, t8)] w fun t9 w =>
    S w ∧ ((pCall Tryz.prog 83 [t9] X w fun t10 w =>
        S w ∧ (pBSlice 5 1 (rowOf [.int .u8 0] 1) [(0, 1, t12)] w fun t13 w =>
          S w ∧ (pApp 5 1 1 [.int .u8 0] t10 t13 w fun t14 w =>
            S w ∧ (pCall Tryz.prog 82 [t6, t14] X w fun t15 w =>
              S w ∧ (R t15 w))))) ∧
      (pBSlice 5 1 (rowOf [.int .u8 0] 1) [(0, 1, t12)] w fun t13_1 w =>
        S w ∧ (pCall Tryz.prog 83 [t9] X w fun t10_1 w =>
          S w ∧ (pApp 5 1 1 [.int .u8 0] t10_1 t13_1 w fun t14_1 w =>
            S w ∧ (pCall Tryz.prog 82 [t6, t14_1] X w fun t15_1 w =>
              S w ∧ (R t15_1 w))))))) ∧
  (pBSlice 5 1 (rowOf [.int .u8 0] 1) [(0, 1, t12)] w fun t13_2 w =>
    S w ∧ (pBSlice 22 2 (rowOf [.slice none 0 0] 2) [(0, 1, t7), (1, 1, t8)] w fun t9_1 w =>
      S w ∧ (pCall Tryz.prog 83 [t9_1] X w fun t10_2 w =>
        S w ∧ (pApp 5 1 1 [.int .u8 0] t10_2 t13_2 w fun t14_2 w =>
          S w ∧ (pCall Tryz.prog 82 [t6, t14_2] X w fun t15_2 w =>
            S w ∧ (R t15_2 w))))))
theorem kdf_Expand_c1.b_eq (x0 : Value) (x1 : Value) (x2 : Value) (x3 : Value) (R : KV) (X : KX) (w : World) : atP Tryz.prog Tryz.f81 kdf_Expand_c1.pl [] [] R X ([x0, x1, x2, x3] ++ undefs 12) w = kdf_Expand_c1.b x0 x1 x2 x3 R X w := by kernel_rfl
theorem kdf_Expand_c1.calls {x0 x1 x2 x3 : Value} {R : KV} {X : KX} {w : World} (h : kdf_Expand_c1.b x0 x1 x2 x3 R X w) : GCalls Tryz.prog 81 [x0, x1, x2, x3] R X w :=
  gcalls_of (pl := kdf_Expand_c1.pl) Tryz.func81 rfl (by kernel_rfl) hmixed (kdf_Expand_c1.b_eq x0 x1 x2 x3 R X w ▸ h)

/-! oubliette/mac.Of -/
def mac_Of.pl : Nat → DrawPlan
  | _ => ⟨[], .done⟩
def mac_Of.b (x0 : Value) (x1 : Value) (R : KV) (X : KX) (w : World) : Prop :=
  pBSlice 22 1 (rowOf [.slice none 0 0] 1) [(0, 1, x1)] w fun t7 w =>
  pCall Tryz.prog 93 [x0, t7] X w fun t8 w =>
  R t8 w
theorem mac_Of.b_eq (x0 : Value) (x1 : Value) (R : KV) (X : KX) (w : World) : atP Tryz.prog Tryz.f82 mac_Of.pl [] [] R X ([x0, x1] ++ undefs 7) w = mac_Of.b x0 x1 R X w := by kernel_rfl
theorem mac_Of.calls {x0 x1 : Value} {R : KV} {X : KX} {w : World} (h : mac_Of.b x0 x1 R X w) : GCalls Tryz.prog 82 [x0, x1] R X w :=
  gcalls_of (pl := mac_Of.pl) Tryz.func82 rfl (by kernel_rfl) hmixed (mac_Of.b_eq x0 x1 R X w ▸ h)

/-! oubliette/kdf.Extract -/
def kdf_Extract.pl : Nat → DrawPlan
  | _ => ⟨[], .done⟩
def kdf_Extract.b (x0 : Value) (x1 : Value) (R : KV) (X : KX) (w : World) : Prop :=
  pCall Tryz.prog 82 [x0, x1] X w fun t7 w =>
  R t7 w
theorem kdf_Extract.b_eq (x0 : Value) (x1 : Value) (R : KV) (X : KX) (w : World) : atP Tryz.prog Tryz.f73 kdf_Extract.pl [] [] R X ([x0, x1] ++ undefs 6) w = kdf_Extract.b x0 x1 R X w := by kernel_rfl
theorem kdf_Extract.calls {x0 x1 : Value} {R : KV} {X : KX} {w : World} (h : kdf_Extract.b x0 x1 R X w) : GCalls Tryz.prog 73 [x0, x1] R X w :=
  gcalls_of (pl := kdf_Extract.pl) Tryz.func73 rfl (by kernel_rfl) hmixed (kdf_Extract.b_eq x0 x1 R X w ▸ h)

/-! oubliette/oublietteref08.Key -/
def oublietteref08_Key.pl : Nat → DrawPlan
  | _ => ⟨[], .done⟩
def oublietteref08_Key.j1 (x0 : Value) (g : Nat → Value) (R : KV) (X : KX) (w : World) : Prop :=
  pCall Tryz.prog 97 [x0, (.int .i64 64)] X w fun t9 w =>
  R t9 w
def oublietteref08_Key.b (x0 : Value) (R : KV) (X : KX) (w : World) : Prop :=
  pLenSl x0 fun t4 =>
  pBinI .gtr .i64 t4 (.int .i64 64) fun t5 =>
  scond t5
  (pCall Tryz.prog 74 [x0] X w fun t7 w =>
    oublietteref08_Key.j1 t7 (fun i => nth [t7, undef, (.slice none 0 0), x0, t4, t5, x0, t7, undef, undef] i) R X w)
  (oublietteref08_Key.j1 x0 (fun i => nth [x0, undef, (.slice none 0 0), x0, t4, t5, undef, undef, undef, undef] i) R X w)
theorem oublietteref08_Key.b_eq (x0 : Value) (R : KV) (X : KX) (w : World) : atP Tryz.prog Tryz.f88 oublietteref08_Key.pl [] [] R X ([x0] ++ undefs 9) w = oublietteref08_Key.b x0 R X w := by kernel_rfl
theorem oublietteref08_Key.calls {x0 : Value} {R : KV} {X : KX} {w : World} (h : oublietteref08_Key.b x0 R X w) : GCalls Tryz.prog 88 [x0] R X w :=
  gcalls_of (pl := oublietteref08_Key.pl) Tryz.func88 rfl (by kernel_rfl) hmixed (oublietteref08_Key.b_eq x0 R X w ▸ h)

/-! oubliette/mac.tag -/
def mac_tag.pl : Nat → DrawPlan
  | _ => ⟨[], .done⟩
def mac_tag.b (x0 : Value) (x1 : Value) (R : KV) (X : KX) (w : World) : Prop :=
  pCall Tryz.prog 102 [x0] X w fun t9 w =>
  pBox 22 (.agg #[.slice none 0 0]) w fun t5 w =>
  pSt t5 t9 w fun _ w =>
  pCallV Tryz.prog (.func (.func 103) #[] #[t5]) [(.int .u8 54)] X w fun t12 w =>
  pCall Tryz.prog 83 [x1] X w fun t14 w =>
  pApp 5 1 1 [.int .u8 0] t12 t14 w fun t15 w =>
  pCall Tryz.prog 106 [t15] X w fun t16 w =>
  pCallV Tryz.prog (.func (.func 103) #[] #[t5]) [(.int .u8 92)] X w fun t18 w =>
  pApp 5 1 1 [.int .u8 0] t18 t16 w fun t20 w =>
  pCall Tryz.prog 106 [t20] X w fun t21 w =>
  R t21 w
theorem mac_tag.b_eq (x0 : Value) (x1 : Value) (R : KV) (X : KX) (w : World) : atP Tryz.prog Tryz.f93 mac_tag.pl [] [] R X ([x0, x1] ++ undefs 20) w = mac_tag.b x0 x1 R X w := by kernel_rfl
theorem mac_tag.calls {x0 x1 : Value} {R : KV} {X : KX} {w : World} (h : mac_tag.b x0 x1 R X w) : GCalls Tryz.prog 93 [x0, x1] R X w :=
  gcalls_of (pl := mac_tag.pl) Tryz.func93 rfl (by kernel_rfl) hmixed (mac_tag.b_eq x0 x1 R X w ▸ h)

/-! oubliette/mac.Key -/
def mac_Key.pl : Nat → DrawPlan
  | _ => ⟨[], .done⟩
def mac_Key.j1 (x0 : Value) (g : Nat → Value) (R : KV) (X : KX) (w : World) : Prop :=
  pCall Tryz.prog 63 [x0, (.int .i64 64)] X w fun t9 w =>
  R t9 w
def mac_Key.b (x0 : Value) (R : KV) (X : KX) (w : World) : Prop :=
  pLenSl x0 fun t4 =>
  pBinI .gtr .i64 t4 (.int .i64 64) fun t5 =>
  scond t5
  (pCall Tryz.prog 106 [x0] X w fun t7 w =>
    mac_Key.j1 t7 (fun i => nth [t7, undef, (.slice none 0 0), x0, t4, t5, x0, t7, undef, undef] i) R X w)
  (mac_Key.j1 x0 (fun i => nth [x0, undef, (.slice none 0 0), x0, t4, t5, undef, undef, undef, undef] i) R X w)
theorem mac_Key.b_eq (x0 : Value) (R : KV) (X : KX) (w : World) : atP Tryz.prog Tryz.f102 mac_Key.pl [] [] R X ([x0] ++ undefs 9) w = mac_Key.b x0 R X w := by kernel_rfl
theorem mac_Key.calls {x0 : Value} {R : KV} {X : KX} {w : World} (h : mac_Key.b x0 R X w) : GCalls Tryz.prog 102 [x0] R X w :=
  gcalls_of (pl := mac_Key.pl) Tryz.func102 rfl (by kernel_rfl) hmixed (mac_Key.b_eq x0 R X w ▸ h)

/-! oubliette/mac.tag$1 -/
def mac_tag_c1.pl : Nat → DrawPlan
  | 1 => ⟨[([], [4]), ([], [2]), ([1], [1, 3]), ([2], [2, 4]), ([0, 3, 3], [0, 3, 5]), ([4, 4, 0, 1, 2, 3, 4], [4])], .take 0 (.take 1 (.world 2 false (.world 3 false (.world 4 true (.take 5 (.done)) .none) .none) .none))⟩
  | _ => ⟨[], .done⟩
def mac_tag_c1.b (x0 : Value) (x1 : Value) (R : KV) (X : KX) (w : World) : Prop :=
  drawn w fun S w =>
  pLd S x1 fun t4 =>
  pBSlice 5 1 (rowOf [.int .u8 0] 1) [(0, 1, x0)] w fun t6 w =>
  S w ∧ (pCall Tryz.prog 105 [t6, (.int .i64 64)] X w fun t7 w =>
    S w ∧ (pCall Tryz.prog 104 [t4, t7] X w fun t8 w =>
      anew w fun S w =>
      R t8 w))
theorem mac_tag_c1.b_eq (x0 : Value) (x1 : Value) (R : KV) (X : KX) (w : World) : atP Tryz.prog Tryz.f103 mac_tag_c1.pl [] [] R X ([x0, x1] ++ undefs 7) w = mac_tag_c1.b x0 x1 R X w := by kernel_rfl
theorem mac_tag_c1.calls {x0 x1 : Value} {R : KV} {X : KX} {w : World} (h : mac_tag_c1.b x0 x1 R X w) : GCalls Tryz.prog 103 [x0, x1] R X w :=
  gcalls_of (pl := mac_tag_c1.pl) Tryz.func103 rfl (by kernel_rfl) hmixed (mac_tag_c1.b_eq x0 x1 R X w ▸ h)
end Go.Proofs.YtkpgmaiklfjjgaaGreatDoor
end
section
set_option maxRecDepth 100000
set_option linter.unusedVariables false
namespace Go.Proofs.YtkpgmaiklfjjgaaGreatDoor
open Go.G

/-! oubliette/draw.New -/
def draw_New.pl : Nat → DrawPlan
  | _ => ⟨[], .done⟩
def draw_New.b (x0 : Value) (R : KV) (X : KX) (w : World) : Prop :=
  pCall Tryz.prog 50 [x0] X w fun t4 w =>
  pBuild [.slice none 0 0, .int .i64 0] [(0, 1, t4)] fun t5 =>
  pBox 95 t5 w fun t6 w =>
  R t6 w
theorem draw_New.b_eq (x0 : Value) (R : KV) (X : KX) (w : World) : atP Tryz.prog Tryz.f24 draw_New.pl [] [] R X ([x0] ++ undefs 6) w = draw_New.b x0 R X w := by kernel_rfl
theorem draw_New.calls {x0 : Value} {R : KV} {X : KX} {w : World} (h : draw_New.b x0 R X w) : GCalls Tryz.prog 24 [x0] R X w :=
  gcalls_of (pl := draw_New.pl) Tryz.func24 rfl (by kernel_rfl) hmixed (draw_New.b_eq x0 R X w ▸ h)

/-! (*oubliette/draw.Source).Draw -/
def draw_Source_Draw.pl : Nat → DrawPlan
  | 4 => ⟨[([], [1]), ([0], [0, 2]), ([1], [1, 3]), ([2], [2, 9]), ([], [5]), ([4], [4, 6]), ([5], [5, 7]), ([6], [6, 8]), ([7], [7, 9]), ([3, 8], [3, 8, 10]), ([9, 9, 0, 1, 2, 3, 4, 5, 6, 7, 8, 9], [9])], .take 0 (.take 1 (.take 2 (.take 3 (.take 4 (.take 5 (.take 6 (.take 7 (.take 8 (.world 9 false (.take 10 (.done)) .none)))))))))⟩
  | _ => ⟨[], .done⟩
def draw_Source_Draw.b (x0 : Value) (R : KV) (X : KX) (w : World) : Prop :=
  pEq .ptr false x0 (.pointer none) fun t4 =>
  scond t4
  (R (.slice none 0 0) w)
  (pNil x0 fun t6 =>
    pFA 1 t6 fun t7 =>
    pLd (· = w) t7 fun t8 =>
    pBinI .add .i64 t8 (.int .i64 1) fun t9 =>
    pNil x0 fun t10 =>
    pFA 1 t10 fun t11 =>
    pSt t11 t9 w fun _ w =>
    drawn w fun S w =>
    pNil x0 fun t13 =>
    pFA 0 t13 fun t14 =>
    pLd S t14 fun t15 =>
    pNil x0 fun t17 =>
    pFA 1 t17 fun t18 =>
    pLd S t18 fun t19 =>
    pBinI .sub .i64 t19 (.int .i64 1) fun t20 =>
    pCall Tryz.prog 61 [t15, t20] X w fun t21 w =>
    S w ∧ (R t21 w))
theorem draw_Source_Draw.b_eq (x0 : Value) (R : KV) (X : KX) (w : World) : atP Tryz.prog Tryz.f39 draw_Source_Draw.pl [] [] R X ([x0] ++ undefs 21) w = draw_Source_Draw.b x0 R X w := by kernel_rfl
theorem draw_Source_Draw.calls {x0 : Value} {R : KV} {X : KX} {w : World} (h : draw_Source_Draw.b x0 R X w) : GCalls Tryz.prog 39 [x0] R X w :=
  gcalls_of (pl := draw_Source_Draw.pl) Tryz.func39 rfl (by kernel_rfl) hmixed (draw_Source_Draw.b_eq x0 R X w ▸ h)

/-! oubliette/draw.At -/
def draw_At.pl : Nat → DrawPlan
  | _ => ⟨[], .done⟩
def draw_At.b (x0 : Value) (x1 : Value) (R : KV) (X : KX) (w : World) : Prop :=
  pCall Tryz.prog 49 [x1] X w fun t7 w =>
  pBinS .add (.string ⟨#[100, 114, 97, 119, 32]⟩) t7 fun t8 =>
  pCall Tryz.prog 53 [x0, t8] X w fun t9 w =>
  R t9 w
theorem draw_At.b_eq (x0 : Value) (x1 : Value) (R : KV) (X : KX) (w : World) : atP Tryz.prog Tryz.f61 draw_At.pl [] [] R X ([x0, x1] ++ undefs 8) w = draw_At.b x0 x1 R X w := by kernel_rfl
theorem draw_At.calls {x0 x1 : Value} {R : KV} {X : KX} {w : World} (h : draw_At.b x0 x1 R X w) : GCalls Tryz.prog 61 [x0, x1] R X w :=
  gcalls_of (pl := draw_At.pl) Tryz.func61 rfl (by kernel_rfl) hmixed (draw_At.b_eq x0 x1 R X w ▸ h)
end Go.Proofs.YtkpgmaiklfjjgaaGreatDoor
end
section
set_option linter.unusedSimpArgs false
set_option linter.unusedVariables false
namespace Go.G
open Go

/-! ### 1. Worlds -/
/-- But for the blocks of T, what was there is as it was. -/
structure Fr (T : Nat → Prop) (w w' : World) : Prop where
  os : w'.os = w.os
  tape : w'.tape = w.tape
  output : w'.output = w.output
  size : w.heap.size ≤ w'.heap.size
  keep : ∀ b, b < w.heap.size → ¬ T b → w'.heap[b]? = w.heap[b]?
/-- All that was there is as it was. -/
abbrev Ext (w w' : World) : Prop := Fr (fun _ => False) w w'
theorem Fr.refl (T : Nat → Prop) (w : World) : Fr T w w := ⟨rfl, rfl, rfl, Nat.le_refl _, fun _ _ _ => rfl⟩
theorem Fr.trans {T T' : Nat → Prop} {a b c : World} (h : Fr T a b) (k : Fr T' b c) (hT : ∀ x, x < a.heap.size → T' x → T x) : Fr T a c :=
  ⟨k.os.trans h.os, k.tape.trans h.tape, k.output.trans h.output, Nat.le_trans h.size k.size, fun x hx hn => (k.keep x (Nat.lt_of_lt_of_le hx h.size) (fun ht => hn (hT x hx ht))).trans (h.keep x hx hn)⟩
theorem Fr.mono {T T' : Nat → Prop} {w w' : World} (h : Fr T w w') (hT : ∀ x, x < w.heap.size → T x → T' x) : Fr T' w w' :=
  ⟨h.os, h.tape, h.output, h.size, fun x hx hn => h.keep x hx (fun ht => hn (hT x hx ht))⟩
theorem Ext.tr {a b c : World} (h : Ext a b) (k : Ext b c) : Ext a c := Fr.trans h k (fun _ _ h => h)
/-- A step that only turns what was made since a. -/
theorem Ext.tn {a b c : World} {T : Nat → Prop} (h : Ext a b) (k : Fr T b c) (hT : ∀ x, T x → a.heap.size ≤ x) : Ext a c :=
  Fr.trans h k (fun x hx ht => by have := hT x ht; omega)
theorem Ext.drew (w : World) : Ext w w.drew := ⟨rfl, rfl, rfl, Nat.le_refl _, fun _ _ _ => rfl⟩
theorem heap_alloc (w : World) (o : Obj) : (w.alloc o).heap = w.heap.push o := rfl
theorem heap_drew (w : World) : w.drew.heap = w.heap := rfl
theorem Ext.alloc (w : World) (o : Obj) : Ext w (w.alloc o) :=
  ⟨rfl, rfl, rfl, by simp [heap_alloc], fun b hb _ => by rw [heap_alloc, Array.getElem?_push, if_neg (by omega)]⟩
theorem alloc_new (w : World) (o : Obj) : (w.alloc o).heap[w.heap.size]? = some o := by rw [heap_alloc]; simp
theorem size_alloc (w : World) (o : Obj) : (w.alloc o).heap.size = w.heap.size + 1 := by simp [heap_alloc]
theorem Fr.setCell (w : World) (a : Addr) (v : Value) : Fr (· = a.block) w (w.setCell a v) :=
  ⟨rfl, rfl, rfl, by simp [World.setCell], fun b _ hn => by rw [heap_setCell, if_neg (fun e => hn e.symm)]⟩
theorem Fr.setCells (a : Addr) : ∀ (xs : List Value) (i : Nat) (w : World), Fr (· = a.block) w (setCells w a i xs)
  | [], _, w => Fr.refl _ w
  | v :: r, i, w => by
    have h1 := Fr.setCell w (a.add i) v
    have hb : (a.add i).block = a.block := by unfold Addr.add; split <;> rfl
    rw [hb] at h1
    exact h1.trans (Fr.setCells a r (i + 1) _) (fun _ _ h => h)
theorem cell_lt {w : World} {a : Addr} {v : Value} (h : w.cell? a = some v) : a.block < w.heap.size := by
  unfold World.cell? at h
  split at h
  · rename_i h1; exact (Array.getElem?_eq_some_iff.1 h1).1
  · cases h
theorem cell_congr {w w' : World} {a : Addr} (h : w'.heap[a.block]? = w.heap[a.block]?) : w'.cell? a = w.cell? a := by unfold World.cell?; rw [h]
theorem Fr.cell {T : Nat → Prop} {w w' : World} (h : Fr T w w') {a : Addr} {v : Value} (hc : w.cell? a = some v) (hT : ¬ T a.block) : w'.cell? a = some v := by
  rw [cell_congr (h.keep _ (cell_lt hc) hT)]; exact hc
theorem Ext.cell {w w' : World} (h : Ext w w') {a : Addr} {v : Value} (hc : w.cell? a = some v) : w'.cell? a = some v := Fr.cell h hc (fun h => h)
theorem heap_lt {w : World} {b : Nat} {o : Obj} (h : w.heap[b]? = some o) : b < w.heap.size := (Array.getElem?_eq_some_iff.1 h).1
theorem Fr.heap {T : Nat → Prop} {w w' : World} (h : Fr T w w') {b : Nat} {o : Obj} (hc : w.heap[b]? = some o) (hT : ¬ T b) : w'.heap[b]? = some o := by
  rw [h.keep _ (heap_lt hc) hT]; exact hc
theorem add_add (a : Addr) (i j : Nat) (h : a.spot = none) : (a.add i).add j = a.add (i + j) := by
  obtain ⟨b, o, s⟩ := a
  simp only at h
  subst h
  unfold Addr.add
  by_cases h1 : i = 0
  · simp [h1]
  · by_cases h2 : j = 0
    · simp [h1, h2]
    · simp [h1, h2, show ¬ i + j = 0 by omega]; omega
theorem add_block (a : Addr) (i : Nat) : (a.add i).block = a.block := by unfold Addr.add; split <;> rfl
theorem add_spot (a : Addr) (i : Nat) (h : a.spot = none) : (a.add i).spot = none := by unfold Addr.add; split <;> simp [h]
theorem add_mk (b o i : Nat) : (⟨b, o, none⟩ : Addr).add i = ⟨b, o + i, none⟩ := by
  unfold Addr.add; split <;> simp_all
theorem cell_mk {w : World} {b o : Nat} {cs : Array Value} {T : TypeId} {fz : Nat × Nat} (h : w.heap[b]? = some (.cells cs T fz)) : w.cell? ⟨b, o, none⟩ = cs[o]? := by
  simp [World.cell?, h]

/-! ### 2. What values read as -/
inductive Ty where
  | int (k : IntKind) | byte | bool | str | slice (t : Ty) | pair (a b : Ty)
def Ty.n : Ty → Nat
  | .pair a b => a.n + b.n
  | _ => 1
@[reducible] def Ty.D : Ty → Type
  | .int _ => Int
  | .byte => UInt8
  | .bool => Bool
  | .str => List UInt8
  | .slice t => List t.D
  | .pair a b => a.D × b.D
/-- The cells vs read as x, all that is read by the way lying in blocks of D. -/
def Rd : (t : Ty) → (Nat → Prop) → World → List Value → t.D → Prop
  | .int k, _, _, vs, n => vs = [.int k n] ∧ k.min ≤ n ∧ n ≤ k.max
  | .byte, _, _, vs, b => vs = [.int .u8 (b.toNat : Int)]
  | .bool, _, _, vs, b => vs = [.bool b]
  | .str, _, _, vs, l => vs = [.string ⟨l.toArray⟩] ∧ l.length < 9223372036854775808
  | .slice t, D, w, vs, xs => ∃ a c, vs = [.slice a xs.length c] ∧ xs.length ≤ c ∧ xs.length < 9223372036854775808 ∧ (xs ≠ [] → ∃ ad : Addr, a = some ad ∧ ad.spot = none ∧ D ad.block ∧
      ∀ i (hi : i < xs.length), ∃ cs : List Value, cs.length = t.n ∧ (∀ j v, cs[j]? = some v → w.cell? (ad.add (i * t.n + j)) = some v) ∧ Rd t D w cs xs[i])
  | .pair a b, D, w, vs, x => ∃ va vb, vs = va ++ vb ∧ va.length = a.n ∧ vb.length = b.n ∧ Rd a D w va x.1 ∧ Rd b D w vb x.2
/-- A value that reads as x. -/
def RdV (t : Ty) (D : Nat → Prop) (w : World) (v : Value) (x : t.D) : Prop := Rd t D w v.cells.toList x
/-- At an address a value lies that reads as x. -/
def At (t : Ty) (D : Nat → Prop) (w : World) (ad : Addr) (x : t.D) : Prop :=
  ad.spot = none ∧ ∃ cs : List Value, cs.length = t.n ∧ (∀ j v, cs[j]? = some v → w.cell? (ad.add j) = some v) ∧ Rd t D w cs x
theorem Rd.len : ∀ {t : Ty} {D : Nat → Prop} {w : World} {vs : List Value} {x : t.D}, Rd t D w vs x → vs.length = t.n
  | .int _, _, _, _, _, h => by rw [h.1]; rfl
  | .byte, _, _, _, _, h => by rw [show _ = _ from h]; rfl
  | .bool, _, _, _, _, h => by rw [show _ = _ from h]; rfl
  | .str, _, _, _, _, h => by rw [h.1]; rfl
  | .slice _, _, _, _, _, h => by obtain ⟨a, c, rfl, _⟩ := h; rfl
  | .pair a b, _, _, _, _, h => by obtain ⟨va, vb, rfl, h1, h2, _⟩ := h; simp [Ty.n, h1, h2]
theorem Rd.imp : ∀ {t : Ty} {D D' : Nat → Prop} {w w' : World} {vs : List Value} {x : t.D}, Rd t D w vs x → (∀ b, D b → D' b) →
    (∀ b, D b → b < w.heap.size → w'.heap[b]? = w.heap[b]?) → Rd t D' w' vs x
  | .int _, _, _, _, _, _, _, h, _, _ => h
  | .byte, _, _, _, _, _, _, h, _, _ => h
  | .bool, _, _, _, _, _, _, h, _, _ => h
  | .str, _, _, _, _, _, _, h, _, _ => h
  | .slice t, D, D', w, w', vs, xs, h, hD, hw => by
    obtain ⟨a, c, h1, h2, h3, h4⟩ := h
    refine ⟨a, c, h1, h2, h3, fun hne => ?_⟩
    obtain ⟨ad, g1, g2, g3, g4⟩ := h4 hne
    refine ⟨ad, g1, g2, hD _ g3, fun i hi => ?_⟩
    obtain ⟨cs, k1, k2, k3⟩ := g4 i hi
    refine ⟨cs, k1, fun j v hj => ?_, k3.imp hD hw⟩
    have := k2 j v hj
    rw [cell_congr (hw _ (by rw [add_block]; exact g3) (cell_lt this))]
    exact this
  | .pair a b, _, _, _, _, _, _, h, hD, hw => by
    obtain ⟨va, vb, h1, h2, h3, h4, h5⟩ := h
    exact ⟨va, vb, h1, h2, h3, h4.imp hD hw, h5.imp hD hw⟩
theorem Rd.fr {t : Ty} {D T : Nat → Prop} {w w' : World} {vs : List Value} {x : t.D} (h : Rd t D w vs x) (hf : Fr T w w') (hT : ∀ b, D b → ¬ T b) : Rd t D w' vs x :=
  h.imp (fun _ h => h) (fun b hb hlt => hf.keep b hlt (hT b hb))
theorem Rd.ext {t : Ty} {D : Nat → Prop} {w w' : World} {vs : List Value} {x : t.D} (h : Rd t D w vs x) (hf : Ext w w') : Rd t D w' vs x := h.fr hf (fun _ _ h => h)
theorem Rd.wide {t : Ty} {D D' : Nat → Prop} {w : World} {vs : List Value} {x : t.D} (h : Rd t D w vs x) (hD : ∀ b, D b → D' b) : Rd t D' w vs x := h.imp hD (fun _ _ _ => rfl)
theorem RdV.fr {t : Ty} {D T : Nat → Prop} {w w' : World} {v : Value} {x : t.D} (h : RdV t D w v x) (hf : Fr T w w') (hT : ∀ b, D b → ¬ T b) : RdV t D w' v x := Rd.fr h hf hT
theorem RdV.ext {t : Ty} {D : Nat → Prop} {w w' : World} {v : Value} {x : t.D} (h : RdV t D w v x) (hf : Ext w w') : RdV t D w' v x := Rd.ext h hf
theorem RdV.wide {t : Ty} {D D' : Nat → Prop} {w : World} {v : Value} {x : t.D} (h : RdV t D w v x) (hD : ∀ b, D b → D' b) : RdV t D' w v x := Rd.wide h hD
theorem At.fr {t : Ty} {D T : Nat → Prop} {w w' : World} {ad : Addr} {x : t.D} (h : At t D w ad x) (hf : Fr T w w') (ha : ¬ T ad.block) (hT : ∀ b, D b → ¬ T b) : At t D w' ad x := by
  obtain ⟨h0, cs, h1, h2, h3⟩ := h
  exact ⟨h0, cs, h1, fun j v hj => hf.cell (h2 j v hj) (by rw [add_block]; exact ha), h3.fr hf hT⟩
theorem At.ext {t : Ty} {D : Nat → Prop} {w w' : World} {ad : Addr} {x : t.D} (h : At t D w ad x) (hf : Ext w w') : At t D w' ad x := h.fr hf (fun h => h) (fun _ _ h => h)
theorem At.fst {a b : Ty} {D : Nat → Prop} {w : World} {ad : Addr} {x : a.D × b.D} (h : At (.pair a b) D w ad x) : At a D w ad x.1 := by
  obtain ⟨h0, cs, h1, h2, va, vb, rfl, g1, g2, g3, g4⟩ := h
  exact ⟨h0, va, g1, fun j v hj => h2 j v (by rw [List.getElem?_append_left (List.getElem?_eq_some_iff.1 hj).1]; exact hj), g3⟩
theorem At.snd {a b : Ty} {D : Nat → Prop} {w : World} {ad : Addr} {x : a.D × b.D} (h : At (.pair a b) D w ad x) : At b D w (ad.add a.n) x.2 := by
  obtain ⟨h0, cs, h1, h2, va, vb, rfl, g1, g2, g3, g4⟩ := h
  refine ⟨add_spot _ _ h0, vb, g2, fun j v hj => ?_, g4⟩
  rw [add_add _ _ _ h0]
  exact h2 _ v (by rw [List.getElem?_append_right (by omega)]; rw [g1]; simpa using hj)
/-- A cell at an address. -/
theorem At.cell {t : Ty} {D : Nat → Prop} {w : World} {ad : Addr} {x : t.D} (h : At t D w ad x) (hn : t.n = 1) : ∃ v, w.cell? ad = some v ∧ Rd t D w [v] x := by
  obtain ⟨h0, cs, h1, h2, h3⟩ := h
  match cs, h1.trans hn with
  | [v], _ => exact ⟨v, by have := h2 0 v rfl; rwa [add_zero] at this, h3⟩
/-- What lies at a place of a slice. -/
theorem Rd.at_ {t : Ty} {D : Nat → Prop} {w : World} {v : Value} {xs : List t.D} (h : Rd (.slice t) D w [v] xs) {i : Nat} (hi : i < xs.length) :
    ∃ ad c, v = .slice (some ad) xs.length c ∧ ad.spot = none ∧ D ad.block ∧ At t D w (ad.add (i * t.n)) xs[i] := by
  obtain ⟨a, c, h1, h2, h3, h4⟩ := h
  obtain ⟨ad, rfl, g2, g3, g4⟩ := h4 (by intro e; subst e; simp at hi)
  obtain ⟨cs, k1, k2, k3⟩ := g4 i hi
  refine ⟨ad, c, by simpa using h1, g2, g3, add_spot _ _ g2, cs, k1, fun j u hj => ?_, k3⟩
  rw [add_add _ _ _ g2]
  exact k2 j u hj
theorem Rd.form {t : Ty} {D : Nat → Prop} {w : World} {v : Value} {xs : List t.D} (h : Rd (.slice t) D w [v] xs) : ∃ a c, v = .slice a xs.length c ∧ xs.length ≤ c ∧ xs.length < 9223372036854775808 := by
  obtain ⟨a, c, h1, h2, h3, _⟩ := h
  exact ⟨a, c, by simpa using h1, h2, h3⟩
theorem RdV.of_cell {t : Ty} {D : Nat → Prop} {w : World} {v : Value} {x : t.D} (h : Rd t D w [v] x) (hv : one v = true) : RdV t D w v x := by
  unfold RdV
  rw [one_cells hv]
  exact h
theorem Rd.isOne : ∀ {t : Ty} {D : Nat → Prop} {w : World} {v : Value} {x : t.D}, Rd t D w [v] x → (∀ a b, t ≠ .pair a b) → one v = true
  | .int _, _, _, _, _, h, _ => by have := h.1; simp at this; subst this; rfl
  | .byte, _, _, _, _, h, _ => by have : _ = _ := h; simp at this; subst this; rfl
  | .bool, _, _, _, _, h, _ => by have : _ = _ := h; simp at this; subst this; rfl
  | .str, _, _, _, _, h, _ => by have := h.1; simp at this; subst this; rfl
  | .slice _, _, _, _, _, h, _ => by obtain ⟨a, c, h1, _⟩ := h; simp at h1; subst h1; rfl
  | .pair a b, _, _, _, _, _, h => absurd rfl (h a b)
theorem Rd.allOne : ∀ {t : Ty} {D : Nat → Prop} {w : World} {vs : List Value} {x : t.D}, Rd t D w vs x → ∀ v ∈ vs, one v = true
  | .int _, _, _, _, _, h, v, hv => by rw [h.1] at hv; simp at hv; subst hv; rfl
  | .byte, _, _, _, _, h, v, hv => by rw [show _ = _ from h] at hv; simp at hv; subst hv; rfl
  | .bool, _, _, _, _, h, v, hv => by rw [show _ = _ from h] at hv; simp at hv; subst hv; rfl
  | .str, _, _, _, _, h, v, hv => by rw [h.1] at hv; simp at hv; subst hv; rfl
  | .slice _, _, _, _, _, h, v, hv => by obtain ⟨a, c, h1, _⟩ := h; rw [h1] at hv; simp at hv; subst hv; rfl
  | .pair a b, _, _, _, _, h, v, hv => by
    obtain ⟨va, vb, rfl, _, _, h1, h2⟩ := h
    rcases List.mem_append.1 hv with hv | hv
    · exact h1.allOne v hv
    · exact h2.allOne v hv
end Go.G
end
