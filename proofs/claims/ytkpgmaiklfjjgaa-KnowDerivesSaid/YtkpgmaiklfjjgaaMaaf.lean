/-
  The functions' own code as conditions on values and worlds; the kernel checks that each is the code's own.
-/
import Derived.Test.YtkpgmaiklfjjgaaMaae
import Derived.Test.YtkpgmaiklfjjgaaProg
section
set_option maxRecDepth 100000
set_option linter.unusedVariables false
namespace Go.Proofs.Ytkpgmaiklfjjgaa
open Go.G

/-! oubliette/oubliettelaw16.alive -/
def oubliettelaw16_alive.pl : Nat → DrawPlan
  | _ => ⟨[], .done⟩
def oubliettelaw16_alive.b (R : KV) (X : KX) (w : World) : Prop :=
  pCall Try.prog 21 [] X w fun t7 w =>
  pCall Try.prog 22 [t7] X w fun t9 w =>
  pCall Try.prog 22 [t7] X w fun t11 w =>
  pCall Try.prog 23 [t7, t9, t11] X w fun t15 w =>
  pCall Try.prog 9 [t7] X w fun t17 w =>
  pBSlice 3 1 (rowOf [.int .i64 0] 1) [(0, 1, t15)] w fun t20 w =>
  pCall Try.prog 10 [t17, t20] X w fun t21 w =>
  pCall Try.prog 13 [t17, t11] X w fun t24 w =>
  pBSlice 3 1 (rowOf [.int .i64 0] 1) [(0, 1, t9)] w fun t27 w =>
  pCall Try.prog 10 [t17, t27] X w fun t28 w =>
  pNot t24 fun t30 =>
  gIf t30 true (fun K => K t17) fun t32 =>
  gIf t30 true (fun K => K t11) fun t33 =>
  gIfW t30 true (fun w K => pCall Try.prog 13 [t32, t33] X w K) w fun t34 w =>
  pPick t30 t34 (.bool false) fun t35 =>
  R t35 w
theorem oubliettelaw16_alive.b_eq (R : KV) (X : KX) (w : World) : atP Try.prog Try.f7 oubliettelaw16_alive.pl [] [] R X ([] ++ undefs 36) w = oubliettelaw16_alive.b R X w := by kernel_rfl
theorem oubliettelaw16_alive.calls {R : KV} {X : KX} {w : World} (h : oubliettelaw16_alive.b R X w) : GCalls Try.prog 7 [] R X w :=
  gcalls_of (pl := oubliettelaw16_alive.pl) Try.func7 rfl (by kernel_rfl) hmixed (oubliettelaw16_alive.b_eq R X w ▸ h)

/-! oubliette/know.New -/
def know_New.pl : Nat → DrawPlan
  | _ => ⟨[], .done⟩
def know_New.b (x0 : Value) (R : KV) (X : KX) (w : World) : Prop :=
  pEq .ptr false x0 (.pointer none) fun t4 =>
  scond t4
  (R (.pointer none) w)
  (pMap w fun t6 w =>
    pBuild [.pointer none, .map none, .slice none 0 0, .slice none 0 0, .slice none 0 0] [(0, 1, x0), (1, 1, t6)] fun t7 =>
    pBox 56 t7 w fun t8 w =>
    R t8 w)
theorem know_New.b_eq (x0 : Value) (R : KV) (X : KX) (w : World) : atP Try.prog Try.f9 know_New.pl [] [] R X ([x0] ++ undefs 8) w = know_New.b x0 R X w := by kernel_rfl
theorem know_New.calls {x0 : Value} {R : KV} {X : KX} {w : World} (h : know_New.b x0 R X w) : GCalls Try.prog 9 [x0] R X w :=
  gcalls_of (pl := know_New.pl) Try.func9 rfl (by kernel_rfl) hmixed (know_New.b_eq x0 R X w ▸ h)

/-! (*oubliette/know.Know).Learn -/
def know_Know_Learn.pl : Nat → DrawPlan
  | _ => ⟨[], .done⟩
def know_Know_Learn.j1 (x0 : Value) (x8 : Value) (x9 : Value) (x10 : Value) (g : Nat → Value) (N1 : List Value → World → Prop) (R : KV) (X : KX) (w : World) : Prop :=
  pBinI .add .i64 x10 (.int .i64 1) fun t27 =>
  N1 [x0, (g 1), (g 2), (g 3), (g 4), (g 5), (g 6), (g 7), x8, x9, t27, (g 11), (g 12), (g 13), (g 14), (g 15), (g 16), (g 17), (g 18), (g 19), (g 20), (g 21), (g 22), (g 23), (g 24), (g 25), (g 26), t27, (g 28), (g 29), (g 30)] w
def know_Know_Learn.b1 (x0 : Value) (x8 : Value) (x9 : Value) (x10 : Value) (g : Nat → Value) (N1 : List Value → World → Prop) (R : KV) (X : KX) (w : World) : Prop :=
  pBinI .lss .i64 x10 x9 fun t11 =>
  scond t11
  (pIA 1 x8 x10 fun t12 =>
    pLd (· = w) t12 fun t13 =>
    pNil x0 fun t15 =>
    pFA 0 t15 fun t16 =>
    pLd (· = w) t16 fun t17 =>
    pCall Try.prog 26 [t17, t13] X w fun t19 w =>
    pBinI .gtr .i64 t19 (.int .i64 0) fun t20 =>
    scond t20
    (pNil x0 fun t22 =>
      pFA 1 t22 fun t23 =>
      pLd (· = w) t23 fun t24 =>
      pBuild [] [] fun t26 =>
      pRunU Try.prog (Instr.mapUpdate 53 t24 t13 t26) w fun _ w =>
      know_Know_Learn.j1 x0 x8 x9 x10 (fun i => nth [x0, (g 1), (g 2), (g 3), (g 4), t13, (g 6), (g 7), x8, x9, x10, t11, t12, t13, x0, t15, t16, t17, t13, t19, t20, x0, t22, t23, t24, t13, t26, (g 27), (g 28), (g 29), (g 30)] i) N1 R X w)
    (know_Know_Learn.j1 x0 x8 x9 x10 (fun i => nth [x0, (g 1), (g 2), (g 3), (g 4), t13, (g 6), (g 7), x8, x9, x10, t11, t12, t13, x0, t15, t16, t17, t13, t19, t20, (g 21), (g 22), (g 23), (g 24), (g 25), (g 26), (g 27), (g 28), (g 29), (g 30)] i) N1 R X w))
  (pNil x0 fun t29 =>
    pFA 4 t29 fun t30 =>
    pSt t30 (.slice none 0 0) w fun _ w =>
    R (.tuple #[]) w)
def know_Know_Learn.I1 (e : List Value) (R : KV) (X : KX) (w : World) : Prop := atP Try.prog Try.f10 know_Know_Learn.pl [1, 0, 1, 0] [] R X e w
theorem know_Know_Learn.I1_eq (e : List Value) (R : KV) (X : KX) (w : World) : know_Know_Learn.I1 e R X w = loopS (fun N e w => atP Try.prog Try.f10 know_Know_Learn.pl [1, 0, 1, 0, 0] [N] R X e w) e w := by kernel_rfl
def know_Know_Learn.fr1 (x0 : Value) (x8 : Value) (x9 : Value) (x10 : Value) (g : Nat → Value) : List Value := [x0, g 1, g 2, g 3, g 4, g 5, g 6, g 7, x8, x9, x10, g 11, g 12, g 13, g 14, g 15, g 16, g 17, g 18, g 19, g 20, g 21, g 22, g 23, g 24, g 25, g 26, g 27, g 28, g 29, g 30]
theorem know_Know_Learn.b1_eq (x0 : Value) (x8 : Value) (x9 : Value) (x10 : Value) (g : Nat → Value) (N1 : List Value → World → Prop) (R : KV) (X : KX) (w : World) : atP Try.prog Try.f10 know_Know_Learn.pl [1, 0, 1, 0, 0] [N1] R X (know_Know_Learn.fr1 x0 x8 x9 x10 g) w = know_Know_Learn.b1 x0 x8 x9 x10 g N1 R X w := by kernel_rfl
/-- What a round of this loop hands on. -/
def know_Know_Learn.N1 (J : Value → World → Prop) (m : Value → World → Nat) (x0 : Value) (x8 : Value) (x9 : Value) (x10 : Value) (w : World) : List Value → World → Prop := fun e w' => (∃ y10 g, e = know_Know_Learn.fr1 x0 x8 x9 y10 g ∧ J y10 w') ∧ m (nth e 10) w' < m x10 w
theorem know_Know_Learn.leaf1 {J : Value → World → Prop} {m : Value → World → Nat} {x0 : Value} {x8 : Value} {x9 : Value} {x10 : Value} {w w' : World} {e1 e2 e3 e4 e5 e6 e7 e10 e11 e12 e13 e14 e15 e16 e17 e18 e19 e20 e21 e22 e23 e24 e25 e26 e27 e28 e29 e30 : Value} (h : J e10 w') (hm : m e10 w' < m x10 w) : know_Know_Learn.N1 J m x0 x8 x9 x10 w [x0, e1, e2, e3, e4, e5, e6, e7, x8, x9, e10, e11, e12, e13, e14, e15, e16, e17, e18, e19, e20, e21, e22, e23, e24, e25, e26, e27, e28, e29, e30] w' :=
  ⟨⟨e10, (fun i => nth [x0, e1, e2, e3, e4, e5, e6, e7, x8, x9, e10, e11, e12, e13, e14, e15, e16, e17, e18, e19, e20, e21, e22, e23, e24, e25, e26, e27, e28, e29, e30] i), rfl, h⟩, hm⟩
theorem know_Know_Learn.loop1 (J : Value → World → Prop) (m : Value → World → Nat) {R : KV} {X : KX} {w : World} {x0 : Value} {x8 : Value} {x9 : Value} {e1 e2 e3 e4 e5 e6 e7 e10 e11 e12 e13 e14 e15 e16 e17 e18 e19 e20 e21 e22 e23 e24 e25 e26 e27 e28 e29 e30 : Value} (h0 : J e10 w)
    (hr : ∀ x10 g w, J x10 w → know_Know_Learn.b1 x0 x8 x9 x10 g (know_Know_Learn.N1 J m x0 x8 x9 x10 w) R X w) : know_Know_Learn.I1 [x0, e1, e2, e3, e4, e5, e6, e7, x8, x9, e10, e11, e12, e13, e14, e15, e16, e17, e18, e19, e20, e21, e22, e23, e24, e25, e26, e27, e28, e29, e30] R X w := by
  rw [know_Know_Learn.I1_eq]
  refine ⟨fun e w => ∃ y10 g, e = know_Know_Learn.fr1 x0 x8 x9 y10 g ∧ J y10 w, fun e w => m (nth e 10) w, ⟨e10, (fun i => nth [x0, e1, e2, e3, e4, e5, e6, e7, x8, x9, e10, e11, e12, e13, e14, e15, e16, e17, e18, e19, e20, e21, e22, e23, e24, e25, e26, e27, e28, e29, e30] i), rfl, h0⟩, ?_⟩
  rintro _ w ⟨y10, g, rfl, hJ⟩
  rw [know_Know_Learn.b1_eq]
  exact hr y10 g w hJ
def know_Know_Learn.b (x0 : Value) (x1 : Value) (R : KV) (X : KX) (w : World) : Prop :=
  pEq .ptr false x0 (.pointer none) fun t7 =>
  scond t7
  (R (.tuple #[]) w)
  (pLenSl x1 fun t9 =>
    know_Know_Learn.I1 [x0, x1, undef, undef, undef, undef, x0, t7, x1, t9, (.int .i64 0), undef, undef, undef, undef, undef, undef, undef, undef, undef, undef, undef, undef, undef, undef, undef, undef, undef, undef, undef, undef] R X w)
theorem know_Know_Learn.b_eq (x0 : Value) (x1 : Value) (R : KV) (X : KX) (w : World) : atP Try.prog Try.f10 know_Know_Learn.pl [] [] R X ([x0, x1] ++ undefs 29) w = know_Know_Learn.b x0 x1 R X w := by kernel_rfl
theorem know_Know_Learn.calls {x0 x1 : Value} {R : KV} {X : KX} {w : World} (h : know_Know_Learn.b x0 x1 R X w) : GCalls Try.prog 10 [x0, x1] R X w :=
  gcalls_of (pl := know_Know_Learn.pl) Try.func10 rfl (by kernel_rfl) hmixed (know_Know_Learn.b_eq x0 x1 R X w ▸ h)

/-! oubliette/oublietteref16.All -/
def oublietteref16_All.pl : Nat → DrawPlan
  | _ => ⟨[], .done⟩
def oublietteref16_All.j1 (x0 : Value) (x1 : Value) (x5 : Value) (x6 : Value) (g : Nat → Value) (N1 : List Value → World → Prop) (R : KV) (X : KX) (w : World) : Prop :=
  pBinI .add .i64 x6 (.int .i64 1) fun t17 =>
  N1 [x0, x1, (g 2), (g 3), (g 4), x5, t17, (g 7), (g 8), (g 9), (g 10), (g 11), (g 12), (g 13), (g 14), (g 15), x6, t17, (g 18), (g 19), (g 20), (g 21), (g 22), (g 23), (g 24), (g 25), (g 26), (g 27), (g 28), (g 29), (g 30), (g 31), (g 32), (g 33), (g 34), (g 35), (g 36), (g 37), (g 38), (g 39), (g 40), (g 41), (g 42), (g 43), (g 44), (g 45), (g 46), (g 47), (g 48), (g 49)] w
def oublietteref16_All.b2 (x0 : Value) (x5 : Value) (x7 : Value) (g : Nat → Value) (N1 : List Value → World → Prop) (R : KV) (X : KX) (w : World) : Prop :=
  pLenSl x0 fun t40 =>
  pBinI .mul .i64 (.int .i64 2) t40 fun t41 =>
  pBinI .add .i64 t41 (.int .i64 1) fun t42 =>
  pBinI .leq .i64 x7 t42 fun t43 =>
  scond t43
  (pCall Try.prog 27 [x0, x5] X w fun t48 w =>
    pBinI .add .i64 x7 (.int .i64 1) fun t45 =>
    N1 [x0, (g 1), (g 2), (g 3), (g 4), t48, (g 6), t45, (g 8), (g 9), (g 10), (g 11), (g 12), (g 13), (g 14), (g 15), (g 16), (g 17), (g 18), (g 19), (g 20), (g 21), (g 22), (g 23), (g 24), (g 25), (g 26), (g 27), (g 28), (g 29), (g 30), (g 31), (g 32), (g 33), (g 34), (g 35), (g 36), (g 37), x7, x0, t40, t41, t42, t43, x7, t45, x0, x5, t48, (g 49)] w)
  (R x5 w)
def oublietteref16_All.I2 (e : List Value) (R : KV) (X : KX) (w : World) : Prop := atP Try.prog Try.f11 oublietteref16_All.pl [1, 1, 1, 0, 1, 0] [] R X e w
theorem oublietteref16_All.I2_eq (e : List Value) (R : KV) (X : KX) (w : World) : oublietteref16_All.I2 e R X w = loopS (fun N e w => atP Try.prog Try.f11 oublietteref16_All.pl [1, 1, 1, 0, 1, 0, 0] [N] R X e w) e w := by kernel_rfl
def oublietteref16_All.fr2 (x0 : Value) (x5 : Value) (x7 : Value) (g : Nat → Value) : List Value := [x0, g 1, g 2, g 3, g 4, x5, g 6, x7, g 8, g 9, g 10, g 11, g 12, g 13, g 14, g 15, g 16, g 17, g 18, g 19, g 20, g 21, g 22, g 23, g 24, g 25, g 26, g 27, g 28, g 29, g 30, g 31, g 32, g 33, g 34, g 35, g 36, g 37, g 38, g 39, g 40, g 41, g 42, g 43, g 44, g 45, g 46, g 47, g 48, g 49]
theorem oublietteref16_All.b2_eq (x0 : Value) (x5 : Value) (x7 : Value) (g : Nat → Value) (N1 : List Value → World → Prop) (R : KV) (X : KX) (w : World) : atP Try.prog Try.f11 oublietteref16_All.pl [1, 1, 1, 0, 1, 0, 0] [N1] R X (oublietteref16_All.fr2 x0 x5 x7 g) w = oublietteref16_All.b2 x0 x5 x7 g N1 R X w := by kernel_rfl
/-- What a round of this loop hands on. -/
def oublietteref16_All.N2 (J : Value → Value → World → Prop) (m : Value → Value → World → Nat) (x0 : Value) (x5 : Value) (x7 : Value) (w : World) : List Value → World → Prop := fun e w' => (∃ y5 y7 g, e = oublietteref16_All.fr2 x0 y5 y7 g ∧ J y5 y7 w') ∧ m (nth e 5) (nth e 7) w' < m x5 x7 w
theorem oublietteref16_All.leaf2 {J : Value → Value → World → Prop} {m : Value → Value → World → Nat} {x0 : Value} {x5 : Value} {x7 : Value} {w w' : World} {e1 e2 e3 e4 e5 e6 e7 e8 e9 e10 e11 e12 e13 e14 e15 e16 e17 e18 e19 e20 e21 e22 e23 e24 e25 e26 e27 e28 e29 e30 e31 e32 e33 e34 e35 e36 e37 e38 e39 e40 e41 e42 e43 e44 e45 e46 e47 e48 e49 : Value} (h : J e5 e7 w') (hm : m e5 e7 w' < m x5 x7 w) : oublietteref16_All.N2 J m x0 x5 x7 w [x0, e1, e2, e3, e4, e5, e6, e7, e8, e9, e10, e11, e12, e13, e14, e15, e16, e17, e18, e19, e20, e21, e22, e23, e24, e25, e26, e27, e28, e29, e30, e31, e32, e33, e34, e35, e36, e37, e38, e39, e40, e41, e42, e43, e44, e45, e46, e47, e48, e49] w' :=
  ⟨⟨e5, e7, (fun i => nth [x0, e1, e2, e3, e4, e5, e6, e7, e8, e9, e10, e11, e12, e13, e14, e15, e16, e17, e18, e19, e20, e21, e22, e23, e24, e25, e26, e27, e28, e29, e30, e31, e32, e33, e34, e35, e36, e37, e38, e39, e40, e41, e42, e43, e44, e45, e46, e47, e48, e49] i), rfl, h⟩, hm⟩
theorem oublietteref16_All.loop2 (J : Value → Value → World → Prop) (m : Value → Value → World → Nat) {R : KV} {X : KX} {w : World} {x0 : Value} {e1 e2 e3 e4 e5 e6 e7 e8 e9 e10 e11 e12 e13 e14 e15 e16 e17 e18 e19 e20 e21 e22 e23 e24 e25 e26 e27 e28 e29 e30 e31 e32 e33 e34 e35 e36 e37 e38 e39 e40 e41 e42 e43 e44 e45 e46 e47 e48 e49 : Value} (h0 : J e5 e7 w)
    (hr : ∀ x5 x7 g w, J x5 x7 w → oublietteref16_All.b2 x0 x5 x7 g (oublietteref16_All.N2 J m x0 x5 x7 w) R X w) : oublietteref16_All.I2 [x0, e1, e2, e3, e4, e5, e6, e7, e8, e9, e10, e11, e12, e13, e14, e15, e16, e17, e18, e19, e20, e21, e22, e23, e24, e25, e26, e27, e28, e29, e30, e31, e32, e33, e34, e35, e36, e37, e38, e39, e40, e41, e42, e43, e44, e45, e46, e47, e48, e49] R X w := by
  rw [oublietteref16_All.I2_eq]
  refine ⟨fun e w => ∃ y5 y7 g, e = oublietteref16_All.fr2 x0 y5 y7 g ∧ J y5 y7 w, fun e w => m (nth e 5) (nth e 7) w, ⟨e5, e7, (fun i => nth [x0, e1, e2, e3, e4, e5, e6, e7, e8, e9, e10, e11, e12, e13, e14, e15, e16, e17, e18, e19, e20, e21, e22, e23, e24, e25, e26, e27, e28, e29, e30, e31, e32, e33, e34, e35, e36, e37, e38, e39, e40, e41, e42, e43, e44, e45, e46, e47, e48, e49] i), rfl, h0⟩, ?_⟩
  rintro _ w ⟨y5, y7, g, rfl, hJ⟩
  rw [oublietteref16_All.b2_eq]
  exact hr y5 y7 g w hJ
def oublietteref16_All.b1 (x0 : Value) (x1 : Value) (x5 : Value) (x6 : Value) (g : Nat → Value) (N1 : List Value → World → Prop) (R : KV) (X : KX) (w : World) : Prop :=
  pLenSl x1 fun t14 =>
  pBinI .lss .i64 x6 t14 fun t15 =>
  scond t15
  (pIA 1 x1 x6 fun t20 =>
    pLd (· = w) t20 fun t21 =>
    pBinI .geq .i64 t21 (.int .i64 1) fun t22 =>
    gIf t22 true (fun K => K x1) fun t24 =>
    gIf t22 true (fun K => K x6) fun t25 =>
    gIf t22 true (fun K => pIA 1 t24 t25 K) fun t26 =>
    gIf t22 true (fun K => pLd (· = w) t26 K) fun t27 =>
    gIf t22 true (fun K => K x0) fun t28 =>
    gIf t22 true (fun K => pLenSl t28 K) fun t29 =>
    gIf t22 true (fun K => pBinI .leq .i64 t27 t29 K) fun t30 =>
    pPick t22 t30 (.bool false) fun t31 =>
    scond t31
    (pIA 1 x1 x6 fun t35 =>
      pLd (· = w) t35 fun t36 =>
      pIA 1 x5 t36 fun t37 =>
      pSt t37 (.bool true) w fun _ w =>
      oublietteref16_All.j1 x0 x1 x5 x6 (fun i => nth [x0, x1, (g 2), (g 3), (g 4), x5, x6, (g 7), (g 8), (g 9), (g 10), (g 11), x6, x1, t14, t15, (g 16), (g 17), x1, x6, t20, t21, t22, t22, t24, t25, t26, t27, t28, t29, t30, t31, x5, x1, x6, t35, t36, t37, (g 38), (g 39), (g 40), (g 41), (g 42), (g 43), (g 44), (g 45), (g 46), (g 47), (g 48), (g 49)] i) N1 R X w)
    (oublietteref16_All.j1 x0 x1 x5 x6 (fun i => nth [x0, x1, (g 2), (g 3), (g 4), x5, x6, (g 7), (g 8), (g 9), (g 10), (g 11), x6, x1, t14, t15, (g 16), (g 17), x1, x6, t20, t21, t22, t22, t24, t25, t26, t27, t28, t29, t30, t31, (g 32), (g 33), (g 34), (g 35), (g 36), (g 37), (g 38), (g 39), (g 40), (g 41), (g 42), (g 43), (g 44), (g 45), (g 46), (g 47), (g 48), (g 49)] i) N1 R X w))
  (oublietteref16_All.I2 [x0, x1, (g 2), (g 3), (g 4), x5, x6, (.int .i64 0), (g 8), (g 9), (g 10), (g 11), x6, x1, t14, t15, (g 16), (g 17), (g 18), (g 19), (g 20), (g 21), (g 22), (g 23), (g 24), (g 25), (g 26), (g 27), (g 28), (g 29), (g 30), (g 31), (g 32), (g 33), (g 34), (g 35), (g 36), (g 37), (g 38), (g 39), (g 40), (g 41), (g 42), (g 43), (g 44), (g 45), (g 46), (g 47), (g 48), (g 49)] R X w)
def oublietteref16_All.I1 (e : List Value) (R : KV) (X : KX) (w : World) : Prop := atP Try.prog Try.f11 oublietteref16_All.pl [1, 1, 0, 1, 0] [] R X e w
theorem oublietteref16_All.I1_eq (e : List Value) (R : KV) (X : KX) (w : World) : oublietteref16_All.I1 e R X w = loopS (fun N e w => atP Try.prog Try.f11 oublietteref16_All.pl [1, 1, 0, 1, 0, 0] [N] R X e w) e w := by kernel_rfl
def oublietteref16_All.fr1 (x0 : Value) (x1 : Value) (x5 : Value) (x6 : Value) (g : Nat → Value) : List Value := [x0, x1, g 2, g 3, g 4, x5, x6, g 7, g 8, g 9, g 10, g 11, g 12, g 13, g 14, g 15, g 16, g 17, g 18, g 19, g 20, g 21, g 22, g 23, g 24, g 25, g 26, g 27, g 28, g 29, g 30, g 31, g 32, g 33, g 34, g 35, g 36, g 37, g 38, g 39, g 40, g 41, g 42, g 43, g 44, g 45, g 46, g 47, g 48, g 49]
theorem oublietteref16_All.b1_eq (x0 : Value) (x1 : Value) (x5 : Value) (x6 : Value) (g : Nat → Value) (N1 : List Value → World → Prop) (R : KV) (X : KX) (w : World) : atP Try.prog Try.f11 oublietteref16_All.pl [1, 1, 0, 1, 0, 0] [N1] R X (oublietteref16_All.fr1 x0 x1 x5 x6 g) w = oublietteref16_All.b1 x0 x1 x5 x6 g N1 R X w := by kernel_rfl
/-- What a round of this loop hands on. -/
def oublietteref16_All.N1 (J : Value → World → Prop) (m : Value → World → Nat) (x0 : Value) (x1 : Value) (x5 : Value) (x6 : Value) (w : World) : List Value → World → Prop := fun e w' => (∃ y6 g, e = oublietteref16_All.fr1 x0 x1 x5 y6 g ∧ J y6 w') ∧ m (nth e 6) w' < m x6 w
theorem oublietteref16_All.leaf1 {J : Value → World → Prop} {m : Value → World → Nat} {x0 : Value} {x1 : Value} {x5 : Value} {x6 : Value} {w w' : World} {e2 e3 e4 e6 e7 e8 e9 e10 e11 e12 e13 e14 e15 e16 e17 e18 e19 e20 e21 e22 e23 e24 e25 e26 e27 e28 e29 e30 e31 e32 e33 e34 e35 e36 e37 e38 e39 e40 e41 e42 e43 e44 e45 e46 e47 e48 e49 : Value} (h : J e6 w') (hm : m e6 w' < m x6 w) : oublietteref16_All.N1 J m x0 x1 x5 x6 w [x0, x1, e2, e3, e4, x5, e6, e7, e8, e9, e10, e11, e12, e13, e14, e15, e16, e17, e18, e19, e20, e21, e22, e23, e24, e25, e26, e27, e28, e29, e30, e31, e32, e33, e34, e35, e36, e37, e38, e39, e40, e41, e42, e43, e44, e45, e46, e47, e48, e49] w' :=
  ⟨⟨e6, (fun i => nth [x0, x1, e2, e3, e4, x5, e6, e7, e8, e9, e10, e11, e12, e13, e14, e15, e16, e17, e18, e19, e20, e21, e22, e23, e24, e25, e26, e27, e28, e29, e30, e31, e32, e33, e34, e35, e36, e37, e38, e39, e40, e41, e42, e43, e44, e45, e46, e47, e48, e49] i), rfl, h⟩, hm⟩
theorem oublietteref16_All.loop1 (J : Value → World → Prop) (m : Value → World → Nat) {R : KV} {X : KX} {w : World} {x0 : Value} {x1 : Value} {x5 : Value} {e2 e3 e4 e6 e7 e8 e9 e10 e11 e12 e13 e14 e15 e16 e17 e18 e19 e20 e21 e22 e23 e24 e25 e26 e27 e28 e29 e30 e31 e32 e33 e34 e35 e36 e37 e38 e39 e40 e41 e42 e43 e44 e45 e46 e47 e48 e49 : Value} (h0 : J e6 w)
    (hr : ∀ x6 g w, J x6 w → oublietteref16_All.b1 x0 x1 x5 x6 g (oublietteref16_All.N1 J m x0 x1 x5 x6 w) R X w) : oublietteref16_All.I1 [x0, x1, e2, e3, e4, x5, e6, e7, e8, e9, e10, e11, e12, e13, e14, e15, e16, e17, e18, e19, e20, e21, e22, e23, e24, e25, e26, e27, e28, e29, e30, e31, e32, e33, e34, e35, e36, e37, e38, e39, e40, e41, e42, e43, e44, e45, e46, e47, e48, e49] R X w := by
  rw [oublietteref16_All.I1_eq]
  refine ⟨fun e w => ∃ y6 g, e = oublietteref16_All.fr1 x0 x1 x5 y6 g ∧ J y6 w, fun e w => m (nth e 6) w, ⟨e6, (fun i => nth [x0, x1, e2, e3, e4, x5, e6, e7, e8, e9, e10, e11, e12, e13, e14, e15, e16, e17, e18, e19, e20, e21, e22, e23, e24, e25, e26, e27, e28, e29, e30, e31, e32, e33, e34, e35, e36, e37, e38, e39, e40, e41, e42, e43, e44, e45, e46, e47, e48, e49] i), rfl, h0⟩, ?_⟩
  rintro _ w ⟨y6, g, rfl, hJ⟩
  rw [oublietteref16_All.b1_eq]
  exact hr y6 g w hJ
def oublietteref16_All.b (x0 : Value) (x1 : Value) (R : KV) (X : KX) (w : World) : Prop :=
  pLenSl x0 fun t9 =>
  pBinI .add .i64 t9 (.int .i64 1) fun t10 =>
  pMake 4 1 [.bool false] t10 t10 w fun t11 w =>
  oublietteref16_All.I1 [x0, x1, undef, undef, (.slice none 0 0), t11, (.int .i64 0), undef, x0, t9, t10, t11, undef, undef, undef, undef, undef, undef, undef, undef, undef, undef, undef, undef, undef, undef, undef, undef, undef, undef, undef, undef, undef, undef, undef, undef, undef, undef, undef, undef, undef, undef, undef, undef, undef, undef, undef, undef, undef, undef] R X w
theorem oublietteref16_All.b_eq (x0 : Value) (x1 : Value) (R : KV) (X : KX) (w : World) : atP Try.prog Try.f11 oublietteref16_All.pl [] [] R X ([x0, x1] ++ undefs 48) w = oublietteref16_All.b x0 x1 R X w := by kernel_rfl
theorem oublietteref16_All.calls {x0 x1 : Value} {R : KV} {X : KX} {w : World} (h : oublietteref16_All.b x0 x1 R X w) : GCalls Try.prog 11 [x0, x1] R X w :=
  gcalls_of (pl := oublietteref16_All.pl) Try.func11 rfl (by kernel_rfl) hmixed (oublietteref16_All.b_eq x0 x1 R X w ▸ h)

/-! (*oubliette/know.Know).Clone -/
def know_Know_Clone.pl : Nat → DrawPlan
  | 3 => ⟨[([], [1]), ([0], [0, 2]), ([1], [1, 3]), ([2], [2, 9]), ([], [5]), ([4], [4, 6]), ([5], [5, 7]), ([6], [6, 8]), ([7], [7, 9]), ([3, 8], [3, 8, 10]), ([9], [9, 11]), ([10, 8, 0, 1, 2, 3, 4, 5, 6, 7, 8, 9, 10], [10])], .take 0 (.take 1 (.take 2 (.take 3 (.take 4 (.take 5 (.take 6 (.take 7 (.world 8 false (.take 9 (.world 10 false (.take 11 (.done)) .none)) .none))))))))⟩
  | _ => ⟨[], .done⟩
def know_Know_Clone.b (x0 : Value) (R : KV) (X : KX) (w : World) : Prop :=
  pEq .ptr false x0 (.pointer none) fun t4 =>
  scond t4
  (R (.pointer none) w)
  (drawn w fun S w =>
    pNil x0 fun t6 =>
    pFA 0 t6 fun t7 =>
    pLd S t7 fun t8 =>
    pNil x0 fun t10 =>
    pFA 1 t10 fun t11 =>
    pLd S t11 fun t12 =>
    pCall Try.prog 28 [t12] X w fun t13 w =>
    S w ∧ (pBuild [.pointer none, .map none, .slice none 0 0, .slice none 0 0, .slice none 0 0] [(0, 1, t8), (1, 1, t13)] fun t14 =>
      pBox 56 t14 w fun t15 w =>
      S w ∧ (R t15 w)))
theorem know_Know_Clone.b_eq (x0 : Value) (R : KV) (X : KX) (w : World) : atP Try.prog Try.f12 know_Know_Clone.pl [] [] R X ([x0] ++ undefs 15) w = know_Know_Clone.b x0 R X w := by kernel_rfl
theorem know_Know_Clone.calls {x0 : Value} {R : KV} {X : KX} {w : World} (h : know_Know_Clone.b x0 R X w) : GCalls Try.prog 12 [x0] R X w :=
  gcalls_of (pl := know_Know_Clone.pl) Try.func12 rfl (by kernel_rfl) hmixed (know_Know_Clone.b_eq x0 R X w ▸ h)

/-! (*oubliette/know.Know).Derives -/
def know_Know_Derives.pl : Nat → DrawPlan
  | _ => ⟨[], .done⟩
def know_Know_Derives.b (x0 : Value) (x1 : Value) (R : KV) (X : KX) (w : World) : Prop :=
  pEq .ptr false x0 (.pointer none) fun t6 =>
  gIf t6 false (fun K => K x0) fun t8 =>
  gIf t6 false (fun K => pNil t8 K) fun t9 =>
  gIf t6 false (fun K => pFA 0 t9 K) fun t10 =>
  gIf t6 false (fun K => pLd (· = w) t10 K) fun t11 =>
  gIf t6 false (fun K => K x1) fun t12 =>
  gIfW t6 false (fun w K => pCall Try.prog 26 [t11, t12] X w K) w fun t13 w =>
  gIf t6 false (fun K => pBinI .eql .i64 t13 (.int .i64 0) K) fun t14 =>
  pPick t6 (.bool true) t14 fun t15 =>
  scond t15
  (R (.bool false) w)
  (pCall Try.prog 29 [x0] X w fun t17 w =>
    pIA 1 t17 x1 fun t19 =>
    pLd (· = w) t19 fun t20 =>
    R t20 w)
theorem know_Know_Derives.b_eq (x0 : Value) (x1 : Value) (R : KV) (X : KX) (w : World) : atP Try.prog Try.f13 know_Know_Derives.pl [] [] R X ([x0, x1] ++ undefs 19) w = know_Know_Derives.b x0 x1 R X w := by kernel_rfl
theorem know_Know_Derives.calls {x0 x1 : Value} {R : KV} {X : KX} {w : World} (h : know_Know_Derives.b x0 x1 R X w) : GCalls Try.prog 13 [x0, x1] R X w :=
  gcalls_of (pl := know_Know_Derives.pl) Try.func13 rfl (by kernel_rfl) hmixed (know_Know_Derives.b_eq x0 x1 R X w ▸ h)

/-! (*oubliette/know.Know).Opened -/
def know_Know_Opened.pl : Nat → DrawPlan
  | _ => ⟨[], .done⟩
def know_Know_Opened.j1 (x0 : Value) (x2 : Value) (x3 : Value) (x10 : Value) (x11 : Value) (g : Nat → Value) (N1 : List Value → World → Prop) (R : KV) (X : KX) (w : World) : Prop :=
  pBinI .add .i64 x11 (.int .i64 1) fun t44 =>
  N1 [x0, (g 1), x2, x3, (g 4), (g 5), (g 6), (g 7), (g 8), (g 9), x10, t44, (g 12), (g 13), (g 14), (g 15), (g 16), (g 17), (g 18), (g 19), (g 20), (g 21), (g 22), (g 23), (g 24), (g 25), (g 26), (g 27), (g 28), (g 29), (g 30), (g 31), (g 32), (g 33), (g 34), (g 35), (g 36), (g 37), (g 38), (g 39), (g 40), (g 41), (g 42), (g 43), t44, (g 45)] w
def know_Know_Opened.b1 (x0 : Value) (x2 : Value) (x3 : Value) (x10 : Value) (x11 : Value) (g : Nat → Value) (N1 : List Value → World → Prop) (R : KV) (X : KX) (w : World) : Prop :=
  pBinI .lss .i64 x11 x10 fun t12 =>
  scond t12
  (pIA 1 x3 x11 fun t16 =>
    pLd (· = w) t16 fun t17 =>
    gIf t17 true (fun K => K x0) fun t19 =>
    gIf t17 true (fun K => pNil t19 K) fun t20 =>
    gIf t17 true (fun K => pFA 0 t20 K) fun t21 =>
    gIf t17 true (fun K => pLd (· = w) t21 K) fun t22 =>
    gIf t17 true (fun K => K x11) fun t23 =>
    gIfW t17 true (fun w K => pCall Try.prog 26 [t22, t23] X w K) w fun t24 w =>
    gIf t17 true (fun K => pBinI .eql .i64 t24 (.int .i64 5) K) fun t25 =>
    pPick t17 t25 (.bool false) fun t26 =>
    gIf t26 true (fun K => K x3) fun t28 =>
    gIf t26 true (fun K => K x0) fun t29 =>
    gIf t26 true (fun K => pNil t29 K) fun t30 =>
    gIf t26 true (fun K => pFA 0 t30 K) fun t31 =>
    gIf t26 true (fun K => pLd (· = w) t31 K) fun t32 =>
    gIf t26 true (fun K => K x11) fun t33 =>
    gIfW t26 true (fun w K => pCall Try.prog 30 [t32, t33] X w K) w fun t34 w =>
    gIf t26 true (fun K => pIA 1 t34 (.int .i64 0) K) fun t35 =>
    gIf t26 true (fun K => pLd (· = w) t35 K) fun t36 =>
    gIf t26 true (fun K => pIA 1 t28 t36 K) fun t37 =>
    gIf t26 true (fun K => pLd (· = w) t37 K) fun t38 =>
    pPick t26 t38 (.bool false) fun t39 =>
    scond t39
    (pBSlice 3 1 (rowOf [.int .i64 0] 1) [(0, 1, x11)] w fun t42 w =>
      pApp 3 1 8 [.int .i64 0] x2 t42 w fun t43 w =>
      know_Know_Opened.j1 x0 t43 x3 x10 x11 (fun i => nth [x0, (g 1), t43, x3, x11, (g 5), (g 6), (g 7), (g 8), (g 9), x10, x11, t12, x11, x3, x11, t16, t17, t17, t19, t20, t21, t22, t23, t24, t25, t26, t26, t28, t29, t30, t31, t32, t33, t34, t35, t36, t37, t38, t39, x2, x11, t42, t43, (g 44), (g 45)] i) N1 R X w)
    (know_Know_Opened.j1 x0 x2 x3 x10 x11 (fun i => nth [x0, (g 1), x2, x3, x11, (g 5), (g 6), (g 7), (g 8), (g 9), x10, x11, t12, x11, x3, x11, t16, t17, t17, t19, t20, t21, t22, t23, t24, t25, t26, t26, t28, t29, t30, t31, t32, t33, t34, t35, t36, t37, t38, t39, (g 40), (g 41), (g 42), (g 43), (g 44), (g 45)] i) N1 R X w))
  (R x2 w)
def know_Know_Opened.I1 (e : List Value) (R : KV) (X : KX) (w : World) : Prop := atP Try.prog Try.f15 know_Know_Opened.pl [1, 1, 1, 0, 1, 0] [] R X e w
theorem know_Know_Opened.I1_eq (e : List Value) (R : KV) (X : KX) (w : World) : know_Know_Opened.I1 e R X w = loopS (fun N e w => atP Try.prog Try.f15 know_Know_Opened.pl [1, 1, 1, 0, 1, 0, 0] [N] R X e w) e w := by kernel_rfl
def know_Know_Opened.fr1 (x0 : Value) (x2 : Value) (x3 : Value) (x10 : Value) (x11 : Value) (g : Nat → Value) : List Value := [x0, g 1, x2, x3, g 4, g 5, g 6, g 7, g 8, g 9, x10, x11, g 12, g 13, g 14, g 15, g 16, g 17, g 18, g 19, g 20, g 21, g 22, g 23, g 24, g 25, g 26, g 27, g 28, g 29, g 30, g 31, g 32, g 33, g 34, g 35, g 36, g 37, g 38, g 39, g 40, g 41, g 42, g 43, g 44, g 45]
theorem know_Know_Opened.b1_eq (x0 : Value) (x2 : Value) (x3 : Value) (x10 : Value) (x11 : Value) (g : Nat → Value) (N1 : List Value → World → Prop) (R : KV) (X : KX) (w : World) : atP Try.prog Try.f15 know_Know_Opened.pl [1, 1, 1, 0, 1, 0, 0] [N1] R X (know_Know_Opened.fr1 x0 x2 x3 x10 x11 g) w = know_Know_Opened.b1 x0 x2 x3 x10 x11 g N1 R X w := by kernel_rfl
/-- What a round of this loop hands on. -/
def know_Know_Opened.N1 (J : Value → Value → World → Prop) (m : Value → Value → World → Nat) (x0 : Value) (x3 : Value) (x10 : Value) (x2 : Value) (x11 : Value) (w : World) : List Value → World → Prop := fun e w' => (∃ y2 y11 g, e = know_Know_Opened.fr1 x0 y2 x3 x10 y11 g ∧ J y2 y11 w') ∧ m (nth e 2) (nth e 11) w' < m x2 x11 w
theorem know_Know_Opened.leaf1 {J : Value → Value → World → Prop} {m : Value → Value → World → Nat} {x0 : Value} {x2 : Value} {x3 : Value} {x10 : Value} {x11 : Value} {w w' : World} {e1 e2 e4 e5 e6 e7 e8 e9 e11 e12 e13 e14 e15 e16 e17 e18 e19 e20 e21 e22 e23 e24 e25 e26 e27 e28 e29 e30 e31 e32 e33 e34 e35 e36 e37 e38 e39 e40 e41 e42 e43 e44 e45 : Value} (h : J e2 e11 w') (hm : m e2 e11 w' < m x2 x11 w) : know_Know_Opened.N1 J m x0 x3 x10 x2 x11 w [x0, e1, e2, x3, e4, e5, e6, e7, e8, e9, x10, e11, e12, e13, e14, e15, e16, e17, e18, e19, e20, e21, e22, e23, e24, e25, e26, e27, e28, e29, e30, e31, e32, e33, e34, e35, e36, e37, e38, e39, e40, e41, e42, e43, e44, e45] w' :=
  ⟨⟨e2, e11, (fun i => nth [x0, e1, e2, x3, e4, e5, e6, e7, e8, e9, x10, e11, e12, e13, e14, e15, e16, e17, e18, e19, e20, e21, e22, e23, e24, e25, e26, e27, e28, e29, e30, e31, e32, e33, e34, e35, e36, e37, e38, e39, e40, e41, e42, e43, e44, e45] i), rfl, h⟩, hm⟩
theorem know_Know_Opened.loop1 (J : Value → Value → World → Prop) (m : Value → Value → World → Nat) {R : KV} {X : KX} {w : World} {x0 : Value} {x3 : Value} {x10 : Value} {e1 e2 e4 e5 e6 e7 e8 e9 e11 e12 e13 e14 e15 e16 e17 e18 e19 e20 e21 e22 e23 e24 e25 e26 e27 e28 e29 e30 e31 e32 e33 e34 e35 e36 e37 e38 e39 e40 e41 e42 e43 e44 e45 : Value} (h0 : J e2 e11 w)
    (hr : ∀ x2 x11 g w, J x2 x11 w → know_Know_Opened.b1 x0 x2 x3 x10 x11 g (know_Know_Opened.N1 J m x0 x3 x10 x2 x11 w) R X w) : know_Know_Opened.I1 [x0, e1, e2, x3, e4, e5, e6, e7, e8, e9, x10, e11, e12, e13, e14, e15, e16, e17, e18, e19, e20, e21, e22, e23, e24, e25, e26, e27, e28, e29, e30, e31, e32, e33, e34, e35, e36, e37, e38, e39, e40, e41, e42, e43, e44, e45] R X w := by
  rw [know_Know_Opened.I1_eq]
  refine ⟨fun e w => ∃ y2 y11 g, e = know_Know_Opened.fr1 x0 y2 x3 x10 y11 g ∧ J y2 y11 w, fun e w => m (nth e 2) (nth e 11) w, ⟨e2, e11, (fun i => nth [x0, e1, e2, x3, e4, e5, e6, e7, e8, e9, x10, e11, e12, e13, e14, e15, e16, e17, e18, e19, e20, e21, e22, e23, e24, e25, e26, e27, e28, e29, e30, e31, e32, e33, e34, e35, e36, e37, e38, e39, e40, e41, e42, e43, e44, e45] i), rfl, h0⟩, ?_⟩
  rintro _ w ⟨y2, y11, g, rfl, hJ⟩
  rw [know_Know_Opened.b1_eq]
  exact hr y2 y11 g w hJ
def know_Know_Opened.b (x0 : Value) (R : KV) (X : KX) (w : World) : Prop :=
  pEq .ptr false x0 (.pointer none) fun t6 =>
  scond t6
  (R (.slice none 0 0) w)
  (pCall Try.prog 29 [x0] X w fun t8 w =>
    pLenSl t8 fun t10 =>
    know_Know_Opened.I1 [x0, undef, (.slice none 0 0), t8, undef, x0, t6, x0, t8, t8, t10, (.int .i64 0), undef, undef, undef, undef, undef, undef, undef, undef, undef, undef, undef, undef, undef, undef, undef, undef, undef, undef, undef, undef, undef, undef, undef, undef, undef, undef, undef, undef, undef, undef, undef, undef, undef, undef] R X w)
theorem know_Know_Opened.b_eq (x0 : Value) (R : KV) (X : KX) (w : World) : atP Try.prog Try.f15 know_Know_Opened.pl [] [] R X ([x0] ++ undefs 45) w = know_Know_Opened.b x0 R X w := by kernel_rfl
theorem know_Know_Opened.calls {x0 : Value} {R : KV} {X : KX} {w : World} (h : know_Know_Opened.b x0 R X w) : GCalls Try.prog 15 [x0] R X w :=
  gcalls_of (pl := know_Know_Opened.pl) Try.func15 rfl (by kernel_rfl) hmixed (know_Know_Opened.b_eq x0 R X w ▸ h)

/-! oubliette/oublietteref16.Opened -/
def oublietteref16_Opened.pl : Nat → DrawPlan
  | _ => ⟨[], .done⟩
def oublietteref16_Opened.j1 (x0 : Value) (x1 : Value) (x5 : Value) (x6 : Value) (g : Nat → Value) (N1 : List Value → World → Prop) (R : KV) (X : KX) (w : World) : Prop :=
  pBinI .add .i64 x6 (.int .i64 1) fun t12 =>
  N1 [x0, x1, (g 2), (g 3), (g 4), x5, t12, (g 7), (g 8), (g 9), (g 10), x6, t12, (g 13), (g 14), (g 15), (g 16), (g 17), (g 18), (g 19), (g 20), (g 21), (g 22), (g 23), (g 24), (g 25), (g 26), (g 27), (g 28), (g 29), (g 30), (g 31), (g 32), (g 33), (g 34), (g 35), (g 36), (g 37)] w
def oublietteref16_Opened.b1 (x0 : Value) (x1 : Value) (x5 : Value) (x6 : Value) (g : Nat → Value) (N1 : List Value → World → Prop) (R : KV) (X : KX) (w : World) : Prop :=
  pLenSl x0 fun t9 =>
  pBinI .leq .i64 x6 t9 fun t10 =>
  scond t10
  (pCall Try.prog 31 [x0, x6] X w fun t15 w =>
    pBinI .eql .i64 t15 (.int .i64 5) fun t16 =>
    gIf t16 true (fun K => K x1) fun t18 =>
    gIf t16 true (fun K => K x6) fun t19 =>
    gIf t16 true (fun K => pIA 1 t18 t19 K) fun t20 =>
    gIf t16 true (fun K => pLd (· = w) t20 K) fun t21 =>
    pPick t16 t21 (.bool false) fun t22 =>
    gIf t22 true (fun K => K x1) fun t24 =>
    gIf t22 true (fun K => K x0) fun t25 =>
    gIf t22 true (fun K => K x6) fun t26 =>
    gIfW t22 true (fun w K => pCall Try.prog 32 [t25, t26] X w K) w fun t27 w =>
    gIf t22 true (fun K => pIA 1 t27 (.int .i64 0) K) fun t28 =>
    gIf t22 true (fun K => pLd (· = w) t28 K) fun t29 =>
    gIf t22 true (fun K => pIA 1 t24 t29 K) fun t30 =>
    gIf t22 true (fun K => pLd (· = w) t30 K) fun t31 =>
    pPick t22 t31 (.bool false) fun t32 =>
    scond t32
    (pBSlice 3 1 (rowOf [.int .i64 0] 1) [(0, 1, x6)] w fun t35 w =>
      pApp 3 1 8 [.int .i64 0] x5 t35 w fun t36 w =>
      oublietteref16_Opened.j1 x0 x1 t36 x6 (fun i => nth [x0, x1, (g 2), (g 3), (g 4), t36, x6, x6, x0, t9, t10, (g 11), (g 12), x0, x6, t15, t16, t16, t18, t19, t20, t21, t22, t22, t24, t25, t26, t27, t28, t29, t30, t31, t32, x5, x6, t35, t36, (g 37)] i) N1 R X w)
    (oublietteref16_Opened.j1 x0 x1 x5 x6 (fun i => nth [x0, x1, (g 2), (g 3), (g 4), x5, x6, x6, x0, t9, t10, (g 11), (g 12), x0, x6, t15, t16, t16, t18, t19, t20, t21, t22, t22, t24, t25, t26, t27, t28, t29, t30, t31, t32, (g 33), (g 34), (g 35), (g 36), (g 37)] i) N1 R X w))
  (R x5 w)
def oublietteref16_Opened.I1 (e : List Value) (R : KV) (X : KX) (w : World) : Prop := atP Try.prog Try.f16 oublietteref16_Opened.pl [1, 1, 0, 1, 0] [] R X e w
theorem oublietteref16_Opened.I1_eq (e : List Value) (R : KV) (X : KX) (w : World) : oublietteref16_Opened.I1 e R X w = loopS (fun N e w => atP Try.prog Try.f16 oublietteref16_Opened.pl [1, 1, 0, 1, 0, 0] [N] R X e w) e w := by kernel_rfl
def oublietteref16_Opened.fr1 (x0 : Value) (x1 : Value) (x5 : Value) (x6 : Value) (g : Nat → Value) : List Value := [x0, x1, g 2, g 3, g 4, x5, x6, g 7, g 8, g 9, g 10, g 11, g 12, g 13, g 14, g 15, g 16, g 17, g 18, g 19, g 20, g 21, g 22, g 23, g 24, g 25, g 26, g 27, g 28, g 29, g 30, g 31, g 32, g 33, g 34, g 35, g 36, g 37]
theorem oublietteref16_Opened.b1_eq (x0 : Value) (x1 : Value) (x5 : Value) (x6 : Value) (g : Nat → Value) (N1 : List Value → World → Prop) (R : KV) (X : KX) (w : World) : atP Try.prog Try.f16 oublietteref16_Opened.pl [1, 1, 0, 1, 0, 0] [N1] R X (oublietteref16_Opened.fr1 x0 x1 x5 x6 g) w = oublietteref16_Opened.b1 x0 x1 x5 x6 g N1 R X w := by kernel_rfl
/-- What a round of this loop hands on. -/
def oublietteref16_Opened.N1 (J : Value → Value → World → Prop) (m : Value → Value → World → Nat) (x0 : Value) (x1 : Value) (x5 : Value) (x6 : Value) (w : World) : List Value → World → Prop := fun e w' => (∃ y5 y6 g, e = oublietteref16_Opened.fr1 x0 x1 y5 y6 g ∧ J y5 y6 w') ∧ m (nth e 5) (nth e 6) w' < m x5 x6 w
theorem oublietteref16_Opened.leaf1 {J : Value → Value → World → Prop} {m : Value → Value → World → Nat} {x0 : Value} {x1 : Value} {x5 : Value} {x6 : Value} {w w' : World} {e2 e3 e4 e5 e6 e7 e8 e9 e10 e11 e12 e13 e14 e15 e16 e17 e18 e19 e20 e21 e22 e23 e24 e25 e26 e27 e28 e29 e30 e31 e32 e33 e34 e35 e36 e37 : Value} (h : J e5 e6 w') (hm : m e5 e6 w' < m x5 x6 w) : oublietteref16_Opened.N1 J m x0 x1 x5 x6 w [x0, x1, e2, e3, e4, e5, e6, e7, e8, e9, e10, e11, e12, e13, e14, e15, e16, e17, e18, e19, e20, e21, e22, e23, e24, e25, e26, e27, e28, e29, e30, e31, e32, e33, e34, e35, e36, e37] w' :=
  ⟨⟨e5, e6, (fun i => nth [x0, x1, e2, e3, e4, e5, e6, e7, e8, e9, e10, e11, e12, e13, e14, e15, e16, e17, e18, e19, e20, e21, e22, e23, e24, e25, e26, e27, e28, e29, e30, e31, e32, e33, e34, e35, e36, e37] i), rfl, h⟩, hm⟩
theorem oublietteref16_Opened.loop1 (J : Value → Value → World → Prop) (m : Value → Value → World → Nat) {R : KV} {X : KX} {w : World} {x0 : Value} {x1 : Value} {e2 e3 e4 e5 e6 e7 e8 e9 e10 e11 e12 e13 e14 e15 e16 e17 e18 e19 e20 e21 e22 e23 e24 e25 e26 e27 e28 e29 e30 e31 e32 e33 e34 e35 e36 e37 : Value} (h0 : J e5 e6 w)
    (hr : ∀ x5 x6 g w, J x5 x6 w → oublietteref16_Opened.b1 x0 x1 x5 x6 g (oublietteref16_Opened.N1 J m x0 x1 x5 x6 w) R X w) : oublietteref16_Opened.I1 [x0, x1, e2, e3, e4, e5, e6, e7, e8, e9, e10, e11, e12, e13, e14, e15, e16, e17, e18, e19, e20, e21, e22, e23, e24, e25, e26, e27, e28, e29, e30, e31, e32, e33, e34, e35, e36, e37] R X w := by
  rw [oublietteref16_Opened.I1_eq]
  refine ⟨fun e w => ∃ y5 y6 g, e = oublietteref16_Opened.fr1 x0 x1 y5 y6 g ∧ J y5 y6 w, fun e w => m (nth e 5) (nth e 6) w, ⟨e5, e6, (fun i => nth [x0, x1, e2, e3, e4, e5, e6, e7, e8, e9, e10, e11, e12, e13, e14, e15, e16, e17, e18, e19, e20, e21, e22, e23, e24, e25, e26, e27, e28, e29, e30, e31, e32, e33, e34, e35, e36, e37] i), rfl, h0⟩, ?_⟩
  rintro _ w ⟨y5, y6, g, rfl, hJ⟩
  rw [oublietteref16_Opened.b1_eq]
  exact hr y5 y6 g w hJ
def oublietteref16_Opened.b (x0 : Value) (x1 : Value) (R : KV) (X : KX) (w : World) : Prop :=
  oublietteref16_Opened.I1 [x0, x1, undef, undef, (.slice none 0 0), (.slice none 0 0), (.int .i64 1), undef, undef, undef, undef, undef, undef, undef, undef, undef, undef, undef, undef, undef, undef, undef, undef, undef, undef, undef, undef, undef, undef, undef, undef, undef, undef, undef, undef, undef, undef, undef] R X w
theorem oublietteref16_Opened.b_eq (x0 : Value) (x1 : Value) (R : KV) (X : KX) (w : World) : atP Try.prog Try.f16 oublietteref16_Opened.pl [] [] R X ([x0, x1] ++ undefs 36) w = oublietteref16_Opened.b x0 x1 R X w := by kernel_rfl
theorem oublietteref16_Opened.calls {x0 x1 : Value} {R : KV} {X : KX} {w : World} (h : oublietteref16_Opened.b x0 x1 R X w) : GCalls Try.prog 16 [x0, x1] R X w :=
  gcalls_of (pl := oublietteref16_Opened.pl) Try.func16 rfl (by kernel_rfl) hmixed (oublietteref16_Opened.b_eq x0 x1 R X w ▸ h)

/-! oubliette/oublietteref16.round -/
def oublietteref16_round.pl : Nat → DrawPlan
  | _ => ⟨[], .done⟩
def oublietteref16_round.j1 (x0 : Value) (x1 : Value) (x5 : Value) (x6 : Value) (g : Nat → Value) (N1 : List Value → World → Prop) (R : KV) (X : KX) (w : World) : Prop :=
  pBinI .add .i64 x6 (.int .i64 1) fun t18 =>
  N1 [x0, x1, (g 2), (g 3), (g 4), x5, t18, (g 7), (g 8), (g 9), (g 10), (g 11), (g 12), (g 13), (g 14), (g 15), (g 16), x6, t18, (g 19), (g 20), (g 21), (g 22), (g 23), (g 24), (g 25), (g 26), (g 27), (g 28), (g 29), (g 30), (g 31), (g 32), (g 33), (g 34), (g 35), (g 36), (g 37), (g 38), (g 39), (g 40), (g 41), (g 42), (g 43), (g 44), (g 45), (g 46), (g 47), (g 48), (g 49), (g 50), (g 51), (g 52), (g 53), (g 54), (g 55), (g 56), (g 57), (g 58), (g 59), (g 60), (g 61), (g 62), (g 63), (g 64), (g 65), (g 66), (g 67), (g 68), (g 69), (g 70), (g 71), (g 72), (g 73), (g 74), (g 75)] w
def oublietteref16_round.b2 (x0 : Value) (x1 : Value) (x5 : Value) (x6 : Value) (x7 : Value) (x8 : Value) (x9 : Value) (g : Nat → Value) (N1 : List Value → World → Prop) (N2 : List Value → World → Prop) (R : KV) (X : KX) (w : World) : Prop :=
  pLenSl x7 fun t28 =>
  pBinI .lss .i64 x9 t28 fun t29 =>
  scond t29
  (gIf x8 true (fun K => K x1) fun t34 =>
    gIf x8 true (fun K => K x7) fun t35 =>
    gIf x8 true (fun K => K x9) fun t36 =>
    gIf x8 true (fun K => pIA 1 t35 t36 K) fun t37 =>
    gIf x8 true (fun K => pLd (· = w) t37 K) fun t38 =>
    gIf x8 true (fun K => pIA 1 t34 t38 K) fun t39 =>
    gIf x8 true (fun K => pLd (· = w) t39 K) fun t40 =>
    pPick x8 t40 (.bool false) fun t41 =>
    pBinI .add .i64 x9 (.int .i64 1) fun t31 =>
    N2 [x0, x1, (g 2), (g 3), (g 4), x5, x6, x7, t41, t31, (g 10), (g 11), (g 12), (g 13), (g 14), (g 15), (g 16), (g 17), (g 18), (g 19), (g 20), (g 21), (g 22), (g 23), (g 24), (g 25), x9, x7, t28, t29, x9, t31, x8, x8, t34, t35, t36, t37, t38, t39, t40, t41, (g 42), (g 43), (g 44), (g 45), (g 46), (g 47), (g 48), (g 49), (g 50), (g 51), (g 52), (g 53), (g 54), (g 55), (g 56), (g 57), (g 58), (g 59), (g 60), (g 61), (g 62), (g 63), (g 64), (g 65), (g 66), (g 67), (g 68), (g 69), (g 70), (g 71), (g 72), (g 73), (g 74), (g 75)] w)
  (pIA 1 x5 x6 fun t46 =>
    pLd (· = w) t46 fun t47 =>
    gIf t47 false (fun K => K x8) fun t49 =>
    pPick t47 (.bool true) t49 fun t50 =>
    pIA 1 x5 x6 fun t51 =>
    pSt t51 t50 w fun _ w =>
    pCall Try.prog 31 [x0, x6] X w fun t54 w =>
    pBinI .eql .i64 t54 (.int .i64 5) fun t55 =>
    gIf t55 true (fun K => K x1) fun t57 =>
    gIf t55 true (fun K => K x6) fun t58 =>
    gIf t55 true (fun K => pIA 1 t57 t58 K) fun t59 =>
    gIf t55 true (fun K => pLd (· = w) t59 K) fun t60 =>
    pPick t55 t60 (.bool false) fun t61 =>
    gIf t61 true (fun K => K x1) fun t63 =>
    gIf t61 true (fun K => K x7) fun t64 =>
    gIf t61 true (fun K => pIA 1 t64 (.int .i64 0) K) fun t65 =>
    gIf t61 true (fun K => pLd (· = w) t65 K) fun t66 =>
    gIf t61 true (fun K => pIA 1 t63 t66 K) fun t67 =>
    gIf t61 true (fun K => pLd (· = w) t67 K) fun t68 =>
    pPick t61 t68 (.bool false) fun t69 =>
    scond t69
    (pIA 1 x7 (.int .i64 1) fun t72 =>
      pLd (· = w) t72 fun t73 =>
      pIA 1 x5 t73 fun t74 =>
      pSt t74 (.bool true) w fun _ w =>
      oublietteref16_round.j1 x0 x1 x5 x6 (fun i => nth [x0, x1, (g 2), (g 3), (g 4), x5, x6, x7, x8, x9, (g 10), (g 11), (g 12), (g 13), (g 14), (g 15), (g 16), (g 17), (g 18), (g 19), (g 20), (g 21), (g 22), (g 23), (g 24), (g 25), x9, x7, t28, t29, (g 30), (g 31), (g 32), (g 33), (g 34), (g 35), (g 36), (g 37), (g 38), (g 39), (g 40), (g 41), x5, x6, x5, x6, t46, t47, t47, t49, t50, t51, x0, x6, t54, t55, t55, t57, t58, t59, t60, t61, t61, t63, t64, t65, t66, t67, t68, t69, x5, x7, t72, t73, t74, (g 75)] i) N1 R X w)
    (oublietteref16_round.j1 x0 x1 x5 x6 (fun i => nth [x0, x1, (g 2), (g 3), (g 4), x5, x6, x7, x8, x9, (g 10), (g 11), (g 12), (g 13), (g 14), (g 15), (g 16), (g 17), (g 18), (g 19), (g 20), (g 21), (g 22), (g 23), (g 24), (g 25), x9, x7, t28, t29, (g 30), (g 31), (g 32), (g 33), (g 34), (g 35), (g 36), (g 37), (g 38), (g 39), (g 40), (g 41), x5, x6, x5, x6, t46, t47, t47, t49, t50, t51, x0, x6, t54, t55, t55, t57, t58, t59, t60, t61, t61, t63, t64, t65, t66, t67, t68, t69, (g 70), (g 71), (g 72), (g 73), (g 74), (g 75)] i) N1 R X w))
def oublietteref16_round.I2 (e : List Value) (N1 : List Value → World → Prop) (R : KV) (X : KX) (w : World) : Prop := atP Try.prog Try.f27 oublietteref16_round.pl [1, 1, 0, 1, 0, 0, 1, 0, 0, 1, 1, 0, 1, 0] [N1] R X e w
theorem oublietteref16_round.I2_eq (e : List Value) (N1 : List Value → World → Prop) (R : KV) (X : KX) (w : World) : oublietteref16_round.I2 e N1 R X w = loopS (fun N e w => atP Try.prog Try.f27 oublietteref16_round.pl [1, 1, 0, 1, 0, 0, 1, 0, 0, 1, 1, 0, 1, 0, 0] [N1, N] R X e w) e w := by kernel_rfl
def oublietteref16_round.fr2 (x0 : Value) (x1 : Value) (x5 : Value) (x6 : Value) (x7 : Value) (x8 : Value) (x9 : Value) (g : Nat → Value) : List Value := [x0, x1, g 2, g 3, g 4, x5, x6, x7, x8, x9, g 10, g 11, g 12, g 13, g 14, g 15, g 16, g 17, g 18, g 19, g 20, g 21, g 22, g 23, g 24, g 25, g 26, g 27, g 28, g 29, g 30, g 31, g 32, g 33, g 34, g 35, g 36, g 37, g 38, g 39, g 40, g 41, g 42, g 43, g 44, g 45, g 46, g 47, g 48, g 49, g 50, g 51, g 52, g 53, g 54, g 55, g 56, g 57, g 58, g 59, g 60, g 61, g 62, g 63, g 64, g 65, g 66, g 67, g 68, g 69, g 70, g 71, g 72, g 73, g 74, g 75]
theorem oublietteref16_round.b2_eq (x0 : Value) (x1 : Value) (x5 : Value) (x6 : Value) (x7 : Value) (x8 : Value) (x9 : Value) (g : Nat → Value) (N1 : List Value → World → Prop) (N2 : List Value → World → Prop) (R : KV) (X : KX) (w : World) : atP Try.prog Try.f27 oublietteref16_round.pl [1, 1, 0, 1, 0, 0, 1, 0, 0, 1, 1, 0, 1, 0, 0] [N1, N2] R X (oublietteref16_round.fr2 x0 x1 x5 x6 x7 x8 x9 g) w = oublietteref16_round.b2 x0 x1 x5 x6 x7 x8 x9 g N1 N2 R X w := by kernel_rfl
/-- What a round of this loop hands on. -/
def oublietteref16_round.N2 (J : Value → Value → World → Prop) (m : Value → Value → World → Nat) (x0 : Value) (x1 : Value) (x5 : Value) (x6 : Value) (x7 : Value) (x8 : Value) (x9 : Value) (w : World) : List Value → World → Prop := fun e w' => (∃ y8 y9 g, e = oublietteref16_round.fr2 x0 x1 x5 x6 x7 y8 y9 g ∧ J y8 y9 w') ∧ m (nth e 8) (nth e 9) w' < m x8 x9 w
theorem oublietteref16_round.leaf2 {J : Value → Value → World → Prop} {m : Value → Value → World → Nat} {x0 : Value} {x1 : Value} {x5 : Value} {x6 : Value} {x7 : Value} {x8 : Value} {x9 : Value} {w w' : World} {e2 e3 e4 e8 e9 e10 e11 e12 e13 e14 e15 e16 e17 e18 e19 e20 e21 e22 e23 e24 e25 e26 e27 e28 e29 e30 e31 e32 e33 e34 e35 e36 e37 e38 e39 e40 e41 e42 e43 e44 e45 e46 e47 e48 e49 e50 e51 e52 e53 e54 e55 e56 e57 e58 e59 e60 e61 e62 e63 e64 e65 e66 e67 e68 e69 e70 e71 e72 e73 e74 e75 : Value} (h : J e8 e9 w') (hm : m e8 e9 w' < m x8 x9 w) : oublietteref16_round.N2 J m x0 x1 x5 x6 x7 x8 x9 w [x0, x1, e2, e3, e4, x5, x6, x7, e8, e9, e10, e11, e12, e13, e14, e15, e16, e17, e18, e19, e20, e21, e22, e23, e24, e25, e26, e27, e28, e29, e30, e31, e32, e33, e34, e35, e36, e37, e38, e39, e40, e41, e42, e43, e44, e45, e46, e47, e48, e49, e50, e51, e52, e53, e54, e55, e56, e57, e58, e59, e60, e61, e62, e63, e64, e65, e66, e67, e68, e69, e70, e71, e72, e73, e74, e75] w' :=
  ⟨⟨e8, e9, (fun i => nth [x0, x1, e2, e3, e4, x5, x6, x7, e8, e9, e10, e11, e12, e13, e14, e15, e16, e17, e18, e19, e20, e21, e22, e23, e24, e25, e26, e27, e28, e29, e30, e31, e32, e33, e34, e35, e36, e37, e38, e39, e40, e41, e42, e43, e44, e45, e46, e47, e48, e49, e50, e51, e52, e53, e54, e55, e56, e57, e58, e59, e60, e61, e62, e63, e64, e65, e66, e67, e68, e69, e70, e71, e72, e73, e74, e75] i), rfl, h⟩, hm⟩
theorem oublietteref16_round.loop2 (J : Value → Value → World → Prop) (m : Value → Value → World → Nat) {N1 : List Value → World → Prop} {R : KV} {X : KX} {w : World} {x0 : Value} {x1 : Value} {x5 : Value} {x6 : Value} {x7 : Value} {e2 e3 e4 e8 e9 e10 e11 e12 e13 e14 e15 e16 e17 e18 e19 e20 e21 e22 e23 e24 e25 e26 e27 e28 e29 e30 e31 e32 e33 e34 e35 e36 e37 e38 e39 e40 e41 e42 e43 e44 e45 e46 e47 e48 e49 e50 e51 e52 e53 e54 e55 e56 e57 e58 e59 e60 e61 e62 e63 e64 e65 e66 e67 e68 e69 e70 e71 e72 e73 e74 e75 : Value} (h0 : J e8 e9 w)
    (hr : ∀ x8 x9 g w, J x8 x9 w → oublietteref16_round.b2 x0 x1 x5 x6 x7 x8 x9 g N1 (oublietteref16_round.N2 J m x0 x1 x5 x6 x7 x8 x9 w) R X w) : oublietteref16_round.I2 [x0, x1, e2, e3, e4, x5, x6, x7, e8, e9, e10, e11, e12, e13, e14, e15, e16, e17, e18, e19, e20, e21, e22, e23, e24, e25, e26, e27, e28, e29, e30, e31, e32, e33, e34, e35, e36, e37, e38, e39, e40, e41, e42, e43, e44, e45, e46, e47, e48, e49, e50, e51, e52, e53, e54, e55, e56, e57, e58, e59, e60, e61, e62, e63, e64, e65, e66, e67, e68, e69, e70, e71, e72, e73, e74, e75] N1 R X w := by
  rw [oublietteref16_round.I2_eq]
  refine ⟨fun e w => ∃ y8 y9 g, e = oublietteref16_round.fr2 x0 x1 x5 x6 x7 y8 y9 g ∧ J y8 y9 w, fun e w => m (nth e 8) (nth e 9) w, ⟨e8, e9, (fun i => nth [x0, x1, e2, e3, e4, x5, x6, x7, e8, e9, e10, e11, e12, e13, e14, e15, e16, e17, e18, e19, e20, e21, e22, e23, e24, e25, e26, e27, e28, e29, e30, e31, e32, e33, e34, e35, e36, e37, e38, e39, e40, e41, e42, e43, e44, e45, e46, e47, e48, e49, e50, e51, e52, e53, e54, e55, e56, e57, e58, e59, e60, e61, e62, e63, e64, e65, e66, e67, e68, e69, e70, e71, e72, e73, e74, e75] i), rfl, h0⟩, ?_⟩
  rintro _ w ⟨y8, y9, g, rfl, hJ⟩
  rw [oublietteref16_round.b2_eq]
  exact hr y8 y9 g w hJ
def oublietteref16_round.b1 (x0 : Value) (x1 : Value) (x5 : Value) (x6 : Value) (g : Nat → Value) (N1 : List Value → World → Prop) (R : KV) (X : KX) (w : World) : Prop :=
  pLenSl x0 fun t15 =>
  pBinI .leq .i64 x6 t15 fun t16 =>
  scond t16
  (pCall Try.prog 32 [x0, x6] X w fun t21 w =>
    pCall Try.prog 31 [x0, x6] X w fun t24 w =>
    pBinI .neq .i64 t24 (.int .i64 1) fun t25 =>
    oublietteref16_round.I2 [x0, x1, (g 2), (g 3), (g 4), x5, x6, t21, t25, (.int .i64 0), (g 10), (g 11), (g 12), x6, x0, t15, t16, (g 17), (g 18), x0, x6, t21, x0, x6, t24, t25, (g 26), (g 27), (g 28), (g 29), (g 30), (g 31), (g 32), (g 33), (g 34), (g 35), (g 36), (g 37), (g 38), (g 39), (g 40), (g 41), (g 42), (g 43), (g 44), (g 45), (g 46), (g 47), (g 48), (g 49), (g 50), (g 51), (g 52), (g 53), (g 54), (g 55), (g 56), (g 57), (g 58), (g 59), (g 60), (g 61), (g 62), (g 63), (g 64), (g 65), (g 66), (g 67), (g 68), (g 69), (g 70), (g 71), (g 72), (g 73), (g 74), (g 75)] N1 R X w)
  (R x5 w)
def oublietteref16_round.I1 (e : List Value) (R : KV) (X : KX) (w : World) : Prop := atP Try.prog Try.f27 oublietteref16_round.pl [1, 1, 0, 1, 0] [] R X e w
theorem oublietteref16_round.I1_eq (e : List Value) (R : KV) (X : KX) (w : World) : oublietteref16_round.I1 e R X w = loopS (fun N e w => atP Try.prog Try.f27 oublietteref16_round.pl [1, 1, 0, 1, 0, 0] [N] R X e w) e w := by kernel_rfl
def oublietteref16_round.fr1 (x0 : Value) (x1 : Value) (x5 : Value) (x6 : Value) (g : Nat → Value) : List Value := [x0, x1, g 2, g 3, g 4, x5, x6, g 7, g 8, g 9, g 10, g 11, g 12, g 13, g 14, g 15, g 16, g 17, g 18, g 19, g 20, g 21, g 22, g 23, g 24, g 25, g 26, g 27, g 28, g 29, g 30, g 31, g 32, g 33, g 34, g 35, g 36, g 37, g 38, g 39, g 40, g 41, g 42, g 43, g 44, g 45, g 46, g 47, g 48, g 49, g 50, g 51, g 52, g 53, g 54, g 55, g 56, g 57, g 58, g 59, g 60, g 61, g 62, g 63, g 64, g 65, g 66, g 67, g 68, g 69, g 70, g 71, g 72, g 73, g 74, g 75]
theorem oublietteref16_round.b1_eq (x0 : Value) (x1 : Value) (x5 : Value) (x6 : Value) (g : Nat → Value) (N1 : List Value → World → Prop) (R : KV) (X : KX) (w : World) : atP Try.prog Try.f27 oublietteref16_round.pl [1, 1, 0, 1, 0, 0] [N1] R X (oublietteref16_round.fr1 x0 x1 x5 x6 g) w = oublietteref16_round.b1 x0 x1 x5 x6 g N1 R X w := by kernel_rfl
/-- What a round of this loop hands on. -/
def oublietteref16_round.N1 (J : Value → World → Prop) (m : Value → World → Nat) (x0 : Value) (x1 : Value) (x5 : Value) (x6 : Value) (w : World) : List Value → World → Prop := fun e w' => (∃ y6 g, e = oublietteref16_round.fr1 x0 x1 x5 y6 g ∧ J y6 w') ∧ m (nth e 6) w' < m x6 w
theorem oublietteref16_round.leaf1 {J : Value → World → Prop} {m : Value → World → Nat} {x0 : Value} {x1 : Value} {x5 : Value} {x6 : Value} {w w' : World} {e2 e3 e4 e6 e7 e8 e9 e10 e11 e12 e13 e14 e15 e16 e17 e18 e19 e20 e21 e22 e23 e24 e25 e26 e27 e28 e29 e30 e31 e32 e33 e34 e35 e36 e37 e38 e39 e40 e41 e42 e43 e44 e45 e46 e47 e48 e49 e50 e51 e52 e53 e54 e55 e56 e57 e58 e59 e60 e61 e62 e63 e64 e65 e66 e67 e68 e69 e70 e71 e72 e73 e74 e75 : Value} (h : J e6 w') (hm : m e6 w' < m x6 w) : oublietteref16_round.N1 J m x0 x1 x5 x6 w [x0, x1, e2, e3, e4, x5, e6, e7, e8, e9, e10, e11, e12, e13, e14, e15, e16, e17, e18, e19, e20, e21, e22, e23, e24, e25, e26, e27, e28, e29, e30, e31, e32, e33, e34, e35, e36, e37, e38, e39, e40, e41, e42, e43, e44, e45, e46, e47, e48, e49, e50, e51, e52, e53, e54, e55, e56, e57, e58, e59, e60, e61, e62, e63, e64, e65, e66, e67, e68, e69, e70, e71, e72, e73, e74, e75] w' :=
  ⟨⟨e6, (fun i => nth [x0, x1, e2, e3, e4, x5, e6, e7, e8, e9, e10, e11, e12, e13, e14, e15, e16, e17, e18, e19, e20, e21, e22, e23, e24, e25, e26, e27, e28, e29, e30, e31, e32, e33, e34, e35, e36, e37, e38, e39, e40, e41, e42, e43, e44, e45, e46, e47, e48, e49, e50, e51, e52, e53, e54, e55, e56, e57, e58, e59, e60, e61, e62, e63, e64, e65, e66, e67, e68, e69, e70, e71, e72, e73, e74, e75] i), rfl, h⟩, hm⟩
theorem oublietteref16_round.loop1 (J : Value → World → Prop) (m : Value → World → Nat) {R : KV} {X : KX} {w : World} {x0 : Value} {x1 : Value} {x5 : Value} {e2 e3 e4 e6 e7 e8 e9 e10 e11 e12 e13 e14 e15 e16 e17 e18 e19 e20 e21 e22 e23 e24 e25 e26 e27 e28 e29 e30 e31 e32 e33 e34 e35 e36 e37 e38 e39 e40 e41 e42 e43 e44 e45 e46 e47 e48 e49 e50 e51 e52 e53 e54 e55 e56 e57 e58 e59 e60 e61 e62 e63 e64 e65 e66 e67 e68 e69 e70 e71 e72 e73 e74 e75 : Value} (h0 : J e6 w)
    (hr : ∀ x6 g w, J x6 w → oublietteref16_round.b1 x0 x1 x5 x6 g (oublietteref16_round.N1 J m x0 x1 x5 x6 w) R X w) : oublietteref16_round.I1 [x0, x1, e2, e3, e4, x5, e6, e7, e8, e9, e10, e11, e12, e13, e14, e15, e16, e17, e18, e19, e20, e21, e22, e23, e24, e25, e26, e27, e28, e29, e30, e31, e32, e33, e34, e35, e36, e37, e38, e39, e40, e41, e42, e43, e44, e45, e46, e47, e48, e49, e50, e51, e52, e53, e54, e55, e56, e57, e58, e59, e60, e61, e62, e63, e64, e65, e66, e67, e68, e69, e70, e71, e72, e73, e74, e75] R X w := by
  rw [oublietteref16_round.I1_eq]
  refine ⟨fun e w => ∃ y6 g, e = oublietteref16_round.fr1 x0 x1 x5 y6 g ∧ J y6 w, fun e w => m (nth e 6) w, ⟨e6, (fun i => nth [x0, x1, e2, e3, e4, x5, e6, e7, e8, e9, e10, e11, e12, e13, e14, e15, e16, e17, e18, e19, e20, e21, e22, e23, e24, e25, e26, e27, e28, e29, e30, e31, e32, e33, e34, e35, e36, e37, e38, e39, e40, e41, e42, e43, e44, e45, e46, e47, e48, e49, e50, e51, e52, e53, e54, e55, e56, e57, e58, e59, e60, e61, e62, e63, e64, e65, e66, e67, e68, e69, e70, e71, e72, e73, e74, e75] i), rfl, h0⟩, ?_⟩
  rintro _ w ⟨y6, g, rfl, hJ⟩
  rw [oublietteref16_round.b1_eq]
  exact hr y6 g w hJ
def oublietteref16_round.b (x0 : Value) (x1 : Value) (R : KV) (X : KX) (w : World) : Prop :=
  pBSlice 4 0 (rowOf [.bool false] 0) [] w fun t10 w =>
  pApp 4 1 1 [.bool false] t10 x1 w fun t12 w =>
  oublietteref16_round.I1 [x0, x1, undef, undef, (.slice none 0 0), t12, (.int .i64 1), undef, undef, undef, t10, x1, t12, undef, undef, undef, undef, undef, undef, undef, undef, undef, undef, undef, undef, undef, undef, undef, undef, undef, undef, undef, undef, undef, undef, undef, undef, undef, undef, undef, undef, undef, undef, undef, undef, undef, undef, undef, undef, undef, undef, undef, undef, undef, undef, undef, undef, undef, undef, undef, undef, undef, undef, undef, undef, undef, undef, undef, undef, undef, undef, undef, undef, undef, undef, undef] R X w
theorem oublietteref16_round.b_eq (x0 : Value) (x1 : Value) (R : KV) (X : KX) (w : World) : atP Try.prog Try.f27 oublietteref16_round.pl [] [] R X ([x0, x1] ++ undefs 74) w = oublietteref16_round.b x0 x1 R X w := by kernel_rfl
theorem oublietteref16_round.calls {x0 x1 : Value} {R : KV} {X : KX} {w : World} (h : oublietteref16_round.b x0 x1 R X w) : GCalls Try.prog 27 [x0, x1] R X w :=
  gcalls_of (pl := oublietteref16_round.pl) Try.func27 rfl (by kernel_rfl) hmixed (oublietteref16_round.b_eq x0 x1 R X w ▸ h)

/-! maps.Clone[map[int]oubliette/know.mark,int,oubliette/know.mark] -/
def maps_Clone_map_int_know_mark_int_know_mark.pl : Nat → DrawPlan
  | _ => ⟨[], .done⟩
def maps_Clone_map_int_know_mark_int_know_mark.b (x0 : Value) (R : KV) (X : KX) (w : World) : Prop :=
  pEq .mp false x0 (.map none) fun t4 =>
  scond t4
  (R (.map none) w)
  (pCall Try.prog 45 [(.iface 53 x0)] X w fun t7 w =>
    pRun Try.prog (Instr.typeAssert t7 20 53 false) w fun t8 w =>
    R t8 w)
theorem maps_Clone_map_int_know_mark_int_know_mark.b_eq (x0 : Value) (R : KV) (X : KX) (w : World) : atP Try.prog Try.f28 maps_Clone_map_int_know_mark_int_know_mark.pl [] [] R X ([x0] ++ undefs 8) w = maps_Clone_map_int_know_mark_int_know_mark.b x0 R X w := by kernel_rfl
theorem maps_Clone_map_int_know_mark_int_know_mark.calls {x0 : Value} {R : KV} {X : KX} {w : World} (h : maps_Clone_map_int_know_mark_int_know_mark.b x0 R X w) : GCalls Try.prog 28 [x0] R X w :=
  gcalls_of (pl := maps_Clone_map_int_know_mark_int_know_mark.pl) Try.func28 rfl (by kernel_rfl) hmixed (maps_Clone_map_int_know_mark_int_know_mark.b_eq x0 R X w ▸ h)

/-! (*oubliette/know.Know).all -/
def know_Know_all.pl : Nat → DrawPlan
  | 1 => ⟨[([], [1]), ([0], [0, 2]), ([1], [1, 3]), ([2], [2, 4]), ([3], [3, 11]), ([], [6]), ([5], [5, 7]), ([6], [6, 8]), ([7], [7, 9]), ([8], [8, 10]), ([9], [9, 11]), ([4, 10], [4, 10])], .take 0 (.take 1 (.take 2 (.take 3 (.take 4 (.take 5 (.take 6 (.take 7 (.take 8 (.world 9 false (.take 10 (.take 11 (.done))) .none)))))))))⟩
  | _ => ⟨[], .done⟩
def know_Know_all.j1 (x0 : Value) (g : Nat → Value) (R : KV) (X : KX) (w : World) : Prop :=
  pNil x0 fun t25 =>
  pFA 4 t25 fun t26 =>
  pLd (· = w) t26 fun t27 =>
  R t27 w
def know_Know_all.b (x0 : Value) (R : KV) (X : KX) (w : World) : Prop :=
  drawn w fun S w =>
  pNil x0 fun t4 =>
  pFA 4 t4 fun t5 =>
  pLd S t5 fun t6 =>
  pLenSl t6 fun t7 =>
  pNil x0 fun t9 =>
  pFA 0 t9 fun t10 =>
  pLd S t10 fun t11 =>
  pCall Try.prog 46 [t11] X w fun t12 w =>
  S w ∧ (pBinI .add .i64 t12 (.int .i64 1) fun t13 =>
    pBinI .neq .i64 t7 t13 fun t14 =>
    scond t14
    (pNil x0 fun t18 =>
      pFA 1 t18 fun t19 =>
      pLd (· = w) t19 fun t20 =>
      pCall Try.prog 35 [x0, t20] X w fun t21 w =>
      pNil x0 fun t22 =>
      pFA 4 t22 fun t23 =>
      pSt t23 t21 w fun _ w =>
      know_Know_all.j1 x0 (fun i => nth [x0, undef, (.slice none 0 0), x0, t4, t5, t6, t7, x0, t9, t10, t11, t12, t13, t14, x0, x0, x0, t18, t19, t20, t21, t22, t23, undef, undef, undef, undef] i) R X w)
    (know_Know_all.j1 x0 (fun i => nth [x0, undef, (.slice none 0 0), x0, t4, t5, t6, t7, x0, t9, t10, t11, t12, t13, t14, undef, undef, undef, undef, undef, undef, undef, undef, undef, undef, undef, undef, undef] i) R X w))
theorem know_Know_all.b_eq (x0 : Value) (R : KV) (X : KX) (w : World) : atP Try.prog Try.f29 know_Know_all.pl [] [] R X ([x0] ++ undefs 27) w = know_Know_all.b x0 R X w := by kernel_rfl
theorem know_Know_all.calls {x0 : Value} {R : KV} {X : KX} {w : World} (h : know_Know_all.b x0 R X w) : GCalls Try.prog 29 [x0] R X w :=
  gcalls_of (pl := know_Know_all.pl) Try.func29 rfl (by kernel_rfl) hmixed (know_Know_all.b_eq x0 R X w ▸ h)

/-! (*oubliette/know.Know).closed -/
def know_Know_closed.pl : Nat → DrawPlan
  | _ => ⟨[], .done⟩
def know_Know_closed.j1 (x0 : Value) (x5 : Value) (x7 : Value) (x8 : Value) (x20 : Value) (x32 : Value) (x33 : Value) (g : Nat → Value) (N1 : List Value → World → Prop) (N2 : List Value → World → Prop) (R : KV) (X : KX) (w : World) : Prop :=
  pBinI .add .i64 x33 (.int .i64 1) fun t78 =>
  N2 [x0, (g 1), (g 2), (g 3), (g 4), x5, (g 6), x7, x8, (g 9), (g 10), (g 11), (g 12), (g 13), (g 14), (g 15), (g 16), (g 17), (g 18), (g 19), x20, (g 21), (g 22), (g 23), (g 24), (g 25), (g 26), (g 27), (g 28), (g 29), (g 30), (g 31), x32, t78, (g 34), (g 35), (g 36), (g 37), (g 38), (g 39), (g 40), (g 41), (g 42), (g 43), (g 44), (g 45), (g 46), (g 47), (g 48), (g 49), (g 50), (g 51), (g 52), (g 53), (g 54), (g 55), (g 56), (g 57), (g 58), (g 59), (g 60), (g 61), (g 62), (g 63), (g 64), (g 65), (g 66), (g 67), (g 68), (g 69), (g 70), (g 71), (g 72), (g 73), (g 74), (g 75), (g 76), (g 77), t78, (g 79), (g 80)] w
def know_Know_closed.b3 (x0 : Value) (x5 : Value) (x7 : Value) (x8 : Value) (x20 : Value) (x32 : Value) (x33 : Value) (g : Nat → Value) (N1 : List Value → World → Prop) (N2 : List Value → World → Prop) (R : KV) (X : KX) (w : World) : Prop :=
  pBinI .lss .i64 x33 x32 fun t34 =>
  scond t34
  (pIA 1 x7 x33 fun t38 =>
    pLd (· = w) t38 fun t39 =>
    pNot t39 fun t40 =>
    gIf t40 false (fun K => K x0) fun t42 =>
    gIf t40 false (fun K => pNil t42 K) fun t43 =>
    gIf t40 false (fun K => pFA 2 t43 K) fun t44 =>
    gIf t40 false (fun K => pLd (· = w) t44 K) fun t45 =>
    gIf t40 false (fun K => K x33) fun t46 =>
    gIf t40 false (fun K => pIA 1 t45 t46 K) fun t47 =>
    gIf t40 false (fun K => pLd (· = w) t47 K) fun t48 =>
    gIf t40 false (fun K => pBinI .neq .i64 t48 (.int .i64 5) K) fun t49 =>
    pPick t40 (.bool true) t49 fun t50 =>
    scond t50
    (know_Know_closed.j1 x0 x5 x7 x8 x20 x32 x33 (fun i => nth [x0, (g 1), (g 2), (g 3), (g 4), x5, (g 6), x7, x8, x33, (g 10), (g 11), (g 12), (g 13), (g 14), (g 15), (g 16), (g 17), (g 18), (g 19), x20, (g 21), (g 22), (g 23), (g 24), (g 25), (g 26), (g 27), (g 28), (g 29), (g 30), (g 31), x32, x33, t34, x33, x7, x33, t38, t39, t40, t40, t42, t43, t44, t45, t46, t47, t48, t49, t50, (g 51), (g 52), (g 53), (g 54), (g 55), (g 56), (g 57), (g 58), (g 59), (g 60), (g 61), (g 62), (g 63), (g 64), (g 65), (g 66), (g 67), (g 68), (g 69), (g 70), (g 71), (g 72), (g 73), (g 74), (g 75), (g 76), (g 77), (g 78), (g 79), (g 80)] i) N1 N2 R X w)
    (pNil x0 fun t52 =>
      pFA 3 t52 fun t53 =>
      pLd (· = w) t53 fun t54 =>
      pIA 1 t54 x33 fun t56 =>
      pLd (· = w) t56 fun t57 =>
      pIA 1 t57 (.int .i64 0) fun t60 =>
      pLd (· = w) t60 fun t61 =>
      pIA 1 x7 t61 fun t62 =>
      pLd (· = w) t62 fun t63 =>
      gIf t63 true (fun K => K x7) fun t65 =>
      gIf t63 true (fun K => K t57) fun t66 =>
      gIf t63 true (fun K => pIA 1 t66 (.int .i64 1) K) fun t67 =>
      gIf t63 true (fun K => pLd (· = w) t67 K) fun t68 =>
      gIf t63 true (fun K => pIA 1 t65 t68 K) fun t69 =>
      gIf t63 true (fun K => pLd (· = w) t69 K) fun t70 =>
      gIf t63 true (fun K => pNot t70 K) fun t71 =>
      pPick t63 t71 (.bool false) fun t72 =>
      scond t72
      (pIA 1 t57 (.int .i64 1) fun t75 =>
        pLd (· = w) t75 fun t76 =>
        pIA 1 x5 t76 fun t77 =>
        pSt t77 (.bool true) w fun _ w =>
        know_Know_closed.j1 x0 x5 x7 (.bool true) x20 x32 x33 (fun i => nth [x0, (g 1), (g 2), (g 3), (g 4), x5, (g 6), x7, (.bool true), x33, t57, (g 11), (g 12), (g 13), (g 14), (g 15), (g 16), (g 17), (g 18), (g 19), x20, (g 21), (g 22), (g 23), (g 24), (g 25), (g 26), (g 27), (g 28), (g 29), (g 30), (g 31), x32, x33, t34, x33, x7, x33, t38, t39, t40, t40, t42, t43, t44, t45, t46, t47, t48, t49, t50, x0, t52, t53, t54, x33, t56, t57, x7, t57, t60, t61, t62, t63, t63, t65, t66, t67, t68, t69, t70, t71, t72, x5, t57, t75, t76, t77, (g 78), (g 79), (g 80)] i) N1 N2 R X w)
      (know_Know_closed.j1 x0 x5 x7 x8 x20 x32 x33 (fun i => nth [x0, (g 1), (g 2), (g 3), (g 4), x5, (g 6), x7, x8, x33, t57, (g 11), (g 12), (g 13), (g 14), (g 15), (g 16), (g 17), (g 18), (g 19), x20, (g 21), (g 22), (g 23), (g 24), (g 25), (g 26), (g 27), (g 28), (g 29), (g 30), (g 31), x32, x33, t34, x33, x7, x33, t38, t39, t40, t40, t42, t43, t44, t45, t46, t47, t48, t49, t50, x0, t52, t53, t54, x33, t56, t57, x7, t57, t60, t61, t62, t63, t63, t65, t66, t67, t68, t69, t70, t71, t72, (g 73), (g 74), (g 75), (g 76), (g 77), (g 78), (g 79), (g 80)] i) N1 N2 R X w)))
  (scond x8
    (N1 [x0, (g 1), (g 2), (g 3), (g 4), x5, (g 6), x7, x8, (g 9), (g 10), (g 11), (g 12), (g 13), (g 14), (g 15), (g 16), (g 17), (g 18), (g 19), x20, (g 21), (g 22), (g 23), (g 24), (g 25), (g 26), (g 27), (g 28), (g 29), (g 30), (g 31), x32, x33, t34, (g 35), (g 36), (g 37), (g 38), (g 39), (g 40), (g 41), (g 42), (g 43), (g 44), (g 45), (g 46), (g 47), (g 48), (g 49), (g 50), (g 51), (g 52), (g 53), (g 54), (g 55), (g 56), (g 57), (g 58), (g 59), (g 60), (g 61), (g 62), (g 63), (g 64), (g 65), (g 66), (g 67), (g 68), (g 69), (g 70), (g 71), (g 72), (g 73), (g 74), (g 75), (g 76), (g 77), (g 78), x8, (g 80)] w)
    (R x7 w))
def know_Know_closed.I3 (e : List Value) (N1 : List Value → World → Prop) (R : KV) (X : KX) (w : World) : Prop := atP Try.prog Try.f35 know_Know_closed.pl [1, 0, 1, 1, 1, 1, 0, 0, 0, 1, 0, 1, 0] [N1] R X e w
theorem know_Know_closed.I3_eq (e : List Value) (N1 : List Value → World → Prop) (R : KV) (X : KX) (w : World) : know_Know_closed.I3 e N1 R X w = loopS (fun N e w => atP Try.prog Try.f35 know_Know_closed.pl [1, 0, 1, 1, 1, 1, 0, 0, 0, 1, 0, 1, 0, 0] [N1, N] R X e w) e w := by kernel_rfl
def know_Know_closed.fr3 (x0 : Value) (x5 : Value) (x7 : Value) (x8 : Value) (x20 : Value) (x32 : Value) (x33 : Value) (g : Nat → Value) : List Value := [x0, g 1, g 2, g 3, g 4, x5, g 6, x7, x8, g 9, g 10, g 11, g 12, g 13, g 14, g 15, g 16, g 17, g 18, g 19, x20, g 21, g 22, g 23, g 24, g 25, g 26, g 27, g 28, g 29, g 30, g 31, x32, x33, g 34, g 35, g 36, g 37, g 38, g 39, g 40, g 41, g 42, g 43, g 44, g 45, g 46, g 47, g 48, g 49, g 50, g 51, g 52, g 53, g 54, g 55, g 56, g 57, g 58, g 59, g 60, g 61, g 62, g 63, g 64, g 65, g 66, g 67, g 68, g 69, g 70, g 71, g 72, g 73, g 74, g 75, g 76, g 77, g 78, g 79, g 80]
theorem know_Know_closed.b3_eq (x0 : Value) (x5 : Value) (x7 : Value) (x8 : Value) (x20 : Value) (x32 : Value) (x33 : Value) (g : Nat → Value) (N1 : List Value → World → Prop) (N2 : List Value → World → Prop) (R : KV) (X : KX) (w : World) : atP Try.prog Try.f35 know_Know_closed.pl [1, 0, 1, 1, 1, 1, 0, 0, 0, 1, 0, 1, 0, 0] [N1, N2] R X (know_Know_closed.fr3 x0 x5 x7 x8 x20 x32 x33 g) w = know_Know_closed.b3 x0 x5 x7 x8 x20 x32 x33 g N1 N2 R X w := by kernel_rfl
/-- What a round of this loop hands on. -/
def know_Know_closed.N3 (J : Value → Value → World → Prop) (m : Value → Value → World → Nat) (x0 : Value) (x5 : Value) (x7 : Value) (x20 : Value) (x32 : Value) (x8 : Value) (x33 : Value) (w : World) : List Value → World → Prop := fun e w' => (∃ y8 y33 g, e = know_Know_closed.fr3 x0 x5 x7 y8 x20 x32 y33 g ∧ J y8 y33 w') ∧ m (nth e 8) (nth e 33) w' < m x8 x33 w
theorem know_Know_closed.leaf3 {J : Value → Value → World → Prop} {m : Value → Value → World → Nat} {x0 : Value} {x5 : Value} {x7 : Value} {x8 : Value} {x20 : Value} {x32 : Value} {x33 : Value} {w w' : World} {e1 e2 e3 e4 e6 e8 e9 e10 e11 e12 e13 e14 e15 e16 e17 e18 e19 e21 e22 e23 e24 e25 e26 e27 e28 e29 e30 e31 e33 e34 e35 e36 e37 e38 e39 e40 e41 e42 e43 e44 e45 e46 e47 e48 e49 e50 e51 e52 e53 e54 e55 e56 e57 e58 e59 e60 e61 e62 e63 e64 e65 e66 e67 e68 e69 e70 e71 e72 e73 e74 e75 e76 e77 e78 e79 e80 : Value} (h : J e8 e33 w') (hm : m e8 e33 w' < m x8 x33 w) : know_Know_closed.N3 J m x0 x5 x7 x20 x32 x8 x33 w [x0, e1, e2, e3, e4, x5, e6, x7, e8, e9, e10, e11, e12, e13, e14, e15, e16, e17, e18, e19, x20, e21, e22, e23, e24, e25, e26, e27, e28, e29, e30, e31, x32, e33, e34, e35, e36, e37, e38, e39, e40, e41, e42, e43, e44, e45, e46, e47, e48, e49, e50, e51, e52, e53, e54, e55, e56, e57, e58, e59, e60, e61, e62, e63, e64, e65, e66, e67, e68, e69, e70, e71, e72, e73, e74, e75, e76, e77, e78, e79, e80] w' :=
  ⟨⟨e8, e33, (fun i => nth [x0, e1, e2, e3, e4, x5, e6, x7, e8, e9, e10, e11, e12, e13, e14, e15, e16, e17, e18, e19, x20, e21, e22, e23, e24, e25, e26, e27, e28, e29, e30, e31, x32, e33, e34, e35, e36, e37, e38, e39, e40, e41, e42, e43, e44, e45, e46, e47, e48, e49, e50, e51, e52, e53, e54, e55, e56, e57, e58, e59, e60, e61, e62, e63, e64, e65, e66, e67, e68, e69, e70, e71, e72, e73, e74, e75, e76, e77, e78, e79, e80] i), rfl, h⟩, hm⟩
theorem know_Know_closed.loop3 (J : Value → Value → World → Prop) (m : Value → Value → World → Nat) {N1 : List Value → World → Prop} {R : KV} {X : KX} {w : World} {x0 : Value} {x5 : Value} {x7 : Value} {x20 : Value} {x32 : Value} {e1 e2 e3 e4 e6 e8 e9 e10 e11 e12 e13 e14 e15 e16 e17 e18 e19 e21 e22 e23 e24 e25 e26 e27 e28 e29 e30 e31 e33 e34 e35 e36 e37 e38 e39 e40 e41 e42 e43 e44 e45 e46 e47 e48 e49 e50 e51 e52 e53 e54 e55 e56 e57 e58 e59 e60 e61 e62 e63 e64 e65 e66 e67 e68 e69 e70 e71 e72 e73 e74 e75 e76 e77 e78 e79 e80 : Value} (h0 : J e8 e33 w)
    (hr : ∀ x8 x33 g w, J x8 x33 w → know_Know_closed.b3 x0 x5 x7 x8 x20 x32 x33 g N1 (know_Know_closed.N3 J m x0 x5 x7 x20 x32 x8 x33 w) R X w) : know_Know_closed.I3 [x0, e1, e2, e3, e4, x5, e6, x7, e8, e9, e10, e11, e12, e13, e14, e15, e16, e17, e18, e19, x20, e21, e22, e23, e24, e25, e26, e27, e28, e29, e30, e31, x32, e33, e34, e35, e36, e37, e38, e39, e40, e41, e42, e43, e44, e45, e46, e47, e48, e49, e50, e51, e52, e53, e54, e55, e56, e57, e58, e59, e60, e61, e62, e63, e64, e65, e66, e67, e68, e69, e70, e71, e72, e73, e74, e75, e76, e77, e78, e79, e80] N1 R X w := by
  rw [know_Know_closed.I3_eq]
  refine ⟨fun e w => ∃ y8 y33 g, e = know_Know_closed.fr3 x0 x5 x7 y8 x20 x32 y33 g ∧ J y8 y33 w, fun e w => m (nth e 8) (nth e 33) w, ⟨e8, e33, (fun i => nth [x0, e1, e2, e3, e4, x5, e6, x7, e8, e9, e10, e11, e12, e13, e14, e15, e16, e17, e18, e19, x20, e21, e22, e23, e24, e25, e26, e27, e28, e29, e30, e31, x32, e33, e34, e35, e36, e37, e38, e39, e40, e41, e42, e43, e44, e45, e46, e47, e48, e49, e50, e51, e52, e53, e54, e55, e56, e57, e58, e59, e60, e61, e62, e63, e64, e65, e66, e67, e68, e69, e70, e71, e72, e73, e74, e75, e76, e77, e78, e79, e80] i), rfl, h0⟩, ?_⟩
  rintro _ w ⟨y8, y33, g, rfl, hJ⟩
  rw [know_Know_closed.b3_eq]
  exact hr y8 y33 g w hJ
def know_Know_closed.b2 (x0 : Value) (x5 : Value) (x20 : Value) (g : Nat → Value) (N1 : List Value → World → Prop) (R : KV) (X : KX) (w : World) : Prop :=
  pCall Try.prog 52 [x0, x5] X w fun t30 w =>
  pLenSl t30 fun t32 =>
  know_Know_closed.I3 [x0, (g 1), (g 2), (g 3), (g 4), x5, (g 6), t30, (.bool false), (g 9), (g 10), (g 11), (g 12), (g 13), (g 14), (g 15), (g 16), (g 17), (g 18), (g 19), x20, (g 21), (g 22), (g 23), (g 24), (g 25), (g 26), (g 27), x0, x5, t30, t30, t32, (.int .i64 0), (g 34), (g 35), (g 36), (g 37), (g 38), (g 39), (g 40), (g 41), (g 42), (g 43), (g 44), (g 45), (g 46), (g 47), (g 48), (g 49), (g 50), (g 51), (g 52), (g 53), (g 54), (g 55), (g 56), (g 57), (g 58), (g 59), (g 60), (g 61), (g 62), (g 63), (g 64), (g 65), (g 66), (g 67), (g 68), (g 69), (g 70), (g 71), (g 72), (g 73), (g 74), (g 75), (g 76), (g 77), (g 78), (g 79), (g 80)] N1 R X w
def know_Know_closed.I2 (e : List Value) (R : KV) (X : KX) (w : World) : Prop := atP Try.prog Try.f35 know_Know_closed.pl [1, 0, 1, 1, 1, 1, 0] [] R X e w
theorem know_Know_closed.I2_eq (e : List Value) (R : KV) (X : KX) (w : World) : know_Know_closed.I2 e R X w = loopS (fun N e w => atP Try.prog Try.f35 know_Know_closed.pl [1, 0, 1, 1, 1, 1, 0, 0] [N] R X e w) e w := by kernel_rfl
def know_Know_closed.fr2 (x0 : Value) (x5 : Value) (x20 : Value) (g : Nat → Value) : List Value := [x0, g 1, g 2, g 3, g 4, x5, g 6, g 7, g 8, g 9, g 10, g 11, g 12, g 13, g 14, g 15, g 16, g 17, g 18, g 19, x20, g 21, g 22, g 23, g 24, g 25, g 26, g 27, g 28, g 29, g 30, g 31, g 32, g 33, g 34, g 35, g 36, g 37, g 38, g 39, g 40, g 41, g 42, g 43, g 44, g 45, g 46, g 47, g 48, g 49, g 50, g 51, g 52, g 53, g 54, g 55, g 56, g 57, g 58, g 59, g 60, g 61, g 62, g 63, g 64, g 65, g 66, g 67, g 68, g 69, g 70, g 71, g 72, g 73, g 74, g 75, g 76, g 77, g 78, g 79, g 80]
theorem know_Know_closed.b2_eq (x0 : Value) (x5 : Value) (x20 : Value) (g : Nat → Value) (N1 : List Value → World → Prop) (R : KV) (X : KX) (w : World) : atP Try.prog Try.f35 know_Know_closed.pl [1, 0, 1, 1, 1, 1, 0, 0] [N1] R X (know_Know_closed.fr2 x0 x5 x20 g) w = know_Know_closed.b2 x0 x5 x20 g N1 R X w := by kernel_rfl
/-- What a round of this loop hands on. -/
def know_Know_closed.N2 (J : World → Prop) (m : World → Nat) (x0 : Value) (x5 : Value) (x20 : Value) (w : World) : List Value → World → Prop := fun e w' => (∃ g, e = know_Know_closed.fr2 x0 x5 x20 g ∧ J w') ∧ m w' < m w
theorem know_Know_closed.leaf2 {J : World → Prop} {m : World → Nat} {x0 : Value} {x5 : Value} {x20 : Value} {w w' : World} {e1 e2 e3 e4 e6 e7 e8 e9 e10 e11 e12 e13 e14 e15 e16 e17 e18 e19 e21 e22 e23 e24 e25 e26 e27 e28 e29 e30 e31 e32 e33 e34 e35 e36 e37 e38 e39 e40 e41 e42 e43 e44 e45 e46 e47 e48 e49 e50 e51 e52 e53 e54 e55 e56 e57 e58 e59 e60 e61 e62 e63 e64 e65 e66 e67 e68 e69 e70 e71 e72 e73 e74 e75 e76 e77 e78 e79 e80 : Value} (h : J w') (hm : m w' < m w) : know_Know_closed.N2 J m x0 x5 x20 w [x0, e1, e2, e3, e4, x5, e6, e7, e8, e9, e10, e11, e12, e13, e14, e15, e16, e17, e18, e19, x20, e21, e22, e23, e24, e25, e26, e27, e28, e29, e30, e31, e32, e33, e34, e35, e36, e37, e38, e39, e40, e41, e42, e43, e44, e45, e46, e47, e48, e49, e50, e51, e52, e53, e54, e55, e56, e57, e58, e59, e60, e61, e62, e63, e64, e65, e66, e67, e68, e69, e70, e71, e72, e73, e74, e75, e76, e77, e78, e79, e80] w' :=
  ⟨⟨(fun i => nth [x0, e1, e2, e3, e4, x5, e6, e7, e8, e9, e10, e11, e12, e13, e14, e15, e16, e17, e18, e19, x20, e21, e22, e23, e24, e25, e26, e27, e28, e29, e30, e31, e32, e33, e34, e35, e36, e37, e38, e39, e40, e41, e42, e43, e44, e45, e46, e47, e48, e49, e50, e51, e52, e53, e54, e55, e56, e57, e58, e59, e60, e61, e62, e63, e64, e65, e66, e67, e68, e69, e70, e71, e72, e73, e74, e75, e76, e77, e78, e79, e80] i), rfl, h⟩, hm⟩
theorem know_Know_closed.loop2 (J : World → Prop) (m : World → Nat) {R : KV} {X : KX} {w : World} {x0 : Value} {x5 : Value} {x20 : Value} {e1 e2 e3 e4 e6 e7 e8 e9 e10 e11 e12 e13 e14 e15 e16 e17 e18 e19 e21 e22 e23 e24 e25 e26 e27 e28 e29 e30 e31 e32 e33 e34 e35 e36 e37 e38 e39 e40 e41 e42 e43 e44 e45 e46 e47 e48 e49 e50 e51 e52 e53 e54 e55 e56 e57 e58 e59 e60 e61 e62 e63 e64 e65 e66 e67 e68 e69 e70 e71 e72 e73 e74 e75 e76 e77 e78 e79 e80 : Value} (h0 : J w)
    (hr : ∀ g w, J w → know_Know_closed.b2 x0 x5 x20 g (know_Know_closed.N2 J m x0 x5 x20 w) R X w) : know_Know_closed.I2 [x0, e1, e2, e3, e4, x5, e6, e7, e8, e9, e10, e11, e12, e13, e14, e15, e16, e17, e18, e19, x20, e21, e22, e23, e24, e25, e26, e27, e28, e29, e30, e31, e32, e33, e34, e35, e36, e37, e38, e39, e40, e41, e42, e43, e44, e45, e46, e47, e48, e49, e50, e51, e52, e53, e54, e55, e56, e57, e58, e59, e60, e61, e62, e63, e64, e65, e66, e67, e68, e69, e70, e71, e72, e73, e74, e75, e76, e77, e78, e79, e80] R X w := by
  rw [know_Know_closed.I2_eq]
  refine ⟨fun e w => ∃ g, e = know_Know_closed.fr2 x0 x5 x20 g ∧ J w, fun e w => m w, ⟨(fun i => nth [x0, e1, e2, e3, e4, x5, e6, e7, e8, e9, e10, e11, e12, e13, e14, e15, e16, e17, e18, e19, x20, e21, e22, e23, e24, e25, e26, e27, e28, e29, e30, e31, e32, e33, e34, e35, e36, e37, e38, e39, e40, e41, e42, e43, e44, e45, e46, e47, e48, e49, e50, e51, e52, e53, e54, e55, e56, e57, e58, e59, e60, e61, e62, e63, e64, e65, e66, e67, e68, e69, e70, e71, e72, e73, e74, e75, e76, e77, e78, e79, e80] i), rfl, h0⟩, ?_⟩
  rintro _ w ⟨g, rfl, hJ⟩
  rw [know_Know_closed.b2_eq]
  exact hr g w hJ
def know_Know_closed.b1 (x0 : Value) (x5 : Value) (x20 : Value) (g : Nat → Value) (N1 : List Value → World → Prop) (R : KV) (X : KX) (w : World) : Prop :=
  pRun Try.prog (Instr.next x20 false 0) w fun t21 w =>
  pExt t21 0 fun t22 =>
  scond t22
  (pRun Try.prog (Instr.entry x20) w fun t23 w =>
    pExt t23 0 fun t24 =>
    pIA 1 x5 t24 fun t27 =>
    pSt t27 (.bool true) w fun _ w =>
    N1 [x0, (g 1), (g 2), (g 3), (g 4), x5, t24, (g 7), (g 8), (g 9), (g 10), (g 11), (g 12), (g 13), (g 14), (g 15), (g 16), (g 17), (g 18), (g 19), x20, t21, t22, t23, t24, x5, t24, t27, (g 28), (g 29), (g 30), (g 31), (g 32), (g 33), (g 34), (g 35), (g 36), (g 37), (g 38), (g 39), (g 40), (g 41), (g 42), (g 43), (g 44), (g 45), (g 46), (g 47), (g 48), (g 49), (g 50), (g 51), (g 52), (g 53), (g 54), (g 55), (g 56), (g 57), (g 58), (g 59), (g 60), (g 61), (g 62), (g 63), (g 64), (g 65), (g 66), (g 67), (g 68), (g 69), (g 70), (g 71), (g 72), (g 73), (g 74), (g 75), (g 76), (g 77), (g 78), (g 79), (g 80)] w)
  (know_Know_closed.I2 [x0, (g 1), (g 2), (g 3), (g 4), x5, (g 6), (g 7), (g 8), (g 9), (g 10), (g 11), (g 12), (g 13), (g 14), (g 15), (g 16), (g 17), (g 18), (g 19), x20, t21, t22, (g 23), (g 24), (g 25), (g 26), (g 27), (g 28), (g 29), (g 30), (g 31), (g 32), (g 33), (g 34), (g 35), (g 36), (g 37), (g 38), (g 39), (g 40), (g 41), (g 42), (g 43), (g 44), (g 45), (g 46), (g 47), (g 48), (g 49), (g 50), (g 51), (g 52), (g 53), (g 54), (g 55), (g 56), (g 57), (g 58), (g 59), (g 60), (g 61), (g 62), (g 63), (g 64), (g 65), (g 66), (g 67), (g 68), (g 69), (g 70), (g 71), (g 72), (g 73), (g 74), (g 75), (g 76), (g 77), (g 78), (g 79), (g 80)] R X w)
def know_Know_closed.I1 (e : List Value) (R : KV) (X : KX) (w : World) : Prop := atP Try.prog Try.f35 know_Know_closed.pl [1, 0, 1, 1, 0, 1, 0] [] R X e w
theorem know_Know_closed.I1_eq (e : List Value) (R : KV) (X : KX) (w : World) : know_Know_closed.I1 e R X w = loopS (fun N e w => atP Try.prog Try.f35 know_Know_closed.pl [1, 0, 1, 1, 0, 1, 0, 0] [N] R X e w) e w := by kernel_rfl
def know_Know_closed.fr1 (x0 : Value) (x5 : Value) (x20 : Value) (g : Nat → Value) : List Value := [x0, g 1, g 2, g 3, g 4, x5, g 6, g 7, g 8, g 9, g 10, g 11, g 12, g 13, g 14, g 15, g 16, g 17, g 18, g 19, x20, g 21, g 22, g 23, g 24, g 25, g 26, g 27, g 28, g 29, g 30, g 31, g 32, g 33, g 34, g 35, g 36, g 37, g 38, g 39, g 40, g 41, g 42, g 43, g 44, g 45, g 46, g 47, g 48, g 49, g 50, g 51, g 52, g 53, g 54, g 55, g 56, g 57, g 58, g 59, g 60, g 61, g 62, g 63, g 64, g 65, g 66, g 67, g 68, g 69, g 70, g 71, g 72, g 73, g 74, g 75, g 76, g 77, g 78, g 79, g 80]
theorem know_Know_closed.b1_eq (x0 : Value) (x5 : Value) (x20 : Value) (g : Nat → Value) (N1 : List Value → World → Prop) (R : KV) (X : KX) (w : World) : atP Try.prog Try.f35 know_Know_closed.pl [1, 0, 1, 1, 0, 1, 0, 0] [N1] R X (know_Know_closed.fr1 x0 x5 x20 g) w = know_Know_closed.b1 x0 x5 x20 g N1 R X w := by kernel_rfl
/-- What a round of this loop hands on. -/
def know_Know_closed.N1 (J : World → Prop) (m : World → Nat) (x0 : Value) (x5 : Value) (x20 : Value) (w : World) : List Value → World → Prop := fun e w' => (∃ g, e = know_Know_closed.fr1 x0 x5 x20 g ∧ J w') ∧ m w' < m w
theorem know_Know_closed.leaf1 {J : World → Prop} {m : World → Nat} {x0 : Value} {x5 : Value} {x20 : Value} {w w' : World} {e1 e2 e3 e4 e6 e7 e8 e9 e10 e11 e12 e13 e14 e15 e16 e17 e18 e19 e21 e22 e23 e24 e25 e26 e27 e28 e29 e30 e31 e32 e33 e34 e35 e36 e37 e38 e39 e40 e41 e42 e43 e44 e45 e46 e47 e48 e49 e50 e51 e52 e53 e54 e55 e56 e57 e58 e59 e60 e61 e62 e63 e64 e65 e66 e67 e68 e69 e70 e71 e72 e73 e74 e75 e76 e77 e78 e79 e80 : Value} (h : J w') (hm : m w' < m w) : know_Know_closed.N1 J m x0 x5 x20 w [x0, e1, e2, e3, e4, x5, e6, e7, e8, e9, e10, e11, e12, e13, e14, e15, e16, e17, e18, e19, x20, e21, e22, e23, e24, e25, e26, e27, e28, e29, e30, e31, e32, e33, e34, e35, e36, e37, e38, e39, e40, e41, e42, e43, e44, e45, e46, e47, e48, e49, e50, e51, e52, e53, e54, e55, e56, e57, e58, e59, e60, e61, e62, e63, e64, e65, e66, e67, e68, e69, e70, e71, e72, e73, e74, e75, e76, e77, e78, e79, e80] w' :=
  ⟨⟨(fun i => nth [x0, e1, e2, e3, e4, x5, e6, e7, e8, e9, e10, e11, e12, e13, e14, e15, e16, e17, e18, e19, x20, e21, e22, e23, e24, e25, e26, e27, e28, e29, e30, e31, e32, e33, e34, e35, e36, e37, e38, e39, e40, e41, e42, e43, e44, e45, e46, e47, e48, e49, e50, e51, e52, e53, e54, e55, e56, e57, e58, e59, e60, e61, e62, e63, e64, e65, e66, e67, e68, e69, e70, e71, e72, e73, e74, e75, e76, e77, e78, e79, e80] i), rfl, h⟩, hm⟩
theorem know_Know_closed.loop1 (J : World → Prop) (m : World → Nat) {R : KV} {X : KX} {w : World} {x0 : Value} {x5 : Value} {x20 : Value} {e1 e2 e3 e4 e6 e7 e8 e9 e10 e11 e12 e13 e14 e15 e16 e17 e18 e19 e21 e22 e23 e24 e25 e26 e27 e28 e29 e30 e31 e32 e33 e34 e35 e36 e37 e38 e39 e40 e41 e42 e43 e44 e45 e46 e47 e48 e49 e50 e51 e52 e53 e54 e55 e56 e57 e58 e59 e60 e61 e62 e63 e64 e65 e66 e67 e68 e69 e70 e71 e72 e73 e74 e75 e76 e77 e78 e79 e80 : Value} (h0 : J w)
    (hr : ∀ g w, J w → know_Know_closed.b1 x0 x5 x20 g (know_Know_closed.N1 J m x0 x5 x20 w) R X w) : know_Know_closed.I1 [x0, e1, e2, e3, e4, x5, e6, e7, e8, e9, e10, e11, e12, e13, e14, e15, e16, e17, e18, e19, x20, e21, e22, e23, e24, e25, e26, e27, e28, e29, e30, e31, e32, e33, e34, e35, e36, e37, e38, e39, e40, e41, e42, e43, e44, e45, e46, e47, e48, e49, e50, e51, e52, e53, e54, e55, e56, e57, e58, e59, e60, e61, e62, e63, e64, e65, e66, e67, e68, e69, e70, e71, e72, e73, e74, e75, e76, e77, e78, e79, e80] R X w := by
  rw [know_Know_closed.I1_eq]
  refine ⟨fun e w => ∃ g, e = know_Know_closed.fr1 x0 x5 x20 g ∧ J w, fun e w => m w, ⟨(fun i => nth [x0, e1, e2, e3, e4, x5, e6, e7, e8, e9, e10, e11, e12, e13, e14, e15, e16, e17, e18, e19, x20, e21, e22, e23, e24, e25, e26, e27, e28, e29, e30, e31, e32, e33, e34, e35, e36, e37, e38, e39, e40, e41, e42, e43, e44, e45, e46, e47, e48, e49, e50, e51, e52, e53, e54, e55, e56, e57, e58, e59, e60, e61, e62, e63, e64, e65, e66, e67, e68, e69, e70, e71, e72, e73, e74, e75, e76, e77, e78, e79, e80] i), rfl, h0⟩, ?_⟩
  rintro _ w ⟨g, rfl, hJ⟩
  rw [know_Know_closed.b1_eq]
  exact hr g w hJ
def know_Know_closed.b (x0 : Value) (x1 : Value) (R : KV) (X : KX) (w : World) : Prop :=
  pCall Try.prog 51 [x0] X w fun t12 w =>
  pNil x0 fun t14 =>
  pFA 2 t14 fun t15 =>
  pLd (· = w) t15 fun t16 =>
  pLenSl t16 fun t17 =>
  pMake 4 1 [.bool false] t17 t17 w fun t18 w =>
  pRun Try.prog (Instr.range 53 x1) w fun t20 w =>
  know_Know_closed.I1 [x0, x1, undef, undef, (.slice none 0 0), t18, undef, undef, undef, undef, undef, x0, t12, x0, t14, t15, t16, t17, t18, x1, t20, undef, undef, undef, undef, undef, undef, undef, undef, undef, undef, undef, undef, undef, undef, undef, undef, undef, undef, undef, undef, undef, undef, undef, undef, undef, undef, undef, undef, undef, undef, undef, undef, undef, undef, undef, undef, undef, undef, undef, undef, undef, undef, undef, undef, undef, undef, undef, undef, undef, undef, undef, undef, undef, undef, undef, undef, undef, undef, undef, undef] R X w
theorem know_Know_closed.b_eq (x0 : Value) (x1 : Value) (R : KV) (X : KX) (w : World) : atP Try.prog Try.f35 know_Know_closed.pl [] [] R X ([x0, x1] ++ undefs 79) w = know_Know_closed.b x0 x1 R X w := by kernel_rfl
theorem know_Know_closed.calls {x0 x1 : Value} {R : KV} {X : KX} {w : World} (h : know_Know_closed.b x0 x1 R X w) : GCalls Try.prog 35 [x0, x1] R X w :=
  gcalls_of (pl := know_Know_closed.pl) Try.func35 rfl (by kernel_rfl) hmixed (know_Know_closed.b_eq x0 x1 R X w ▸ h)

/-! (*oubliette/know.Know).grow -/
def know_Know_grow.pl : Nat → DrawPlan
  | 3 => ⟨[([], [26]), ([], [29]), ([], [3]), ([2], [2, 4]), ([3], [3, 5]), ([4], [4, 13]), ([], [7]), ([6], [6, 8]), ([7], [7, 9]), ([8], [8, 11]), ([], [11]), ([9, 10], [9, 10, 12]), ([11], [11, 13]), ([5, 12, 11], [5, 12, 28]), ([], [15]), ([14], [14, 16]), ([15], [15, 17]), ([16], [16, 25]), ([], [19]), ([18], [18, 20]), ([19], [19, 21]), ([20], [20, 23]), ([], [23]), ([21, 22, 13], [21, 22, 24]), ([23], [23, 25]), ([17, 24, 23], [17, 24, 31]), ([0, 0, 2, 3, 4, 5, 6, 7, 8, 9, 10, 11, 12, 13, 17, 21, 23, 25], [0, 27]), ([26, 0, 2, 3, 4, 5, 6, 7, 8, 9, 10, 11, 12, 13, 17, 21, 23, 25], [26, 28]), ([27, 13, 25, 0, 2, 3, 4, 5, 6, 7, 8, 9, 10, 11, 12, 13, 17, 21, 23, 25], [13, 27]), ([1, 0, 1, 2, 3, 4, 5, 6, 7, 8, 9, 10, 11, 12, 13, 14, 15, 16, 17, 18, 19, 20, 21, 22, 23, 24, 25, 26, 27, 28], [1, 30]), ([29, 0, 1, 2, 3, 4, 5, 6, 7, 8, 9, 10, 11, 12, 13, 14, 15, 16, 17, 18, 19, 20, 21, 22, 23, 24, 25, 26, 27, 28], [29, 31]), ([30, 25, 28, 0, 1, 2, 3, 4, 5, 6, 7, 8, 9, 10, 11, 12, 13, 14, 15, 16, 17, 18, 19, 20, 21, 22, 23, 24, 25, 26, 27, 28], [25, 30])], .take 0 (.take 1 (.take 2 (.take 3 (.take 4 (.take 5 (.take 6 (.take 7 (.take 8 (.take 9 (.take 10 (.take 14 (.take 15 (.take 16 (.take 17 (.take 18 (.take 19 (.take 20 (.take 21 (.take 22 (.world 11 false (.world 12 false (.world 13 false (.world 23 false (.world 24 false (.world 25 false (.take 26 (.take 27 (.world 28 true (.take 29 (.take 30 (.world 31 true (.done) .none))) .none))) .none) .none) .none) .none) .none) .none))))))))))))))))))))⟩
  | _ => ⟨[], .done⟩
def know_Know_grow.b1 (x0 : Value) (x2 : Value) (g : Nat → Value) (N1 : List Value → World → Prop) (R : KV) (X : KX) (w : World) : Prop :=
  pNil x0 fun t10 =>
  pFA 0 t10 fun t11 =>
  pLd (· = w) t11 fun t12 =>
  pCall Try.prog 46 [t12] X w fun t13 w =>
  pBinI .leq .i64 x2 t13 fun t14 =>
  scond t14
  (drawn w fun S w =>
    pNil x0 fun t20 =>
    pFA 2 t20 fun t21 =>
    pLd S t21 fun t22 =>
    pNil x0 fun t24 =>
    pFA 0 t24 fun t25 =>
    pLd S t25 fun t26 =>
    pNil x0 fun t32 =>
    pFA 3 t32 fun t33 =>
    pLd S t33 fun t34 =>
    pNil x0 fun t36 =>
    pFA 0 t36 fun t37 =>
    pLd S t37 fun t38 =>
    pCall Try.prog 26 [t26, x2] X w fun t28 w =>
    S w ∧ (pBSlice 3 1 (rowOf [.int .i64 0] 1) [(0, 1, t28)] w fun t29 w =>
      S w ∧ (pApp 3 1 8 [.int .i64 0] t22 t29 w fun t30 w =>
        S w ∧ (pCall Try.prog 30 [t38, x2] X w fun t40 w =>
          S w ∧ (pBSlice 23 1 (rowOf [.slice none 0 0] 1) [(0, 1, t40)] w fun t41 w =>
            S w ∧ (pApp 23 1 24 [.slice none 0 0] t34 t41 w fun t42 w =>
              S w ∧ (pNil x0 fun t43 =>
                pFA 2 t43 fun t44 =>
                pSt t44 t30 w fun _ w =>
                anew w fun S w =>
                pNil x0 fun t45 =>
                pFA 3 t45 fun t46 =>
                pSt t46 t42 w fun _ w =>
                anew w fun S w =>
                pBinI .add .i64 x2 (.int .i64 1) fun t16 =>
                N1 [x0, (g 1), t16, (g 3), (g 4), (g 5), (g 6), (g 7), x2, x0, t10, t11, t12, t13, t14, x2, t16, x0, x0, x0, t20, t21, t22, x0, t24, t25, t26, x2, t28, t29, t30, x0, t32, t33, t34, x0, t36, t37, t38, x2, t40, t41, t42, t43, t44, t45, t46] w)))))))
  (R (.tuple #[]) w)
def know_Know_grow.I1 (e : List Value) (R : KV) (X : KX) (w : World) : Prop := atP Try.prog Try.f51 know_Know_grow.pl [1, 0] [] R X e w
theorem know_Know_grow.I1_eq (e : List Value) (R : KV) (X : KX) (w : World) : know_Know_grow.I1 e R X w = loopS (fun N e w => atP Try.prog Try.f51 know_Know_grow.pl [1, 0, 0] [N] R X e w) e w := by kernel_rfl
def know_Know_grow.fr1 (x0 : Value) (x2 : Value) (g : Nat → Value) : List Value := [x0, g 1, x2, g 3, g 4, g 5, g 6, g 7, g 8, g 9, g 10, g 11, g 12, g 13, g 14, g 15, g 16, g 17, g 18, g 19, g 20, g 21, g 22, g 23, g 24, g 25, g 26, g 27, g 28, g 29, g 30, g 31, g 32, g 33, g 34, g 35, g 36, g 37, g 38, g 39, g 40, g 41, g 42, g 43, g 44, g 45, g 46]
theorem know_Know_grow.b1_eq (x0 : Value) (x2 : Value) (g : Nat → Value) (N1 : List Value → World → Prop) (R : KV) (X : KX) (w : World) : atP Try.prog Try.f51 know_Know_grow.pl [1, 0, 0] [N1] R X (know_Know_grow.fr1 x0 x2 g) w = know_Know_grow.b1 x0 x2 g N1 R X w := by kernel_rfl
/-- What a round of this loop hands on. -/
def know_Know_grow.N1 (J : Value → World → Prop) (m : Value → World → Nat) (x0 : Value) (x2 : Value) (w : World) : List Value → World → Prop := fun e w' => (∃ y2 g, e = know_Know_grow.fr1 x0 y2 g ∧ J y2 w') ∧ m (nth e 2) w' < m x2 w
theorem know_Know_grow.leaf1 {J : Value → World → Prop} {m : Value → World → Nat} {x0 : Value} {x2 : Value} {w w' : World} {e1 e2 e3 e4 e5 e6 e7 e8 e9 e10 e11 e12 e13 e14 e15 e16 e17 e18 e19 e20 e21 e22 e23 e24 e25 e26 e27 e28 e29 e30 e31 e32 e33 e34 e35 e36 e37 e38 e39 e40 e41 e42 e43 e44 e45 e46 : Value} (h : J e2 w') (hm : m e2 w' < m x2 w) : know_Know_grow.N1 J m x0 x2 w [x0, e1, e2, e3, e4, e5, e6, e7, e8, e9, e10, e11, e12, e13, e14, e15, e16, e17, e18, e19, e20, e21, e22, e23, e24, e25, e26, e27, e28, e29, e30, e31, e32, e33, e34, e35, e36, e37, e38, e39, e40, e41, e42, e43, e44, e45, e46] w' :=
  ⟨⟨e2, (fun i => nth [x0, e1, e2, e3, e4, e5, e6, e7, e8, e9, e10, e11, e12, e13, e14, e15, e16, e17, e18, e19, e20, e21, e22, e23, e24, e25, e26, e27, e28, e29, e30, e31, e32, e33, e34, e35, e36, e37, e38, e39, e40, e41, e42, e43, e44, e45, e46] i), rfl, h⟩, hm⟩
theorem know_Know_grow.loop1 (J : Value → World → Prop) (m : Value → World → Nat) {R : KV} {X : KX} {w : World} {x0 : Value} {e1 e2 e3 e4 e5 e6 e7 e8 e9 e10 e11 e12 e13 e14 e15 e16 e17 e18 e19 e20 e21 e22 e23 e24 e25 e26 e27 e28 e29 e30 e31 e32 e33 e34 e35 e36 e37 e38 e39 e40 e41 e42 e43 e44 e45 e46 : Value} (h0 : J e2 w)
    (hr : ∀ x2 g w, J x2 w → know_Know_grow.b1 x0 x2 g (know_Know_grow.N1 J m x0 x2 w) R X w) : know_Know_grow.I1 [x0, e1, e2, e3, e4, e5, e6, e7, e8, e9, e10, e11, e12, e13, e14, e15, e16, e17, e18, e19, e20, e21, e22, e23, e24, e25, e26, e27, e28, e29, e30, e31, e32, e33, e34, e35, e36, e37, e38, e39, e40, e41, e42, e43, e44, e45, e46] R X w := by
  rw [know_Know_grow.I1_eq]
  refine ⟨fun e w => ∃ y2 g, e = know_Know_grow.fr1 x0 y2 g ∧ J y2 w, fun e w => m (nth e 2) w, ⟨e2, (fun i => nth [x0, e1, e2, e3, e4, e5, e6, e7, e8, e9, e10, e11, e12, e13, e14, e15, e16, e17, e18, e19, e20, e21, e22, e23, e24, e25, e26, e27, e28, e29, e30, e31, e32, e33, e34, e35, e36, e37, e38, e39, e40, e41, e42, e43, e44, e45, e46] i), rfl, h0⟩, ?_⟩
  rintro _ w ⟨y2, g, rfl, hJ⟩
  rw [know_Know_grow.b1_eq]
  exact hr y2 g w hJ
def know_Know_grow.b (x0 : Value) (R : KV) (X : KX) (w : World) : Prop :=
  pNil x0 fun t4 =>
  pFA 2 t4 fun t5 =>
  pLd (· = w) t5 fun t6 =>
  pLenSl t6 fun t7 =>
  know_Know_grow.I1 [x0, undef, t7, x0, t4, t5, t6, t7, undef, undef, undef, undef, undef, undef, undef, undef, undef, undef, undef, undef, undef, undef, undef, undef, undef, undef, undef, undef, undef, undef, undef, undef, undef, undef, undef, undef, undef, undef, undef, undef, undef, undef, undef, undef, undef, undef, undef] R X w
theorem know_Know_grow.b_eq (x0 : Value) (R : KV) (X : KX) (w : World) : atP Try.prog Try.f51 know_Know_grow.pl [] [] R X ([x0] ++ undefs 46) w = know_Know_grow.b x0 R X w := by kernel_rfl
theorem know_Know_grow.calls {x0 : Value} {R : KV} {X : KX} {w : World} (h : know_Know_grow.b x0 R X w) : GCalls Try.prog 51 [x0] R X w :=
  gcalls_of (pl := know_Know_grow.pl) Try.func51 rfl (by kernel_rfl) hmixed (know_Know_grow.b_eq x0 R X w ▸ h)

/-! (*oubliette/know.Know).built -/
def know_Know_built.pl : Nat → DrawPlan
  | 6 => ⟨[([], [28]), ([], [28]), ([], [4]), ([], [4]), ([2, 3], [2, 3, 5]), ([4], [4, 6]), ([5], [5, 7, 8, 9, 10, 11, 12, 13, 14, 15, 26, 27]), ([6], [6, 8]), ([7, 6], [6, 7, 9]), ([8, 6], [6, 8, 10]), ([9, 6], [6, 9, 12]), ([6], [6, 12]), ([10, 11, 6], [6, 10, 11, 13]), ([12, 6], [6, 12, 14]), ([13, 6], [6, 13, 15]), ([14, 6, 6], [6, 14, 16, 17, 18, 19, 20, 21, 22, 23, 24, 25, 26]), ([15], [15, 17]), ([16, 15], [15, 16, 18]), ([17, 15], [15, 17, 19]), ([18, 15], [15, 18, 21]), ([15], [15, 21]), ([19, 20, 15], [15, 19, 20, 22]), ([21, 15], [15, 21, 24]), ([15], [15, 24]), ([22, 23, 15, 15], [15, 22, 23, 25]), ([24, 15], [15, 24, 26]), ([15, 25, 6], [6, 15, 25, 27]), ([6, 26], [6, 26, 29]), ([0, 1, 0, 1, 2, 3, 4, 5, 6, 7, 8, 9, 10, 11, 12, 13, 14, 15, 16, 17, 18, 19, 20, 21, 22, 23, 24, 25, 26, 27], [0, 1, 29]), ([28, 27, 24, 0, 1, 2, 3, 4, 5, 6, 7, 8, 9, 10, 11, 12, 13, 14, 15, 16, 17, 18, 19, 20, 21, 22, 23, 24, 25, 26, 27], [27, 28])], .take 0 (.take 1 (.take 2 (.take 3 (.take 4 (.take 5 (.take 6 (.take 7 (.take 8 (.take 9 (.take 10 (.take 11 (.take 12 (.take 13 (.take 14 (.take 15 (.take 16 (.take 17 (.take 18 (.take 19 (.take 20 (.take 21 (.take 22 (.take 23 (.world 24 false (.take 25 (.take 26 (.take 27 (.take 28 (.world 29 true (.done) .none))))) .none))))))))))))))))))))))))⟩
  | _ => ⟨[], .done⟩
def know_Know_built.b1 (x0 : Value) (x1 : Value) (x5 : Value) (x6 : Value) (x7 : Value) (g : Nat → Value) (N1 : List Value → World → Prop) (R : KV) (X : KX) (w : World) : Prop :=
  pLd (· = w) x5 fun t13 =>
  pLenSl t13 fun t14 =>
  pBinI .lss .i64 x7 t14 fun t15 =>
  scond t15
  (drawn w fun S w =>
    pLd S x5 fun t18 =>
    pIA 1 x1 x7 fun t22 =>
    pLd S t22 fun t23 =>
    gIf t23 false (fun K => K x0) fun t25 =>
    gIf t23 false (fun K => pNil t25 K) fun t26 =>
    gIf t23 false (fun K => pFA 2 t26 K) fun t27 =>
    gIf t23 false (fun K => pLd S t27 K) fun t28 =>
    gIf t23 false (fun K => K x7) fun t29 =>
    gIf t23 false (fun K => pIA 1 t28 t29 K) fun t30 =>
    gIf t23 false (fun K => pLd S t30 K) fun t31 =>
    gIf t23 false (fun K => pBinI .neq .i64 t31 (.int .i64 1) K) fun t32 =>
    gIf t23 false (fun K => K t32) fun t33 =>
    gIf t33 true (fun K => K x0) fun t34 =>
    gIf t33 true (fun K => pNil t34 K) fun t35 =>
    gIf t33 true (fun K => pFA 3 t35 K) fun t36 =>
    gIf t33 true (fun K => pLd S t36 K) fun t37 =>
    gIf t33 true (fun K => K x7) fun t38 =>
    gIf t33 true (fun K => pIA 1 t37 t38 K) fun t39 =>
    gIf t33 true (fun K => pLd S t39 K) fun t40 =>
    gIf t33 true (fun K => K x6) fun t41 =>
    gIfW t33 true (fun w K => pCall Try.prog 53 [t40, t41] X w K) w fun t42 w =>
    S w ∧ (gIf t33 true (fun K => pNot t42 K) fun t43 =>
      gIf t23 false (fun K => pPick t33 t43 (.bool false) K) fun t44 =>
      pPick t23 (.bool true) t44 fun t45 =>
      pIA 1 t18 x7 fun t46 =>
      pSt t46 t45 w fun _ w =>
      anew w fun S w =>
      pBinI .add .i64 x7 (.int .i64 1) fun t17 =>
      N1 [x0, x1, (g 2), (g 3), (g 4), x5, x6, t17, (g 8), (g 9), (g 10), (g 11), x7, t13, t14, t15, x7, t17, t18, x7, x1, x7, t22, t23, t23, t25, t26, t27, t28, t29, t30, t31, t32, t33, t34, t35, t36, t37, t38, t39, t40, t41, t42, t43, t44, t45, t46, (g 47)] w))
  (pLd (· = w) x5 fun t47 =>
    R t47 w)
def know_Know_built.I1 (e : List Value) (R : KV) (X : KX) (w : World) : Prop := atP Try.prog Try.f52 know_Know_built.pl [1, 1, 1, 0, 1, 0] [] R X e w
theorem know_Know_built.I1_eq (e : List Value) (R : KV) (X : KX) (w : World) : know_Know_built.I1 e R X w = loopS (fun N e w => atP Try.prog Try.f52 know_Know_built.pl [1, 1, 1, 0, 1, 0, 0] [N] R X e w) e w := by kernel_rfl
def know_Know_built.fr1 (x0 : Value) (x1 : Value) (x5 : Value) (x6 : Value) (x7 : Value) (g : Nat → Value) : List Value := [x0, x1, g 2, g 3, g 4, x5, x6, x7, g 8, g 9, g 10, g 11, g 12, g 13, g 14, g 15, g 16, g 17, g 18, g 19, g 20, g 21, g 22, g 23, g 24, g 25, g 26, g 27, g 28, g 29, g 30, g 31, g 32, g 33, g 34, g 35, g 36, g 37, g 38, g 39, g 40, g 41, g 42, g 43, g 44, g 45, g 46, g 47]
theorem know_Know_built.b1_eq (x0 : Value) (x1 : Value) (x5 : Value) (x6 : Value) (x7 : Value) (g : Nat → Value) (N1 : List Value → World → Prop) (R : KV) (X : KX) (w : World) : atP Try.prog Try.f52 know_Know_built.pl [1, 1, 1, 0, 1, 0, 0] [N1] R X (know_Know_built.fr1 x0 x1 x5 x6 x7 g) w = know_Know_built.b1 x0 x1 x5 x6 x7 g N1 R X w := by kernel_rfl
/-- What a round of this loop hands on. -/
def know_Know_built.N1 (J : Value → World → Prop) (m : Value → World → Nat) (x0 : Value) (x1 : Value) (x5 : Value) (x6 : Value) (x7 : Value) (w : World) : List Value → World → Prop := fun e w' => (∃ y7 g, e = know_Know_built.fr1 x0 x1 x5 x6 y7 g ∧ J y7 w') ∧ m (nth e 7) w' < m x7 w
theorem know_Know_built.leaf1 {J : Value → World → Prop} {m : Value → World → Nat} {x0 : Value} {x1 : Value} {x5 : Value} {x6 : Value} {x7 : Value} {w w' : World} {e2 e3 e4 e7 e8 e9 e10 e11 e12 e13 e14 e15 e16 e17 e18 e19 e20 e21 e22 e23 e24 e25 e26 e27 e28 e29 e30 e31 e32 e33 e34 e35 e36 e37 e38 e39 e40 e41 e42 e43 e44 e45 e46 e47 : Value} (h : J e7 w') (hm : m e7 w' < m x7 w) : know_Know_built.N1 J m x0 x1 x5 x6 x7 w [x0, x1, e2, e3, e4, x5, x6, e7, e8, e9, e10, e11, e12, e13, e14, e15, e16, e17, e18, e19, e20, e21, e22, e23, e24, e25, e26, e27, e28, e29, e30, e31, e32, e33, e34, e35, e36, e37, e38, e39, e40, e41, e42, e43, e44, e45, e46, e47] w' :=
  ⟨⟨e7, (fun i => nth [x0, x1, e2, e3, e4, x5, x6, e7, e8, e9, e10, e11, e12, e13, e14, e15, e16, e17, e18, e19, e20, e21, e22, e23, e24, e25, e26, e27, e28, e29, e30, e31, e32, e33, e34, e35, e36, e37, e38, e39, e40, e41, e42, e43, e44, e45, e46, e47] i), rfl, h⟩, hm⟩
theorem know_Know_built.loop1 (J : Value → World → Prop) (m : Value → World → Nat) {R : KV} {X : KX} {w : World} {x0 : Value} {x1 : Value} {x5 : Value} {x6 : Value} {e2 e3 e4 e7 e8 e9 e10 e11 e12 e13 e14 e15 e16 e17 e18 e19 e20 e21 e22 e23 e24 e25 e26 e27 e28 e29 e30 e31 e32 e33 e34 e35 e36 e37 e38 e39 e40 e41 e42 e43 e44 e45 e46 e47 : Value} (h0 : J e7 w)
    (hr : ∀ x7 g w, J x7 w → know_Know_built.b1 x0 x1 x5 x6 x7 g (know_Know_built.N1 J m x0 x1 x5 x6 x7 w) R X w) : know_Know_built.I1 [x0, x1, e2, e3, e4, x5, x6, e7, e8, e9, e10, e11, e12, e13, e14, e15, e16, e17, e18, e19, e20, e21, e22, e23, e24, e25, e26, e27, e28, e29, e30, e31, e32, e33, e34, e35, e36, e37, e38, e39, e40, e41, e42, e43, e44, e45, e46, e47] R X w := by
  rw [know_Know_built.I1_eq]
  refine ⟨fun e w => ∃ y7 g, e = know_Know_built.fr1 x0 x1 x5 x6 y7 g ∧ J y7 w, fun e w => m (nth e 7) w, ⟨e7, (fun i => nth [x0, x1, e2, e3, e4, x5, x6, e7, e8, e9, e10, e11, e12, e13, e14, e15, e16, e17, e18, e19, e20, e21, e22, e23, e24, e25, e26, e27, e28, e29, e30, e31, e32, e33, e34, e35, e36, e37, e38, e39, e40, e41, e42, e43, e44, e45, e46, e47] i), rfl, h0⟩, ?_⟩
  rintro _ w ⟨y7, g, rfl, hJ⟩
  rw [know_Know_built.b1_eq]
  exact hr y7 g w hJ
def know_Know_built.b (x0 : Value) (x1 : Value) (R : KV) (X : KX) (w : World) : Prop :=
  pLenSl x1 fun t9 =>
  pMake 4 1 [.bool false] t9 t9 w fun t10 w =>
  pBox 34 (.agg #[.slice none 0 0]) w fun t5 w =>
  pSt t5 t10 w fun _ w =>
  know_Know_built.I1 [x0, x1, undef, undef, (.slice none 0 0), t5, (.func (.func 58) #[] #[t5]), (.int .i64 1), x1, t9, t10, (.func (.func 58) #[] #[t5]), undef, undef, undef, undef, undef, undef, undef, undef, undef, undef, undef, undef, undef, undef, undef, undef, undef, undef, undef, undef, undef, undef, undef, undef, undef, undef, undef, undef, undef, undef, undef, undef, undef, undef, undef, undef] R X w
theorem know_Know_built.b_eq (x0 : Value) (x1 : Value) (R : KV) (X : KX) (w : World) : atP Try.prog Try.f52 know_Know_built.pl [] [] R X ([x0, x1] ++ undefs 46) w = know_Know_built.b x0 x1 R X w := by kernel_rfl
theorem know_Know_built.calls {x0 x1 : Value} {R : KV} {X : KX} {w : World} (h : know_Know_built.b x0 x1 R X w) : GCalls Try.prog 52 [x0, x1] R X w :=
  gcalls_of (pl := know_Know_built.pl) Try.func52 rfl (by kernel_rfl) hmixed (know_Know_built.b_eq x0 x1 R X w ▸ h)

/-! (*oubliette/know.Know).built$1 -/
def know_Know_built_c1.pl : Nat → DrawPlan
  | _ => ⟨[], .done⟩
def know_Know_built_c1.b (x0 : Value) (x1 : Value) (R : KV) (X : KX) (w : World) : Prop :=
  pLd (· = w) x1 fun t4 =>
  pIA 1 t4 x0 fun t6 =>
  pLd (· = w) t6 fun t7 =>
  pNot t7 fun t8 =>
  R t8 w
theorem know_Know_built_c1.b_eq (x0 : Value) (x1 : Value) (R : KV) (X : KX) (w : World) : atP Try.prog Try.f58 know_Know_built_c1.pl [] [] R X ([x0, x1] ++ undefs 7) w = know_Know_built_c1.b x0 x1 R X w := by kernel_rfl
theorem know_Know_built_c1.calls {x0 x1 : Value} {R : KV} {X : KX} {w : World} (h : know_Know_built_c1.b x0 x1 R X w) : GCalls Try.prog 58 [x0, x1] R X w :=
  gcalls_of (pl := know_Know_built_c1.pl) Try.func58 rfl (by kernel_rfl) hmixed (know_Know_built_c1.b_eq x0 x1 R X w ▸ h)
end Go.Proofs.Ytkpgmaiklfjjgaa
end
