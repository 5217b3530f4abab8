/-
  The functions' own code as conditions on values and worlds; the kernel checks that each is the code's own.
-/
import Derived.Test.YtlolomdgchkibaaProg
import Derived.Test.YtlolomdgchkibaaS20
set_option maxRecDepth 100000
set_option linter.unusedVariables false
namespace Go.Proofs.Ytlolomdgchkibaa
open Go.G

/-! oubliette/oubliettelaw20.TrailSeen -/
def oubliettelaw20_TrailSeen.pl : Nat → DrawPlan
  | _ => ⟨[], .done⟩
def oubliettelaw20_TrailSeen.b (x0 : Value) (x1 : Value) (R : KV) (X : KX) (w : World) : Prop :=
  pCall Try.prog 34 [x0] X w fun t6 w =>
  pNot t6 fun t7 =>
  gIf t7 false (fun K => K x1) fun t9 =>
  gIf t7 false (fun K => pLenSl t9 K) fun t10 =>
  gIf t7 false (fun K => pBinI .gtr .i64 t10 (.int .i64 30) K) fun t11 =>
  pPick t7 (.bool true) t11 fun t12 =>
  scond t12
  (pCall Try.prog 11 [] X w fun t13 w =>
    R t13 w)
  (pCall Try.prog 45 [x0, x1] X w fun t16 w =>
    pCall Try.prog 46 [x0, x1] X w fun t19 w =>
    pCall Try.prog 38 [t16, t19] X w fun t20 w =>
    gIfW t20 true (fun w K => pCall Try.prog 11 [] X w K) w fun t22 w =>
    pPick t20 t22 (.bool false) fun t23 =>
    R t23 w)
theorem oubliettelaw20_TrailSeen.b_eq (x0 : Value) (x1 : Value) (R : KV) (X : KX) (w : World) : atP Try.prog Try.f8 oubliettelaw20_TrailSeen.pl [] [] R X ([x0, x1] ++ undefs 22) w = oubliettelaw20_TrailSeen.b x0 x1 R X w := by kernel_rfl
theorem oubliettelaw20_TrailSeen.calls {x0 x1 : Value} {R : KV} {X : KX} {w : World} (h : oubliettelaw20_TrailSeen.b x0 x1 R X w) : GCalls Try.prog 8 [x0, x1] R X w :=
  gcalls_of (pl := oubliettelaw20_TrailSeen.pl) Try.func8 rfl (by kernel_rfl) hmixed (oubliettelaw20_TrailSeen.b_eq x0 x1 R X w ▸ h)

/-! oubliette/oubliettelaw27.ShapePaths -/
def oubliettelaw27_ShapePaths.pl : Nat → DrawPlan
  | 3 => ⟨[([], [2]), ([], [2]), ([0, 1], [0, 1, 6]), ([], [5]), ([], [5]), ([3, 4, 2], [3, 4, 6]), ([2, 5, 5], [2, 5, 7]), ([6, 6], [6, 8, 9, 10, 11, 12, 13, 14, 15]), ([7], [7, 10]), ([7], [7, 10]), ([8, 9, 7, 7], [7, 8, 9, 14]), ([7], [7, 13]), ([7], [7, 13]), ([11, 12, 10, 7], [7, 11, 12, 14]), ([10, 13, 13, 7], [7, 10, 13, 15]), ([7, 14], [7, 14, 16]), ([15, 14], [15, 17, 18, 19, 20, 21, 22, 23, 24]), ([16], [16, 19]), ([16], [16, 19]), ([17, 18, 16, 16], [16, 17, 18, 23]), ([16], [16, 22]), ([16], [16, 22]), ([20, 21, 19, 16], [16, 20, 21, 23]), ([19, 22, 22, 16], [16, 19, 22, 24]), ([16, 23], [16, 23, 25]), ([24, 23], [24, 26, 27]), ([25, 25], [25, 27]), ([25, 26], [25, 26, 28]), ([27, 26, 0, 1, 2, 3, 4, 5, 6, 7, 8, 9, 10, 11, 12, 13, 14, 15, 16, 17, 18, 19, 20, 21, 22, 23, 24, 25, 26, 27], [27])], .take 0 (.take 1 (.take 3 (.take 4 (.world 2 false (.world 5 false (.world 6 false (.take 7 (.take 8 (.take 9 (.take 11 (.take 12 (.world 10 false (.world 13 false (.world 14 false (.take 15 (.take 16 (.take 17 (.take 18 (.take 20 (.take 21 (.world 19 false (.world 22 false (.world 23 false (.take 24 (.take 25 (.world 26 false (.take 27 (.take 28 (.done))) .none))) .none) .none) .none))))))) .none) .none) .none)))))) .none) .none) .none))))⟩
  | _ => ⟨[], .done⟩
def oubliettelaw27_ShapePaths.b (x0 : Value) (x1 : Value) (x2 : Value) (x3 : Value) (R : KV) (X : KX) (w : World) : Prop :=
  pBox 33 x0 w fun t4 w =>
  pLenSl x3 fun t10 =>
  pBinI .gtr .i64 t10 (.int .i64 20) fun t11 =>
  scond t11
  (pCall Try.prog 30 [] X w fun t12 w =>
    R t12 w)
  (drawn w fun S w =>
    pLdN S 3 t4 fun t13 =>
    pLdN S 3 t4 fun t16 =>
    pCall Try.prog 47 [t13, x1] X w fun t15 w =>
    S w ∧ (pCall Try.prog 48 [t16, x1] X w fun t18 w =>
      S w ∧ (pCall Try.prog 12 [t15, t18] X w fun t19 w =>
        S w ∧ (gIf t19 true (fun K => pLdN S 3 t4 K) fun t21 =>
          gIf t19 true (fun K => K x3) fun t22 =>
          gIf t19 true (fun K => pLdN S 3 t4 K) fun t24 =>
          gIf t19 true (fun K => K x3) fun t25 =>
          gIfW t19 true (fun w K => pCall Try.prog 49 [t21, t22] X w K) w fun t23 w =>
          S w ∧ (gIfW t19 true (fun w K => pCall Try.prog 50 [t24, t25] X w K) w fun t26 w =>
            S w ∧ (gIfW t19 true (fun w K => pCall Try.prog 12 [t23, t26] X w K) w fun t27 w =>
              S w ∧ (pPick t19 t27 (.bool false) fun t28 =>
                gIf t28 true (fun K => pLdN S 3 t4 K) fun t30 =>
                gIf t28 true (fun K => K x2) fun t31 =>
                gIf t28 true (fun K => pLdN S 3 t4 K) fun t33 =>
                gIf t28 true (fun K => K x2) fun t34 =>
                gIfW t28 true (fun w K => pCall Try.prog 33 [t30, t31] X w K) w fun t32 w =>
                S w ∧ (gIfW t28 true (fun w K => pCall Try.prog 51 [t33, t34] X w K) w fun t35 w =>
                  S w ∧ (gIfW t28 true (fun w K => pCall Try.prog 12 [t32, t35] X w K) w fun t36 w =>
                    S w ∧ (pPick t28 t36 (.bool false) fun t37 =>
                      gIfW t37 true (fun w K => pCall Try.prog 30 [] X w K) w fun t39 w =>
                      S w ∧ (pPick t37 t39 (.bool false) fun t40 =>
                        R t40 w)))))))))))
theorem oubliettelaw27_ShapePaths.b_eq (x0 : Value) (x1 : Value) (x2 : Value) (x3 : Value) (R : KV) (X : KX) (w : World) : atP Try.prog Try.f9 oubliettelaw27_ShapePaths.pl [] [] R X ([x0, x1, x2, x3] ++ undefs 37) w = oubliettelaw27_ShapePaths.b x0 x1 x2 x3 R X w := by kernel_rfl
theorem oubliettelaw27_ShapePaths.calls {x0 x1 x2 x3 : Value} {R : KV} {X : KX} {w : World} (h : oubliettelaw27_ShapePaths.b x0 x1 x2 x3 R X w) : GCalls Try.prog 9 [x0, x1, x2, x3] R X w :=
  gcalls_of (pl := oubliettelaw27_ShapePaths.pl) Try.func9 rfl (by kernel_rfl) hmixed (oubliettelaw27_ShapePaths.b_eq x0 x1 x2 x3 R X w ▸ h)

/-! oubliette/trail.Places -/
def trail_Places.pl : Nat → DrawPlan
  | _ => ⟨[], .done⟩
def trail_Places.b (x0 : Value) (R : KV) (X : KX) (w : World) : Prop :=
  pCall Try.prog 69 [x0] X w fun t4 w =>
  pCall Try.prog 68 [t4] X w fun t5 w =>
  pCall Try.prog 67 [t5] X w fun t6 w =>
  R t6 w
theorem trail_Places.b_eq (x0 : Value) (R : KV) (X : KX) (w : World) : atP Try.prog Try.f40 trail_Places.pl [] [] R X ([x0] ++ undefs 6) w = trail_Places.b x0 R X w := by kernel_rfl
theorem trail_Places.calls {x0 : Value} {R : KV} {X : KX} {w : World} (h : trail_Places.b x0 R X w) : GCalls Try.prog 40 [x0] R X w :=
  gcalls_of (pl := trail_Places.pl) Try.func40 rfl (by kernel_rfl) hmixed (trail_Places.b_eq x0 R X w ▸ h)

/-! oubliette/oublietteref20.Places -/
def oublietteref20_Places.pl : Nat → DrawPlan
  | 6 => ⟨[([], [3]), ([], [2]), ([1], [1, 3]), ([0, 2], [0, 2, 4]), ([3], [3, 5, 6, 7, 8, 9, 10, 11, 12, 13, 14, 15]), ([4], [4, 7]), ([4], [4, 7]), ([5, 6, 4], [4, 5, 6, 8]), ([7, 4], [4, 7, 14]), ([4], [4, 11]), ([4], [4, 11]), ([9, 10, 4], [4, 9, 10, 12]), ([11, 4], [4, 11, 13]), ([12, 4], [4, 12, 14]), ([8, 13, 4], [4, 8, 13, 15]), ([4, 14], [4, 14])], .take 0 (.take 1 (.take 2 (.take 3 (.take 4 (.take 5 (.take 6 (.take 7 (.take 8 (.take 9 (.take 10 (.take 11 (.take 12 (.take 13 (.take 14 (.take 15 (.done))))))))))))))))⟩
  | 8 => ⟨[([], [3]), ([], [2]), ([1], [1, 3]), ([0, 2], [0, 2, 4]), ([3], [3, 5, 6, 7, 8, 9, 10, 11, 12, 13, 14, 15]), ([4], [4, 7]), ([4], [4, 7]), ([5, 6, 4], [4, 5, 6, 8]), ([7, 4], [4, 7, 14]), ([4], [4, 11]), ([4], [4, 11]), ([9, 10, 4], [4, 9, 10, 12]), ([11, 4], [4, 11, 13]), ([12, 4], [4, 12, 14]), ([8, 13, 4], [4, 8, 13, 15]), ([4, 14], [4, 14])], .take 0 (.take 1 (.take 2 (.take 3 (.take 4 (.take 5 (.take 6 (.take 7 (.take 8 (.take 9 (.take 10 (.take 11 (.take 12 (.take 13 (.take 14 (.take 15 (.done))))))))))))))))⟩
  | _ => ⟨[], .done⟩
def oublietteref20_Places.j1 (x0 : Value) (x3 : Value) (x4 : Value) (g : Nat → Value) (N1 : List Value → World → Prop) (R : KV) (X : KX) (w : World) : Prop :=
  pBinI .add .i64 x4 (.int .i64 1) fun t12 =>
  N1 [x0, (g 1), (g 2), x3, t12, (g 5), (g 6), (g 7), (g 8), (g 9), (g 10), x4, t12, (g 13), (g 14), (g 15), (g 16), (g 17), (g 18), (g 19), (g 20), (g 21), (g 22), (g 23), (g 24), (g 25), (g 26), (g 27), (g 28), (g 29), (g 30), (g 31), (g 32), (g 33), (g 34), (g 35), (g 36), (g 37), (g 38), (g 39), (g 40), (g 41), (g 42), (g 43), (g 44), (g 45), (g 46), (g 47), (g 48), (g 49), (g 50), (g 51), (g 52), (g 53), (g 54), (g 55), (g 56), (g 57), (g 58), (g 59), (g 60), (g 61), (g 62), (g 63), (g 64), (g 65)] w
def oublietteref20_Places.b2 (x0 : Value) (x3 : Value) (x4 : Value) (x5 : Value) (g : Nat → Value) (N1 : List Value → World → Prop) (N2 : List Value → World → Prop) (R : KV) (X : KX) (w : World) : Prop :=
  drawn w fun S w =>
  pLenSl x3 fun t15 =>
  pBinI .lss .i64 x5 t15 fun t16 =>
  gIf t16 true (fun K => K x3) fun t18 =>
  gIf t16 true (fun K => K x5) fun t19 =>
  gIf t16 true (fun K => pIA 1 t18 t19 K) fun t20 =>
  gIf t16 true (fun K => pLd S t20 K) fun t21 =>
  gIf t16 true (fun K => K x0) fun t22 =>
  gIf t16 true (fun K => K x4) fun t23 =>
  gIf t16 true (fun K => pIA 2 t22 t23 K) fun t24 =>
  gIf t16 true (fun K => pFA 0 t24 K) fun t25 =>
  gIf t16 true (fun K => pLd S t25 K) fun t26 =>
  gIf t16 true (fun K => pBinI .lss .i64 t21 t26 K) fun t27 =>
  pPick t16 t27 (.bool false) fun t28 =>
  scond t28
  (pBinI .add .i64 x5 (.int .i64 1) fun t30 =>
    N2 [x0, (g 1), (g 2), x3, x4, t30, (g 6), (g 7), (g 8), (g 9), (g 10), (g 11), (g 12), x5, x3, t15, t16, t16, t18, t19, t20, t21, t22, t23, t24, t25, t26, t27, t28, x5, t30, (g 31), (g 32), (g 33), (g 34), (g 35), (g 36), (g 37), (g 38), (g 39), (g 40), (g 41), (g 42), (g 43), (g 44), (g 45), (g 46), (g 47), (g 48), (g 49), (g 50), (g 51), (g 52), (g 53), (g 54), (g 55), (g 56), (g 57), (g 58), (g 59), (g 60), (g 61), (g 62), (g 63), (g 64), (g 65)] w)
  (drawn w fun S w =>
    pLenSl x3 fun t33 =>
    pBinI .eql .i64 x5 t33 fun t34 =>
    gIf t34 false (fun K => K x3) fun t36 =>
    gIf t34 false (fun K => K x5) fun t37 =>
    gIf t34 false (fun K => pIA 1 t36 t37 K) fun t38 =>
    gIf t34 false (fun K => pLd S t38 K) fun t39 =>
    gIf t34 false (fun K => K x0) fun t40 =>
    gIf t34 false (fun K => K x4) fun t41 =>
    gIf t34 false (fun K => pIA 2 t40 t41 K) fun t42 =>
    gIf t34 false (fun K => pFA 0 t42 K) fun t43 =>
    gIf t34 false (fun K => pLd S t43 K) fun t44 =>
    gIf t34 false (fun K => pBinI .neq .i64 t39 t44 K) fun t45 =>
    pPick t34 (.bool true) t45 fun t46 =>
    scond t46
    (pBSlice 3 0 (rowOf [.int .i64 0] 0) [] w fun t47 w =>
      pSl 1 x3 none (some x5) none fun t50 =>
      pApp 3 1 8 [.int .i64 0] t47 t50 w fun t51 w =>
      pIA 2 x0 x4 fun t55 =>
      pFA 0 t55 fun t56 =>
      pLd (· = w) t56 fun t57 =>
      pBSlice 3 1 (rowOf [.int .i64 0] 1) [(0, 1, t57)] w fun t58 w =>
      pApp 3 1 8 [.int .i64 0] t51 t58 w fun t59 w =>
      pSl 1 x3 (some x5) none none fun t63 =>
      pApp 3 1 8 [.int .i64 0] t59 t63 w fun t64 w =>
      oublietteref20_Places.j1 x0 t64 x4 (fun i => nth [x0, (g 1), (g 2), t64, x4, x5, t59, (g 7), (g 8), (g 9), (g 10), (g 11), (g 12), x5, x3, t15, t16, t16, t18, t19, t20, t21, t22, t23, t24, t25, t26, t27, t28, (g 29), (g 30), x5, x3, t33, t34, t34, t36, t37, t38, t39, t40, t41, t42, t43, t44, t45, t46, t47, x3, x5, t50, t51, t51, x0, x4, t55, t56, t57, t58, t59, t59, x3, x5, t63, t64, (g 65)] i) N1 R X w)
    (oublietteref20_Places.j1 x0 x3 x4 (fun i => nth [x0, (g 1), (g 2), x3, x4, x5, (g 6), (g 7), (g 8), (g 9), (g 10), (g 11), (g 12), x5, x3, t15, t16, t16, t18, t19, t20, t21, t22, t23, t24, t25, t26, t27, t28, (g 29), (g 30), x5, x3, t33, t34, t34, t36, t37, t38, t39, t40, t41, t42, t43, t44, t45, t46, (g 47), (g 48), (g 49), (g 50), (g 51), (g 52), (g 53), (g 54), (g 55), (g 56), (g 57), (g 58), (g 59), (g 60), (g 61), (g 62), (g 63), (g 64), (g 65)] i) N1 R X w))
def oublietteref20_Places.I2 (e : List Value) (N1 : List Value → World → Prop) (R : KV) (X : KX) (w : World) : Prop := atP Try.prog Try.f41 oublietteref20_Places.pl [1, 1, 0, 1, 0, 0, 1, 0, 0, 1, 0, 0] [N1] R X e w
theorem oublietteref20_Places.I2_eq (e : List Value) (N1 : List Value → World → Prop) (R : KV) (X : KX) (w : World) : oublietteref20_Places.I2 e N1 R X w = loopS (fun N e w => atP Try.prog Try.f41 oublietteref20_Places.pl [1, 1, 0, 1, 0, 0, 1, 0, 0, 1, 0, 0, 0] [N1, N] R X e w) e w := by kernel_rfl
def oublietteref20_Places.fr2 (x0 : Value) (x3 : Value) (x4 : Value) (x5 : Value) (g : Nat → Value) : List Value := [x0, g 1, g 2, x3, x4, x5, g 6, g 7, g 8, g 9, g 10, g 11, g 12, g 13, g 14, g 15, g 16, g 17, g 18, g 19, g 20, g 21, g 22, g 23, g 24, g 25, g 26, g 27, g 28, g 29, g 30, g 31, g 32, g 33, g 34, g 35, g 36, g 37, g 38, g 39, g 40, g 41, g 42, g 43, g 44, g 45, g 46, g 47, g 48, g 49, g 50, g 51, g 52, g 53, g 54, g 55, g 56, g 57, g 58, g 59, g 60, g 61, g 62, g 63, g 64, g 65]
theorem oublietteref20_Places.b2_eq (x0 : Value) (x3 : Value) (x4 : Value) (x5 : Value) (g : Nat → Value) (N1 : List Value → World → Prop) (N2 : List Value → World → Prop) (R : KV) (X : KX) (w : World) : atP Try.prog Try.f41 oublietteref20_Places.pl [1, 1, 0, 1, 0, 0, 1, 0, 0, 1, 0, 0, 0] [N1, N2] R X (oublietteref20_Places.fr2 x0 x3 x4 x5 g) w = oublietteref20_Places.b2 x0 x3 x4 x5 g N1 N2 R X w := by kernel_rfl
/-- What a round of this loop hands on. -/
def oublietteref20_Places.N2 (J : Value → World → Prop) (m : Value → World → Nat) (x0 : Value) (x3 : Value) (x4 : Value) (x5 : Value) (w : World) : List Value → World → Prop := fun e w' => (∃ y5 g, e = oublietteref20_Places.fr2 x0 x3 x4 y5 g ∧ J y5 w') ∧ m (nth e 5) w' < m x5 w
theorem oublietteref20_Places.leaf2 {J : Value → World → Prop} {m : Value → World → Nat} {x0 : Value} {x3 : Value} {x4 : Value} {x5 : Value} {w w' : World} {e1 e2 e5 e6 e7 e8 e9 e10 e11 e12 e13 e14 e15 e16 e17 e18 e19 e20 e21 e22 e23 e24 e25 e26 e27 e28 e29 e30 e31 e32 e33 e34 e35 e36 e37 e38 e39 e40 e41 e42 e43 e44 e45 e46 e47 e48 e49 e50 e51 e52 e53 e54 e55 e56 e57 e58 e59 e60 e61 e62 e63 e64 e65 : Value} (h : J e5 w') (hm : m e5 w' < m x5 w) : oublietteref20_Places.N2 J m x0 x3 x4 x5 w [x0, e1, e2, x3, x4, e5, e6, e7, e8, e9, e10, e11, e12, e13, e14, e15, e16, e17, e18, e19, e20, e21, e22, e23, e24, e25, e26, e27, e28, e29, e30, e31, e32, e33, e34, e35, e36, e37, e38, e39, e40, e41, e42, e43, e44, e45, e46, e47, e48, e49, e50, e51, e52, e53, e54, e55, e56, e57, e58, e59, e60, e61, e62, e63, e64, e65] w' :=
  ⟨⟨e5, (fun i => nth [x0, e1, e2, x3, x4, e5, e6, e7, e8, e9, e10, e11, e12, e13, e14, e15, e16, e17, e18, e19, e20, e21, e22, e23, e24, e25, e26, e27, e28, e29, e30, e31, e32, e33, e34, e35, e36, e37, e38, e39, e40, e41, e42, e43, e44, e45, e46, e47, e48, e49, e50, e51, e52, e53, e54, e55, e56, e57, e58, e59, e60, e61, e62, e63, e64, e65] i), rfl, h⟩, hm⟩
theorem oublietteref20_Places.loop2 (J : Value → World → Prop) (m : Value → World → Nat) {N1 : List Value → World → Prop} {R : KV} {X : KX} {w : World} {x0 : Value} {x3 : Value} {x4 : Value} {e1 e2 e5 e6 e7 e8 e9 e10 e11 e12 e13 e14 e15 e16 e17 e18 e19 e20 e21 e22 e23 e24 e25 e26 e27 e28 e29 e30 e31 e32 e33 e34 e35 e36 e37 e38 e39 e40 e41 e42 e43 e44 e45 e46 e47 e48 e49 e50 e51 e52 e53 e54 e55 e56 e57 e58 e59 e60 e61 e62 e63 e64 e65 : Value} (h0 : J e5 w)
    (hr : ∀ x5 g w, J x5 w → oublietteref20_Places.b2 x0 x3 x4 x5 g N1 (oublietteref20_Places.N2 J m x0 x3 x4 x5 w) R X w) : oublietteref20_Places.I2 [x0, e1, e2, x3, x4, e5, e6, e7, e8, e9, e10, e11, e12, e13, e14, e15, e16, e17, e18, e19, e20, e21, e22, e23, e24, e25, e26, e27, e28, e29, e30, e31, e32, e33, e34, e35, e36, e37, e38, e39, e40, e41, e42, e43, e44, e45, e46, e47, e48, e49, e50, e51, e52, e53, e54, e55, e56, e57, e58, e59, e60, e61, e62, e63, e64, e65] N1 R X w := by
  rw [oublietteref20_Places.I2_eq]
  refine ⟨fun e w => ∃ y5 g, e = oublietteref20_Places.fr2 x0 x3 x4 y5 g ∧ J y5 w, fun e w => m (nth e 5) w, ⟨e5, (fun i => nth [x0, e1, e2, x3, x4, e5, e6, e7, e8, e9, e10, e11, e12, e13, e14, e15, e16, e17, e18, e19, e20, e21, e22, e23, e24, e25, e26, e27, e28, e29, e30, e31, e32, e33, e34, e35, e36, e37, e38, e39, e40, e41, e42, e43, e44, e45, e46, e47, e48, e49, e50, e51, e52, e53, e54, e55, e56, e57, e58, e59, e60, e61, e62, e63, e64, e65] i), rfl, h0⟩, ?_⟩
  rintro _ w ⟨y5, g, rfl, hJ⟩
  rw [oublietteref20_Places.b2_eq]
  exact hr y5 g w hJ
def oublietteref20_Places.b1 (x0 : Value) (x3 : Value) (x4 : Value) (g : Nat → Value) (N1 : List Value → World → Prop) (R : KV) (X : KX) (w : World) : Prop :=
  pLenSl x0 fun t9 =>
  pBinI .lss .i64 x4 t9 fun t10 =>
  scond t10
  (oublietteref20_Places.I2 [x0, (g 1), (g 2), x3, x4, (.int .i64 0), (g 6), x4, x0, t9, t10, (g 11), (g 12), (g 13), (g 14), (g 15), (g 16), (g 17), (g 18), (g 19), (g 20), (g 21), (g 22), (g 23), (g 24), (g 25), (g 26), (g 27), (g 28), (g 29), (g 30), (g 31), (g 32), (g 33), (g 34), (g 35), (g 36), (g 37), (g 38), (g 39), (g 40), (g 41), (g 42), (g 43), (g 44), (g 45), (g 46), (g 47), (g 48), (g 49), (g 50), (g 51), (g 52), (g 53), (g 54), (g 55), (g 56), (g 57), (g 58), (g 59), (g 60), (g 61), (g 62), (g 63), (g 64), (g 65)] N1 R X w)
  (R x3 w)
def oublietteref20_Places.I1 (e : List Value) (R : KV) (X : KX) (w : World) : Prop := atP Try.prog Try.f41 oublietteref20_Places.pl [1, 1, 0, 1, 0] [] R X e w
theorem oublietteref20_Places.I1_eq (e : List Value) (R : KV) (X : KX) (w : World) : oublietteref20_Places.I1 e R X w = loopS (fun N e w => atP Try.prog Try.f41 oublietteref20_Places.pl [1, 1, 0, 1, 0, 0] [N] R X e w) e w := by kernel_rfl
def oublietteref20_Places.fr1 (x0 : Value) (x3 : Value) (x4 : Value) (g : Nat → Value) : List Value := [x0, g 1, g 2, x3, x4, g 5, g 6, g 7, g 8, g 9, g 10, g 11, g 12, g 13, g 14, g 15, g 16, g 17, g 18, g 19, g 20, g 21, g 22, g 23, g 24, g 25, g 26, g 27, g 28, g 29, g 30, g 31, g 32, g 33, g 34, g 35, g 36, g 37, g 38, g 39, g 40, g 41, g 42, g 43, g 44, g 45, g 46, g 47, g 48, g 49, g 50, g 51, g 52, g 53, g 54, g 55, g 56, g 57, g 58, g 59, g 60, g 61, g 62, g 63, g 64, g 65]
theorem oublietteref20_Places.b1_eq (x0 : Value) (x3 : Value) (x4 : Value) (g : Nat → Value) (N1 : List Value → World → Prop) (R : KV) (X : KX) (w : World) : atP Try.prog Try.f41 oublietteref20_Places.pl [1, 1, 0, 1, 0, 0] [N1] R X (oublietteref20_Places.fr1 x0 x3 x4 g) w = oublietteref20_Places.b1 x0 x3 x4 g N1 R X w := by kernel_rfl
/-- What a round of this loop hands on. -/
def oublietteref20_Places.N1 (J : Value → Value → World → Prop) (m : Value → Value → World → Nat) (x0 : Value) (x3 : Value) (x4 : Value) (w : World) : List Value → World → Prop := fun e w' => (∃ y3 y4 g, e = oublietteref20_Places.fr1 x0 y3 y4 g ∧ J y3 y4 w') ∧ m (nth e 3) (nth e 4) w' < m x3 x4 w
theorem oublietteref20_Places.leaf1 {J : Value → Value → World → Prop} {m : Value → Value → World → Nat} {x0 : Value} {x3 : Value} {x4 : Value} {w w' : World} {e1 e2 e3 e4 e5 e6 e7 e8 e9 e10 e11 e12 e13 e14 e15 e16 e17 e18 e19 e20 e21 e22 e23 e24 e25 e26 e27 e28 e29 e30 e31 e32 e33 e34 e35 e36 e37 e38 e39 e40 e41 e42 e43 e44 e45 e46 e47 e48 e49 e50 e51 e52 e53 e54 e55 e56 e57 e58 e59 e60 e61 e62 e63 e64 e65 : Value} (h : J e3 e4 w') (hm : m e3 e4 w' < m x3 x4 w) : oublietteref20_Places.N1 J m x0 x3 x4 w [x0, e1, e2, e3, e4, e5, e6, e7, e8, e9, e10, e11, e12, e13, e14, e15, e16, e17, e18, e19, e20, e21, e22, e23, e24, e25, e26, e27, e28, e29, e30, e31, e32, e33, e34, e35, e36, e37, e38, e39, e40, e41, e42, e43, e44, e45, e46, e47, e48, e49, e50, e51, e52, e53, e54, e55, e56, e57, e58, e59, e60, e61, e62, e63, e64, e65] w' :=
  ⟨⟨e3, e4, (fun i => nth [x0, e1, e2, e3, e4, e5, e6, e7, e8, e9, e10, e11, e12, e13, e14, e15, e16, e17, e18, e19, e20, e21, e22, e23, e24, e25, e26, e27, e28, e29, e30, e31, e32, e33, e34, e35, e36, e37, e38, e39, e40, e41, e42, e43, e44, e45, e46, e47, e48, e49, e50, e51, e52, e53, e54, e55, e56, e57, e58, e59, e60, e61, e62, e63, e64, e65] i), rfl, h⟩, hm⟩
theorem oublietteref20_Places.loop1 (J : Value → Value → World → Prop) (m : Value → Value → World → Nat) {R : KV} {X : KX} {w : World} {x0 : Value} {e1 e2 e3 e4 e5 e6 e7 e8 e9 e10 e11 e12 e13 e14 e15 e16 e17 e18 e19 e20 e21 e22 e23 e24 e25 e26 e27 e28 e29 e30 e31 e32 e33 e34 e35 e36 e37 e38 e39 e40 e41 e42 e43 e44 e45 e46 e47 e48 e49 e50 e51 e52 e53 e54 e55 e56 e57 e58 e59 e60 e61 e62 e63 e64 e65 : Value} (h0 : J e3 e4 w)
    (hr : ∀ x3 x4 g w, J x3 x4 w → oublietteref20_Places.b1 x0 x3 x4 g (oublietteref20_Places.N1 J m x0 x3 x4 w) R X w) : oublietteref20_Places.I1 [x0, e1, e2, e3, e4, e5, e6, e7, e8, e9, e10, e11, e12, e13, e14, e15, e16, e17, e18, e19, e20, e21, e22, e23, e24, e25, e26, e27, e28, e29, e30, e31, e32, e33, e34, e35, e36, e37, e38, e39, e40, e41, e42, e43, e44, e45, e46, e47, e48, e49, e50, e51, e52, e53, e54, e55, e56, e57, e58, e59, e60, e61, e62, e63, e64, e65] R X w := by
  rw [oublietteref20_Places.I1_eq]
  refine ⟨fun e w => ∃ y3 y4 g, e = oublietteref20_Places.fr1 x0 y3 y4 g ∧ J y3 y4 w, fun e w => m (nth e 3) (nth e 4) w, ⟨e3, e4, (fun i => nth [x0, e1, e2, e3, e4, e5, e6, e7, e8, e9, e10, e11, e12, e13, e14, e15, e16, e17, e18, e19, e20, e21, e22, e23, e24, e25, e26, e27, e28, e29, e30, e31, e32, e33, e34, e35, e36, e37, e38, e39, e40, e41, e42, e43, e44, e45, e46, e47, e48, e49, e50, e51, e52, e53, e54, e55, e56, e57, e58, e59, e60, e61, e62, e63, e64, e65] i), rfl, h0⟩, ?_⟩
  rintro _ w ⟨y3, y4, g, rfl, hJ⟩
  rw [oublietteref20_Places.b1_eq]
  exact hr y3 y4 g w hJ
def oublietteref20_Places.b (x0 : Value) (R : KV) (X : KX) (w : World) : Prop :=
  oublietteref20_Places.I1 [x0, undef, (.slice none 0 0), (.slice none 0 0), (.int .i64 0), undef, undef, undef, undef, undef, undef, undef, undef, undef, undef, undef, undef, undef, undef, undef, undef, undef, undef, undef, undef, undef, undef, undef, undef, undef, undef, undef, undef, undef, undef, undef, undef, undef, undef, undef, undef, undef, undef, undef, undef, undef, undef, undef, undef, undef, undef, undef, undef, undef, undef, undef, undef, undef, undef, undef, undef, undef, undef, undef, undef, undef] R X w
theorem oublietteref20_Places.b_eq (x0 : Value) (R : KV) (X : KX) (w : World) : atP Try.prog Try.f41 oublietteref20_Places.pl [] [] R X ([x0] ++ undefs 65) w = oublietteref20_Places.b x0 R X w := by kernel_rfl
theorem oublietteref20_Places.calls {x0 : Value} {R : KV} {X : KX} {w : World} (h : oublietteref20_Places.b x0 R X w) : GCalls Try.prog 41 [x0] R X w :=
  gcalls_of (pl := oublietteref20_Places.pl) Try.func41 rfl (by kernel_rfl) hmixed (oublietteref20_Places.b_eq x0 R X w ▸ h)

/-! oubliette/trail.Seen -/
def trail_Seen.pl : Nat → DrawPlan
  | _ => ⟨[], .done⟩
def trail_Seen.j1 (x5 : Value) (x6 : Value) (x7 : Value) (x20 : Value) (x21 : Value) (x22 : Value) (g : Nat → Value) (N1 : List Value → World → Prop) (R : KV) (X : KX) (w : World) : Prop :=
  pBinI .add .i64 x22 (.int .i64 1) fun t37 =>
  N1 [(g 0), (g 1), (g 2), (g 3), (g 4), x5, x6, x7, (g 8), (g 9), (g 10), (g 11), (g 12), (g 13), (g 14), (g 15), (g 16), (g 17), (g 18), (g 19), x20, x21, t37, (g 23), (g 24), (g 25), (g 26), (g 27), (g 28), (g 29), (g 30), (g 31), (g 32), (g 33), (g 34), (g 35), (g 36), t37, (g 38)] w
def trail_Seen.b1 (x5 : Value) (x6 : Value) (x7 : Value) (x20 : Value) (x21 : Value) (x22 : Value) (g : Nat → Value) (N1 : List Value → World → Prop) (R : KV) (X : KX) (w : World) : Prop :=
  pBinI .lss .i64 x22 x21 fun t23 =>
  scond t23
  (pIA 1 x20 x22 fun t24 =>
    pLd (· = w) t24 fun t25 =>
    pRunR Try.prog (· = w) (Instr.lookup 69 x7 t25 false) fun t28 =>
    pBox 55 (.agg #[.int .i64 0, .slice none 0 0]) w fun t10 w =>
    pStN 2 t10 t28 w fun _ w =>
    pLdN (· = w) 2 t10 fun t30 =>
    pCallV Try.prog x5 [t30] X w fun t31 w =>
    scond t31
    (pLdN (· = w) 2 t10 fun t33 =>
      pBSlice 55 1 (rowOf [.int .i64 0, .slice none 0 0] 1) [(0, 2, t33)] w fun t34 w =>
      pCall Try.prog 66 [t34] X w fun t35 w =>
      pApp 55 2 32 [.int .i64 0, .slice none 0 0] x6 t35 w fun t36 w =>
      trail_Seen.j1 x5 t36 x7 x20 x21 x22 (fun i => nth [(g 0), (g 1), (g 2), (g 3), (g 4), x5, t36, x7, (g 8), t25, t10, (g 11), (g 12), (g 13), (g 14), (g 15), (g 16), (g 17), (g 18), (g 19), x20, x21, x22, t23, t24, t25, x7, t25, t28, x5, t30, t31, x6, t33, t34, t35, t36, (g 37), (g 38)] i) N1 R X w)
    (trail_Seen.j1 x5 x6 x7 x20 x21 x22 (fun i => nth [(g 0), (g 1), (g 2), (g 3), (g 4), x5, x6, x7, (g 8), t25, t10, (g 11), (g 12), (g 13), (g 14), (g 15), (g 16), (g 17), (g 18), (g 19), x20, x21, x22, t23, t24, t25, x7, t25, t28, x5, t30, t31, (g 32), (g 33), (g 34), (g 35), (g 36), (g 37), (g 38)] i) N1 R X w))
  (R x6 w)
def trail_Seen.I1 (e : List Value) (R : KV) (X : KX) (w : World) : Prop := atP Try.prog Try.f45 trail_Seen.pl [1, 1, 1, 1, 0, 1, 0] [] R X e w
theorem trail_Seen.I1_eq (e : List Value) (R : KV) (X : KX) (w : World) : trail_Seen.I1 e R X w = loopS (fun N e w => atP Try.prog Try.f45 trail_Seen.pl [1, 1, 1, 1, 0, 1, 0, 0] [N] R X e w) e w := by kernel_rfl
def trail_Seen.fr1 (x5 : Value) (x6 : Value) (x7 : Value) (x20 : Value) (x21 : Value) (x22 : Value) (g : Nat → Value) : List Value := [g 0, g 1, g 2, g 3, g 4, x5, x6, x7, g 8, g 9, g 10, g 11, g 12, g 13, g 14, g 15, g 16, g 17, g 18, g 19, x20, x21, x22, g 23, g 24, g 25, g 26, g 27, g 28, g 29, g 30, g 31, g 32, g 33, g 34, g 35, g 36, g 37, g 38]
theorem trail_Seen.b1_eq (x5 : Value) (x6 : Value) (x7 : Value) (x20 : Value) (x21 : Value) (x22 : Value) (g : Nat → Value) (N1 : List Value → World → Prop) (R : KV) (X : KX) (w : World) : atP Try.prog Try.f45 trail_Seen.pl [1, 1, 1, 1, 0, 1, 0, 0] [N1] R X (trail_Seen.fr1 x5 x6 x7 x20 x21 x22 g) w = trail_Seen.b1 x5 x6 x7 x20 x21 x22 g N1 R X w := by kernel_rfl
/-- What a round of this loop hands on. -/
def trail_Seen.N1 (J : Value → Value → World → Prop) (m : Value → Value → World → Nat) (x5 : Value) (x7 : Value) (x20 : Value) (x21 : Value) (x6 : Value) (x22 : Value) (w : World) : List Value → World → Prop := fun e w' => (∃ y6 y22 g, e = trail_Seen.fr1 x5 y6 x7 x20 x21 y22 g ∧ J y6 y22 w') ∧ m (nth e 6) (nth e 22) w' < m x6 x22 w
theorem trail_Seen.leaf1 {J : Value → Value → World → Prop} {m : Value → Value → World → Nat} {x5 : Value} {x6 : Value} {x7 : Value} {x20 : Value} {x21 : Value} {x22 : Value} {w w' : World} {e0 e1 e2 e3 e4 e6 e8 e9 e10 e11 e12 e13 e14 e15 e16 e17 e18 e19 e22 e23 e24 e25 e26 e27 e28 e29 e30 e31 e32 e33 e34 e35 e36 e37 e38 : Value} (h : J e6 e22 w') (hm : m e6 e22 w' < m x6 x22 w) : trail_Seen.N1 J m x5 x7 x20 x21 x6 x22 w [e0, e1, e2, e3, e4, x5, e6, x7, e8, e9, e10, e11, e12, e13, e14, e15, e16, e17, e18, e19, x20, x21, e22, e23, e24, e25, e26, e27, e28, e29, e30, e31, e32, e33, e34, e35, e36, e37, e38] w' :=
  ⟨⟨e6, e22, (fun i => nth [e0, e1, e2, e3, e4, x5, e6, x7, e8, e9, e10, e11, e12, e13, e14, e15, e16, e17, e18, e19, x20, x21, e22, e23, e24, e25, e26, e27, e28, e29, e30, e31, e32, e33, e34, e35, e36, e37, e38] i), rfl, h⟩, hm⟩
theorem trail_Seen.loop1 (J : Value → Value → World → Prop) (m : Value → Value → World → Nat) {R : KV} {X : KX} {w : World} {x5 : Value} {x7 : Value} {x20 : Value} {x21 : Value} {e0 e1 e2 e3 e4 e6 e8 e9 e10 e11 e12 e13 e14 e15 e16 e17 e18 e19 e22 e23 e24 e25 e26 e27 e28 e29 e30 e31 e32 e33 e34 e35 e36 e37 e38 : Value} (h0 : J e6 e22 w)
    (hr : ∀ x6 x22 g w, J x6 x22 w → trail_Seen.b1 x5 x6 x7 x20 x21 x22 g (trail_Seen.N1 J m x5 x7 x20 x21 x6 x22 w) R X w) : trail_Seen.I1 [e0, e1, e2, e3, e4, x5, e6, x7, e8, e9, e10, e11, e12, e13, e14, e15, e16, e17, e18, e19, x20, x21, e22, e23, e24, e25, e26, e27, e28, e29, e30, e31, e32, e33, e34, e35, e36, e37, e38] R X w := by
  rw [trail_Seen.I1_eq]
  refine ⟨fun e w => ∃ y6 y22 g, e = trail_Seen.fr1 x5 y6 x7 x20 x21 y22 g ∧ J y6 y22 w, fun e w => m (nth e 6) (nth e 22) w, ⟨e6, e22, (fun i => nth [e0, e1, e2, e3, e4, x5, e6, x7, e8, e9, e10, e11, e12, e13, e14, e15, e16, e17, e18, e19, x20, x21, e22, e23, e24, e25, e26, e27, e28, e29, e30, e31, e32, e33, e34, e35, e36, e37, e38] i), rfl, h0⟩, ?_⟩
  rintro _ w ⟨y6, y22, g, rfl, hJ⟩
  rw [trail_Seen.b1_eq]
  exact hr y6 y22 g w hJ
def trail_Seen.b (x0 : Value) (x1 : Value) (R : KV) (X : KX) (w : World) : Prop :=
  pBox 27 x1 w fun t3 w =>
  pCall Try.prog 73 [x0] X w fun t13 w =>
  pCall Try.prog 72 [t13, (.func (.func 70) #[] #[t3])] X w fun t15 w =>
  pCall Try.prog 66 [t15] X w fun t16 w =>
  pCall Try.prog 69 [x0] X w fun t18 w =>
  pCall Try.prog 40 [x0] X w fun t20 w =>
  pLenSl t20 fun t21 =>
  trail_Seen.I1 [x0, x1, undef, t3, (.slice none 0 0), (.func (.func 70) #[] #[t3]), t16, t18, undef, undef, undef, (.func (.func 70) #[] #[t3]), x0, t13, (.func (.func 70) #[] #[t3]), t15, t16, x0, t18, x0, t20, t21, (.int .i64 0), undef, undef, undef, undef, undef, undef, undef, undef, undef, undef, undef, undef, undef, undef, undef, undef] R X w
theorem trail_Seen.b_eq (x0 : Value) (x1 : Value) (R : KV) (X : KX) (w : World) : atP Try.prog Try.f45 trail_Seen.pl [] [] R X ([x0, x1] ++ undefs 37) w = trail_Seen.b x0 x1 R X w := by kernel_rfl
theorem trail_Seen.calls {x0 x1 : Value} {R : KV} {X : KX} {w : World} (h : trail_Seen.b x0 x1 R X w) : GCalls Try.prog 45 [x0, x1] R X w :=
  gcalls_of (pl := trail_Seen.pl) Try.func45 rfl (by kernel_rfl) hmixed (trail_Seen.b_eq x0 x1 R X w ▸ h)

/-! oubliette/oublietteref20.Seen -/
def oublietteref20_Seen.pl : Nat → DrawPlan
  | 13 => ⟨[([], [13, 14]), ([], [3]), ([], [3]), ([1, 2], [1, 2, 4]), ([3], [3, 11]), ([], [9]), ([], [7]), ([6], [6, 8]), ([7], [7, 9]), ([5, 8], [5, 8, 10]), ([9], [9, 11]), ([4, 10], [4, 10, 12]), ([11], [11, 13]), ([0, 12], [0, 12, 14]), ([13, 13, 0, 1, 2, 3, 4, 5, 6, 7, 8, 9, 10, 11, 12, 13], [0, 13])], .take 0 (.take 1 (.take 2 (.take 3 (.take 4 (.take 5 (.take 6 (.take 7 (.take 8 (.take 9 (.take 10 (.take 11 (.world 12 false (.world 13 false (.take 14 (.done)) .none) .none))))))))))))⟩
  | _ => ⟨[], .done⟩
def oublietteref20_Seen.j1 (x0 : Value) (x1 : Value) (x5 : Value) (x6 : Value) (x7 : Value) (g : Nat → Value) (N1 : List Value → World → Prop) (R : KV) (X : KX) (w : World) : Prop :=
  pBinI .add .i64 x7 (.int .i64 1) fun t16 =>
  N1 [x0, x1, (g 2), (g 3), (g 4), x5, x6, t16, (g 8), (g 9), (g 10), (g 11), (g 12), (g 13), (g 14), x7, t16, (g 17), (g 18), (g 19), (g 20), (g 21), (g 22), (g 23), (g 24), (g 25), (g 26), (g 27), (g 28), (g 29), (g 30), (g 31), (g 32), (g 33), (g 34), (g 35), (g 36), (g 37), (g 38), (g 39), (g 40), (g 41), (g 42), (g 43), (g 44), (g 45), (g 46), (g 47), (g 48), (g 49), (g 50), (g 51), (g 52), (g 53), (g 54), (g 55), (g 56), (g 57), (g 58), (g 59), (g 60), (g 61), (g 62), (g 63), (g 64), (g 65), (g 66)] w
def oublietteref20_Seen.b2 (x5 : Value) (x6 : Value) (x8 : Value) (x9 : Value) (g : Nat → Value) (N1 : List Value → World → Prop) (R : KV) (X : KX) (w : World) : Prop :=
  pLenSl x8 fun t42 =>
  pBinI .lss .i64 x9 t42 fun t43 =>
  scond t43
  (pIA 1 x8 x9 fun t49 =>
    pLd (· = w) t49 fun t50 =>
    pCall Try.prog 43 [x6, t50] X w fun t51 w =>
    drawn w fun S w =>
    pIA 1 x8 x9 fun t55 =>
    pLd S t55 fun t56 =>
    pLenSl t51 fun t59 =>
    pBinI .sub .i64 t59 (.int .i64 1) fun t60 =>
    pIA 1 t51 t60 fun t61 =>
    pLd S t61 fun t62 =>
    pBuild [.int .i64 0, .slice none 0 0] [(0, 1, t56), (1, 1, t62)] fun t63 =>
    pBSlice 55 1 (rowOf [.int .i64 0, .slice none 0 0] 1) [(0, 2, t63)] w fun t64 w =>
    S w ∧ (pApp 55 2 32 [.int .i64 0, .slice none 0 0] x5 t64 w fun t65 w =>
      S w ∧ (pBinI .add .i64 x9 (.int .i64 1) fun t45 =>
        N1 [(g 0), (g 1), (g 2), (g 3), (g 4), t65, x6, (g 7), x8, t45, t51, (g 11), (g 12), (g 13), (g 14), (g 15), (g 16), (g 17), (g 18), (g 19), (g 20), (g 21), (g 22), (g 23), (g 24), (g 25), (g 26), (g 27), (g 28), (g 29), (g 30), (g 31), (g 32), (g 33), (g 34), (g 35), (g 36), (g 37), (g 38), (g 39), x9, x8, t42, t43, x9, t45, x6, x8, x9, t49, t50, t51, x5, x8, x9, t55, t56, t51, t51, t59, t60, t61, t62, t63, t64, t65, (g 66)] w)))
  (R x5 w)
def oublietteref20_Seen.I2 (e : List Value) (R : KV) (X : KX) (w : World) : Prop := atP Try.prog Try.f46 oublietteref20_Seen.pl [1, 1, 1, 1, 0, 1, 0] [] R X e w
theorem oublietteref20_Seen.I2_eq (e : List Value) (R : KV) (X : KX) (w : World) : oublietteref20_Seen.I2 e R X w = loopS (fun N e w => atP Try.prog Try.f46 oublietteref20_Seen.pl [1, 1, 1, 1, 0, 1, 0, 0] [N] R X e w) e w := by kernel_rfl
def oublietteref20_Seen.fr2 (x5 : Value) (x6 : Value) (x8 : Value) (x9 : Value) (g : Nat → Value) : List Value := [g 0, g 1, g 2, g 3, g 4, x5, x6, g 7, x8, x9, g 10, g 11, g 12, g 13, g 14, g 15, g 16, g 17, g 18, g 19, g 20, g 21, g 22, g 23, g 24, g 25, g 26, g 27, g 28, g 29, g 30, g 31, g 32, g 33, g 34, g 35, g 36, g 37, g 38, g 39, g 40, g 41, g 42, g 43, g 44, g 45, g 46, g 47, g 48, g 49, g 50, g 51, g 52, g 53, g 54, g 55, g 56, g 57, g 58, g 59, g 60, g 61, g 62, g 63, g 64, g 65, g 66]
theorem oublietteref20_Seen.b2_eq (x5 : Value) (x6 : Value) (x8 : Value) (x9 : Value) (g : Nat → Value) (N1 : List Value → World → Prop) (R : KV) (X : KX) (w : World) : atP Try.prog Try.f46 oublietteref20_Seen.pl [1, 1, 1, 1, 0, 1, 0, 0] [N1] R X (oublietteref20_Seen.fr2 x5 x6 x8 x9 g) w = oublietteref20_Seen.b2 x5 x6 x8 x9 g N1 R X w := by kernel_rfl
/-- What a round of this loop hands on. -/
def oublietteref20_Seen.N2 (J : Value → Value → World → Prop) (m : Value → Value → World → Nat) (x6 : Value) (x8 : Value) (x5 : Value) (x9 : Value) (w : World) : List Value → World → Prop := fun e w' => (∃ y5 y9 g, e = oublietteref20_Seen.fr2 y5 x6 x8 y9 g ∧ J y5 y9 w') ∧ m (nth e 5) (nth e 9) w' < m x5 x9 w
theorem oublietteref20_Seen.leaf2 {J : Value → Value → World → Prop} {m : Value → Value → World → Nat} {x5 : Value} {x6 : Value} {x8 : Value} {x9 : Value} {w w' : World} {e0 e1 e2 e3 e4 e5 e7 e9 e10 e11 e12 e13 e14 e15 e16 e17 e18 e19 e20 e21 e22 e23 e24 e25 e26 e27 e28 e29 e30 e31 e32 e33 e34 e35 e36 e37 e38 e39 e40 e41 e42 e43 e44 e45 e46 e47 e48 e49 e50 e51 e52 e53 e54 e55 e56 e57 e58 e59 e60 e61 e62 e63 e64 e65 e66 : Value} (h : J e5 e9 w') (hm : m e5 e9 w' < m x5 x9 w) : oublietteref20_Seen.N2 J m x6 x8 x5 x9 w [e0, e1, e2, e3, e4, e5, x6, e7, x8, e9, e10, e11, e12, e13, e14, e15, e16, e17, e18, e19, e20, e21, e22, e23, e24, e25, e26, e27, e28, e29, e30, e31, e32, e33, e34, e35, e36, e37, e38, e39, e40, e41, e42, e43, e44, e45, e46, e47, e48, e49, e50, e51, e52, e53, e54, e55, e56, e57, e58, e59, e60, e61, e62, e63, e64, e65, e66] w' :=
  ⟨⟨e5, e9, (fun i => nth [e0, e1, e2, e3, e4, e5, x6, e7, x8, e9, e10, e11, e12, e13, e14, e15, e16, e17, e18, e19, e20, e21, e22, e23, e24, e25, e26, e27, e28, e29, e30, e31, e32, e33, e34, e35, e36, e37, e38, e39, e40, e41, e42, e43, e44, e45, e46, e47, e48, e49, e50, e51, e52, e53, e54, e55, e56, e57, e58, e59, e60, e61, e62, e63, e64, e65, e66] i), rfl, h⟩, hm⟩
theorem oublietteref20_Seen.loop2 (J : Value → Value → World → Prop) (m : Value → Value → World → Nat) {R : KV} {X : KX} {w : World} {x6 : Value} {x8 : Value} {e0 e1 e2 e3 e4 e5 e7 e9 e10 e11 e12 e13 e14 e15 e16 e17 e18 e19 e20 e21 e22 e23 e24 e25 e26 e27 e28 e29 e30 e31 e32 e33 e34 e35 e36 e37 e38 e39 e40 e41 e42 e43 e44 e45 e46 e47 e48 e49 e50 e51 e52 e53 e54 e55 e56 e57 e58 e59 e60 e61 e62 e63 e64 e65 e66 : Value} (h0 : J e5 e9 w)
    (hr : ∀ x5 x9 g w, J x5 x9 w → oublietteref20_Seen.b2 x5 x6 x8 x9 g (oublietteref20_Seen.N2 J m x6 x8 x5 x9 w) R X w) : oublietteref20_Seen.I2 [e0, e1, e2, e3, e4, e5, x6, e7, x8, e9, e10, e11, e12, e13, e14, e15, e16, e17, e18, e19, e20, e21, e22, e23, e24, e25, e26, e27, e28, e29, e30, e31, e32, e33, e34, e35, e36, e37, e38, e39, e40, e41, e42, e43, e44, e45, e46, e47, e48, e49, e50, e51, e52, e53, e54, e55, e56, e57, e58, e59, e60, e61, e62, e63, e64, e65, e66] R X w := by
  rw [oublietteref20_Seen.I2_eq]
  refine ⟨fun e w => ∃ y5 y9 g, e = oublietteref20_Seen.fr2 y5 x6 x8 y9 g ∧ J y5 y9 w, fun e w => m (nth e 5) (nth e 9) w, ⟨e5, e9, (fun i => nth [e0, e1, e2, e3, e4, e5, x6, e7, x8, e9, e10, e11, e12, e13, e14, e15, e16, e17, e18, e19, e20, e21, e22, e23, e24, e25, e26, e27, e28, e29, e30, e31, e32, e33, e34, e35, e36, e37, e38, e39, e40, e41, e42, e43, e44, e45, e46, e47, e48, e49, e50, e51, e52, e53, e54, e55, e56, e57, e58, e59, e60, e61, e62, e63, e64, e65, e66] i), rfl, h0⟩, ?_⟩
  rintro _ w ⟨y5, y9, g, rfl, hJ⟩
  rw [oublietteref20_Seen.b2_eq]
  exact hr y5 y9 g w hJ
def oublietteref20_Seen.b1 (x0 : Value) (x1 : Value) (x5 : Value) (x6 : Value) (x7 : Value) (g : Nat → Value) (N1 : List Value → World → Prop) (R : KV) (X : KX) (w : World) : Prop :=
  pLenSl x0 fun t13 =>
  pBinI .lss .i64 x7 t13 fun t14 =>
  scond t14
  (pIA 2 x0 x7 fun t20 =>
    pFA 0 t20 fun t21 =>
    pLd (· = w) t21 fun t22 =>
    pCall Try.prog 44 [x1, t22] X w fun t23 w =>
    scond t23
    (pIA 2 x0 x7 fun t27 =>
      pLdN (· = w) 2 t27 fun t28 =>
      pBSlice 55 1 (rowOf [.int .i64 0, .slice none 0 0] 1) [(0, 2, t28)] w fun t29 w =>
      pApp 55 2 32 [.int .i64 0, .slice none 0 0] x6 t29 w fun t30 w =>
      oublietteref20_Seen.j1 x0 x1 x5 t30 x7 (fun i => nth [x0, x1, (g 2), (g 3), (g 4), x5, t30, x7, (g 8), (g 9), (g 10), x7, x0, t13, t14, (g 15), (g 16), x1, x0, x7, t20, t21, t22, t23, x6, x0, x7, t27, t28, t29, t30, (g 31), (g 32), (g 33), (g 34), (g 35), (g 36), (g 37), (g 38), (g 39), (g 40), (g 41), (g 42), (g 43), (g 44), (g 45), (g 46), (g 47), (g 48), (g 49), (g 50), (g 51), (g 52), (g 53), (g 54), (g 55), (g 56), (g 57), (g 58), (g 59), (g 60), (g 61), (g 62), (g 63), (g 64), (g 65), (g 66)] i) N1 R X w)
    (pIA 2 x0 x7 fun t34 =>
      pLdN (· = w) 2 t34 fun t35 =>
      pBSlice 55 1 (rowOf [.int .i64 0, .slice none 0 0] 1) [(0, 2, t35)] w fun t36 w =>
      pApp 55 2 32 [.int .i64 0, .slice none 0 0] x5 t36 w fun t37 w =>
      oublietteref20_Seen.j1 x0 x1 t37 x6 x7 (fun i => nth [x0, x1, (g 2), (g 3), (g 4), t37, x6, x7, (g 8), (g 9), (g 10), x7, x0, t13, t14, (g 15), (g 16), x1, x0, x7, t20, t21, t22, t23, (g 24), (g 25), (g 26), (g 27), (g 28), (g 29), (g 30), x5, x0, x7, t34, t35, t36, t37, (g 38), (g 39), (g 40), (g 41), (g 42), (g 43), (g 44), (g 45), (g 46), (g 47), (g 48), (g 49), (g 50), (g 51), (g 52), (g 53), (g 54), (g 55), (g 56), (g 57), (g 58), (g 59), (g 60), (g 61), (g 62), (g 63), (g 64), (g 65), (g 66)] i) N1 R X w))
  (pCall Try.prog 41 [x6] X w fun t39 w =>
    oublietteref20_Seen.I2 [x0, x1, (g 2), (g 3), (g 4), x5, x6, x7, t39, (.int .i64 0), (g 10), x7, x0, t13, t14, (g 15), (g 16), (g 17), (g 18), (g 19), (g 20), (g 21), (g 22), (g 23), (g 24), (g 25), (g 26), (g 27), (g 28), (g 29), (g 30), (g 31), (g 32), (g 33), (g 34), (g 35), (g 36), (g 37), x6, t39, (g 40), (g 41), (g 42), (g 43), (g 44), (g 45), (g 46), (g 47), (g 48), (g 49), (g 50), (g 51), (g 52), (g 53), (g 54), (g 55), (g 56), (g 57), (g 58), (g 59), (g 60), (g 61), (g 62), (g 63), (g 64), (g 65), (g 66)] R X w)
def oublietteref20_Seen.I1 (e : List Value) (R : KV) (X : KX) (w : World) : Prop := atP Try.prog Try.f46 oublietteref20_Seen.pl [1, 1, 0, 1, 0] [] R X e w
theorem oublietteref20_Seen.I1_eq (e : List Value) (R : KV) (X : KX) (w : World) : oublietteref20_Seen.I1 e R X w = loopS (fun N e w => atP Try.prog Try.f46 oublietteref20_Seen.pl [1, 1, 0, 1, 0, 0] [N] R X e w) e w := by kernel_rfl
def oublietteref20_Seen.fr1 (x0 : Value) (x1 : Value) (x5 : Value) (x6 : Value) (x7 : Value) (g : Nat → Value) : List Value := [x0, x1, g 2, g 3, g 4, x5, x6, x7, g 8, g 9, g 10, g 11, g 12, g 13, g 14, g 15, g 16, g 17, g 18, g 19, g 20, g 21, g 22, g 23, g 24, g 25, g 26, g 27, g 28, g 29, g 30, g 31, g 32, g 33, g 34, g 35, g 36, g 37, g 38, g 39, g 40, g 41, g 42, g 43, g 44, g 45, g 46, g 47, g 48, g 49, g 50, g 51, g 52, g 53, g 54, g 55, g 56, g 57, g 58, g 59, g 60, g 61, g 62, g 63, g 64, g 65, g 66]
theorem oublietteref20_Seen.b1_eq (x0 : Value) (x1 : Value) (x5 : Value) (x6 : Value) (x7 : Value) (g : Nat → Value) (N1 : List Value → World → Prop) (R : KV) (X : KX) (w : World) : atP Try.prog Try.f46 oublietteref20_Seen.pl [1, 1, 0, 1, 0, 0] [N1] R X (oublietteref20_Seen.fr1 x0 x1 x5 x6 x7 g) w = oublietteref20_Seen.b1 x0 x1 x5 x6 x7 g N1 R X w := by kernel_rfl
/-- What a round of this loop hands on. -/
def oublietteref20_Seen.N1 (J : Value → Value → Value → World → Prop) (m : Value → Value → Value → World → Nat) (x0 : Value) (x1 : Value) (x5 : Value) (x6 : Value) (x7 : Value) (w : World) : List Value → World → Prop := fun e w' => (∃ y5 y6 y7 g, e = oublietteref20_Seen.fr1 x0 x1 y5 y6 y7 g ∧ J y5 y6 y7 w') ∧ m (nth e 5) (nth e 6) (nth e 7) w' < m x5 x6 x7 w
theorem oublietteref20_Seen.leaf1 {J : Value → Value → Value → World → Prop} {m : Value → Value → Value → World → Nat} {x0 : Value} {x1 : Value} {x5 : Value} {x6 : Value} {x7 : Value} {w w' : World} {e2 e3 e4 e5 e6 e7 e8 e9 e10 e11 e12 e13 e14 e15 e16 e17 e18 e19 e20 e21 e22 e23 e24 e25 e26 e27 e28 e29 e30 e31 e32 e33 e34 e35 e36 e37 e38 e39 e40 e41 e42 e43 e44 e45 e46 e47 e48 e49 e50 e51 e52 e53 e54 e55 e56 e57 e58 e59 e60 e61 e62 e63 e64 e65 e66 : Value} (h : J e5 e6 e7 w') (hm : m e5 e6 e7 w' < m x5 x6 x7 w) : oublietteref20_Seen.N1 J m x0 x1 x5 x6 x7 w [x0, x1, e2, e3, e4, e5, e6, e7, e8, e9, e10, e11, e12, e13, e14, e15, e16, e17, e18, e19, e20, e21, e22, e23, e24, e25, e26, e27, e28, e29, e30, e31, e32, e33, e34, e35, e36, e37, e38, e39, e40, e41, e42, e43, e44, e45, e46, e47, e48, e49, e50, e51, e52, e53, e54, e55, e56, e57, e58, e59, e60, e61, e62, e63, e64, e65, e66] w' :=
  ⟨⟨e5, e6, e7, (fun i => nth [x0, x1, e2, e3, e4, e5, e6, e7, e8, e9, e10, e11, e12, e13, e14, e15, e16, e17, e18, e19, e20, e21, e22, e23, e24, e25, e26, e27, e28, e29, e30, e31, e32, e33, e34, e35, e36, e37, e38, e39, e40, e41, e42, e43, e44, e45, e46, e47, e48, e49, e50, e51, e52, e53, e54, e55, e56, e57, e58, e59, e60, e61, e62, e63, e64, e65, e66] i), rfl, h⟩, hm⟩
theorem oublietteref20_Seen.loop1 (J : Value → Value → Value → World → Prop) (m : Value → Value → Value → World → Nat) {R : KV} {X : KX} {w : World} {x0 : Value} {x1 : Value} {e2 e3 e4 e5 e6 e7 e8 e9 e10 e11 e12 e13 e14 e15 e16 e17 e18 e19 e20 e21 e22 e23 e24 e25 e26 e27 e28 e29 e30 e31 e32 e33 e34 e35 e36 e37 e38 e39 e40 e41 e42 e43 e44 e45 e46 e47 e48 e49 e50 e51 e52 e53 e54 e55 e56 e57 e58 e59 e60 e61 e62 e63 e64 e65 e66 : Value} (h0 : J e5 e6 e7 w)
    (hr : ∀ x5 x6 x7 g w, J x5 x6 x7 w → oublietteref20_Seen.b1 x0 x1 x5 x6 x7 g (oublietteref20_Seen.N1 J m x0 x1 x5 x6 x7 w) R X w) : oublietteref20_Seen.I1 [x0, x1, e2, e3, e4, e5, e6, e7, e8, e9, e10, e11, e12, e13, e14, e15, e16, e17, e18, e19, e20, e21, e22, e23, e24, e25, e26, e27, e28, e29, e30, e31, e32, e33, e34, e35, e36, e37, e38, e39, e40, e41, e42, e43, e44, e45, e46, e47, e48, e49, e50, e51, e52, e53, e54, e55, e56, e57, e58, e59, e60, e61, e62, e63, e64, e65, e66] R X w := by
  rw [oublietteref20_Seen.I1_eq]
  refine ⟨fun e w => ∃ y5 y6 y7 g, e = oublietteref20_Seen.fr1 x0 x1 y5 y6 y7 g ∧ J y5 y6 y7 w, fun e w => m (nth e 5) (nth e 6) (nth e 7) w, ⟨e5, e6, e7, (fun i => nth [x0, x1, e2, e3, e4, e5, e6, e7, e8, e9, e10, e11, e12, e13, e14, e15, e16, e17, e18, e19, e20, e21, e22, e23, e24, e25, e26, e27, e28, e29, e30, e31, e32, e33, e34, e35, e36, e37, e38, e39, e40, e41, e42, e43, e44, e45, e46, e47, e48, e49, e50, e51, e52, e53, e54, e55, e56, e57, e58, e59, e60, e61, e62, e63, e64, e65, e66] i), rfl, h0⟩, ?_⟩
  rintro _ w ⟨y5, y6, y7, g, rfl, hJ⟩
  rw [oublietteref20_Seen.b1_eq]
  exact hr y5 y6 y7 g w hJ
def oublietteref20_Seen.b (x0 : Value) (x1 : Value) (R : KV) (X : KX) (w : World) : Prop :=
  oublietteref20_Seen.I1 [x0, x1, undef, undef, (.slice none 0 0), (.slice none 0 0), (.slice none 0 0), (.int .i64 0), undef, undef, undef, undef, undef, undef, undef, undef, undef, undef, undef, undef, undef, undef, undef, undef, undef, undef, undef, undef, undef, undef, undef, undef, undef, undef, undef, undef, undef, undef, undef, undef, undef, undef, undef, undef, undef, undef, undef, undef, undef, undef, undef, undef, undef, undef, undef, undef, undef, undef, undef, undef, undef, undef, undef, undef, undef, undef, undef] R X w
theorem oublietteref20_Seen.b_eq (x0 : Value) (x1 : Value) (R : KV) (X : KX) (w : World) : atP Try.prog Try.f46 oublietteref20_Seen.pl [] [] R X ([x0, x1] ++ undefs 65) w = oublietteref20_Seen.b x0 x1 R X w := by kernel_rfl
theorem oublietteref20_Seen.calls {x0 x1 : Value} {R : KV} {X : KX} {w : World} (h : oublietteref20_Seen.b x0 x1 R X w) : GCalls Try.prog 46 [x0, x1] R X w :=
  gcalls_of (pl := oublietteref20_Seen.pl) Try.func46 rfl (by kernel_rfl) hmixed (oublietteref20_Seen.b_eq x0 x1 R X w ▸ h)

/-! oubliette/oublietteref27.Path -/
def oublietteref27_Path.pl : Nat → DrawPlan
  | _ => ⟨[], .done⟩
def oublietteref27_Path.b1 (x2 : Value) (x5 : Value) (x6 : Value) (g : Nat → Value) (N1 : List Value → World → Prop) (R : KV) (X : KX) (w : World) : Prop :=
  pBinI .gtr .i64 x6 (.int .i64 0) fun t13 =>
  scond t13
  (pLdN (· = w) 3 x2 fun t14 =>
    pCall Try.prog 21 [t14, x6] X w fun t16 w =>
    pBSlice 3 1 (rowOf [.int .i64 0] 1) [(0, 1, t16)] w fun t18 w =>
    pApp 3 1 8 [.int .i64 0] t18 x5 w fun t20 w =>
    N1 [(g 0), (g 1), x2, (g 3), (g 4), t20, t16, (g 7), (g 8), (g 9), (g 10), (g 11), x6, t13, t14, x6, t16, t16, t18, x5, t20, (g 21)] w)
  (R x5 w)
def oublietteref27_Path.I1 (e : List Value) (R : KV) (X : KX) (w : World) : Prop := atP Try.prog Try.f48 oublietteref27_Path.pl [1, 1, 1, 1, 0, 0] [] R X e w
theorem oublietteref27_Path.I1_eq (e : List Value) (R : KV) (X : KX) (w : World) : oublietteref27_Path.I1 e R X w = loopS (fun N e w => atP Try.prog Try.f48 oublietteref27_Path.pl [1, 1, 1, 1, 0, 0, 0] [N] R X e w) e w := by kernel_rfl
def oublietteref27_Path.fr1 (x2 : Value) (x5 : Value) (x6 : Value) (g : Nat → Value) : List Value := [g 0, g 1, x2, g 3, g 4, x5, x6, g 7, g 8, g 9, g 10, g 11, g 12, g 13, g 14, g 15, g 16, g 17, g 18, g 19, g 20, g 21]
theorem oublietteref27_Path.b1_eq (x2 : Value) (x5 : Value) (x6 : Value) (g : Nat → Value) (N1 : List Value → World → Prop) (R : KV) (X : KX) (w : World) : atP Try.prog Try.f48 oublietteref27_Path.pl [1, 1, 1, 1, 0, 0, 0] [N1] R X (oublietteref27_Path.fr1 x2 x5 x6 g) w = oublietteref27_Path.b1 x2 x5 x6 g N1 R X w := by kernel_rfl
/-- What a round of this loop hands on. -/
def oublietteref27_Path.N1 (J : Value → Value → World → Prop) (m : Value → Value → World → Nat) (x2 : Value) (x5 : Value) (x6 : Value) (w : World) : List Value → World → Prop := fun e w' => (∃ y5 y6 g, e = oublietteref27_Path.fr1 x2 y5 y6 g ∧ J y5 y6 w') ∧ m (nth e 5) (nth e 6) w' < m x5 x6 w
theorem oublietteref27_Path.leaf1 {J : Value → Value → World → Prop} {m : Value → Value → World → Nat} {x2 : Value} {x5 : Value} {x6 : Value} {w w' : World} {e0 e1 e3 e4 e5 e6 e7 e8 e9 e10 e11 e12 e13 e14 e15 e16 e17 e18 e19 e20 e21 : Value} (h : J e5 e6 w') (hm : m e5 e6 w' < m x5 x6 w) : oublietteref27_Path.N1 J m x2 x5 x6 w [e0, e1, x2, e3, e4, e5, e6, e7, e8, e9, e10, e11, e12, e13, e14, e15, e16, e17, e18, e19, e20, e21] w' :=
  ⟨⟨e5, e6, (fun i => nth [e0, e1, x2, e3, e4, e5, e6, e7, e8, e9, e10, e11, e12, e13, e14, e15, e16, e17, e18, e19, e20, e21] i), rfl, h⟩, hm⟩
theorem oublietteref27_Path.loop1 (J : Value → Value → World → Prop) (m : Value → Value → World → Nat) {R : KV} {X : KX} {w : World} {x2 : Value} {e0 e1 e3 e4 e5 e6 e7 e8 e9 e10 e11 e12 e13 e14 e15 e16 e17 e18 e19 e20 e21 : Value} (h0 : J e5 e6 w)
    (hr : ∀ x5 x6 g w, J x5 x6 w → oublietteref27_Path.b1 x2 x5 x6 g (oublietteref27_Path.N1 J m x2 x5 x6 w) R X w) : oublietteref27_Path.I1 [e0, e1, x2, e3, e4, e5, e6, e7, e8, e9, e10, e11, e12, e13, e14, e15, e16, e17, e18, e19, e20, e21] R X w := by
  rw [oublietteref27_Path.I1_eq]
  refine ⟨fun e w => ∃ y5 y6 g, e = oublietteref27_Path.fr1 x2 y5 y6 g ∧ J y5 y6 w, fun e w => m (nth e 5) (nth e 6) w, ⟨e5, e6, (fun i => nth [e0, e1, x2, e3, e4, e5, e6, e7, e8, e9, e10, e11, e12, e13, e14, e15, e16, e17, e18, e19, e20, e21] i), rfl, h0⟩, ?_⟩
  rintro _ w ⟨y5, y6, g, rfl, hJ⟩
  rw [oublietteref27_Path.b1_eq]
  exact hr y5 y6 g w hJ
def oublietteref27_Path.b (x0 : Value) (x1 : Value) (R : KV) (X : KX) (w : World) : Prop :=
  pBox 33 x0 w fun t2 w =>
  pLdN (· = w) 3 t2 fun t7 =>
  pCall Try.prog 27 [t7, x1] X w fun t9 w =>
  pBinI .lss .i64 t9 (.int .i64 0) fun t11 =>
  scond t11
  (R (.slice none 0 0) w)
  (oublietteref27_Path.I1 [x0, x1, t2, undef, (.slice none 0 0), (.slice none 0 0), t9, t7, x1, t9, t9, t11, undef, undef, undef, undef, undef, undef, undef, undef, undef, undef] R X w)
theorem oublietteref27_Path.b_eq (x0 : Value) (x1 : Value) (R : KV) (X : KX) (w : World) : atP Try.prog Try.f48 oublietteref27_Path.pl [] [] R X ([x0, x1] ++ undefs 20) w = oublietteref27_Path.b x0 x1 R X w := by kernel_rfl
theorem oublietteref27_Path.calls {x0 x1 : Value} {R : KV} {X : KX} {w : World} (h : oublietteref27_Path.b x0 x1 R X w) : GCalls Try.prog 48 [x0, x1] R X w :=
  gcalls_of (pl := oublietteref27_Path.pl) Try.func48 rfl (by kernel_rfl) hmixed (oublietteref27_Path.b_eq x0 x1 R X w ▸ h)

/-! oubliette/shape.Touched -/
def shape_Touched.pl : Nat → DrawPlan
  | 5 => ⟨[([], [4]), ([], [3]), ([], [3]), ([1, 2], [1, 2, 4]), ([0, 3, 3], [0, 3, 5]), ([4], [4]), ([], [])], .take 0 (.take 1 (.take 2 (.take 6 (.world 3 false (.world 4 false (.take 5 (.done)) .none) .none))))⟩
  | _ => ⟨[], .done⟩
def shape_Touched.b2 (x2 : Value) (x5 : Value) (x11 : Value) (x12 : Value) (x13 : Value) (x21 : Value) (x22 : Value) (x23 : Value) (g : Nat → Value) (N1 : List Value → World → Prop) (N2 : List Value → World → Prop) (R : KV) (X : KX) (w : World) : Prop :=
  pBinI .lss .i64 x23 x22 fun t24 =>
  scond t24
  (pIA 1 x21 x23 fun t25 =>
    pLd (· = w) t25 fun t26 =>
    pRunR Try.prog (· = w) (Instr.lookup 74 x5 t26 false) fun t29 =>
    pBinI .add .i64 t29 (.int .i64 1) fun t30 =>
    pRunU Try.prog (Instr.mapUpdate 74 x5 t26 t30) w fun _ w =>
    pBinI .add .i64 x23 (.int .i64 1) fun t31 =>
    N2 [(g 0), (g 1), x2, (g 3), (g 4), x5, (g 6), (g 7), (g 8), t26, (g 10), x11, x12, x13, (g 14), (g 15), (g 16), (g 17), (g 18), (g 19), (g 20), x21, x22, t31, t24, t25, t26, x5, t26, t29, t30, t31, (g 32), (g 33), (g 34), (g 35)] w)
  (pBinI .add .i64 x13 (.int .i64 1) fun t32 =>
    N1 [(g 0), (g 1), x2, (g 3), (g 4), x5, (g 6), (g 7), (g 8), (g 9), (g 10), x11, x12, t32, (g 14), (g 15), (g 16), (g 17), (g 18), (g 19), (g 20), x21, x22, x23, t24, (g 25), (g 26), (g 27), (g 28), (g 29), (g 30), (g 31), t32, (g 33), (g 34), (g 35)] w)
def shape_Touched.I2 (e : List Value) (N1 : List Value → World → Prop) (R : KV) (X : KX) (w : World) : Prop := atP Try.prog Try.f49 shape_Touched.pl [1, 1, 0, 1, 0, 0, 1, 1, 0, 0, 1, 1, 0] [N1] R X e w
theorem shape_Touched.I2_eq (e : List Value) (N1 : List Value → World → Prop) (R : KV) (X : KX) (w : World) : shape_Touched.I2 e N1 R X w = loopS (fun N e w => atP Try.prog Try.f49 shape_Touched.pl [1, 1, 0, 1, 0, 0, 1, 1, 0, 0, 1, 1, 0, 0] [N1, N] R X e w) e w := by kernel_rfl
def shape_Touched.fr2 (x2 : Value) (x5 : Value) (x11 : Value) (x12 : Value) (x13 : Value) (x21 : Value) (x22 : Value) (x23 : Value) (g : Nat → Value) : List Value := [g 0, g 1, x2, g 3, g 4, x5, g 6, g 7, g 8, g 9, g 10, x11, x12, x13, g 14, g 15, g 16, g 17, g 18, g 19, g 20, x21, x22, x23, g 24, g 25, g 26, g 27, g 28, g 29, g 30, g 31, g 32, g 33, g 34, g 35]
theorem shape_Touched.b2_eq (x2 : Value) (x5 : Value) (x11 : Value) (x12 : Value) (x13 : Value) (x21 : Value) (x22 : Value) (x23 : Value) (g : Nat → Value) (N1 : List Value → World → Prop) (N2 : List Value → World → Prop) (R : KV) (X : KX) (w : World) : atP Try.prog Try.f49 shape_Touched.pl [1, 1, 0, 1, 0, 0, 1, 1, 0, 0, 1, 1, 0, 0] [N1, N2] R X (shape_Touched.fr2 x2 x5 x11 x12 x13 x21 x22 x23 g) w = shape_Touched.b2 x2 x5 x11 x12 x13 x21 x22 x23 g N1 N2 R X w := by kernel_rfl
/-- What a round of this loop hands on. -/
def shape_Touched.N2 (J : Value → World → Prop) (m : Value → World → Nat) (x2 : Value) (x5 : Value) (x11 : Value) (x12 : Value) (x13 : Value) (x21 : Value) (x22 : Value) (x23 : Value) (w : World) : List Value → World → Prop := fun e w' => (∃ y23 g, e = shape_Touched.fr2 x2 x5 x11 x12 x13 x21 x22 y23 g ∧ J y23 w') ∧ m (nth e 23) w' < m x23 w
theorem shape_Touched.leaf2 {J : Value → World → Prop} {m : Value → World → Nat} {x2 : Value} {x5 : Value} {x11 : Value} {x12 : Value} {x13 : Value} {x21 : Value} {x22 : Value} {x23 : Value} {w w' : World} {e0 e1 e3 e4 e6 e7 e8 e9 e10 e14 e15 e16 e17 e18 e19 e20 e23 e24 e25 e26 e27 e28 e29 e30 e31 e32 e33 e34 e35 : Value} (h : J e23 w') (hm : m e23 w' < m x23 w) : shape_Touched.N2 J m x2 x5 x11 x12 x13 x21 x22 x23 w [e0, e1, x2, e3, e4, x5, e6, e7, e8, e9, e10, x11, x12, x13, e14, e15, e16, e17, e18, e19, e20, x21, x22, e23, e24, e25, e26, e27, e28, e29, e30, e31, e32, e33, e34, e35] w' :=
  ⟨⟨e23, (fun i => nth [e0, e1, x2, e3, e4, x5, e6, e7, e8, e9, e10, x11, x12, x13, e14, e15, e16, e17, e18, e19, e20, x21, x22, e23, e24, e25, e26, e27, e28, e29, e30, e31, e32, e33, e34, e35] i), rfl, h⟩, hm⟩
theorem shape_Touched.loop2 (J : Value → World → Prop) (m : Value → World → Nat) {N1 : List Value → World → Prop} {R : KV} {X : KX} {w : World} {x2 : Value} {x5 : Value} {x11 : Value} {x12 : Value} {x13 : Value} {x21 : Value} {x22 : Value} {e0 e1 e3 e4 e6 e7 e8 e9 e10 e14 e15 e16 e17 e18 e19 e20 e23 e24 e25 e26 e27 e28 e29 e30 e31 e32 e33 e34 e35 : Value} (h0 : J e23 w)
    (hr : ∀ x23 g w, J x23 w → shape_Touched.b2 x2 x5 x11 x12 x13 x21 x22 x23 g N1 (shape_Touched.N2 J m x2 x5 x11 x12 x13 x21 x22 x23 w) R X w) : shape_Touched.I2 [e0, e1, x2, e3, e4, x5, e6, e7, e8, e9, e10, x11, x12, x13, e14, e15, e16, e17, e18, e19, e20, x21, x22, e23, e24, e25, e26, e27, e28, e29, e30, e31, e32, e33, e34, e35] N1 R X w := by
  rw [shape_Touched.I2_eq]
  refine ⟨fun e w => ∃ y23 g, e = shape_Touched.fr2 x2 x5 x11 x12 x13 x21 x22 y23 g ∧ J y23 w, fun e w => m (nth e 23) w, ⟨e23, (fun i => nth [e0, e1, x2, e3, e4, x5, e6, e7, e8, e9, e10, x11, x12, x13, e14, e15, e16, e17, e18, e19, e20, x21, x22, e23, e24, e25, e26, e27, e28, e29, e30, e31, e32, e33, e34, e35] i), rfl, h0⟩, ?_⟩
  rintro _ w ⟨y23, g, rfl, hJ⟩
  rw [shape_Touched.b2_eq]
  exact hr y23 g w hJ
def shape_Touched.b1 (x2 : Value) (x5 : Value) (x11 : Value) (x12 : Value) (x13 : Value) (g : Nat → Value) (N1 : List Value → World → Prop) (R : KV) (X : KX) (w : World) : Prop :=
  pBinI .lss .i64 x13 x12 fun t14 =>
  scond t14
  (pIA 1 x11 x13 fun t15 =>
    pLd (· = w) t15 fun t16 =>
    drawn w fun S w =>
    pLdN S 3 x2 fun t17 =>
    pLdN S 3 x2 fun t18 =>
    pCall Try.prog 26 [t18, t16] X w fun t20 w =>
    S w ∧ (pCall Try.prog 60 [t17, t20] X w fun t21 w =>
      S w ∧ (pLenSl t21 fun t22 =>
        shape_Touched.I2 [(g 0), (g 1), x2, (g 3), (g 4), x5, (g 6), t16, (g 8), (g 9), (g 10), x11, x12, x13, t14, t15, t16, t17, t18, t16, t20, t21, t22, (.int .i64 0), (g 24), (g 25), (g 26), (g 27), (g 28), (g 29), (g 30), (g 31), (g 32), (g 33), (g 34), (g 35)] N1 R X w)))
  (pCall Try.prog 75 [x5] X w fun t34 w =>
    pCall Try.prog 67 [t34] X w fun t35 w =>
    R t35 w)
def shape_Touched.I1 (e : List Value) (R : KV) (X : KX) (w : World) : Prop := atP Try.prog Try.f49 shape_Touched.pl [1, 1, 0, 1, 0] [] R X e w
theorem shape_Touched.I1_eq (e : List Value) (R : KV) (X : KX) (w : World) : shape_Touched.I1 e R X w = loopS (fun N e w => atP Try.prog Try.f49 shape_Touched.pl [1, 1, 0, 1, 0, 0] [N] R X e w) e w := by kernel_rfl
def shape_Touched.fr1 (x2 : Value) (x5 : Value) (x11 : Value) (x12 : Value) (x13 : Value) (g : Nat → Value) : List Value := [g 0, g 1, x2, g 3, g 4, x5, g 6, g 7, g 8, g 9, g 10, x11, x12, x13, g 14, g 15, g 16, g 17, g 18, g 19, g 20, g 21, g 22, g 23, g 24, g 25, g 26, g 27, g 28, g 29, g 30, g 31, g 32, g 33, g 34, g 35]
theorem shape_Touched.b1_eq (x2 : Value) (x5 : Value) (x11 : Value) (x12 : Value) (x13 : Value) (g : Nat → Value) (N1 : List Value → World → Prop) (R : KV) (X : KX) (w : World) : atP Try.prog Try.f49 shape_Touched.pl [1, 1, 0, 1, 0, 0] [N1] R X (shape_Touched.fr1 x2 x5 x11 x12 x13 g) w = shape_Touched.b1 x2 x5 x11 x12 x13 g N1 R X w := by kernel_rfl
/-- What a round of this loop hands on. -/
def shape_Touched.N1 (J : Value → World → Prop) (m : Value → World → Nat) (x2 : Value) (x5 : Value) (x11 : Value) (x12 : Value) (x13 : Value) (w : World) : List Value → World → Prop := fun e w' => (∃ y13 g, e = shape_Touched.fr1 x2 x5 x11 x12 y13 g ∧ J y13 w') ∧ m (nth e 13) w' < m x13 w
theorem shape_Touched.leaf1 {J : Value → World → Prop} {m : Value → World → Nat} {x2 : Value} {x5 : Value} {x11 : Value} {x12 : Value} {x13 : Value} {w w' : World} {e0 e1 e3 e4 e6 e7 e8 e9 e10 e13 e14 e15 e16 e17 e18 e19 e20 e21 e22 e23 e24 e25 e26 e27 e28 e29 e30 e31 e32 e33 e34 e35 : Value} (h : J e13 w') (hm : m e13 w' < m x13 w) : shape_Touched.N1 J m x2 x5 x11 x12 x13 w [e0, e1, x2, e3, e4, x5, e6, e7, e8, e9, e10, x11, x12, e13, e14, e15, e16, e17, e18, e19, e20, e21, e22, e23, e24, e25, e26, e27, e28, e29, e30, e31, e32, e33, e34, e35] w' :=
  ⟨⟨e13, (fun i => nth [e0, e1, x2, e3, e4, x5, e6, e7, e8, e9, e10, x11, x12, e13, e14, e15, e16, e17, e18, e19, e20, e21, e22, e23, e24, e25, e26, e27, e28, e29, e30, e31, e32, e33, e34, e35] i), rfl, h⟩, hm⟩
theorem shape_Touched.loop1 (J : Value → World → Prop) (m : Value → World → Nat) {R : KV} {X : KX} {w : World} {x2 : Value} {x5 : Value} {x11 : Value} {x12 : Value} {e0 e1 e3 e4 e6 e7 e8 e9 e10 e13 e14 e15 e16 e17 e18 e19 e20 e21 e22 e23 e24 e25 e26 e27 e28 e29 e30 e31 e32 e33 e34 e35 : Value} (h0 : J e13 w)
    (hr : ∀ x13 g w, J x13 w → shape_Touched.b1 x2 x5 x11 x12 x13 g (shape_Touched.N1 J m x2 x5 x11 x12 x13 w) R X w) : shape_Touched.I1 [e0, e1, x2, e3, e4, x5, e6, e7, e8, e9, e10, x11, x12, e13, e14, e15, e16, e17, e18, e19, e20, e21, e22, e23, e24, e25, e26, e27, e28, e29, e30, e31, e32, e33, e34, e35] R X w := by
  rw [shape_Touched.I1_eq]
  refine ⟨fun e w => ∃ y13 g, e = shape_Touched.fr1 x2 x5 x11 x12 y13 g ∧ J y13 w, fun e w => m (nth e 13) w, ⟨e13, (fun i => nth [e0, e1, x2, e3, e4, x5, e6, e7, e8, e9, e10, x11, x12, e13, e14, e15, e16, e17, e18, e19, e20, e21, e22, e23, e24, e25, e26, e27, e28, e29, e30, e31, e32, e33, e34, e35] i), rfl, h0⟩, ?_⟩
  rintro _ w ⟨y13, g, rfl, hJ⟩
  rw [shape_Touched.b1_eq]
  exact hr y13 g w hJ
def shape_Touched.b (x0 : Value) (x1 : Value) (R : KV) (X : KX) (w : World) : Prop :=
  pBox 33 x0 w fun t2 w =>
  pMap w fun t10 w =>
  pLenSl x1 fun t12 =>
  shape_Touched.I1 [x0, x1, t2, undef, (.slice none 0 0), t10, undef, undef, undef, undef, t10, x1, t12, (.int .i64 0), undef, undef, undef, undef, undef, undef, undef, undef, undef, undef, undef, undef, undef, undef, undef, undef, undef, undef, undef, undef, undef, undef] R X w
theorem shape_Touched.b_eq (x0 : Value) (x1 : Value) (R : KV) (X : KX) (w : World) : atP Try.prog Try.f49 shape_Touched.pl [] [] R X ([x0, x1] ++ undefs 34) w = shape_Touched.b x0 x1 R X w := by kernel_rfl
theorem shape_Touched.calls {x0 x1 : Value} {R : KV} {X : KX} {w : World} (h : shape_Touched.b x0 x1 R X w) : GCalls Try.prog 49 [x0, x1] R X w :=
  gcalls_of (pl := shape_Touched.pl) Try.func49 rfl (by kernel_rfl) hmixed (shape_Touched.b_eq x0 x1 R X w ▸ h)

/-! oubliette/oublietteref27.Touched -/
def oublietteref27_Touched.pl : Nat → DrawPlan
  | _ => ⟨[], .done⟩
def oublietteref27_Touched.j1 (x1 : Value) (x2 : Value) (x5 : Value) (x6 : Value) (g : Nat → Value) (N1 : List Value → World → Prop) (R : KV) (X : KX) (w : World) : Prop :=
  pBinI .add .i64 x6 (.int .i64 1) fun t15 =>
  N1 [(g 0), x1, x2, (g 3), (g 4), x5, t15, (g 7), (g 8), (g 9), (g 10), (g 11), (g 12), (g 13), x6, t15, (g 16), (g 17), (g 18), (g 19), (g 20), (g 21), (g 22), (g 23), (g 24), (g 25), (g 26), (g 27), (g 28), (g 29), (g 30), (g 31), (g 32), (g 33), (g 34), (g 35), (g 36), (g 37), (g 38), (g 39)] w
def oublietteref27_Touched.b2 (x1 : Value) (x2 : Value) (x5 : Value) (x6 : Value) (x7 : Value) (x8 : Value) (x9 : Value) (g : Nat → Value) (N1 : List Value → World → Prop) (N2 : List Value → World → Prop) (R : KV) (X : KX) (w : World) : Prop :=
  pLenSl x8 fun t21 =>
  pBinI .lss .i64 x9 t21 fun t22 =>
  scond t22
  (gIf x7 false (fun K => K x1) fun t27 =>
    gIf x7 false (fun K => K x8) fun t28 =>
    gIf x7 false (fun K => K x9) fun t29 =>
    gIf x7 false (fun K => pIA 1 t28 t29 K) fun t30 =>
    gIf x7 false (fun K => pLd (· = w) t30 K) fun t31 =>
    gIfW x7 false (fun w K => pCall Try.prog 44 [t27, t31] X w K) w fun t32 w =>
    pPick x7 (.bool true) t32 fun t33 =>
    pBinI .add .i64 x9 (.int .i64 1) fun t24 =>
    N2 [(g 0), x1, x2, (g 3), (g 4), x5, x6, t33, x8, t24, (g 10), (g 11), (g 12), (g 13), (g 14), (g 15), (g 16), (g 17), (g 18), x9, x8, t21, t22, x9, t24, x7, x7, t27, t28, t29, t30, t31, t32, t33, (g 34), (g 35), (g 36), (g 37), (g 38), (g 39)] w)
  (scond x7
    (pBSlice 3 1 (rowOf [.int .i64 0] 1) [(0, 1, x6)] w fun t37 w =>
      pApp 3 1 8 [.int .i64 0] x5 t37 w fun t38 w =>
      oublietteref27_Touched.j1 x1 x2 t38 x6 (fun i => nth [(g 0), x1, x2, (g 3), (g 4), t38, x6, x7, x8, x9, (g 10), (g 11), (g 12), (g 13), (g 14), (g 15), (g 16), (g 17), (g 18), x9, x8, t21, t22, (g 23), (g 24), (g 25), (g 26), (g 27), (g 28), (g 29), (g 30), (g 31), (g 32), (g 33), x7, x5, x6, t37, t38, (g 39)] i) N1 R X w)
    (oublietteref27_Touched.j1 x1 x2 x5 x6 (fun i => nth [(g 0), x1, x2, (g 3), (g 4), x5, x6, x7, x8, x9, (g 10), (g 11), (g 12), (g 13), (g 14), (g 15), (g 16), (g 17), (g 18), x9, x8, t21, t22, (g 23), (g 24), (g 25), (g 26), (g 27), (g 28), (g 29), (g 30), (g 31), (g 32), (g 33), x7, (g 35), (g 36), (g 37), (g 38), (g 39)] i) N1 R X w))
def oublietteref27_Touched.I2 (e : List Value) (N1 : List Value → World → Prop) (R : KV) (X : KX) (w : World) : Prop := atP Try.prog Try.f50 oublietteref27_Touched.pl [1, 1, 0, 1, 0, 0, 1, 0, 0, 1, 1, 0, 1, 0] [N1] R X e w
theorem oublietteref27_Touched.I2_eq (e : List Value) (N1 : List Value → World → Prop) (R : KV) (X : KX) (w : World) : oublietteref27_Touched.I2 e N1 R X w = loopS (fun N e w => atP Try.prog Try.f50 oublietteref27_Touched.pl [1, 1, 0, 1, 0, 0, 1, 0, 0, 1, 1, 0, 1, 0, 0] [N1, N] R X e w) e w := by kernel_rfl
def oublietteref27_Touched.fr2 (x1 : Value) (x2 : Value) (x5 : Value) (x6 : Value) (x7 : Value) (x8 : Value) (x9 : Value) (g : Nat → Value) : List Value := [g 0, x1, x2, g 3, g 4, x5, x6, x7, x8, x9, g 10, g 11, g 12, g 13, g 14, g 15, g 16, g 17, g 18, g 19, g 20, g 21, g 22, g 23, g 24, g 25, g 26, g 27, g 28, g 29, g 30, g 31, g 32, g 33, g 34, g 35, g 36, g 37, g 38, g 39]
theorem oublietteref27_Touched.b2_eq (x1 : Value) (x2 : Value) (x5 : Value) (x6 : Value) (x7 : Value) (x8 : Value) (x9 : Value) (g : Nat → Value) (N1 : List Value → World → Prop) (N2 : List Value → World → Prop) (R : KV) (X : KX) (w : World) : atP Try.prog Try.f50 oublietteref27_Touched.pl [1, 1, 0, 1, 0, 0, 1, 0, 0, 1, 1, 0, 1, 0, 0] [N1, N2] R X (oublietteref27_Touched.fr2 x1 x2 x5 x6 x7 x8 x9 g) w = oublietteref27_Touched.b2 x1 x2 x5 x6 x7 x8 x9 g N1 N2 R X w := by kernel_rfl
/-- What a round of this loop hands on. -/
def oublietteref27_Touched.N2 (J : Value → Value → World → Prop) (m : Value → Value → World → Nat) (x1 : Value) (x2 : Value) (x5 : Value) (x6 : Value) (x8 : Value) (x7 : Value) (x9 : Value) (w : World) : List Value → World → Prop := fun e w' => (∃ y7 y9 g, e = oublietteref27_Touched.fr2 x1 x2 x5 x6 y7 x8 y9 g ∧ J y7 y9 w') ∧ m (nth e 7) (nth e 9) w' < m x7 x9 w
theorem oublietteref27_Touched.leaf2 {J : Value → Value → World → Prop} {m : Value → Value → World → Nat} {x1 : Value} {x2 : Value} {x5 : Value} {x6 : Value} {x7 : Value} {x8 : Value} {x9 : Value} {w w' : World} {e0 e3 e4 e7 e9 e10 e11 e12 e13 e14 e15 e16 e17 e18 e19 e20 e21 e22 e23 e24 e25 e26 e27 e28 e29 e30 e31 e32 e33 e34 e35 e36 e37 e38 e39 : Value} (h : J e7 e9 w') (hm : m e7 e9 w' < m x7 x9 w) : oublietteref27_Touched.N2 J m x1 x2 x5 x6 x8 x7 x9 w [e0, x1, x2, e3, e4, x5, x6, e7, x8, e9, e10, e11, e12, e13, e14, e15, e16, e17, e18, e19, e20, e21, e22, e23, e24, e25, e26, e27, e28, e29, e30, e31, e32, e33, e34, e35, e36, e37, e38, e39] w' :=
  ⟨⟨e7, e9, (fun i => nth [e0, x1, x2, e3, e4, x5, x6, e7, x8, e9, e10, e11, e12, e13, e14, e15, e16, e17, e18, e19, e20, e21, e22, e23, e24, e25, e26, e27, e28, e29, e30, e31, e32, e33, e34, e35, e36, e37, e38, e39] i), rfl, h⟩, hm⟩
theorem oublietteref27_Touched.loop2 (J : Value → Value → World → Prop) (m : Value → Value → World → Nat) {N1 : List Value → World → Prop} {R : KV} {X : KX} {w : World} {x1 : Value} {x2 : Value} {x5 : Value} {x6 : Value} {x8 : Value} {e0 e3 e4 e7 e9 e10 e11 e12 e13 e14 e15 e16 e17 e18 e19 e20 e21 e22 e23 e24 e25 e26 e27 e28 e29 e30 e31 e32 e33 e34 e35 e36 e37 e38 e39 : Value} (h0 : J e7 e9 w)
    (hr : ∀ x7 x9 g w, J x7 x9 w → oublietteref27_Touched.b2 x1 x2 x5 x6 x7 x8 x9 g N1 (oublietteref27_Touched.N2 J m x1 x2 x5 x6 x8 x7 x9 w) R X w) : oublietteref27_Touched.I2 [e0, x1, x2, e3, e4, x5, x6, e7, x8, e9, e10, e11, e12, e13, e14, e15, e16, e17, e18, e19, e20, e21, e22, e23, e24, e25, e26, e27, e28, e29, e30, e31, e32, e33, e34, e35, e36, e37, e38, e39] N1 R X w := by
  rw [oublietteref27_Touched.I2_eq]
  refine ⟨fun e w => ∃ y7 y9 g, e = oublietteref27_Touched.fr2 x1 x2 x5 x6 y7 x8 y9 g ∧ J y7 y9 w, fun e w => m (nth e 7) (nth e 9) w, ⟨e7, e9, (fun i => nth [e0, x1, x2, e3, e4, x5, x6, e7, x8, e9, e10, e11, e12, e13, e14, e15, e16, e17, e18, e19, e20, e21, e22, e23, e24, e25, e26, e27, e28, e29, e30, e31, e32, e33, e34, e35, e36, e37, e38, e39] i), rfl, h0⟩, ?_⟩
  rintro _ w ⟨y7, y9, g, rfl, hJ⟩
  rw [oublietteref27_Touched.b2_eq]
  exact hr y7 y9 g w hJ
def oublietteref27_Touched.b1 (x1 : Value) (x2 : Value) (x5 : Value) (x6 : Value) (g : Nat → Value) (N1 : List Value → World → Prop) (R : KV) (X : KX) (w : World) : Prop :=
  pLdN (· = w) 3 x2 fun t11 =>
  pCall Try.prog 31 [t11] X w fun t12 w =>
  pBinI .lss .i64 x6 t12 fun t13 =>
  scond t13
  (pLdN (· = w) 3 x2 fun t16 =>
    pCall Try.prog 51 [t16, x6] X w fun t18 w =>
    oublietteref27_Touched.I2 [(g 0), x1, x2, (g 3), (g 4), x5, x6, (.bool false), t18, (.int .i64 0), x6, t11, t12, t13, (g 14), (g 15), t16, x6, t18, (g 19), (g 20), (g 21), (g 22), (g 23), (g 24), (g 25), (g 26), (g 27), (g 28), (g 29), (g 30), (g 31), (g 32), (g 33), (g 34), (g 35), (g 36), (g 37), (g 38), (g 39)] N1 R X w)
  (R x5 w)
def oublietteref27_Touched.I1 (e : List Value) (R : KV) (X : KX) (w : World) : Prop := atP Try.prog Try.f50 oublietteref27_Touched.pl [1, 1, 0, 1, 0] [] R X e w
theorem oublietteref27_Touched.I1_eq (e : List Value) (R : KV) (X : KX) (w : World) : oublietteref27_Touched.I1 e R X w = loopS (fun N e w => atP Try.prog Try.f50 oublietteref27_Touched.pl [1, 1, 0, 1, 0, 0] [N] R X e w) e w := by kernel_rfl
def oublietteref27_Touched.fr1 (x1 : Value) (x2 : Value) (x5 : Value) (x6 : Value) (g : Nat → Value) : List Value := [g 0, x1, x2, g 3, g 4, x5, x6, g 7, g 8, g 9, g 10, g 11, g 12, g 13, g 14, g 15, g 16, g 17, g 18, g 19, g 20, g 21, g 22, g 23, g 24, g 25, g 26, g 27, g 28, g 29, g 30, g 31, g 32, g 33, g 34, g 35, g 36, g 37, g 38, g 39]
theorem oublietteref27_Touched.b1_eq (x1 : Value) (x2 : Value) (x5 : Value) (x6 : Value) (g : Nat → Value) (N1 : List Value → World → Prop) (R : KV) (X : KX) (w : World) : atP Try.prog Try.f50 oublietteref27_Touched.pl [1, 1, 0, 1, 0, 0] [N1] R X (oublietteref27_Touched.fr1 x1 x2 x5 x6 g) w = oublietteref27_Touched.b1 x1 x2 x5 x6 g N1 R X w := by kernel_rfl
/-- What a round of this loop hands on. -/
def oublietteref27_Touched.N1 (J : Value → Value → World → Prop) (m : Value → Value → World → Nat) (x1 : Value) (x2 : Value) (x5 : Value) (x6 : Value) (w : World) : List Value → World → Prop := fun e w' => (∃ y5 y6 g, e = oublietteref27_Touched.fr1 x1 x2 y5 y6 g ∧ J y5 y6 w') ∧ m (nth e 5) (nth e 6) w' < m x5 x6 w
theorem oublietteref27_Touched.leaf1 {J : Value → Value → World → Prop} {m : Value → Value → World → Nat} {x1 : Value} {x2 : Value} {x5 : Value} {x6 : Value} {w w' : World} {e0 e3 e4 e5 e6 e7 e8 e9 e10 e11 e12 e13 e14 e15 e16 e17 e18 e19 e20 e21 e22 e23 e24 e25 e26 e27 e28 e29 e30 e31 e32 e33 e34 e35 e36 e37 e38 e39 : Value} (h : J e5 e6 w') (hm : m e5 e6 w' < m x5 x6 w) : oublietteref27_Touched.N1 J m x1 x2 x5 x6 w [e0, x1, x2, e3, e4, e5, e6, e7, e8, e9, e10, e11, e12, e13, e14, e15, e16, e17, e18, e19, e20, e21, e22, e23, e24, e25, e26, e27, e28, e29, e30, e31, e32, e33, e34, e35, e36, e37, e38, e39] w' :=
  ⟨⟨e5, e6, (fun i => nth [e0, x1, x2, e3, e4, e5, e6, e7, e8, e9, e10, e11, e12, e13, e14, e15, e16, e17, e18, e19, e20, e21, e22, e23, e24, e25, e26, e27, e28, e29, e30, e31, e32, e33, e34, e35, e36, e37, e38, e39] i), rfl, h⟩, hm⟩
theorem oublietteref27_Touched.loop1 (J : Value → Value → World → Prop) (m : Value → Value → World → Nat) {R : KV} {X : KX} {w : World} {x1 : Value} {x2 : Value} {e0 e3 e4 e5 e6 e7 e8 e9 e10 e11 e12 e13 e14 e15 e16 e17 e18 e19 e20 e21 e22 e23 e24 e25 e26 e27 e28 e29 e30 e31 e32 e33 e34 e35 e36 e37 e38 e39 : Value} (h0 : J e5 e6 w)
    (hr : ∀ x5 x6 g w, J x5 x6 w → oublietteref27_Touched.b1 x1 x2 x5 x6 g (oublietteref27_Touched.N1 J m x1 x2 x5 x6 w) R X w) : oublietteref27_Touched.I1 [e0, x1, x2, e3, e4, e5, e6, e7, e8, e9, e10, e11, e12, e13, e14, e15, e16, e17, e18, e19, e20, e21, e22, e23, e24, e25, e26, e27, e28, e29, e30, e31, e32, e33, e34, e35, e36, e37, e38, e39] R X w := by
  rw [oublietteref27_Touched.I1_eq]
  refine ⟨fun e w => ∃ y5 y6 g, e = oublietteref27_Touched.fr1 x1 x2 y5 y6 g ∧ J y5 y6 w, fun e w => m (nth e 5) (nth e 6) w, ⟨e5, e6, (fun i => nth [e0, x1, x2, e3, e4, e5, e6, e7, e8, e9, e10, e11, e12, e13, e14, e15, e16, e17, e18, e19, e20, e21, e22, e23, e24, e25, e26, e27, e28, e29, e30, e31, e32, e33, e34, e35, e36, e37, e38, e39] i), rfl, h0⟩, ?_⟩
  rintro _ w ⟨y5, y6, g, rfl, hJ⟩
  rw [oublietteref27_Touched.b1_eq]
  exact hr y5 y6 g w hJ
def oublietteref27_Touched.b (x0 : Value) (x1 : Value) (R : KV) (X : KX) (w : World) : Prop :=
  pBox 33 x0 w fun t2 w =>
  oublietteref27_Touched.I1 [x0, x1, t2, undef, (.slice none 0 0), (.slice none 0 0), (.int .i64 0), undef, undef, undef, undef, undef, undef, undef, undef, undef, undef, undef, undef, undef, undef, undef, undef, undef, undef, undef, undef, undef, undef, undef, undef, undef, undef, undef, undef, undef, undef, undef, undef, undef] R X w
theorem oublietteref27_Touched.b_eq (x0 : Value) (x1 : Value) (R : KV) (X : KX) (w : World) : atP Try.prog Try.f50 oublietteref27_Touched.pl [] [] R X ([x0, x1] ++ undefs 38) w = oublietteref27_Touched.b x0 x1 R X w := by kernel_rfl
theorem oublietteref27_Touched.calls {x0 x1 : Value} {R : KV} {X : KX} {w : World} (h : oublietteref27_Touched.b x0 x1 R X w) : GCalls Try.prog 50 [x0, x1] R X w :=
  gcalls_of (pl := oublietteref27_Touched.pl) Try.func50 rfl (by kernel_rfl) hmixed (oublietteref27_Touched.b_eq x0 x1 R X w ▸ h)

/-! oubliette/oublietteref27.Under -/
def oublietteref27_Under.pl : Nat → DrawPlan
  | _ => ⟨[], .done⟩
def oublietteref27_Under.j1 (x1 : Value) (x2 : Value) (x5 : Value) (x6 : Value) (g : Nat → Value) (N1 : List Value → World → Prop) (R : KV) (X : KX) (w : World) : Prop :=
  pBinI .add .i64 x6 (.int .i64 1) fun t12 =>
  N1 [(g 0), x1, x2, (g 3), (g 4), x5, t12, (g 7), (g 8), (g 9), (g 10), x6, t12, (g 13), (g 14), (g 15), (g 16), (g 17), (g 18), (g 19), (g 20), (g 21), (g 22), (g 23), (g 24), (g 25), (g 26), (g 27), (g 28), (g 29)] w
def oublietteref27_Under.b1 (x1 : Value) (x2 : Value) (x5 : Value) (x6 : Value) (g : Nat → Value) (N1 : List Value → World → Prop) (R : KV) (X : KX) (w : World) : Prop :=
  pLdN (· = w) 3 x2 fun t8 =>
  pCall Try.prog 62 [t8] X w fun t9 w =>
  pBinI .lss .i64 x6 t9 fun t10 =>
  scond t10
  (pLdN (· = w) 3 x2 fun t13 =>
    pCall Try.prog 27 [t13, x6] X w fun t15 w =>
    pBinI .eql .i64 t15 x1 fun t17 =>
    gIf t17 false (fun K => pLdN (· = w) 3 x2 K) fun t19 =>
    gIf t17 false (fun K => K x6) fun t20 =>
    gIfW t17 false (fun w K => pCall Try.prog 48 [t19, t20] X w K) w fun t21 w =>
    gIf t17 false (fun K => K x1) fun t22 =>
    gIfW t17 false (fun w K => pCall Try.prog 44 [t21, t22] X w K) w fun t23 w =>
    pPick t17 (.bool true) t23 fun t24 =>
    scond t24
    (pBSlice 3 1 (rowOf [.int .i64 0] 1) [(0, 1, x6)] w fun t27 w =>
      pApp 3 1 8 [.int .i64 0] x5 t27 w fun t28 w =>
      oublietteref27_Under.j1 x1 x2 t28 x6 (fun i => nth [(g 0), x1, x2, (g 3), (g 4), t28, x6, x6, t8, t9, t10, (g 11), (g 12), t13, x6, t15, x1, t17, t17, t19, t20, t21, t22, t23, t24, x5, x6, t27, t28, (g 29)] i) N1 R X w)
    (oublietteref27_Under.j1 x1 x2 x5 x6 (fun i => nth [(g 0), x1, x2, (g 3), (g 4), x5, x6, x6, t8, t9, t10, (g 11), (g 12), t13, x6, t15, x1, t17, t17, t19, t20, t21, t22, t23, t24, (g 25), (g 26), (g 27), (g 28), (g 29)] i) N1 R X w))
  (R x5 w)
def oublietteref27_Under.I1 (e : List Value) (R : KV) (X : KX) (w : World) : Prop := atP Try.prog Try.f51 oublietteref27_Under.pl [1, 1, 0, 1, 0] [] R X e w
theorem oublietteref27_Under.I1_eq (e : List Value) (R : KV) (X : KX) (w : World) : oublietteref27_Under.I1 e R X w = loopS (fun N e w => atP Try.prog Try.f51 oublietteref27_Under.pl [1, 1, 0, 1, 0, 0] [N] R X e w) e w := by kernel_rfl
def oublietteref27_Under.fr1 (x1 : Value) (x2 : Value) (x5 : Value) (x6 : Value) (g : Nat → Value) : List Value := [g 0, x1, x2, g 3, g 4, x5, x6, g 7, g 8, g 9, g 10, g 11, g 12, g 13, g 14, g 15, g 16, g 17, g 18, g 19, g 20, g 21, g 22, g 23, g 24, g 25, g 26, g 27, g 28, g 29]
theorem oublietteref27_Under.b1_eq (x1 : Value) (x2 : Value) (x5 : Value) (x6 : Value) (g : Nat → Value) (N1 : List Value → World → Prop) (R : KV) (X : KX) (w : World) : atP Try.prog Try.f51 oublietteref27_Under.pl [1, 1, 0, 1, 0, 0] [N1] R X (oublietteref27_Under.fr1 x1 x2 x5 x6 g) w = oublietteref27_Under.b1 x1 x2 x5 x6 g N1 R X w := by kernel_rfl
/-- What a round of this loop hands on. -/
def oublietteref27_Under.N1 (J : Value → Value → World → Prop) (m : Value → Value → World → Nat) (x1 : Value) (x2 : Value) (x5 : Value) (x6 : Value) (w : World) : List Value → World → Prop := fun e w' => (∃ y5 y6 g, e = oublietteref27_Under.fr1 x1 x2 y5 y6 g ∧ J y5 y6 w') ∧ m (nth e 5) (nth e 6) w' < m x5 x6 w
theorem oublietteref27_Under.leaf1 {J : Value → Value → World → Prop} {m : Value → Value → World → Nat} {x1 : Value} {x2 : Value} {x5 : Value} {x6 : Value} {w w' : World} {e0 e3 e4 e5 e6 e7 e8 e9 e10 e11 e12 e13 e14 e15 e16 e17 e18 e19 e20 e21 e22 e23 e24 e25 e26 e27 e28 e29 : Value} (h : J e5 e6 w') (hm : m e5 e6 w' < m x5 x6 w) : oublietteref27_Under.N1 J m x1 x2 x5 x6 w [e0, x1, x2, e3, e4, e5, e6, e7, e8, e9, e10, e11, e12, e13, e14, e15, e16, e17, e18, e19, e20, e21, e22, e23, e24, e25, e26, e27, e28, e29] w' :=
  ⟨⟨e5, e6, (fun i => nth [e0, x1, x2, e3, e4, e5, e6, e7, e8, e9, e10, e11, e12, e13, e14, e15, e16, e17, e18, e19, e20, e21, e22, e23, e24, e25, e26, e27, e28, e29] i), rfl, h⟩, hm⟩
theorem oublietteref27_Under.loop1 (J : Value → Value → World → Prop) (m : Value → Value → World → Nat) {R : KV} {X : KX} {w : World} {x1 : Value} {x2 : Value} {e0 e3 e4 e5 e6 e7 e8 e9 e10 e11 e12 e13 e14 e15 e16 e17 e18 e19 e20 e21 e22 e23 e24 e25 e26 e27 e28 e29 : Value} (h0 : J e5 e6 w)
    (hr : ∀ x5 x6 g w, J x5 x6 w → oublietteref27_Under.b1 x1 x2 x5 x6 g (oublietteref27_Under.N1 J m x1 x2 x5 x6 w) R X w) : oublietteref27_Under.I1 [e0, x1, x2, e3, e4, e5, e6, e7, e8, e9, e10, e11, e12, e13, e14, e15, e16, e17, e18, e19, e20, e21, e22, e23, e24, e25, e26, e27, e28, e29] R X w := by
  rw [oublietteref27_Under.I1_eq]
  refine ⟨fun e w => ∃ y5 y6 g, e = oublietteref27_Under.fr1 x1 x2 y5 y6 g ∧ J y5 y6 w, fun e w => m (nth e 5) (nth e 6) w, ⟨e5, e6, (fun i => nth [e0, x1, x2, e3, e4, e5, e6, e7, e8, e9, e10, e11, e12, e13, e14, e15, e16, e17, e18, e19, e20, e21, e22, e23, e24, e25, e26, e27, e28, e29] i), rfl, h0⟩, ?_⟩
  rintro _ w ⟨y5, y6, g, rfl, hJ⟩
  rw [oublietteref27_Under.b1_eq]
  exact hr y5 y6 g w hJ
def oublietteref27_Under.b (x0 : Value) (x1 : Value) (R : KV) (X : KX) (w : World) : Prop :=
  pBox 33 x0 w fun t2 w =>
  oublietteref27_Under.I1 [x0, x1, t2, undef, (.slice none 0 0), (.slice none 0 0), (.int .i64 0), undef, undef, undef, undef, undef, undef, undef, undef, undef, undef, undef, undef, undef, undef, undef, undef, undef, undef, undef, undef, undef, undef, undef] R X w
theorem oublietteref27_Under.b_eq (x0 : Value) (x1 : Value) (R : KV) (X : KX) (w : World) : atP Try.prog Try.f51 oublietteref27_Under.pl [] [] R X ([x0, x1] ++ undefs 28) w = oublietteref27_Under.b x0 x1 R X w := by kernel_rfl
theorem oublietteref27_Under.calls {x0 x1 : Value} {R : KV} {X : KX} {w : World} (h : oublietteref27_Under.b x0 x1 R X w) : GCalls Try.prog 51 [x0, x1] R X w :=
  gcalls_of (pl := oublietteref27_Under.pl) Try.func51 rfl (by kernel_rfl) hmixed (oublietteref27_Under.b_eq x0 x1 R X w ▸ h)

/-! oubliette/trail.last -/
def trail_last.pl : Nat → DrawPlan
  | _ => ⟨[], .done⟩
def trail_last.b1 (x3 : Value) (x7 : Value) (x8 : Value) (x9 : Value) (g : Nat → Value) (N1 : List Value → World → Prop) (R : KV) (X : KX) (w : World) : Prop :=
  pBinI .lss .i64 x9 x8 fun t10 =>
  scond t10
  (pIA 2 x7 x9 fun t11 =>
    pLdN (· = w) 2 t11 fun t12 =>
    pBox 55 (.agg #[.int .i64 0, .slice none 0 0]) w fun t5 w =>
    pStN 2 t5 t12 w fun _ w =>
    pFA 0 t5 fun t14 =>
    pLd (· = w) t14 fun t15 =>
    pLdN (· = w) 2 t5 fun t16 =>
    pRunU Try.prog (Instr.mapUpdate 69 x3 t15 t16) w fun _ w =>
    pBinI .add .i64 x9 (.int .i64 1) fun t17 =>
    N1 [(g 0), (g 1), (g 2), x3, (g 4), t5, (g 6), x7, x8, t17, t10, t11, t12, x3, t14, t15, t16, t17, (g 18)] w)
  (R x3 w)
def trail_last.I1 (e : List Value) (R : KV) (X : KX) (w : World) : Prop := atP Try.prog Try.f69 trail_last.pl [1, 1, 0, 1, 0] [] R X e w
theorem trail_last.I1_eq (e : List Value) (R : KV) (X : KX) (w : World) : trail_last.I1 e R X w = loopS (fun N e w => atP Try.prog Try.f69 trail_last.pl [1, 1, 0, 1, 0, 0] [N] R X e w) e w := by kernel_rfl
def trail_last.fr1 (x3 : Value) (x7 : Value) (x8 : Value) (x9 : Value) (g : Nat → Value) : List Value := [g 0, g 1, g 2, x3, g 4, g 5, g 6, x7, x8, x9, g 10, g 11, g 12, g 13, g 14, g 15, g 16, g 17, g 18]
theorem trail_last.b1_eq (x3 : Value) (x7 : Value) (x8 : Value) (x9 : Value) (g : Nat → Value) (N1 : List Value → World → Prop) (R : KV) (X : KX) (w : World) : atP Try.prog Try.f69 trail_last.pl [1, 1, 0, 1, 0, 0] [N1] R X (trail_last.fr1 x3 x7 x8 x9 g) w = trail_last.b1 x3 x7 x8 x9 g N1 R X w := by kernel_rfl
/-- What a round of this loop hands on. -/
def trail_last.N1 (J : Value → World → Prop) (m : Value → World → Nat) (x3 : Value) (x7 : Value) (x8 : Value) (x9 : Value) (w : World) : List Value → World → Prop := fun e w' => (∃ y9 g, e = trail_last.fr1 x3 x7 x8 y9 g ∧ J y9 w') ∧ m (nth e 9) w' < m x9 w
theorem trail_last.leaf1 {J : Value → World → Prop} {m : Value → World → Nat} {x3 : Value} {x7 : Value} {x8 : Value} {x9 : Value} {w w' : World} {e0 e1 e2 e4 e5 e6 e9 e10 e11 e12 e13 e14 e15 e16 e17 e18 : Value} (h : J e9 w') (hm : m e9 w' < m x9 w) : trail_last.N1 J m x3 x7 x8 x9 w [e0, e1, e2, x3, e4, e5, e6, x7, x8, e9, e10, e11, e12, e13, e14, e15, e16, e17, e18] w' :=
  ⟨⟨e9, (fun i => nth [e0, e1, e2, x3, e4, e5, e6, x7, x8, e9, e10, e11, e12, e13, e14, e15, e16, e17, e18] i), rfl, h⟩, hm⟩
theorem trail_last.loop1 (J : Value → World → Prop) (m : Value → World → Nat) {R : KV} {X : KX} {w : World} {x3 : Value} {x7 : Value} {x8 : Value} {e0 e1 e2 e4 e5 e6 e9 e10 e11 e12 e13 e14 e15 e16 e17 e18 : Value} (h0 : J e9 w)
    (hr : ∀ x9 g w, J x9 w → trail_last.b1 x3 x7 x8 x9 g (trail_last.N1 J m x3 x7 x8 x9 w) R X w) : trail_last.I1 [e0, e1, e2, x3, e4, e5, e6, x7, x8, e9, e10, e11, e12, e13, e14, e15, e16, e17, e18] R X w := by
  rw [trail_last.I1_eq]
  refine ⟨fun e w => ∃ y9 g, e = trail_last.fr1 x3 x7 x8 y9 g ∧ J y9 w, fun e w => m (nth e 9) w, ⟨e9, (fun i => nth [e0, e1, e2, x3, e4, e5, e6, x7, x8, e9, e10, e11, e12, e13, e14, e15, e16, e17, e18] i), rfl, h0⟩, ?_⟩
  rintro _ w ⟨y9, g, rfl, hJ⟩
  rw [trail_last.b1_eq]
  exact hr y9 g w hJ
def trail_last.b (x0 : Value) (R : KV) (X : KX) (w : World) : Prop :=
  pMap w fun t6 w =>
  pLenSl x0 fun t8 =>
  trail_last.I1 [x0, undef, (.map none), t6, undef, undef, t6, x0, t8, (.int .i64 0), undef, undef, undef, undef, undef, undef, undef, undef, undef] R X w
theorem trail_last.b_eq (x0 : Value) (R : KV) (X : KX) (w : World) : atP Try.prog Try.f69 trail_last.pl [] [] R X ([x0] ++ undefs 18) w = trail_last.b x0 R X w := by kernel_rfl
theorem trail_last.calls {x0 : Value} {R : KV} {X : KX} {w : World} (h : trail_last.b x0 R X w) : GCalls Try.prog 69 [x0] R X w :=
  gcalls_of (pl := trail_last.pl) Try.func69 rfl (by kernel_rfl) hmixed (trail_last.b_eq x0 R X w ▸ h)

/-! oubliette/trail.Seen$1 -/
def trail_Seen_c1.pl : Nat → DrawPlan
  | _ => ⟨[], .done⟩
def trail_Seen_c1.b (x0 : Value) (x1 : Value) (R : KV) (X : KX) (w : World) : Prop :=
  pBox 55 x0 w fun t2 w =>
  pLd (· = w) x1 fun t4 =>
  pFA 0 t2 fun t5 =>
  pLd (· = w) t5 fun t6 =>
  pCall Try.prog 71 [t4, t6] X w fun t7 w =>
  R t7 w
theorem trail_Seen_c1.b_eq (x0 : Value) (x1 : Value) (R : KV) (X : KX) (w : World) : atP Try.prog Try.f70 trail_Seen_c1.pl [] [] R X ([x0, x1] ++ undefs 6) w = trail_Seen_c1.b x0 x1 R X w := by kernel_rfl
theorem trail_Seen_c1.calls {x0 x1 : Value} {R : KV} {X : KX} {w : World} (h : trail_Seen_c1.b x0 x1 R X w) : GCalls Try.prog 70 [x0, x1] R X w :=
  gcalls_of (pl := trail_Seen_c1.pl) Try.func70 rfl (by kernel_rfl) hmixed (trail_Seen_c1.b_eq x0 x1 R X w ▸ h)

/-! slices.Contains[[]int,int] -/
def slices_Contains_int_int.pl : Nat → DrawPlan
  | _ => ⟨[], .done⟩
def slices_Contains_int_int.b (x0 : Value) (x1 : Value) (R : KV) (X : KX) (w : World) : Prop :=
  pCall Try.prog 84 [x0, x1] X w fun t7 w =>
  pBinI .geq .i64 t7 (.int .i64 0) fun t8 =>
  R t8 w
theorem slices_Contains_int_int.b_eq (x0 : Value) (x1 : Value) (R : KV) (X : KX) (w : World) : atP Try.prog Try.f71 slices_Contains_int_int.pl [] [] R X ([x0, x1] ++ undefs 7) w = slices_Contains_int_int.b x0 x1 R X w := by kernel_rfl
theorem slices_Contains_int_int.calls {x0 x1 : Value} {R : KV} {X : KX} {w : World} (h : slices_Contains_int_int.b x0 x1 R X w) : GCalls Try.prog 71 [x0, x1] R X w :=
  gcalls_of (pl := slices_Contains_int_int.pl) Try.func71 rfl (by kernel_rfl) hmixed (slices_Contains_int_int.b_eq x0 x1 R X w ▸ h)

/-! slices.DeleteFunc[[]oubliette/api.Write,oubliette/api.Write] -/
def slices_DeleteFunc_api_Write_api_Write.pl : Nat → DrawPlan
  | _ => ⟨[], .done⟩
def slices_DeleteFunc_api_Write_api_Write.j1 (x0 : Value) (x1 : Value) (x5 : Value) (x6 : Value) (g : Nat → Value) (N1 : List Value → World → Prop) (R : KV) (X : KX) (w : World) : Prop :=
  pBinI .add .i64 x6 (.int .i64 1) fun t21 =>
  N1 [x0, x1, (g 2), (g 3), (g 4), x5, t21, (g 7), (g 8), (g 9), (g 10), (g 11), (g 12), (g 13), (g 14), (g 15), (g 16), (g 17), (g 18), (g 19), x6, t21, (g 22), (g 23), (g 24), (g 25), (g 26), (g 27), (g 28), (g 29), (g 30), (g 31), (g 32), (g 33), (g 34), (g 35), (g 36), (g 37), (g 38), (g 39), (g 40), (g 41)] w
def slices_DeleteFunc_api_Write_api_Write.b1 (x0 : Value) (x1 : Value) (x5 : Value) (x6 : Value) (g : Nat → Value) (N1 : List Value → World → Prop) (R : KV) (X : KX) (w : World) : Prop :=
  pLenSl x0 fun t18 =>
  pBinI .lss .i64 x6 t18 fun t19 =>
  scond t19
  (pIA 2 x0 x6 fun t24 =>
    pLdN (· = w) 2 t24 fun t25 =>
    pBox 55 (.agg #[.int .i64 0, .slice none 0 0]) w fun t7 w =>
    pStN 2 t7 t25 w fun _ w =>
    pLdN (· = w) 2 t7 fun t27 =>
    pCallV Try.prog x1 [t27] X w fun t28 w =>
    pNot t28 fun t29 =>
    scond t29
    (pLdN (· = w) 2 t7 fun t32 =>
      pIA 2 x0 x5 fun t33 =>
      pStN 2 t33 t32 w fun _ w =>
      pBinI .add .i64 x5 (.int .i64 1) fun t35 =>
      slices_DeleteFunc_api_Write_api_Write.j1 x0 x1 t35 x6 (fun i => nth [x0, x1, (g 2), (g 3), (g 4), t35, x6, t7, (g 8), (g 9), (g 10), (g 11), (g 12), (g 13), (g 14), (g 15), x6, x0, t18, t19, (g 20), (g 21), x0, x6, t24, t25, x1, t27, t28, t29, x0, x5, t32, t33, x5, t35, (g 36), (g 37), (g 38), (g 39), (g 40), (g 41)] i) N1 R X w)
    (slices_DeleteFunc_api_Write_api_Write.j1 x0 x1 x5 x6 (fun i => nth [x0, x1, (g 2), (g 3), (g 4), x5, x6, t7, (g 8), (g 9), (g 10), (g 11), (g 12), (g 13), (g 14), (g 15), x6, x0, t18, t19, (g 20), (g 21), x0, x6, t24, t25, x1, t27, t28, t29, (g 30), (g 31), (g 32), (g 33), (g 34), (g 35), (g 36), (g 37), (g 38), (g 39), (g 40), (g 41)] i) N1 R X w))
  (pSl 2 x0 (some x5) none none fun t38 =>
    pRun Try.prog (Builtin.clear_ #[40] 0 #[t38]) w fun _ w =>
    pSl 2 x0 none (some x5) none fun t41 =>
    R t41 w)
def slices_DeleteFunc_api_Write_api_Write.I1 (e : List Value) (R : KV) (X : KX) (w : World) : Prop := atP Try.prog Try.f72 slices_DeleteFunc_api_Write_api_Write.pl [1, 1, 1, 0, 1, 0] [] R X e w
theorem slices_DeleteFunc_api_Write_api_Write.I1_eq (e : List Value) (R : KV) (X : KX) (w : World) : slices_DeleteFunc_api_Write_api_Write.I1 e R X w = loopS (fun N e w => atP Try.prog Try.f72 slices_DeleteFunc_api_Write_api_Write.pl [1, 1, 1, 0, 1, 0, 0] [N] R X e w) e w := by kernel_rfl
def slices_DeleteFunc_api_Write_api_Write.fr1 (x0 : Value) (x1 : Value) (x5 : Value) (x6 : Value) (g : Nat → Value) : List Value := [x0, x1, g 2, g 3, g 4, x5, x6, g 7, g 8, g 9, g 10, g 11, g 12, g 13, g 14, g 15, g 16, g 17, g 18, g 19, g 20, g 21, g 22, g 23, g 24, g 25, g 26, g 27, g 28, g 29, g 30, g 31, g 32, g 33, g 34, g 35, g 36, g 37, g 38, g 39, g 40, g 41]
theorem slices_DeleteFunc_api_Write_api_Write.b1_eq (x0 : Value) (x1 : Value) (x5 : Value) (x6 : Value) (g : Nat → Value) (N1 : List Value → World → Prop) (R : KV) (X : KX) (w : World) : atP Try.prog Try.f72 slices_DeleteFunc_api_Write_api_Write.pl [1, 1, 1, 0, 1, 0, 0] [N1] R X (slices_DeleteFunc_api_Write_api_Write.fr1 x0 x1 x5 x6 g) w = slices_DeleteFunc_api_Write_api_Write.b1 x0 x1 x5 x6 g N1 R X w := by kernel_rfl
/-- What a round of this loop hands on. -/
def slices_DeleteFunc_api_Write_api_Write.N1 (J : Value → Value → World → Prop) (m : Value → Value → World → Nat) (x0 : Value) (x1 : Value) (x5 : Value) (x6 : Value) (w : World) : List Value → World → Prop := fun e w' => (∃ y5 y6 g, e = slices_DeleteFunc_api_Write_api_Write.fr1 x0 x1 y5 y6 g ∧ J y5 y6 w') ∧ m (nth e 5) (nth e 6) w' < m x5 x6 w
theorem slices_DeleteFunc_api_Write_api_Write.leaf1 {J : Value → Value → World → Prop} {m : Value → Value → World → Nat} {x0 : Value} {x1 : Value} {x5 : Value} {x6 : Value} {w w' : World} {e2 e3 e4 e5 e6 e7 e8 e9 e10 e11 e12 e13 e14 e15 e16 e17 e18 e19 e20 e21 e22 e23 e24 e25 e26 e27 e28 e29 e30 e31 e32 e33 e34 e35 e36 e37 e38 e39 e40 e41 : Value} (h : J e5 e6 w') (hm : m e5 e6 w' < m x5 x6 w) : slices_DeleteFunc_api_Write_api_Write.N1 J m x0 x1 x5 x6 w [x0, x1, e2, e3, e4, e5, e6, e7, e8, e9, e10, e11, e12, e13, e14, e15, e16, e17, e18, e19, e20, e21, e22, e23, e24, e25, e26, e27, e28, e29, e30, e31, e32, e33, e34, e35, e36, e37, e38, e39, e40, e41] w' :=
  ⟨⟨e5, e6, (fun i => nth [x0, x1, e2, e3, e4, e5, e6, e7, e8, e9, e10, e11, e12, e13, e14, e15, e16, e17, e18, e19, e20, e21, e22, e23, e24, e25, e26, e27, e28, e29, e30, e31, e32, e33, e34, e35, e36, e37, e38, e39, e40, e41] i), rfl, h⟩, hm⟩
theorem slices_DeleteFunc_api_Write_api_Write.loop1 (J : Value → Value → World → Prop) (m : Value → Value → World → Nat) {R : KV} {X : KX} {w : World} {x0 : Value} {x1 : Value} {e2 e3 e4 e5 e6 e7 e8 e9 e10 e11 e12 e13 e14 e15 e16 e17 e18 e19 e20 e21 e22 e23 e24 e25 e26 e27 e28 e29 e30 e31 e32 e33 e34 e35 e36 e37 e38 e39 e40 e41 : Value} (h0 : J e5 e6 w)
    (hr : ∀ x5 x6 g w, J x5 x6 w → slices_DeleteFunc_api_Write_api_Write.b1 x0 x1 x5 x6 g (slices_DeleteFunc_api_Write_api_Write.N1 J m x0 x1 x5 x6 w) R X w) : slices_DeleteFunc_api_Write_api_Write.I1 [x0, x1, e2, e3, e4, e5, e6, e7, e8, e9, e10, e11, e12, e13, e14, e15, e16, e17, e18, e19, e20, e21, e22, e23, e24, e25, e26, e27, e28, e29, e30, e31, e32, e33, e34, e35, e36, e37, e38, e39, e40, e41] R X w := by
  rw [slices_DeleteFunc_api_Write_api_Write.I1_eq]
  refine ⟨fun e w => ∃ y5 y6 g, e = slices_DeleteFunc_api_Write_api_Write.fr1 x0 x1 y5 y6 g ∧ J y5 y6 w, fun e w => m (nth e 5) (nth e 6) w, ⟨e5, e6, (fun i => nth [x0, x1, e2, e3, e4, e5, e6, e7, e8, e9, e10, e11, e12, e13, e14, e15, e16, e17, e18, e19, e20, e21, e22, e23, e24, e25, e26, e27, e28, e29, e30, e31, e32, e33, e34, e35, e36, e37, e38, e39, e40, e41] i), rfl, h0⟩, ?_⟩
  rintro _ w ⟨y5, y6, g, rfl, hJ⟩
  rw [slices_DeleteFunc_api_Write_api_Write.b1_eq]
  exact hr y5 y6 g w hJ
def slices_DeleteFunc_api_Write_api_Write.b (x0 : Value) (x1 : Value) (R : KV) (X : KX) (w : World) : Prop :=
  pCall Try.prog 85 [x0, x1] X w fun t10 w =>
  pBinI .eql .i64 t10 (.int .i64 (-1)) fun t12 =>
  scond t12
  (R x0 w)
  (pBinI .add .i64 t10 (.int .i64 1) fun t15 =>
    slices_DeleteFunc_api_Write_api_Write.I1 [x0, x1, undef, undef, (.slice none 0 0), t10, t15, undef, x0, x1, t10, t10, t12, undef, t10, t15, undef, undef, undef, undef, undef, undef, undef, undef, undef, undef, undef, undef, undef, undef, undef, undef, undef, undef, undef, undef, undef, undef, undef, undef, undef, undef] R X w)
theorem slices_DeleteFunc_api_Write_api_Write.b_eq (x0 : Value) (x1 : Value) (R : KV) (X : KX) (w : World) : atP Try.prog Try.f72 slices_DeleteFunc_api_Write_api_Write.pl [] [] R X ([x0, x1] ++ undefs 40) w = slices_DeleteFunc_api_Write_api_Write.b x0 x1 R X w := by kernel_rfl
theorem slices_DeleteFunc_api_Write_api_Write.calls {x0 x1 : Value} {R : KV} {X : KX} {w : World} (h : slices_DeleteFunc_api_Write_api_Write.b x0 x1 R X w) : GCalls Try.prog 72 [x0, x1] R X w :=
  gcalls_of (pl := slices_DeleteFunc_api_Write_api_Write.pl) Try.func72 rfl (by kernel_rfl) hmixed (slices_DeleteFunc_api_Write_api_Write.b_eq x0 x1 R X w ▸ h)

/-! slices.Clone[[]oubliette/api.Write,oubliette/api.Write] -/
def slices_Clone_api_Write_api_Write.pl : Nat → DrawPlan
  | _ => ⟨[], .done⟩
def slices_Clone_api_Write_api_Write.b (x0 : Value) (R : KV) (X : KX) (w : World) : Prop :=
  pEq .sl false x0 (.slice none 0 0) fun t4 =>
  scond t4
  (R (.slice none 0 0) w)
  (pBSlice 55 0 (rowOf [.int .i64 0, .slice none 0 0] 0) [] w fun t5 w =>
    pApp 55 2 32 [.int .i64 0, .slice none 0 0] t5 x0 w fun t7 w =>
    R t7 w)
theorem slices_Clone_api_Write_api_Write.b_eq (x0 : Value) (R : KV) (X : KX) (w : World) : atP Try.prog Try.f73 slices_Clone_api_Write_api_Write.pl [] [] R X ([x0] ++ undefs 7) w = slices_Clone_api_Write_api_Write.b x0 R X w := by kernel_rfl
theorem slices_Clone_api_Write_api_Write.calls {x0 : Value} {R : KV} {X : KX} {w : World} (h : slices_Clone_api_Write_api_Write.b x0 R X w) : GCalls Try.prog 73 [x0] R X w :=
  gcalls_of (pl := slices_Clone_api_Write_api_Write.pl) Try.func73 rfl (by kernel_rfl) hmixed (slices_Clone_api_Write_api_Write.b_eq x0 R X w ▸ h)

/-! slices.Index[[]int,int] -/
def slices_Index_int_int.pl : Nat → DrawPlan
  | _ => ⟨[], .done⟩
def slices_Index_int_int.b1 (x0 : Value) (x1 : Value) (x7 : Value) (x8 : Value) (g : Nat → Value) (N1 : List Value → World → Prop) (R : KV) (X : KX) (w : World) : Prop :=
  pBinI .lss .i64 x8 x7 fun t9 =>
  scond t9
  (pIA 1 x0 x8 fun t14 =>
    pLd (· = w) t14 fun t15 =>
    pBinI .eql .i64 x1 t15 fun t16 =>
    scond t16
    (R x8 w)
    (pBinI .add .i64 x8 (.int .i64 1) fun t18 =>
      N1 [x0, x1, (g 2), (g 3), (g 4), x8, (g 6), x7, t18, t9, x8, x1, x0, x8, t14, t15, t16, (g 17), t18] w))
  (R (.int .i64 (-1)) w)
def slices_Index_int_int.I1 (e : List Value) (R : KV) (X : KX) (w : World) : Prop := atP Try.prog Try.f84 slices_Index_int_int.pl [1, 0, 1, 0] [] R X e w
theorem slices_Index_int_int.I1_eq (e : List Value) (R : KV) (X : KX) (w : World) : slices_Index_int_int.I1 e R X w = loopS (fun N e w => atP Try.prog Try.f84 slices_Index_int_int.pl [1, 0, 1, 0, 0] [N] R X e w) e w := by kernel_rfl
def slices_Index_int_int.fr1 (x0 : Value) (x1 : Value) (x7 : Value) (x8 : Value) (g : Nat → Value) : List Value := [x0, x1, g 2, g 3, g 4, g 5, g 6, x7, x8, g 9, g 10, g 11, g 12, g 13, g 14, g 15, g 16, g 17, g 18]
theorem slices_Index_int_int.b1_eq (x0 : Value) (x1 : Value) (x7 : Value) (x8 : Value) (g : Nat → Value) (N1 : List Value → World → Prop) (R : KV) (X : KX) (w : World) : atP Try.prog Try.f84 slices_Index_int_int.pl [1, 0, 1, 0, 0] [N1] R X (slices_Index_int_int.fr1 x0 x1 x7 x8 g) w = slices_Index_int_int.b1 x0 x1 x7 x8 g N1 R X w := by kernel_rfl
/-- What a round of this loop hands on. -/
def slices_Index_int_int.N1 (J : Value → World → Prop) (m : Value → World → Nat) (x0 : Value) (x1 : Value) (x7 : Value) (x8 : Value) (w : World) : List Value → World → Prop := fun e w' => (∃ y8 g, e = slices_Index_int_int.fr1 x0 x1 x7 y8 g ∧ J y8 w') ∧ m (nth e 8) w' < m x8 w
theorem slices_Index_int_int.leaf1 {J : Value → World → Prop} {m : Value → World → Nat} {x0 : Value} {x1 : Value} {x7 : Value} {x8 : Value} {w w' : World} {e2 e3 e4 e5 e6 e8 e9 e10 e11 e12 e13 e14 e15 e16 e17 e18 : Value} (h : J e8 w') (hm : m e8 w' < m x8 w) : slices_Index_int_int.N1 J m x0 x1 x7 x8 w [x0, x1, e2, e3, e4, e5, e6, x7, e8, e9, e10, e11, e12, e13, e14, e15, e16, e17, e18] w' :=
  ⟨⟨e8, (fun i => nth [x0, x1, e2, e3, e4, e5, e6, x7, e8, e9, e10, e11, e12, e13, e14, e15, e16, e17, e18] i), rfl, h⟩, hm⟩
theorem slices_Index_int_int.loop1 (J : Value → World → Prop) (m : Value → World → Nat) {R : KV} {X : KX} {w : World} {x0 : Value} {x1 : Value} {x7 : Value} {e2 e3 e4 e5 e6 e8 e9 e10 e11 e12 e13 e14 e15 e16 e17 e18 : Value} (h0 : J e8 w)
    (hr : ∀ x8 g w, J x8 w → slices_Index_int_int.b1 x0 x1 x7 x8 g (slices_Index_int_int.N1 J m x0 x1 x7 x8 w) R X w) : slices_Index_int_int.I1 [x0, x1, e2, e3, e4, e5, e6, x7, e8, e9, e10, e11, e12, e13, e14, e15, e16, e17, e18] R X w := by
  rw [slices_Index_int_int.I1_eq]
  refine ⟨fun e w => ∃ y8 g, e = slices_Index_int_int.fr1 x0 x1 x7 y8 g ∧ J y8 w, fun e w => m (nth e 8) w, ⟨e8, (fun i => nth [x0, x1, e2, e3, e4, e5, e6, x7, e8, e9, e10, e11, e12, e13, e14, e15, e16, e17, e18] i), rfl, h0⟩, ?_⟩
  rintro _ w ⟨y8, g, rfl, hJ⟩
  rw [slices_Index_int_int.b1_eq]
  exact hr y8 g w hJ
def slices_Index_int_int.b (x0 : Value) (x1 : Value) (R : KV) (X : KX) (w : World) : Prop :=
  pLenSl x0 fun t7 =>
  slices_Index_int_int.I1 [x0, x1, undef, undef, (.int .i64 0), undef, x0, t7, (.int .i64 0), undef, undef, undef, undef, undef, undef, undef, undef, undef, undef] R X w
theorem slices_Index_int_int.b_eq (x0 : Value) (x1 : Value) (R : KV) (X : KX) (w : World) : atP Try.prog Try.f84 slices_Index_int_int.pl [] [] R X ([x0, x1] ++ undefs 17) w = slices_Index_int_int.b x0 x1 R X w := by kernel_rfl
theorem slices_Index_int_int.calls {x0 x1 : Value} {R : KV} {X : KX} {w : World} (h : slices_Index_int_int.b x0 x1 R X w) : GCalls Try.prog 84 [x0, x1] R X w :=
  gcalls_of (pl := slices_Index_int_int.pl) Try.func84 rfl (by kernel_rfl) hmixed (slices_Index_int_int.b_eq x0 x1 R X w ▸ h)

/-! slices.IndexFunc[[]oubliette/api.Write,oubliette/api.Write] -/
def slices_IndexFunc_api_Write_api_Write.pl : Nat → DrawPlan
  | _ => ⟨[], .done⟩
def slices_IndexFunc_api_Write_api_Write.b1 (x0 : Value) (x1 : Value) (x7 : Value) (x8 : Value) (g : Nat → Value) (N1 : List Value → World → Prop) (R : KV) (X : KX) (w : World) : Prop :=
  pBinI .lss .i64 x8 x7 fun t9 =>
  scond t9
  (pIA 2 x0 x8 fun t14 =>
    pLdN (· = w) 2 t14 fun t15 =>
    pCallV Try.prog x1 [t15] X w fun t16 w =>
    scond t16
    (R x8 w)
    (pBinI .add .i64 x8 (.int .i64 1) fun t18 =>
      N1 [x0, x1, (g 2), (g 3), (g 4), x8, (g 6), x7, t18, t9, x8, x1, x0, x8, t14, t15, t16, (g 17), t18] w))
  (R (.int .i64 (-1)) w)
def slices_IndexFunc_api_Write_api_Write.I1 (e : List Value) (R : KV) (X : KX) (w : World) : Prop := atP Try.prog Try.f85 slices_IndexFunc_api_Write_api_Write.pl [1, 0, 1, 0] [] R X e w
theorem slices_IndexFunc_api_Write_api_Write.I1_eq (e : List Value) (R : KV) (X : KX) (w : World) : slices_IndexFunc_api_Write_api_Write.I1 e R X w = loopS (fun N e w => atP Try.prog Try.f85 slices_IndexFunc_api_Write_api_Write.pl [1, 0, 1, 0, 0] [N] R X e w) e w := by kernel_rfl
def slices_IndexFunc_api_Write_api_Write.fr1 (x0 : Value) (x1 : Value) (x7 : Value) (x8 : Value) (g : Nat → Value) : List Value := [x0, x1, g 2, g 3, g 4, g 5, g 6, x7, x8, g 9, g 10, g 11, g 12, g 13, g 14, g 15, g 16, g 17, g 18]
theorem slices_IndexFunc_api_Write_api_Write.b1_eq (x0 : Value) (x1 : Value) (x7 : Value) (x8 : Value) (g : Nat → Value) (N1 : List Value → World → Prop) (R : KV) (X : KX) (w : World) : atP Try.prog Try.f85 slices_IndexFunc_api_Write_api_Write.pl [1, 0, 1, 0, 0] [N1] R X (slices_IndexFunc_api_Write_api_Write.fr1 x0 x1 x7 x8 g) w = slices_IndexFunc_api_Write_api_Write.b1 x0 x1 x7 x8 g N1 R X w := by kernel_rfl
/-- What a round of this loop hands on. -/
def slices_IndexFunc_api_Write_api_Write.N1 (J : Value → World → Prop) (m : Value → World → Nat) (x0 : Value) (x1 : Value) (x7 : Value) (x8 : Value) (w : World) : List Value → World → Prop := fun e w' => (∃ y8 g, e = slices_IndexFunc_api_Write_api_Write.fr1 x0 x1 x7 y8 g ∧ J y8 w') ∧ m (nth e 8) w' < m x8 w
theorem slices_IndexFunc_api_Write_api_Write.leaf1 {J : Value → World → Prop} {m : Value → World → Nat} {x0 : Value} {x1 : Value} {x7 : Value} {x8 : Value} {w w' : World} {e2 e3 e4 e5 e6 e8 e9 e10 e11 e12 e13 e14 e15 e16 e17 e18 : Value} (h : J e8 w') (hm : m e8 w' < m x8 w) : slices_IndexFunc_api_Write_api_Write.N1 J m x0 x1 x7 x8 w [x0, x1, e2, e3, e4, e5, e6, x7, e8, e9, e10, e11, e12, e13, e14, e15, e16, e17, e18] w' :=
  ⟨⟨e8, (fun i => nth [x0, x1, e2, e3, e4, e5, e6, x7, e8, e9, e10, e11, e12, e13, e14, e15, e16, e17, e18] i), rfl, h⟩, hm⟩
theorem slices_IndexFunc_api_Write_api_Write.loop1 (J : Value → World → Prop) (m : Value → World → Nat) {R : KV} {X : KX} {w : World} {x0 : Value} {x1 : Value} {x7 : Value} {e2 e3 e4 e5 e6 e8 e9 e10 e11 e12 e13 e14 e15 e16 e17 e18 : Value} (h0 : J e8 w)
    (hr : ∀ x8 g w, J x8 w → slices_IndexFunc_api_Write_api_Write.b1 x0 x1 x7 x8 g (slices_IndexFunc_api_Write_api_Write.N1 J m x0 x1 x7 x8 w) R X w) : slices_IndexFunc_api_Write_api_Write.I1 [x0, x1, e2, e3, e4, e5, e6, x7, e8, e9, e10, e11, e12, e13, e14, e15, e16, e17, e18] R X w := by
  rw [slices_IndexFunc_api_Write_api_Write.I1_eq]
  refine ⟨fun e w => ∃ y8 g, e = slices_IndexFunc_api_Write_api_Write.fr1 x0 x1 x7 y8 g ∧ J y8 w, fun e w => m (nth e 8) w, ⟨e8, (fun i => nth [x0, x1, e2, e3, e4, e5, e6, x7, e8, e9, e10, e11, e12, e13, e14, e15, e16, e17, e18] i), rfl, h0⟩, ?_⟩
  rintro _ w ⟨y8, g, rfl, hJ⟩
  rw [slices_IndexFunc_api_Write_api_Write.b1_eq]
  exact hr y8 g w hJ
def slices_IndexFunc_api_Write_api_Write.b (x0 : Value) (x1 : Value) (R : KV) (X : KX) (w : World) : Prop :=
  pLenSl x0 fun t7 =>
  slices_IndexFunc_api_Write_api_Write.I1 [x0, x1, undef, undef, (.int .i64 0), undef, x0, t7, (.int .i64 0), undef, undef, undef, undef, undef, undef, undef, undef, undef, undef] R X w
theorem slices_IndexFunc_api_Write_api_Write.b_eq (x0 : Value) (x1 : Value) (R : KV) (X : KX) (w : World) : atP Try.prog Try.f85 slices_IndexFunc_api_Write_api_Write.pl [] [] R X ([x0, x1] ++ undefs 17) w = slices_IndexFunc_api_Write_api_Write.b x0 x1 R X w := by kernel_rfl
theorem slices_IndexFunc_api_Write_api_Write.calls {x0 x1 : Value} {R : KV} {X : KX} {w : World} (h : slices_IndexFunc_api_Write_api_Write.b x0 x1 R X w) : GCalls Try.prog 85 [x0, x1] R X w :=
  gcalls_of (pl := slices_IndexFunc_api_Write_api_Write.pl) Try.func85 rfl (by kernel_rfl) hmixed (slices_IndexFunc_api_Write_api_Write.b_eq x0 x1 R X w ▸ h)
end Go.Proofs.Ytlolomdgchkibaa
