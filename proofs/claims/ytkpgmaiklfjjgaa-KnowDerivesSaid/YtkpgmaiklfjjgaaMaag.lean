/-
  The functions' own code as conditions on values and worlds; the kernel checks that each is the code's own.
  What values read as, and what a call leaves as it was.
  One step at a time: what each word asks where its arguments are known, and slices that a call owns.
-/
import Derived.Test.YtkpgmaiklfjjgaaMaaf
import Derived.Test.YtkpgmaiklfjjgaaProg
section
set_option maxRecDepth 100000
set_option linter.unusedVariables false
namespace Go.Proofs.Ytkpgmaiklfjjgaa
open Go.G

/-! oubliette/oubliettelaw16.KnowDerives -/
def oubliettelaw16_KnowDerives.pl : Nat → DrawPlan
  | 16 => ⟨[([], [2]), ([], [2]), ([0, 1], [0, 1, 7]), ([], [5]), ([], [5]), ([3, 4], [3, 4, 6]), ([5], [5, 7]), ([2, 6], [2, 6, 8]), ([7, 2], [7, 9, 10, 11, 12, 13, 14, 15, 16, 17]), ([8], [8, 11]), ([8], [8, 11]), ([9, 10, 8, 8], [8, 9, 10, 16]), ([8], [8, 14]), ([8], [8, 14]), ([12, 13, 8], [8, 12, 13, 15]), ([14, 8], [8, 14, 16]), ([11, 15, 8], [8, 11, 15, 17]), ([8, 16], [8, 16])], .take 0 (.take 1 (.take 3 (.take 4 (.take 5 (.take 6 (.world 2 false (.take 7 (.take 8 (.take 9 (.take 10 (.take 12 (.take 13 (.take 14 (.take 15 (.world 11 false (.take 16 (.take 17 (.done))) .none))))))))) .none))))))⟩
  | _ => ⟨[], .done⟩
def oubliettelaw16_KnowDerives.b2 (x6 : Value) (x7 : Value) (x9 : Value) (x10 : Value) (x11 : Value) (g : Nat → Value) (N1 : List Value → World → Prop) (R : KV) (X : KX) (w : World) : Prop :=
  pLenSl x6 fun t65 =>
  pBinI .leq .i64 x11 t65 fun t66 =>
  scond t66
  (drawn w fun S w =>
    pIA 1 x9 x11 fun t74 =>
    pLd S t74 fun t75 =>
    pCall Try.prog 13 [x7, x11] X w fun t71 w =>
    S w ∧ (pEq .bool true t71 t75 fun t76 =>
      gIf t76 false (fun K => K x10) fun t78 =>
      gIf t76 false (fun K => K x11) fun t79 =>
      gIf t76 false (fun K => K x9) fun t81 =>
      gIf t76 false (fun K => K x11) fun t82 =>
      gIf t76 false (fun K => pIA 1 t81 t82 K) fun t83 =>
      gIf t76 false (fun K => pLd S t83 K) fun t84 =>
      gIfW t76 false (fun w K => pCall Try.prog 13 [t78, t79] X w K) w fun t80 w =>
      S w ∧ (gIf t76 false (fun K => pEq .bool true t80 t84 K) fun t85 =>
        pPick t76 (.bool true) t85 fun t86 =>
        scond t86
        (R (.bool false) w)
        (pBinI .add .i64 x11 (.int .i64 1) fun t68 =>
          N1 [(g 0), (g 1), (g 2), (g 3), (g 4), (g 5), x6, x7, (g 8), x9, x10, t68, (g 12), (g 13), (g 14), (g 15), (g 16), (g 17), (g 18), (g 19), (g 20), (g 21), (g 22), (g 23), (g 24), (g 25), (g 26), (g 27), (g 28), (g 29), (g 30), (g 31), (g 32), (g 33), (g 34), (g 35), (g 36), (g 37), (g 38), (g 39), (g 40), (g 41), (g 42), (g 43), (g 44), (g 45), (g 46), (g 47), (g 48), (g 49), (g 50), (g 51), (g 52), (g 53), (g 54), (g 55), (g 56), (g 57), (g 58), (g 59), (g 60), (g 61), (g 62), x11, x6, t65, t66, x11, t68, x7, x11, t71, x9, x11, t74, t75, t76, t76, t78, t79, t80, t81, t82, t83, t84, t85, t86, (g 87), (g 88), (g 89), (g 90), (g 91), (g 92), (g 93), (g 94), (g 95)] w))))
  (pCall Try.prog 15 [x7] X w fun t88 w =>
    pCall Try.prog 16 [x6, x9] X w fun t91 w =>
    pCall Try.prog 14 [t88, t91] X w fun t92 w =>
    gIfW t92 true (fun w K => pCall Try.prog 7 [] X w K) w fun t94 w =>
    pPick t92 t94 (.bool false) fun t95 =>
    R t95 w)
def oubliettelaw16_KnowDerives.I2 (e : List Value) (R : KV) (X : KX) (w : World) : Prop := atP Try.prog Try.f3 oubliettelaw16_KnowDerives.pl [1, 1, 1, 1, 1, 1, 1, 1, 0, 1, 0] [] R X e w
theorem oubliettelaw16_KnowDerives.I2_eq (e : List Value) (R : KV) (X : KX) (w : World) : oubliettelaw16_KnowDerives.I2 e R X w = loopS (fun N e w => atP Try.prog Try.f3 oubliettelaw16_KnowDerives.pl [1, 1, 1, 1, 1, 1, 1, 1, 0, 1, 0, 0] [N] R X e w) e w := by kernel_rfl
def oubliettelaw16_KnowDerives.fr2 (x6 : Value) (x7 : Value) (x9 : Value) (x10 : Value) (x11 : Value) (g : Nat → Value) : List Value := [g 0, g 1, g 2, g 3, g 4, g 5, x6, x7, g 8, x9, x10, x11, g 12, g 13, g 14, g 15, g 16, g 17, g 18, g 19, g 20, g 21, g 22, g 23, g 24, g 25, g 26, g 27, g 28, g 29, g 30, g 31, g 32, g 33, g 34, g 35, g 36, g 37, g 38, g 39, g 40, g 41, g 42, g 43, g 44, g 45, g 46, g 47, g 48, g 49, g 50, g 51, g 52, g 53, g 54, g 55, g 56, g 57, g 58, g 59, g 60, g 61, g 62, g 63, g 64, g 65, g 66, g 67, g 68, g 69, g 70, g 71, g 72, g 73, g 74, g 75, g 76, g 77, g 78, g 79, g 80, g 81, g 82, g 83, g 84, g 85, g 86, g 87, g 88, g 89, g 90, g 91, g 92, g 93, g 94, g 95]
theorem oubliettelaw16_KnowDerives.b2_eq (x6 : Value) (x7 : Value) (x9 : Value) (x10 : Value) (x11 : Value) (g : Nat → Value) (N1 : List Value → World → Prop) (R : KV) (X : KX) (w : World) : atP Try.prog Try.f3 oubliettelaw16_KnowDerives.pl [1, 1, 1, 1, 1, 1, 1, 1, 0, 1, 0, 0] [N1] R X (oubliettelaw16_KnowDerives.fr2 x6 x7 x9 x10 x11 g) w = oubliettelaw16_KnowDerives.b2 x6 x7 x9 x10 x11 g N1 R X w := by kernel_rfl
/-- What a round of this loop hands on. -/
def oubliettelaw16_KnowDerives.N2 (J : Value → World → Prop) (m : Value → World → Nat) (x6 : Value) (x7 : Value) (x9 : Value) (x10 : Value) (x11 : Value) (w : World) : List Value → World → Prop := fun e w' => (∃ y11 g, e = oubliettelaw16_KnowDerives.fr2 x6 x7 x9 x10 y11 g ∧ J y11 w') ∧ m (nth e 11) w' < m x11 w
theorem oubliettelaw16_KnowDerives.leaf2 {J : Value → World → Prop} {m : Value → World → Nat} {x6 : Value} {x7 : Value} {x9 : Value} {x10 : Value} {x11 : Value} {w w' : World} {e0 e1 e2 e3 e4 e5 e8 e11 e12 e13 e14 e15 e16 e17 e18 e19 e20 e21 e22 e23 e24 e25 e26 e27 e28 e29 e30 e31 e32 e33 e34 e35 e36 e37 e38 e39 e40 e41 e42 e43 e44 e45 e46 e47 e48 e49 e50 e51 e52 e53 e54 e55 e56 e57 e58 e59 e60 e61 e62 e63 e64 e65 e66 e67 e68 e69 e70 e71 e72 e73 e74 e75 e76 e77 e78 e79 e80 e81 e82 e83 e84 e85 e86 e87 e88 e89 e90 e91 e92 e93 e94 e95 : Value} (h : J e11 w') (hm : m e11 w' < m x11 w) : oubliettelaw16_KnowDerives.N2 J m x6 x7 x9 x10 x11 w [e0, e1, e2, e3, e4, e5, x6, x7, e8, x9, x10, e11, e12, e13, e14, e15, e16, e17, e18, e19, e20, e21, e22, e23, e24, e25, e26, e27, e28, e29, e30, e31, e32, e33, e34, e35, e36, e37, e38, e39, e40, e41, e42, e43, e44, e45, e46, e47, e48, e49, e50, e51, e52, e53, e54, e55, e56, e57, e58, e59, e60, e61, e62, e63, e64, e65, e66, e67, e68, e69, e70, e71, e72, e73, e74, e75, e76, e77, e78, e79, e80, e81, e82, e83, e84, e85, e86, e87, e88, e89, e90, e91, e92, e93, e94, e95] w' :=
  ⟨⟨e11, (fun i => nth [e0, e1, e2, e3, e4, e5, x6, x7, e8, x9, x10, e11, e12, e13, e14, e15, e16, e17, e18, e19, e20, e21, e22, e23, e24, e25, e26, e27, e28, e29, e30, e31, e32, e33, e34, e35, e36, e37, e38, e39, e40, e41, e42, e43, e44, e45, e46, e47, e48, e49, e50, e51, e52, e53, e54, e55, e56, e57, e58, e59, e60, e61, e62, e63, e64, e65, e66, e67, e68, e69, e70, e71, e72, e73, e74, e75, e76, e77, e78, e79, e80, e81, e82, e83, e84, e85, e86, e87, e88, e89, e90, e91, e92, e93, e94, e95] i), rfl, h⟩, hm⟩
theorem oubliettelaw16_KnowDerives.loop2 (J : Value → World → Prop) (m : Value → World → Nat) {R : KV} {X : KX} {w : World} {x6 : Value} {x7 : Value} {x9 : Value} {x10 : Value} {e0 e1 e2 e3 e4 e5 e8 e11 e12 e13 e14 e15 e16 e17 e18 e19 e20 e21 e22 e23 e24 e25 e26 e27 e28 e29 e30 e31 e32 e33 e34 e35 e36 e37 e38 e39 e40 e41 e42 e43 e44 e45 e46 e47 e48 e49 e50 e51 e52 e53 e54 e55 e56 e57 e58 e59 e60 e61 e62 e63 e64 e65 e66 e67 e68 e69 e70 e71 e72 e73 e74 e75 e76 e77 e78 e79 e80 e81 e82 e83 e84 e85 e86 e87 e88 e89 e90 e91 e92 e93 e94 e95 : Value} (h0 : J e11 w)
    (hr : ∀ x11 g w, J x11 w → oubliettelaw16_KnowDerives.b2 x6 x7 x9 x10 x11 g (oubliettelaw16_KnowDerives.N2 J m x6 x7 x9 x10 x11 w) R X w) : oubliettelaw16_KnowDerives.I2 [e0, e1, e2, e3, e4, e5, x6, x7, e8, x9, x10, e11, e12, e13, e14, e15, e16, e17, e18, e19, e20, e21, e22, e23, e24, e25, e26, e27, e28, e29, e30, e31, e32, e33, e34, e35, e36, e37, e38, e39, e40, e41, e42, e43, e44, e45, e46, e47, e48, e49, e50, e51, e52, e53, e54, e55, e56, e57, e58, e59, e60, e61, e62, e63, e64, e65, e66, e67, e68, e69, e70, e71, e72, e73, e74, e75, e76, e77, e78, e79, e80, e81, e82, e83, e84, e85, e86, e87, e88, e89, e90, e91, e92, e93, e94, e95] R X w := by
  rw [oubliettelaw16_KnowDerives.I2_eq]
  refine ⟨fun e w => ∃ y11 g, e = oubliettelaw16_KnowDerives.fr2 x6 x7 x9 x10 y11 g ∧ J y11 w, fun e w => m (nth e 11) w, ⟨e11, (fun i => nth [e0, e1, e2, e3, e4, e5, x6, x7, e8, x9, x10, e11, e12, e13, e14, e15, e16, e17, e18, e19, e20, e21, e22, e23, e24, e25, e26, e27, e28, e29, e30, e31, e32, e33, e34, e35, e36, e37, e38, e39, e40, e41, e42, e43, e44, e45, e46, e47, e48, e49, e50, e51, e52, e53, e54, e55, e56, e57, e58, e59, e60, e61, e62, e63, e64, e65, e66, e67, e68, e69, e70, e71, e72, e73, e74, e75, e76, e77, e78, e79, e80, e81, e82, e83, e84, e85, e86, e87, e88, e89, e90, e91, e92, e93, e94, e95] i), rfl, h0⟩, ?_⟩
  rintro _ w ⟨y11, g, rfl, hJ⟩
  rw [oubliettelaw16_KnowDerives.b2_eq]
  exact hr y11 g w hJ
def oubliettelaw16_KnowDerives.b1 (x1 : Value) (x6 : Value) (x7 : Value) (x8 : Value) (g : Nat → Value) (N1 : List Value → World → Prop) (R : KV) (X : KX) (w : World) : Prop :=
  pLenSl x1 fun t26 =>
  pBinI .lss .i64 x8 t26 fun t27 =>
  scond t27
  (pIA 1 x1 x8 fun t33 =>
    pLd (· = w) t33 fun t34 =>
    pBSlice 3 1 (rowOf [.int .i64 0] 1) [(0, 1, t34)] w fun t35 w =>
    pCall Try.prog 10 [x7, t35] X w fun t36 w =>
    pBinI .add .i64 x8 (.int .i64 1) fun t29 =>
    N1 [(g 0), x1, (g 2), (g 3), (g 4), (g 5), x6, x7, t29, (g 9), (g 10), (g 11), (g 12), (g 13), (g 14), (g 15), (g 16), (g 17), (g 18), (g 19), (g 20), (g 21), (g 22), (g 23), x8, x1, t26, t27, x8, t29, x7, x1, x8, t33, t34, t35, t36, (g 37), (g 38), (g 39), (g 40), (g 41), (g 42), (g 43), (g 44), (g 45), (g 46), (g 47), (g 48), (g 49), (g 50), (g 51), (g 52), (g 53), (g 54), (g 55), (g 56), (g 57), (g 58), (g 59), (g 60), (g 61), (g 62), (g 63), (g 64), (g 65), (g 66), (g 67), (g 68), (g 69), (g 70), (g 71), (g 72), (g 73), (g 74), (g 75), (g 76), (g 77), (g 78), (g 79), (g 80), (g 81), (g 82), (g 83), (g 84), (g 85), (g 86), (g 87), (g 88), (g 89), (g 90), (g 91), (g 92), (g 93), (g 94), (g 95)] w)
  (pCall Try.prog 11 [x6, x1] X w fun t39 w =>
    pCall Try.prog 12 [x7] X w fun t41 w =>
    pEq .ptr false x7 (.pointer none) fun t43 =>
    gIf t43 false (fun K => K t41) fun t45 =>
    gIf t43 false (fun K => pEq .ptr false t45 (.pointer none) K) fun t46 =>
    pPick t43 (.bool true) t46 fun t47 =>
    gIf t47 false (fun K => K x7) fun t49 =>
    gIfW t47 false (fun w K => pCall Try.prog 13 [t49, (.int .i64 0)] X w K) w fun t50 w =>
    pPick t47 (.bool true) t50 fun t51 =>
    gIf t51 false (fun K => K x7) fun t53 =>
    gIf t51 false (fun K => K x6) fun t54 =>
    gIf t51 false (fun K => pLenSl t54 K) fun t55 =>
    gIf t51 false (fun K => pBinI .add .i64 t55 (.int .i64 1) K) fun t56 =>
    gIfW t51 false (fun w K => pCall Try.prog 13 [t53, t56] X w K) w fun t57 w =>
    pPick t51 (.bool true) t57 fun t58 =>
    gIf t58 false (fun K => K x7) fun t60 =>
    gIfW t58 false (fun w K => pCall Try.prog 13 [t60, (.int .i64 (-1))] X w K) w fun t61 w =>
    pPick t58 (.bool true) t61 fun t62 =>
    scond t62
    (R (.bool false) w)
    (oubliettelaw16_KnowDerives.I2 [(g 0), x1, (g 2), (g 3), (g 4), (g 5), x6, x7, x8, t39, t41, (.int .i64 1), (g 12), (g 13), (g 14), (g 15), (g 16), (g 17), (g 18), (g 19), (g 20), (g 21), (g 22), (g 23), x8, x1, t26, t27, (g 28), (g 29), (g 30), (g 31), (g 32), (g 33), (g 34), (g 35), (g 36), x6, x1, t39, x7, t41, x7, t43, t43, t45, t46, t47, t47, t49, t50, t51, t51, t53, t54, t55, t56, t57, t58, t58, t60, t61, t62, (g 63), (g 64), (g 65), (g 66), (g 67), (g 68), (g 69), (g 70), (g 71), (g 72), (g 73), (g 74), (g 75), (g 76), (g 77), (g 78), (g 79), (g 80), (g 81), (g 82), (g 83), (g 84), (g 85), (g 86), (g 87), (g 88), (g 89), (g 90), (g 91), (g 92), (g 93), (g 94), (g 95)] R X w))
def oubliettelaw16_KnowDerives.I1 (e : List Value) (R : KV) (X : KX) (w : World) : Prop := atP Try.prog Try.f3 oubliettelaw16_KnowDerives.pl [1, 1, 1, 1, 0, 1, 0] [] R X e w
theorem oubliettelaw16_KnowDerives.I1_eq (e : List Value) (R : KV) (X : KX) (w : World) : oubliettelaw16_KnowDerives.I1 e R X w = loopS (fun N e w => atP Try.prog Try.f3 oubliettelaw16_KnowDerives.pl [1, 1, 1, 1, 0, 1, 0, 0] [N] R X e w) e w := by kernel_rfl
def oubliettelaw16_KnowDerives.fr1 (x1 : Value) (x6 : Value) (x7 : Value) (x8 : Value) (g : Nat → Value) : List Value := [g 0, x1, g 2, g 3, g 4, g 5, x6, x7, x8, g 9, g 10, g 11, g 12, g 13, g 14, g 15, g 16, g 17, g 18, g 19, g 20, g 21, g 22, g 23, g 24, g 25, g 26, g 27, g 28, g 29, g 30, g 31, g 32, g 33, g 34, g 35, g 36, g 37, g 38, g 39, g 40, g 41, g 42, g 43, g 44, g 45, g 46, g 47, g 48, g 49, g 50, g 51, g 52, g 53, g 54, g 55, g 56, g 57, g 58, g 59, g 60, g 61, g 62, g 63, g 64, g 65, g 66, g 67, g 68, g 69, g 70, g 71, g 72, g 73, g 74, g 75, g 76, g 77, g 78, g 79, g 80, g 81, g 82, g 83, g 84, g 85, g 86, g 87, g 88, g 89, g 90, g 91, g 92, g 93, g 94, g 95]
theorem oubliettelaw16_KnowDerives.b1_eq (x1 : Value) (x6 : Value) (x7 : Value) (x8 : Value) (g : Nat → Value) (N1 : List Value → World → Prop) (R : KV) (X : KX) (w : World) : atP Try.prog Try.f3 oubliettelaw16_KnowDerives.pl [1, 1, 1, 1, 0, 1, 0, 0] [N1] R X (oubliettelaw16_KnowDerives.fr1 x1 x6 x7 x8 g) w = oubliettelaw16_KnowDerives.b1 x1 x6 x7 x8 g N1 R X w := by kernel_rfl
/-- What a round of this loop hands on. -/
def oubliettelaw16_KnowDerives.N1 (J : Value → World → Prop) (m : Value → World → Nat) (x1 : Value) (x6 : Value) (x7 : Value) (x8 : Value) (w : World) : List Value → World → Prop := fun e w' => (∃ y8 g, e = oubliettelaw16_KnowDerives.fr1 x1 x6 x7 y8 g ∧ J y8 w') ∧ m (nth e 8) w' < m x8 w
theorem oubliettelaw16_KnowDerives.leaf1 {J : Value → World → Prop} {m : Value → World → Nat} {x1 : Value} {x6 : Value} {x7 : Value} {x8 : Value} {w w' : World} {e0 e2 e3 e4 e5 e8 e9 e10 e11 e12 e13 e14 e15 e16 e17 e18 e19 e20 e21 e22 e23 e24 e25 e26 e27 e28 e29 e30 e31 e32 e33 e34 e35 e36 e37 e38 e39 e40 e41 e42 e43 e44 e45 e46 e47 e48 e49 e50 e51 e52 e53 e54 e55 e56 e57 e58 e59 e60 e61 e62 e63 e64 e65 e66 e67 e68 e69 e70 e71 e72 e73 e74 e75 e76 e77 e78 e79 e80 e81 e82 e83 e84 e85 e86 e87 e88 e89 e90 e91 e92 e93 e94 e95 : Value} (h : J e8 w') (hm : m e8 w' < m x8 w) : oubliettelaw16_KnowDerives.N1 J m x1 x6 x7 x8 w [e0, x1, e2, e3, e4, e5, x6, x7, e8, e9, e10, e11, e12, e13, e14, e15, e16, e17, e18, e19, e20, e21, e22, e23, e24, e25, e26, e27, e28, e29, e30, e31, e32, e33, e34, e35, e36, e37, e38, e39, e40, e41, e42, e43, e44, e45, e46, e47, e48, e49, e50, e51, e52, e53, e54, e55, e56, e57, e58, e59, e60, e61, e62, e63, e64, e65, e66, e67, e68, e69, e70, e71, e72, e73, e74, e75, e76, e77, e78, e79, e80, e81, e82, e83, e84, e85, e86, e87, e88, e89, e90, e91, e92, e93, e94, e95] w' :=
  ⟨⟨e8, (fun i => nth [e0, x1, e2, e3, e4, e5, x6, x7, e8, e9, e10, e11, e12, e13, e14, e15, e16, e17, e18, e19, e20, e21, e22, e23, e24, e25, e26, e27, e28, e29, e30, e31, e32, e33, e34, e35, e36, e37, e38, e39, e40, e41, e42, e43, e44, e45, e46, e47, e48, e49, e50, e51, e52, e53, e54, e55, e56, e57, e58, e59, e60, e61, e62, e63, e64, e65, e66, e67, e68, e69, e70, e71, e72, e73, e74, e75, e76, e77, e78, e79, e80, e81, e82, e83, e84, e85, e86, e87, e88, e89, e90, e91, e92, e93, e94, e95] i), rfl, h⟩, hm⟩
theorem oubliettelaw16_KnowDerives.loop1 (J : Value → World → Prop) (m : Value → World → Nat) {R : KV} {X : KX} {w : World} {x1 : Value} {x6 : Value} {x7 : Value} {e0 e2 e3 e4 e5 e8 e9 e10 e11 e12 e13 e14 e15 e16 e17 e18 e19 e20 e21 e22 e23 e24 e25 e26 e27 e28 e29 e30 e31 e32 e33 e34 e35 e36 e37 e38 e39 e40 e41 e42 e43 e44 e45 e46 e47 e48 e49 e50 e51 e52 e53 e54 e55 e56 e57 e58 e59 e60 e61 e62 e63 e64 e65 e66 e67 e68 e69 e70 e71 e72 e73 e74 e75 e76 e77 e78 e79 e80 e81 e82 e83 e84 e85 e86 e87 e88 e89 e90 e91 e92 e93 e94 e95 : Value} (h0 : J e8 w)
    (hr : ∀ x8 g w, J x8 w → oubliettelaw16_KnowDerives.b1 x1 x6 x7 x8 g (oubliettelaw16_KnowDerives.N1 J m x1 x6 x7 x8 w) R X w) : oubliettelaw16_KnowDerives.I1 [e0, x1, e2, e3, e4, e5, x6, x7, e8, e9, e10, e11, e12, e13, e14, e15, e16, e17, e18, e19, e20, e21, e22, e23, e24, e25, e26, e27, e28, e29, e30, e31, e32, e33, e34, e35, e36, e37, e38, e39, e40, e41, e42, e43, e44, e45, e46, e47, e48, e49, e50, e51, e52, e53, e54, e55, e56, e57, e58, e59, e60, e61, e62, e63, e64, e65, e66, e67, e68, e69, e70, e71, e72, e73, e74, e75, e76, e77, e78, e79, e80, e81, e82, e83, e84, e85, e86, e87, e88, e89, e90, e91, e92, e93, e94, e95] R X w := by
  rw [oubliettelaw16_KnowDerives.I1_eq]
  refine ⟨fun e w => ∃ y8 g, e = oubliettelaw16_KnowDerives.fr1 x1 x6 x7 y8 g ∧ J y8 w, fun e w => m (nth e 8) w, ⟨e8, (fun i => nth [e0, x1, e2, e3, e4, e5, x6, x7, e8, e9, e10, e11, e12, e13, e14, e15, e16, e17, e18, e19, e20, e21, e22, e23, e24, e25, e26, e27, e28, e29, e30, e31, e32, e33, e34, e35, e36, e37, e38, e39, e40, e41, e42, e43, e44, e45, e46, e47, e48, e49, e50, e51, e52, e53, e54, e55, e56, e57, e58, e59, e60, e61, e62, e63, e64, e65, e66, e67, e68, e69, e70, e71, e72, e73, e74, e75, e76, e77, e78, e79, e80, e81, e82, e83, e84, e85, e86, e87, e88, e89, e90, e91, e92, e93, e94, e95] i), rfl, h0⟩, ?_⟩
  rintro _ w ⟨y8, g, rfl, hJ⟩
  rw [oubliettelaw16_KnowDerives.b1_eq]
  exact hr y8 g w hJ
def oubliettelaw16_KnowDerives.b (x0 : Value) (x1 : Value) (R : KV) (X : KX) (w : World) : Prop :=
  pCall Try.prog 6 [x0, x1] X w fun t14 w =>
  pNot t14 fun t15 =>
  scond t15
  (pCall Try.prog 7 [] X w fun t16 w =>
    R t16 w)
  (pCall Try.prog 8 [x0] X w fun t19 w =>
    pExt t19 0 fun t20 =>
    pExt t19 1 fun t21 =>
    pCall Try.prog 9 [t20] X w fun t23 w =>
    oubliettelaw16_KnowDerives.I1 [x0, x1, undef, undef, (.bool false), t20, t21, t23, (.int .i64 0), undef, undef, undef, x0, x1, t14, t15, undef, t19, x0, t19, t20, t21, t20, t23, undef, undef, undef, undef, undef, undef, undef, undef, undef, undef, undef, undef, undef, undef, undef, undef, undef, undef, undef, undef, undef, undef, undef, undef, undef, undef, undef, undef, undef, undef, undef, undef, undef, undef, undef, undef, undef, undef, undef, undef, undef, undef, undef, undef, undef, undef, undef, undef, undef, undef, undef, undef, undef, undef, undef, undef, undef, undef, undef, undef, undef, undef, undef, undef, undef, undef, undef, undef, undef, undef, undef, undef] R X w)
theorem oubliettelaw16_KnowDerives.b_eq (x0 : Value) (x1 : Value) (R : KV) (X : KX) (w : World) : atP Try.prog Try.f3 oubliettelaw16_KnowDerives.pl [] [] R X ([x0, x1] ++ undefs 94) w = oubliettelaw16_KnowDerives.b x0 x1 R X w := by kernel_rfl
theorem oubliettelaw16_KnowDerives.calls {x0 x1 : Value} {R : KV} {X : KX} {w : World} (h : oubliettelaw16_KnowDerives.b x0 x1 R X w) : GCalls Try.prog 3 [x0, x1] R X w :=
  gcalls_of (pl := oubliettelaw16_KnowDerives.pl) Try.func3 rfl (by kernel_rfl) hmixed (oubliettelaw16_KnowDerives.b_eq x0 x1 R X w ▸ h)
end Go.Proofs.Ytkpgmaiklfjjgaa
end
section
set_option linter.unusedSimpArgs false
set_option linter.unusedVariables false
namespace Go.G
open Go

/-! ### 1. Worlds -/
/-- But for the blocks of T, what was there is as it was. -/
structure Fr (T : Nat → Prop) (w w' : World) : Prop where
  os : w'.os = w.os
  tape : w'.tape = w.tape
  output : w'.output = w.output
  size : w.heap.size ≤ w'.heap.size
  keep : ∀ b, b < w.heap.size → ¬ T b → w'.heap[b]? = w.heap[b]?
/-- All that was there is as it was. -/
abbrev Ext (w w' : World) : Prop := Fr (fun _ => False) w w'
theorem Fr.refl (T : Nat → Prop) (w : World) : Fr T w w := ⟨rfl, rfl, rfl, Nat.le_refl _, fun _ _ _ => rfl⟩
theorem Fr.trans {T T' : Nat → Prop} {a b c : World} (h : Fr T a b) (k : Fr T' b c) (hT : ∀ x, x < a.heap.size → T' x → T x) : Fr T a c :=
  ⟨k.os.trans h.os, k.tape.trans h.tape, k.output.trans h.output, Nat.le_trans h.size k.size, fun x hx hn => (k.keep x (Nat.lt_of_lt_of_le hx h.size) (fun ht => hn (hT x hx ht))).trans (h.keep x hx hn)⟩
theorem Fr.mono {T T' : Nat → Prop} {w w' : World} (h : Fr T w w') (hT : ∀ x, x < w.heap.size → T x → T' x) : Fr T' w w' :=
  ⟨h.os, h.tape, h.output, h.size, fun x hx hn => h.keep x hx (fun ht => hn (hT x hx ht))⟩
theorem Ext.tr {a b c : World} (h : Ext a b) (k : Ext b c) : Ext a c := Fr.trans h k (fun _ _ h => h)
/-- A step that only turns what was made since a. -/
theorem Ext.tn {a b c : World} {T : Nat → Prop} (h : Ext a b) (k : Fr T b c) (hT : ∀ x, T x → a.heap.size ≤ x) : Ext a c :=
  Fr.trans h k (fun x hx ht => by have := hT x ht; omega)
theorem Ext.drew (w : World) : Ext w w.drew := ⟨rfl, rfl, rfl, Nat.le_refl _, fun _ _ _ => rfl⟩
theorem heap_alloc (w : World) (o : Obj) : (w.alloc o).heap = w.heap.push o := rfl
theorem heap_drew (w : World) : w.drew.heap = w.heap := rfl
theorem Ext.alloc (w : World) (o : Obj) : Ext w (w.alloc o) :=
  ⟨rfl, rfl, rfl, by simp [heap_alloc], fun b hb _ => by rw [heap_alloc, Array.getElem?_push, if_neg (by omega)]⟩
theorem alloc_new (w : World) (o : Obj) : (w.alloc o).heap[w.heap.size]? = some o := by rw [heap_alloc]; simp
theorem size_alloc (w : World) (o : Obj) : (w.alloc o).heap.size = w.heap.size + 1 := by simp [heap_alloc]
theorem Fr.setCell (w : World) (a : Addr) (v : Value) : Fr (· = a.block) w (w.setCell a v) :=
  ⟨rfl, rfl, rfl, by simp [World.setCell], fun b _ hn => by rw [heap_setCell, if_neg (fun e => hn e.symm)]⟩
theorem Fr.setCells (a : Addr) : ∀ (xs : List Value) (i : Nat) (w : World), Fr (· = a.block) w (setCells w a i xs)
  | [], _, w => Fr.refl _ w
  | v :: r, i, w => by
    have h1 := Fr.setCell w (a.add i) v
    have hb : (a.add i).block = a.block := by unfold Addr.add; split <;> rfl
    rw [hb] at h1
    exact h1.trans (Fr.setCells a r (i + 1) _) (fun _ _ h => h)
theorem cell_lt {w : World} {a : Addr} {v : Value} (h : w.cell? a = some v) : a.block < w.heap.size := by
  unfold World.cell? at h
  split at h
  · rename_i h1; exact (Array.getElem?_eq_some_iff.1 h1).1
  · cases h
theorem cell_congr {w w' : World} {a : Addr} (h : w'.heap[a.block]? = w.heap[a.block]?) : w'.cell? a = w.cell? a := by unfold World.cell?; rw [h]
theorem Fr.cell {T : Nat → Prop} {w w' : World} (h : Fr T w w') {a : Addr} {v : Value} (hc : w.cell? a = some v) (hT : ¬ T a.block) : w'.cell? a = some v := by
  rw [cell_congr (h.keep _ (cell_lt hc) hT)]; exact hc
theorem Ext.cell {w w' : World} (h : Ext w w') {a : Addr} {v : Value} (hc : w.cell? a = some v) : w'.cell? a = some v := Fr.cell h hc (fun h => h)
theorem heap_lt {w : World} {b : Nat} {o : Obj} (h : w.heap[b]? = some o) : b < w.heap.size := (Array.getElem?_eq_some_iff.1 h).1
theorem Fr.heap {T : Nat → Prop} {w w' : World} (h : Fr T w w') {b : Nat} {o : Obj} (hc : w.heap[b]? = some o) (hT : ¬ T b) : w'.heap[b]? = some o := by
  rw [h.keep _ (heap_lt hc) hT]; exact hc
theorem add_add (a : Addr) (i j : Nat) (h : a.spot = none) : (a.add i).add j = a.add (i + j) := by
  obtain ⟨b, o, s⟩ := a
  simp only at h
  subst h
  unfold Addr.add
  by_cases h1 : i = 0
  · simp [h1]
  · by_cases h2 : j = 0
    · simp [h1, h2]
    · simp [h1, h2, show ¬ i + j = 0 by omega]; omega
theorem add_block (a : Addr) (i : Nat) : (a.add i).block = a.block := by unfold Addr.add; split <;> rfl
theorem add_spot (a : Addr) (i : Nat) (h : a.spot = none) : (a.add i).spot = none := by unfold Addr.add; split <;> simp [h]
theorem add_mk (b o i : Nat) : (⟨b, o, none⟩ : Addr).add i = ⟨b, o + i, none⟩ := by
  unfold Addr.add; split <;> simp_all
theorem cell_mk {w : World} {b o : Nat} {cs : Array Value} {T : TypeId} {fz : Nat × Nat} (h : w.heap[b]? = some (.cells cs T fz)) : w.cell? ⟨b, o, none⟩ = cs[o]? := by
  simp [World.cell?, h]

/-! ### 2. What values read as -/
inductive Ty where
  | int (k : IntKind) | byte | bool | str | raw | slice (t : Ty) | pair (a b : Ty)
def Ty.n : Ty → Nat
  | .pair a b => a.n + b.n
  | _ => 1
@[reducible] def Ty.D : Ty → Type
  | .int _ => Int
  | .byte => UInt8
  | .bool => Bool
  | .str => List UInt8
  | .raw => Value
  | .slice t => List t.D
  | .pair a b => a.D × b.D
/-- The cells vs read as x, all that is read by the way lying in blocks of D. -/
def Rd : (t : Ty) → (Nat → Prop) → World → List Value → t.D → Prop
  | .int k, _, _, vs, n => vs = [.int k n] ∧ k.min ≤ n ∧ n ≤ k.max
  | .byte, _, _, vs, b => vs = [.int .u8 (b.toNat : Int)]
  | .bool, _, _, vs, b => vs = [.bool b]
  | .str, _, _, vs, l => vs = [.string ⟨l.toArray⟩] ∧ l.length < 9223372036854775808
  | .raw, _, _, vs, x => vs = [x] ∧ one x = true
  | .slice t, D, w, vs, xs => ∃ a c, vs = [.slice a xs.length c] ∧ xs.length ≤ c ∧ xs.length < 9223372036854775808 ∧ (xs ≠ [] → ∃ ad : Addr, a = some ad ∧ ad.spot = none ∧ D ad.block ∧
      ∀ i (hi : i < xs.length), ∃ cs : List Value, cs.length = t.n ∧ (∀ j v, cs[j]? = some v → w.cell? (ad.add (i * t.n + j)) = some v) ∧ Rd t D w cs xs[i])
  | .pair a b, D, w, vs, x => ∃ va vb, vs = va ++ vb ∧ va.length = a.n ∧ vb.length = b.n ∧ Rd a D w va x.1 ∧ Rd b D w vb x.2
/-- A value that reads as x. -/
def RdV (t : Ty) (D : Nat → Prop) (w : World) (v : Value) (x : t.D) : Prop := Rd t D w v.cells.toList x
/-- At an address a value lies that reads as x. -/
def At (t : Ty) (D : Nat → Prop) (w : World) (ad : Addr) (x : t.D) : Prop :=
  ad.spot = none ∧ ∃ cs : List Value, cs.length = t.n ∧ (∀ j v, cs[j]? = some v → w.cell? (ad.add j) = some v) ∧ Rd t D w cs x
theorem Rd.len : ∀ {t : Ty} {D : Nat → Prop} {w : World} {vs : List Value} {x : t.D}, Rd t D w vs x → vs.length = t.n
  | .int _, _, _, _, _, h => by rw [h.1]; rfl
  | .byte, _, _, _, _, h => by rw [show _ = _ from h]; rfl
  | .bool, _, _, _, _, h => by rw [show _ = _ from h]; rfl
  | .str, _, _, _, _, h => by rw [h.1]; rfl
  | .raw, _, _, _, _, h => by rw [h.1]; rfl
  | .slice _, _, _, _, _, h => by obtain ⟨a, c, rfl, _⟩ := h; rfl
  | .pair a b, _, _, _, _, h => by obtain ⟨va, vb, rfl, h1, h2, _⟩ := h; simp [Ty.n, h1, h2]
theorem Rd.imp : ∀ {t : Ty} {D D' : Nat → Prop} {w w' : World} {vs : List Value} {x : t.D}, Rd t D w vs x → (∀ b, D b → D' b) →
    (∀ b, D b → b < w.heap.size → w'.heap[b]? = w.heap[b]?) → Rd t D' w' vs x
  | .int _, _, _, _, _, _, _, h, _, _ => h
  | .byte, _, _, _, _, _, _, h, _, _ => h
  | .bool, _, _, _, _, _, _, h, _, _ => h
  | .str, _, _, _, _, _, _, h, _, _ => h
  | .raw, _, _, _, _, _, _, h, _, _ => h
  | .slice t, D, D', w, w', vs, xs, h, hD, hw => by
    obtain ⟨a, c, h1, h2, h3, h4⟩ := h
    refine ⟨a, c, h1, h2, h3, fun hne => ?_⟩
    obtain ⟨ad, g1, g2, g3, g4⟩ := h4 hne
    refine ⟨ad, g1, g2, hD _ g3, fun i hi => ?_⟩
    obtain ⟨cs, k1, k2, k3⟩ := g4 i hi
    refine ⟨cs, k1, fun j v hj => ?_, k3.imp hD hw⟩
    have := k2 j v hj
    rw [cell_congr (hw _ (by rw [add_block]; exact g3) (cell_lt this))]
    exact this
  | .pair a b, _, _, _, _, _, _, h, hD, hw => by
    obtain ⟨va, vb, h1, h2, h3, h4, h5⟩ := h
    exact ⟨va, vb, h1, h2, h3, h4.imp hD hw, h5.imp hD hw⟩
theorem Rd.fr {t : Ty} {D T : Nat → Prop} {w w' : World} {vs : List Value} {x : t.D} (h : Rd t D w vs x) (hf : Fr T w w') (hT : ∀ b, D b → ¬ T b) : Rd t D w' vs x :=
  h.imp (fun _ h => h) (fun b hb hlt => hf.keep b hlt (hT b hb))
theorem Rd.ext {t : Ty} {D : Nat → Prop} {w w' : World} {vs : List Value} {x : t.D} (h : Rd t D w vs x) (hf : Ext w w') : Rd t D w' vs x := h.fr hf (fun _ _ h => h)
theorem Rd.wide {t : Ty} {D D' : Nat → Prop} {w : World} {vs : List Value} {x : t.D} (h : Rd t D w vs x) (hD : ∀ b, D b → D' b) : Rd t D' w vs x := h.imp hD (fun _ _ _ => rfl)
theorem RdV.fr {t : Ty} {D T : Nat → Prop} {w w' : World} {v : Value} {x : t.D} (h : RdV t D w v x) (hf : Fr T w w') (hT : ∀ b, D b → ¬ T b) : RdV t D w' v x := Rd.fr h hf hT
theorem RdV.ext {t : Ty} {D : Nat → Prop} {w w' : World} {v : Value} {x : t.D} (h : RdV t D w v x) (hf : Ext w w') : RdV t D w' v x := Rd.ext h hf
theorem RdV.wide {t : Ty} {D D' : Nat → Prop} {w : World} {v : Value} {x : t.D} (h : RdV t D w v x) (hD : ∀ b, D b → D' b) : RdV t D' w v x := Rd.wide h hD
theorem At.fr {t : Ty} {D T : Nat → Prop} {w w' : World} {ad : Addr} {x : t.D} (h : At t D w ad x) (hf : Fr T w w') (ha : ¬ T ad.block) (hT : ∀ b, D b → ¬ T b) : At t D w' ad x := by
  obtain ⟨h0, cs, h1, h2, h3⟩ := h
  exact ⟨h0, cs, h1, fun j v hj => hf.cell (h2 j v hj) (by rw [add_block]; exact ha), h3.fr hf hT⟩
theorem At.ext {t : Ty} {D : Nat → Prop} {w w' : World} {ad : Addr} {x : t.D} (h : At t D w ad x) (hf : Ext w w') : At t D w' ad x := h.fr hf (fun h => h) (fun _ _ h => h)
theorem At.fst {a b : Ty} {D : Nat → Prop} {w : World} {ad : Addr} {x : a.D × b.D} (h : At (.pair a b) D w ad x) : At a D w ad x.1 := by
  obtain ⟨h0, cs, h1, h2, va, vb, rfl, g1, g2, g3, g4⟩ := h
  exact ⟨h0, va, g1, fun j v hj => h2 j v (by rw [List.getElem?_append_left (List.getElem?_eq_some_iff.1 hj).1]; exact hj), g3⟩
theorem At.snd {a b : Ty} {D : Nat → Prop} {w : World} {ad : Addr} {x : a.D × b.D} (h : At (.pair a b) D w ad x) : At b D w (ad.add a.n) x.2 := by
  obtain ⟨h0, cs, h1, h2, va, vb, rfl, g1, g2, g3, g4⟩ := h
  refine ⟨add_spot _ _ h0, vb, g2, fun j v hj => ?_, g4⟩
  rw [add_add _ _ _ h0]
  exact h2 _ v (by rw [List.getElem?_append_right (by omega)]; rw [g1]; simpa using hj)
/-- A cell at an address. -/
theorem At.cell {t : Ty} {D : Nat → Prop} {w : World} {ad : Addr} {x : t.D} (h : At t D w ad x) (hn : t.n = 1) : ∃ v, w.cell? ad = some v ∧ Rd t D w [v] x := by
  obtain ⟨h0, cs, h1, h2, h3⟩ := h
  match cs, h1.trans hn with
  | [v], _ => exact ⟨v, by have := h2 0 v rfl; rwa [add_zero] at this, h3⟩
/-- What lies at a place of a slice. -/
theorem Rd.at_ {t : Ty} {D : Nat → Prop} {w : World} {v : Value} {xs : List t.D} (h : Rd (.slice t) D w [v] xs) {i : Nat} (hi : i < xs.length) :
    ∃ ad c, v = .slice (some ad) xs.length c ∧ ad.spot = none ∧ D ad.block ∧ At t D w (ad.add (i * t.n)) xs[i] := by
  obtain ⟨a, c, h1, h2, h3, h4⟩ := h
  obtain ⟨ad, rfl, g2, g3, g4⟩ := h4 (by intro e; subst e; simp at hi)
  obtain ⟨cs, k1, k2, k3⟩ := g4 i hi
  refine ⟨ad, c, by simpa using h1, g2, g3, add_spot _ _ g2, cs, k1, fun j u hj => ?_, k3⟩
  rw [add_add _ _ _ g2]
  exact k2 j u hj
theorem Rd.form {t : Ty} {D : Nat → Prop} {w : World} {v : Value} {xs : List t.D} (h : Rd (.slice t) D w [v] xs) : ∃ a c, v = .slice a xs.length c ∧ xs.length ≤ c ∧ xs.length < 9223372036854775808 := by
  obtain ⟨a, c, h1, h2, h3, _⟩ := h
  exact ⟨a, c, by simpa using h1, h2, h3⟩
theorem RdV.of_cell {t : Ty} {D : Nat → Prop} {w : World} {v : Value} {x : t.D} (h : Rd t D w [v] x) (hv : one v = true) : RdV t D w v x := by
  unfold RdV
  rw [one_cells hv]
  exact h
theorem Rd.isOne : ∀ {t : Ty} {D : Nat → Prop} {w : World} {v : Value} {x : t.D}, Rd t D w [v] x → (∀ a b, t ≠ .pair a b) → one v = true
  | .int _, _, _, _, _, h, _ => by have := h.1; simp at this; subst this; rfl
  | .byte, _, _, _, _, h, _ => by have : _ = _ := h; simp at this; subst this; rfl
  | .bool, _, _, _, _, h, _ => by have : _ = _ := h; simp at this; subst this; rfl
  | .str, _, _, _, _, h, _ => by have := h.1; simp at this; subst this; rfl
  | .raw, _, _, _, _, h, _ => by have := h.1; simp at this; subst this; exact h.2
  | .slice _, _, _, _, _, h, _ => by obtain ⟨a, c, h1, _⟩ := h; simp at h1; subst h1; rfl
  | .pair a b, _, _, _, _, _, h => absurd rfl (h a b)
theorem Rd.allOne : ∀ {t : Ty} {D : Nat → Prop} {w : World} {vs : List Value} {x : t.D}, Rd t D w vs x → ∀ v ∈ vs, one v = true
  | .int _, _, _, _, _, h, v, hv => by rw [h.1] at hv; simp at hv; subst hv; rfl
  | .byte, _, _, _, _, h, v, hv => by rw [show _ = _ from h] at hv; simp at hv; subst hv; rfl
  | .bool, _, _, _, _, h, v, hv => by rw [show _ = _ from h] at hv; simp at hv; subst hv; rfl
  | .str, _, _, _, _, h, v, hv => by rw [h.1] at hv; simp at hv; subst hv; rfl
  | .raw, _, _, _, _, h, v, hv => by rw [h.1] at hv; simp at hv; subst hv; exact h.2
  | .slice _, _, _, _, _, h, v, hv => by obtain ⟨a, c, h1, _⟩ := h; rw [h1] at hv; simp at hv; subst hv; rfl
  | .pair a b, _, _, _, _, h, v, hv => by
    obtain ⟨va, vb, rfl, _, _, h1, h2⟩ := h
    rcases List.mem_append.1 hv with hv | hv
    · exact h1.allOne v hv
    · exact h2.allOne v hv
end Go.G
end
section
set_option linter.unusedSimpArgs false
set_option linter.unusedVariables false
namespace Go.G
open Go
variable {K : KP} {KW : KV} {w : World}

/-! ### 1. What only computes -/
theorem eBinI {op : BinOp} {k : IntKind} {a b : Int} : pBinI op k (.int k a) (.int k b) K = K (binI op k a b) := by
  apply propext; constructor
  · rintro ⟨a', b', h1, h2, h⟩; cases h1; cases h2; exact h
  · exact fun h => ⟨a, b, rfl, rfl, h⟩
theorem eDiv {op : BinOp} {k : IntKind} {a b : Int} : pDiv op k (.int k a) (.int k b) K = (b ≠ 0 ∧ K (divI op k a b)) := by
  apply propext; constructor
  · rintro ⟨a', b', h1, h2, h⟩; cases h1; cases h2; exact h
  · exact fun h => ⟨a, b, rfl, rfl, h⟩
theorem eShift {op : BinOp} {k j : IntKind} {a b : Int} : pShift op k (.int k a) (.int j b) K = (0 ≤ b ∧ K (shiftI op k a b)) := by
  apply propext; constructor
  · rintro ⟨a', j', b', h1, h2, h⟩; cases h1; cases h2; exact h
  · exact fun h => ⟨a, j, b, rfl, rfl, h⟩
theorem eBinS {op : BinOp} {a b : ByteArray} : pBinS op (.string a) (.string b) K = ((((a.size + b.size : Nat) : Int) ≤ IntKind.i64.max) ∧ K (binS op a b)) := by
  apply propext; constructor
  · rintro ⟨a', b', h1, h2, h⟩; cases h1; cases h2; exact h
  · exact fun h => ⟨a, b, rfl, rfl, h⟩
theorem ePick {t : Bool} {a b : Value} : pPick (.bool t) a b K = K (bif t then a else b) := by
  apply propext; constructor
  · rintro ⟨a', h1, h⟩; cases h1; exact h
  · exact fun h => ⟨t, rfl, h⟩
theorem eNot {t : Bool} : pNot (.bool t) K = K (.bool (!t)) := by
  apply propext; constructor
  · rintro ⟨a', h1, h⟩; cases h1; exact h
  · exact fun h => ⟨t, rfl, h⟩
theorem eNeg {k : IntKind} {a : Int} : pNeg k (.int k a) K = K (.int k (k.wrap (0 - a))) := by
  apply propext; constructor
  · rintro ⟨a', h1, h⟩; cases h1; exact h
  · exact fun h => ⟨a, rfl, h⟩
theorem eConv {k j : IntKind} {a : Int} : pConv k (.int j a) K = K (.int k (k.wrap a)) := by
  apply propext; constructor
  · rintro ⟨j', a', h1, h⟩; cases h1; exact h
  · exact fun h => ⟨j, a, rfl, h⟩
theorem eConvS {s : ByteArray} : pConvS (.string s) K = K (.string s) := by
  apply propext; constructor
  · rintro ⟨a', h1, h⟩; cases h1; exact h
  · exact fun h => ⟨s, rfl, h⟩
theorem eExt {vs : Array Value} {i : Nat} : pExt (.tuple vs) i K = (∃ v, vs[i]? = some v ∧ K v) := by
  apply propext; constructor
  · rintro ⟨vs', v, h1, h⟩; cases h1; exact ⟨v, h⟩
  · exact fun ⟨v, h⟩ => ⟨vs, v, rfl, h⟩
theorem eExt0 {a : Value} {l : List Value} : pExt (.tuple ⟨a :: l⟩) 0 K = K a := by
  rw [eExt]; apply propext; constructor
  · rintro ⟨v, h1, h⟩; simp at h1; exact h1 ▸ h
  · exact fun h => ⟨a, by simp, h⟩
theorem eExt1 {a b : Value} {l : List Value} : pExt (.tuple ⟨a :: b :: l⟩) 1 K = K b := by
  rw [eExt]; apply propext; constructor
  · rintro ⟨v, h1, h⟩; simp at h1; exact h1 ▸ h
  · exact fun h => ⟨b, by simp, h⟩
theorem eExt2 {a b c : Value} {l : List Value} : pExt (.tuple ⟨a :: b :: c :: l⟩) 2 K = K c := by
  rw [eExt]; apply propext; constructor
  · rintro ⟨v, h1, h⟩; simp at h1; exact h1 ▸ h
  · exact fun h => ⟨c, by simp, h⟩
theorem eFA {off : Nat} {a : Addr} : pFA off (.pointer (some a)) K = K (.pointer (some (a.add off))) := by
  apply propext; constructor
  · rintro ⟨a', h1, h⟩; cases h1; exact h
  · exact fun h => ⟨a, rfl, h⟩
theorem eFld {off : Nat} {cs : Array Value} : pFld off (.agg cs) K = (∃ v, cs[off]? = some v ∧ K v) := by
  apply propext; constructor
  · rintro ⟨cs', v, h1, h⟩; cases h1; exact ⟨v, h⟩
  · exact fun ⟨v, h⟩ => ⟨cs, v, rfl, h⟩
theorem eIA {size n c : Nat} {a : Addr} {k : IntKind} {j : Int} : pIA size (.slice (some a) n c) (.int k j) K = (0 ≤ j ∧ j < (n : Int) ∧ K (.pointer (some (a.add (j.toNat * size))))) := by
  apply propext; constructor
  · rintro ⟨a', n', c', k', j', h1, h2, h⟩; cases h1; cases h2; exact h
  · exact fun h => ⟨a, n, c, k, j, rfl, rfl, h⟩
theorem eLenSl {a : Option Addr} {n c : Nat} : pLenSl (.slice a n c) K = K (.int .i64 n) := by
  apply propext; constructor
  · rintro ⟨a', n', c', h1, h⟩; cases h1; exact h
  · exact fun h => ⟨a, n, c, rfl, h⟩
theorem eCapSl {a : Option Addr} {n c : Nat} : pCapSl (.slice a n c) K = K (.int .i64 c) := by
  apply propext; constructor
  · rintro ⟨a', n', c', h1, h⟩; cases h1; exact h
  · exact fun h => ⟨a, n, c, rfl, h⟩
theorem eLenS {s : ByteArray} : pLenS (.string s) K = K (.int .i64 s.size) := by
  apply propext; constructor
  · rintro ⟨a', h1, h⟩; cases h1; exact h
  · exact fun h => ⟨s, rfl, h⟩
theorem eMin {k : IntKind} {a b : Int} : pMin (.int k a) (.int k b) K = K (.int k (if b < a then b else a)) := by
  apply propext; constructor
  · rintro ⟨k', a', b', h1, h2, h⟩; cases h1; cases h2; exact h
  · exact fun h => ⟨k, a, b, rfl, rfl, h⟩
theorem eMax {k : IntKind} {a b : Int} : pMax (.int k a) (.int k b) K = K (.int k (if a < b then b else a)) := by
  apply propext; constructor
  · rintro ⟨k', a', b', h1, h2, h⟩; cases h1; cases h2; exact h
  · exact fun h => ⟨k, a, b, rfl, rfl, h⟩
theorem eSl {size n c l h m : Nat} {a : Option Addr} {lo hi mx : Option Value} (hl : bnd 0 lo = some l) (hh : bnd n hi = some h) (hm : bnd c mx = some m)
    (h1 : l ≤ h) (h2 : h ≤ m) (h3 : m ≤ c) (h4 : mx.isSome = true → hi.isSome = true) (k : K (.slice (if m = l then a else a.map (·.add (l * size))) (h - l) (m - l))) : pSl size (.slice a n c) lo hi mx K :=
  ⟨a, n, c, l, h, m, rfl, hl, hh, hm, h1, h2, h3, h4, k⟩
theorem bnd_int {d : Nat} {k : IntKind} {n : Int} (h : 0 ≤ n) : bnd d (some (.int k n)) = some n.toNat := by simp [bnd, h]
theorem bnd_none {d : Nat} : bnd d none = some d := rfl
/-! ### 2. Guards and forks -/
theorem eCond {b : Bool} {A B : Prop} : scond (.bool b) A B = ((b = true → A) ∧ (b = false → B)) := by
  apply propext; constructor
  · rintro ⟨b', h1, h⟩; cases h1; exact h
  · exact fun h => ⟨b, rfl, h⟩
theorem eCondT {A B : Prop} : scond (.bool true) A B = A := by rw [eCond]; simp
theorem eCondF {A B : Prop} : scond (.bool false) A B = B := by rw [eCond]; simp
theorem gIf_tt {op : KP → Prop} : gIf (.bool true) true op K = op K := by
  apply propext; constructor
  · rintro (⟨b', h1, h, _⟩ | ⟨h, _⟩)
    · cases h1; exact h rfl
    · cases h
  · exact fun h => .inl ⟨true, rfl, fun _ => h, fun h => (by cases h)⟩
theorem gIf_ff {op : KP → Prop} : gIf (.bool false) false op K = op K := by
  apply propext; constructor
  · rintro (⟨b', h1, h, _⟩ | ⟨h, _⟩)
    · cases h1; exact h rfl
    · cases h
  · exact fun h => .inl ⟨false, rfl, fun _ => h, fun h => (by cases h)⟩
theorem gIf_tf {op : KP → Prop} : gIf (.bool true) false op K = K undef := by
  apply propext; constructor
  · rintro (⟨b', h1, _, h⟩ | ⟨h, _⟩)
    · cases h1; exact h rfl
    · cases h
  · exact fun h => .inl ⟨true, rfl, fun h => (by cases h), fun _ => h⟩
theorem gIf_ft {op : KP → Prop} : gIf (.bool false) true op K = K undef := by
  apply propext; constructor
  · rintro (⟨b', h1, _, h⟩ | ⟨h, _⟩)
    · cases h1; exact h rfl
    · cases h
  · exact fun h => .inl ⟨false, rfl, fun h => (by cases h), fun _ => h⟩
theorem gIfW_tt {op : World → KV → Prop} : gIfW (.bool true) true op w KW = op w KW := by
  apply propext; constructor
  · rintro (⟨b', h1, h, _⟩ | ⟨h, _⟩)
    · cases h1; exact h rfl
    · cases h
  · exact fun h => .inl ⟨true, rfl, fun _ => h, fun h => (by cases h)⟩
theorem gIfW_ff {op : World → KV → Prop} : gIfW (.bool false) false op w KW = op w KW := by
  apply propext; constructor
  · rintro (⟨b', h1, h, _⟩ | ⟨h, _⟩)
    · cases h1; exact h rfl
    · cases h
  · exact fun h => .inl ⟨false, rfl, fun _ => h, fun h => (by cases h)⟩
theorem gIfW_tf {op : World → KV → Prop} : gIfW (.bool true) false op w KW = KW undef w := by
  apply propext; constructor
  · rintro (⟨b', h1, _, h⟩ | ⟨h, _⟩)
    · cases h1; exact h rfl
    · cases h
  · exact fun h => .inl ⟨true, rfl, fun h => (by cases h), fun _ => h⟩
theorem gIfW_ft {op : World → KV → Prop} : gIfW (.bool false) true op w KW = KW undef w := by
  apply propext; constructor
  · rintro (⟨b', h1, _, h⟩ | ⟨h, _⟩)
    · cases h1; exact h rfl
    · cases h
  · exact fun h => .inl ⟨false, rfl, fun h => (by cases h), fun _ => h⟩
theorem gIf_u {want : Bool} {op : KP → Prop} : gIf undef want op K = K undef := by
  apply propext; constructor
  · rintro (⟨b', h1, _⟩ | ⟨_, h⟩)
    · cases h1
    · exact h
  · exact fun h => .inr ⟨rfl, h⟩
theorem gIfW_u {want : Bool} {op : World → KV → Prop} : gIfW undef want op w KW = KW undef w := by
  apply propext; constructor
  · rintro (⟨b', h1, _⟩ | ⟨_, h⟩)
    · cases h1
    · exact h
  · exact fun h => .inr ⟨rfl, h⟩
/-! ### 3. What is read -/
theorem eLd {S : World → Prop} {a : Addr} {x : Value} (h : ∀ w, S w → w.cell? a = some x) (k : K x) : pLd S (.pointer (some a)) K := ⟨a, x, rfl, h, k⟩
theorem eLdW {a : Addr} : pLd (· = w) (.pointer (some a)) K = (∃ x, w.cell? a = some x ∧ K x) := by
  apply propext; constructor
  · rintro ⟨a', x, h1, h, k⟩; cases h1; exact ⟨x, h w rfl, k⟩
  · exact fun ⟨x, h, k⟩ => ⟨a, x, rfl, fun w' e => e ▸ h, k⟩
theorem eLdE {a : Addr} {x : Value} (h : w.cell? a = some x) : pLd (Ext w) (.pointer (some a)) K = K x := by
  apply propext; constructor
  · rintro ⟨a', x', h1, h', k⟩; cases h1; have := h' w (Fr.refl _ _); rw [h] at this; cases this; exact k
  · exact fun k => ⟨a, x, rfl, fun w' e => e.cell h, k⟩
theorem eLdNW {b n : Nat} {cs : Array Value} {T : TypeId} {fz : Nat × Nat} (h : w.heap[b]? = some (.cells cs T fz)) (hn : cs.size = n) : pLdN (· = w) n (.pointer (some ⟨b, 0, none⟩)) K = K (.agg cs) := by
  subst hn
  have hc : ∀ i, i < cs.size → w.cell? ((⟨b, 0, none⟩ : Addr).add i) = cs.toList[i]? := fun i hi => by rw [add_mk, cell_mk h]; simp
  apply propext; constructor
  · rintro ⟨a', xs, h1, h2, h3, k⟩
    cases h1
    have : xs.toArray = cs := by
      apply Array.ext'
      apply List.ext_getElem?
      intro i
      by_cases hi : i < cs.size
      · rw [← hc i hi, ← h3 w rfl i hi]
      · rw [List.getElem?_eq_none (by simp; omega), List.getElem?_eq_none (by simp; omega)]
    rw [this] at k
    exact k
  · exact fun k => ⟨_, cs.toList, rfl, by simp, fun w' e i hi => e ▸ hc i hi, by simpa using k⟩
theorem eLdNE {b n : Nat} {cs : Array Value} {T : TypeId} {fz : Nat × Nat} (h : w.heap[b]? = some (.cells cs T fz)) (hn : cs.size = n) (k : K (.agg cs)) : pLdN (Ext w) n (.pointer (some ⟨b, 0, none⟩)) K := by
  subst hn
  exact ⟨_, cs.toList, rfl, by simp, fun w' e i hi => by rw [add_mk, cell_mk (Fr.heap e h (fun h => h))]; simp, by simpa using k⟩
/-! ### 4. What is made -/
theorem box_ {T : TypeId} {v : Value} (h : ∀ g w', w.heap.size = g → Ext w w' → w'.heap[g]? = some (.cells v.cells T) → KW (.pointer (some ⟨g, 0, none⟩)) w') : pBox T v w KW :=
  h _ _ rfl (Ext.alloc w _) (alloc_new w _)
/-! ### 5. Whole numbers -/
theorem wrap64 {n : Int} (h0 : -9223372036854775808 ≤ n) (h1 : n ≤ 9223372036854775807) : IntKind.i64.wrap n = n := by
  have : (18446744073709551616 : Int) = 2 ^ 64 := by decide
  simp only [IntKind.wrap, IntKind.signed, IntKind.bits, Int.bmod, if_true]
  first | omega | (simp; omega)
/-! ### 6. Rows of cells -/
/-- Cells, one element behind the other, read as a list. -/
def RdL (t : Ty) (D : Nat → Prop) (w : World) : List Value → List t.D → Prop
  | cs, [] => cs = []
  | cs, x :: xs => ∃ a b, cs = a ++ b ∧ Rd t D w a x ∧ RdL t D w b xs
theorem RdL.len {t : Ty} {D : Nat → Prop} {w : World} : ∀ {xs : List t.D} {cs : List Value}, RdL t D w cs xs → cs.length = xs.length * t.n
  | [], _, h => by rw [show _ = _ from h]; simp
  | x :: xs, _, h => by
    obtain ⟨a, b, rfl, h1, h2⟩ := h
    simp [h1.len, h2.len, Nat.succ_mul]; omega
theorem RdL.imp {t : Ty} {D D' : Nat → Prop} {w w' : World} (hD : ∀ b, D b → D' b) (hw : ∀ b, D b → b < w.heap.size → w'.heap[b]? = w.heap[b]?) : ∀ {xs : List t.D} {cs : List Value}, RdL t D w cs xs → RdL t D' w' cs xs
  | [], _, h => h
  | x :: xs, _, h => by
    obtain ⟨a, b, rfl, h1, h2⟩ := h
    exact ⟨a, b, rfl, h1.imp hD hw, h2.imp hD hw⟩
theorem RdL.append {t : Ty} {D : Nat → Prop} {w : World} {ys : List t.D} {ds : List Value} (k : RdL t D w ds ys) : ∀ {xs : List t.D} {cs : List Value}, RdL t D w cs xs → RdL t D w (cs ++ ds) (xs ++ ys)
  | [], _, h => by rw [show _ = _ from h]; exact k
  | x :: xs, _, h => by
    obtain ⟨a, b, rfl, h1, h2⟩ := h
    exact ⟨a, b ++ ds, by simp, h1, RdL.append k h2⟩
theorem RdL.single {t : Ty} {D : Nat → Prop} {w : World} {x : t.D} {cs : List Value} (h : Rd t D w cs x) : RdL t D w cs [x] := ⟨cs, [], by simp, h, rfl⟩
theorem RdL.allOne {t : Ty} {D : Nat → Prop} {w : World} : ∀ {xs : List t.D} {cs : List Value}, RdL t D w cs xs → ∀ v ∈ cs, one v = true
  | [], _, h => by rw [show _ = _ from h]; simp
  | x :: xs, _, h => by
    obtain ⟨a, b, rfl, h1, h2⟩ := h
    intro v hv
    rcases List.mem_append.1 hv with hv | hv
    · exact h1.allOne v hv
    · exact h2.allOne v hv
theorem RdL.get {t : Ty} {D : Nat → Prop} {w : World} : ∀ {xs : List t.D} {cs : List Value}, RdL t D w cs xs → ∀ i (hi : i < xs.length),
    ∃ a, a.length = t.n ∧ Rd t D w a xs[i] ∧ ∀ j v, a[j]? = some v → cs[i * t.n + j]? = some v
  | x :: xs, _, h, 0, _ => by
    obtain ⟨a, b, rfl, h1, h2⟩ := h
    exact ⟨a, h1.len, h1, fun j v hj => by rw [Nat.zero_mul, Nat.zero_add, List.getElem?_append_left (List.getElem?_eq_some_iff.1 hj).1]; exact hj⟩
  | x :: xs, _, h, i + 1, hi => by
    obtain ⟨a, b, rfl, h1, h2⟩ := h
    obtain ⟨c, g1, g2, g3⟩ := h2.get i (by simpa using hi)
    refine ⟨c, g1, by simpa using g2, fun j v hj => ?_⟩
    have := h1.len
    rw [List.getElem?_append_right (by rw [Nat.succ_mul]; omega), show (i + 1) * t.n + j - a.length = i * t.n + j by rw [Nat.succ_mul]; omega]
    exact g3 j v hj
/-- What a slice reads as, cell by cell. -/
theorem Rd.rows {t : Ty} {D : Nat → Prop} {w : World} {v : Value} : ∀ {xs : List t.D}, Rd (.slice t) D w [v] xs → ∃ a c cs, v = .slice a xs.length c ∧ RdL t D w cs xs ∧ (∀ i u, cs[i]? = some u → ∃ ad, a = some ad ∧ ad.spot = none ∧ D ad.block ∧ w.cell? (ad.add i) = some u) := by
  intro xs h
  obtain ⟨a, c, h1, h2, h3, h4⟩ := h
  refine ⟨a, c, ?_⟩
  suffices ∀ (ys : List t.D) (k : Nat), xs.drop k = ys → ∃ cs, RdL t D w cs ys ∧ (∀ i u, cs[i]? = some u → ∃ ad, a = some ad ∧ ad.spot = none ∧ D ad.block ∧ w.cell? (ad.add (k * t.n + i)) = some u) by
    obtain ⟨cs, g1, g2⟩ := this xs 0 rfl
    exact ⟨cs, by simpa using h1, g1, fun i u hi => by obtain ⟨ad, e1, e2, e3, e4⟩ := g2 i u hi; exact ⟨ad, e1, e2, e3, by simpa using e4⟩⟩
  intro ys
  induction ys with
  | nil => exact fun k _ => ⟨[], rfl, fun i u hi => by simp at hi⟩
  | cons y ys ih =>
    intro k hk
    have hlt : k < xs.length := by
      have := congrArg List.length hk
      simp at this; omega
    have hd : xs.drop k = xs[k] :: xs.drop (k + 1) := List.drop_eq_getElem_cons hlt
    rw [hd] at hk
    injection hk with e1 e2
    obtain ⟨ds, g1, g2⟩ := ih (k + 1) e2
    obtain ⟨ad, rfl, i2, i3, i4⟩ := h4 (by intro e; subst e; simp at hlt)
    obtain ⟨cs, k1, k2, k3⟩ := i4 k hlt
    rw [e1] at k3
    refine ⟨cs ++ ds, ⟨cs, ds, rfl, k3, g1⟩, fun i u hi => ?_⟩
    by_cases hl : i < cs.length
    · rw [List.getElem?_append_left hl] at hi
      exact ⟨ad, rfl, i2, i3, k2 i u hi⟩
    · rw [List.getElem?_append_right (by omega)] at hi
      obtain ⟨ad', f1, f2, f3, f4⟩ := g2 _ u hi
      refine ⟨ad', f1, f2, f3, ?_⟩
      rw [show k * t.n + i = (k + 1) * t.n + (i - cs.length) by rw [Nat.succ_mul]; omega]
      exact f4
end Go.G
end
