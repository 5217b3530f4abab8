/-
  The functions' own code as conditions on values and worlds; the kernel checks that each is the code's own.
-/
import Derived.Test.YtlolomdgchkibaaProg
import Derived.Test.YtlolomdgchkibaaS27
set_option maxRecDepth 100000
set_option linter.unusedVariables false
namespace Go.Proofs.Ytlolomdgchkibaa
open Go.G

/-! oubliette/oubliettelaw27.ShapeWhole -/
def oubliettelaw27_ShapeWhole.pl : Nat → DrawPlan
  | 4 => ⟨[([], [7]), ([], [3]), ([], [3]), ([1, 2], [1, 2, 7]), ([], [6]), ([], [6]), ([4, 5, 3], [4, 5, 7]), ([0, 3, 6, 6], [0, 3, 6, 9]), ([], [9]), ([7, 8], [7, 8, 10]), ([9, 7], [9, 11, 12, 13, 14, 15, 16, 17, 18, 19, 20, 21]), ([10], [10, 13]), ([10], [10, 13]), ([11, 12, 10, 10], [10, 11, 12, 20]), ([10], [10, 18]), ([10], [10, 17]), ([10], [10, 17]), ([15, 16, 13, 10], [10, 15, 16, 18]), ([14, 17, 17, 10], [10, 14, 17, 19]), ([18, 10], [10, 18, 20]), ([13, 19, 10], [10, 13, 19, 21]), ([10, 20], [10, 20])], .take 0 (.take 1 (.take 2 (.take 4 (.take 5 (.take 8 (.world 3 false (.world 6 false (.world 7 false (.take 9 (.take 10 (.take 11 (.take 12 (.take 14 (.take 15 (.take 16 (.world 13 false (.world 17 false (.world 18 false (.take 19 (.take 20 (.take 21 (.done)))) .none) .none) .none)))))))) .none) .none) .none))))))⟩
  | 13 => ⟨[([], [7, 8]), ([], [6]), ([], [5]), ([], [5]), ([], [5]), ([2, 3, 4], [2, 3, 4, 6]), ([1, 5, 5], [1, 5, 7]), ([0, 6, 6], [0, 6, 8]), ([7, 7, 0, 1, 2, 3, 4, 5, 6, 7], [0, 7])], .take 0 (.take 1 (.take 2 (.take 3 (.take 4 (.world 5 false (.world 6 false (.world 7 false (.take 8 (.done)) .none) .none) .none)))))⟩
  | _ => ⟨[], .done⟩
def oubliettelaw27_ShapeWhole.b3 (x1 : Value) (x4 : Value) (x5 : Value) (x6 : Value) (g : Nat → Value) (N1 : List Value → World → Prop) (N2 : List Value → World → Prop) (R : KV) (X : KX) (w : World) : Prop :=
  pFA 0 x1 fun t42 =>
  pLd (· = w) t42 fun t43 =>
  pBinI .lss .i64 x6 t43 fun t44 =>
  scond t44
  (drawn w fun S w =>
    pLdN S 3 x1 fun t48 =>
    pLdN S 3 x1 fun t49 =>
    pCall Try.prog 18 [t49, x4, x6] X w fun t52 w =>
    S w ∧ (pCall Try.prog 33 [t48, t52] X w fun t53 w =>
      S w ∧ (pApp 3 1 8 [.int .i64 0] x5 t53 w fun t54 w =>
        S w ∧ (pBinI .add .i64 x6 (.int .i64 1) fun t46 =>
          N2 [(g 0), x1, (g 2), (g 3), x4, t54, t46, (g 7), (g 8), (g 9), (g 10), (g 11), (g 12), (g 13), (g 14), (g 15), (g 16), (g 17), (g 18), (g 19), (g 20), (g 21), (g 22), (g 23), (g 24), (g 25), (g 26), (g 27), (g 28), (g 29), (g 30), (g 31), (g 32), (g 33), (g 34), (g 35), (g 36), (g 37), (g 38), (g 39), (g 40), x6, t42, t43, t44, x6, t46, x5, t48, t49, x4, x6, t52, t53, t54, (g 55), (g 56), (g 57), (g 58), (g 59), (g 60), (g 61), (g 62), (g 63), (g 64), (g 65), (g 66), (g 67), (g 68), (g 69), (g 70), (g 71), (g 72)] w))))
  (pLdN (· = w) 3 x1 fun t56 =>
    pCall Try.prog 33 [t56, x4] X w fun t58 w =>
    pCall Try.prog 12 [x5, t58] X w fun t59 w =>
    pNot t59 fun t60 =>
    gIf t60 false (fun K => pLdN (· = w) 3 x1 K) fun t62 =>
    gIf t60 false (fun K => K x4) fun t63 =>
    gIfW t60 false (fun w K => pCall Try.prog 28 [t62, t63] X w K) w fun t64 w =>
    gIf t60 false (fun K => pBinI .neq .i64 t64 (.int .i64 (-1)) K) fun t65 =>
    pPick t60 (.bool true) t65 fun t66 =>
    scond t66
    (R (.bool false) w)
    (pBinI .add .i64 x4 (.int .i64 1) fun t40 =>
      N1 [(g 0), x1, (g 2), (g 3), t40, x5, x6, (g 7), (g 8), (g 9), (g 10), (g 11), (g 12), (g 13), (g 14), (g 15), (g 16), (g 17), (g 18), (g 19), (g 20), (g 21), (g 22), (g 23), (g 24), (g 25), (g 26), (g 27), (g 28), (g 29), (g 30), (g 31), (g 32), (g 33), (g 34), (g 35), (g 36), (g 37), (g 38), x4, t40, x6, t42, t43, t44, (g 45), (g 46), (g 47), (g 48), (g 49), (g 50), (g 51), (g 52), (g 53), (g 54), x5, t56, x4, t58, t59, t60, t60, t62, t63, t64, t65, t66, (g 67), (g 68), (g 69), (g 70), (g 71), (g 72)] w))
def oubliettelaw27_ShapeWhole.I3 (e : List Value) (N1 : List Value → World → Prop) (R : KV) (X : KX) (w : World) : Prop := atP Try.prog Try.f5 oubliettelaw27_ShapeWhole.pl [1, 1, 0, 1, 0, 0, 1, 0, 0, 1, 0, 1, 0] [N1] R X e w
theorem oubliettelaw27_ShapeWhole.I3_eq (e : List Value) (N1 : List Value → World → Prop) (R : KV) (X : KX) (w : World) : oubliettelaw27_ShapeWhole.I3 e N1 R X w = loopS (fun N e w => atP Try.prog Try.f5 oubliettelaw27_ShapeWhole.pl [1, 1, 0, 1, 0, 0, 1, 0, 0, 1, 0, 1, 0, 0] [N1, N] R X e w) e w := by kernel_rfl
def oubliettelaw27_ShapeWhole.fr3 (x1 : Value) (x4 : Value) (x5 : Value) (x6 : Value) (g : Nat → Value) : List Value := [g 0, x1, g 2, g 3, x4, x5, x6, g 7, g 8, g 9, g 10, g 11, g 12, g 13, g 14, g 15, g 16, g 17, g 18, g 19, g 20, g 21, g 22, g 23, g 24, g 25, g 26, g 27, g 28, g 29, g 30, g 31, g 32, g 33, g 34, g 35, g 36, g 37, g 38, g 39, g 40, g 41, g 42, g 43, g 44, g 45, g 46, g 47, g 48, g 49, g 50, g 51, g 52, g 53, g 54, g 55, g 56, g 57, g 58, g 59, g 60, g 61, g 62, g 63, g 64, g 65, g 66, g 67, g 68, g 69, g 70, g 71, g 72]
theorem oubliettelaw27_ShapeWhole.b3_eq (x1 : Value) (x4 : Value) (x5 : Value) (x6 : Value) (g : Nat → Value) (N1 : List Value → World → Prop) (N2 : List Value → World → Prop) (R : KV) (X : KX) (w : World) : atP Try.prog Try.f5 oubliettelaw27_ShapeWhole.pl [1, 1, 0, 1, 0, 0, 1, 0, 0, 1, 0, 1, 0, 0] [N1, N2] R X (oubliettelaw27_ShapeWhole.fr3 x1 x4 x5 x6 g) w = oubliettelaw27_ShapeWhole.b3 x1 x4 x5 x6 g N1 N2 R X w := by kernel_rfl
/-- What a round of this loop hands on. -/
def oubliettelaw27_ShapeWhole.N3 (J : Value → Value → World → Prop) (m : Value → Value → World → Nat) (x1 : Value) (x4 : Value) (x5 : Value) (x6 : Value) (w : World) : List Value → World → Prop := fun e w' => (∃ y5 y6 g, e = oubliettelaw27_ShapeWhole.fr3 x1 x4 y5 y6 g ∧ J y5 y6 w') ∧ m (nth e 5) (nth e 6) w' < m x5 x6 w
theorem oubliettelaw27_ShapeWhole.leaf3 {J : Value → Value → World → Prop} {m : Value → Value → World → Nat} {x1 : Value} {x4 : Value} {x5 : Value} {x6 : Value} {w w' : World} {e0 e2 e3 e5 e6 e7 e8 e9 e10 e11 e12 e13 e14 e15 e16 e17 e18 e19 e20 e21 e22 e23 e24 e25 e26 e27 e28 e29 e30 e31 e32 e33 e34 e35 e36 e37 e38 e39 e40 e41 e42 e43 e44 e45 e46 e47 e48 e49 e50 e51 e52 e53 e54 e55 e56 e57 e58 e59 e60 e61 e62 e63 e64 e65 e66 e67 e68 e69 e70 e71 e72 : Value} (h : J e5 e6 w') (hm : m e5 e6 w' < m x5 x6 w) : oubliettelaw27_ShapeWhole.N3 J m x1 x4 x5 x6 w [e0, x1, e2, e3, x4, e5, e6, e7, e8, e9, e10, e11, e12, e13, e14, e15, e16, e17, e18, e19, e20, e21, e22, e23, e24, e25, e26, e27, e28, e29, e30, e31, e32, e33, e34, e35, e36, e37, e38, e39, e40, e41, e42, e43, e44, e45, e46, e47, e48, e49, e50, e51, e52, e53, e54, e55, e56, e57, e58, e59, e60, e61, e62, e63, e64, e65, e66, e67, e68, e69, e70, e71, e72] w' :=
  ⟨⟨e5, e6, (fun i => nth [e0, x1, e2, e3, x4, e5, e6, e7, e8, e9, e10, e11, e12, e13, e14, e15, e16, e17, e18, e19, e20, e21, e22, e23, e24, e25, e26, e27, e28, e29, e30, e31, e32, e33, e34, e35, e36, e37, e38, e39, e40, e41, e42, e43, e44, e45, e46, e47, e48, e49, e50, e51, e52, e53, e54, e55, e56, e57, e58, e59, e60, e61, e62, e63, e64, e65, e66, e67, e68, e69, e70, e71, e72] i), rfl, h⟩, hm⟩
theorem oubliettelaw27_ShapeWhole.loop3 (J : Value → Value → World → Prop) (m : Value → Value → World → Nat) {N1 : List Value → World → Prop} {R : KV} {X : KX} {w : World} {x1 : Value} {x4 : Value} {e0 e2 e3 e5 e6 e7 e8 e9 e10 e11 e12 e13 e14 e15 e16 e17 e18 e19 e20 e21 e22 e23 e24 e25 e26 e27 e28 e29 e30 e31 e32 e33 e34 e35 e36 e37 e38 e39 e40 e41 e42 e43 e44 e45 e46 e47 e48 e49 e50 e51 e52 e53 e54 e55 e56 e57 e58 e59 e60 e61 e62 e63 e64 e65 e66 e67 e68 e69 e70 e71 e72 : Value} (h0 : J e5 e6 w)
    (hr : ∀ x5 x6 g w, J x5 x6 w → oubliettelaw27_ShapeWhole.b3 x1 x4 x5 x6 g N1 (oubliettelaw27_ShapeWhole.N3 J m x1 x4 x5 x6 w) R X w) : oubliettelaw27_ShapeWhole.I3 [e0, x1, e2, e3, x4, e5, e6, e7, e8, e9, e10, e11, e12, e13, e14, e15, e16, e17, e18, e19, e20, e21, e22, e23, e24, e25, e26, e27, e28, e29, e30, e31, e32, e33, e34, e35, e36, e37, e38, e39, e40, e41, e42, e43, e44, e45, e46, e47, e48, e49, e50, e51, e52, e53, e54, e55, e56, e57, e58, e59, e60, e61, e62, e63, e64, e65, e66, e67, e68, e69, e70, e71, e72] N1 R X w := by
  rw [oubliettelaw27_ShapeWhole.I3_eq]
  refine ⟨fun e w => ∃ y5 y6 g, e = oubliettelaw27_ShapeWhole.fr3 x1 x4 y5 y6 g ∧ J y5 y6 w, fun e w => m (nth e 5) (nth e 6) w, ⟨e5, e6, (fun i => nth [e0, x1, e2, e3, x4, e5, e6, e7, e8, e9, e10, e11, e12, e13, e14, e15, e16, e17, e18, e19, e20, e21, e22, e23, e24, e25, e26, e27, e28, e29, e30, e31, e32, e33, e34, e35, e36, e37, e38, e39, e40, e41, e42, e43, e44, e45, e46, e47, e48, e49, e50, e51, e52, e53, e54, e55, e56, e57, e58, e59, e60, e61, e62, e63, e64, e65, e66, e67, e68, e69, e70, e71, e72] i), rfl, h0⟩, ?_⟩
  rintro _ w ⟨y5, y6, g, rfl, hJ⟩
  rw [oubliettelaw27_ShapeWhole.b3_eq]
  exact hr y5 y6 g w hJ
def oubliettelaw27_ShapeWhole.b2 (x1 : Value) (x4 : Value) (g : Nat → Value) (N1 : List Value → World → Prop) (R : KV) (X : KX) (w : World) : Prop :=
  pLdN (· = w) 3 x1 fun t36 =>
  pCall Try.prog 32 [t36] X w fun t37 w =>
  pBinI .lss .i64 x4 t37 fun t38 =>
  scond t38
  (oubliettelaw27_ShapeWhole.I3 [(g 0), x1, (g 2), (g 3), x4, (.slice none 0 0), (.int .i64 0), (g 7), (g 8), (g 9), (g 10), (g 11), (g 12), (g 13), (g 14), (g 15), (g 16), (g 17), (g 18), (g 19), (g 20), (g 21), (g 22), (g 23), (g 24), (g 25), (g 26), (g 27), (g 28), (g 29), (g 30), (g 31), (g 32), (g 33), (g 34), x4, t36, t37, t38, (g 39), (g 40), (g 41), (g 42), (g 43), (g 44), (g 45), (g 46), (g 47), (g 48), (g 49), (g 50), (g 51), (g 52), (g 53), (g 54), (g 55), (g 56), (g 57), (g 58), (g 59), (g 60), (g 61), (g 62), (g 63), (g 64), (g 65), (g 66), (g 67), (g 68), (g 69), (g 70), (g 71), (g 72)] N1 R X w)
  (pLdN (· = w) 3 x1 fun t67 =>
    pCall Try.prog 20 [t67, (.int .i64 0)] X w fun t68 w =>
    pBinI .eql .i64 t68 (.int .i64 (-1)) fun t69 =>
    gIfW t69 true (fun w K => pCall Try.prog 30 [] X w K) w fun t71 w =>
    pPick t69 t71 (.bool false) fun t72 =>
    R t72 w)
def oubliettelaw27_ShapeWhole.I2 (e : List Value) (R : KV) (X : KX) (w : World) : Prop := atP Try.prog Try.f5 oubliettelaw27_ShapeWhole.pl [1, 1, 0, 1, 0] [] R X e w
theorem oubliettelaw27_ShapeWhole.I2_eq (e : List Value) (R : KV) (X : KX) (w : World) : oubliettelaw27_ShapeWhole.I2 e R X w = loopS (fun N e w => atP Try.prog Try.f5 oubliettelaw27_ShapeWhole.pl [1, 1, 0, 1, 0, 0] [N] R X e w) e w := by kernel_rfl
def oubliettelaw27_ShapeWhole.fr2 (x1 : Value) (x4 : Value) (g : Nat → Value) : List Value := [g 0, x1, g 2, g 3, x4, g 5, g 6, g 7, g 8, g 9, g 10, g 11, g 12, g 13, g 14, g 15, g 16, g 17, g 18, g 19, g 20, g 21, g 22, g 23, g 24, g 25, g 26, g 27, g 28, g 29, g 30, g 31, g 32, g 33, g 34, g 35, g 36, g 37, g 38, g 39, g 40, g 41, g 42, g 43, g 44, g 45, g 46, g 47, g 48, g 49, g 50, g 51, g 52, g 53, g 54, g 55, g 56, g 57, g 58, g 59, g 60, g 61, g 62, g 63, g 64, g 65, g 66, g 67, g 68, g 69, g 70, g 71, g 72]
theorem oubliettelaw27_ShapeWhole.b2_eq (x1 : Value) (x4 : Value) (g : Nat → Value) (N1 : List Value → World → Prop) (R : KV) (X : KX) (w : World) : atP Try.prog Try.f5 oubliettelaw27_ShapeWhole.pl [1, 1, 0, 1, 0, 0] [N1] R X (oubliettelaw27_ShapeWhole.fr2 x1 x4 g) w = oubliettelaw27_ShapeWhole.b2 x1 x4 g N1 R X w := by kernel_rfl
/-- What a round of this loop hands on. -/
def oubliettelaw27_ShapeWhole.N2 (J : Value → World → Prop) (m : Value → World → Nat) (x1 : Value) (x4 : Value) (w : World) : List Value → World → Prop := fun e w' => (∃ y4 g, e = oubliettelaw27_ShapeWhole.fr2 x1 y4 g ∧ J y4 w') ∧ m (nth e 4) w' < m x4 w
theorem oubliettelaw27_ShapeWhole.leaf2 {J : Value → World → Prop} {m : Value → World → Nat} {x1 : Value} {x4 : Value} {w w' : World} {e0 e2 e3 e4 e5 e6 e7 e8 e9 e10 e11 e12 e13 e14 e15 e16 e17 e18 e19 e20 e21 e22 e23 e24 e25 e26 e27 e28 e29 e30 e31 e32 e33 e34 e35 e36 e37 e38 e39 e40 e41 e42 e43 e44 e45 e46 e47 e48 e49 e50 e51 e52 e53 e54 e55 e56 e57 e58 e59 e60 e61 e62 e63 e64 e65 e66 e67 e68 e69 e70 e71 e72 : Value} (h : J e4 w') (hm : m e4 w' < m x4 w) : oubliettelaw27_ShapeWhole.N2 J m x1 x4 w [e0, x1, e2, e3, e4, e5, e6, e7, e8, e9, e10, e11, e12, e13, e14, e15, e16, e17, e18, e19, e20, e21, e22, e23, e24, e25, e26, e27, e28, e29, e30, e31, e32, e33, e34, e35, e36, e37, e38, e39, e40, e41, e42, e43, e44, e45, e46, e47, e48, e49, e50, e51, e52, e53, e54, e55, e56, e57, e58, e59, e60, e61, e62, e63, e64, e65, e66, e67, e68, e69, e70, e71, e72] w' :=
  ⟨⟨e4, (fun i => nth [e0, x1, e2, e3, e4, e5, e6, e7, e8, e9, e10, e11, e12, e13, e14, e15, e16, e17, e18, e19, e20, e21, e22, e23, e24, e25, e26, e27, e28, e29, e30, e31, e32, e33, e34, e35, e36, e37, e38, e39, e40, e41, e42, e43, e44, e45, e46, e47, e48, e49, e50, e51, e52, e53, e54, e55, e56, e57, e58, e59, e60, e61, e62, e63, e64, e65, e66, e67, e68, e69, e70, e71, e72] i), rfl, h⟩, hm⟩
theorem oubliettelaw27_ShapeWhole.loop2 (J : Value → World → Prop) (m : Value → World → Nat) {R : KV} {X : KX} {w : World} {x1 : Value} {e0 e2 e3 e4 e5 e6 e7 e8 e9 e10 e11 e12 e13 e14 e15 e16 e17 e18 e19 e20 e21 e22 e23 e24 e25 e26 e27 e28 e29 e30 e31 e32 e33 e34 e35 e36 e37 e38 e39 e40 e41 e42 e43 e44 e45 e46 e47 e48 e49 e50 e51 e52 e53 e54 e55 e56 e57 e58 e59 e60 e61 e62 e63 e64 e65 e66 e67 e68 e69 e70 e71 e72 : Value} (h0 : J e4 w)
    (hr : ∀ x4 g w, J x4 w → oubliettelaw27_ShapeWhole.b2 x1 x4 g (oubliettelaw27_ShapeWhole.N2 J m x1 x4 w) R X w) : oubliettelaw27_ShapeWhole.I2 [e0, x1, e2, e3, e4, e5, e6, e7, e8, e9, e10, e11, e12, e13, e14, e15, e16, e17, e18, e19, e20, e21, e22, e23, e24, e25, e26, e27, e28, e29, e30, e31, e32, e33, e34, e35, e36, e37, e38, e39, e40, e41, e42, e43, e44, e45, e46, e47, e48, e49, e50, e51, e52, e53, e54, e55, e56, e57, e58, e59, e60, e61, e62, e63, e64, e65, e66, e67, e68, e69, e70, e71, e72] R X w := by
  rw [oubliettelaw27_ShapeWhole.I2_eq]
  refine ⟨fun e w => ∃ y4 g, e = oubliettelaw27_ShapeWhole.fr2 x1 y4 g ∧ J y4 w, fun e w => m (nth e 4) w, ⟨e4, (fun i => nth [e0, x1, e2, e3, e4, e5, e6, e7, e8, e9, e10, e11, e12, e13, e14, e15, e16, e17, e18, e19, e20, e21, e22, e23, e24, e25, e26, e27, e28, e29, e30, e31, e32, e33, e34, e35, e36, e37, e38, e39, e40, e41, e42, e43, e44, e45, e46, e47, e48, e49, e50, e51, e52, e53, e54, e55, e56, e57, e58, e59, e60, e61, e62, e63, e64, e65, e66, e67, e68, e69, e70, e71, e72] i), rfl, h0⟩, ?_⟩
  rintro _ w ⟨y4, g, rfl, hJ⟩
  rw [oubliettelaw27_ShapeWhole.b2_eq]
  exact hr y4 g w hJ
def oubliettelaw27_ShapeWhole.b1 (x1 : Value) (x3 : Value) (g : Nat → Value) (N1 : List Value → World → Prop) (R : KV) (X : KX) (w : World) : Prop :=
  pLdN (· = w) 3 x1 fun t8 =>
  pCall Try.prog 31 [t8] X w fun t9 w =>
  pBinI .lss .i64 x3 t9 fun t10 =>
  scond t10
  (drawn w fun S w =>
    pLdN S 3 x1 fun t13 =>
    pLdN S 3 x1 fun t14 =>
    pLdN S 3 x1 fun t17 =>
    pCall Try.prog 20 [t14, x3] X w fun t16 w =>
    S w ∧ (pCall Try.prog 22 [t17, x3] X w fun t19 w =>
      S w ∧ (pCall Try.prog 18 [t13, t16, t19] X w fun t20 w =>
        S w ∧ (pBinI .neq .i64 t20 x3 fun t22 =>
          gIf t22 false (fun K => pLdN S 3 x1 K) fun t24 =>
          gIf t22 false (fun K => K x3) fun t25 =>
          gIf t22 false (fun K => pLdN S 3 x1 K) fun t27 =>
          gIf t22 false (fun K => pLdN S 3 x1 K) fun t28 =>
          gIf t22 false (fun K => K x3) fun t29 =>
          gIfW t22 false (fun w K => pCall Try.prog 24 [t24, t25] X w K) w fun t26 w =>
          S w ∧ (gIfW t22 false (fun w K => pCall Try.prog 20 [t28, t29] X w K) w fun t30 w =>
            S w ∧ (gIfW t22 false (fun w K => pCall Try.prog 24 [t27, t30] X w K) w fun t31 w =>
              S w ∧ (gIf t22 false (fun K => pBinI .add .i64 t31 (.int .i64 1) K) fun t32 =>
                gIf t22 false (fun K => pBinI .neq .i64 t26 t32 K) fun t33 =>
                pPick t22 (.bool true) t33 fun t34 =>
                scond t34
                (R (.bool false) w)
                (pBinI .add .i64 x3 (.int .i64 1) fun t12 =>
                  N1 [(g 0), x1, (g 2), t12, (g 4), (g 5), (g 6), x3, t8, t9, t10, x3, t12, t13, t14, x3, t16, t17, x3, t19, t20, x3, t22, t22, t24, t25, t26, t27, t28, t29, t30, t31, t32, t33, t34, (g 35), (g 36), (g 37), (g 38), (g 39), (g 40), (g 41), (g 42), (g 43), (g 44), (g 45), (g 46), (g 47), (g 48), (g 49), (g 50), (g 51), (g 52), (g 53), (g 54), (g 55), (g 56), (g 57), (g 58), (g 59), (g 60), (g 61), (g 62), (g 63), (g 64), (g 65), (g 66), (g 67), (g 68), (g 69), (g 70), (g 71), (g 72)] w))))))))
  (oubliettelaw27_ShapeWhole.I2 [(g 0), x1, (g 2), x3, (.int .i64 0), (g 5), (g 6), x3, t8, t9, t10, (g 11), (g 12), (g 13), (g 14), (g 15), (g 16), (g 17), (g 18), (g 19), (g 20), (g 21), (g 22), (g 23), (g 24), (g 25), (g 26), (g 27), (g 28), (g 29), (g 30), (g 31), (g 32), (g 33), (g 34), (g 35), (g 36), (g 37), (g 38), (g 39), (g 40), (g 41), (g 42), (g 43), (g 44), (g 45), (g 46), (g 47), (g 48), (g 49), (g 50), (g 51), (g 52), (g 53), (g 54), (g 55), (g 56), (g 57), (g 58), (g 59), (g 60), (g 61), (g 62), (g 63), (g 64), (g 65), (g 66), (g 67), (g 68), (g 69), (g 70), (g 71), (g 72)] R X w)
def oubliettelaw27_ShapeWhole.I1 (e : List Value) (R : KV) (X : KX) (w : World) : Prop := atP Try.prog Try.f5 oubliettelaw27_ShapeWhole.pl [1, 0, 1, 0] [] R X e w
theorem oubliettelaw27_ShapeWhole.I1_eq (e : List Value) (R : KV) (X : KX) (w : World) : oubliettelaw27_ShapeWhole.I1 e R X w = loopS (fun N e w => atP Try.prog Try.f5 oubliettelaw27_ShapeWhole.pl [1, 0, 1, 0, 0] [N] R X e w) e w := by kernel_rfl
def oubliettelaw27_ShapeWhole.fr1 (x1 : Value) (x3 : Value) (g : Nat → Value) : List Value := [g 0, x1, g 2, x3, g 4, g 5, g 6, g 7, g 8, g 9, g 10, g 11, g 12, g 13, g 14, g 15, g 16, g 17, g 18, g 19, g 20, g 21, g 22, g 23, g 24, g 25, g 26, g 27, g 28, g 29, g 30, g 31, g 32, g 33, g 34, g 35, g 36, g 37, g 38, g 39, g 40, g 41, g 42, g 43, g 44, g 45, g 46, g 47, g 48, g 49, g 50, g 51, g 52, g 53, g 54, g 55, g 56, g 57, g 58, g 59, g 60, g 61, g 62, g 63, g 64, g 65, g 66, g 67, g 68, g 69, g 70, g 71, g 72]
theorem oubliettelaw27_ShapeWhole.b1_eq (x1 : Value) (x3 : Value) (g : Nat → Value) (N1 : List Value → World → Prop) (R : KV) (X : KX) (w : World) : atP Try.prog Try.f5 oubliettelaw27_ShapeWhole.pl [1, 0, 1, 0, 0] [N1] R X (oubliettelaw27_ShapeWhole.fr1 x1 x3 g) w = oubliettelaw27_ShapeWhole.b1 x1 x3 g N1 R X w := by kernel_rfl
/-- What a round of this loop hands on. -/
def oubliettelaw27_ShapeWhole.N1 (J : Value → World → Prop) (m : Value → World → Nat) (x1 : Value) (x3 : Value) (w : World) : List Value → World → Prop := fun e w' => (∃ y3 g, e = oubliettelaw27_ShapeWhole.fr1 x1 y3 g ∧ J y3 w') ∧ m (nth e 3) w' < m x3 w
theorem oubliettelaw27_ShapeWhole.leaf1 {J : Value → World → Prop} {m : Value → World → Nat} {x1 : Value} {x3 : Value} {w w' : World} {e0 e2 e3 e4 e5 e6 e7 e8 e9 e10 e11 e12 e13 e14 e15 e16 e17 e18 e19 e20 e21 e22 e23 e24 e25 e26 e27 e28 e29 e30 e31 e32 e33 e34 e35 e36 e37 e38 e39 e40 e41 e42 e43 e44 e45 e46 e47 e48 e49 e50 e51 e52 e53 e54 e55 e56 e57 e58 e59 e60 e61 e62 e63 e64 e65 e66 e67 e68 e69 e70 e71 e72 : Value} (h : J e3 w') (hm : m e3 w' < m x3 w) : oubliettelaw27_ShapeWhole.N1 J m x1 x3 w [e0, x1, e2, e3, e4, e5, e6, e7, e8, e9, e10, e11, e12, e13, e14, e15, e16, e17, e18, e19, e20, e21, e22, e23, e24, e25, e26, e27, e28, e29, e30, e31, e32, e33, e34, e35, e36, e37, e38, e39, e40, e41, e42, e43, e44, e45, e46, e47, e48, e49, e50, e51, e52, e53, e54, e55, e56, e57, e58, e59, e60, e61, e62, e63, e64, e65, e66, e67, e68, e69, e70, e71, e72] w' :=
  ⟨⟨e3, (fun i => nth [e0, x1, e2, e3, e4, e5, e6, e7, e8, e9, e10, e11, e12, e13, e14, e15, e16, e17, e18, e19, e20, e21, e22, e23, e24, e25, e26, e27, e28, e29, e30, e31, e32, e33, e34, e35, e36, e37, e38, e39, e40, e41, e42, e43, e44, e45, e46, e47, e48, e49, e50, e51, e52, e53, e54, e55, e56, e57, e58, e59, e60, e61, e62, e63, e64, e65, e66, e67, e68, e69, e70, e71, e72] i), rfl, h⟩, hm⟩
theorem oubliettelaw27_ShapeWhole.loop1 (J : Value → World → Prop) (m : Value → World → Nat) {R : KV} {X : KX} {w : World} {x1 : Value} {e0 e2 e3 e4 e5 e6 e7 e8 e9 e10 e11 e12 e13 e14 e15 e16 e17 e18 e19 e20 e21 e22 e23 e24 e25 e26 e27 e28 e29 e30 e31 e32 e33 e34 e35 e36 e37 e38 e39 e40 e41 e42 e43 e44 e45 e46 e47 e48 e49 e50 e51 e52 e53 e54 e55 e56 e57 e58 e59 e60 e61 e62 e63 e64 e65 e66 e67 e68 e69 e70 e71 e72 : Value} (h0 : J e3 w)
    (hr : ∀ x3 g w, J x3 w → oubliettelaw27_ShapeWhole.b1 x1 x3 g (oubliettelaw27_ShapeWhole.N1 J m x1 x3 w) R X w) : oubliettelaw27_ShapeWhole.I1 [e0, x1, e2, e3, e4, e5, e6, e7, e8, e9, e10, e11, e12, e13, e14, e15, e16, e17, e18, e19, e20, e21, e22, e23, e24, e25, e26, e27, e28, e29, e30, e31, e32, e33, e34, e35, e36, e37, e38, e39, e40, e41, e42, e43, e44, e45, e46, e47, e48, e49, e50, e51, e52, e53, e54, e55, e56, e57, e58, e59, e60, e61, e62, e63, e64, e65, e66, e67, e68, e69, e70, e71, e72] R X w := by
  rw [oubliettelaw27_ShapeWhole.I1_eq]
  refine ⟨fun e w => ∃ y3 g, e = oubliettelaw27_ShapeWhole.fr1 x1 y3 g ∧ J y3 w, fun e w => m (nth e 3) w, ⟨e3, (fun i => nth [e0, x1, e2, e3, e4, e5, e6, e7, e8, e9, e10, e11, e12, e13, e14, e15, e16, e17, e18, e19, e20, e21, e22, e23, e24, e25, e26, e27, e28, e29, e30, e31, e32, e33, e34, e35, e36, e37, e38, e39, e40, e41, e42, e43, e44, e45, e46, e47, e48, e49, e50, e51, e52, e53, e54, e55, e56, e57, e58, e59, e60, e61, e62, e63, e64, e65, e66, e67, e68, e69, e70, e71, e72] i), rfl, h0⟩, ?_⟩
  rintro _ w ⟨y3, g, rfl, hJ⟩
  rw [oubliettelaw27_ShapeWhole.b1_eq]
  exact hr y3 g w hJ
def oubliettelaw27_ShapeWhole.b (x0 : Value) (R : KV) (X : KX) (w : World) : Prop :=
  pBox 33 x0 w fun t1 w =>
  oubliettelaw27_ShapeWhole.I1 [x0, t1, (.bool false), (.int .i64 1), undef, undef, undef, undef, undef, undef, undef, undef, undef, undef, undef, undef, undef, undef, undef, undef, undef, undef, undef, undef, undef, undef, undef, undef, undef, undef, undef, undef, undef, undef, undef, undef, undef, undef, undef, undef, undef, undef, undef, undef, undef, undef, undef, undef, undef, undef, undef, undef, undef, undef, undef, undef, undef, undef, undef, undef, undef, undef, undef, undef, undef, undef, undef, undef, undef, undef, undef, undef, undef] R X w
theorem oubliettelaw27_ShapeWhole.b_eq (x0 : Value) (R : KV) (X : KX) (w : World) : atP Try.prog Try.f5 oubliettelaw27_ShapeWhole.pl [] [] R X ([x0] ++ undefs 72) w = oubliettelaw27_ShapeWhole.b x0 R X w := by kernel_rfl
theorem oubliettelaw27_ShapeWhole.calls {x0 : Value} {R : KV} {X : KX} {w : World} (h : oubliettelaw27_ShapeWhole.b x0 R X w) : GCalls Try.prog 5 [x0] R X w :=
  gcalls_of (pl := oubliettelaw27_ShapeWhole.pl) Try.func5 rfl (by kernel_rfl) hmixed (oubliettelaw27_ShapeWhole.b_eq x0 R X w ▸ h)
end Go.Proofs.Ytlolomdgchkibaa
