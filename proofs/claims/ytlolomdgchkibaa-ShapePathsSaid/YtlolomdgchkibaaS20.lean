/-
  The functions' own code as conditions on values and worlds; the kernel checks that each is the code's own.
-/
import Derived.Test.YtlolomdgchkibaaProg
import Derived.Test.YtlolomdgchkibaaS27
set_option maxRecDepth 100000
set_option linter.unusedVariables false
namespace Go.Proofs.Ytlolomdgchkibaa
open Go.G

/-! oubliette/oubliettelaw20.TrailDiffs -/
def oubliettelaw20_TrailDiffs.pl : Nat → DrawPlan
  | _ => ⟨[], .done⟩
def oubliettelaw20_TrailDiffs.b (x0 : Value) (x1 : Value) (x2 : Value) (x3 : Value) (x4 : Value) (R : KV) (X : KX) (w : World) : Prop :=
  pCall Try.prog 10 [x0] X w fun t12 w =>
  pNot t12 fun t13 =>
  gIf t13 false (fun K => K x1) fun t15 =>
  gIfW t13 false (fun w K => pCall Try.prog 10 [t15] X w K) w fun t16 w =>
  gIf t13 false (fun K => pNot t16 K) fun t17 =>
  pPick t13 (.bool true) t17 fun t18 =>
  gIf t18 false (fun K => K x2) fun t20 =>
  gIf t18 false (fun K => pLenSl t20 K) fun t21 =>
  gIf t18 false (fun K => pBinI .gtr .i64 t21 (.int .i64 600) K) fun t22 =>
  pPick t18 (.bool true) t22 fun t23 =>
  gIf t23 false (fun K => K x3) fun t25 =>
  gIf t23 false (fun K => pLenSl t25 K) fun t26 =>
  gIf t23 false (fun K => pBinI .gtr .i64 t26 (.int .i64 600) K) fun t27 =>
  pPick t23 (.bool true) t27 fun t28 =>
  scond t28
  (pCall Try.prog 11 [] X w fun t29 w =>
    R t29 w)
  (pCall Try.prog 13 [x0, x1] X w fun t32 w =>
    pCall Try.prog 14 [x0, x1] X w fun t35 w =>
    pCall Try.prog 12 [t32, t35] X w fun t36 w =>
    gIf t36 true (fun K => K x2) fun t38 =>
    gIf t36 true (fun K => K x3) fun t39 =>
    gIf t36 true (fun K => K x4) fun t40 =>
    gIfW t36 true (fun w K => pCall Try.prog 16 [t38, t39, t40] X w K) w fun t41 w =>
    gIf t36 true (fun K => K x2) fun t42 =>
    gIf t36 true (fun K => K x3) fun t43 =>
    gIf t36 true (fun K => K x4) fun t44 =>
    gIfW t36 true (fun w K => pCall Try.prog 17 [t42, t43, t44] X w K) w fun t45 w =>
    gIfW t36 true (fun w K => pCall Try.prog 15 [t41, t45] X w K) w fun t46 w =>
    pPick t36 t46 (.bool false) fun t47 =>
    gIfW t47 true (fun w K => pCall Try.prog 11 [] X w K) w fun t49 w =>
    pPick t47 t49 (.bool false) fun t50 =>
    R t50 w)
theorem oubliettelaw20_TrailDiffs.b_eq (x0 : Value) (x1 : Value) (x2 : Value) (x3 : Value) (x4 : Value) (R : KV) (X : KX) (w : World) : atP Try.prog Try.f3 oubliettelaw20_TrailDiffs.pl [] [] R X ([x0, x1, x2, x3, x4] ++ undefs 46) w = oubliettelaw20_TrailDiffs.b x0 x1 x2 x3 x4 R X w := by kernel_rfl
theorem oubliettelaw20_TrailDiffs.calls {x0 x1 x2 x3 x4 : Value} {R : KV} {X : KX} {w : World} (h : oubliettelaw20_TrailDiffs.b x0 x1 x2 x3 x4 R X w) : GCalls Try.prog 3 [x0, x1, x2, x3, x4] R X w :=
  gcalls_of (pl := oubliettelaw20_TrailDiffs.pl) Try.func3 rfl (by kernel_rfl) hmixed (oubliettelaw20_TrailDiffs.b_eq x0 x1 x2 x3 x4 R X w ▸ h)

/-! oubliette/oubliettelaw20.TrailImages -/
def oubliettelaw20_TrailImages.pl : Nat → DrawPlan
  | 4 => ⟨[([], [2]), ([], [2]), ([0, 1], [0, 1, 6]), ([], [5]), ([], [5]), ([3, 4, 2], [3, 4, 6]), ([2, 5, 5], [2, 5, 7]), ([6, 6], [6, 8, 9, 10, 11, 12, 13, 14, 15]), ([7], [7, 10]), ([7], [7, 10]), ([8, 9, 7, 7], [7, 8, 9, 14]), ([7], [7, 13]), ([7], [7, 13]), ([11, 12, 7], [7, 11, 12, 14]), ([10, 13, 10, 7], [7, 10, 13, 15]), ([7, 14], [7, 14, 16]), ([15, 14], [15, 17, 18, 19, 20, 21, 22]), ([16], [16, 18]), ([17, 16, 16], [16, 17, 21]), ([16], [16, 20]), ([19, 18, 16], [16, 19, 21]), ([18, 20, 20, 16], [16, 18, 20, 22]), ([16, 21], [16, 21, 23]), ([22, 21], [22, 24, 25, 26, 27, 28, 29, 30, 31]), ([23], [23, 26]), ([23], [23, 26]), ([24, 25, 23, 23], [23, 24, 25, 30]), ([23], [23, 29]), ([23], [23, 29]), ([27, 28, 26, 23], [23, 27, 28, 30]), ([26, 29, 29, 23], [23, 26, 29, 31]), ([23, 30], [23, 30, 32]), ([31, 30], [31, 33, 34]), ([32, 32], [32, 34]), ([32, 33], [32, 33, 35]), ([34, 33, 0, 1, 2, 3, 4, 5, 6, 7, 8, 9, 10, 11, 12, 13, 14, 15, 16, 17, 18, 19, 20, 21, 22, 23, 24, 25, 26, 27, 28, 29, 30, 31, 32, 33, 34], [34])], .take 0 (.take 1 (.take 3 (.take 4 (.world 2 false (.world 5 false (.world 6 false (.take 7 (.take 8 (.take 9 (.take 11 (.take 12 (.take 13 (.world 10 false (.world 14 false (.take 15 (.take 16 (.take 17 (.take 19 (.world 18 false (.world 20 false (.world 21 false (.take 22 (.take 23 (.take 24 (.take 25 (.take 27 (.take 28 (.world 26 false (.world 29 false (.world 30 false (.take 31 (.take 32 (.world 33 false (.take 34 (.take 35 (.done))) .none))) .none) .none) .none))))))) .none) .none) .none))))) .none) .none))))))) .none) .none) .none))))⟩
  | _ => ⟨[], .done⟩
def oubliettelaw20_TrailImages.b (x0 : Value) (x1 : Value) (x2 : Value) (x3 : Value) (R : KV) (X : KX) (w : World) : Prop :=
  pCall Try.prog 34 [x0] X w fun t11 w =>
  pNot t11 fun t12 =>
  gIf t12 false (fun K => K x1) fun t14 =>
  gIf t12 false (fun K => pBinI .gtr .i64 t14 (.int .i64 20) K) fun t15 =>
  gIf t12 false (fun K => K t15) fun t16 =>
  gIf t16 true (fun K => K x1) fun t17 =>
  gIf t16 true (fun K => pBinI .leq .i64 t17 (.int .i64 1024) K) fun t18 =>
  gIf t12 false (fun K => pPick t16 t18 (.bool false) K) fun t19 =>
  pPick t12 (.bool true) t19 fun t20 =>
  scond t20
  (pCall Try.prog 11 [] X w fun t21 w =>
    R t21 w)
  (pLenSl x0 fun t24 =>
    pMin x2 t24 fun t25 =>
    pMax (.int .i64 0) t25 fun t26 =>
    drawn w fun S w =>
    pCall Try.prog 36 [x0, x1] X w fun t29 w =>
    S w ∧ (pCall Try.prog 37 [x0, x1] X w fun t32 w =>
      S w ∧ (pCall Try.prog 35 [t29, t32] X w fun t33 w =>
        S w ∧ (gIf t33 true (fun K => K x0) fun t35 =>
          gIf t33 true (fun K => K x2) fun t36 =>
          gIf t33 true (fun K => K x0) fun t38 =>
          gIf t33 true (fun K => K t26) fun t39 =>
          gIf t33 true (fun K => pSl 2 t38 none (some t39) none K) fun t40 =>
          gIfW t33 true (fun w K => pCall Try.prog 39 [t35, t36] X w K) w fun t37 w =>
          S w ∧ (gIfW t33 true (fun w K => pCall Try.prog 38 [t37, t40] X w K) w fun t41 w =>
            S w ∧ (pPick t33 t41 (.bool false) fun t42 =>
              gIf t42 true (fun K => K x0) fun t44 =>
              gIf t42 true (fun K => K x0) fun t46 =>
              gIfW t42 true (fun w K => pCall Try.prog 40 [t44] X w K) w fun t45 w =>
              S w ∧ (gIfW t42 true (fun w K => pCall Try.prog 41 [t46] X w K) w fun t47 w =>
                S w ∧ (gIfW t42 true (fun w K => pCall Try.prog 12 [t45, t47] X w K) w fun t48 w =>
                  S w ∧ (pPick t42 t48 (.bool false) fun t49 =>
                    gIf t49 true (fun K => K x0) fun t51 =>
                    gIf t49 true (fun K => K x3) fun t52 =>
                    gIf t49 true (fun K => K x0) fun t54 =>
                    gIf t49 true (fun K => K x3) fun t55 =>
                    gIfW t49 true (fun w K => pCall Try.prog 42 [t51, t52] X w K) w fun t53 w =>
                    S w ∧ (gIfW t49 true (fun w K => pCall Try.prog 43 [t54, t55] X w K) w fun t56 w =>
                      S w ∧ (gIfW t49 true (fun w K => pCall Try.prog 35 [t53, t56] X w K) w fun t57 w =>
                        S w ∧ (pPick t49 t57 (.bool false) fun t58 =>
                          gIfW t58 true (fun w K => pCall Try.prog 11 [] X w K) w fun t60 w =>
                          S w ∧ (pPick t58 t60 (.bool false) fun t61 =>
                            R t61 w)))))))))))))
theorem oubliettelaw20_TrailImages.b_eq (x0 : Value) (x1 : Value) (x2 : Value) (x3 : Value) (R : KV) (X : KX) (w : World) : atP Try.prog Try.f6 oubliettelaw20_TrailImages.pl [] [] R X ([x0, x1, x2, x3] ++ undefs 58) w = oubliettelaw20_TrailImages.b x0 x1 x2 x3 R X w := by kernel_rfl
theorem oubliettelaw20_TrailImages.calls {x0 x1 x2 x3 : Value} {R : KV} {X : KX} {w : World} (h : oubliettelaw20_TrailImages.b x0 x1 x2 x3 R X w) : GCalls Try.prog 6 [x0, x1, x2, x3] R X w :=
  gcalls_of (pl := oubliettelaw20_TrailImages.pl) Try.func6 rfl (by kernel_rfl) hmixed (oubliettelaw20_TrailImages.b_eq x0 x1 x2 x3 R X w ▸ h)

/-! oubliette/oubliettelaw20.TrailMore -/
def oubliettelaw20_TrailMore.pl : Nat → DrawPlan
  | _ => ⟨[], .done⟩
def oubliettelaw20_TrailMore.b1 (x0 : Value) (x1 : Value) (x7 : Value) (x8 : Value) (x9 : Value) (g : Nat → Value) (N1 : List Value → World → Prop) (R : KV) (X : KX) (w : World) : Prop :=
  pLenSl x7 fun t47 =>
  pBinI .lss .i64 x9 t47 fun t48 =>
  scond t48
  (pIA 1 x7 x9 fun t54 =>
    pLd (· = w) t54 fun t55 =>
    pCall Try.prog 44 [x8, t55] X w fun t56 w =>
    pNot t56 fun t57 =>
    scond t57
    (R (.bool false) w)
    (pBinI .add .i64 x9 (.int .i64 1) fun t50 =>
      N1 [x0, x1, (g 2), (g 3), (g 4), (g 5), (g 6), x7, x8, t50, (g 10), (g 11), (g 12), (g 13), (g 14), (g 15), (g 16), (g 17), (g 18), (g 19), (g 20), (g 21), (g 22), (g 23), (g 24), (g 25), (g 26), (g 27), (g 28), (g 29), (g 30), (g 31), (g 32), (g 33), (g 34), (g 35), (g 36), (g 37), (g 38), (g 39), (g 40), (g 41), (g 42), (g 43), (g 44), x9, x7, t47, t48, x9, t50, x8, x7, x9, t54, t55, t56, t57, (g 58), (g 59), (g 60), (g 61), (g 62), (g 63), (g 64), (g 65), (g 66), (g 67), (g 68), (g 69)] w))
  (pCall Try.prog 36 [x0, x1] X w fun t60 w =>
    pCall Try.prog 36 [x0, x1] X w fun t63 w =>
    pCall Try.prog 13 [t60, t63] X w fun t64 w =>
    pLenSl t64 fun t65 =>
    pBinI .eql .i64 t65 (.int .i64 0) fun t66 =>
    gIfW t66 true (fun w K => pCall Try.prog 11 [] X w K) w fun t68 w =>
    pPick t66 t68 (.bool false) fun t69 =>
    R t69 w)
def oubliettelaw20_TrailMore.I1 (e : List Value) (R : KV) (X : KX) (w : World) : Prop := atP Try.prog Try.f7 oubliettelaw20_TrailMore.pl [1, 1, 1, 1, 0, 1, 0] [] R X e w
theorem oubliettelaw20_TrailMore.I1_eq (e : List Value) (R : KV) (X : KX) (w : World) : oubliettelaw20_TrailMore.I1 e R X w = loopS (fun N e w => atP Try.prog Try.f7 oubliettelaw20_TrailMore.pl [1, 1, 1, 1, 0, 1, 0, 0] [N] R X e w) e w := by kernel_rfl
def oubliettelaw20_TrailMore.fr1 (x0 : Value) (x1 : Value) (x7 : Value) (x8 : Value) (x9 : Value) (g : Nat → Value) : List Value := [x0, x1, g 2, g 3, g 4, g 5, g 6, x7, x8, x9, g 10, g 11, g 12, g 13, g 14, g 15, g 16, g 17, g 18, g 19, g 20, g 21, g 22, g 23, g 24, g 25, g 26, g 27, g 28, g 29, g 30, g 31, g 32, g 33, g 34, g 35, g 36, g 37, g 38, g 39, g 40, g 41, g 42, g 43, g 44, g 45, g 46, g 47, g 48, g 49, g 50, g 51, g 52, g 53, g 54, g 55, g 56, g 57, g 58, g 59, g 60, g 61, g 62, g 63, g 64, g 65, g 66, g 67, g 68, g 69]
theorem oubliettelaw20_TrailMore.b1_eq (x0 : Value) (x1 : Value) (x7 : Value) (x8 : Value) (x9 : Value) (g : Nat → Value) (N1 : List Value → World → Prop) (R : KV) (X : KX) (w : World) : atP Try.prog Try.f7 oubliettelaw20_TrailMore.pl [1, 1, 1, 1, 0, 1, 0, 0] [N1] R X (oubliettelaw20_TrailMore.fr1 x0 x1 x7 x8 x9 g) w = oubliettelaw20_TrailMore.b1 x0 x1 x7 x8 x9 g N1 R X w := by kernel_rfl
/-- What a round of this loop hands on. -/
def oubliettelaw20_TrailMore.N1 (J : Value → World → Prop) (m : Value → World → Nat) (x0 : Value) (x1 : Value) (x7 : Value) (x8 : Value) (x9 : Value) (w : World) : List Value → World → Prop := fun e w' => (∃ y9 g, e = oubliettelaw20_TrailMore.fr1 x0 x1 x7 x8 y9 g ∧ J y9 w') ∧ m (nth e 9) w' < m x9 w
theorem oubliettelaw20_TrailMore.leaf1 {J : Value → World → Prop} {m : Value → World → Nat} {x0 : Value} {x1 : Value} {x7 : Value} {x8 : Value} {x9 : Value} {w w' : World} {e2 e3 e4 e5 e6 e9 e10 e11 e12 e13 e14 e15 e16 e17 e18 e19 e20 e21 e22 e23 e24 e25 e26 e27 e28 e29 e30 e31 e32 e33 e34 e35 e36 e37 e38 e39 e40 e41 e42 e43 e44 e45 e46 e47 e48 e49 e50 e51 e52 e53 e54 e55 e56 e57 e58 e59 e60 e61 e62 e63 e64 e65 e66 e67 e68 e69 : Value} (h : J e9 w') (hm : m e9 w' < m x9 w) : oubliettelaw20_TrailMore.N1 J m x0 x1 x7 x8 x9 w [x0, x1, e2, e3, e4, e5, e6, x7, x8, e9, e10, e11, e12, e13, e14, e15, e16, e17, e18, e19, e20, e21, e22, e23, e24, e25, e26, e27, e28, e29, e30, e31, e32, e33, e34, e35, e36, e37, e38, e39, e40, e41, e42, e43, e44, e45, e46, e47, e48, e49, e50, e51, e52, e53, e54, e55, e56, e57, e58, e59, e60, e61, e62, e63, e64, e65, e66, e67, e68, e69] w' :=
  ⟨⟨e9, (fun i => nth [x0, x1, e2, e3, e4, e5, e6, x7, x8, e9, e10, e11, e12, e13, e14, e15, e16, e17, e18, e19, e20, e21, e22, e23, e24, e25, e26, e27, e28, e29, e30, e31, e32, e33, e34, e35, e36, e37, e38, e39, e40, e41, e42, e43, e44, e45, e46, e47, e48, e49, e50, e51, e52, e53, e54, e55, e56, e57, e58, e59, e60, e61, e62, e63, e64, e65, e66, e67, e68, e69] i), rfl, h⟩, hm⟩
theorem oubliettelaw20_TrailMore.loop1 (J : Value → World → Prop) (m : Value → World → Nat) {R : KV} {X : KX} {w : World} {x0 : Value} {x1 : Value} {x7 : Value} {x8 : Value} {e2 e3 e4 e5 e6 e9 e10 e11 e12 e13 e14 e15 e16 e17 e18 e19 e20 e21 e22 e23 e24 e25 e26 e27 e28 e29 e30 e31 e32 e33 e34 e35 e36 e37 e38 e39 e40 e41 e42 e43 e44 e45 e46 e47 e48 e49 e50 e51 e52 e53 e54 e55 e56 e57 e58 e59 e60 e61 e62 e63 e64 e65 e66 e67 e68 e69 : Value} (h0 : J e9 w)
    (hr : ∀ x9 g w, J x9 w → oubliettelaw20_TrailMore.b1 x0 x1 x7 x8 x9 g (oubliettelaw20_TrailMore.N1 J m x0 x1 x7 x8 x9 w) R X w) : oubliettelaw20_TrailMore.I1 [x0, x1, e2, e3, e4, e5, e6, x7, x8, e9, e10, e11, e12, e13, e14, e15, e16, e17, e18, e19, e20, e21, e22, e23, e24, e25, e26, e27, e28, e29, e30, e31, e32, e33, e34, e35, e36, e37, e38, e39, e40, e41, e42, e43, e44, e45, e46, e47, e48, e49, e50, e51, e52, e53, e54, e55, e56, e57, e58, e59, e60, e61, e62, e63, e64, e65, e66, e67, e68, e69] R X w := by
  rw [oubliettelaw20_TrailMore.I1_eq]
  refine ⟨fun e w => ∃ y9 g, e = oubliettelaw20_TrailMore.fr1 x0 x1 x7 x8 y9 g ∧ J y9 w, fun e w => m (nth e 9) w, ⟨e9, (fun i => nth [x0, x1, e2, e3, e4, e5, e6, x7, x8, e9, e10, e11, e12, e13, e14, e15, e16, e17, e18, e19, e20, e21, e22, e23, e24, e25, e26, e27, e28, e29, e30, e31, e32, e33, e34, e35, e36, e37, e38, e39, e40, e41, e42, e43, e44, e45, e46, e47, e48, e49, e50, e51, e52, e53, e54, e55, e56, e57, e58, e59, e60, e61, e62, e63, e64, e65, e66, e67, e68, e69] i), rfl, h0⟩, ?_⟩
  rintro _ w ⟨y9, g, rfl, hJ⟩
  rw [oubliettelaw20_TrailMore.b1_eq]
  exact hr y9 g w hJ
def oubliettelaw20_TrailMore.b (x0 : Value) (x1 : Value) (x2 : Value) (R : KV) (X : KX) (w : World) : Prop :=
  pCall Try.prog 34 [x0] X w fun t11 w =>
  pNot t11 fun t12 =>
  gIf t12 false (fun K => K x1) fun t14 =>
  gIf t12 false (fun K => pBinI .lss .i64 t14 (.int .i64 1) K) fun t15 =>
  pPick t12 (.bool true) t15 fun t16 =>
  gIf t16 false (fun K => K x1) fun t18 =>
  gIf t16 false (fun K => pBinI .gtr .i64 t18 (.int .i64 20) K) fun t19 =>
  pPick t16 (.bool true) t19 fun t20 =>
  gIf t20 false (fun K => K x2) fun t22 =>
  gIf t20 false (fun K => pBinI .lss .i64 t22 (.int .i64 0) K) fun t23 =>
  pPick t20 (.bool true) t23 fun t24 =>
  gIf t24 false (fun K => K x2) fun t26 =>
  gIf t24 false (fun K => K x0) fun t27 =>
  gIf t24 false (fun K => pLenSl t27 K) fun t28 =>
  gIf t24 false (fun K => pBinI .gtr .i64 t26 t28 K) fun t29 =>
  pPick t24 (.bool true) t29 fun t30 =>
  scond t30
  (pCall Try.prog 11 [] X w fun t31 w =>
    R t31 w)
  (pCall Try.prog 39 [x0, x2] X w fun t34 w =>
    pCall Try.prog 36 [t34, x1] X w fun t36 w =>
    pCall Try.prog 36 [x0, x1] X w fun t39 w =>
    pCall Try.prog 13 [t36, t39] X w fun t40 w =>
    pSl 2 x0 (some x2) none none fun t43 =>
    pCall Try.prog 40 [t43] X w fun t44 w =>
    oubliettelaw20_TrailMore.I1 [x0, x1, x2, undef, undef, undef, (.bool false), t40, t44, (.int .i64 0), x0, t11, t12, t12, t14, t15, t16, t16, t18, t19, t20, t20, t22, t23, t24, t24, t26, t27, t28, t29, t30, undef, x0, x2, t34, x1, t36, x0, x1, t39, t40, x0, x2, t43, t44, undef, undef, undef, undef, undef, undef, undef, undef, undef, undef, undef, undef, undef, undef, undef, undef, undef, undef, undef, undef, undef, undef, undef, undef, undef] R X w)
theorem oubliettelaw20_TrailMore.b_eq (x0 : Value) (x1 : Value) (x2 : Value) (R : KV) (X : KX) (w : World) : atP Try.prog Try.f7 oubliettelaw20_TrailMore.pl [] [] R X ([x0, x1, x2] ++ undefs 67) w = oubliettelaw20_TrailMore.b x0 x1 x2 R X w := by kernel_rfl
theorem oubliettelaw20_TrailMore.calls {x0 x1 x2 : Value} {R : KV} {X : KX} {w : World} (h : oubliettelaw20_TrailMore.b x0 x1 x2 R X w) : GCalls Try.prog 7 [x0, x1, x2] R X w :=
  gcalls_of (pl := oubliettelaw20_TrailMore.pl) Try.func7 rfl (by kernel_rfl) hmixed (oubliettelaw20_TrailMore.b_eq x0 x1 x2 R X w ▸ h)

/-! oubliette/oubliettelaw20.rows -/
def oubliettelaw20_rows.pl : Nat → DrawPlan
  | _ => ⟨[], .done⟩
def oubliettelaw20_rows.b1 (x0 : Value) (x3 : Value) (g : Nat → Value) (N1 : List Value → World → Prop) (R : KV) (X : KX) (w : World) : Prop :=
  pLenSl x0 fun t9 =>
  pBinI .lss .i64 x3 t9 fun t10 =>
  scond t10
  (pIA 1 x0 x3 fun t15 =>
    pLd (· = w) t15 fun t16 =>
    pLenSl t16 fun t17 =>
    pBinI .gtr .i64 t17 (.int .i64 100) fun t18 =>
    scond t18
    (R (.bool false) w)
    (pBinI .add .i64 x3 (.int .i64 1) fun t12 =>
      N1 [x0, (g 1), (g 2), t12, (g 4), (g 5), (g 6), x3, x0, t9, t10, x3, t12, x0, x3, t15, t16, t17, t18] w))
  (R (.bool true) w)
def oubliettelaw20_rows.I1 (e : List Value) (R : KV) (X : KX) (w : World) : Prop := atP Try.prog Try.f10 oubliettelaw20_rows.pl [1, 1, 0, 1, 0] [] R X e w
theorem oubliettelaw20_rows.I1_eq (e : List Value) (R : KV) (X : KX) (w : World) : oubliettelaw20_rows.I1 e R X w = loopS (fun N e w => atP Try.prog Try.f10 oubliettelaw20_rows.pl [1, 1, 0, 1, 0, 0] [N] R X e w) e w := by kernel_rfl
def oubliettelaw20_rows.fr1 (x0 : Value) (x3 : Value) (g : Nat → Value) : List Value := [x0, g 1, g 2, x3, g 4, g 5, g 6, g 7, g 8, g 9, g 10, g 11, g 12, g 13, g 14, g 15, g 16, g 17, g 18]
theorem oubliettelaw20_rows.b1_eq (x0 : Value) (x3 : Value) (g : Nat → Value) (N1 : List Value → World → Prop) (R : KV) (X : KX) (w : World) : atP Try.prog Try.f10 oubliettelaw20_rows.pl [1, 1, 0, 1, 0, 0] [N1] R X (oubliettelaw20_rows.fr1 x0 x3 g) w = oubliettelaw20_rows.b1 x0 x3 g N1 R X w := by kernel_rfl
/-- What a round of this loop hands on. -/
def oubliettelaw20_rows.N1 (J : Value → World → Prop) (m : Value → World → Nat) (x0 : Value) (x3 : Value) (w : World) : List Value → World → Prop := fun e w' => (∃ y3 g, e = oubliettelaw20_rows.fr1 x0 y3 g ∧ J y3 w') ∧ m (nth e 3) w' < m x3 w
theorem oubliettelaw20_rows.leaf1 {J : Value → World → Prop} {m : Value → World → Nat} {x0 : Value} {x3 : Value} {w w' : World} {e1 e2 e3 e4 e5 e6 e7 e8 e9 e10 e11 e12 e13 e14 e15 e16 e17 e18 : Value} (h : J e3 w') (hm : m e3 w' < m x3 w) : oubliettelaw20_rows.N1 J m x0 x3 w [x0, e1, e2, e3, e4, e5, e6, e7, e8, e9, e10, e11, e12, e13, e14, e15, e16, e17, e18] w' :=
  ⟨⟨e3, (fun i => nth [x0, e1, e2, e3, e4, e5, e6, e7, e8, e9, e10, e11, e12, e13, e14, e15, e16, e17, e18] i), rfl, h⟩, hm⟩
theorem oubliettelaw20_rows.loop1 (J : Value → World → Prop) (m : Value → World → Nat) {R : KV} {X : KX} {w : World} {x0 : Value} {e1 e2 e3 e4 e5 e6 e7 e8 e9 e10 e11 e12 e13 e14 e15 e16 e17 e18 : Value} (h0 : J e3 w)
    (hr : ∀ x3 g w, J x3 w → oubliettelaw20_rows.b1 x0 x3 g (oubliettelaw20_rows.N1 J m x0 x3 w) R X w) : oubliettelaw20_rows.I1 [x0, e1, e2, e3, e4, e5, e6, e7, e8, e9, e10, e11, e12, e13, e14, e15, e16, e17, e18] R X w := by
  rw [oubliettelaw20_rows.I1_eq]
  refine ⟨fun e w => ∃ y3 g, e = oubliettelaw20_rows.fr1 x0 y3 g ∧ J y3 w, fun e w => m (nth e 3) w, ⟨e3, (fun i => nth [x0, e1, e2, e3, e4, e5, e6, e7, e8, e9, e10, e11, e12, e13, e14, e15, e16, e17, e18] i), rfl, h0⟩, ?_⟩
  rintro _ w ⟨y3, g, rfl, hJ⟩
  rw [oubliettelaw20_rows.b1_eq]
  exact hr y3 g w hJ
def oubliettelaw20_rows.b (x0 : Value) (R : KV) (X : KX) (w : World) : Prop :=
  pLenSl x0 fun t5 =>
  pBinI .gtr .i64 t5 (.int .i64 20) fun t6 =>
  scond t6
  (R (.bool false) w)
  (oubliettelaw20_rows.I1 [x0, undef, (.bool false), (.int .i64 0), x0, t5, t6, undef, undef, undef, undef, undef, undef, undef, undef, undef, undef, undef, undef] R X w)
theorem oubliettelaw20_rows.b_eq (x0 : Value) (R : KV) (X : KX) (w : World) : atP Try.prog Try.f10 oubliettelaw20_rows.pl [] [] R X ([x0] ++ undefs 18) w = oubliettelaw20_rows.b x0 R X w := by kernel_rfl
theorem oubliettelaw20_rows.calls {x0 : Value} {R : KV} {X : KX} {w : World} (h : oubliettelaw20_rows.b x0 R X w) : GCalls Try.prog 10 [x0] R X w :=
  gcalls_of (pl := oubliettelaw20_rows.pl) Try.func10 rfl (by kernel_rfl) hmixed (oubliettelaw20_rows.b_eq x0 R X w ▸ h)

/-! oubliette/oubliettelaw20.alive -/
def oubliettelaw20_alive.pl : Nat → DrawPlan
  | _ => ⟨[], .done⟩
def oubliettelaw20_alive.b (R : KV) (X : KX) (w : World) : Prop :=
  pBSlice 5 1 (rowOf [.int .u8 0] 1) [(0, 1, (.int .u8 7))] w fun t2 w =>
  pBuild [.int .i64 0, .slice none 0 0] [(0, 1, (.int .i64 1)), (1, 1, t2)] fun t3 =>
  pBSlice 55 1 (rowOf [.int .i64 0, .slice none 0 0] 1) [(0, 2, t3)] w fun t4 w =>
  pCall Try.prog 36 [t4, (.int .i64 2)] X w fun t5 w =>
  pLenSl t5 fun t7 =>
  pBinI .eql .i64 t7 (.int .i64 2) fun t8 =>
  gIf t8 true (fun K => K t5) fun t10 =>
  gIf t8 true (fun K => pIA 1 t10 (.int .i64 0) K) fun t11 =>
  gIf t8 true (fun K => pLd (· = w) t11 K) fun t12 =>
  gIf t8 true (fun K => pLenSl t12 K) fun t13 =>
  gIf t8 true (fun K => pBinI .eql .i64 t13 (.int .i64 512) K) fun t14 =>
  pPick t8 t14 (.bool false) fun t15 =>
  gIf t15 true (fun K => K t5) fun t17 =>
  gIf t15 true (fun K => pIA 1 t17 (.int .i64 1) K) fun t18 =>
  gIf t15 true (fun K => pLd (· = w) t18 K) fun t19 =>
  gIf t15 true (fun K => pLenSl t19 K) fun t20 =>
  gIf t15 true (fun K => pBinI .eql .i64 t20 (.int .i64 1) K) fun t21 =>
  pPick t15 t21 (.bool false) fun t22 =>
  gIf t22 true (fun K => K t5) fun t24 =>
  gIf t22 true (fun K => pIA 1 t24 (.int .i64 1) K) fun t25 =>
  gIf t22 true (fun K => pLd (· = w) t25 K) fun t26 =>
  gIf t22 true (fun K => pIA 1 t26 (.int .i64 0) K) fun t27 =>
  gIf t22 true (fun K => pLd (· = w) t27 K) fun t28 =>
  gIf t22 true (fun K => pBinI .eql .u8 t28 (.int .u8 7) K) fun t29 =>
  pPick t22 t29 (.bool false) fun t30 =>
  R t30 w
theorem oubliettelaw20_alive.b_eq (R : KV) (X : KX) (w : World) : atP Try.prog Try.f11 oubliettelaw20_alive.pl [] [] R X ([] ++ undefs 31) w = oubliettelaw20_alive.b R X w := by kernel_rfl
theorem oubliettelaw20_alive.calls {R : KV} {X : KX} {w : World} (h : oubliettelaw20_alive.b R X w) : GCalls Try.prog 11 [] R X w :=
  gcalls_of (pl := oubliettelaw20_alive.pl) Try.func11 rfl (by kernel_rfl) hmixed (oubliettelaw20_alive.b_eq R X w ▸ h)

/-! oubliette/trail.Diff -/
def trail_Diff.pl : Nat → DrawPlan
  | 4 => ⟨[([], [6]), ([], [2]), ([1], [1, 5]), ([], [4]), ([3], [3, 5]), ([2, 4], [2, 4, 6]), ([0, 5], [0, 5, 7]), ([6], [6, 8, 9, 10, 11, 12, 13, 14, 15, 16, 17]), ([7], [7, 10]), ([7], [7, 10]), ([8, 9, 7], [7, 8, 9, 11]), ([10, 7], [7, 10, 16]), ([7], [7, 14]), ([7], [7, 14]), ([12, 13, 7], [7, 12, 13, 15]), ([14, 7], [7, 14, 16]), ([11, 15, 7, 7], [7, 11, 15, 17]), ([7, 16], [7, 16])], .take 0 (.take 1 (.take 2 (.take 3 (.take 4 (.take 5 (.take 6 (.take 7 (.take 8 (.take 9 (.take 10 (.take 11 (.take 12 (.take 13 (.take 14 (.take 15 (.world 16 true (.take 17 (.done)) .none))))))))))))))))⟩
  | _ => ⟨[], .done⟩
def trail_Diff.j1 (x0 : Value) (x1 : Value) (x4 : Value) (x10 : Value) (x11 : Value) (g : Nat → Value) (N1 : List Value → World → Prop) (R : KV) (X : KX) (w : World) : Prop :=
  pBinI .add .i64 x11 (.int .i64 1) fun t36 =>
  N1 [x0, x1, (g 2), (g 3), x4, (g 5), (g 6), (g 7), (g 8), (g 9), x10, t36, (g 12), (g 13), (g 14), (g 15), (g 16), (g 17), (g 18), (g 19), (g 20), (g 21), (g 22), (g 23), (g 24), (g 25), (g 26), (g 27), (g 28), (g 29), (g 30), (g 31), (g 32), (g 33), (g 34), (g 35), t36, (g 37)] w
def trail_Diff.b1 (x0 : Value) (x1 : Value) (x4 : Value) (x10 : Value) (x11 : Value) (g : Nat → Value) (N1 : List Value → World → Prop) (R : KV) (X : KX) (w : World) : Prop :=
  pBinI .lss .i64 x11 x10 fun t12 =>
  scond t12
  (drawn w fun S w =>
    pLenSl x0 fun t16 =>
    pLenSl x1 fun t18 =>
    pMin t16 t18 fun t19 =>
    pBinI .lss .i64 x11 t19 fun t20 =>
    gIf t20 true (fun K => K x0) fun t22 =>
    gIf t20 true (fun K => K x11) fun t23 =>
    gIf t20 true (fun K => pIA 1 t22 t23 K) fun t24 =>
    gIf t20 true (fun K => pLd S t24 K) fun t25 =>
    gIf t20 true (fun K => K x1) fun t26 =>
    gIf t20 true (fun K => K x11) fun t27 =>
    gIf t20 true (fun K => pIA 1 t26 t27 K) fun t28 =>
    gIf t20 true (fun K => pLd S t28 K) fun t29 =>
    gIfW t20 true (fun w K => pCall Try.prog 52 [t25, t29] X w K) w fun t30 w =>
    anew w fun S w =>
    pPick t20 t30 (.bool false) fun t31 =>
    scond t31
    (trail_Diff.j1 x0 x1 x4 x10 x11 (fun i => nth [x0, x1, (g 2), (g 3), x4, x11, (g 6), (g 7), (g 8), (g 9), x10, x11, t12, x11, x11, x0, t16, x1, t18, t19, t20, t20, t22, t23, t24, t25, t26, t27, t28, t29, t30, t31, (g 32), (g 33), (g 34), (g 35), (g 36), (g 37)] i) N1 R X w)
    (pBSlice 3 1 (rowOf [.int .i64 0] 1) [(0, 1, x11)] w fun t34 w =>
      pApp 3 1 8 [.int .i64 0] x4 t34 w fun t35 w =>
      trail_Diff.j1 x0 x1 t35 x10 x11 (fun i => nth [x0, x1, (g 2), (g 3), t35, x11, (g 6), (g 7), (g 8), (g 9), x10, x11, t12, x11, x11, x0, t16, x1, t18, t19, t20, t20, t22, t23, t24, t25, t26, t27, t28, t29, t30, t31, x4, x11, t34, t35, (g 36), (g 37)] i) N1 R X w))
  (R x4 w)
def trail_Diff.I1 (e : List Value) (R : KV) (X : KX) (w : World) : Prop := atP Try.prog Try.f13 trail_Diff.pl [1, 0, 1, 0, 1, 0] [] R X e w
theorem trail_Diff.I1_eq (e : List Value) (R : KV) (X : KX) (w : World) : trail_Diff.I1 e R X w = loopS (fun N e w => atP Try.prog Try.f13 trail_Diff.pl [1, 0, 1, 0, 1, 0, 0] [N] R X e w) e w := by kernel_rfl
def trail_Diff.fr1 (x0 : Value) (x1 : Value) (x4 : Value) (x10 : Value) (x11 : Value) (g : Nat → Value) : List Value := [x0, x1, g 2, g 3, x4, g 5, g 6, g 7, g 8, g 9, x10, x11, g 12, g 13, g 14, g 15, g 16, g 17, g 18, g 19, g 20, g 21, g 22, g 23, g 24, g 25, g 26, g 27, g 28, g 29, g 30, g 31, g 32, g 33, g 34, g 35, g 36, g 37]
theorem trail_Diff.b1_eq (x0 : Value) (x1 : Value) (x4 : Value) (x10 : Value) (x11 : Value) (g : Nat → Value) (N1 : List Value → World → Prop) (R : KV) (X : KX) (w : World) : atP Try.prog Try.f13 trail_Diff.pl [1, 0, 1, 0, 1, 0, 0] [N1] R X (trail_Diff.fr1 x0 x1 x4 x10 x11 g) w = trail_Diff.b1 x0 x1 x4 x10 x11 g N1 R X w := by kernel_rfl
/-- What a round of this loop hands on. -/
def trail_Diff.N1 (J : Value → Value → World → Prop) (m : Value → Value → World → Nat) (x0 : Value) (x1 : Value) (x10 : Value) (x4 : Value) (x11 : Value) (w : World) : List Value → World → Prop := fun e w' => (∃ y4 y11 g, e = trail_Diff.fr1 x0 x1 y4 x10 y11 g ∧ J y4 y11 w') ∧ m (nth e 4) (nth e 11) w' < m x4 x11 w
theorem trail_Diff.leaf1 {J : Value → Value → World → Prop} {m : Value → Value → World → Nat} {x0 : Value} {x1 : Value} {x4 : Value} {x10 : Value} {x11 : Value} {w w' : World} {e2 e3 e4 e5 e6 e7 e8 e9 e11 e12 e13 e14 e15 e16 e17 e18 e19 e20 e21 e22 e23 e24 e25 e26 e27 e28 e29 e30 e31 e32 e33 e34 e35 e36 e37 : Value} (h : J e4 e11 w') (hm : m e4 e11 w' < m x4 x11 w) : trail_Diff.N1 J m x0 x1 x10 x4 x11 w [x0, x1, e2, e3, e4, e5, e6, e7, e8, e9, x10, e11, e12, e13, e14, e15, e16, e17, e18, e19, e20, e21, e22, e23, e24, e25, e26, e27, e28, e29, e30, e31, e32, e33, e34, e35, e36, e37] w' :=
  ⟨⟨e4, e11, (fun i => nth [x0, x1, e2, e3, e4, e5, e6, e7, e8, e9, x10, e11, e12, e13, e14, e15, e16, e17, e18, e19, e20, e21, e22, e23, e24, e25, e26, e27, e28, e29, e30, e31, e32, e33, e34, e35, e36, e37] i), rfl, h⟩, hm⟩
theorem trail_Diff.loop1 (J : Value → Value → World → Prop) (m : Value → Value → World → Nat) {R : KV} {X : KX} {w : World} {x0 : Value} {x1 : Value} {x10 : Value} {e2 e3 e4 e5 e6 e7 e8 e9 e11 e12 e13 e14 e15 e16 e17 e18 e19 e20 e21 e22 e23 e24 e25 e26 e27 e28 e29 e30 e31 e32 e33 e34 e35 e36 e37 : Value} (h0 : J e4 e11 w)
    (hr : ∀ x4 x11 g w, J x4 x11 w → trail_Diff.b1 x0 x1 x4 x10 x11 g (trail_Diff.N1 J m x0 x1 x10 x4 x11 w) R X w) : trail_Diff.I1 [x0, x1, e2, e3, e4, e5, e6, e7, e8, e9, x10, e11, e12, e13, e14, e15, e16, e17, e18, e19, e20, e21, e22, e23, e24, e25, e26, e27, e28, e29, e30, e31, e32, e33, e34, e35, e36, e37] R X w := by
  rw [trail_Diff.I1_eq]
  refine ⟨fun e w => ∃ y4 y11 g, e = trail_Diff.fr1 x0 x1 y4 x10 y11 g ∧ J y4 y11 w, fun e w => m (nth e 4) (nth e 11) w, ⟨e4, e11, (fun i => nth [x0, x1, e2, e3, e4, e5, e6, e7, e8, e9, x10, e11, e12, e13, e14, e15, e16, e17, e18, e19, e20, e21, e22, e23, e24, e25, e26, e27, e28, e29, e30, e31, e32, e33, e34, e35, e36, e37] i), rfl, h0⟩, ?_⟩
  rintro _ w ⟨y4, y11, g, rfl, hJ⟩
  rw [trail_Diff.b1_eq]
  exact hr y4 y11 g w hJ
def trail_Diff.b (x0 : Value) (x1 : Value) (R : KV) (X : KX) (w : World) : Prop :=
  pLenSl x0 fun t7 =>
  pLenSl x1 fun t9 =>
  pMax t7 t9 fun t10 =>
  trail_Diff.I1 [x0, x1, undef, undef, (.slice none 0 0), undef, x0, t7, x1, t9, t10, (.int .i64 0), undef, undef, undef, undef, undef, undef, undef, undef, undef, undef, undef, undef, undef, undef, undef, undef, undef, undef, undef, undef, undef, undef, undef, undef, undef, undef] R X w
theorem trail_Diff.b_eq (x0 : Value) (x1 : Value) (R : KV) (X : KX) (w : World) : atP Try.prog Try.f13 trail_Diff.pl [] [] R X ([x0, x1] ++ undefs 36) w = trail_Diff.b x0 x1 R X w := by kernel_rfl
theorem trail_Diff.calls {x0 x1 : Value} {R : KV} {X : KX} {w : World} (h : trail_Diff.b x0 x1 R X w) : GCalls Try.prog 13 [x0, x1] R X w :=
  gcalls_of (pl := trail_Diff.pl) Try.func13 rfl (by kernel_rfl) hmixed (trail_Diff.b_eq x0 x1 R X w ▸ h)

/-! oubliette/oublietteref20.Diff -/
def oublietteref20_Diff.pl : Nat → DrawPlan
  | 5 => ⟨[([], [3]), ([], [2]), ([1], [1, 3]), ([0, 2], [0, 2, 4]), ([3], [3, 5, 6, 7, 8, 9]), ([4], [4, 8]), ([4], [4, 7]), ([6, 4], [4, 6, 8]), ([5, 7, 4], [4, 5, 7, 9]), ([4, 8], [4, 8, 10]), ([9, 4], [9, 11, 12, 13, 14, 15, 16, 17, 18, 19, 20, 21]), ([10], [10, 13]), ([10], [10, 13]), ([11, 12, 10], [10, 11, 12, 14]), ([13, 10], [10, 13, 19]), ([10], [10, 17]), ([10], [10, 17]), ([15, 16, 10], [10, 15, 16, 18]), ([17, 10], [10, 17, 19]), ([14, 18, 10, 10], [10, 14, 18, 20]), ([19, 10], [10, 19, 21]), ([10, 20], [10, 20])], .take 0 (.take 1 (.take 2 (.take 3 (.take 4 (.take 5 (.take 6 (.take 7 (.take 8 (.take 9 (.take 10 (.take 11 (.take 12 (.take 13 (.take 14 (.take 15 (.take 16 (.take 17 (.take 18 (.world 19 true (.take 20 (.take 21 (.done))) .none)))))))))))))))))))⟩
  | _ => ⟨[], .done⟩
def oublietteref20_Diff.j1 (x0 : Value) (x1 : Value) (x5 : Value) (x6 : Value) (g : Nat → Value) (N1 : List Value → World → Prop) (R : KV) (X : KX) (w : World) : Prop :=
  pBinI .add .i64 x6 (.int .i64 1) fun t15 =>
  N1 [x0, x1, (g 2), (g 3), (g 4), x5, t15, (g 7), (g 8), (g 9), (g 10), (g 11), (g 12), (g 13), x6, t15, (g 16), (g 17), (g 18), (g 19), (g 20), (g 21), (g 22), (g 23), (g 24), (g 25), (g 26), (g 27), (g 28), (g 29), (g 30), (g 31), (g 32), (g 33), (g 34), (g 35), (g 36), (g 37), (g 38), (g 39), (g 40), (g 41), (g 42)] w
def oublietteref20_Diff.b1 (x0 : Value) (x1 : Value) (x5 : Value) (x6 : Value) (g : Nat → Value) (N1 : List Value → World → Prop) (R : KV) (X : KX) (w : World) : Prop :=
  pLenSl x0 fun t9 =>
  pLenSl x1 fun t11 =>
  pMax t9 t11 fun t12 =>
  pBinI .lss .i64 x6 t12 fun t13 =>
  scond t13
  (drawn w fun S w =>
    pLenSl x0 fun t18 =>
    pBinI .geq .i64 x6 t18 fun t19 =>
    gIf t19 false (fun K => K x6) fun t21 =>
    gIf t19 false (fun K => K x1) fun t22 =>
    gIf t19 false (fun K => pLenSl t22 K) fun t23 =>
    gIf t19 false (fun K => pBinI .geq .i64 t21 t23 K) fun t24 =>
    pPick t19 (.bool true) t24 fun t25 =>
    gIf t25 false (fun K => K x0) fun t27 =>
    gIf t25 false (fun K => K x6) fun t28 =>
    gIf t25 false (fun K => pIA 1 t27 t28 K) fun t29 =>
    gIf t25 false (fun K => pLd S t29 K) fun t30 =>
    gIf t25 false (fun K => K x1) fun t31 =>
    gIf t25 false (fun K => K x6) fun t32 =>
    gIf t25 false (fun K => pIA 1 t31 t32 K) fun t33 =>
    gIf t25 false (fun K => pLd S t33 K) fun t34 =>
    gIfW t25 false (fun w K => pCall Try.prog 15 [t30, t34] X w K) w fun t35 w =>
    anew w fun S w =>
    gIf t25 false (fun K => pNot t35 K) fun t36 =>
    pPick t25 (.bool true) t36 fun t37 =>
    scond t37
    (pBSlice 3 1 (rowOf [.int .i64 0] 1) [(0, 1, x6)] w fun t40 w =>
      pApp 3 1 8 [.int .i64 0] x5 t40 w fun t41 w =>
      oublietteref20_Diff.j1 x0 x1 t41 x6 (fun i => nth [x0, x1, (g 2), (g 3), (g 4), t41, x6, x6, x0, t9, x1, t11, t12, t13, (g 14), (g 15), x6, x0, t18, t19, t19, t21, t22, t23, t24, t25, t25, t27, t28, t29, t30, t31, t32, t33, t34, t35, t36, t37, x5, x6, t40, t41, (g 42)] i) N1 R X w)
    (oublietteref20_Diff.j1 x0 x1 x5 x6 (fun i => nth [x0, x1, (g 2), (g 3), (g 4), x5, x6, x6, x0, t9, x1, t11, t12, t13, (g 14), (g 15), x6, x0, t18, t19, t19, t21, t22, t23, t24, t25, t25, t27, t28, t29, t30, t31, t32, t33, t34, t35, t36, t37, (g 38), (g 39), (g 40), (g 41), (g 42)] i) N1 R X w))
  (R x5 w)
def oublietteref20_Diff.I1 (e : List Value) (R : KV) (X : KX) (w : World) : Prop := atP Try.prog Try.f14 oublietteref20_Diff.pl [1, 1, 0, 1, 0] [] R X e w
theorem oublietteref20_Diff.I1_eq (e : List Value) (R : KV) (X : KX) (w : World) : oublietteref20_Diff.I1 e R X w = loopS (fun N e w => atP Try.prog Try.f14 oublietteref20_Diff.pl [1, 1, 0, 1, 0, 0] [N] R X e w) e w := by kernel_rfl
def oublietteref20_Diff.fr1 (x0 : Value) (x1 : Value) (x5 : Value) (x6 : Value) (g : Nat → Value) : List Value := [x0, x1, g 2, g 3, g 4, x5, x6, g 7, g 8, g 9, g 10, g 11, g 12, g 13, g 14, g 15, g 16, g 17, g 18, g 19, g 20, g 21, g 22, g 23, g 24, g 25, g 26, g 27, g 28, g 29, g 30, g 31, g 32, g 33, g 34, g 35, g 36, g 37, g 38, g 39, g 40, g 41, g 42]
theorem oublietteref20_Diff.b1_eq (x0 : Value) (x1 : Value) (x5 : Value) (x6 : Value) (g : Nat → Value) (N1 : List Value → World → Prop) (R : KV) (X : KX) (w : World) : atP Try.prog Try.f14 oublietteref20_Diff.pl [1, 1, 0, 1, 0, 0] [N1] R X (oublietteref20_Diff.fr1 x0 x1 x5 x6 g) w = oublietteref20_Diff.b1 x0 x1 x5 x6 g N1 R X w := by kernel_rfl
/-- What a round of this loop hands on. -/
def oublietteref20_Diff.N1 (J : Value → Value → World → Prop) (m : Value → Value → World → Nat) (x0 : Value) (x1 : Value) (x5 : Value) (x6 : Value) (w : World) : List Value → World → Prop := fun e w' => (∃ y5 y6 g, e = oublietteref20_Diff.fr1 x0 x1 y5 y6 g ∧ J y5 y6 w') ∧ m (nth e 5) (nth e 6) w' < m x5 x6 w
theorem oublietteref20_Diff.leaf1 {J : Value → Value → World → Prop} {m : Value → Value → World → Nat} {x0 : Value} {x1 : Value} {x5 : Value} {x6 : Value} {w w' : World} {e2 e3 e4 e5 e6 e7 e8 e9 e10 e11 e12 e13 e14 e15 e16 e17 e18 e19 e20 e21 e22 e23 e24 e25 e26 e27 e28 e29 e30 e31 e32 e33 e34 e35 e36 e37 e38 e39 e40 e41 e42 : Value} (h : J e5 e6 w') (hm : m e5 e6 w' < m x5 x6 w) : oublietteref20_Diff.N1 J m x0 x1 x5 x6 w [x0, x1, e2, e3, e4, e5, e6, e7, e8, e9, e10, e11, e12, e13, e14, e15, e16, e17, e18, e19, e20, e21, e22, e23, e24, e25, e26, e27, e28, e29, e30, e31, e32, e33, e34, e35, e36, e37, e38, e39, e40, e41, e42] w' :=
  ⟨⟨e5, e6, (fun i => nth [x0, x1, e2, e3, e4, e5, e6, e7, e8, e9, e10, e11, e12, e13, e14, e15, e16, e17, e18, e19, e20, e21, e22, e23, e24, e25, e26, e27, e28, e29, e30, e31, e32, e33, e34, e35, e36, e37, e38, e39, e40, e41, e42] i), rfl, h⟩, hm⟩
theorem oublietteref20_Diff.loop1 (J : Value → Value → World → Prop) (m : Value → Value → World → Nat) {R : KV} {X : KX} {w : World} {x0 : Value} {x1 : Value} {e2 e3 e4 e5 e6 e7 e8 e9 e10 e11 e12 e13 e14 e15 e16 e17 e18 e19 e20 e21 e22 e23 e24 e25 e26 e27 e28 e29 e30 e31 e32 e33 e34 e35 e36 e37 e38 e39 e40 e41 e42 : Value} (h0 : J e5 e6 w)
    (hr : ∀ x5 x6 g w, J x5 x6 w → oublietteref20_Diff.b1 x0 x1 x5 x6 g (oublietteref20_Diff.N1 J m x0 x1 x5 x6 w) R X w) : oublietteref20_Diff.I1 [x0, x1, e2, e3, e4, e5, e6, e7, e8, e9, e10, e11, e12, e13, e14, e15, e16, e17, e18, e19, e20, e21, e22, e23, e24, e25, e26, e27, e28, e29, e30, e31, e32, e33, e34, e35, e36, e37, e38, e39, e40, e41, e42] R X w := by
  rw [oublietteref20_Diff.I1_eq]
  refine ⟨fun e w => ∃ y5 y6 g, e = oublietteref20_Diff.fr1 x0 x1 y5 y6 g ∧ J y5 y6 w, fun e w => m (nth e 5) (nth e 6) w, ⟨e5, e6, (fun i => nth [x0, x1, e2, e3, e4, e5, e6, e7, e8, e9, e10, e11, e12, e13, e14, e15, e16, e17, e18, e19, e20, e21, e22, e23, e24, e25, e26, e27, e28, e29, e30, e31, e32, e33, e34, e35, e36, e37, e38, e39, e40, e41, e42] i), rfl, h0⟩, ?_⟩
  rintro _ w ⟨y5, y6, g, rfl, hJ⟩
  rw [oublietteref20_Diff.b1_eq]
  exact hr y5 y6 g w hJ
def oublietteref20_Diff.b (x0 : Value) (x1 : Value) (R : KV) (X : KX) (w : World) : Prop :=
  oublietteref20_Diff.I1 [x0, x1, undef, undef, (.slice none 0 0), (.slice none 0 0), (.int .i64 0), undef, undef, undef, undef, undef, undef, undef, undef, undef, undef, undef, undef, undef, undef, undef, undef, undef, undef, undef, undef, undef, undef, undef, undef, undef, undef, undef, undef, undef, undef, undef, undef, undef, undef, undef, undef] R X w
theorem oublietteref20_Diff.b_eq (x0 : Value) (x1 : Value) (R : KV) (X : KX) (w : World) : atP Try.prog Try.f14 oublietteref20_Diff.pl [] [] R X ([x0, x1] ++ undefs 41) w = oublietteref20_Diff.b x0 x1 R X w := by kernel_rfl
theorem oublietteref20_Diff.calls {x0 x1 : Value} {R : KV} {X : KX} {w : World} (h : oublietteref20_Diff.b x0 x1 R X w) : GCalls Try.prog 14 [x0, x1] R X w :=
  gcalls_of (pl := oublietteref20_Diff.pl) Try.func14 rfl (by kernel_rfl) hmixed (oublietteref20_Diff.b_eq x0 x1 R X w ▸ h)

/-! oubliette/oublietteref01.Same -/
def oublietteref01_Same.pl : Nat → DrawPlan
  | 6 => ⟨[([], [2]), ([], [2]), ([0, 1], [0, 1, 3]), ([2], [2, 8]), ([], [6]), ([], [6]), ([4, 5], [4, 5, 7]), ([6], [6, 8]), ([3, 7], [3, 7])], .take 0 (.take 1 (.take 2 (.take 3 (.take 4 (.take 5 (.take 6 (.take 7 (.take 8 (.done)))))))))⟩
  | _ => ⟨[], .done⟩
def oublietteref01_Same.b1 (x0 : Value) (x1 : Value) (x5 : Value) (g : Nat → Value) (N1 : List Value → World → Prop) (R : KV) (X : KX) (w : World) : Prop :=
  pLenSl x0 fun t13 =>
  pBinI .lss .i64 x5 t13 fun t14 =>
  scond t14
  (drawn w fun S w =>
    pIA 1 x0 x5 fun t19 =>
    pLd S t19 fun t20 =>
    pIA 1 x1 x5 fun t23 =>
    pLd S t23 fun t24 =>
    pBinI .neq .u8 t20 t24 fun t25 =>
    scond t25
    (R (.bool false) w)
    (pBinI .add .i64 x5 (.int .i64 1) fun t16 =>
      N1 [x0, x1, (g 2), (g 3), (g 4), t16, (g 6), (g 7), (g 8), (g 9), (g 10), x5, x0, t13, t14, x5, t16, x0, x5, t19, t20, x1, x5, t23, t24, t25] w))
  (R (.bool true) w)
def oublietteref01_Same.I1 (e : List Value) (R : KV) (X : KX) (w : World) : Prop := atP Try.prog Try.f15 oublietteref01_Same.pl [1, 1, 0, 1, 0] [] R X e w
theorem oublietteref01_Same.I1_eq (e : List Value) (R : KV) (X : KX) (w : World) : oublietteref01_Same.I1 e R X w = loopS (fun N e w => atP Try.prog Try.f15 oublietteref01_Same.pl [1, 1, 0, 1, 0, 0] [N] R X e w) e w := by kernel_rfl
def oublietteref01_Same.fr1 (x0 : Value) (x1 : Value) (x5 : Value) (g : Nat → Value) : List Value := [x0, x1, g 2, g 3, g 4, x5, g 6, g 7, g 8, g 9, g 10, g 11, g 12, g 13, g 14, g 15, g 16, g 17, g 18, g 19, g 20, g 21, g 22, g 23, g 24, g 25]
theorem oublietteref01_Same.b1_eq (x0 : Value) (x1 : Value) (x5 : Value) (g : Nat → Value) (N1 : List Value → World → Prop) (R : KV) (X : KX) (w : World) : atP Try.prog Try.f15 oublietteref01_Same.pl [1, 1, 0, 1, 0, 0] [N1] R X (oublietteref01_Same.fr1 x0 x1 x5 g) w = oublietteref01_Same.b1 x0 x1 x5 g N1 R X w := by kernel_rfl
/-- What a round of this loop hands on. -/
def oublietteref01_Same.N1 (J : Value → World → Prop) (m : Value → World → Nat) (x0 : Value) (x1 : Value) (x5 : Value) (w : World) : List Value → World → Prop := fun e w' => (∃ y5 g, e = oublietteref01_Same.fr1 x0 x1 y5 g ∧ J y5 w') ∧ m (nth e 5) w' < m x5 w
theorem oublietteref01_Same.leaf1 {J : Value → World → Prop} {m : Value → World → Nat} {x0 : Value} {x1 : Value} {x5 : Value} {w w' : World} {e2 e3 e4 e5 e6 e7 e8 e9 e10 e11 e12 e13 e14 e15 e16 e17 e18 e19 e20 e21 e22 e23 e24 e25 : Value} (h : J e5 w') (hm : m e5 w' < m x5 w) : oublietteref01_Same.N1 J m x0 x1 x5 w [x0, x1, e2, e3, e4, e5, e6, e7, e8, e9, e10, e11, e12, e13, e14, e15, e16, e17, e18, e19, e20, e21, e22, e23, e24, e25] w' :=
  ⟨⟨e5, (fun i => nth [x0, x1, e2, e3, e4, e5, e6, e7, e8, e9, e10, e11, e12, e13, e14, e15, e16, e17, e18, e19, e20, e21, e22, e23, e24, e25] i), rfl, h⟩, hm⟩
theorem oublietteref01_Same.loop1 (J : Value → World → Prop) (m : Value → World → Nat) {R : KV} {X : KX} {w : World} {x0 : Value} {x1 : Value} {e2 e3 e4 e5 e6 e7 e8 e9 e10 e11 e12 e13 e14 e15 e16 e17 e18 e19 e20 e21 e22 e23 e24 e25 : Value} (h0 : J e5 w)
    (hr : ∀ x5 g w, J x5 w → oublietteref01_Same.b1 x0 x1 x5 g (oublietteref01_Same.N1 J m x0 x1 x5 w) R X w) : oublietteref01_Same.I1 [x0, x1, e2, e3, e4, e5, e6, e7, e8, e9, e10, e11, e12, e13, e14, e15, e16, e17, e18, e19, e20, e21, e22, e23, e24, e25] R X w := by
  rw [oublietteref01_Same.I1_eq]
  refine ⟨fun e w => ∃ y5 g, e = oublietteref01_Same.fr1 x0 x1 y5 g ∧ J y5 w, fun e w => m (nth e 5) w, ⟨e5, (fun i => nth [x0, x1, e2, e3, e4, e5, e6, e7, e8, e9, e10, e11, e12, e13, e14, e15, e16, e17, e18, e19, e20, e21, e22, e23, e24, e25] i), rfl, h0⟩, ?_⟩
  rintro _ w ⟨y5, g, rfl, hJ⟩
  rw [oublietteref01_Same.b1_eq]
  exact hr y5 g w hJ
def oublietteref01_Same.b (x0 : Value) (x1 : Value) (R : KV) (X : KX) (w : World) : Prop :=
  pLenSl x0 fun t7 =>
  pLenSl x1 fun t9 =>
  pBinI .neq .i64 t7 t9 fun t10 =>
  scond t10
  (R (.bool false) w)
  (oublietteref01_Same.I1 [x0, x1, undef, undef, (.bool false), (.int .i64 0), x0, t7, x1, t9, t10, undef, undef, undef, undef, undef, undef, undef, undef, undef, undef, undef, undef, undef, undef, undef] R X w)
theorem oublietteref01_Same.b_eq (x0 : Value) (x1 : Value) (R : KV) (X : KX) (w : World) : atP Try.prog Try.f15 oublietteref01_Same.pl [] [] R X ([x0, x1] ++ undefs 24) w = oublietteref01_Same.b x0 x1 R X w := by kernel_rfl
theorem oublietteref01_Same.calls {x0 x1 : Value} {R : KV} {X : KX} {w : World} (h : oublietteref01_Same.b x0 x1 R X w) : GCalls Try.prog 15 [x0, x1] R X w :=
  gcalls_of (pl := oublietteref01_Same.pl) Try.func15 rfl (by kernel_rfl) hmixed (oublietteref01_Same.b_eq x0 x1 R X w ▸ h)

/-! oubliette/trail.Torn -/
def trail_Torn.pl : Nat → DrawPlan
  | 5 => ⟨[([], [2]), ([], [2]), ([0, 1], [0, 1, 6]), ([], [5]), ([], [5]), ([3, 4], [3, 4, 6]), ([2, 5], [2, 5, 7]), ([6], [6, 8]), ([7, 7, 0, 1, 2, 3, 4, 5, 6, 7], [7])], .take 0 (.take 1 (.take 2 (.take 3 (.take 4 (.take 5 (.world 6 false (.world 7 false (.take 8 (.done)) .none) .none))))))⟩
  | _ => ⟨[], .done⟩
def trail_Torn.b (x0 : Value) (x1 : Value) (x2 : Value) (R : KV) (X : KX) (w : World) : Prop :=
  pLenSl x0 fun t10 =>
  pLenSl x1 fun t12 =>
  pBinI .neq .i64 t10 t12 fun t13 =>
  scond t13
  (R (.slice none 0 0) w)
  (pLenSl x0 fun t15 =>
    pBinI .add .i64 t15 (.int .i64 1) fun t16 =>
    pDiv .rem .i64 x2 t16 fun t19 =>
    pBinI .add .i64 t19 t16 fun t21 =>
    pDiv .rem .i64 t21 t16 fun t23 =>
    drawn w fun S w =>
    pSl 1 x1 none (some t23) none fun t26 =>
    pSl 1 x0 (some t23) none none fun t29 =>
    pBSlice 23 2 (rowOf [.slice none 0 0] 2) [(0, 1, t26), (1, 1, t29)] w fun t30 w =>
    S w ∧ (pCall Try.prog 53 [t30] X w fun t31 w =>
      S w ∧ (R t31 w)))
theorem trail_Torn.b_eq (x0 : Value) (x1 : Value) (x2 : Value) (R : KV) (X : KX) (w : World) : atP Try.prog Try.f16 trail_Torn.pl [] [] R X ([x0, x1, x2] ++ undefs 29) w = trail_Torn.b x0 x1 x2 R X w := by kernel_rfl
theorem trail_Torn.calls {x0 x1 x2 : Value} {R : KV} {X : KX} {w : World} (h : trail_Torn.b x0 x1 x2 R X w) : GCalls Try.prog 16 [x0, x1, x2] R X w :=
  gcalls_of (pl := trail_Torn.pl) Try.func16 rfl (by kernel_rfl) hmixed (trail_Torn.b_eq x0 x1 x2 R X w ▸ h)

/-! oubliette/oublietteref20.Torn -/
def oublietteref20_Torn.pl : Nat → DrawPlan
  | 4 => ⟨[([], [2]), ([], [2]), ([0, 1], [0, 1, 6]), ([], [5]), ([], [5]), ([3, 4], [3, 4, 6]), ([2, 5], [2, 5, 7]), ([6, 6, 0, 1, 2, 3, 4, 5, 6], [6])], .take 0 (.take 1 (.take 2 (.take 3 (.take 4 (.take 5 (.world 6 false (.take 7 (.done)) .none))))))⟩
  | _ => ⟨[], .done⟩
def oublietteref20_Torn.b (x0 : Value) (x1 : Value) (x2 : Value) (R : KV) (X : KX) (w : World) : Prop :=
  pLenSl x0 fun t9 =>
  pLenSl x1 fun t11 =>
  pBinI .neq .i64 t9 t11 fun t12 =>
  scond t12
  (R (.slice none 0 0) w)
  (pLenSl x0 fun t15 =>
    pBinI .add .i64 t15 (.int .i64 1) fun t16 =>
    pCall Try.prog 54 [x2, t16] X w fun t17 w =>
    drawn w fun S w =>
    pSl 1 x1 none (some t17) none fun t20 =>
    pSl 1 x0 (some t17) none none fun t23 =>
    pCall Try.prog 55 [t20, t23] X w fun t24 w =>
    S w ∧ (R t24 w))
theorem oublietteref20_Torn.b_eq (x0 : Value) (x1 : Value) (x2 : Value) (R : KV) (X : KX) (w : World) : atP Try.prog Try.f17 oublietteref20_Torn.pl [] [] R X ([x0, x1, x2] ++ undefs 22) w = oublietteref20_Torn.b x0 x1 x2 R X w := by kernel_rfl
theorem oublietteref20_Torn.calls {x0 x1 x2 : Value} {R : KV} {X : KX} {w : World} (h : oublietteref20_Torn.b x0 x1 x2 R X w) : GCalls Try.prog 17 [x0, x1, x2] R X w :=
  gcalls_of (pl := oublietteref20_Torn.pl) Try.func17 rfl (by kernel_rfl) hmixed (oublietteref20_Torn.b_eq x0 x1 x2 R X w ▸ h)

/-! oubliette/oubliettelaw20.light -/
def oubliettelaw20_light.pl : Nat → DrawPlan
  | _ => ⟨[], .done⟩
def oubliettelaw20_light.b1 (x0 : Value) (x3 : Value) (g : Nat → Value) (N1 : List Value → World → Prop) (R : KV) (X : KX) (w : World) : Prop :=
  pLenSl x0 fun t9 =>
  pBinI .lss .i64 x3 t9 fun t10 =>
  scond t10
  (pIA 2 x0 x3 fun t15 =>
    pFA 1 t15 fun t16 =>
    pLd (· = w) t16 fun t17 =>
    pLenSl t17 fun t18 =>
    pBinI .gtr .i64 t18 (.int .i64 600) fun t19 =>
    scond t19
    (R (.bool false) w)
    (pBinI .add .i64 x3 (.int .i64 1) fun t12 =>
      N1 [x0, (g 1), (g 2), t12, (g 4), (g 5), (g 6), x3, x0, t9, t10, x3, t12, x0, x3, t15, t16, t17, t18, t19] w))
  (R (.bool true) w)
def oubliettelaw20_light.I1 (e : List Value) (R : KV) (X : KX) (w : World) : Prop := atP Try.prog Try.f34 oubliettelaw20_light.pl [1, 1, 0, 1, 0] [] R X e w
theorem oubliettelaw20_light.I1_eq (e : List Value) (R : KV) (X : KX) (w : World) : oubliettelaw20_light.I1 e R X w = loopS (fun N e w => atP Try.prog Try.f34 oubliettelaw20_light.pl [1, 1, 0, 1, 0, 0] [N] R X e w) e w := by kernel_rfl
def oubliettelaw20_light.fr1 (x0 : Value) (x3 : Value) (g : Nat → Value) : List Value := [x0, g 1, g 2, x3, g 4, g 5, g 6, g 7, g 8, g 9, g 10, g 11, g 12, g 13, g 14, g 15, g 16, g 17, g 18, g 19]
theorem oubliettelaw20_light.b1_eq (x0 : Value) (x3 : Value) (g : Nat → Value) (N1 : List Value → World → Prop) (R : KV) (X : KX) (w : World) : atP Try.prog Try.f34 oubliettelaw20_light.pl [1, 1, 0, 1, 0, 0] [N1] R X (oubliettelaw20_light.fr1 x0 x3 g) w = oubliettelaw20_light.b1 x0 x3 g N1 R X w := by kernel_rfl
/-- What a round of this loop hands on. -/
def oubliettelaw20_light.N1 (J : Value → World → Prop) (m : Value → World → Nat) (x0 : Value) (x3 : Value) (w : World) : List Value → World → Prop := fun e w' => (∃ y3 g, e = oubliettelaw20_light.fr1 x0 y3 g ∧ J y3 w') ∧ m (nth e 3) w' < m x3 w
theorem oubliettelaw20_light.leaf1 {J : Value → World → Prop} {m : Value → World → Nat} {x0 : Value} {x3 : Value} {w w' : World} {e1 e2 e3 e4 e5 e6 e7 e8 e9 e10 e11 e12 e13 e14 e15 e16 e17 e18 e19 : Value} (h : J e3 w') (hm : m e3 w' < m x3 w) : oubliettelaw20_light.N1 J m x0 x3 w [x0, e1, e2, e3, e4, e5, e6, e7, e8, e9, e10, e11, e12, e13, e14, e15, e16, e17, e18, e19] w' :=
  ⟨⟨e3, (fun i => nth [x0, e1, e2, e3, e4, e5, e6, e7, e8, e9, e10, e11, e12, e13, e14, e15, e16, e17, e18, e19] i), rfl, h⟩, hm⟩
theorem oubliettelaw20_light.loop1 (J : Value → World → Prop) (m : Value → World → Nat) {R : KV} {X : KX} {w : World} {x0 : Value} {e1 e2 e3 e4 e5 e6 e7 e8 e9 e10 e11 e12 e13 e14 e15 e16 e17 e18 e19 : Value} (h0 : J e3 w)
    (hr : ∀ x3 g w, J x3 w → oubliettelaw20_light.b1 x0 x3 g (oubliettelaw20_light.N1 J m x0 x3 w) R X w) : oubliettelaw20_light.I1 [x0, e1, e2, e3, e4, e5, e6, e7, e8, e9, e10, e11, e12, e13, e14, e15, e16, e17, e18, e19] R X w := by
  rw [oubliettelaw20_light.I1_eq]
  refine ⟨fun e w => ∃ y3 g, e = oubliettelaw20_light.fr1 x0 y3 g ∧ J y3 w, fun e w => m (nth e 3) w, ⟨e3, (fun i => nth [x0, e1, e2, e3, e4, e5, e6, e7, e8, e9, e10, e11, e12, e13, e14, e15, e16, e17, e18, e19] i), rfl, h0⟩, ?_⟩
  rintro _ w ⟨y3, g, rfl, hJ⟩
  rw [oubliettelaw20_light.b1_eq]
  exact hr y3 g w hJ
def oubliettelaw20_light.b (x0 : Value) (R : KV) (X : KX) (w : World) : Prop :=
  pLenSl x0 fun t5 =>
  pBinI .gtr .i64 t5 (.int .i64 60) fun t6 =>
  scond t6
  (R (.bool false) w)
  (oubliettelaw20_light.I1 [x0, undef, (.bool false), (.int .i64 0), x0, t5, t6, undef, undef, undef, undef, undef, undef, undef, undef, undef, undef, undef, undef, undef] R X w)
theorem oubliettelaw20_light.b_eq (x0 : Value) (R : KV) (X : KX) (w : World) : atP Try.prog Try.f34 oubliettelaw20_light.pl [] [] R X ([x0] ++ undefs 19) w = oubliettelaw20_light.b x0 R X w := by kernel_rfl
theorem oubliettelaw20_light.calls {x0 : Value} {R : KV} {X : KX} {w : World} (h : oubliettelaw20_light.b x0 R X w) : GCalls Try.prog 34 [x0] R X w :=
  gcalls_of (pl := oubliettelaw20_light.pl) Try.func34 rfl (by kernel_rfl) hmixed (oubliettelaw20_light.b_eq x0 R X w ▸ h)

/-! oubliette/oublietteref20.Rows -/
def oublietteref20_Rows.pl : Nat → DrawPlan
  | _ => ⟨[], .done⟩
def oublietteref20_Rows.b (x0 : Value) (x1 : Value) (R : KV) (X : KX) (w : World) : Prop :=
  pLenSl x0 fun t6 =>
  pLenSl x1 fun t8 =>
  pBinI .neq .i64 t6 t8 fun t9 =>
  scond t9
  (R (.bool false) w)
  (pCall Try.prog 14 [x0, x1] X w fun t12 w =>
    pLenSl t12 fun t13 =>
    pBinI .eql .i64 t13 (.int .i64 0) fun t14 =>
    R t14 w)
theorem oublietteref20_Rows.b_eq (x0 : Value) (x1 : Value) (R : KV) (X : KX) (w : World) : atP Try.prog Try.f35 oublietteref20_Rows.pl [] [] R X ([x0, x1] ++ undefs 13) w = oublietteref20_Rows.b x0 x1 R X w := by kernel_rfl
theorem oublietteref20_Rows.calls {x0 x1 : Value} {R : KV} {X : KX} {w : World} (h : oublietteref20_Rows.b x0 x1 R X w) : GCalls Try.prog 35 [x0, x1] R X w :=
  gcalls_of (pl := oublietteref20_Rows.pl) Try.func35 rfl (by kernel_rfl) hmixed (oublietteref20_Rows.b_eq x0 x1 R X w ▸ h)

/-! oubliette/trail.Image -/
def trail_Image.pl : Nat → DrawPlan
  | 14 => ⟨[([], [6]), ([], [2]), ([1], [1, 6]), ([], [4]), ([3], [3, 5]), ([4], [4, 7]), ([0, 2, 0, 1, 2, 3, 4, 5], [0, 2, 7]), ([6, 5, 5, 0, 1, 2, 3, 4, 5], [5, 6])], .take 0 (.take 1 (.take 2 (.take 3 (.take 4 (.world 5 false (.take 6 (.world 7 true (.done) .none)) .none)))))⟩
  | _ => ⟨[], .done⟩
def trail_Image.j1 (x0 : Value) (x3 : Value) (x5 : Value) (x7 : Value) (x19 : Value) (x20 : Value) (x29 : Value) (x30 : Value) (x31 : Value) (g : Nat → Value) (N1 : List Value → World → Prop) (R : KV) (X : KX) (w : World) : Prop :=
  pBinI .add .i64 x31 (.int .i64 1) fun t46 =>
  N1 [x0, (g 1), (g 2), x3, (g 4), x5, (g 6), x7, (g 8), (g 9), (g 10), (g 11), (g 12), (g 13), (g 14), (g 15), (g 16), (g 17), (g 18), x19, x20, (g 21), (g 22), (g 23), (g 24), (g 25), (g 26), (g 27), (g 28), x29, x30, t46, (g 32), (g 33), (g 34), (g 35), (g 36), (g 37), (g 38), (g 39), (g 40), (g 41), (g 42), (g 43), (g 44), (g 45), t46, (g 47)] w
def trail_Image.b2 (x0 : Value) (x3 : Value) (x5 : Value) (x7 : Value) (x19 : Value) (x20 : Value) (x29 : Value) (x30 : Value) (x31 : Value) (g : Nat → Value) (N1 : List Value → World → Prop) (R : KV) (X : KX) (w : World) : Prop :=
  pBinI .lss .i64 x31 x30 fun t32 =>
  scond t32
  (pIA 2 x29 x31 fun t33 =>
    pLdN (· = w) 2 t33 fun t34 =>
    pBox 55 (.agg #[.int .i64 0, .slice none 0 0]) w fun t9 w =>
    pStN 2 t9 t34 w fun _ w =>
    pFA 0 t9 fun t36 =>
    pLd (· = w) t36 fun t37 =>
    pCallV Try.prog x7 [t37] X w fun t38 w =>
    scond t38
    (drawn w fun S w =>
      pFA 0 t9 fun t40 =>
      pLd S t40 fun t41 =>
      pFA 1 t9 fun t42 =>
      pLd S t42 fun t43 =>
      pCall Try.prog 65 [t43] X w fun t44 w =>
      S w ∧ (pIA 1 x5 t41 fun t45 =>
        pSt t45 t44 w fun _ w =>
        anew w fun S w =>
        trail_Image.j1 x0 x3 x5 x7 x19 x20 x29 x30 x31 (fun i => nth [x0, (g 1), (g 2), x3, (g 4), x5, (g 6), x7, (g 8), t9, (g 10), (g 11), (g 12), (g 13), (g 14), (g 15), (g 16), (g 17), (g 18), x19, x20, (g 21), (g 22), (g 23), (g 24), (g 25), (g 26), (g 27), (g 28), x29, x30, x31, t32, t33, t34, x7, t36, t37, t38, x5, t40, t41, t42, t43, t44, t45, (g 46), (g 47)] i) N1 R X w))
    (trail_Image.j1 x0 x3 x5 x7 x19 x20 x29 x30 x31 (fun i => nth [x0, (g 1), (g 2), x3, (g 4), x5, (g 6), x7, (g 8), t9, (g 10), (g 11), (g 12), (g 13), (g 14), (g 15), (g 16), (g 17), (g 18), x19, x20, (g 21), (g 22), (g 23), (g 24), (g 25), (g 26), (g 27), (g 28), x29, x30, x31, t32, t33, t34, x7, t36, t37, t38, (g 39), (g 40), (g 41), (g 42), (g 43), (g 44), (g 45), (g 46), (g 47)] i) N1 R X w))
  (R x5 w)
def trail_Image.I2 (e : List Value) (R : KV) (X : KX) (w : World) : Prop := atP Try.prog Try.f36 trail_Image.pl [1, 1, 1, 1, 1, 0, 1, 0] [] R X e w
theorem trail_Image.I2_eq (e : List Value) (R : KV) (X : KX) (w : World) : trail_Image.I2 e R X w = loopS (fun N e w => atP Try.prog Try.f36 trail_Image.pl [1, 1, 1, 1, 1, 0, 1, 0, 0] [N] R X e w) e w := by kernel_rfl
def trail_Image.fr2 (x0 : Value) (x3 : Value) (x5 : Value) (x7 : Value) (x19 : Value) (x20 : Value) (x29 : Value) (x30 : Value) (x31 : Value) (g : Nat → Value) : List Value := [x0, g 1, g 2, x3, g 4, x5, g 6, x7, g 8, g 9, g 10, g 11, g 12, g 13, g 14, g 15, g 16, g 17, g 18, x19, x20, g 21, g 22, g 23, g 24, g 25, g 26, g 27, g 28, x29, x30, x31, g 32, g 33, g 34, g 35, g 36, g 37, g 38, g 39, g 40, g 41, g 42, g 43, g 44, g 45, g 46, g 47]
theorem trail_Image.b2_eq (x0 : Value) (x3 : Value) (x5 : Value) (x7 : Value) (x19 : Value) (x20 : Value) (x29 : Value) (x30 : Value) (x31 : Value) (g : Nat → Value) (N1 : List Value → World → Prop) (R : KV) (X : KX) (w : World) : atP Try.prog Try.f36 trail_Image.pl [1, 1, 1, 1, 1, 0, 1, 0, 0] [N1] R X (trail_Image.fr2 x0 x3 x5 x7 x19 x20 x29 x30 x31 g) w = trail_Image.b2 x0 x3 x5 x7 x19 x20 x29 x30 x31 g N1 R X w := by kernel_rfl
/-- What a round of this loop hands on. -/
def trail_Image.N2 (J : Value → World → Prop) (m : Value → World → Nat) (x0 : Value) (x3 : Value) (x5 : Value) (x7 : Value) (x19 : Value) (x20 : Value) (x29 : Value) (x30 : Value) (x31 : Value) (w : World) : List Value → World → Prop := fun e w' => (∃ y31 g, e = trail_Image.fr2 x0 x3 x5 x7 x19 x20 x29 x30 y31 g ∧ J y31 w') ∧ m (nth e 31) w' < m x31 w
theorem trail_Image.leaf2 {J : Value → World → Prop} {m : Value → World → Nat} {x0 : Value} {x3 : Value} {x5 : Value} {x7 : Value} {x19 : Value} {x20 : Value} {x29 : Value} {x30 : Value} {x31 : Value} {w w' : World} {e1 e2 e4 e6 e8 e9 e10 e11 e12 e13 e14 e15 e16 e17 e18 e21 e22 e23 e24 e25 e26 e27 e28 e31 e32 e33 e34 e35 e36 e37 e38 e39 e40 e41 e42 e43 e44 e45 e46 e47 : Value} (h : J e31 w') (hm : m e31 w' < m x31 w) : trail_Image.N2 J m x0 x3 x5 x7 x19 x20 x29 x30 x31 w [x0, e1, e2, x3, e4, x5, e6, x7, e8, e9, e10, e11, e12, e13, e14, e15, e16, e17, e18, x19, x20, e21, e22, e23, e24, e25, e26, e27, e28, x29, x30, e31, e32, e33, e34, e35, e36, e37, e38, e39, e40, e41, e42, e43, e44, e45, e46, e47] w' :=
  ⟨⟨e31, (fun i => nth [x0, e1, e2, x3, e4, x5, e6, x7, e8, e9, e10, e11, e12, e13, e14, e15, e16, e17, e18, x19, x20, e21, e22, e23, e24, e25, e26, e27, e28, x29, x30, e31, e32, e33, e34, e35, e36, e37, e38, e39, e40, e41, e42, e43, e44, e45, e46, e47] i), rfl, h⟩, hm⟩
theorem trail_Image.loop2 (J : Value → World → Prop) (m : Value → World → Nat) {R : KV} {X : KX} {w : World} {x0 : Value} {x3 : Value} {x5 : Value} {x7 : Value} {x19 : Value} {x20 : Value} {x29 : Value} {x30 : Value} {e1 e2 e4 e6 e8 e9 e10 e11 e12 e13 e14 e15 e16 e17 e18 e21 e22 e23 e24 e25 e26 e27 e28 e31 e32 e33 e34 e35 e36 e37 e38 e39 e40 e41 e42 e43 e44 e45 e46 e47 : Value} (h0 : J e31 w)
    (hr : ∀ x31 g w, J x31 w → trail_Image.b2 x0 x3 x5 x7 x19 x20 x29 x30 x31 g (trail_Image.N2 J m x0 x3 x5 x7 x19 x20 x29 x30 x31 w) R X w) : trail_Image.I2 [x0, e1, e2, x3, e4, x5, e6, x7, e8, e9, e10, e11, e12, e13, e14, e15, e16, e17, e18, x19, x20, e21, e22, e23, e24, e25, e26, e27, e28, x29, x30, e31, e32, e33, e34, e35, e36, e37, e38, e39, e40, e41, e42, e43, e44, e45, e46, e47] R X w := by
  rw [trail_Image.I2_eq]
  refine ⟨fun e w => ∃ y31 g, e = trail_Image.fr2 x0 x3 x5 x7 x19 x20 x29 x30 y31 g ∧ J y31 w, fun e w => m (nth e 31) w, ⟨e31, (fun i => nth [x0, e1, e2, x3, e4, x5, e6, x7, e8, e9, e10, e11, e12, e13, e14, e15, e16, e17, e18, x19, x20, e21, e22, e23, e24, e25, e26, e27, e28, x29, x30, e31, e32, e33, e34, e35, e36, e37, e38, e39, e40, e41, e42, e43, e44, e45, e46, e47] i), rfl, h0⟩, ?_⟩
  rintro _ w ⟨y31, g, rfl, hJ⟩
  rw [trail_Image.b2_eq]
  exact hr y31 g w hJ
def trail_Image.b1 (x0 : Value) (x3 : Value) (x5 : Value) (x19 : Value) (x20 : Value) (g : Nat → Value) (N1 : List Value → World → Prop) (R : KV) (X : KX) (w : World) : Prop :=
  pBinI .lss .i64 x20 x19 fun t21 =>
  scond t21
  (pMake 5 1 [.int .u8 0] (.int .i64 512) (.int .i64 512) w fun t25 w =>
    pIA 1 x5 x20 fun t26 =>
    pSt t26 t25 w fun _ w =>
    pBinI .add .i64 x20 (.int .i64 1) fun t27 =>
    N1 [x0, (g 1), (g 2), x3, (g 4), x5, x20, (g 7), (g 8), (g 9), (g 10), (g 11), (g 12), (g 13), (g 14), (g 15), (g 16), (g 17), (g 18), x19, t27, t21, x20, x5, x20, t25, t26, t27, (g 28), (g 29), (g 30), (g 31), (g 32), (g 33), (g 34), (g 35), (g 36), (g 37), (g 38), (g 39), (g 40), (g 41), (g 42), (g 43), (g 44), (g 45), (g 46), (g 47)] w)
  (pLenSl x0 fun t30 =>
    trail_Image.I2 [x0, (g 1), (g 2), x3, (g 4), x5, (g 6), (.func (.func 64) #[] #[x3]), (g 8), (g 9), (g 10), (g 11), (g 12), (g 13), (g 14), (g 15), (g 16), (g 17), (g 18), x19, x20, t21, (g 22), (g 23), (g 24), (g 25), (g 26), (g 27), (.func (.func 64) #[] #[x3]), x0, t30, (.int .i64 0), (g 32), (g 33), (g 34), (g 35), (g 36), (g 37), (g 38), (g 39), (g 40), (g 41), (g 42), (g 43), (g 44), (g 45), (g 46), (g 47)] R X w)
def trail_Image.I1 (e : List Value) (R : KV) (X : KX) (w : World) : Prop := atP Try.prog Try.f36 trail_Image.pl [1, 1, 1, 0, 1, 0] [] R X e w
theorem trail_Image.I1_eq (e : List Value) (R : KV) (X : KX) (w : World) : trail_Image.I1 e R X w = loopS (fun N e w => atP Try.prog Try.f36 trail_Image.pl [1, 1, 1, 0, 1, 0, 0] [N] R X e w) e w := by kernel_rfl
def trail_Image.fr1 (x0 : Value) (x3 : Value) (x5 : Value) (x19 : Value) (x20 : Value) (g : Nat → Value) : List Value := [x0, g 1, g 2, x3, g 4, x5, g 6, g 7, g 8, g 9, g 10, g 11, g 12, g 13, g 14, g 15, g 16, g 17, g 18, x19, x20, g 21, g 22, g 23, g 24, g 25, g 26, g 27, g 28, g 29, g 30, g 31, g 32, g 33, g 34, g 35, g 36, g 37, g 38, g 39, g 40, g 41, g 42, g 43, g 44, g 45, g 46, g 47]
theorem trail_Image.b1_eq (x0 : Value) (x3 : Value) (x5 : Value) (x19 : Value) (x20 : Value) (g : Nat → Value) (N1 : List Value → World → Prop) (R : KV) (X : KX) (w : World) : atP Try.prog Try.f36 trail_Image.pl [1, 1, 1, 0, 1, 0, 0] [N1] R X (trail_Image.fr1 x0 x3 x5 x19 x20 g) w = trail_Image.b1 x0 x3 x5 x19 x20 g N1 R X w := by kernel_rfl
/-- What a round of this loop hands on. -/
def trail_Image.N1 (J : Value → World → Prop) (m : Value → World → Nat) (x0 : Value) (x3 : Value) (x5 : Value) (x19 : Value) (x20 : Value) (w : World) : List Value → World → Prop := fun e w' => (∃ y20 g, e = trail_Image.fr1 x0 x3 x5 x19 y20 g ∧ J y20 w') ∧ m (nth e 20) w' < m x20 w
theorem trail_Image.leaf1 {J : Value → World → Prop} {m : Value → World → Nat} {x0 : Value} {x3 : Value} {x5 : Value} {x19 : Value} {x20 : Value} {w w' : World} {e1 e2 e4 e6 e7 e8 e9 e10 e11 e12 e13 e14 e15 e16 e17 e18 e20 e21 e22 e23 e24 e25 e26 e27 e28 e29 e30 e31 e32 e33 e34 e35 e36 e37 e38 e39 e40 e41 e42 e43 e44 e45 e46 e47 : Value} (h : J e20 w') (hm : m e20 w' < m x20 w) : trail_Image.N1 J m x0 x3 x5 x19 x20 w [x0, e1, e2, x3, e4, x5, e6, e7, e8, e9, e10, e11, e12, e13, e14, e15, e16, e17, e18, x19, e20, e21, e22, e23, e24, e25, e26, e27, e28, e29, e30, e31, e32, e33, e34, e35, e36, e37, e38, e39, e40, e41, e42, e43, e44, e45, e46, e47] w' :=
  ⟨⟨e20, (fun i => nth [x0, e1, e2, x3, e4, x5, e6, e7, e8, e9, e10, e11, e12, e13, e14, e15, e16, e17, e18, x19, e20, e21, e22, e23, e24, e25, e26, e27, e28, e29, e30, e31, e32, e33, e34, e35, e36, e37, e38, e39, e40, e41, e42, e43, e44, e45, e46, e47] i), rfl, h⟩, hm⟩
theorem trail_Image.loop1 (J : Value → World → Prop) (m : Value → World → Nat) {R : KV} {X : KX} {w : World} {x0 : Value} {x3 : Value} {x5 : Value} {x19 : Value} {e1 e2 e4 e6 e7 e8 e9 e10 e11 e12 e13 e14 e15 e16 e17 e18 e20 e21 e22 e23 e24 e25 e26 e27 e28 e29 e30 e31 e32 e33 e34 e35 e36 e37 e38 e39 e40 e41 e42 e43 e44 e45 e46 e47 : Value} (h0 : J e20 w)
    (hr : ∀ x20 g w, J x20 w → trail_Image.b1 x0 x3 x5 x19 x20 g (trail_Image.N1 J m x0 x3 x5 x19 x20 w) R X w) : trail_Image.I1 [x0, e1, e2, x3, e4, x5, e6, e7, e8, e9, e10, e11, e12, e13, e14, e15, e16, e17, e18, x19, e20, e21, e22, e23, e24, e25, e26, e27, e28, e29, e30, e31, e32, e33, e34, e35, e36, e37, e38, e39, e40, e41, e42, e43, e44, e45, e46, e47] R X w := by
  rw [trail_Image.I1_eq]
  refine ⟨fun e w => ∃ y20 g, e = trail_Image.fr1 x0 x3 x5 x19 y20 g ∧ J y20 w, fun e w => m (nth e 20) w, ⟨e20, (fun i => nth [x0, e1, e2, x3, e4, x5, e6, e7, e8, e9, e10, e11, e12, e13, e14, e15, e16, e17, e18, x19, e20, e21, e22, e23, e24, e25, e26, e27, e28, e29, e30, e31, e32, e33, e34, e35, e36, e37, e38, e39, e40, e41, e42, e43, e44, e45, e46, e47] i), rfl, h0⟩, ?_⟩
  rintro _ w ⟨y20, g, rfl, hJ⟩
  rw [trail_Image.b1_eq]
  exact hr y20 g w hJ
def trail_Image.b (x0 : Value) (x1 : Value) (R : KV) (X : KX) (w : World) : Prop :=
  pBox 3 x1 w fun t3 w =>
  pLd (· = w) t3 fun t10 =>
  pBinI .lss .i64 t10 (.int .i64 1) fun t11 =>
  gIf t11 false (fun K => pLd (· = w) t3 K) fun t13 =>
  gIf t11 false (fun K => pBinI .gtr .i64 t13 (.int .i64 1024) K) fun t14 =>
  pPick t11 (.bool true) t14 fun t15 =>
  scond t15
  (R (.slice none 0 0) w)
  (pLd (· = w) t3 fun t16 =>
    pMake 23 24 [.slice none 0 0] t16 t16 w fun t17 w =>
    pLenSl t17 fun t19 =>
    trail_Image.I1 [x0, x1, undef, t3, (.slice none 0 0), t17, undef, undef, undef, undef, t10, t11, t11, t13, t14, t15, t16, t17, t17, t19, (.int .i64 0), undef, undef, undef, undef, undef, undef, undef, undef, undef, undef, undef, undef, undef, undef, undef, undef, undef, undef, undef, undef, undef, undef, undef, undef, undef, undef, undef] R X w)
theorem trail_Image.b_eq (x0 : Value) (x1 : Value) (R : KV) (X : KX) (w : World) : atP Try.prog Try.f36 trail_Image.pl [] [] R X ([x0, x1] ++ undefs 46) w = trail_Image.b x0 x1 R X w := by kernel_rfl
theorem trail_Image.calls {x0 x1 : Value} {R : KV} {X : KX} {w : World} (h : trail_Image.b x0 x1 R X w) : GCalls Try.prog 36 [x0, x1] R X w :=
  gcalls_of (pl := trail_Image.pl) Try.func36 rfl (by kernel_rfl) hmixed (trail_Image.b_eq x0 x1 R X w ▸ h)

/-! oubliette/oublietteref20.Image -/
def oublietteref20_Image.pl : Nat → DrawPlan
  | _ => ⟨[], .done⟩
def oublietteref20_Image.j1 (x0 : Value) (x1 : Value) (x5 : Value) (x6 : Value) (x7 : Value) (x8 : Value) (g : Nat → Value) (N1 : List Value → World → Prop) (N2 : List Value → World → Prop) (R : KV) (X : KX) (w : World) : Prop :=
  pBinI .add .i64 x8 (.int .i64 1) fun t26 =>
  N2 [x0, x1, (g 2), (g 3), (g 4), x5, x6, x7, t26, (g 9), (g 10), (g 11), (g 12), (g 13), (g 14), (g 15), (g 16), (g 17), (g 18), (g 19), (g 20), (g 21), (g 22), (g 23), (g 24), x8, t26, (g 27), (g 28), (g 29), (g 30), (g 31), (g 32), (g 33), (g 34), (g 35), (g 36), (g 37), (g 38), (g 39), (g 40), (g 41), (g 42), (g 43)] w
def oublietteref20_Image.b2 (x0 : Value) (x1 : Value) (x5 : Value) (x6 : Value) (x7 : Value) (x8 : Value) (g : Nat → Value) (N1 : List Value → World → Prop) (N2 : List Value → World → Prop) (R : KV) (X : KX) (w : World) : Prop :=
  pLenSl x0 fun t23 =>
  pBinI .lss .i64 x8 t23 fun t24 =>
  scond t24
  (pIA 2 x0 x8 fun t29 =>
    pFA 0 t29 fun t30 =>
    pLd (· = w) t30 fun t31 =>
    pBinI .eql .i64 t31 x6 fun t33 =>
    scond t33
    (pIA 2 x0 x8 fun t36 =>
      pFA 1 t36 fun t37 =>
      pLd (· = w) t37 fun t38 =>
      oublietteref20_Image.j1 x0 x1 x5 x6 t38 x8 (fun i => nth [x0, x1, (g 2), (g 3), (g 4), x5, x6, t38, x8, (g 9), (g 10), (g 11), (g 12), (g 13), (g 14), (g 15), (g 16), (g 17), (g 18), (g 19), (g 20), x8, x0, t23, t24, (g 25), (g 26), x0, x8, t29, t30, t31, x6, t33, x0, x8, t36, t37, t38, (g 39), (g 40), (g 41), (g 42), (g 43)] i) N1 N2 R X w)
    (oublietteref20_Image.j1 x0 x1 x5 x6 x7 x8 (fun i => nth [x0, x1, (g 2), (g 3), (g 4), x5, x6, x7, x8, (g 9), (g 10), (g 11), (g 12), (g 13), (g 14), (g 15), (g 16), (g 17), (g 18), (g 19), (g 20), x8, x0, t23, t24, (g 25), (g 26), x0, x8, t29, t30, t31, x6, t33, (g 34), (g 35), (g 36), (g 37), (g 38), (g 39), (g 40), (g 41), (g 42), (g 43)] i) N1 N2 R X w))
  (pBSlice 23 1 (rowOf [.slice none 0 0] 1) [(0, 1, x7)] w fun t41 w =>
    pApp 23 1 24 [.slice none 0 0] x5 t41 w fun t42 w =>
    pBinI .add .i64 x6 (.int .i64 1) fun t19 =>
    N1 [x0, x1, (g 2), (g 3), (g 4), t42, t19, x7, x8, (g 9), (g 10), (g 11), (g 12), (g 13), (g 14), (g 15), (g 16), (g 17), x6, t19, (g 20), x8, x0, t23, t24, (g 25), (g 26), (g 27), (g 28), (g 29), (g 30), (g 31), (g 32), (g 33), (g 34), (g 35), (g 36), (g 37), (g 38), x5, x7, t41, t42, (g 43)] w)
def oublietteref20_Image.I2 (e : List Value) (N1 : List Value → World → Prop) (R : KV) (X : KX) (w : World) : Prop := atP Try.prog Try.f37 oublietteref20_Image.pl [1, 1, 1, 0, 1, 0, 0, 1, 0, 0, 1, 0, 1, 0] [N1] R X e w
theorem oublietteref20_Image.I2_eq (e : List Value) (N1 : List Value → World → Prop) (R : KV) (X : KX) (w : World) : oublietteref20_Image.I2 e N1 R X w = loopS (fun N e w => atP Try.prog Try.f37 oublietteref20_Image.pl [1, 1, 1, 0, 1, 0, 0, 1, 0, 0, 1, 0, 1, 0, 0] [N1, N] R X e w) e w := by kernel_rfl
def oublietteref20_Image.fr2 (x0 : Value) (x1 : Value) (x5 : Value) (x6 : Value) (x7 : Value) (x8 : Value) (g : Nat → Value) : List Value := [x0, x1, g 2, g 3, g 4, x5, x6, x7, x8, g 9, g 10, g 11, g 12, g 13, g 14, g 15, g 16, g 17, g 18, g 19, g 20, g 21, g 22, g 23, g 24, g 25, g 26, g 27, g 28, g 29, g 30, g 31, g 32, g 33, g 34, g 35, g 36, g 37, g 38, g 39, g 40, g 41, g 42, g 43]
theorem oublietteref20_Image.b2_eq (x0 : Value) (x1 : Value) (x5 : Value) (x6 : Value) (x7 : Value) (x8 : Value) (g : Nat → Value) (N1 : List Value → World → Prop) (N2 : List Value → World → Prop) (R : KV) (X : KX) (w : World) : atP Try.prog Try.f37 oublietteref20_Image.pl [1, 1, 1, 0, 1, 0, 0, 1, 0, 0, 1, 0, 1, 0, 0] [N1, N2] R X (oublietteref20_Image.fr2 x0 x1 x5 x6 x7 x8 g) w = oublietteref20_Image.b2 x0 x1 x5 x6 x7 x8 g N1 N2 R X w := by kernel_rfl
/-- What a round of this loop hands on. -/
def oublietteref20_Image.N2 (J : Value → Value → World → Prop) (m : Value → Value → World → Nat) (x0 : Value) (x1 : Value) (x5 : Value) (x6 : Value) (x7 : Value) (x8 : Value) (w : World) : List Value → World → Prop := fun e w' => (∃ y7 y8 g, e = oublietteref20_Image.fr2 x0 x1 x5 x6 y7 y8 g ∧ J y7 y8 w') ∧ m (nth e 7) (nth e 8) w' < m x7 x8 w
theorem oublietteref20_Image.leaf2 {J : Value → Value → World → Prop} {m : Value → Value → World → Nat} {x0 : Value} {x1 : Value} {x5 : Value} {x6 : Value} {x7 : Value} {x8 : Value} {w w' : World} {e2 e3 e4 e7 e8 e9 e10 e11 e12 e13 e14 e15 e16 e17 e18 e19 e20 e21 e22 e23 e24 e25 e26 e27 e28 e29 e30 e31 e32 e33 e34 e35 e36 e37 e38 e39 e40 e41 e42 e43 : Value} (h : J e7 e8 w') (hm : m e7 e8 w' < m x7 x8 w) : oublietteref20_Image.N2 J m x0 x1 x5 x6 x7 x8 w [x0, x1, e2, e3, e4, x5, x6, e7, e8, e9, e10, e11, e12, e13, e14, e15, e16, e17, e18, e19, e20, e21, e22, e23, e24, e25, e26, e27, e28, e29, e30, e31, e32, e33, e34, e35, e36, e37, e38, e39, e40, e41, e42, e43] w' :=
  ⟨⟨e7, e8, (fun i => nth [x0, x1, e2, e3, e4, x5, x6, e7, e8, e9, e10, e11, e12, e13, e14, e15, e16, e17, e18, e19, e20, e21, e22, e23, e24, e25, e26, e27, e28, e29, e30, e31, e32, e33, e34, e35, e36, e37, e38, e39, e40, e41, e42, e43] i), rfl, h⟩, hm⟩
theorem oublietteref20_Image.loop2 (J : Value → Value → World → Prop) (m : Value → Value → World → Nat) {N1 : List Value → World → Prop} {R : KV} {X : KX} {w : World} {x0 : Value} {x1 : Value} {x5 : Value} {x6 : Value} {e2 e3 e4 e7 e8 e9 e10 e11 e12 e13 e14 e15 e16 e17 e18 e19 e20 e21 e22 e23 e24 e25 e26 e27 e28 e29 e30 e31 e32 e33 e34 e35 e36 e37 e38 e39 e40 e41 e42 e43 : Value} (h0 : J e7 e8 w)
    (hr : ∀ x7 x8 g w, J x7 x8 w → oublietteref20_Image.b2 x0 x1 x5 x6 x7 x8 g N1 (oublietteref20_Image.N2 J m x0 x1 x5 x6 x7 x8 w) R X w) : oublietteref20_Image.I2 [x0, x1, e2, e3, e4, x5, x6, e7, e8, e9, e10, e11, e12, e13, e14, e15, e16, e17, e18, e19, e20, e21, e22, e23, e24, e25, e26, e27, e28, e29, e30, e31, e32, e33, e34, e35, e36, e37, e38, e39, e40, e41, e42, e43] N1 R X w := by
  rw [oublietteref20_Image.I2_eq]
  refine ⟨fun e w => ∃ y7 y8 g, e = oublietteref20_Image.fr2 x0 x1 x5 x6 y7 y8 g ∧ J y7 y8 w, fun e w => m (nth e 7) (nth e 8) w, ⟨e7, e8, (fun i => nth [x0, x1, e2, e3, e4, x5, x6, e7, e8, e9, e10, e11, e12, e13, e14, e15, e16, e17, e18, e19, e20, e21, e22, e23, e24, e25, e26, e27, e28, e29, e30, e31, e32, e33, e34, e35, e36, e37, e38, e39, e40, e41, e42, e43] i), rfl, h0⟩, ?_⟩
  rintro _ w ⟨y7, y8, g, rfl, hJ⟩
  rw [oublietteref20_Image.b2_eq]
  exact hr y7 y8 g w hJ
def oublietteref20_Image.b1 (x0 : Value) (x1 : Value) (x5 : Value) (x6 : Value) (g : Nat → Value) (N1 : List Value → World → Prop) (R : KV) (X : KX) (w : World) : Prop :=
  pBinI .lss .i64 x6 x1 fun t17 =>
  scond t17
  (pMake 5 1 [.int .u8 0] (.int .i64 512) (.int .i64 512) w fun t20 w =>
    oublietteref20_Image.I2 [x0, x1, (g 2), (g 3), (g 4), x5, x6, t20, (.int .i64 0), (g 9), (g 10), (g 11), (g 12), (g 13), (g 14), x6, x1, t17, (g 18), (g 19), t20, (g 21), (g 22), (g 23), (g 24), (g 25), (g 26), (g 27), (g 28), (g 29), (g 30), (g 31), (g 32), (g 33), (g 34), (g 35), (g 36), (g 37), (g 38), (g 39), (g 40), (g 41), (g 42), (g 43)] N1 R X w)
  (R x5 w)
def oublietteref20_Image.I1 (e : List Value) (R : KV) (X : KX) (w : World) : Prop := atP Try.prog Try.f37 oublietteref20_Image.pl [1, 1, 1, 0, 1, 0] [] R X e w
theorem oublietteref20_Image.I1_eq (e : List Value) (R : KV) (X : KX) (w : World) : oublietteref20_Image.I1 e R X w = loopS (fun N e w => atP Try.prog Try.f37 oublietteref20_Image.pl [1, 1, 1, 0, 1, 0, 0] [N] R X e w) e w := by kernel_rfl
def oublietteref20_Image.fr1 (x0 : Value) (x1 : Value) (x5 : Value) (x6 : Value) (g : Nat → Value) : List Value := [x0, x1, g 2, g 3, g 4, x5, x6, g 7, g 8, g 9, g 10, g 11, g 12, g 13, g 14, g 15, g 16, g 17, g 18, g 19, g 20, g 21, g 22, g 23, g 24, g 25, g 26, g 27, g 28, g 29, g 30, g 31, g 32, g 33, g 34, g 35, g 36, g 37, g 38, g 39, g 40, g 41, g 42, g 43]
theorem oublietteref20_Image.b1_eq (x0 : Value) (x1 : Value) (x5 : Value) (x6 : Value) (g : Nat → Value) (N1 : List Value → World → Prop) (R : KV) (X : KX) (w : World) : atP Try.prog Try.f37 oublietteref20_Image.pl [1, 1, 1, 0, 1, 0, 0] [N1] R X (oublietteref20_Image.fr1 x0 x1 x5 x6 g) w = oublietteref20_Image.b1 x0 x1 x5 x6 g N1 R X w := by kernel_rfl
/-- What a round of this loop hands on. -/
def oublietteref20_Image.N1 (J : Value → Value → World → Prop) (m : Value → Value → World → Nat) (x0 : Value) (x1 : Value) (x5 : Value) (x6 : Value) (w : World) : List Value → World → Prop := fun e w' => (∃ y5 y6 g, e = oublietteref20_Image.fr1 x0 x1 y5 y6 g ∧ J y5 y6 w') ∧ m (nth e 5) (nth e 6) w' < m x5 x6 w
theorem oublietteref20_Image.leaf1 {J : Value → Value → World → Prop} {m : Value → Value → World → Nat} {x0 : Value} {x1 : Value} {x5 : Value} {x6 : Value} {w w' : World} {e2 e3 e4 e5 e6 e7 e8 e9 e10 e11 e12 e13 e14 e15 e16 e17 e18 e19 e20 e21 e22 e23 e24 e25 e26 e27 e28 e29 e30 e31 e32 e33 e34 e35 e36 e37 e38 e39 e40 e41 e42 e43 : Value} (h : J e5 e6 w') (hm : m e5 e6 w' < m x5 x6 w) : oublietteref20_Image.N1 J m x0 x1 x5 x6 w [x0, x1, e2, e3, e4, e5, e6, e7, e8, e9, e10, e11, e12, e13, e14, e15, e16, e17, e18, e19, e20, e21, e22, e23, e24, e25, e26, e27, e28, e29, e30, e31, e32, e33, e34, e35, e36, e37, e38, e39, e40, e41, e42, e43] w' :=
  ⟨⟨e5, e6, (fun i => nth [x0, x1, e2, e3, e4, e5, e6, e7, e8, e9, e10, e11, e12, e13, e14, e15, e16, e17, e18, e19, e20, e21, e22, e23, e24, e25, e26, e27, e28, e29, e30, e31, e32, e33, e34, e35, e36, e37, e38, e39, e40, e41, e42, e43] i), rfl, h⟩, hm⟩
theorem oublietteref20_Image.loop1 (J : Value → Value → World → Prop) (m : Value → Value → World → Nat) {R : KV} {X : KX} {w : World} {x0 : Value} {x1 : Value} {e2 e3 e4 e5 e6 e7 e8 e9 e10 e11 e12 e13 e14 e15 e16 e17 e18 e19 e20 e21 e22 e23 e24 e25 e26 e27 e28 e29 e30 e31 e32 e33 e34 e35 e36 e37 e38 e39 e40 e41 e42 e43 : Value} (h0 : J e5 e6 w)
    (hr : ∀ x5 x6 g w, J x5 x6 w → oublietteref20_Image.b1 x0 x1 x5 x6 g (oublietteref20_Image.N1 J m x0 x1 x5 x6 w) R X w) : oublietteref20_Image.I1 [x0, x1, e2, e3, e4, e5, e6, e7, e8, e9, e10, e11, e12, e13, e14, e15, e16, e17, e18, e19, e20, e21, e22, e23, e24, e25, e26, e27, e28, e29, e30, e31, e32, e33, e34, e35, e36, e37, e38, e39, e40, e41, e42, e43] R X w := by
  rw [oublietteref20_Image.I1_eq]
  refine ⟨fun e w => ∃ y5 y6 g, e = oublietteref20_Image.fr1 x0 x1 y5 y6 g ∧ J y5 y6 w, fun e w => m (nth e 5) (nth e 6) w, ⟨e5, e6, (fun i => nth [x0, x1, e2, e3, e4, e5, e6, e7, e8, e9, e10, e11, e12, e13, e14, e15, e16, e17, e18, e19, e20, e21, e22, e23, e24, e25, e26, e27, e28, e29, e30, e31, e32, e33, e34, e35, e36, e37, e38, e39, e40, e41, e42, e43] i), rfl, h0⟩, ?_⟩
  rintro _ w ⟨y5, y6, g, rfl, hJ⟩
  rw [oublietteref20_Image.b1_eq]
  exact hr y5 y6 g w hJ
def oublietteref20_Image.b (x0 : Value) (x1 : Value) (R : KV) (X : KX) (w : World) : Prop :=
  pBinI .lss .i64 x1 (.int .i64 1) fun t10 =>
  gIf t10 false (fun K => K x1) fun t12 =>
  gIf t10 false (fun K => pBinI .gtr .i64 t12 (.int .i64 1024) K) fun t13 =>
  pPick t10 (.bool true) t13 fun t14 =>
  scond t14
  (R (.slice none 0 0) w)
  (oublietteref20_Image.I1 [x0, x1, undef, undef, (.slice none 0 0), (.slice none 0 0), (.int .i64 0), undef, undef, x1, t10, t10, t12, t13, t14, undef, undef, undef, undef, undef, undef, undef, undef, undef, undef, undef, undef, undef, undef, undef, undef, undef, undef, undef, undef, undef, undef, undef, undef, undef, undef, undef, undef, undef] R X w)
theorem oublietteref20_Image.b_eq (x0 : Value) (x1 : Value) (R : KV) (X : KX) (w : World) : atP Try.prog Try.f37 oublietteref20_Image.pl [] [] R X ([x0, x1] ++ undefs 42) w = oublietteref20_Image.b x0 x1 R X w := by kernel_rfl
theorem oublietteref20_Image.calls {x0 x1 : Value} {R : KV} {X : KX} {w : World} (h : oublietteref20_Image.b x0 x1 R X w) : GCalls Try.prog 37 [x0, x1] R X w :=
  gcalls_of (pl := oublietteref20_Image.pl) Try.func37 rfl (by kernel_rfl) hmixed (oublietteref20_Image.b_eq x0 x1 R X w ▸ h)

/-! oubliette/oublietteref19.Writes -/
def oublietteref19_Writes.pl : Nat → DrawPlan
  | 6 => ⟨[([], [2]), ([], [2]), ([0, 1], [0, 1, 3]), ([2], [2, 4]), ([3], [3, 10]), ([], [7]), ([], [7]), ([5, 6], [5, 6, 8]), ([7], [7, 9]), ([8], [8, 10]), ([4, 9], [4, 9, 11]), ([10], [10, 12, 13, 14, 15, 16, 17, 18, 19, 20, 21, 22, 23, 24]), ([11], [11, 14]), ([11], [11, 14]), ([12, 13, 11], [11, 12, 13, 15]), ([14, 11], [11, 14, 16]), ([15, 11], [11, 15, 22]), ([11], [11, 19]), ([11], [11, 19]), ([17, 18, 11], [11, 17, 18, 20]), ([19, 11], [11, 19, 21]), ([20, 11], [11, 20, 22]), ([16, 21, 11, 11], [11, 16, 21, 23]), ([22, 11], [11, 22, 24]), ([11, 23], [11, 23])], .take 0 (.take 1 (.take 2 (.take 3 (.take 4 (.take 5 (.take 6 (.take 7 (.take 8 (.take 9 (.take 10 (.take 11 (.take 12 (.take 13 (.take 14 (.take 15 (.take 16 (.take 17 (.take 18 (.take 19 (.take 20 (.take 21 (.world 22 false (.take 23 (.take 24 (.done))) .none))))))))))))))))))))))⟩
  | _ => ⟨[], .done⟩
def oublietteref19_Writes.b1 (x0 : Value) (x1 : Value) (x5 : Value) (g : Nat → Value) (N1 : List Value → World → Prop) (R : KV) (X : KX) (w : World) : Prop :=
  pLenSl x0 fun t13 =>
  pBinI .lss .i64 x5 t13 fun t14 =>
  scond t14
  (drawn w fun S w =>
    pIA 2 x0 x5 fun t19 =>
    pFA 0 t19 fun t20 =>
    pLd S t20 fun t21 =>
    pIA 2 x1 x5 fun t24 =>
    pFA 0 t24 fun t25 =>
    pLd S t25 fun t26 =>
    pBinI .neq .i64 t21 t26 fun t27 =>
    gIf t27 false (fun K => K x0) fun t29 =>
    gIf t27 false (fun K => K x5) fun t30 =>
    gIf t27 false (fun K => pIA 2 t29 t30 K) fun t31 =>
    gIf t27 false (fun K => pFA 1 t31 K) fun t32 =>
    gIf t27 false (fun K => pLd S t32 K) fun t33 =>
    gIf t27 false (fun K => K x1) fun t34 =>
    gIf t27 false (fun K => K x5) fun t35 =>
    gIf t27 false (fun K => pIA 2 t34 t35 K) fun t36 =>
    gIf t27 false (fun K => pFA 1 t36 K) fun t37 =>
    gIf t27 false (fun K => pLd S t37 K) fun t38 =>
    gIfW t27 false (fun w K => pCall Try.prog 15 [t33, t38] X w K) w fun t39 w =>
    S w ∧ (gIf t27 false (fun K => pNot t39 K) fun t40 =>
      pPick t27 (.bool true) t40 fun t41 =>
      scond t41
      (R (.bool false) w)
      (pBinI .add .i64 x5 (.int .i64 1) fun t16 =>
        N1 [x0, x1, (g 2), (g 3), (g 4), t16, (g 6), (g 7), (g 8), (g 9), (g 10), x5, x0, t13, t14, x5, t16, x0, x5, t19, t20, t21, x1, x5, t24, t25, t26, t27, t27, t29, t30, t31, t32, t33, t34, t35, t36, t37, t38, t39, t40, t41] w)))
  (R (.bool true) w)
def oublietteref19_Writes.I1 (e : List Value) (R : KV) (X : KX) (w : World) : Prop := atP Try.prog Try.f38 oublietteref19_Writes.pl [1, 1, 0, 1, 0] [] R X e w
theorem oublietteref19_Writes.I1_eq (e : List Value) (R : KV) (X : KX) (w : World) : oublietteref19_Writes.I1 e R X w = loopS (fun N e w => atP Try.prog Try.f38 oublietteref19_Writes.pl [1, 1, 0, 1, 0, 0] [N] R X e w) e w := by kernel_rfl
def oublietteref19_Writes.fr1 (x0 : Value) (x1 : Value) (x5 : Value) (g : Nat → Value) : List Value := [x0, x1, g 2, g 3, g 4, x5, g 6, g 7, g 8, g 9, g 10, g 11, g 12, g 13, g 14, g 15, g 16, g 17, g 18, g 19, g 20, g 21, g 22, g 23, g 24, g 25, g 26, g 27, g 28, g 29, g 30, g 31, g 32, g 33, g 34, g 35, g 36, g 37, g 38, g 39, g 40, g 41]
theorem oublietteref19_Writes.b1_eq (x0 : Value) (x1 : Value) (x5 : Value) (g : Nat → Value) (N1 : List Value → World → Prop) (R : KV) (X : KX) (w : World) : atP Try.prog Try.f38 oublietteref19_Writes.pl [1, 1, 0, 1, 0, 0] [N1] R X (oublietteref19_Writes.fr1 x0 x1 x5 g) w = oublietteref19_Writes.b1 x0 x1 x5 g N1 R X w := by kernel_rfl
/-- What a round of this loop hands on. -/
def oublietteref19_Writes.N1 (J : Value → World → Prop) (m : Value → World → Nat) (x0 : Value) (x1 : Value) (x5 : Value) (w : World) : List Value → World → Prop := fun e w' => (∃ y5 g, e = oublietteref19_Writes.fr1 x0 x1 y5 g ∧ J y5 w') ∧ m (nth e 5) w' < m x5 w
theorem oublietteref19_Writes.leaf1 {J : Value → World → Prop} {m : Value → World → Nat} {x0 : Value} {x1 : Value} {x5 : Value} {w w' : World} {e2 e3 e4 e5 e6 e7 e8 e9 e10 e11 e12 e13 e14 e15 e16 e17 e18 e19 e20 e21 e22 e23 e24 e25 e26 e27 e28 e29 e30 e31 e32 e33 e34 e35 e36 e37 e38 e39 e40 e41 : Value} (h : J e5 w') (hm : m e5 w' < m x5 w) : oublietteref19_Writes.N1 J m x0 x1 x5 w [x0, x1, e2, e3, e4, e5, e6, e7, e8, e9, e10, e11, e12, e13, e14, e15, e16, e17, e18, e19, e20, e21, e22, e23, e24, e25, e26, e27, e28, e29, e30, e31, e32, e33, e34, e35, e36, e37, e38, e39, e40, e41] w' :=
  ⟨⟨e5, (fun i => nth [x0, x1, e2, e3, e4, e5, e6, e7, e8, e9, e10, e11, e12, e13, e14, e15, e16, e17, e18, e19, e20, e21, e22, e23, e24, e25, e26, e27, e28, e29, e30, e31, e32, e33, e34, e35, e36, e37, e38, e39, e40, e41] i), rfl, h⟩, hm⟩
theorem oublietteref19_Writes.loop1 (J : Value → World → Prop) (m : Value → World → Nat) {R : KV} {X : KX} {w : World} {x0 : Value} {x1 : Value} {e2 e3 e4 e5 e6 e7 e8 e9 e10 e11 e12 e13 e14 e15 e16 e17 e18 e19 e20 e21 e22 e23 e24 e25 e26 e27 e28 e29 e30 e31 e32 e33 e34 e35 e36 e37 e38 e39 e40 e41 : Value} (h0 : J e5 w)
    (hr : ∀ x5 g w, J x5 w → oublietteref19_Writes.b1 x0 x1 x5 g (oublietteref19_Writes.N1 J m x0 x1 x5 w) R X w) : oublietteref19_Writes.I1 [x0, x1, e2, e3, e4, e5, e6, e7, e8, e9, e10, e11, e12, e13, e14, e15, e16, e17, e18, e19, e20, e21, e22, e23, e24, e25, e26, e27, e28, e29, e30, e31, e32, e33, e34, e35, e36, e37, e38, e39, e40, e41] R X w := by
  rw [oublietteref19_Writes.I1_eq]
  refine ⟨fun e w => ∃ y5 g, e = oublietteref19_Writes.fr1 x0 x1 y5 g ∧ J y5 w, fun e w => m (nth e 5) w, ⟨e5, (fun i => nth [x0, x1, e2, e3, e4, e5, e6, e7, e8, e9, e10, e11, e12, e13, e14, e15, e16, e17, e18, e19, e20, e21, e22, e23, e24, e25, e26, e27, e28, e29, e30, e31, e32, e33, e34, e35, e36, e37, e38, e39, e40, e41] i), rfl, h0⟩, ?_⟩
  rintro _ w ⟨y5, g, rfl, hJ⟩
  rw [oublietteref19_Writes.b1_eq]
  exact hr y5 g w hJ
def oublietteref19_Writes.b (x0 : Value) (x1 : Value) (R : KV) (X : KX) (w : World) : Prop :=
  pLenSl x0 fun t7 =>
  pLenSl x1 fun t9 =>
  pBinI .neq .i64 t7 t9 fun t10 =>
  scond t10
  (R (.bool false) w)
  (oublietteref19_Writes.I1 [x0, x1, undef, undef, (.bool false), (.int .i64 0), x0, t7, x1, t9, t10, undef, undef, undef, undef, undef, undef, undef, undef, undef, undef, undef, undef, undef, undef, undef, undef, undef, undef, undef, undef, undef, undef, undef, undef, undef, undef, undef, undef, undef, undef, undef] R X w)
theorem oublietteref19_Writes.b_eq (x0 : Value) (x1 : Value) (R : KV) (X : KX) (w : World) : atP Try.prog Try.f38 oublietteref19_Writes.pl [] [] R X ([x0, x1] ++ undefs 40) w = oublietteref19_Writes.b x0 x1 R X w := by kernel_rfl
theorem oublietteref19_Writes.calls {x0 x1 : Value} {R : KV} {X : KX} {w : World} (h : oublietteref19_Writes.b x0 x1 R X w) : GCalls Try.prog 38 [x0, x1] R X w :=
  gcalls_of (pl := oublietteref19_Writes.pl) Try.func38 rfl (by kernel_rfl) hmixed (oublietteref19_Writes.b_eq x0 x1 R X w ▸ h)

/-! oubliette/trail.Upto -/
def trail_Upto.pl : Nat → DrawPlan
  | _ => ⟨[], .done⟩
def trail_Upto.b (x0 : Value) (x1 : Value) (R : KV) (X : KX) (w : World) : Prop :=
  pLenSl x0 fun t8 =>
  pMin x1 t8 fun t9 =>
  pMax (.int .i64 0) t9 fun t10 =>
  pSl 2 x0 none (some t10) none fun t11 =>
  pCall Try.prog 66 [t11] X w fun t12 w =>
  R t12 w
theorem trail_Upto.b_eq (x0 : Value) (x1 : Value) (R : KV) (X : KX) (w : World) : atP Try.prog Try.f39 trail_Upto.pl [] [] R X ([x0, x1] ++ undefs 11) w = trail_Upto.b x0 x1 R X w := by kernel_rfl
theorem trail_Upto.calls {x0 x1 : Value} {R : KV} {X : KX} {w : World} (h : trail_Upto.b x0 x1 R X w) : GCalls Try.prog 39 [x0, x1] R X w :=
  gcalls_of (pl := trail_Upto.pl) Try.func39 rfl (by kernel_rfl) hmixed (trail_Upto.b_eq x0 x1 R X w ▸ h)

/-! oubliette/trail.Of -/
def trail_Of.pl : Nat → DrawPlan
  | _ => ⟨[], .done⟩
def trail_Of.j1 (x1 : Value) (x4 : Value) (x7 : Value) (x8 : Value) (x9 : Value) (g : Nat → Value) (N1 : List Value → World → Prop) (R : KV) (X : KX) (w : World) : Prop :=
  pBinI .add .i64 x9 (.int .i64 1) fun t23 =>
  N1 [(g 0), x1, (g 2), (g 3), x4, (g 5), (g 6), x7, x8, t23, (g 10), (g 11), (g 12), (g 13), (g 14), (g 15), (g 16), (g 17), (g 18), (g 19), (g 20), (g 21), (g 22), t23, (g 24)] w
def trail_Of.b1 (x1 : Value) (x4 : Value) (x7 : Value) (x8 : Value) (x9 : Value) (g : Nat → Value) (N1 : List Value → World → Prop) (R : KV) (X : KX) (w : World) : Prop :=
  pBinI .lss .i64 x9 x8 fun t10 =>
  scond t10
  (pIA 2 x7 x9 fun t11 =>
    pLdN (· = w) 2 t11 fun t12 =>
    pBox 55 (.agg #[.int .i64 0, .slice none 0 0]) w fun t6 w =>
    pStN 2 t6 t12 w fun _ w =>
    pFA 0 t6 fun t13 =>
    pLd (· = w) t13 fun t14 =>
    pBinI .eql .i64 t14 x1 fun t16 =>
    scond t16
    (pFA 1 t6 fun t18 =>
      pLd (· = w) t18 fun t19 =>
      pCall Try.prog 65 [t19] X w fun t20 w =>
      pBSlice 23 1 (rowOf [.slice none 0 0] 1) [(0, 1, t20)] w fun t21 w =>
      pApp 23 1 24 [.slice none 0 0] x4 t21 w fun t22 w =>
      trail_Of.j1 x1 t22 x7 x8 x9 (fun i => nth [(g 0), x1, (g 2), (g 3), t22, (g 5), t6, x7, x8, x9, t10, t11, t12, t13, t14, x1, t16, x4, t18, t19, t20, t21, t22, (g 23), (g 24)] i) N1 R X w)
    (trail_Of.j1 x1 x4 x7 x8 x9 (fun i => nth [(g 0), x1, (g 2), (g 3), x4, (g 5), t6, x7, x8, x9, t10, t11, t12, t13, t14, x1, t16, (g 17), (g 18), (g 19), (g 20), (g 21), (g 22), (g 23), (g 24)] i) N1 R X w))
  (R x4 w)
def trail_Of.I1 (e : List Value) (R : KV) (X : KX) (w : World) : Prop := atP Try.prog Try.f42 trail_Of.pl [1, 0, 1, 0] [] R X e w
theorem trail_Of.I1_eq (e : List Value) (R : KV) (X : KX) (w : World) : trail_Of.I1 e R X w = loopS (fun N e w => atP Try.prog Try.f42 trail_Of.pl [1, 0, 1, 0, 0] [N] R X e w) e w := by kernel_rfl
def trail_Of.fr1 (x1 : Value) (x4 : Value) (x7 : Value) (x8 : Value) (x9 : Value) (g : Nat → Value) : List Value := [g 0, x1, g 2, g 3, x4, g 5, g 6, x7, x8, x9, g 10, g 11, g 12, g 13, g 14, g 15, g 16, g 17, g 18, g 19, g 20, g 21, g 22, g 23, g 24]
theorem trail_Of.b1_eq (x1 : Value) (x4 : Value) (x7 : Value) (x8 : Value) (x9 : Value) (g : Nat → Value) (N1 : List Value → World → Prop) (R : KV) (X : KX) (w : World) : atP Try.prog Try.f42 trail_Of.pl [1, 0, 1, 0, 0] [N1] R X (trail_Of.fr1 x1 x4 x7 x8 x9 g) w = trail_Of.b1 x1 x4 x7 x8 x9 g N1 R X w := by kernel_rfl
/-- What a round of this loop hands on. -/
def trail_Of.N1 (J : Value → Value → World → Prop) (m : Value → Value → World → Nat) (x1 : Value) (x7 : Value) (x8 : Value) (x4 : Value) (x9 : Value) (w : World) : List Value → World → Prop := fun e w' => (∃ y4 y9 g, e = trail_Of.fr1 x1 y4 x7 x8 y9 g ∧ J y4 y9 w') ∧ m (nth e 4) (nth e 9) w' < m x4 x9 w
theorem trail_Of.leaf1 {J : Value → Value → World → Prop} {m : Value → Value → World → Nat} {x1 : Value} {x4 : Value} {x7 : Value} {x8 : Value} {x9 : Value} {w w' : World} {e0 e2 e3 e4 e5 e6 e9 e10 e11 e12 e13 e14 e15 e16 e17 e18 e19 e20 e21 e22 e23 e24 : Value} (h : J e4 e9 w') (hm : m e4 e9 w' < m x4 x9 w) : trail_Of.N1 J m x1 x7 x8 x4 x9 w [e0, x1, e2, e3, e4, e5, e6, x7, x8, e9, e10, e11, e12, e13, e14, e15, e16, e17, e18, e19, e20, e21, e22, e23, e24] w' :=
  ⟨⟨e4, e9, (fun i => nth [e0, x1, e2, e3, e4, e5, e6, x7, x8, e9, e10, e11, e12, e13, e14, e15, e16, e17, e18, e19, e20, e21, e22, e23, e24] i), rfl, h⟩, hm⟩
theorem trail_Of.loop1 (J : Value → Value → World → Prop) (m : Value → Value → World → Nat) {R : KV} {X : KX} {w : World} {x1 : Value} {x7 : Value} {x8 : Value} {e0 e2 e3 e4 e5 e6 e9 e10 e11 e12 e13 e14 e15 e16 e17 e18 e19 e20 e21 e22 e23 e24 : Value} (h0 : J e4 e9 w)
    (hr : ∀ x4 x9 g w, J x4 x9 w → trail_Of.b1 x1 x4 x7 x8 x9 g (trail_Of.N1 J m x1 x7 x8 x4 x9 w) R X w) : trail_Of.I1 [e0, x1, e2, e3, e4, e5, e6, x7, x8, e9, e10, e11, e12, e13, e14, e15, e16, e17, e18, e19, e20, e21, e22, e23, e24] R X w := by
  rw [trail_Of.I1_eq]
  refine ⟨fun e w => ∃ y4 y9 g, e = trail_Of.fr1 x1 y4 x7 x8 y9 g ∧ J y4 y9 w, fun e w => m (nth e 4) (nth e 9) w, ⟨e4, e9, (fun i => nth [e0, x1, e2, e3, e4, e5, e6, x7, x8, e9, e10, e11, e12, e13, e14, e15, e16, e17, e18, e19, e20, e21, e22, e23, e24] i), rfl, h0⟩, ?_⟩
  rintro _ w ⟨y4, y9, g, rfl, hJ⟩
  rw [trail_Of.b1_eq]
  exact hr y4 y9 g w hJ
def trail_Of.b (x0 : Value) (x1 : Value) (R : KV) (X : KX) (w : World) : Prop :=
  pLenSl x0 fun t8 =>
  trail_Of.I1 [x0, x1, undef, undef, (.slice none 0 0), undef, undef, x0, t8, (.int .i64 0), undef, undef, undef, undef, undef, undef, undef, undef, undef, undef, undef, undef, undef, undef, undef] R X w
theorem trail_Of.b_eq (x0 : Value) (x1 : Value) (R : KV) (X : KX) (w : World) : atP Try.prog Try.f42 trail_Of.pl [] [] R X ([x0, x1] ++ undefs 23) w = trail_Of.b x0 x1 R X w := by kernel_rfl
theorem trail_Of.calls {x0 x1 : Value} {R : KV} {X : KX} {w : World} (h : trail_Of.b x0 x1 R X w) : GCalls Try.prog 42 [x0, x1] R X w :=
  gcalls_of (pl := trail_Of.pl) Try.func42 rfl (by kernel_rfl) hmixed (trail_Of.b_eq x0 x1 R X w ▸ h)

/-! oubliette/oublietteref20.Of -/
def oublietteref20_Of.pl : Nat → DrawPlan
  | _ => ⟨[], .done⟩
def oublietteref20_Of.j1 (x0 : Value) (x1 : Value) (x5 : Value) (x6 : Value) (g : Nat → Value) (N1 : List Value → World → Prop) (R : KV) (X : KX) (w : World) : Prop :=
  pBinI .add .i64 x6 (.int .i64 1) fun t12 =>
  N1 [x0, x1, (g 2), (g 3), (g 4), x5, t12, (g 7), (g 8), (g 9), (g 10), x6, t12, (g 13), (g 14), (g 15), (g 16), (g 17), (g 18), (g 19), (g 20), (g 21), (g 22), (g 23), (g 24), (g 25), (g 26), (g 27), (g 28)] w
def oublietteref20_Of.b1 (x0 : Value) (x1 : Value) (x5 : Value) (x6 : Value) (g : Nat → Value) (N1 : List Value → World → Prop) (R : KV) (X : KX) (w : World) : Prop :=
  pLenSl x0 fun t9 =>
  pBinI .lss .i64 x6 t9 fun t10 =>
  scond t10
  (pIA 2 x0 x6 fun t15 =>
    pFA 0 t15 fun t16 =>
    pLd (· = w) t16 fun t17 =>
    pBinI .eql .i64 t17 x1 fun t19 =>
    scond t19
    (pIA 2 x0 x6 fun t23 =>
      pFA 1 t23 fun t24 =>
      pLd (· = w) t24 fun t25 =>
      pBSlice 23 1 (rowOf [.slice none 0 0] 1) [(0, 1, t25)] w fun t26 w =>
      pApp 23 1 24 [.slice none 0 0] x5 t26 w fun t27 w =>
      oublietteref20_Of.j1 x0 x1 t27 x6 (fun i => nth [x0, x1, (g 2), (g 3), (g 4), t27, x6, x6, x0, t9, t10, (g 11), (g 12), x0, x6, t15, t16, t17, x1, t19, x5, x0, x6, t23, t24, t25, t26, t27, (g 28)] i) N1 R X w)
    (oublietteref20_Of.j1 x0 x1 x5 x6 (fun i => nth [x0, x1, (g 2), (g 3), (g 4), x5, x6, x6, x0, t9, t10, (g 11), (g 12), x0, x6, t15, t16, t17, x1, t19, (g 20), (g 21), (g 22), (g 23), (g 24), (g 25), (g 26), (g 27), (g 28)] i) N1 R X w))
  (R x5 w)
def oublietteref20_Of.I1 (e : List Value) (R : KV) (X : KX) (w : World) : Prop := atP Try.prog Try.f43 oublietteref20_Of.pl [1, 1, 0, 1, 0] [] R X e w
theorem oublietteref20_Of.I1_eq (e : List Value) (R : KV) (X : KX) (w : World) : oublietteref20_Of.I1 e R X w = loopS (fun N e w => atP Try.prog Try.f43 oublietteref20_Of.pl [1, 1, 0, 1, 0, 0] [N] R X e w) e w := by kernel_rfl
def oublietteref20_Of.fr1 (x0 : Value) (x1 : Value) (x5 : Value) (x6 : Value) (g : Nat → Value) : List Value := [x0, x1, g 2, g 3, g 4, x5, x6, g 7, g 8, g 9, g 10, g 11, g 12, g 13, g 14, g 15, g 16, g 17, g 18, g 19, g 20, g 21, g 22, g 23, g 24, g 25, g 26, g 27, g 28]
theorem oublietteref20_Of.b1_eq (x0 : Value) (x1 : Value) (x5 : Value) (x6 : Value) (g : Nat → Value) (N1 : List Value → World → Prop) (R : KV) (X : KX) (w : World) : atP Try.prog Try.f43 oublietteref20_Of.pl [1, 1, 0, 1, 0, 0] [N1] R X (oublietteref20_Of.fr1 x0 x1 x5 x6 g) w = oublietteref20_Of.b1 x0 x1 x5 x6 g N1 R X w := by kernel_rfl
/-- What a round of this loop hands on. -/
def oublietteref20_Of.N1 (J : Value → Value → World → Prop) (m : Value → Value → World → Nat) (x0 : Value) (x1 : Value) (x5 : Value) (x6 : Value) (w : World) : List Value → World → Prop := fun e w' => (∃ y5 y6 g, e = oublietteref20_Of.fr1 x0 x1 y5 y6 g ∧ J y5 y6 w') ∧ m (nth e 5) (nth e 6) w' < m x5 x6 w
theorem oublietteref20_Of.leaf1 {J : Value → Value → World → Prop} {m : Value → Value → World → Nat} {x0 : Value} {x1 : Value} {x5 : Value} {x6 : Value} {w w' : World} {e2 e3 e4 e5 e6 e7 e8 e9 e10 e11 e12 e13 e14 e15 e16 e17 e18 e19 e20 e21 e22 e23 e24 e25 e26 e27 e28 : Value} (h : J e5 e6 w') (hm : m e5 e6 w' < m x5 x6 w) : oublietteref20_Of.N1 J m x0 x1 x5 x6 w [x0, x1, e2, e3, e4, e5, e6, e7, e8, e9, e10, e11, e12, e13, e14, e15, e16, e17, e18, e19, e20, e21, e22, e23, e24, e25, e26, e27, e28] w' :=
  ⟨⟨e5, e6, (fun i => nth [x0, x1, e2, e3, e4, e5, e6, e7, e8, e9, e10, e11, e12, e13, e14, e15, e16, e17, e18, e19, e20, e21, e22, e23, e24, e25, e26, e27, e28] i), rfl, h⟩, hm⟩
theorem oublietteref20_Of.loop1 (J : Value → Value → World → Prop) (m : Value → Value → World → Nat) {R : KV} {X : KX} {w : World} {x0 : Value} {x1 : Value} {e2 e3 e4 e5 e6 e7 e8 e9 e10 e11 e12 e13 e14 e15 e16 e17 e18 e19 e20 e21 e22 e23 e24 e25 e26 e27 e28 : Value} (h0 : J e5 e6 w)
    (hr : ∀ x5 x6 g w, J x5 x6 w → oublietteref20_Of.b1 x0 x1 x5 x6 g (oublietteref20_Of.N1 J m x0 x1 x5 x6 w) R X w) : oublietteref20_Of.I1 [x0, x1, e2, e3, e4, e5, e6, e7, e8, e9, e10, e11, e12, e13, e14, e15, e16, e17, e18, e19, e20, e21, e22, e23, e24, e25, e26, e27, e28] R X w := by
  rw [oublietteref20_Of.I1_eq]
  refine ⟨fun e w => ∃ y5 y6 g, e = oublietteref20_Of.fr1 x0 x1 y5 y6 g ∧ J y5 y6 w, fun e w => m (nth e 5) (nth e 6) w, ⟨e5, e6, (fun i => nth [x0, x1, e2, e3, e4, e5, e6, e7, e8, e9, e10, e11, e12, e13, e14, e15, e16, e17, e18, e19, e20, e21, e22, e23, e24, e25, e26, e27, e28] i), rfl, h0⟩, ?_⟩
  rintro _ w ⟨y5, y6, g, rfl, hJ⟩
  rw [oublietteref20_Of.b1_eq]
  exact hr y5 y6 g w hJ
def oublietteref20_Of.b (x0 : Value) (x1 : Value) (R : KV) (X : KX) (w : World) : Prop :=
  oublietteref20_Of.I1 [x0, x1, undef, undef, (.slice none 0 0), (.slice none 0 0), (.int .i64 0), undef, undef, undef, undef, undef, undef, undef, undef, undef, undef, undef, undef, undef, undef, undef, undef, undef, undef, undef, undef, undef, undef] R X w
theorem oublietteref20_Of.b_eq (x0 : Value) (x1 : Value) (R : KV) (X : KX) (w : World) : atP Try.prog Try.f43 oublietteref20_Of.pl [] [] R X ([x0, x1] ++ undefs 27) w = oublietteref20_Of.b x0 x1 R X w := by kernel_rfl
theorem oublietteref20_Of.calls {x0 x1 : Value} {R : KV} {X : KX} {w : World} (h : oublietteref20_Of.b x0 x1 R X w) : GCalls Try.prog 43 [x0, x1] R X w :=
  gcalls_of (pl := oublietteref20_Of.pl) Try.func43 rfl (by kernel_rfl) hmixed (oublietteref20_Of.b_eq x0 x1 R X w ▸ h)

/-! oubliette/oublietteref01.Has -/
def oublietteref01_Has.pl : Nat → DrawPlan
  | _ => ⟨[], .done⟩
def oublietteref01_Has.b1 (x0 : Value) (x1 : Value) (x5 : Value) (g : Nat → Value) (N1 : List Value → World → Prop) (R : KV) (X : KX) (w : World) : Prop :=
  pLenSl x0 fun t8 =>
  pBinI .lss .i64 x5 t8 fun t9 =>
  scond t9
  (pIA 1 x0 x5 fun t14 =>
    pLd (· = w) t14 fun t15 =>
    pBinI .eql .i64 t15 x1 fun t17 =>
    scond t17
    (R (.bool true) w)
    (pBinI .add .i64 x5 (.int .i64 1) fun t11 =>
      N1 [x0, x1, (g 2), (g 3), (g 4), t11, x5, x0, t8, t9, x5, t11, x0, x5, t14, t15, x1, t17] w))
  (R (.bool false) w)
def oublietteref01_Has.I1 (e : List Value) (R : KV) (X : KX) (w : World) : Prop := atP Try.prog Try.f44 oublietteref01_Has.pl [1, 0, 1, 0] [] R X e w
theorem oublietteref01_Has.I1_eq (e : List Value) (R : KV) (X : KX) (w : World) : oublietteref01_Has.I1 e R X w = loopS (fun N e w => atP Try.prog Try.f44 oublietteref01_Has.pl [1, 0, 1, 0, 0] [N] R X e w) e w := by kernel_rfl
def oublietteref01_Has.fr1 (x0 : Value) (x1 : Value) (x5 : Value) (g : Nat → Value) : List Value := [x0, x1, g 2, g 3, g 4, x5, g 6, g 7, g 8, g 9, g 10, g 11, g 12, g 13, g 14, g 15, g 16, g 17]
theorem oublietteref01_Has.b1_eq (x0 : Value) (x1 : Value) (x5 : Value) (g : Nat → Value) (N1 : List Value → World → Prop) (R : KV) (X : KX) (w : World) : atP Try.prog Try.f44 oublietteref01_Has.pl [1, 0, 1, 0, 0] [N1] R X (oublietteref01_Has.fr1 x0 x1 x5 g) w = oublietteref01_Has.b1 x0 x1 x5 g N1 R X w := by kernel_rfl
/-- What a round of this loop hands on. -/
def oublietteref01_Has.N1 (J : Value → World → Prop) (m : Value → World → Nat) (x0 : Value) (x1 : Value) (x5 : Value) (w : World) : List Value → World → Prop := fun e w' => (∃ y5 g, e = oublietteref01_Has.fr1 x0 x1 y5 g ∧ J y5 w') ∧ m (nth e 5) w' < m x5 w
theorem oublietteref01_Has.leaf1 {J : Value → World → Prop} {m : Value → World → Nat} {x0 : Value} {x1 : Value} {x5 : Value} {w w' : World} {e2 e3 e4 e5 e6 e7 e8 e9 e10 e11 e12 e13 e14 e15 e16 e17 : Value} (h : J e5 w') (hm : m e5 w' < m x5 w) : oublietteref01_Has.N1 J m x0 x1 x5 w [x0, x1, e2, e3, e4, e5, e6, e7, e8, e9, e10, e11, e12, e13, e14, e15, e16, e17] w' :=
  ⟨⟨e5, (fun i => nth [x0, x1, e2, e3, e4, e5, e6, e7, e8, e9, e10, e11, e12, e13, e14, e15, e16, e17] i), rfl, h⟩, hm⟩
theorem oublietteref01_Has.loop1 (J : Value → World → Prop) (m : Value → World → Nat) {R : KV} {X : KX} {w : World} {x0 : Value} {x1 : Value} {e2 e3 e4 e5 e6 e7 e8 e9 e10 e11 e12 e13 e14 e15 e16 e17 : Value} (h0 : J e5 w)
    (hr : ∀ x5 g w, J x5 w → oublietteref01_Has.b1 x0 x1 x5 g (oublietteref01_Has.N1 J m x0 x1 x5 w) R X w) : oublietteref01_Has.I1 [x0, x1, e2, e3, e4, e5, e6, e7, e8, e9, e10, e11, e12, e13, e14, e15, e16, e17] R X w := by
  rw [oublietteref01_Has.I1_eq]
  refine ⟨fun e w => ∃ y5 g, e = oublietteref01_Has.fr1 x0 x1 y5 g ∧ J y5 w, fun e w => m (nth e 5) w, ⟨e5, (fun i => nth [x0, x1, e2, e3, e4, e5, e6, e7, e8, e9, e10, e11, e12, e13, e14, e15, e16, e17] i), rfl, h0⟩, ?_⟩
  rintro _ w ⟨y5, g, rfl, hJ⟩
  rw [oublietteref01_Has.b1_eq]
  exact hr y5 g w hJ
def oublietteref01_Has.b (x0 : Value) (x1 : Value) (R : KV) (X : KX) (w : World) : Prop :=
  oublietteref01_Has.I1 [x0, x1, undef, undef, (.bool false), (.int .i64 0), undef, undef, undef, undef, undef, undef, undef, undef, undef, undef, undef, undef] R X w
theorem oublietteref01_Has.b_eq (x0 : Value) (x1 : Value) (R : KV) (X : KX) (w : World) : atP Try.prog Try.f44 oublietteref01_Has.pl [] [] R X ([x0, x1] ++ undefs 16) w = oublietteref01_Has.b x0 x1 R X w := by kernel_rfl
theorem oublietteref01_Has.calls {x0 x1 : Value} {R : KV} {X : KX} {w : World} (h : oublietteref01_Has.b x0 x1 R X w) : GCalls Try.prog 44 [x0, x1] R X w :=
  gcalls_of (pl := oublietteref01_Has.pl) Try.func44 rfl (by kernel_rfl) hmixed (oublietteref01_Has.b_eq x0 x1 R X w ▸ h)

/-! oubliette/num.Same -/
def num_Same.pl : Nat → DrawPlan
  | _ => ⟨[], .done⟩
def num_Same.b (x0 : Value) (x1 : Value) (R : KV) (X : KX) (w : World) : Prop :=
  pCall Try.prog 76 [x0, x1] X w fun t7 w =>
  R t7 w
theorem num_Same.b_eq (x0 : Value) (x1 : Value) (R : KV) (X : KX) (w : World) : atP Try.prog Try.f52 num_Same.pl [] [] R X ([x0, x1] ++ undefs 6) w = num_Same.b x0 x1 R X w := by kernel_rfl
theorem num_Same.calls {x0 x1 : Value} {R : KV} {X : KX} {w : World} (h : num_Same.b x0 x1 R X w) : GCalls Try.prog 52 [x0, x1] R X w :=
  gcalls_of (pl := num_Same.pl) Try.func52 rfl (by kernel_rfl) hmixed (num_Same.b_eq x0 x1 R X w ▸ h)

/-! slices.Concat[[]byte,byte] -/
def slices_Concat_byte_byte.pl : Nat → DrawPlan
  | _ => ⟨[], .done⟩
def slices_Concat_byte_byte.b2 (x6 : Value) (x25 : Value) (x26 : Value) (x27 : Value) (g : Nat → Value) (N1 : List Value → World → Prop) (R : KV) (X : KX) (w : World) : Prop :=
  pBinI .lss .i64 x27 x26 fun t28 =>
  scond t28
  (pIA 1 x25 x27 fun t29 =>
    pLd (· = w) t29 fun t30 =>
    pApp 5 1 1 [.int .u8 0] x6 t30 w fun t33 w =>
    pBinI .add .i64 x27 (.int .i64 1) fun t34 =>
    N1 [(g 0), (g 1), (g 2), (g 3), (g 4), (g 5), t33, (g 7), t30, (g 9), (g 10), (g 11), (g 12), (g 13), (g 14), (g 15), (g 16), (g 17), (g 18), (g 19), (g 20), (g 21), (g 22), (g 23), (g 24), x25, x26, t34, t28, t29, t30, x6, t30, t33, t34, (g 35)] w)
  (R x6 w)
def slices_Concat_byte_byte.I2 (e : List Value) (R : KV) (X : KX) (w : World) : Prop := atP Try.prog Try.f53 slices_Concat_byte_byte.pl [1, 1, 1, 1, 0, 1, 0] [] R X e w
theorem slices_Concat_byte_byte.I2_eq (e : List Value) (R : KV) (X : KX) (w : World) : slices_Concat_byte_byte.I2 e R X w = loopS (fun N e w => atP Try.prog Try.f53 slices_Concat_byte_byte.pl [1, 1, 1, 1, 0, 1, 0, 0] [N] R X e w) e w := by kernel_rfl
def slices_Concat_byte_byte.fr2 (x6 : Value) (x25 : Value) (x26 : Value) (x27 : Value) (g : Nat → Value) : List Value := [g 0, g 1, g 2, g 3, g 4, g 5, x6, g 7, g 8, g 9, g 10, g 11, g 12, g 13, g 14, g 15, g 16, g 17, g 18, g 19, g 20, g 21, g 22, g 23, g 24, x25, x26, x27, g 28, g 29, g 30, g 31, g 32, g 33, g 34, g 35]
theorem slices_Concat_byte_byte.b2_eq (x6 : Value) (x25 : Value) (x26 : Value) (x27 : Value) (g : Nat → Value) (N1 : List Value → World → Prop) (R : KV) (X : KX) (w : World) : atP Try.prog Try.f53 slices_Concat_byte_byte.pl [1, 1, 1, 1, 0, 1, 0, 0] [N1] R X (slices_Concat_byte_byte.fr2 x6 x25 x26 x27 g) w = slices_Concat_byte_byte.b2 x6 x25 x26 x27 g N1 R X w := by kernel_rfl
/-- What a round of this loop hands on. -/
def slices_Concat_byte_byte.N2 (J : Value → Value → World → Prop) (m : Value → Value → World → Nat) (x25 : Value) (x26 : Value) (x6 : Value) (x27 : Value) (w : World) : List Value → World → Prop := fun e w' => (∃ y6 y27 g, e = slices_Concat_byte_byte.fr2 y6 x25 x26 y27 g ∧ J y6 y27 w') ∧ m (nth e 6) (nth e 27) w' < m x6 x27 w
theorem slices_Concat_byte_byte.leaf2 {J : Value → Value → World → Prop} {m : Value → Value → World → Nat} {x6 : Value} {x25 : Value} {x26 : Value} {x27 : Value} {w w' : World} {e0 e1 e2 e3 e4 e5 e6 e7 e8 e9 e10 e11 e12 e13 e14 e15 e16 e17 e18 e19 e20 e21 e22 e23 e24 e27 e28 e29 e30 e31 e32 e33 e34 e35 : Value} (h : J e6 e27 w') (hm : m e6 e27 w' < m x6 x27 w) : slices_Concat_byte_byte.N2 J m x25 x26 x6 x27 w [e0, e1, e2, e3, e4, e5, e6, e7, e8, e9, e10, e11, e12, e13, e14, e15, e16, e17, e18, e19, e20, e21, e22, e23, e24, x25, x26, e27, e28, e29, e30, e31, e32, e33, e34, e35] w' :=
  ⟨⟨e6, e27, (fun i => nth [e0, e1, e2, e3, e4, e5, e6, e7, e8, e9, e10, e11, e12, e13, e14, e15, e16, e17, e18, e19, e20, e21, e22, e23, e24, x25, x26, e27, e28, e29, e30, e31, e32, e33, e34, e35] i), rfl, h⟩, hm⟩
theorem slices_Concat_byte_byte.loop2 (J : Value → Value → World → Prop) (m : Value → Value → World → Nat) {R : KV} {X : KX} {w : World} {x25 : Value} {x26 : Value} {e0 e1 e2 e3 e4 e5 e6 e7 e8 e9 e10 e11 e12 e13 e14 e15 e16 e17 e18 e19 e20 e21 e22 e23 e24 e27 e28 e29 e30 e31 e32 e33 e34 e35 : Value} (h0 : J e6 e27 w)
    (hr : ∀ x6 x27 g w, J x6 x27 w → slices_Concat_byte_byte.b2 x6 x25 x26 x27 g (slices_Concat_byte_byte.N2 J m x25 x26 x6 x27 w) R X w) : slices_Concat_byte_byte.I2 [e0, e1, e2, e3, e4, e5, e6, e7, e8, e9, e10, e11, e12, e13, e14, e15, e16, e17, e18, e19, e20, e21, e22, e23, e24, x25, x26, e27, e28, e29, e30, e31, e32, e33, e34, e35] R X w := by
  rw [slices_Concat_byte_byte.I2_eq]
  refine ⟨fun e w => ∃ y6 y27 g, e = slices_Concat_byte_byte.fr2 y6 x25 x26 y27 g ∧ J y6 y27 w, fun e w => m (nth e 6) (nth e 27) w, ⟨e6, e27, (fun i => nth [e0, e1, e2, e3, e4, e5, e6, e7, e8, e9, e10, e11, e12, e13, e14, e15, e16, e17, e18, e19, e20, e21, e22, e23, e24, x25, x26, e27, e28, e29, e30, e31, e32, e33, e34, e35] i), rfl, h0⟩, ?_⟩
  rintro _ w ⟨y6, y27, g, rfl, hJ⟩
  rw [slices_Concat_byte_byte.b2_eq]
  exact hr y6 y27 g w hJ
def slices_Concat_byte_byte.b1 (x0 : Value) (x3 : Value) (x9 : Value) (x10 : Value) (x11 : Value) (g : Nat → Value) (N1 : List Value → World → Prop) (R : KV) (X : KX) (w : World) : Prop :=
  pBinI .lss .i64 x11 x10 fun t12 =>
  scond t12
  (pIA 1 x9 x11 fun t13 =>
    pLd (· = w) t13 fun t14 =>
    pLenSl t14 fun t17 =>
    pBinI .add .i64 x3 t17 fun t18 =>
    pBinI .lss .i64 t18 (.int .i64 0) fun t20 =>
    scond t20
    (pPanic (.iface 9 (.string ⟨#[108, 101, 110, 32, 111, 117, 116, 32, 111, 102, 32, 114, 97, 110, 103, 101]⟩)) X w)
    (pBinI .add .i64 x11 (.int .i64 1) fun t22 =>
      N1 [x0, (g 1), (g 2), t18, (g 4), t14, (g 6), (g 7), (g 8), x9, x10, t22, t12, t13, t14, x3, t14, t17, t18, t18, t20, (g 21), t22, (g 23), (g 24), (g 25), (g 26), (g 27), (g 28), (g 29), (g 30), (g 31), (g 32), (g 33), (g 34), (g 35)] w))
  (pCall Try.prog 77 [(.slice none 0 0), x3] X w fun t24 w =>
    pLenSl x0 fun t26 =>
    slices_Concat_byte_byte.I2 [x0, (g 1), (g 2), x3, (g 4), (g 5), t24, (g 7), (g 8), x9, x10, x11, t12, (g 13), (g 14), (g 15), (g 16), (g 17), (g 18), (g 19), (g 20), (g 21), (g 22), x3, t24, x0, t26, (.int .i64 0), (g 28), (g 29), (g 30), (g 31), (g 32), (g 33), (g 34), (g 35)] R X w)
def slices_Concat_byte_byte.I1 (e : List Value) (R : KV) (X : KX) (w : World) : Prop := atP Try.prog Try.f53 slices_Concat_byte_byte.pl [1, 1, 0, 1, 0] [] R X e w
theorem slices_Concat_byte_byte.I1_eq (e : List Value) (R : KV) (X : KX) (w : World) : slices_Concat_byte_byte.I1 e R X w = loopS (fun N e w => atP Try.prog Try.f53 slices_Concat_byte_byte.pl [1, 1, 0, 1, 0, 0] [N] R X e w) e w := by kernel_rfl
def slices_Concat_byte_byte.fr1 (x0 : Value) (x3 : Value) (x9 : Value) (x10 : Value) (x11 : Value) (g : Nat → Value) : List Value := [x0, g 1, g 2, x3, g 4, g 5, g 6, g 7, g 8, x9, x10, x11, g 12, g 13, g 14, g 15, g 16, g 17, g 18, g 19, g 20, g 21, g 22, g 23, g 24, g 25, g 26, g 27, g 28, g 29, g 30, g 31, g 32, g 33, g 34, g 35]
theorem slices_Concat_byte_byte.b1_eq (x0 : Value) (x3 : Value) (x9 : Value) (x10 : Value) (x11 : Value) (g : Nat → Value) (N1 : List Value → World → Prop) (R : KV) (X : KX) (w : World) : atP Try.prog Try.f53 slices_Concat_byte_byte.pl [1, 1, 0, 1, 0, 0] [N1] R X (slices_Concat_byte_byte.fr1 x0 x3 x9 x10 x11 g) w = slices_Concat_byte_byte.b1 x0 x3 x9 x10 x11 g N1 R X w := by kernel_rfl
/-- What a round of this loop hands on. -/
def slices_Concat_byte_byte.N1 (J : Value → Value → World → Prop) (m : Value → Value → World → Nat) (x0 : Value) (x9 : Value) (x10 : Value) (x3 : Value) (x11 : Value) (w : World) : List Value → World → Prop := fun e w' => (∃ y3 y11 g, e = slices_Concat_byte_byte.fr1 x0 y3 x9 x10 y11 g ∧ J y3 y11 w') ∧ m (nth e 3) (nth e 11) w' < m x3 x11 w
theorem slices_Concat_byte_byte.leaf1 {J : Value → Value → World → Prop} {m : Value → Value → World → Nat} {x0 : Value} {x3 : Value} {x9 : Value} {x10 : Value} {x11 : Value} {w w' : World} {e1 e2 e3 e4 e5 e6 e7 e8 e11 e12 e13 e14 e15 e16 e17 e18 e19 e20 e21 e22 e23 e24 e25 e26 e27 e28 e29 e30 e31 e32 e33 e34 e35 : Value} (h : J e3 e11 w') (hm : m e3 e11 w' < m x3 x11 w) : slices_Concat_byte_byte.N1 J m x0 x9 x10 x3 x11 w [x0, e1, e2, e3, e4, e5, e6, e7, e8, x9, x10, e11, e12, e13, e14, e15, e16, e17, e18, e19, e20, e21, e22, e23, e24, e25, e26, e27, e28, e29, e30, e31, e32, e33, e34, e35] w' :=
  ⟨⟨e3, e11, (fun i => nth [x0, e1, e2, e3, e4, e5, e6, e7, e8, x9, x10, e11, e12, e13, e14, e15, e16, e17, e18, e19, e20, e21, e22, e23, e24, e25, e26, e27, e28, e29, e30, e31, e32, e33, e34, e35] i), rfl, h⟩, hm⟩
theorem slices_Concat_byte_byte.loop1 (J : Value → Value → World → Prop) (m : Value → Value → World → Nat) {R : KV} {X : KX} {w : World} {x0 : Value} {x9 : Value} {x10 : Value} {e1 e2 e3 e4 e5 e6 e7 e8 e11 e12 e13 e14 e15 e16 e17 e18 e19 e20 e21 e22 e23 e24 e25 e26 e27 e28 e29 e30 e31 e32 e33 e34 e35 : Value} (h0 : J e3 e11 w)
    (hr : ∀ x3 x11 g w, J x3 x11 w → slices_Concat_byte_byte.b1 x0 x3 x9 x10 x11 g (slices_Concat_byte_byte.N1 J m x0 x9 x10 x3 x11 w) R X w) : slices_Concat_byte_byte.I1 [x0, e1, e2, e3, e4, e5, e6, e7, e8, x9, x10, e11, e12, e13, e14, e15, e16, e17, e18, e19, e20, e21, e22, e23, e24, e25, e26, e27, e28, e29, e30, e31, e32, e33, e34, e35] R X w := by
  rw [slices_Concat_byte_byte.I1_eq]
  refine ⟨fun e w => ∃ y3 y11 g, e = slices_Concat_byte_byte.fr1 x0 y3 x9 x10 y11 g ∧ J y3 y11 w, fun e w => m (nth e 3) (nth e 11) w, ⟨e3, e11, (fun i => nth [x0, e1, e2, e3, e4, e5, e6, e7, e8, x9, x10, e11, e12, e13, e14, e15, e16, e17, e18, e19, e20, e21, e22, e23, e24, e25, e26, e27, e28, e29, e30, e31, e32, e33, e34, e35] i), rfl, h0⟩, ?_⟩
  rintro _ w ⟨y3, y11, g, rfl, hJ⟩
  rw [slices_Concat_byte_byte.b1_eq]
  exact hr y3 y11 g w hJ
def slices_Concat_byte_byte.b (x0 : Value) (R : KV) (X : KX) (w : World) : Prop :=
  pLenSl x0 fun t10 =>
  slices_Concat_byte_byte.I1 [x0, undef, (.slice none 0 0), (.int .i64 0), undef, undef, undef, undef, undef, x0, t10, (.int .i64 0), undef, undef, undef, undef, undef, undef, undef, undef, undef, undef, undef, undef, undef, undef, undef, undef, undef, undef, undef, undef, undef, undef, undef, undef] R X w
theorem slices_Concat_byte_byte.b_eq (x0 : Value) (R : KV) (X : KX) (w : World) : atP Try.prog Try.f53 slices_Concat_byte_byte.pl [] [] R X ([x0] ++ undefs 35) w = slices_Concat_byte_byte.b x0 R X w := by kernel_rfl
theorem slices_Concat_byte_byte.calls {x0 : Value} {R : KV} {X : KX} {w : World} (h : slices_Concat_byte_byte.b x0 R X w) : GCalls Try.prog 53 [x0] R X w :=
  gcalls_of (pl := slices_Concat_byte_byte.pl) Try.func53 rfl (by kernel_rfl) hmixed (slices_Concat_byte_byte.b_eq x0 R X w ▸ h)

/-! oubliette/oublietteref01.Mod -/
def oublietteref01_Mod.pl : Nat → DrawPlan
  | _ => ⟨[], .done⟩
def oublietteref01_Mod.b (x0 : Value) (x1 : Value) (R : KV) (X : KX) (w : World) : Prop :=
  pBinI .lss .i64 x1 (.int .i64 1) fun t7 =>
  scond t7
  (R (.int .i64 0) w)
  (pDiv .rem .i64 x0 x1 fun t10 =>
    pBinI .lss .i64 t10 (.int .i64 0) fun t12 =>
    scond t12
    (pBinI .add .i64 t10 x1 fun t15 =>
      R t15 w)
    (R t10 w))
theorem oublietteref01_Mod.b_eq (x0 : Value) (x1 : Value) (R : KV) (X : KX) (w : World) : atP Try.prog Try.f54 oublietteref01_Mod.pl [] [] R X ([x0, x1] ++ undefs 15) w = oublietteref01_Mod.b x0 x1 R X w := by kernel_rfl
theorem oublietteref01_Mod.calls {x0 x1 : Value} {R : KV} {X : KX} {w : World} (h : oublietteref01_Mod.b x0 x1 R X w) : GCalls Try.prog 54 [x0, x1] R X w :=
  gcalls_of (pl := oublietteref01_Mod.pl) Try.func54 rfl (by kernel_rfl) hmixed (oublietteref01_Mod.b_eq x0 x1 R X w ▸ h)

/-! oubliette/oublietteref01.Join -/
def oublietteref01_Join.pl : Nat → DrawPlan
  | _ => ⟨[], .done⟩
def oublietteref01_Join.b (x0 : Value) (x1 : Value) (R : KV) (X : KX) (w : World) : Prop :=
  pApp 5 1 1 [.int .u8 0] (.slice none 0 0) x0 w fun t8 w =>
  pApp 5 1 1 [.int .u8 0] t8 x1 w fun t11 w =>
  R t11 w
theorem oublietteref01_Join.b_eq (x0 : Value) (x1 : Value) (R : KV) (X : KX) (w : World) : atP Try.prog Try.f55 oublietteref01_Join.pl [] [] R X ([x0, x1] ++ undefs 10) w = oublietteref01_Join.b x0 x1 R X w := by kernel_rfl
theorem oublietteref01_Join.calls {x0 x1 : Value} {R : KV} {X : KX} {w : World} (h : oublietteref01_Join.b x0 x1 R X w) : GCalls Try.prog 55 [x0, x1] R X w :=
  gcalls_of (pl := oublietteref01_Join.pl) Try.func55 rfl (by kernel_rfl) hmixed (oublietteref01_Join.b_eq x0 x1 R X w ▸ h)

/-! oubliette/trail.Image$1 -/
def trail_Image_c1.pl : Nat → DrawPlan
  | _ => ⟨[], .done⟩
def trail_Image_c1.b (x0 : Value) (x1 : Value) (R : KV) (X : KX) (w : World) : Prop :=
  pBinI .geq .i64 x0 (.int .i64 0) fun t5 =>
  gIf t5 true (fun K => K x0) fun t7 =>
  gIf t5 true (fun K => pLd (· = w) x1 K) fun t8 =>
  gIf t5 true (fun K => pBinI .lss .i64 t7 t8 K) fun t9 =>
  pPick t5 t9 (.bool false) fun t10 =>
  R t10 w
theorem trail_Image_c1.b_eq (x0 : Value) (x1 : Value) (R : KV) (X : KX) (w : World) : atP Try.prog Try.f64 trail_Image_c1.pl [] [] R X ([x0, x1] ++ undefs 9) w = trail_Image_c1.b x0 x1 R X w := by kernel_rfl
theorem trail_Image_c1.calls {x0 x1 : Value} {R : KV} {X : KX} {w : World} (h : trail_Image_c1.b x0 x1 R X w) : GCalls Try.prog 64 [x0, x1] R X w :=
  gcalls_of (pl := trail_Image_c1.pl) Try.func64 rfl (by kernel_rfl) hmixed (trail_Image_c1.b_eq x0 x1 R X w ▸ h)

/-! slices.Clone[[]byte,byte] -/
def slices_Clone_byte_byte.pl : Nat → DrawPlan
  | _ => ⟨[], .done⟩
def slices_Clone_byte_byte.b (x0 : Value) (R : KV) (X : KX) (w : World) : Prop :=
  pEq .sl false x0 (.slice none 0 0) fun t4 =>
  scond t4
  (R (.slice none 0 0) w)
  (pBSlice 5 0 (rowOf [.int .u8 0] 0) [] w fun t5 w =>
    pApp 5 1 1 [.int .u8 0] t5 x0 w fun t7 w =>
    R t7 w)
theorem slices_Clone_byte_byte.b_eq (x0 : Value) (R : KV) (X : KX) (w : World) : atP Try.prog Try.f65 slices_Clone_byte_byte.pl [] [] R X ([x0] ++ undefs 7) w = slices_Clone_byte_byte.b x0 R X w := by kernel_rfl
theorem slices_Clone_byte_byte.calls {x0 : Value} {R : KV} {X : KX} {w : World} (h : slices_Clone_byte_byte.b x0 R X w) : GCalls Try.prog 65 [x0] R X w :=
  gcalls_of (pl := slices_Clone_byte_byte.pl) Try.func65 rfl (by kernel_rfl) hmixed (slices_Clone_byte_byte.b_eq x0 R X w ▸ h)

/-! oubliette/trail.copied -/
def trail_copied.pl : Nat → DrawPlan
  | 4 => ⟨[([], [8, 9]), ([], [2]), ([1], [1, 6]), ([], [4]), ([3], [3, 5]), ([4], [4, 6]), ([2, 5], [2, 5, 7]), ([6], [6, 8]), ([0, 7, 5], [0, 7, 9]), ([8, 8, 0, 1, 2, 3, 4, 5, 6, 7, 8], [0, 8])], .take 0 (.take 1 (.take 2 (.take 3 (.take 4 (.world 5 false (.take 6 (.world 7 false (.world 8 false (.take 9 (.done)) .none) .none)) .none)))))⟩
  | _ => ⟨[], .done⟩
def trail_copied.b1 (x2 : Value) (x5 : Value) (x6 : Value) (x7 : Value) (g : Nat → Value) (N1 : List Value → World → Prop) (R : KV) (X : KX) (w : World) : Prop :=
  pBinI .lss .i64 x7 x6 fun t8 =>
  scond t8
  (pIA 2 x5 x7 fun t9 =>
    pLdN (· = w) 2 t9 fun t10 =>
    pBox 55 (.agg #[.int .i64 0, .slice none 0 0]) w fun t4 w =>
    pStN 2 t4 t10 w fun _ w =>
    drawn w fun S w =>
    pFA 0 t4 fun t12 =>
    pLd S t12 fun t13 =>
    pFA 1 t4 fun t14 =>
    pLd S t14 fun t15 =>
    pCall Try.prog 65 [t15] X w fun t16 w =>
    S w ∧ (pBuild [.int .i64 0, .slice none 0 0] [(0, 1, t13), (1, 1, t16)] fun t17 =>
      pBSlice 55 1 (rowOf [.int .i64 0, .slice none 0 0] 1) [(0, 2, t17)] w fun t18 w =>
      S w ∧ (pApp 55 2 32 [.int .i64 0, .slice none 0 0] x2 t18 w fun t19 w =>
        S w ∧ (pBinI .add .i64 x7 (.int .i64 1) fun t20 =>
          N1 [(g 0), (g 1), t19, (g 3), t4, x5, x6, t20, t8, t9, t10, x2, t12, t13, t14, t15, t16, t17, t18, t19, t20, (g 21)] w))))
  (R x2 w)
def trail_copied.I1 (e : List Value) (R : KV) (X : KX) (w : World) : Prop := atP Try.prog Try.f66 trail_copied.pl [1, 0, 1, 0] [] R X e w
theorem trail_copied.I1_eq (e : List Value) (R : KV) (X : KX) (w : World) : trail_copied.I1 e R X w = loopS (fun N e w => atP Try.prog Try.f66 trail_copied.pl [1, 0, 1, 0, 0] [N] R X e w) e w := by kernel_rfl
def trail_copied.fr1 (x2 : Value) (x5 : Value) (x6 : Value) (x7 : Value) (g : Nat → Value) : List Value := [g 0, g 1, x2, g 3, g 4, x5, x6, x7, g 8, g 9, g 10, g 11, g 12, g 13, g 14, g 15, g 16, g 17, g 18, g 19, g 20, g 21]
theorem trail_copied.b1_eq (x2 : Value) (x5 : Value) (x6 : Value) (x7 : Value) (g : Nat → Value) (N1 : List Value → World → Prop) (R : KV) (X : KX) (w : World) : atP Try.prog Try.f66 trail_copied.pl [1, 0, 1, 0, 0] [N1] R X (trail_copied.fr1 x2 x5 x6 x7 g) w = trail_copied.b1 x2 x5 x6 x7 g N1 R X w := by kernel_rfl
/-- What a round of this loop hands on. -/
def trail_copied.N1 (J : Value → Value → World → Prop) (m : Value → Value → World → Nat) (x5 : Value) (x6 : Value) (x2 : Value) (x7 : Value) (w : World) : List Value → World → Prop := fun e w' => (∃ y2 y7 g, e = trail_copied.fr1 y2 x5 x6 y7 g ∧ J y2 y7 w') ∧ m (nth e 2) (nth e 7) w' < m x2 x7 w
theorem trail_copied.leaf1 {J : Value → Value → World → Prop} {m : Value → Value → World → Nat} {x2 : Value} {x5 : Value} {x6 : Value} {x7 : Value} {w w' : World} {e0 e1 e2 e3 e4 e7 e8 e9 e10 e11 e12 e13 e14 e15 e16 e17 e18 e19 e20 e21 : Value} (h : J e2 e7 w') (hm : m e2 e7 w' < m x2 x7 w) : trail_copied.N1 J m x5 x6 x2 x7 w [e0, e1, e2, e3, e4, x5, x6, e7, e8, e9, e10, e11, e12, e13, e14, e15, e16, e17, e18, e19, e20, e21] w' :=
  ⟨⟨e2, e7, (fun i => nth [e0, e1, e2, e3, e4, x5, x6, e7, e8, e9, e10, e11, e12, e13, e14, e15, e16, e17, e18, e19, e20, e21] i), rfl, h⟩, hm⟩
theorem trail_copied.loop1 (J : Value → Value → World → Prop) (m : Value → Value → World → Nat) {R : KV} {X : KX} {w : World} {x5 : Value} {x6 : Value} {e0 e1 e2 e3 e4 e7 e8 e9 e10 e11 e12 e13 e14 e15 e16 e17 e18 e19 e20 e21 : Value} (h0 : J e2 e7 w)
    (hr : ∀ x2 x7 g w, J x2 x7 w → trail_copied.b1 x2 x5 x6 x7 g (trail_copied.N1 J m x5 x6 x2 x7 w) R X w) : trail_copied.I1 [e0, e1, e2, e3, e4, x5, x6, e7, e8, e9, e10, e11, e12, e13, e14, e15, e16, e17, e18, e19, e20, e21] R X w := by
  rw [trail_copied.I1_eq]
  refine ⟨fun e w => ∃ y2 y7 g, e = trail_copied.fr1 y2 x5 x6 y7 g ∧ J y2 y7 w, fun e w => m (nth e 2) (nth e 7) w, ⟨e2, e7, (fun i => nth [e0, e1, e2, e3, e4, x5, x6, e7, e8, e9, e10, e11, e12, e13, e14, e15, e16, e17, e18, e19, e20, e21] i), rfl, h0⟩, ?_⟩
  rintro _ w ⟨y2, y7, g, rfl, hJ⟩
  rw [trail_copied.b1_eq]
  exact hr y2 y7 g w hJ
def trail_copied.b (x0 : Value) (R : KV) (X : KX) (w : World) : Prop :=
  pLenSl x0 fun t6 =>
  trail_copied.I1 [x0, undef, (.slice none 0 0), undef, undef, x0, t6, (.int .i64 0), undef, undef, undef, undef, undef, undef, undef, undef, undef, undef, undef, undef, undef, undef] R X w
theorem trail_copied.b_eq (x0 : Value) (R : KV) (X : KX) (w : World) : atP Try.prog Try.f66 trail_copied.pl [] [] R X ([x0] ++ undefs 21) w = trail_copied.b x0 R X w := by kernel_rfl
theorem trail_copied.calls {x0 : Value} {R : KV} {X : KX} {w : World} (h : trail_copied.b x0 R X w) : GCalls Try.prog 66 [x0] R X w :=
  gcalls_of (pl := trail_copied.pl) Try.func66 rfl (by kernel_rfl) hmixed (trail_copied.b_eq x0 R X w ▸ h)

/-! bytes.Equal -/
def bytes_Equal.pl : Nat → DrawPlan
  | _ => ⟨[], .done⟩
def bytes_Equal.b (x0 : Value) (x1 : Value) (R : KV) (X : KX) (w : World) : Prop :=
  pStrOf (· = w) x0 fun t6 =>
  pStrOf (· = w) x1 fun t8 =>
  pBinS .eql t6 t8 fun t9 =>
  R t9 w
theorem bytes_Equal.b_eq (x0 : Value) (x1 : Value) (R : KV) (X : KX) (w : World) : atP Try.prog Try.f76 bytes_Equal.pl [] [] R X ([x0, x1] ++ undefs 8) w = bytes_Equal.b x0 x1 R X w := by kernel_rfl
theorem bytes_Equal.calls {x0 x1 : Value} {R : KV} {X : KX} {w : World} (h : bytes_Equal.b x0 x1 R X w) : GCalls Try.prog 76 [x0, x1] R X w :=
  gcalls_of (pl := bytes_Equal.pl) Try.func76 rfl (by kernel_rfl) hmixed (bytes_Equal.b_eq x0 x1 R X w ▸ h)

/-! slices.Grow[[]byte,byte] -/
def slices_Grow_byte_byte.pl : Nat → DrawPlan
  | _ => ⟨[], .done⟩
def slices_Grow_byte_byte.b (x0 : Value) (x1 : Value) (R : KV) (X : KX) (w : World) : Prop :=
  pBinI .lss .i64 x1 (.int .i64 0) fun t6 =>
  scond t6
  (pPanic (.iface 9 (.string ⟨#[99, 97, 110, 110, 111, 116, 32, 98, 101, 32, 110, 101, 103, 97, 116, 105, 118, 101]⟩)) X w)
  (pCapSl x0 fun t10 =>
    pLenSl x0 fun t12 =>
    pBinI .sub .i64 t10 t12 fun t13 =>
    pBinI .sub .i64 x1 t13 fun t14 =>
    pBinI .gtr .i64 t14 (.int .i64 0) fun t16 =>
    scond t16
    (pCapSl x0 fun t19 =>
      pSl 1 x0 none (some t19) none fun t20 =>
      pAppZ 5 1 1 [.int .u8 0] t20 t14 w fun t22 w =>
      pLenSl x0 fun t24 =>
      pSl 1 t22 none (some t24) none fun t25 =>
      R t25 w)
    (R x0 w))
theorem slices_Grow_byte_byte.b_eq (x0 : Value) (x1 : Value) (R : KV) (X : KX) (w : World) : atP Try.prog Try.f77 slices_Grow_byte_byte.pl [] [] R X ([x0, x1] ++ undefs 25) w = slices_Grow_byte_byte.b x0 x1 R X w := by kernel_rfl
theorem slices_Grow_byte_byte.calls {x0 x1 : Value} {R : KV} {X : KX} {w : World} (h : slices_Grow_byte_byte.b x0 x1 R X w) : GCalls Try.prog 77 [x0, x1] R X w :=
  gcalls_of (pl := slices_Grow_byte_byte.pl) Try.func77 rfl (by kernel_rfl) hmixed (slices_Grow_byte_byte.b_eq x0 x1 R X w ▸ h)
end Go.Proofs.Ytlolomdgchkibaa
