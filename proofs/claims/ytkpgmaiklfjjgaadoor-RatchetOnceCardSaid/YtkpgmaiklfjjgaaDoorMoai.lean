/-
  The functions' own code as conditions on values and worlds; the kernel checks that each is the code's own.
-/
import Derived.Test.YtkpgmaiklfjjgaaDoorMoah
import Derived.Test.YtkpgmaiklfjjgaaDoorProg
section
set_option maxRecDepth 100000
set_option linter.unusedVariables false
namespace Go.Proofs.YtkpgmaiklfjjgaaDoor
open Go.G

/-! oubliette/oubliettelaw14.DrawKeys -/
def oubliettelaw14_DrawKeys.pl : Nat → DrawPlan
  | _ => ⟨[], .done⟩
def oubliettelaw14_DrawKeys.j1 (x0 : Value) (x1 : Value) (x5 : Value) (x6 : Value) (x7 : Value) (x8 : Value) (x9 : Value) (x10 : Value) (g : Nat → Value) (N1 : List Value → World → Prop) (R : KV) (X : KX) (w : World) : Prop :=
  pCall Tryd.prog 16 [x10, x8] X w fun t81 w =>
  pNot t81 fun t82 =>
  gIf t82 false (fun K => K x5) fun t84 =>
  gIfW t82 false (fun w K => pCall Tryd.prog 31 [t84] X w K) w fun t85 w =>
  gIf t82 false (fun K => K x9) fun t86 =>
  gIf t82 false (fun K => pBinI .neq .i64 t85 t86 K) fun t87 =>
  pPick t82 (.bool true) t87 fun t88 =>
  scond t88
  (R (.bool false) w)
  (pBinI .add .i64 x7 (.int .i64 1) fun t28 =>
    N1 [x0, x1, (g 2), (g 3), (g 4), x5, x9, t28, x8, x9, x10, (g 11), (g 12), (g 13), (g 14), (g 15), (g 16), (g 17), (g 18), (g 19), (g 20), (g 21), (g 22), (g 23), (g 24), (g 25), (g 26), x7, t28, (g 29), (g 30), (g 31), (g 32), (g 33), (g 34), (g 35), (g 36), (g 37), (g 38), (g 39), (g 40), (g 41), (g 42), (g 43), (g 44), (g 45), (g 46), (g 47), (g 48), (g 49), (g 50), (g 51), (g 52), (g 53), (g 54), (g 55), (g 56), (g 57), (g 58), (g 59), (g 60), (g 61), (g 62), (g 63), (g 64), (g 65), (g 66), (g 67), (g 68), (g 69), (g 70), (g 71), (g 72), (g 73), (g 74), (g 75), (g 76), (g 77), (g 78), x10, x8, t81, t82, t82, t84, t85, t86, t87, t88, x9, (g 90), (g 91), (g 92), (g 93), (g 94), (g 95), (g 96), (g 97), (g 98), (g 99), (g 100), (g 101), (g 102), (g 103), (g 104), (g 105), (g 106), (g 107), (g 108), (g 109)] w)
def oubliettelaw14_DrawKeys.b1 (x0 : Value) (x1 : Value) (x5 : Value) (x6 : Value) (x7 : Value) (g : Nat → Value) (N1 : List Value → World → Prop) (R : KV) (X : KX) (w : World) : Prop :=
  pLenSl x1 fun t25 =>
  pBinI .lss .i64 x7 t25 fun t26 =>
  scond t26
  (pIA 1 x1 x7 fun t31 =>
    pLd (· = w) t31 fun t32 =>
    pBinI .gtr .i64 t32 (.int .i64 200) fun t33 =>
    gIf t33 true (fun K => K x1) fun t35 =>
    gIf t33 true (fun K => K x7) fun t36 =>
    gIf t33 true (fun K => pIA 1 t35 t36 K) fun t37 =>
    gIf t33 true (fun K => pLd (· = w) t37 K) fun t38 =>
    gIf t33 true (fun K => pBinI .leq .i64 t38 (.int .i64 4096) K) fun t39 =>
    pPick t33 t39 (.bool false) fun t40 =>
    scond t40
    (pCall Tryd.prog 24 [] X w fun t41 w =>
      R t41 w)
    (pIA 1 x1 x7 fun t47 =>
      pLd (· = w) t47 fun t48 =>
      pCall Tryd.prog 26 [x0, x6, t48] X w fun t49 w =>
      pExt t49 0 fun t50 =>
      pExt t49 1 fun t51 =>
      pIA 1 x1 x7 fun t55 =>
      pLd (· = w) t55 fun t56 =>
      pCall Tryd.prog 27 [x5, t56] X w fun t57 w =>
      pIA 1 x1 x7 fun t60 =>
      pLd (· = w) t60 fun t61 =>
      pBinI .eql .i64 t61 (.int .i64 32) fun t62 =>
      scond t62
      (pCall Tryd.prog 28 [x5] X w fun t64 w =>
        pCall Tryd.prog 29 [t64] X w fun t66 w =>
        pCall Tryd.prog 30 [x0, t51] X w fun t69 w =>
        pCall Tryd.prog 16 [t66, t69] X w fun t70 w =>
        pNot t70 fun t71 =>
        gIf t71 false (fun K => K t64) fun t73 =>
        gIfW t71 false (fun w K => pCall Tryd.prog 31 [t73] X w K) w fun t74 w =>
        gIf t71 false (fun K => K t51) fun t75 =>
        gIf t71 false (fun K => pBinI .add .i64 t75 (.int .i64 1) K) fun t76 =>
        gIf t71 false (fun K => pBinI .neq .i64 t74 t76 K) fun t77 =>
        pPick t71 (.bool true) t77 fun t78 =>
        scond t78
        (R (.bool false) w)
        (oubliettelaw14_DrawKeys.j1 x0 x1 x5 x6 x7 t50 t51 t57 (fun i => nth [x0, x1, (g 2), (g 3), (g 4), x5, x6, x7, t50, t51, t57, t64, (g 12), (g 13), (g 14), (g 15), (g 16), (g 17), (g 18), (g 19), (g 20), (g 21), (g 22), x7, x1, t25, t26, (g 27), (g 28), x1, x7, t31, t32, t33, t33, t35, t36, t37, t38, t39, t40, (g 41), t49, x0, x6, x1, x7, t47, t48, t49, t50, t51, x5, x1, x7, t55, t56, t57, x1, x7, t60, t61, t62, x5, t64, t64, t66, x0, t51, t69, t70, t71, t71, t73, t74, t75, t76, t77, t78, (g 79), (g 80), (g 81), (g 82), (g 83), (g 84), (g 85), (g 86), (g 87), (g 88), (g 89), (g 90), (g 91), (g 92), (g 93), (g 94), (g 95), (g 96), (g 97), (g 98), (g 99), (g 100), (g 101), (g 102), (g 103), (g 104), (g 105), (g 106), (g 107), (g 108), (g 109)] i) N1 R X w))
      (oubliettelaw14_DrawKeys.j1 x0 x1 x5 x6 x7 t50 t51 t57 (fun i => nth [x0, x1, (g 2), (g 3), (g 4), x5, x6, x7, t50, t51, t57, (g 11), (g 12), (g 13), (g 14), (g 15), (g 16), (g 17), (g 18), (g 19), (g 20), (g 21), (g 22), x7, x1, t25, t26, (g 27), (g 28), x1, x7, t31, t32, t33, t33, t35, t36, t37, t38, t39, t40, (g 41), t49, x0, x6, x1, x7, t47, t48, t49, t50, t51, x5, x1, x7, t55, t56, t57, x1, x7, t60, t61, t62, (g 63), (g 64), (g 65), (g 66), (g 67), (g 68), (g 69), (g 70), (g 71), (g 72), (g 73), (g 74), (g 75), (g 76), (g 77), (g 78), (g 79), (g 80), (g 81), (g 82), (g 83), (g 84), (g 85), (g 86), (g 87), (g 88), (g 89), (g 90), (g 91), (g 92), (g 93), (g 94), (g 95), (g 96), (g 97), (g 98), (g 99), (g 100), (g 101), (g 102), (g 103), (g 104), (g 105), (g 106), (g 107), (g 108), (g 109)] i) N1 R X w)))
  (pCall Tryd.prog 29 [x5] X w fun t91 w =>
    pCall Tryd.prog 30 [x0, x6] X w fun t94 w =>
    pCall Tryd.prog 16 [t91, t94] X w fun t95 w =>
    gIf t95 true (fun K => K x0) fun t97 =>
    gIf t95 true (fun K => K x1) fun t98 =>
    gIf t95 true (fun K => pLenSl t98 K) fun t99 =>
    gIfW t95 true (fun w K => pCall Tryd.prog 32 [t97, t99] X w K) w fun t100 w =>
    gIf t95 true (fun K => K x0) fun t101 =>
    gIf t95 true (fun K => K x1) fun t102 =>
    gIf t95 true (fun K => pLenSl t102 K) fun t103 =>
    gIfW t95 true (fun w K => pCall Tryd.prog 30 [t101, t103] X w K) w fun t104 w =>
    gIfW t95 true (fun w K => pCall Tryd.prog 16 [t100, t104] X w K) w fun t105 w =>
    pPick t95 t105 (.bool false) fun t106 =>
    gIfW t106 true (fun w K => pCall Tryd.prog 24 [] X w K) w fun t108 w =>
    pPick t106 t108 (.bool false) fun t109 =>
    R t109 w)
def oubliettelaw14_DrawKeys.I1 (e : List Value) (R : KV) (X : KX) (w : World) : Prop := atP Tryd.prog Tryd.f5 oubliettelaw14_DrawKeys.pl [1, 1, 1, 1, 0, 1, 0] [] R X e w
theorem oubliettelaw14_DrawKeys.I1_eq (e : List Value) (R : KV) (X : KX) (w : World) : oubliettelaw14_DrawKeys.I1 e R X w = loopS (fun N e w => atP Tryd.prog Tryd.f5 oubliettelaw14_DrawKeys.pl [1, 1, 1, 1, 0, 1, 0, 0] [N] R X e w) e w := by kernel_rfl
def oubliettelaw14_DrawKeys.fr1 (x0 : Value) (x1 : Value) (x5 : Value) (x6 : Value) (x7 : Value) (g : Nat → Value) : List Value := [x0, x1, g 2, g 3, g 4, x5, x6, x7, g 8, g 9, g 10, g 11, g 12, g 13, g 14, g 15, g 16, g 17, g 18, g 19, g 20, g 21, g 22, g 23, g 24, g 25, g 26, g 27, g 28, g 29, g 30, g 31, g 32, g 33, g 34, g 35, g 36, g 37, g 38, g 39, g 40, g 41, g 42, g 43, g 44, g 45, g 46, g 47, g 48, g 49, g 50, g 51, g 52, g 53, g 54, g 55, g 56, g 57, g 58, g 59, g 60, g 61, g 62, g 63, g 64, g 65, g 66, g 67, g 68, g 69, g 70, g 71, g 72, g 73, g 74, g 75, g 76, g 77, g 78, g 79, g 80, g 81, g 82, g 83, g 84, g 85, g 86, g 87, g 88, g 89, g 90, g 91, g 92, g 93, g 94, g 95, g 96, g 97, g 98, g 99, g 100, g 101, g 102, g 103, g 104, g 105, g 106, g 107, g 108, g 109]
theorem oubliettelaw14_DrawKeys.b1_eq (x0 : Value) (x1 : Value) (x5 : Value) (x6 : Value) (x7 : Value) (g : Nat → Value) (N1 : List Value → World → Prop) (R : KV) (X : KX) (w : World) : atP Tryd.prog Tryd.f5 oubliettelaw14_DrawKeys.pl [1, 1, 1, 1, 0, 1, 0, 0] [N1] R X (oubliettelaw14_DrawKeys.fr1 x0 x1 x5 x6 x7 g) w = oubliettelaw14_DrawKeys.b1 x0 x1 x5 x6 x7 g N1 R X w := by kernel_rfl
/-- What a round of this loop hands on. -/
def oubliettelaw14_DrawKeys.N1 (J : Value → Value → World → Prop) (m : Value → Value → World → Nat) (x0 : Value) (x1 : Value) (x5 : Value) (x6 : Value) (x7 : Value) (w : World) : List Value → World → Prop := fun e w' => (∃ y6 y7 g, e = oubliettelaw14_DrawKeys.fr1 x0 x1 x5 y6 y7 g ∧ J y6 y7 w') ∧ m (nth e 6) (nth e 7) w' < m x6 x7 w
theorem oubliettelaw14_DrawKeys.leaf1 {J : Value → Value → World → Prop} {m : Value → Value → World → Nat} {x0 : Value} {x1 : Value} {x5 : Value} {x6 : Value} {x7 : Value} {w w' : World} {e2 e3 e4 e6 e7 e8 e9 e10 e11 e12 e13 e14 e15 e16 e17 e18 e19 e20 e21 e22 e23 e24 e25 e26 e27 e28 e29 e30 e31 e32 e33 e34 e35 e36 e37 e38 e39 e40 e41 e42 e43 e44 e45 e46 e47 e48 e49 e50 e51 e52 e53 e54 e55 e56 e57 e58 e59 e60 e61 e62 e63 e64 e65 e66 e67 e68 e69 e70 e71 e72 e73 e74 e75 e76 e77 e78 e79 e80 e81 e82 e83 e84 e85 e86 e87 e88 e89 e90 e91 e92 e93 e94 e95 e96 e97 e98 e99 e100 e101 e102 e103 e104 e105 e106 e107 e108 e109 : Value} (h : J e6 e7 w') (hm : m e6 e7 w' < m x6 x7 w) : oubliettelaw14_DrawKeys.N1 J m x0 x1 x5 x6 x7 w [x0, x1, e2, e3, e4, x5, e6, e7, e8, e9, e10, e11, e12, e13, e14, e15, e16, e17, e18, e19, e20, e21, e22, e23, e24, e25, e26, e27, e28, e29, e30, e31, e32, e33, e34, e35, e36, e37, e38, e39, e40, e41, e42, e43, e44, e45, e46, e47, e48, e49, e50, e51, e52, e53, e54, e55, e56, e57, e58, e59, e60, e61, e62, e63, e64, e65, e66, e67, e68, e69, e70, e71, e72, e73, e74, e75, e76, e77, e78, e79, e80, e81, e82, e83, e84, e85, e86, e87, e88, e89, e90, e91, e92, e93, e94, e95, e96, e97, e98, e99, e100, e101, e102, e103, e104, e105, e106, e107, e108, e109] w' :=
  ⟨⟨e6, e7, (fun i => nth [x0, x1, e2, e3, e4, x5, e6, e7, e8, e9, e10, e11, e12, e13, e14, e15, e16, e17, e18, e19, e20, e21, e22, e23, e24, e25, e26, e27, e28, e29, e30, e31, e32, e33, e34, e35, e36, e37, e38, e39, e40, e41, e42, e43, e44, e45, e46, e47, e48, e49, e50, e51, e52, e53, e54, e55, e56, e57, e58, e59, e60, e61, e62, e63, e64, e65, e66, e67, e68, e69, e70, e71, e72, e73, e74, e75, e76, e77, e78, e79, e80, e81, e82, e83, e84, e85, e86, e87, e88, e89, e90, e91, e92, e93, e94, e95, e96, e97, e98, e99, e100, e101, e102, e103, e104, e105, e106, e107, e108, e109] i), rfl, h⟩, hm⟩
theorem oubliettelaw14_DrawKeys.loop1 (J : Value → Value → World → Prop) (m : Value → Value → World → Nat) {R : KV} {X : KX} {w : World} {x0 : Value} {x1 : Value} {x5 : Value} {e2 e3 e4 e6 e7 e8 e9 e10 e11 e12 e13 e14 e15 e16 e17 e18 e19 e20 e21 e22 e23 e24 e25 e26 e27 e28 e29 e30 e31 e32 e33 e34 e35 e36 e37 e38 e39 e40 e41 e42 e43 e44 e45 e46 e47 e48 e49 e50 e51 e52 e53 e54 e55 e56 e57 e58 e59 e60 e61 e62 e63 e64 e65 e66 e67 e68 e69 e70 e71 e72 e73 e74 e75 e76 e77 e78 e79 e80 e81 e82 e83 e84 e85 e86 e87 e88 e89 e90 e91 e92 e93 e94 e95 e96 e97 e98 e99 e100 e101 e102 e103 e104 e105 e106 e107 e108 e109 : Value} (h0 : J e6 e7 w)
    (hr : ∀ x6 x7 g w, J x6 x7 w → oubliettelaw14_DrawKeys.b1 x0 x1 x5 x6 x7 g (oubliettelaw14_DrawKeys.N1 J m x0 x1 x5 x6 x7 w) R X w) : oubliettelaw14_DrawKeys.I1 [x0, x1, e2, e3, e4, x5, e6, e7, e8, e9, e10, e11, e12, e13, e14, e15, e16, e17, e18, e19, e20, e21, e22, e23, e24, e25, e26, e27, e28, e29, e30, e31, e32, e33, e34, e35, e36, e37, e38, e39, e40, e41, e42, e43, e44, e45, e46, e47, e48, e49, e50, e51, e52, e53, e54, e55, e56, e57, e58, e59, e60, e61, e62, e63, e64, e65, e66, e67, e68, e69, e70, e71, e72, e73, e74, e75, e76, e77, e78, e79, e80, e81, e82, e83, e84, e85, e86, e87, e88, e89, e90, e91, e92, e93, e94, e95, e96, e97, e98, e99, e100, e101, e102, e103, e104, e105, e106, e107, e108, e109] R X w := by
  rw [oubliettelaw14_DrawKeys.I1_eq]
  refine ⟨fun e w => ∃ y6 y7 g, e = oubliettelaw14_DrawKeys.fr1 x0 x1 x5 y6 y7 g ∧ J y6 y7 w, fun e w => m (nth e 6) (nth e 7) w, ⟨e6, e7, (fun i => nth [x0, x1, e2, e3, e4, x5, e6, e7, e8, e9, e10, e11, e12, e13, e14, e15, e16, e17, e18, e19, e20, e21, e22, e23, e24, e25, e26, e27, e28, e29, e30, e31, e32, e33, e34, e35, e36, e37, e38, e39, e40, e41, e42, e43, e44, e45, e46, e47, e48, e49, e50, e51, e52, e53, e54, e55, e56, e57, e58, e59, e60, e61, e62, e63, e64, e65, e66, e67, e68, e69, e70, e71, e72, e73, e74, e75, e76, e77, e78, e79, e80, e81, e82, e83, e84, e85, e86, e87, e88, e89, e90, e91, e92, e93, e94, e95, e96, e97, e98, e99, e100, e101, e102, e103, e104, e105, e106, e107, e108, e109] i), rfl, h0⟩, ?_⟩
  rintro _ w ⟨y6, y7, g, rfl, hJ⟩
  rw [oubliettelaw14_DrawKeys.b1_eq]
  exact hr y6 y7 g w hJ
def oubliettelaw14_DrawKeys.b (x0 : Value) (x1 : Value) (R : KV) (X : KX) (w : World) : Prop :=
  pLenSl x0 fun t13 =>
  pBinI .gtr .i64 t13 (.int .i64 100) fun t14 =>
  gIf t14 false (fun K => K x1) fun t16 =>
  gIf t14 false (fun K => pLenSl t16 K) fun t17 =>
  gIf t14 false (fun K => pBinI .gtr .i64 t17 (.int .i64 20) K) fun t18 =>
  pPick t14 (.bool true) t18 fun t19 =>
  scond t19
  (pCall Tryd.prog 24 [] X w fun t20 w =>
    R t20 w)
  (pCall Tryd.prog 25 [x0] X w fun t22 w =>
    oubliettelaw14_DrawKeys.I1 [x0, x1, undef, undef, (.bool false), t22, (.int .i64 0), (.int .i64 0), undef, undef, undef, undef, x0, t13, t14, t14, t16, t17, t18, t19, undef, x0, t22, undef, undef, undef, undef, undef, undef, undef, undef, undef, undef, undef, undef, undef, undef, undef, undef, undef, undef, undef, undef, undef, undef, undef, undef, undef, undef, undef, undef, undef, undef, undef, undef, undef, undef, undef, undef, undef, undef, undef, undef, undef, undef, undef, undef, undef, undef, undef, undef, undef, undef, undef, undef, undef, undef, undef, undef, undef, undef, undef, undef, undef, undef, undef, undef, undef, undef, undef, undef, undef, undef, undef, undef, undef, undef, undef, undef, undef, undef, undef, undef, undef, undef, undef, undef, undef, undef, undef] R X w)
theorem oubliettelaw14_DrawKeys.b_eq (x0 : Value) (x1 : Value) (R : KV) (X : KX) (w : World) : atP Tryd.prog Tryd.f5 oubliettelaw14_DrawKeys.pl [] [] R X ([x0, x1] ++ undefs 108) w = oubliettelaw14_DrawKeys.b x0 x1 R X w := by kernel_rfl
theorem oubliettelaw14_DrawKeys.calls {x0 x1 : Value} {R : KV} {X : KX} {w : World} (h : oubliettelaw14_DrawKeys.b x0 x1 R X w) : GCalls Tryd.prog 5 [x0, x1] R X w :=
  gcalls_of (pl := oubliettelaw14_DrawKeys.pl) Tryd.func5 rfl (by kernel_rfl) hmixed (oubliettelaw14_DrawKeys.b_eq x0 x1 R X w ▸ h)

/-! oubliette/oubliettelaw14.DrawAlike -/
def oubliettelaw14_DrawAlike.pl : Nat → DrawPlan
  | _ => ⟨[], .done⟩
def oubliettelaw14_DrawAlike.b1 (x0 : Value) (x1 : Value) (x5 : Value) (x6 : Value) (g : Nat → Value) (N1 : List Value → World → Prop) (R : KV) (X : KX) (w : World) : Prop :=
  pBinI .lss .i64 x6 x1 fun t25 =>
  scond t25
  (pCall Tryd.prog 29 [x5] X w fun t29 w =>
    pCall Tryd.prog 32 [x0, x6] X w fun t32 w =>
    pCall Tryd.prog 16 [t29, t32] X w fun t33 w =>
    pNot t33 fun t34 =>
    scond t34
    (R (.bool false) w)
    (pBinI .add .i64 x6 (.int .i64 1) fun t27 =>
      N1 [x0, x1, (g 2), (g 3), (g 4), x5, t27, (g 7), (g 8), (g 9), (g 10), (g 11), (g 12), (g 13), (g 14), (g 15), (g 16), (g 17), (g 18), (g 19), (g 20), (g 21), (g 22), x6, x1, t25, x6, t27, x5, t29, x0, x6, t32, t33, t34, (g 35), (g 36), (g 37), (g 38), (g 39), (g 40), (g 41), (g 42), (g 43), (g 44), (g 45), (g 46), (g 47), (g 48), (g 49), (g 50), (g 51), (g 52), (g 53), (g 54), (g 55), (g 56), (g 57), (g 58), (g 59), (g 60), (g 61), (g 62), (g 63), (g 64), (g 65), (g 66), (g 67), (g 68), (g 69), (g 70), (g 71), (g 72)] w))
  (pCall Tryd.prog 28 [x5] X w fun t36 w =>
    pCall Tryd.prog 31 [x5] X w fun t38 w =>
    pBinI .eql .i64 t38 x1 fun t40 =>
    gIf t40 true (fun K => K t36) fun t42 =>
    gIfW t40 true (fun w K => pCall Tryd.prog 29 [t42] X w K) w fun t43 w =>
    gIf t40 true (fun K => K x5) fun t44 =>
    gIfW t40 true (fun w K => pCall Tryd.prog 29 [t44] X w K) w fun t45 w =>
    gIfW t40 true (fun w K => pCall Tryd.prog 16 [t43, t45] X w K) w fun t46 w =>
    pPick t40 t46 (.bool false) fun t47 =>
    gIf t47 true (fun K => K (.pointer none)) fun t49 =>
    gIfW t47 true (fun w K => pCall Tryd.prog 29 [t49] X w K) w fun t50 w =>
    gIf t47 true (fun K => pLenSl t50 K) fun t51 =>
    gIf t47 true (fun K => pBinI .eql .i64 t51 (.int .i64 0) K) fun t52 =>
    pPick t47 t52 (.bool false) fun t53 =>
    gIf t53 true (fun K => K (.pointer none)) fun t55 =>
    gIfW t53 true (fun w K => pCall Tryd.prog 31 [t55] X w K) w fun t56 w =>
    gIf t53 true (fun K => pBinI .eql .i64 t56 (.int .i64 0) K) fun t57 =>
    pPick t53 t57 (.bool false) fun t58 =>
    gIf t58 true (fun K => K (.pointer none)) fun t60 =>
    gIfW t58 true (fun w K => pCall Tryd.prog 27 [t60, (.int .i64 9)] X w K) w fun t61 w =>
    gIf t58 true (fun K => pLenSl t61 K) fun t62 =>
    gIf t58 true (fun K => pBinI .eql .i64 t62 (.int .i64 0) K) fun t63 =>
    pPick t58 t63 (.bool false) fun t64 =>
    gIf t64 true (fun K => K (.pointer none)) fun t66 =>
    gIfW t64 true (fun w K => pCall Tryd.prog 28 [t66] X w K) w fun t67 w =>
    gIf t64 true (fun K => pEq .ptr false t67 (.pointer none) K) fun t68 =>
    pPick t64 t68 (.bool false) fun t69 =>
    gIfW t69 true (fun w K => pCall Tryd.prog 24 [] X w K) w fun t71 w =>
    pPick t69 t71 (.bool false) fun t72 =>
    R t72 w)
def oubliettelaw14_DrawAlike.I1 (e : List Value) (R : KV) (X : KX) (w : World) : Prop := atP Tryd.prog Tryd.f6 oubliettelaw14_DrawAlike.pl [1, 1, 1, 0, 1, 0] [] R X e w
theorem oubliettelaw14_DrawAlike.I1_eq (e : List Value) (R : KV) (X : KX) (w : World) : oubliettelaw14_DrawAlike.I1 e R X w = loopS (fun N e w => atP Tryd.prog Tryd.f6 oubliettelaw14_DrawAlike.pl [1, 1, 1, 0, 1, 0, 0] [N] R X e w) e w := by kernel_rfl
def oubliettelaw14_DrawAlike.fr1 (x0 : Value) (x1 : Value) (x5 : Value) (x6 : Value) (g : Nat → Value) : List Value := [x0, x1, g 2, g 3, g 4, x5, x6, g 7, g 8, g 9, g 10, g 11, g 12, g 13, g 14, g 15, g 16, g 17, g 18, g 19, g 20, g 21, g 22, g 23, g 24, g 25, g 26, g 27, g 28, g 29, g 30, g 31, g 32, g 33, g 34, g 35, g 36, g 37, g 38, g 39, g 40, g 41, g 42, g 43, g 44, g 45, g 46, g 47, g 48, g 49, g 50, g 51, g 52, g 53, g 54, g 55, g 56, g 57, g 58, g 59, g 60, g 61, g 62, g 63, g 64, g 65, g 66, g 67, g 68, g 69, g 70, g 71, g 72]
theorem oubliettelaw14_DrawAlike.b1_eq (x0 : Value) (x1 : Value) (x5 : Value) (x6 : Value) (g : Nat → Value) (N1 : List Value → World → Prop) (R : KV) (X : KX) (w : World) : atP Tryd.prog Tryd.f6 oubliettelaw14_DrawAlike.pl [1, 1, 1, 0, 1, 0, 0] [N1] R X (oubliettelaw14_DrawAlike.fr1 x0 x1 x5 x6 g) w = oubliettelaw14_DrawAlike.b1 x0 x1 x5 x6 g N1 R X w := by kernel_rfl
/-- What a round of this loop hands on. -/
def oubliettelaw14_DrawAlike.N1 (J : Value → World → Prop) (m : Value → World → Nat) (x0 : Value) (x1 : Value) (x5 : Value) (x6 : Value) (w : World) : List Value → World → Prop := fun e w' => (∃ y6 g, e = oubliettelaw14_DrawAlike.fr1 x0 x1 x5 y6 g ∧ J y6 w') ∧ m (nth e 6) w' < m x6 w
theorem oubliettelaw14_DrawAlike.leaf1 {J : Value → World → Prop} {m : Value → World → Nat} {x0 : Value} {x1 : Value} {x5 : Value} {x6 : Value} {w w' : World} {e2 e3 e4 e6 e7 e8 e9 e10 e11 e12 e13 e14 e15 e16 e17 e18 e19 e20 e21 e22 e23 e24 e25 e26 e27 e28 e29 e30 e31 e32 e33 e34 e35 e36 e37 e38 e39 e40 e41 e42 e43 e44 e45 e46 e47 e48 e49 e50 e51 e52 e53 e54 e55 e56 e57 e58 e59 e60 e61 e62 e63 e64 e65 e66 e67 e68 e69 e70 e71 e72 : Value} (h : J e6 w') (hm : m e6 w' < m x6 w) : oubliettelaw14_DrawAlike.N1 J m x0 x1 x5 x6 w [x0, x1, e2, e3, e4, x5, e6, e7, e8, e9, e10, e11, e12, e13, e14, e15, e16, e17, e18, e19, e20, e21, e22, e23, e24, e25, e26, e27, e28, e29, e30, e31, e32, e33, e34, e35, e36, e37, e38, e39, e40, e41, e42, e43, e44, e45, e46, e47, e48, e49, e50, e51, e52, e53, e54, e55, e56, e57, e58, e59, e60, e61, e62, e63, e64, e65, e66, e67, e68, e69, e70, e71, e72] w' :=
  ⟨⟨e6, (fun i => nth [x0, x1, e2, e3, e4, x5, e6, e7, e8, e9, e10, e11, e12, e13, e14, e15, e16, e17, e18, e19, e20, e21, e22, e23, e24, e25, e26, e27, e28, e29, e30, e31, e32, e33, e34, e35, e36, e37, e38, e39, e40, e41, e42, e43, e44, e45, e46, e47, e48, e49, e50, e51, e52, e53, e54, e55, e56, e57, e58, e59, e60, e61, e62, e63, e64, e65, e66, e67, e68, e69, e70, e71, e72] i), rfl, h⟩, hm⟩
theorem oubliettelaw14_DrawAlike.loop1 (J : Value → World → Prop) (m : Value → World → Nat) {R : KV} {X : KX} {w : World} {x0 : Value} {x1 : Value} {x5 : Value} {e2 e3 e4 e6 e7 e8 e9 e10 e11 e12 e13 e14 e15 e16 e17 e18 e19 e20 e21 e22 e23 e24 e25 e26 e27 e28 e29 e30 e31 e32 e33 e34 e35 e36 e37 e38 e39 e40 e41 e42 e43 e44 e45 e46 e47 e48 e49 e50 e51 e52 e53 e54 e55 e56 e57 e58 e59 e60 e61 e62 e63 e64 e65 e66 e67 e68 e69 e70 e71 e72 : Value} (h0 : J e6 w)
    (hr : ∀ x6 g w, J x6 w → oubliettelaw14_DrawAlike.b1 x0 x1 x5 x6 g (oubliettelaw14_DrawAlike.N1 J m x0 x1 x5 x6 w) R X w) : oubliettelaw14_DrawAlike.I1 [x0, x1, e2, e3, e4, x5, e6, e7, e8, e9, e10, e11, e12, e13, e14, e15, e16, e17, e18, e19, e20, e21, e22, e23, e24, e25, e26, e27, e28, e29, e30, e31, e32, e33, e34, e35, e36, e37, e38, e39, e40, e41, e42, e43, e44, e45, e46, e47, e48, e49, e50, e51, e52, e53, e54, e55, e56, e57, e58, e59, e60, e61, e62, e63, e64, e65, e66, e67, e68, e69, e70, e71, e72] R X w := by
  rw [oubliettelaw14_DrawAlike.I1_eq]
  refine ⟨fun e w => ∃ y6 g, e = oubliettelaw14_DrawAlike.fr1 x0 x1 x5 y6 g ∧ J y6 w, fun e w => m (nth e 6) w, ⟨e6, (fun i => nth [x0, x1, e2, e3, e4, x5, e6, e7, e8, e9, e10, e11, e12, e13, e14, e15, e16, e17, e18, e19, e20, e21, e22, e23, e24, e25, e26, e27, e28, e29, e30, e31, e32, e33, e34, e35, e36, e37, e38, e39, e40, e41, e42, e43, e44, e45, e46, e47, e48, e49, e50, e51, e52, e53, e54, e55, e56, e57, e58, e59, e60, e61, e62, e63, e64, e65, e66, e67, e68, e69, e70, e71, e72] i), rfl, h0⟩, ?_⟩
  rintro _ w ⟨y6, g, rfl, hJ⟩
  rw [oubliettelaw14_DrawAlike.b1_eq]
  exact hr y6 g w hJ
def oubliettelaw14_DrawAlike.b (x0 : Value) (x1 : Value) (R : KV) (X : KX) (w : World) : Prop :=
  pLenSl x0 fun t10 =>
  pBinI .gtr .i64 t10 (.int .i64 100) fun t11 =>
  gIf t11 false (fun K => K x1) fun t13 =>
  gIf t11 false (fun K => pBinI .lss .i64 t13 (.int .i64 0) K) fun t14 =>
  pPick t11 (.bool true) t14 fun t15 =>
  gIf t15 false (fun K => K x1) fun t17 =>
  gIf t15 false (fun K => pBinI .gtr .i64 t17 (.int .i64 20) K) fun t18 =>
  pPick t15 (.bool true) t18 fun t19 =>
  scond t19
  (pCall Tryd.prog 24 [] X w fun t20 w =>
    R t20 w)
  (pCall Tryd.prog 25 [x0] X w fun t22 w =>
    oubliettelaw14_DrawAlike.I1 [x0, x1, undef, undef, (.bool false), t22, (.int .i64 0), undef, undef, x0, t10, t11, t11, t13, t14, t15, t15, t17, t18, t19, undef, x0, t22, undef, undef, undef, undef, undef, undef, undef, undef, undef, undef, undef, undef, undef, undef, undef, undef, undef, undef, undef, undef, undef, undef, undef, undef, undef, undef, undef, undef, undef, undef, undef, undef, undef, undef, undef, undef, undef, undef, undef, undef, undef, undef, undef, undef, undef, undef, undef, undef, undef, undef] R X w)
theorem oubliettelaw14_DrawAlike.b_eq (x0 : Value) (x1 : Value) (R : KV) (X : KX) (w : World) : atP Tryd.prog Tryd.f6 oubliettelaw14_DrawAlike.pl [] [] R X ([x0, x1] ++ undefs 71) w = oubliettelaw14_DrawAlike.b x0 x1 R X w := by kernel_rfl
theorem oubliettelaw14_DrawAlike.calls {x0 x1 : Value} {R : KV} {X : KX} {w : World} (h : oubliettelaw14_DrawAlike.b x0 x1 R X w) : GCalls Tryd.prog 6 [x0, x1] R X w :=
  gcalls_of (pl := oubliettelaw14_DrawAlike.pl) Tryd.func6 rfl (by kernel_rfl) hmixed (oubliettelaw14_DrawAlike.b_eq x0 x1 R X w ▸ h)

/-! oubliette/oubliettelaw14.DrawBytes -/
def oubliettelaw14_DrawBytes.pl : Nat → DrawPlan
  | _ => ⟨[], .done⟩
def oubliettelaw14_DrawBytes.b1 (x1 : Value) (x5 : Value) (x6 : Value) (x7 : Value) (x8 : Value) (x9 : Value) (x10 : Value) (g : Nat → Value) (N1 : List Value → World → Prop) (R : KV) (X : KX) (w : World) : Prop :=
  pBinI .lss .i64 x10 x1 fun t36 =>
  gIf t36 true (fun K => K x9) fun t38 =>
  gIf t36 true (fun K => pLenSl t38 K) fun t39 =>
  gIf t36 true (fun K => K x1) fun t40 =>
  gIf t36 true (fun K => pBinI .lss .i64 t39 t40 K) fun t41 =>
  pPick t36 t41 (.bool false) fun t42 =>
  scond t42
  (pCall Tryd.prog 29 [x6] X w fun t47 w =>
    pApp 5 1 1 [.int .u8 0] x9 t47 w fun t48 w =>
    pBinI .add .i64 x10 (.int .i64 1) fun t44 =>
    N1 [(g 0), x1, (g 2), (g 3), (g 4), x5, x6, x7, x8, t48, t44, (g 11), (g 12), (g 13), (g 14), (g 15), (g 16), (g 17), (g 18), (g 19), (g 20), (g 21), (g 22), (g 23), (g 24), (g 25), (g 26), (g 27), (g 28), (g 29), (g 30), (g 31), (g 32), (g 33), x10, x1, t36, t36, t38, t39, t40, t41, t42, x10, t44, x9, x6, t47, t48, (g 49), (g 50), (g 51), (g 52), (g 53), (g 54), (g 55), (g 56), (g 57), (g 58), (g 59), (g 60), (g 61), (g 62), (g 63), (g 64), (g 65), (g 66), (g 67), (g 68), (g 69), (g 70), (g 71), (g 72), (g 73), (g 74), (g 75), (g 76), (g 77), (g 78), (g 79), (g 80), (g 81)] w)
  (pLenSl x8 fun t50 =>
    pBinI .eql .i64 t50 x1 fun t52 =>
    gIf t52 true (fun K => K x8) fun t54 =>
    gIf t52 true (fun K => K x9) fun t55 =>
    gIf t52 true (fun K => K x1) fun t56 =>
    gIf t52 true (fun K => pSl 1 t55 none (some t56) none K) fun t57 =>
    gIfW t52 true (fun w K => pCall Tryd.prog 16 [t54, t57] X w K) w fun t58 w =>
    pPick t52 t58 (.bool false) fun t59 =>
    gIf t59 true (fun K => K x5) fun t61 =>
    gIfW t59 true (fun w K => pCall Tryd.prog 31 [t61] X w K) w fun t62 w =>
    gIf t59 true (fun K => K x6) fun t63 =>
    gIfW t59 true (fun w K => pCall Tryd.prog 31 [t63] X w K) w fun t64 w =>
    gIf t59 true (fun K => pBinI .eql .i64 t62 t64 K) fun t65 =>
    pPick t59 t65 (.bool false) fun t66 =>
    gIf t66 true (fun K => K x7) fun t68 =>
    gIfW t66 true (fun w K => pCall Tryd.prog 31 [t68] X w K) w fun t69 w =>
    gIf t66 true (fun K => pBinI .eql .i64 t69 (.int .i64 1) K) fun t70 =>
    pPick t66 t70 (.bool false) fun t71 =>
    gIf t71 true (fun K => K x5) fun t73 =>
    gIfW t71 true (fun w K => pCall Tryd.prog 29 [t73] X w K) w fun t74 w =>
    gIf t71 true (fun K => K x6) fun t75 =>
    gIfW t71 true (fun w K => pCall Tryd.prog 29 [t75] X w K) w fun t76 w =>
    gIfW t71 true (fun w K => pCall Tryd.prog 16 [t74, t76] X w K) w fun t77 w =>
    pPick t71 t77 (.bool false) fun t78 =>
    gIfW t78 true (fun w K => pCall Tryd.prog 24 [] X w K) w fun t80 w =>
    pPick t78 t80 (.bool false) fun t81 =>
    R t81 w)
def oubliettelaw14_DrawBytes.I1 (e : List Value) (R : KV) (X : KX) (w : World) : Prop := atP Tryd.prog Tryd.f7 oubliettelaw14_DrawBytes.pl [1, 1, 1, 1, 1, 1, 1, 0, 1, 0] [] R X e w
theorem oubliettelaw14_DrawBytes.I1_eq (e : List Value) (R : KV) (X : KX) (w : World) : oubliettelaw14_DrawBytes.I1 e R X w = loopS (fun N e w => atP Tryd.prog Tryd.f7 oubliettelaw14_DrawBytes.pl [1, 1, 1, 1, 1, 1, 1, 0, 1, 0, 0] [N] R X e w) e w := by kernel_rfl
def oubliettelaw14_DrawBytes.fr1 (x1 : Value) (x5 : Value) (x6 : Value) (x7 : Value) (x8 : Value) (x9 : Value) (x10 : Value) (g : Nat → Value) : List Value := [g 0, x1, g 2, g 3, g 4, x5, x6, x7, x8, x9, x10, g 11, g 12, g 13, g 14, g 15, g 16, g 17, g 18, g 19, g 20, g 21, g 22, g 23, g 24, g 25, g 26, g 27, g 28, g 29, g 30, g 31, g 32, g 33, g 34, g 35, g 36, g 37, g 38, g 39, g 40, g 41, g 42, g 43, g 44, g 45, g 46, g 47, g 48, g 49, g 50, g 51, g 52, g 53, g 54, g 55, g 56, g 57, g 58, g 59, g 60, g 61, g 62, g 63, g 64, g 65, g 66, g 67, g 68, g 69, g 70, g 71, g 72, g 73, g 74, g 75, g 76, g 77, g 78, g 79, g 80, g 81]
theorem oubliettelaw14_DrawBytes.b1_eq (x1 : Value) (x5 : Value) (x6 : Value) (x7 : Value) (x8 : Value) (x9 : Value) (x10 : Value) (g : Nat → Value) (N1 : List Value → World → Prop) (R : KV) (X : KX) (w : World) : atP Tryd.prog Tryd.f7 oubliettelaw14_DrawBytes.pl [1, 1, 1, 1, 1, 1, 1, 0, 1, 0, 0] [N1] R X (oubliettelaw14_DrawBytes.fr1 x1 x5 x6 x7 x8 x9 x10 g) w = oubliettelaw14_DrawBytes.b1 x1 x5 x6 x7 x8 x9 x10 g N1 R X w := by kernel_rfl
/-- What a round of this loop hands on. -/
def oubliettelaw14_DrawBytes.N1 (J : Value → Value → World → Prop) (m : Value → Value → World → Nat) (x1 : Value) (x5 : Value) (x6 : Value) (x7 : Value) (x8 : Value) (x9 : Value) (x10 : Value) (w : World) : List Value → World → Prop := fun e w' => (∃ y9 y10 g, e = oubliettelaw14_DrawBytes.fr1 x1 x5 x6 x7 x8 y9 y10 g ∧ J y9 y10 w') ∧ m (nth e 9) (nth e 10) w' < m x9 x10 w
theorem oubliettelaw14_DrawBytes.leaf1 {J : Value → Value → World → Prop} {m : Value → Value → World → Nat} {x1 : Value} {x5 : Value} {x6 : Value} {x7 : Value} {x8 : Value} {x9 : Value} {x10 : Value} {w w' : World} {e0 e2 e3 e4 e9 e10 e11 e12 e13 e14 e15 e16 e17 e18 e19 e20 e21 e22 e23 e24 e25 e26 e27 e28 e29 e30 e31 e32 e33 e34 e35 e36 e37 e38 e39 e40 e41 e42 e43 e44 e45 e46 e47 e48 e49 e50 e51 e52 e53 e54 e55 e56 e57 e58 e59 e60 e61 e62 e63 e64 e65 e66 e67 e68 e69 e70 e71 e72 e73 e74 e75 e76 e77 e78 e79 e80 e81 : Value} (h : J e9 e10 w') (hm : m e9 e10 w' < m x9 x10 w) : oubliettelaw14_DrawBytes.N1 J m x1 x5 x6 x7 x8 x9 x10 w [e0, x1, e2, e3, e4, x5, x6, x7, x8, e9, e10, e11, e12, e13, e14, e15, e16, e17, e18, e19, e20, e21, e22, e23, e24, e25, e26, e27, e28, e29, e30, e31, e32, e33, e34, e35, e36, e37, e38, e39, e40, e41, e42, e43, e44, e45, e46, e47, e48, e49, e50, e51, e52, e53, e54, e55, e56, e57, e58, e59, e60, e61, e62, e63, e64, e65, e66, e67, e68, e69, e70, e71, e72, e73, e74, e75, e76, e77, e78, e79, e80, e81] w' :=
  ⟨⟨e9, e10, (fun i => nth [e0, x1, e2, e3, e4, x5, x6, x7, x8, e9, e10, e11, e12, e13, e14, e15, e16, e17, e18, e19, e20, e21, e22, e23, e24, e25, e26, e27, e28, e29, e30, e31, e32, e33, e34, e35, e36, e37, e38, e39, e40, e41, e42, e43, e44, e45, e46, e47, e48, e49, e50, e51, e52, e53, e54, e55, e56, e57, e58, e59, e60, e61, e62, e63, e64, e65, e66, e67, e68, e69, e70, e71, e72, e73, e74, e75, e76, e77, e78, e79, e80, e81] i), rfl, h⟩, hm⟩
theorem oubliettelaw14_DrawBytes.loop1 (J : Value → Value → World → Prop) (m : Value → Value → World → Nat) {R : KV} {X : KX} {w : World} {x1 : Value} {x5 : Value} {x6 : Value} {x7 : Value} {x8 : Value} {e0 e2 e3 e4 e9 e10 e11 e12 e13 e14 e15 e16 e17 e18 e19 e20 e21 e22 e23 e24 e25 e26 e27 e28 e29 e30 e31 e32 e33 e34 e35 e36 e37 e38 e39 e40 e41 e42 e43 e44 e45 e46 e47 e48 e49 e50 e51 e52 e53 e54 e55 e56 e57 e58 e59 e60 e61 e62 e63 e64 e65 e66 e67 e68 e69 e70 e71 e72 e73 e74 e75 e76 e77 e78 e79 e80 e81 : Value} (h0 : J e9 e10 w)
    (hr : ∀ x9 x10 g w, J x9 x10 w → oubliettelaw14_DrawBytes.b1 x1 x5 x6 x7 x8 x9 x10 g (oubliettelaw14_DrawBytes.N1 J m x1 x5 x6 x7 x8 x9 x10 w) R X w) : oubliettelaw14_DrawBytes.I1 [e0, x1, e2, e3, e4, x5, x6, x7, x8, e9, e10, e11, e12, e13, e14, e15, e16, e17, e18, e19, e20, e21, e22, e23, e24, e25, e26, e27, e28, e29, e30, e31, e32, e33, e34, e35, e36, e37, e38, e39, e40, e41, e42, e43, e44, e45, e46, e47, e48, e49, e50, e51, e52, e53, e54, e55, e56, e57, e58, e59, e60, e61, e62, e63, e64, e65, e66, e67, e68, e69, e70, e71, e72, e73, e74, e75, e76, e77, e78, e79, e80, e81] R X w := by
  rw [oubliettelaw14_DrawBytes.I1_eq]
  refine ⟨fun e w => ∃ y9 y10 g, e = oubliettelaw14_DrawBytes.fr1 x1 x5 x6 x7 x8 y9 y10 g ∧ J y9 y10 w, fun e w => m (nth e 9) (nth e 10) w, ⟨e9, e10, (fun i => nth [e0, x1, e2, e3, e4, x5, x6, x7, x8, e9, e10, e11, e12, e13, e14, e15, e16, e17, e18, e19, e20, e21, e22, e23, e24, e25, e26, e27, e28, e29, e30, e31, e32, e33, e34, e35, e36, e37, e38, e39, e40, e41, e42, e43, e44, e45, e46, e47, e48, e49, e50, e51, e52, e53, e54, e55, e56, e57, e58, e59, e60, e61, e62, e63, e64, e65, e66, e67, e68, e69, e70, e71, e72, e73, e74, e75, e76, e77, e78, e79, e80, e81] i), rfl, h0⟩, ?_⟩
  rintro _ w ⟨y9, y10, g, rfl, hJ⟩
  rw [oubliettelaw14_DrawBytes.b1_eq]
  exact hr y9 y10 g w hJ
def oubliettelaw14_DrawBytes.b (x0 : Value) (x1 : Value) (R : KV) (X : KX) (w : World) : Prop :=
  pLenSl x0 fun t12 =>
  pBinI .gtr .i64 t12 (.int .i64 100) fun t13 =>
  gIf t13 false (fun K => K x1) fun t15 =>
  gIf t13 false (fun K => pBinI .lss .i64 t15 (.int .i64 1) K) fun t16 =>
  pPick t13 (.bool true) t16 fun t17 =>
  gIf t17 false (fun K => K x1) fun t19 =>
  gIf t17 false (fun K => pBinI .gtr .i64 t19 (.int .i64 150) K) fun t20 =>
  pPick t17 (.bool true) t20 fun t21 =>
  scond t21
  (pCall Tryd.prog 24 [] X w fun t22 w =>
    R t22 w)
  (pCall Tryd.prog 25 [x0] X w fun t24 w =>
    pCall Tryd.prog 25 [x0] X w fun t26 w =>
    pCall Tryd.prog 28 [t24] X w fun t28 w =>
    pCall Tryd.prog 29 [t28] X w fun t30 w =>
    pCall Tryd.prog 27 [t24, x1] X w fun t33 w =>
    oubliettelaw14_DrawBytes.I1 [x0, x1, undef, undef, (.bool false), t24, t26, t28, t33, (.slice none 0 0), (.int .i64 0), x0, t12, t13, t13, t15, t16, t17, t17, t19, t20, t21, undef, x0, t24, x0, t26, t24, t28, t28, t30, t24, x1, t33, undef, undef, undef, undef, undef, undef, undef, undef, undef, undef, undef, undef, undef, undef, undef, undef, undef, undef, undef, undef, undef, undef, undef, undef, undef, undef, undef, undef, undef, undef, undef, undef, undef, undef, undef, undef, undef, undef, undef, undef, undef, undef, undef, undef, undef, undef, undef, undef] R X w)
theorem oubliettelaw14_DrawBytes.b_eq (x0 : Value) (x1 : Value) (R : KV) (X : KX) (w : World) : atP Tryd.prog Tryd.f7 oubliettelaw14_DrawBytes.pl [] [] R X ([x0, x1] ++ undefs 80) w = oubliettelaw14_DrawBytes.b x0 x1 R X w := by kernel_rfl
theorem oubliettelaw14_DrawBytes.calls {x0 x1 : Value} {R : KV} {X : KX} {w : World} (h : oubliettelaw14_DrawBytes.b x0 x1 R X w) : GCalls Tryd.prog 7 [x0, x1] R X w :=
  gcalls_of (pl := oubliettelaw14_DrawBytes.pl) Tryd.func7 rfl (by kernel_rfl) hmixed (oubliettelaw14_DrawBytes.b_eq x0 x1 R X w ▸ h)

/-! oubliette/oubliettelaw14.alive -/
def oubliettelaw14_alive.pl : Nat → DrawPlan
  | _ => ⟨[], .done⟩
def oubliettelaw14_alive.b (R : KV) (X : KX) (w : World) : Prop :=
  pBSlice 5 1 (rowOf [.int .u8 0] 1) [(0, 1, (.int .u8 1))] w fun t4 w =>
  pCall Tryd.prog 25 [t4] X w fun t5 w =>
  pBSlice 5 1 (rowOf [.int .u8 0] 1) [(0, 1, (.int .u8 1))] w fun t6 w =>
  pCall Tryd.prog 25 [t6] X w fun t7 w =>
  pCall Tryd.prog 29 [t5] X w fun t9 w =>
  pLenSl t9 fun t11 =>
  pBinI .eql .i64 t11 (.int .i64 32) fun t12 =>
  gIf t12 true (fun K => K t9) fun t14 =>
  gIf t12 true (fun K => K t7) fun t15 =>
  gIfW t12 true (fun w K => pCall Tryd.prog 29 [t15] X w K) w fun t16 w =>
  gIfW t12 true (fun w K => pCall Tryd.prog 16 [t14, t16] X w K) w fun t17 w =>
  pPick t12 t17 (.bool false) fun t18 =>
  gIf t18 true (fun K => K t5) fun t20 =>
  gIfW t18 true (fun w K => pCall Tryd.prog 31 [t20] X w K) w fun t21 w =>
  gIf t18 true (fun K => pBinI .eql .i64 t21 (.int .i64 1) K) fun t22 =>
  pPick t18 t22 (.bool false) fun t23 =>
  R t23 w
theorem oubliettelaw14_alive.b_eq (R : KV) (X : KX) (w : World) : atP Tryd.prog Tryd.f24 oubliettelaw14_alive.pl [] [] R X ([] ++ undefs 24) w = oubliettelaw14_alive.b R X w := by kernel_rfl
theorem oubliettelaw14_alive.calls {R : KV} {X : KX} {w : World} (h : oubliettelaw14_alive.b R X w) : GCalls Tryd.prog 24 [] R X w :=
  gcalls_of (pl := oubliettelaw14_alive.pl) Tryd.func24 rfl (by kernel_rfl) hmixed (oubliettelaw14_alive.b_eq R X w ▸ h)

/-! oubliette/draw.New -/
def draw_New.pl : Nat → DrawPlan
  | _ => ⟨[], .done⟩
def draw_New.b (x0 : Value) (R : KV) (X : KX) (w : World) : Prop :=
  pCall Tryd.prog 48 [x0] X w fun t4 w =>
  pBuild [.slice none 0 0, .int .i64 0] [(0, 1, t4)] fun t5 =>
  pBox 100 t5 w fun t6 w =>
  R t6 w
theorem draw_New.b_eq (x0 : Value) (R : KV) (X : KX) (w : World) : atP Tryd.prog Tryd.f25 draw_New.pl [] [] R X ([x0] ++ undefs 6) w = draw_New.b x0 R X w := by kernel_rfl
theorem draw_New.calls {x0 : Value} {R : KV} {X : KX} {w : World} (h : draw_New.b x0 R X w) : GCalls Tryd.prog 25 [x0] R X w :=
  gcalls_of (pl := draw_New.pl) Tryd.func25 rfl (by kernel_rfl) hmixed (draw_New.b_eq x0 R X w ▸ h)

/-! oubliette/oublietteref14.Bytes -/
def oublietteref14_Bytes.pl : Nat → DrawPlan
  | _ => ⟨[], .done⟩
def oublietteref14_Bytes.b1 (x0 : Value) (x1 : Value) (x2 : Value) (x8 : Value) (g : Nat → Value) (N1 : List Value → World → Prop) (R : KV) (X : KX) (w : World) : Prop :=
  pLenSl x8 fun t17 =>
  pBinI .lss .i64 t17 x2 fun t19 =>
  scond t19
  (pCall Tryd.prog 30 [x0, x1] X w fun t23 w =>
    pApp 5 1 1 [.int .u8 0] x8 t23 w fun t24 w =>
    pBinI .add .i64 x1 (.int .i64 1) fun t26 =>
    N1 [x0, t26, x2, (g 3), (g 4), (g 5), (g 6), (g 7), t24, (g 9), (g 10), (g 11), (g 12), (g 13), (g 14), (g 15), x8, t17, x2, t19, x8, x0, x1, t23, t24, x1, t26, (g 27), (g 28), (g 29), (g 30)] w)
  (pSl 1 x8 none (some x2) none fun t29 =>
    R (.tuple #[t29, x1]) w)
def oublietteref14_Bytes.I1 (e : List Value) (R : KV) (X : KX) (w : World) : Prop := atP Tryd.prog Tryd.f26 oublietteref14_Bytes.pl [1, 1, 1, 0, 0] [] R X e w
theorem oublietteref14_Bytes.I1_eq (e : List Value) (R : KV) (X : KX) (w : World) : oublietteref14_Bytes.I1 e R X w = loopS (fun N e w => atP Tryd.prog Tryd.f26 oublietteref14_Bytes.pl [1, 1, 1, 0, 0, 0] [N] R X e w) e w := by kernel_rfl
def oublietteref14_Bytes.fr1 (x0 : Value) (x1 : Value) (x2 : Value) (x8 : Value) (g : Nat → Value) : List Value := [x0, x1, x2, g 3, g 4, g 5, g 6, g 7, x8, g 9, g 10, g 11, g 12, g 13, g 14, g 15, g 16, g 17, g 18, g 19, g 20, g 21, g 22, g 23, g 24, g 25, g 26, g 27, g 28, g 29, g 30]
theorem oublietteref14_Bytes.b1_eq (x0 : Value) (x1 : Value) (x2 : Value) (x8 : Value) (g : Nat → Value) (N1 : List Value → World → Prop) (R : KV) (X : KX) (w : World) : atP Tryd.prog Tryd.f26 oublietteref14_Bytes.pl [1, 1, 1, 0, 0, 0] [N1] R X (oublietteref14_Bytes.fr1 x0 x1 x2 x8 g) w = oublietteref14_Bytes.b1 x0 x1 x2 x8 g N1 R X w := by kernel_rfl
/-- What a round of this loop hands on. -/
def oublietteref14_Bytes.N1 (J : Value → Value → World → Prop) (m : Value → Value → World → Nat) (x0 : Value) (x2 : Value) (x1 : Value) (x8 : Value) (w : World) : List Value → World → Prop := fun e w' => (∃ y1 y8 g, e = oublietteref14_Bytes.fr1 x0 y1 x2 y8 g ∧ J y1 y8 w') ∧ m (nth e 1) (nth e 8) w' < m x1 x8 w
theorem oublietteref14_Bytes.leaf1 {J : Value → Value → World → Prop} {m : Value → Value → World → Nat} {x0 : Value} {x1 : Value} {x2 : Value} {x8 : Value} {w w' : World} {e1 e3 e4 e5 e6 e7 e8 e9 e10 e11 e12 e13 e14 e15 e16 e17 e18 e19 e20 e21 e22 e23 e24 e25 e26 e27 e28 e29 e30 : Value} (h : J e1 e8 w') (hm : m e1 e8 w' < m x1 x8 w) : oublietteref14_Bytes.N1 J m x0 x2 x1 x8 w [x0, e1, x2, e3, e4, e5, e6, e7, e8, e9, e10, e11, e12, e13, e14, e15, e16, e17, e18, e19, e20, e21, e22, e23, e24, e25, e26, e27, e28, e29, e30] w' :=
  ⟨⟨e1, e8, (fun i => nth [x0, e1, x2, e3, e4, e5, e6, e7, e8, e9, e10, e11, e12, e13, e14, e15, e16, e17, e18, e19, e20, e21, e22, e23, e24, e25, e26, e27, e28, e29, e30] i), rfl, h⟩, hm⟩
theorem oublietteref14_Bytes.loop1 (J : Value → Value → World → Prop) (m : Value → Value → World → Nat) {R : KV} {X : KX} {w : World} {x0 : Value} {x2 : Value} {e1 e3 e4 e5 e6 e7 e8 e9 e10 e11 e12 e13 e14 e15 e16 e17 e18 e19 e20 e21 e22 e23 e24 e25 e26 e27 e28 e29 e30 : Value} (h0 : J e1 e8 w)
    (hr : ∀ x1 x8 g w, J x1 x8 w → oublietteref14_Bytes.b1 x0 x1 x2 x8 g (oublietteref14_Bytes.N1 J m x0 x2 x1 x8 w) R X w) : oublietteref14_Bytes.I1 [x0, e1, x2, e3, e4, e5, e6, e7, e8, e9, e10, e11, e12, e13, e14, e15, e16, e17, e18, e19, e20, e21, e22, e23, e24, e25, e26, e27, e28, e29, e30] R X w := by
  rw [oublietteref14_Bytes.I1_eq]
  refine ⟨fun e w => ∃ y1 y8 g, e = oublietteref14_Bytes.fr1 x0 y1 x2 y8 g ∧ J y1 y8 w, fun e w => m (nth e 1) (nth e 8) w, ⟨e1, e8, (fun i => nth [x0, e1, x2, e3, e4, e5, e6, e7, e8, e9, e10, e11, e12, e13, e14, e15, e16, e17, e18, e19, e20, e21, e22, e23, e24, e25, e26, e27, e28, e29, e30] i), rfl, h0⟩, ?_⟩
  rintro _ w ⟨y1, y8, g, rfl, hJ⟩
  rw [oublietteref14_Bytes.b1_eq]
  exact hr y1 y8 g w hJ
def oublietteref14_Bytes.b (x0 : Value) (x1 : Value) (x2 : Value) (R : KV) (X : KX) (w : World) : Prop :=
  pBinI .lss .i64 x2 (.int .i64 1) fun t10 =>
  gIf t10 false (fun K => K x2) fun t12 =>
  gIf t10 false (fun K => pBinI .gtr .i64 t12 (.int .i64 4096) K) fun t13 =>
  pPick t10 (.bool true) t13 fun t14 =>
  scond t14
  (R (.tuple #[(.slice none 0 0), x1]) w)
  (oublietteref14_Bytes.I1 [x0, x1, x2, undef, undef, undef, (.slice none 0 0), (.int .i64 0), (.slice none 0 0), x2, t10, t10, t12, t13, t14, undef, undef, undef, undef, undef, undef, undef, undef, undef, undef, undef, undef, undef, undef, undef, undef] R X w)
theorem oublietteref14_Bytes.b_eq (x0 : Value) (x1 : Value) (x2 : Value) (R : KV) (X : KX) (w : World) : atP Tryd.prog Tryd.f26 oublietteref14_Bytes.pl [] [] R X ([x0, x1, x2] ++ undefs 28) w = oublietteref14_Bytes.b x0 x1 x2 R X w := by kernel_rfl
theorem oublietteref14_Bytes.calls {x0 x1 x2 : Value} {R : KV} {X : KX} {w : World} (h : oublietteref14_Bytes.b x0 x1 x2 R X w) : GCalls Tryd.prog 26 [x0, x1, x2] R X w :=
  gcalls_of (pl := oublietteref14_Bytes.pl) Tryd.func26 rfl (by kernel_rfl) hmixed (oublietteref14_Bytes.b_eq x0 x1 x2 R X w ▸ h)

/-! (*oubliette/draw.Source).Bytes -/
def draw_Source_Bytes.pl : Nat → DrawPlan
  | _ => ⟨[], .done⟩
def draw_Source_Bytes.b1 (x1 : Value) (x4 : Value) (x5 : Value) (g : Nat → Value) (N1 : List Value → World → Prop) (R : KV) (X : KX) (w : World) : Prop :=
  pCallV Tryd.prog x5 [] X w fun t20 w =>
  pApp 5 1 1 [.int .u8 0] x4 t20 w fun t21 w =>
  pLenSl t21 fun t23 =>
  pBinI .geq .i64 t23 x1 fun t25 =>
  scond t25
  (pSl 1 t21 none (some x1) (some x1) fun t29 =>
    R t29 w)
  (N1 [(g 0), x1, (g 2), (g 3), t21, x5, (g 6), (g 7), (g 8), (g 9), (g 10), (g 11), (g 12), (g 13), (g 14), (g 15), (g 16), (g 17), x4, x5, t20, t21, t21, t23, x1, t25, (g 26), (g 27), (g 28), (g 29)] w)
def draw_Source_Bytes.I1 (e : List Value) (R : KV) (X : KX) (w : World) : Prop := atP Tryd.prog Tryd.f27 draw_Source_Bytes.pl [1, 0, 1, 1, 1, 0, 0] [] R X e w
theorem draw_Source_Bytes.I1_eq (e : List Value) (R : KV) (X : KX) (w : World) : draw_Source_Bytes.I1 e R X w = loopS (fun N e w => atP Tryd.prog Tryd.f27 draw_Source_Bytes.pl [1, 0, 1, 1, 1, 0, 0, 0] [N] R X e w) e w := by kernel_rfl
def draw_Source_Bytes.fr1 (x1 : Value) (x4 : Value) (x5 : Value) (g : Nat → Value) : List Value := [g 0, x1, g 2, g 3, x4, x5, g 6, g 7, g 8, g 9, g 10, g 11, g 12, g 13, g 14, g 15, g 16, g 17, g 18, g 19, g 20, g 21, g 22, g 23, g 24, g 25, g 26, g 27, g 28, g 29]
theorem draw_Source_Bytes.b1_eq (x1 : Value) (x4 : Value) (x5 : Value) (g : Nat → Value) (N1 : List Value → World → Prop) (R : KV) (X : KX) (w : World) : atP Tryd.prog Tryd.f27 draw_Source_Bytes.pl [1, 0, 1, 1, 1, 0, 0, 0] [N1] R X (draw_Source_Bytes.fr1 x1 x4 x5 g) w = draw_Source_Bytes.b1 x1 x4 x5 g N1 R X w := by kernel_rfl
/-- What a round of this loop hands on. -/
def draw_Source_Bytes.N1 (J : Value → World → Prop) (m : Value → World → Nat) (x1 : Value) (x5 : Value) (x4 : Value) (w : World) : List Value → World → Prop := fun e w' => (∃ y4 g, e = draw_Source_Bytes.fr1 x1 y4 x5 g ∧ J y4 w') ∧ m (nth e 4) w' < m x4 w
theorem draw_Source_Bytes.leaf1 {J : Value → World → Prop} {m : Value → World → Nat} {x1 : Value} {x4 : Value} {x5 : Value} {w w' : World} {e0 e2 e3 e4 e6 e7 e8 e9 e10 e11 e12 e13 e14 e15 e16 e17 e18 e19 e20 e21 e22 e23 e24 e25 e26 e27 e28 e29 : Value} (h : J e4 w') (hm : m e4 w' < m x4 w) : draw_Source_Bytes.N1 J m x1 x5 x4 w [e0, x1, e2, e3, e4, x5, e6, e7, e8, e9, e10, e11, e12, e13, e14, e15, e16, e17, e18, e19, e20, e21, e22, e23, e24, e25, e26, e27, e28, e29] w' :=
  ⟨⟨e4, (fun i => nth [e0, x1, e2, e3, e4, x5, e6, e7, e8, e9, e10, e11, e12, e13, e14, e15, e16, e17, e18, e19, e20, e21, e22, e23, e24, e25, e26, e27, e28, e29] i), rfl, h⟩, hm⟩
theorem draw_Source_Bytes.loop1 (J : Value → World → Prop) (m : Value → World → Nat) {R : KV} {X : KX} {w : World} {x1 : Value} {x5 : Value} {e0 e2 e3 e4 e6 e7 e8 e9 e10 e11 e12 e13 e14 e15 e16 e17 e18 e19 e20 e21 e22 e23 e24 e25 e26 e27 e28 e29 : Value} (h0 : J e4 w)
    (hr : ∀ x4 g w, J x4 w → draw_Source_Bytes.b1 x1 x4 x5 g (draw_Source_Bytes.N1 J m x1 x5 x4 w) R X w) : draw_Source_Bytes.I1 [e0, x1, e2, e3, e4, x5, e6, e7, e8, e9, e10, e11, e12, e13, e14, e15, e16, e17, e18, e19, e20, e21, e22, e23, e24, e25, e26, e27, e28, e29] R X w := by
  rw [draw_Source_Bytes.I1_eq]
  refine ⟨fun e w => ∃ y4 g, e = draw_Source_Bytes.fr1 x1 y4 x5 g ∧ J y4 w, fun e w => m (nth e 4) w, ⟨e4, (fun i => nth [e0, x1, e2, e3, e4, x5, e6, e7, e8, e9, e10, e11, e12, e13, e14, e15, e16, e17, e18, e19, e20, e21, e22, e23, e24, e25, e26, e27, e28, e29] i), rfl, h0⟩, ?_⟩
  rintro _ w ⟨y4, g, rfl, hJ⟩
  rw [draw_Source_Bytes.b1_eq]
  exact hr y4 g w hJ
def draw_Source_Bytes.b (x0 : Value) (x1 : Value) (R : KV) (X : KX) (w : World) : Prop :=
  pEq .ptr false x0 (.pointer none) fun t7 =>
  gIf t7 false (fun K => K x1) fun t9 =>
  gIf t7 false (fun K => pBinI .lss .i64 t9 (.int .i64 1) K) fun t10 =>
  pPick t7 (.bool true) t10 fun t11 =>
  gIf t11 false (fun K => K x1) fun t13 =>
  gIf t11 false (fun K => pBinI .gtr .i64 t13 (.int .i64 4096) K) fun t14 =>
  pPick t11 (.bool true) t14 fun t15 =>
  scond t15
  (R (.slice none 0 0) w)
  (draw_Source_Bytes.I1 [x0, x1, undef, undef, (.slice none 0 0), (.func (.func 29) #[x0] #[]), x0, t7, t7, t9, t10, t11, t11, t13, t14, t15, x0, (.func (.func 29) #[x0] #[]), undef, undef, undef, undef, undef, undef, undef, undef, undef, undef, undef, undef] R X w)
theorem draw_Source_Bytes.b_eq (x0 : Value) (x1 : Value) (R : KV) (X : KX) (w : World) : atP Tryd.prog Tryd.f27 draw_Source_Bytes.pl [] [] R X ([x0, x1] ++ undefs 28) w = draw_Source_Bytes.b x0 x1 R X w := by kernel_rfl
theorem draw_Source_Bytes.calls {x0 x1 : Value} {R : KV} {X : KX} {w : World} (h : draw_Source_Bytes.b x0 x1 R X w) : GCalls Tryd.prog 27 [x0, x1] R X w :=
  gcalls_of (pl := draw_Source_Bytes.pl) Tryd.func27 rfl (by kernel_rfl) hmixed (draw_Source_Bytes.b_eq x0 x1 R X w ▸ h)

/-! (*oubliette/draw.Source).Clone -/
def draw_Source_Clone.pl : Nat → DrawPlan
  | 3 => ⟨[([], [1]), ([0], [0, 2]), ([1], [1, 3]), ([2], [2, 4]), ([3], [3, 9]), ([], [6]), ([5], [5, 7]), ([6], [6, 8]), ([7], [7, 9]), ([4, 8], [4, 8, 10]), ([9], [9, 11]), ([10, 4, 0, 1, 2, 3, 4, 5, 6, 7, 8, 9, 10], [10])], .take 0 (.take 1 (.take 2 (.take 3 (.take 5 (.take 6 (.take 7 (.take 8 (.world 4 false (.take 9 (.world 10 false (.take 11 (.done)) .none)) .none))))))))⟩
  | _ => ⟨[], .done⟩
def draw_Source_Clone.b (x0 : Value) (R : KV) (X : KX) (w : World) : Prop :=
  pEq .ptr false x0 (.pointer none) fun t4 =>
  scond t4
  (R (.pointer none) w)
  (drawn w fun S w =>
    pNil x0 fun t6 =>
    pFA 0 t6 fun t7 =>
    pLd S t7 fun t8 =>
    pNil x0 fun t11 =>
    pFA 1 t11 fun t12 =>
    pLd S t12 fun t13 =>
    pCall Tryd.prog 48 [t8] X w fun t9 w =>
    S w ∧ (pBuild [.slice none 0 0, .int .i64 0] [(0, 1, t9), (1, 1, t13)] fun t14 =>
      pBox 100 t14 w fun t15 w =>
      S w ∧ (R t15 w)))
theorem draw_Source_Clone.b_eq (x0 : Value) (R : KV) (X : KX) (w : World) : atP Tryd.prog Tryd.f28 draw_Source_Clone.pl [] [] R X ([x0] ++ undefs 15) w = draw_Source_Clone.b x0 R X w := by kernel_rfl
theorem draw_Source_Clone.calls {x0 : Value} {R : KV} {X : KX} {w : World} (h : draw_Source_Clone.b x0 R X w) : GCalls Tryd.prog 28 [x0] R X w :=
  gcalls_of (pl := draw_Source_Clone.pl) Tryd.func28 rfl (by kernel_rfl) hmixed (draw_Source_Clone.b_eq x0 R X w ▸ h)

/-! (*oubliette/draw.Source).Draw -/
def draw_Source_Draw.pl : Nat → DrawPlan
  | 4 => ⟨[([], [1]), ([0], [0, 2]), ([1], [1, 3]), ([2], [2, 9]), ([], [5]), ([4], [4, 6]), ([5], [5, 7]), ([6], [6, 8]), ([7], [7, 9]), ([3, 8], [3, 8, 10]), ([9, 9, 0, 1, 2, 3, 4, 5, 6, 7, 8, 9], [9])], .take 0 (.take 1 (.take 2 (.take 3 (.take 4 (.take 5 (.take 6 (.take 7 (.take 8 (.world 9 false (.take 10 (.done)) .none)))))))))⟩
  | _ => ⟨[], .done⟩
def draw_Source_Draw.b (x0 : Value) (R : KV) (X : KX) (w : World) : Prop :=
  pEq .ptr false x0 (.pointer none) fun t4 =>
  scond t4
  (R (.slice none 0 0) w)
  (pNil x0 fun t6 =>
    pFA 1 t6 fun t7 =>
    pLd (· = w) t7 fun t8 =>
    pBinI .add .i64 t8 (.int .i64 1) fun t9 =>
    pNil x0 fun t10 =>
    pFA 1 t10 fun t11 =>
    pSt t11 t9 w fun _ w =>
    drawn w fun S w =>
    pNil x0 fun t13 =>
    pFA 0 t13 fun t14 =>
    pLd S t14 fun t15 =>
    pNil x0 fun t17 =>
    pFA 1 t17 fun t18 =>
    pLd S t18 fun t19 =>
    pBinI .sub .i64 t19 (.int .i64 1) fun t20 =>
    pCall Tryd.prog 32 [t15, t20] X w fun t21 w =>
    S w ∧ (R t21 w))
theorem draw_Source_Draw.b_eq (x0 : Value) (R : KV) (X : KX) (w : World) : atP Tryd.prog Tryd.f29 draw_Source_Draw.pl [] [] R X ([x0] ++ undefs 21) w = draw_Source_Draw.b x0 R X w := by kernel_rfl
theorem draw_Source_Draw.calls {x0 : Value} {R : KV} {X : KX} {w : World} (h : draw_Source_Draw.b x0 R X w) : GCalls Tryd.prog 29 [x0] R X w :=
  gcalls_of (pl := draw_Source_Draw.pl) Tryd.func29 rfl (by kernel_rfl) hmixed (draw_Source_Draw.b_eq x0 R X w ▸ h)

/-! oubliette/oublietteref14.At -/
def oublietteref14_At.pl : Nat → DrawPlan
  | _ => ⟨[], .done⟩
def oublietteref14_At.b (x0 : Value) (x1 : Value) (R : KV) (X : KX) (w : World) : Prop :=
  pCall Tryd.prog 53 [x1] X w fun t7 w =>
  pBinS .add (.string ⟨#[100, 114, 97, 119, 32]⟩) t7 fun t8 =>
  pCall Tryd.prog 15 [x0, t8] X w fun t9 w =>
  R t9 w
theorem oublietteref14_At.b_eq (x0 : Value) (x1 : Value) (R : KV) (X : KX) (w : World) : atP Tryd.prog Tryd.f30 oublietteref14_At.pl [] [] R X ([x0, x1] ++ undefs 8) w = oublietteref14_At.b x0 x1 R X w := by kernel_rfl
theorem oublietteref14_At.calls {x0 x1 : Value} {R : KV} {X : KX} {w : World} (h : oublietteref14_At.b x0 x1 R X w) : GCalls Tryd.prog 30 [x0, x1] R X w :=
  gcalls_of (pl := oublietteref14_At.pl) Tryd.func30 rfl (by kernel_rfl) hmixed (oublietteref14_At.b_eq x0 x1 R X w ▸ h)

/-! (*oubliette/draw.Source).Drawn -/
def draw_Source_Drawn.pl : Nat → DrawPlan
  | _ => ⟨[], .done⟩
def draw_Source_Drawn.b (x0 : Value) (R : KV) (X : KX) (w : World) : Prop :=
  pEq .ptr false x0 (.pointer none) fun t4 =>
  scond t4
  (R (.int .i64 0) w)
  (pNil x0 fun t6 =>
    pFA 1 t6 fun t7 =>
    pLd (· = w) t7 fun t8 =>
    R t8 w)
theorem draw_Source_Drawn.b_eq (x0 : Value) (R : KV) (X : KX) (w : World) : atP Tryd.prog Tryd.f31 draw_Source_Drawn.pl [] [] R X ([x0] ++ undefs 8) w = draw_Source_Drawn.b x0 R X w := by kernel_rfl
theorem draw_Source_Drawn.calls {x0 : Value} {R : KV} {X : KX} {w : World} (h : draw_Source_Drawn.b x0 R X w) : GCalls Tryd.prog 31 [x0] R X w :=
  gcalls_of (pl := draw_Source_Drawn.pl) Tryd.func31 rfl (by kernel_rfl) hmixed (draw_Source_Drawn.b_eq x0 R X w ▸ h)

/-! oubliette/draw.At -/
def draw_At.pl : Nat → DrawPlan
  | _ => ⟨[], .done⟩
def draw_At.b (x0 : Value) (x1 : Value) (R : KV) (X : KX) (w : World) : Prop :=
  pCall Tryd.prog 55 [x1] X w fun t7 w =>
  pBinS .add (.string ⟨#[100, 114, 97, 119, 32]⟩) t7 fun t8 =>
  pCall Tryd.prog 54 [x0, t8] X w fun t9 w =>
  R t9 w
theorem draw_At.b_eq (x0 : Value) (x1 : Value) (R : KV) (X : KX) (w : World) : atP Tryd.prog Tryd.f32 draw_At.pl [] [] R X ([x0, x1] ++ undefs 8) w = draw_At.b x0 x1 R X w := by kernel_rfl
theorem draw_At.calls {x0 x1 : Value} {R : KV} {X : KX} {w : World} (h : draw_At.b x0 x1 R X w) : GCalls Tryd.prog 32 [x0, x1] R X w :=
  gcalls_of (pl := draw_At.pl) Tryd.func32 rfl (by kernel_rfl) hmixed (draw_At.b_eq x0 x1 R X w ▸ h)
end Go.Proofs.YtkpgmaiklfjjgaaDoor
end
