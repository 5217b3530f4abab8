/-
  The functions' own code as conditions on values and worlds; the kernel checks that each is the code's own.
-/
import Derived.Test.YtkpgmaiklfjjgaaMaad
import Derived.Test.YtkpgmaiklfjjgaaProg
section
set_option maxRecDepth 100000
set_option linter.unusedVariables false
namespace Go.Proofs.Ytkpgmaiklfjjgaa
open Go.G
theorem hmixed : Try.prog.follows .mixedOrders = true := by kernel_rfl
/-! oubliette/oubliettelaw15.Light -/
def oubliettelaw15_Light.pl : Nat → DrawPlan
  | _ => ⟨[], .done⟩
def oubliettelaw15_Light.b1 (x0 : Value) (x3 : Value) (g : Nat → Value) (N1 : List Value → World → Prop) (R : KV) (X : KX) (w : World) : Prop :=
  pLenSl x0 fun t9 =>
  pBinI .lss .i64 x3 t9 fun t10 =>
  scond t10
  (pIA 4 x0 x3 fun t15 =>
    pFA 3 t15 fun t16 =>
    pLd (· = w) t16 fun t17 =>
    pLenS t17 fun t18 =>
    pBinI .gtr .i64 t18 (.int .i64 40) fun t19 =>
    scond t19
    (R (.bool false) w)
    (pBinI .add .i64 x3 (.int .i64 1) fun t12 =>
      N1 [x0, (g 1), (g 2), t12, (g 4), (g 5), (g 6), x3, x0, t9, t10, x3, t12, x0, x3, t15, t16, t17, t18, t19] w))
  (R (.bool true) w)
def oubliettelaw15_Light.I1 (e : List Value) (R : KV) (X : KX) (w : World) : Prop := atP Try.prog Try.f20 oubliettelaw15_Light.pl [1, 1, 0, 1, 0] [] R X e w
theorem oubliettelaw15_Light.I1_eq (e : List Value) (R : KV) (X : KX) (w : World) : oubliettelaw15_Light.I1 e R X w = loopS (fun N e w => atP Try.prog Try.f20 oubliettelaw15_Light.pl [1, 1, 0, 1, 0, 0] [N] R X e w) e w := by kernel_rfl
def oubliettelaw15_Light.fr1 (x0 : Value) (x3 : Value) (g : Nat → Value) : List Value := [x0, g 1, g 2, x3, g 4, g 5, g 6, g 7, g 8, g 9, g 10, g 11, g 12, g 13, g 14, g 15, g 16, g 17, g 18, g 19]
theorem oubliettelaw15_Light.b1_eq (x0 : Value) (x3 : Value) (g : Nat → Value) (N1 : List Value → World → Prop) (R : KV) (X : KX) (w : World) : atP Try.prog Try.f20 oubliettelaw15_Light.pl [1, 1, 0, 1, 0, 0] [N1] R X (oubliettelaw15_Light.fr1 x0 x3 g) w = oubliettelaw15_Light.b1 x0 x3 g N1 R X w := by kernel_rfl
/-- What a round of this loop hands on. -/
def oubliettelaw15_Light.N1 (J : Value → World → Prop) (m : Value → World → Nat) (x0 : Value) (x3 : Value) (w : World) : List Value → World → Prop := fun e w' => (∃ y3 g, e = oubliettelaw15_Light.fr1 x0 y3 g ∧ J y3 w') ∧ m (nth e 3) w' < m x3 w
theorem oubliettelaw15_Light.leaf1 {J : Value → World → Prop} {m : Value → World → Nat} {x0 : Value} {x3 : Value} {w w' : World} {e1 e2 e3 e4 e5 e6 e7 e8 e9 e10 e11 e12 e13 e14 e15 e16 e17 e18 e19 : Value} (h : J e3 w') (hm : m e3 w' < m x3 w) : oubliettelaw15_Light.N1 J m x0 x3 w [x0, e1, e2, e3, e4, e5, e6, e7, e8, e9, e10, e11, e12, e13, e14, e15, e16, e17, e18, e19] w' :=
  ⟨⟨e3, (fun i => nth [x0, e1, e2, e3, e4, e5, e6, e7, e8, e9, e10, e11, e12, e13, e14, e15, e16, e17, e18, e19] i), rfl, h⟩, hm⟩
theorem oubliettelaw15_Light.loop1 (J : Value → World → Prop) (m : Value → World → Nat) {R : KV} {X : KX} {w : World} {x0 : Value} {e1 e2 e3 e4 e5 e6 e7 e8 e9 e10 e11 e12 e13 e14 e15 e16 e17 e18 e19 : Value} (h0 : J e3 w)
    (hr : ∀ x3 g w, J x3 w → oubliettelaw15_Light.b1 x0 x3 g (oubliettelaw15_Light.N1 J m x0 x3 w) R X w) : oubliettelaw15_Light.I1 [x0, e1, e2, e3, e4, e5, e6, e7, e8, e9, e10, e11, e12, e13, e14, e15, e16, e17, e18, e19] R X w := by
  rw [oubliettelaw15_Light.I1_eq]
  refine ⟨fun e w => ∃ y3 g, e = oubliettelaw15_Light.fr1 x0 y3 g ∧ J y3 w, fun e w => m (nth e 3) w, ⟨e3, (fun i => nth [x0, e1, e2, e3, e4, e5, e6, e7, e8, e9, e10, e11, e12, e13, e14, e15, e16, e17, e18, e19] i), rfl, h0⟩, ?_⟩
  rintro _ w ⟨y3, g, rfl, hJ⟩
  rw [oubliettelaw15_Light.b1_eq]
  exact hr y3 g w hJ
def oubliettelaw15_Light.b (x0 : Value) (R : KV) (X : KX) (w : World) : Prop :=
  pLenSl x0 fun t5 =>
  pBinI .gtr .i64 t5 (.int .i64 60) fun t6 =>
  scond t6
  (R (.bool false) w)
  (oubliettelaw15_Light.I1 [x0, undef, (.bool false), (.int .i64 0), x0, t5, t6, undef, undef, undef, undef, undef, undef, undef, undef, undef, undef, undef, undef, undef] R X w)
theorem oubliettelaw15_Light.b_eq (x0 : Value) (R : KV) (X : KX) (w : World) : atP Try.prog Try.f20 oubliettelaw15_Light.pl [] [] R X ([x0] ++ undefs 19) w = oubliettelaw15_Light.b x0 R X w := by kernel_rfl
theorem oubliettelaw15_Light.calls {x0 : Value} {R : KV} {X : KX} {w : World} (h : oubliettelaw15_Light.b x0 R X w) : GCalls Try.prog 20 [x0] R X w :=
  gcalls_of (pl := oubliettelaw15_Light.pl) Try.func20 rfl (by kernel_rfl) hmixed (oubliettelaw15_Light.b_eq x0 R X w ▸ h)

/-! oubliette/term.New -/
def term_New.pl : Nat → DrawPlan
  | _ => ⟨[], .done⟩
def term_New.b (R : KV) (X : KX) (w : World) : Prop :=
  pMap w fun t1 w =>
  pBuild [.slice none 0 0, .slice none 0 0, .map none, .int .i64 0] [(2, 1, t1)] fun t2 =>
  pBox 72 t2 w fun t3 w =>
  R t3 w
theorem term_New.b_eq (R : KV) (X : KX) (w : World) : atP Try.prog Try.f21 term_New.pl [] [] R X ([] ++ undefs 4) w = term_New.b R X w := by kernel_rfl
theorem term_New.calls {R : KV} {X : KX} {w : World} (h : term_New.b R X w) : GCalls Try.prog 21 [] R X w :=
  gcalls_of (pl := term_New.pl) Try.func21 rfl (by kernel_rfl) hmixed (term_New.b_eq R X w ▸ h)

/-! (*oubliette/term.Table).Atom -/
def term_Table_Atom.pl : Nat → DrawPlan
  | _ => ⟨[], .done⟩
def term_Table_Atom.b (x0 : Value) (R : KV) (X : KX) (w : World) : Prop :=
  pEq .ptr false x0 (.pointer none) fun t4 =>
  scond t4
  (R (.int .i64 0) w)
  (pNil x0 fun t6 =>
    pFA 3 t6 fun t7 =>
    pLd (· = w) t7 fun t8 =>
    pBinI .add .i64 t8 (.int .i64 1) fun t9 =>
    pNil x0 fun t10 =>
    pFA 3 t10 fun t11 =>
    pSt t11 t9 w fun _ w =>
    pNil x0 fun t14 =>
    pFA 3 t14 fun t15 =>
    pLd (· = w) t15 fun t16 =>
    pBinI .sub .i64 t16 (.int .i64 1) fun t17 =>
    pBuild [.int .i64 0] [(0, 1, t17)] fun t18 =>
    pCall Try.prog 37 [x0, (.iface 75 t18), (.slice none 0 0)] X w fun t20 w =>
    R t20 w)
theorem term_Table_Atom.b_eq (x0 : Value) (R : KV) (X : KX) (w : World) : atP Try.prog Try.f22 term_Table_Atom.pl [] [] R X ([x0] ++ undefs 20) w = term_Table_Atom.b x0 R X w := by kernel_rfl
theorem term_Table_Atom.calls {x0 : Value} {R : KV} {X : KX} {w : World} (h : term_Table_Atom.b x0 R X w) : GCalls Try.prog 22 [x0] R X w :=
  gcalls_of (pl := term_Table_Atom.pl) Try.func22 rfl (by kernel_rfl) hmixed (term_Table_Atom.b_eq x0 R X w ▸ h)

/-! (*oubliette/term.Table).Enc -/
def term_Table_Enc.pl : Nat → DrawPlan
  | _ => ⟨[], .done⟩
def term_Table_Enc.b (x0 : Value) (x1 : Value) (x2 : Value) (R : KV) (X : KX) (w : World) : Prop :=
  pBuild [.int .i64 0, .int .i64 0, .int .i64 0, .string ⟨#[]⟩] [(0, 1, (.int .i64 5)), (1, 1, x1), (2, 1, x2), (3, 1, (.string ⟨#[]⟩))] fun t10 =>
  pBuild [.int .i64 0, .int .i64 0] [(0, 1, x1), (1, 1, x2)] fun t13 =>
  pBSlice 3 2 (rowOf [.int .i64 0] 2) [(0, 1, x1), (1, 1, x2)] w fun t17 w =>
  pCall Try.prog 38 [x0, t10, (.iface 80 t13), t17] X w fun t18 w =>
  R t18 w
theorem term_Table_Enc.b_eq (x0 : Value) (x1 : Value) (x2 : Value) (R : KV) (X : KX) (w : World) : atP Try.prog Try.f23 term_Table_Enc.pl [] [] R X ([x0, x1, x2] ++ undefs 16) w = term_Table_Enc.b x0 x1 x2 R X w := by kernel_rfl
theorem term_Table_Enc.calls {x0 x1 x2 : Value} {R : KV} {X : KX} {w : World} (h : term_Table_Enc.b x0 x1 x2 R X w) : GCalls Try.prog 23 [x0, x1, x2] R X w :=
  gcalls_of (pl := term_Table_Enc.pl) Try.func23 rfl (by kernel_rfl) hmixed (term_Table_Enc.b_eq x0 x1 x2 R X w ▸ h)

/-! oubliette/oubliettelaw15.Do -/
def oubliettelaw15_Do.pl : Nat → DrawPlan
  | _ => ⟨[], .done⟩
def oubliettelaw15_Do.b (x0 : Value) (x1 : Value) (R : KV) (X : KX) (w : World) : Prop :=
  pBox 50 x1 w fun t3 w =>
  pFA 0 t3 fun t5 =>
  pLd (· = w) t5 fun t6 =>
  pBinI .eql .i64 t6 (.int .i64 1) fun t8 =>
  scond t8
  (pCall Try.prog 22 [x0] X w fun t10 w =>
    R t10 w)
  (pBinI .eql .i64 t6 (.int .i64 2) fun t12 =>
    scond t12
    (pFA 3 t3 fun t14 =>
      pLd (· = w) t14 fun t15 =>
      pCall Try.prog 39 [x0, t15] X w fun t16 w =>
      R t16 w)
    (pBinI .eql .i64 t6 (.int .i64 3) fun t18 =>
      scond t18
      (pFA 1 t3 fun t20 =>
        pLd (· = w) t20 fun t21 =>
        pFA 3 t3 fun t22 =>
        pLd (· = w) t22 fun t23 =>
        pCall Try.prog 40 [x0, t21, t23] X w fun t24 w =>
        R t24 w)
      (pBinI .eql .i64 t6 (.int .i64 4) fun t26 =>
        scond t26
        (pFA 1 t3 fun t28 =>
          pLd (· = w) t28 fun t29 =>
          pFA 2 t3 fun t30 =>
          pLd (· = w) t30 fun t31 =>
          pCall Try.prog 41 [x0, t29, t31] X w fun t32 w =>
          R t32 w)
        (pFA 1 t3 fun t34 =>
          pLd (· = w) t34 fun t35 =>
          pFA 2 t3 fun t36 =>
          pLd (· = w) t36 fun t37 =>
          pCall Try.prog 23 [x0, t35, t37] X w fun t38 w =>
          R t38 w))))
theorem oubliettelaw15_Do.b_eq (x0 : Value) (x1 : Value) (R : KV) (X : KX) (w : World) : atP Try.prog Try.f24 oubliettelaw15_Do.pl [] [] R X ([x0, x1] ++ undefs 37) w = oubliettelaw15_Do.b x0 x1 R X w := by kernel_rfl
theorem oubliettelaw15_Do.calls {x0 x1 : Value} {R : KV} {X : KX} {w : World} (h : oubliettelaw15_Do.b x0 x1 R X w) : GCalls Try.prog 24 [x0, x1] R X w :=
  gcalls_of (pl := oubliettelaw15_Do.pl) Try.func24 rfl (by kernel_rfl) hmixed (oubliettelaw15_Do.b_eq x0 x1 R X w ▸ h)

/-! oubliette/oubliettelaw15.Of -/
def oubliettelaw15_Of.pl : Nat → DrawPlan
  | _ => ⟨[], .done⟩
def oubliettelaw15_Of.b (x0 : Value) (x1 : Value) (R : KV) (X : KX) (w : World) : Prop :=
  pBox 50 x1 w fun t3 w =>
  pFA 0 t3 fun t6 =>
  pLd (· = w) t6 fun t7 =>
  pBinI .eql .i64 t7 (.int .i64 1) fun t9 =>
  scond t9
  (pCall Try.prog 42 [x0] X w fun t11 w =>
    pExt t11 0 fun t12 =>
    pExt t11 1 fun t13 =>
    R (.tuple #[t12, t13]) w)
  (pBinI .eql .i64 t7 (.int .i64 2) fun t15 =>
    scond t15
    (pFA 3 t3 fun t17 =>
      pLd (· = w) t17 fun t18 =>
      pBuild [.int .i64 0, .int .i64 0, .int .i64 0, .string ⟨#[]⟩, .int .i64 0] [(0, 1, (.int .i64 2)), (3, 1, t18)] fun t19 =>
      pCall Try.prog 43 [x0, t19] X w fun t20 w =>
      pExt t20 0 fun t21 =>
      pExt t20 1 fun t22 =>
      R (.tuple #[t21, t22]) w)
    (pBinI .eql .i64 t7 (.int .i64 3) fun t24 =>
      scond t24
      (pFA 1 t3 fun t26 =>
        pLd (· = w) t26 fun t27 =>
        pFA 3 t3 fun t28 =>
        pLd (· = w) t28 fun t29 =>
        pBuild [.int .i64 0, .int .i64 0, .int .i64 0, .string ⟨#[]⟩, .int .i64 0] [(0, 1, (.int .i64 3)), (1, 1, t27), (3, 1, t29)] fun t30 =>
        pCall Try.prog 43 [x0, t30] X w fun t31 w =>
        pExt t31 0 fun t32 =>
        pExt t31 1 fun t33 =>
        R (.tuple #[t32, t33]) w)
      (pBinI .eql .i64 t7 (.int .i64 4) fun t35 =>
        scond t35
        (pFA 1 t3 fun t37 =>
          pLd (· = w) t37 fun t38 =>
          pFA 2 t3 fun t39 =>
          pLd (· = w) t39 fun t40 =>
          pBuild [.int .i64 0, .int .i64 0, .int .i64 0, .string ⟨#[]⟩, .int .i64 0] [(0, 1, (.int .i64 4)), (1, 1, t38), (2, 1, t40)] fun t41 =>
          pCall Try.prog 43 [x0, t41] X w fun t42 w =>
          pExt t42 0 fun t43 =>
          pExt t42 1 fun t44 =>
          R (.tuple #[t43, t44]) w)
        (pFA 1 t3 fun t46 =>
          pLd (· = w) t46 fun t47 =>
          pFA 2 t3 fun t48 =>
          pLd (· = w) t48 fun t49 =>
          pBuild [.int .i64 0, .int .i64 0, .int .i64 0, .string ⟨#[]⟩, .int .i64 0] [(0, 1, (.int .i64 5)), (1, 1, t47), (2, 1, t49)] fun t50 =>
          pCall Try.prog 43 [x0, t50] X w fun t51 w =>
          pExt t51 0 fun t52 =>
          pExt t51 1 fun t53 =>
          R (.tuple #[t52, t53]) w))))
theorem oubliettelaw15_Of.b_eq (x0 : Value) (x1 : Value) (R : KV) (X : KX) (w : World) : atP Try.prog Try.f25 oubliettelaw15_Of.pl [] [] R X ([x0, x1] ++ undefs 52) w = oubliettelaw15_Of.b x0 x1 R X w := by kernel_rfl
theorem oubliettelaw15_Of.calls {x0 x1 : Value} {R : KV} {X : KX} {w : World} (h : oubliettelaw15_Of.b x0 x1 R X w) : GCalls Try.prog 25 [x0, x1] R X w :=
  gcalls_of (pl := oubliettelaw15_Of.pl) Try.func25 rfl (by kernel_rfl) hmixed (oubliettelaw15_Of.b_eq x0 x1 R X w ▸ h)

/-! (*oubliette/term.Table).Kind -/
def term_Table_Kind.pl : Nat → DrawPlan
  | _ => ⟨[], .done⟩
def term_Table_Kind.b (x0 : Value) (x1 : Value) (R : KV) (X : KX) (w : World) : Prop :=
  pBSlice 3 1 (rowOf [.int .i64 0] 1) [(0, 1, x1)] w fun t16 w =>
  pCall Try.prog 44 [x0, t16] X w fun t17 w =>
  pNot t17 fun t18 =>
  scond t18
  (R (.int .i64 0) w)
  (pNil x0 fun t20 =>
    pFA 0 t20 fun t21 =>
    pLd (· = w) t21 fun t22 =>
    pBinI .sub .i64 x1 (.int .i64 1) fun t24 =>
    pIA 1 t22 t24 fun t25 =>
    pLd (· = w) t25 fun t26 =>
    pRun Try.prog (Instr.typeAssert t26 20 75 true) w fun t29 w =>
    pExt t29 0 fun t30 =>
    pExt t29 1 fun t31 =>
    pBox 75 (.agg #[.int .i64 0]) w fun t6 w =>
    pStN 1 t6 t30 w fun _ w =>
    scond t31
    (R (.int .i64 1) w)
    (pRun Try.prog (Instr.typeAssert t26 20 90 true) w fun t35 w =>
      pExt t35 0 fun t36 =>
      pExt t35 1 fun t37 =>
      pBox 90 (.agg #[.string ⟨#[]⟩]) w fun t8 w =>
      pStN 1 t8 t36 w fun _ w =>
      scond t37
      (R (.int .i64 2) w)
      (pRun Try.prog (Instr.typeAssert t26 20 93 true) w fun t41 w =>
        pExt t41 0 fun t42 =>
        pExt t41 1 fun t43 =>
        pBox 93 (.agg #[.int .i64 0, .string ⟨#[]⟩]) w fun t10 w =>
        pStN 2 t10 t42 w fun _ w =>
        scond t43
        (R (.int .i64 3) w)
        (pRun Try.prog (Instr.typeAssert t26 20 96 true) w fun t47 w =>
          pExt t47 0 fun t48 =>
          pExt t47 1 fun t49 =>
          pBox 96 (.agg #[.int .i64 0, .int .i64 0]) w fun t12 w =>
          pStN 2 t12 t48 w fun _ w =>
          scond t49
          (R (.int .i64 4) w)
          (R (.int .i64 5) w)))))
theorem term_Table_Kind.b_eq (x0 : Value) (x1 : Value) (R : KV) (X : KX) (w : World) : atP Try.prog Try.f26 term_Table_Kind.pl [] [] R X ([x0, x1] ++ undefs 49) w = term_Table_Kind.b x0 x1 R X w := by kernel_rfl
theorem term_Table_Kind.calls {x0 x1 : Value} {R : KV} {X : KX} {w : World} (h : term_Table_Kind.b x0 x1 R X w) : GCalls Try.prog 26 [x0, x1] R X w :=
  gcalls_of (pl := term_Table_Kind.pl) Try.func26 rfl (by kernel_rfl) hmixed (term_Table_Kind.b_eq x0 x1 R X w ▸ h)

/-! (*oubliette/term.Table).Parts -/
def term_Table_Parts.pl : Nat → DrawPlan
  | _ => ⟨[], .done⟩
def term_Table_Parts.b (x0 : Value) (x1 : Value) (R : KV) (X : KX) (w : World) : Prop :=
  pBSlice 3 1 (rowOf [.int .i64 0] 1) [(0, 1, x1)] w fun t10 w =>
  pCall Try.prog 44 [x0, t10] X w fun t11 w =>
  pNot t11 fun t12 =>
  scond t12
  (R (.slice none 0 0) w)
  (pNil x0 fun t14 =>
    pFA 0 t14 fun t15 =>
    pLd (· = w) t15 fun t16 =>
    pBinI .sub .i64 x1 (.int .i64 1) fun t18 =>
    pIA 1 t16 t18 fun t19 =>
    pLd (· = w) t19 fun t20 =>
    pRun Try.prog (Instr.typeAssert t20 20 93 true) w fun t21 w =>
    pExt t21 1 fun t22 =>
    pExt t21 0 fun t23 =>
    scond t22
    (pBox 93 (.agg #[.int .i64 0, .string ⟨#[]⟩]) w fun t5 w =>
      pStN 2 t5 t23 w fun _ w =>
      pFA 0 t5 fun t24 =>
      pLd (· = w) t24 fun t25 =>
      pBSlice 3 1 (rowOf [.int .i64 0] 1) [(0, 1, t25)] w fun t26 w =>
      R t26 w)
    (pRun Try.prog (Instr.typeAssert t20 20 96 true) w fun t27 w =>
      pExt t27 1 fun t28 =>
      pExt t27 0 fun t29 =>
      scond t28
      (pBox 96 (.agg #[.int .i64 0, .int .i64 0]) w fun t6 w =>
        pStN 2 t6 t29 w fun _ w =>
        pFA 0 t6 fun t30 =>
        pLd (· = w) t30 fun t31 =>
        pFA 1 t6 fun t32 =>
        pLd (· = w) t32 fun t33 =>
        pBSlice 3 2 (rowOf [.int .i64 0] 2) [(0, 1, t31), (1, 1, t33)] w fun t34 w =>
        R t34 w)
      (pRun Try.prog (Instr.typeAssert t20 20 80 true) w fun t35 w =>
        pExt t35 1 fun t36 =>
        pExt t35 0 fun t37 =>
        scond t36
        (pBox 80 (.agg #[.int .i64 0, .int .i64 0]) w fun t7 w =>
          pStN 2 t7 t37 w fun _ w =>
          pFA 0 t7 fun t38 =>
          pLd (· = w) t38 fun t39 =>
          pFA 1 t7 fun t40 =>
          pLd (· = w) t40 fun t41 =>
          pBSlice 3 2 (rowOf [.int .i64 0] 2) [(0, 1, t39), (1, 1, t41)] w fun t42 w =>
          R t42 w)
        (R (.slice none 0 0) w))))
theorem term_Table_Parts.b_eq (x0 : Value) (x1 : Value) (R : KV) (X : KX) (w : World) : atP Try.prog Try.f30 term_Table_Parts.pl [] [] R X ([x0, x1] ++ undefs 41) w = term_Table_Parts.b x0 x1 R X w := by kernel_rfl
theorem term_Table_Parts.calls {x0 x1 : Value} {R : KV} {X : KX} {w : World} (h : term_Table_Parts.b x0 x1 R X w) : GCalls Try.prog 30 [x0, x1] R X w :=
  gcalls_of (pl := term_Table_Parts.pl) Try.func30 rfl (by kernel_rfl) hmixed (term_Table_Parts.b_eq x0 x1 R X w ▸ h)

/-! (oubliette/oublietteref15.Table).Kind -/
def oublietteref15_Table_Kind.pl : Nat → DrawPlan
  | _ => ⟨[], .done⟩
def oublietteref15_Table_Kind.b (x0 : Value) (x1 : Value) (R : KV) (X : KX) (w : World) : Prop :=
  pCall Try.prog 47 [x0, x1] X w fun t7 w =>
  pNot t7 fun t8 =>
  scond t8
  (R (.int .i64 0) w)
  (pBinI .sub .i64 x1 (.int .i64 1) fun t11 =>
    pIA 5 x0 t11 fun t12 =>
    pFA 0 t12 fun t13 =>
    pLd (· = w) t13 fun t14 =>
    R t14 w)
theorem oublietteref15_Table_Kind.b_eq (x0 : Value) (x1 : Value) (R : KV) (X : KX) (w : World) : atP Try.prog Try.f31 oublietteref15_Table_Kind.pl [] [] R X ([x0, x1] ++ undefs 13) w = oublietteref15_Table_Kind.b x0 x1 R X w := by kernel_rfl
theorem oublietteref15_Table_Kind.calls {x0 x1 : Value} {R : KV} {X : KX} {w : World} (h : oublietteref15_Table_Kind.b x0 x1 R X w) : GCalls Try.prog 31 [x0, x1] R X w :=
  gcalls_of (pl := oublietteref15_Table_Kind.pl) Try.func31 rfl (by kernel_rfl) hmixed (oublietteref15_Table_Kind.b_eq x0 x1 R X w ▸ h)

/-! (oubliette/oublietteref15.Table).Parts -/
def oublietteref15_Table_Parts.pl : Nat → DrawPlan
  | _ => ⟨[], .done⟩
def oublietteref15_Table_Parts.b (x0 : Value) (x1 : Value) (R : KV) (X : KX) (w : World) : Prop :=
  pCall Try.prog 47 [x0, x1] X w fun t8 w =>
  pNot t8 fun t9 =>
  gIf t9 false (fun K => K x0) fun t11 =>
  gIf t9 false (fun K => K x1) fun t12 =>
  gIf t9 false (fun K => pBinI .sub .i64 t12 (.int .i64 1) K) fun t13 =>
  gIf t9 false (fun K => pIA 5 t11 t13 K) fun t14 =>
  gIf t9 false (fun K => pFA 0 t14 K) fun t15 =>
  gIf t9 false (fun K => pLd (· = w) t15 K) fun t16 =>
  gIf t9 false (fun K => pBinI .lss .i64 t16 (.int .i64 3) K) fun t17 =>
  pPick t9 (.bool true) t17 fun t18 =>
  scond t18
  (R (.slice none 0 0) w)
  (pBinI .sub .i64 x1 (.int .i64 1) fun t21 =>
    pIA 5 x0 t21 fun t22 =>
    pLdN (· = w) 5 t22 fun t23 =>
    pBox 86 (.agg #[.int .i64 0, .int .i64 0, .int .i64 0, .string ⟨#[]⟩, .int .i64 0]) w fun t5 w =>
    pStN 5 t5 t23 w fun _ w =>
    pFA 0 t5 fun t24 =>
    pLd (· = w) t24 fun t25 =>
    pBinI .eql .i64 t25 (.int .i64 3) fun t26 =>
    scond t26
    (pFA 1 t5 fun t27 =>
      pLd (· = w) t27 fun t28 =>
      pBSlice 3 1 (rowOf [.int .i64 0] 1) [(0, 1, t28)] w fun t29 w =>
      R t29 w)
    (pFA 1 t5 fun t30 =>
      pLd (· = w) t30 fun t31 =>
      pFA 2 t5 fun t32 =>
      pLd (· = w) t32 fun t33 =>
      pBSlice 3 2 (rowOf [.int .i64 0] 2) [(0, 1, t31), (1, 1, t33)] w fun t34 w =>
      R t34 w))
theorem oublietteref15_Table_Parts.b_eq (x0 : Value) (x1 : Value) (R : KV) (X : KX) (w : World) : atP Try.prog Try.f32 oublietteref15_Table_Parts.pl [] [] R X ([x0, x1] ++ undefs 33) w = oublietteref15_Table_Parts.b x0 x1 R X w := by kernel_rfl
theorem oublietteref15_Table_Parts.calls {x0 x1 : Value} {R : KV} {X : KX} {w : World} (h : oublietteref15_Table_Parts.b x0 x1 R X w) : GCalls Try.prog 32 [x0, x1] R X w :=
  gcalls_of (pl := oublietteref15_Table_Parts.pl) Try.func32 rfl (by kernel_rfl) hmixed (oublietteref15_Table_Parts.b_eq x0 x1 R X w ▸ h)

/-! oubliette/oublietteref01.Has -/
def oublietteref01_Has.pl : Nat → DrawPlan
  | _ => ⟨[], .done⟩
def oublietteref01_Has.b1 (x0 : Value) (x1 : Value) (x5 : Value) (g : Nat → Value) (N1 : List Value → World → Prop) (R : KV) (X : KX) (w : World) : Prop :=
  pLenSl x0 fun t8 =>
  pBinI .lss .i64 x5 t8 fun t9 =>
  scond t9
  (pIA 1 x0 x5 fun t14 =>
    pLd (· = w) t14 fun t15 =>
    pBinI .eql .i64 t15 x1 fun t17 =>
    scond t17
    (R (.bool true) w)
    (pBinI .add .i64 x5 (.int .i64 1) fun t11 =>
      N1 [x0, x1, (g 2), (g 3), (g 4), t11, x5, x0, t8, t9, x5, t11, x0, x5, t14, t15, x1, t17] w))
  (R (.bool false) w)
def oublietteref01_Has.I1 (e : List Value) (R : KV) (X : KX) (w : World) : Prop := atP Try.prog Try.f36 oublietteref01_Has.pl [1, 0, 1, 0] [] R X e w
theorem oublietteref01_Has.I1_eq (e : List Value) (R : KV) (X : KX) (w : World) : oublietteref01_Has.I1 e R X w = loopS (fun N e w => atP Try.prog Try.f36 oublietteref01_Has.pl [1, 0, 1, 0, 0] [N] R X e w) e w := by kernel_rfl
def oublietteref01_Has.fr1 (x0 : Value) (x1 : Value) (x5 : Value) (g : Nat → Value) : List Value := [x0, x1, g 2, g 3, g 4, x5, g 6, g 7, g 8, g 9, g 10, g 11, g 12, g 13, g 14, g 15, g 16, g 17]
theorem oublietteref01_Has.b1_eq (x0 : Value) (x1 : Value) (x5 : Value) (g : Nat → Value) (N1 : List Value → World → Prop) (R : KV) (X : KX) (w : World) : atP Try.prog Try.f36 oublietteref01_Has.pl [1, 0, 1, 0, 0] [N1] R X (oublietteref01_Has.fr1 x0 x1 x5 g) w = oublietteref01_Has.b1 x0 x1 x5 g N1 R X w := by kernel_rfl
/-- What a round of this loop hands on. -/
def oublietteref01_Has.N1 (J : Value → World → Prop) (m : Value → World → Nat) (x0 : Value) (x1 : Value) (x5 : Value) (w : World) : List Value → World → Prop := fun e w' => (∃ y5 g, e = oublietteref01_Has.fr1 x0 x1 y5 g ∧ J y5 w') ∧ m (nth e 5) w' < m x5 w
theorem oublietteref01_Has.leaf1 {J : Value → World → Prop} {m : Value → World → Nat} {x0 : Value} {x1 : Value} {x5 : Value} {w w' : World} {e2 e3 e4 e5 e6 e7 e8 e9 e10 e11 e12 e13 e14 e15 e16 e17 : Value} (h : J e5 w') (hm : m e5 w' < m x5 w) : oublietteref01_Has.N1 J m x0 x1 x5 w [x0, x1, e2, e3, e4, e5, e6, e7, e8, e9, e10, e11, e12, e13, e14, e15, e16, e17] w' :=
  ⟨⟨e5, (fun i => nth [x0, x1, e2, e3, e4, e5, e6, e7, e8, e9, e10, e11, e12, e13, e14, e15, e16, e17] i), rfl, h⟩, hm⟩
theorem oublietteref01_Has.loop1 (J : Value → World → Prop) (m : Value → World → Nat) {R : KV} {X : KX} {w : World} {x0 : Value} {x1 : Value} {e2 e3 e4 e5 e6 e7 e8 e9 e10 e11 e12 e13 e14 e15 e16 e17 : Value} (h0 : J e5 w)
    (hr : ∀ x5 g w, J x5 w → oublietteref01_Has.b1 x0 x1 x5 g (oublietteref01_Has.N1 J m x0 x1 x5 w) R X w) : oublietteref01_Has.I1 [x0, x1, e2, e3, e4, e5, e6, e7, e8, e9, e10, e11, e12, e13, e14, e15, e16, e17] R X w := by
  rw [oublietteref01_Has.I1_eq]
  refine ⟨fun e w => ∃ y5 g, e = oublietteref01_Has.fr1 x0 x1 y5 g ∧ J y5 w, fun e w => m (nth e 5) w, ⟨e5, (fun i => nth [x0, x1, e2, e3, e4, e5, e6, e7, e8, e9, e10, e11, e12, e13, e14, e15, e16, e17] i), rfl, h0⟩, ?_⟩
  rintro _ w ⟨y5, g, rfl, hJ⟩
  rw [oublietteref01_Has.b1_eq]
  exact hr y5 g w hJ
def oublietteref01_Has.b (x0 : Value) (x1 : Value) (R : KV) (X : KX) (w : World) : Prop :=
  oublietteref01_Has.I1 [x0, x1, undef, undef, (.bool false), (.int .i64 0), undef, undef, undef, undef, undef, undef, undef, undef, undef, undef, undef, undef] R X w
theorem oublietteref01_Has.b_eq (x0 : Value) (x1 : Value) (R : KV) (X : KX) (w : World) : atP Try.prog Try.f36 oublietteref01_Has.pl [] [] R X ([x0, x1] ++ undefs 16) w = oublietteref01_Has.b x0 x1 R X w := by kernel_rfl
theorem oublietteref01_Has.calls {x0 x1 : Value} {R : KV} {X : KX} {w : World} (h : oublietteref01_Has.b x0 x1 R X w) : GCalls Try.prog 36 [x0, x1] R X w :=
  gcalls_of (pl := oublietteref01_Has.pl) Try.func36 rfl (by kernel_rfl) hmixed (oublietteref01_Has.b_eq x0 x1 R X w ▸ h)

/-! (*oubliette/term.Table).put -/
def term_Table_put.pl : Nat → DrawPlan
  | 7 => ⟨[([], [16]), ([], [19]), ([], [3]), ([2], [2, 4]), ([3], [3, 5]), ([4], [4, 8]), ([], [7]), ([6], [6, 8]), ([5, 7], [5, 7, 18]), ([], [10]), ([9], [9, 11]), ([10], [10, 12]), ([11], [11, 15]), ([], [14]), ([13], [13, 15]), ([12, 14, 8], [12, 14, 21]), ([0, 0, 2, 3, 4, 5, 6, 7, 8, 12, 15], [0, 17]), ([16, 0, 2, 3, 4, 5, 6, 7, 8, 12, 15], [16, 18]), ([17, 8, 15, 0, 2, 3, 4, 5, 6, 7, 8, 12, 15], [8, 17]), ([1, 0, 1, 2, 3, 4, 5, 6, 7, 8, 9, 10, 11, 12, 13, 14, 15, 16, 17, 18], [1, 20]), ([19, 0, 1, 2, 3, 4, 5, 6, 7, 8, 9, 10, 11, 12, 13, 14, 15, 16, 17, 18], [19, 21]), ([20, 15, 18, 0, 1, 2, 3, 4, 5, 6, 7, 8, 9, 10, 11, 12, 13, 14, 15, 16, 17, 18], [15, 20])], .take 0 (.take 1 (.take 2 (.take 3 (.take 4 (.take 5 (.take 6 (.take 9 (.take 10 (.take 11 (.take 12 (.take 13 (.world 7 false (.world 8 false (.world 14 false (.world 15 false (.take 16 (.take 17 (.world 18 true (.take 19 (.take 20 (.world 21 true (.done) .none))) .none))) .none) .none) (.world 14 false (.world 8 false (.world 15 false (.take 16 (.take 17 (.world 18 true (.take 19 (.take 20 (.world 21 true (.done) .none))) .none))) .none) .none) .none)) (.world 14 false (.world 7 false (.world 8 false (.world 15 false (.take 16 (.take 17 (.world 18 true (.take 19 (.take 20 (.world 21 true (.done) .none))) .none))) .none) .none) .none) .none)))))))))))))⟩
  | _ => ⟨[], .done⟩
def term_Table_put.b1 (x0 : Value) (x1 : Value) (x7 : Value) (x10 : Value) (x11 : Value) (x12 : Value) (g : Nat → Value) (N1 : List Value → World → Prop) (R : KV) (X : KX) (w : World) : Prop :=
  pBinI .lss .i64 x12 x11 fun t13 =>
  scond t13
  (pIA 1 x10 x12 fun t14 =>
    pLd (· = w) t14 fun t15 =>
    pNil x0 fun t18 =>
    pFA 1 t18 fun t19 =>
    pLd (· = w) t19 fun t20 =>
    pBinI .sub .i64 t15 (.int .i64 1) fun t22 =>
    pIA 1 t20 t22 fun t23 =>
    pLd (· = w) t23 fun t24 =>
    pBinI .add .i64 x7 t24 fun t25 =>
    pMin t25 (.int .i64 1073741824) fun t26 =>
    pBinI .add .i64 x12 (.int .i64 1) fun t27 =>
    N1 [x0, x1, (g 2), (g 3), (g 4), (g 5), (g 6), t26, (g 8), t15, x10, x11, t27, t13, t14, t15, x7, x0, t18, t19, t20, t15, t22, t23, t24, t25, t26, t27, (g 28), (g 29), (g 30), (g 31), (g 32), (g 33), (g 34), (g 35), (g 36), (g 37), (g 38), (g 39), (g 40), (g 41), (g 42), (g 43), (g 44), (g 45), (g 46), (g 47), (g 48), (g 49), (g 50), (g 51), (g 52)] w)
  (drawn w fun S w =>
    pNil x0 fun t31 =>
    pFA 0 t31 fun t32 =>
    pLd S t32 fun t33 =>
    pNil x0 fun t38 =>
    pFA 1 t38 fun t39 =>
    pLd S t39 fun t40 =>
    (pBSlice 20 1 (rowOf [.nilIface] 1) [(0, 1, x1)] w fun t35 w =>
      S w ∧ ((pApp 20 1 16 [.nilIface] t33 t35 w fun t36 w =>
          S w ∧ (pBSlice 3 1 (rowOf [.int .i64 0] 1) [(0, 1, x7)] w fun t42 w =>
            S w ∧ (pApp 3 1 8 [.int .i64 0] t40 t42 w fun t43 w =>
              S w ∧ (pNil x0 fun t44 =>
                pFA 0 t44 fun t45 =>
                pSt t45 t36 w fun _ w =>
                anew w fun S w =>
                pNil x0 fun t46 =>
                pFA 1 t46 fun t47 =>
                pSt t47 t43 w fun _ w =>
                anew w fun S w =>
                pNil x0 fun t49 =>
                pFA 0 t49 fun t50 =>
                pLd (· = w) t50 fun t51 =>
                pLenSl t51 fun t52 =>
                R t52 w)))) ∧
        (pBSlice 3 1 (rowOf [.int .i64 0] 1) [(0, 1, x7)] w fun t42_1 w =>
          S w ∧ (pApp 20 1 16 [.nilIface] t33 t35 w fun t36_1 w =>
            S w ∧ (pApp 3 1 8 [.int .i64 0] t40 t42_1 w fun t43_1 w =>
              S w ∧ (pNil x0 fun t44_1 =>
                pFA 0 t44_1 fun t45_1 =>
                pSt t45_1 t36_1 w fun _ w =>
                anew w fun S w =>
                pNil x0 fun t46_1 =>
                pFA 1 t46_1 fun t47_1 =>
                pSt t47_1 t43_1 w fun _ w =>
                anew w fun S w =>
                pNil x0 fun t49_1 =>
                pFA 0 t49_1 fun t50_1 =>
                pLd (· = w) t50_1 fun t51_1 =>
                pLenSl t51_1 fun t52_1 =>
                R t52_1 w)))))) ∧
    (pBSlice 3 1 (rowOf [.int .i64 0] 1) [(0, 1, x7)] w fun t42_2 w =>
      S w ∧ (pBSlice 20 1 (rowOf [.nilIface] 1) [(0, 1, x1)] w fun t35_1 w =>
        S w ∧ (pApp 20 1 16 [.nilIface] t33 t35_1 w fun t36_2 w =>
          S w ∧ (pApp 3 1 8 [.int .i64 0] t40 t42_2 w fun t43_2 w =>
            S w ∧ (pNil x0 fun t44_2 =>
              pFA 0 t44_2 fun t45_2 =>
              pSt t45_2 t36_2 w fun _ w =>
              anew w fun S w =>
              pNil x0 fun t46_2 =>
              pFA 1 t46_2 fun t47_2 =>
              pSt t47_2 t43_2 w fun _ w =>
              anew w fun S w =>
              pNil x0 fun t49_2 =>
              pFA 0 t49_2 fun t50_2 =>
              pLd (· = w) t50_2 fun t51_2 =>
              pLenSl t51_2 fun t52_2 =>
              R t52_2 w))))))
def term_Table_put.I1 (e : List Value) (R : KV) (X : KX) (w : World) : Prop := atP Try.prog Try.f37 term_Table_put.pl [1, 1, 0, 1, 0] [] R X e w
theorem term_Table_put.I1_eq (e : List Value) (R : KV) (X : KX) (w : World) : term_Table_put.I1 e R X w = loopS (fun N e w => atP Try.prog Try.f37 term_Table_put.pl [1, 1, 0, 1, 0, 0] [N] R X e w) e w := by kernel_rfl
def term_Table_put.fr1 (x0 : Value) (x1 : Value) (x7 : Value) (x10 : Value) (x11 : Value) (x12 : Value) (g : Nat → Value) : List Value := [x0, x1, g 2, g 3, g 4, g 5, g 6, x7, g 8, g 9, x10, x11, x12, g 13, g 14, g 15, g 16, g 17, g 18, g 19, g 20, g 21, g 22, g 23, g 24, g 25, g 26, g 27, g 28, g 29, g 30, g 31, g 32, g 33, g 34, g 35, g 36, g 37, g 38, g 39, g 40, g 41, g 42, g 43, g 44, g 45, g 46, g 47, g 48, g 49, g 50, g 51, g 52]
theorem term_Table_put.b1_eq (x0 : Value) (x1 : Value) (x7 : Value) (x10 : Value) (x11 : Value) (x12 : Value) (g : Nat → Value) (N1 : List Value → World → Prop) (R : KV) (X : KX) (w : World) : atP Try.prog Try.f37 term_Table_put.pl [1, 1, 0, 1, 0, 0] [N1] R X (term_Table_put.fr1 x0 x1 x7 x10 x11 x12 g) w = term_Table_put.b1 x0 x1 x7 x10 x11 x12 g N1 R X w := by kernel_rfl
/-- What a round of this loop hands on. -/
def term_Table_put.N1 (J : Value → Value → World → Prop) (m : Value → Value → World → Nat) (x0 : Value) (x1 : Value) (x10 : Value) (x11 : Value) (x7 : Value) (x12 : Value) (w : World) : List Value → World → Prop := fun e w' => (∃ y7 y12 g, e = term_Table_put.fr1 x0 x1 y7 x10 x11 y12 g ∧ J y7 y12 w') ∧ m (nth e 7) (nth e 12) w' < m x7 x12 w
theorem term_Table_put.leaf1 {J : Value → Value → World → Prop} {m : Value → Value → World → Nat} {x0 : Value} {x1 : Value} {x7 : Value} {x10 : Value} {x11 : Value} {x12 : Value} {w w' : World} {e2 e3 e4 e5 e6 e7 e8 e9 e12 e13 e14 e15 e16 e17 e18 e19 e20 e21 e22 e23 e24 e25 e26 e27 e28 e29 e30 e31 e32 e33 e34 e35 e36 e37 e38 e39 e40 e41 e42 e43 e44 e45 e46 e47 e48 e49 e50 e51 e52 : Value} (h : J e7 e12 w') (hm : m e7 e12 w' < m x7 x12 w) : term_Table_put.N1 J m x0 x1 x10 x11 x7 x12 w [x0, x1, e2, e3, e4, e5, e6, e7, e8, e9, x10, x11, e12, e13, e14, e15, e16, e17, e18, e19, e20, e21, e22, e23, e24, e25, e26, e27, e28, e29, e30, e31, e32, e33, e34, e35, e36, e37, e38, e39, e40, e41, e42, e43, e44, e45, e46, e47, e48, e49, e50, e51, e52] w' :=
  ⟨⟨e7, e12, (fun i => nth [x0, x1, e2, e3, e4, e5, e6, e7, e8, e9, x10, x11, e12, e13, e14, e15, e16, e17, e18, e19, e20, e21, e22, e23, e24, e25, e26, e27, e28, e29, e30, e31, e32, e33, e34, e35, e36, e37, e38, e39, e40, e41, e42, e43, e44, e45, e46, e47, e48, e49, e50, e51, e52] i), rfl, h⟩, hm⟩
theorem term_Table_put.loop1 (J : Value → Value → World → Prop) (m : Value → Value → World → Nat) {R : KV} {X : KX} {w : World} {x0 : Value} {x1 : Value} {x10 : Value} {x11 : Value} {e2 e3 e4 e5 e6 e7 e8 e9 e12 e13 e14 e15 e16 e17 e18 e19 e20 e21 e22 e23 e24 e25 e26 e27 e28 e29 e30 e31 e32 e33 e34 e35 e36 e37 e38 e39 e40 e41 e42 e43 e44 e45 e46 e47 e48 e49 e50 e51 e52 : Value} (h0 : J e7 e12 w)
    (hr : ∀ x7 x12 g w, J x7 x12 w → term_Table_put.b1 x0 x1 x7 x10 x11 x12 g (term_Table_put.N1 J m x0 x1 x10 x11 x7 x12 w) R X w) : term_Table_put.I1 [x0, x1, e2, e3, e4, e5, e6, e7, e8, e9, x10, x11, e12, e13, e14, e15, e16, e17, e18, e19, e20, e21, e22, e23, e24, e25, e26, e27, e28, e29, e30, e31, e32, e33, e34, e35, e36, e37, e38, e39, e40, e41, e42, e43, e44, e45, e46, e47, e48, e49, e50, e51, e52] R X w := by
  rw [term_Table_put.I1_eq]
  refine ⟨fun e w => ∃ y7 y12 g, e = term_Table_put.fr1 x0 x1 y7 x10 x11 y12 g ∧ J y7 y12 w, fun e w => m (nth e 7) (nth e 12) w, ⟨e7, e12, (fun i => nth [x0, x1, e2, e3, e4, e5, e6, e7, e8, e9, x10, x11, e12, e13, e14, e15, e16, e17, e18, e19, e20, e21, e22, e23, e24, e25, e26, e27, e28, e29, e30, e31, e32, e33, e34, e35, e36, e37, e38, e39, e40, e41, e42, e43, e44, e45, e46, e47, e48, e49, e50, e51, e52] i), rfl, h0⟩, ?_⟩
  rintro _ w ⟨y7, y12, g, rfl, hJ⟩
  rw [term_Table_put.b1_eq]
  exact hr y7 y12 g w hJ
def term_Table_put.b (x0 : Value) (x1 : Value) (x2 : Value) (R : KV) (X : KX) (w : World) : Prop :=
  pLenSl x2 fun t11 =>
  term_Table_put.I1 [x0, x1, x2, undef, undef, undef, (.int .i64 0), (.int .i64 1), undef, undef, x2, t11, (.int .i64 0), undef, undef, undef, undef, undef, undef, undef, undef, undef, undef, undef, undef, undef, undef, undef, undef, undef, undef, undef, undef, undef, undef, undef, undef, undef, undef, undef, undef, undef, undef, undef, undef, undef, undef, undef, undef, undef, undef, undef, undef] R X w
theorem term_Table_put.b_eq (x0 : Value) (x1 : Value) (x2 : Value) (R : KV) (X : KX) (w : World) : atP Try.prog Try.f37 term_Table_put.pl [] [] R X ([x0, x1, x2] ++ undefs 50) w = term_Table_put.b x0 x1 x2 R X w := by kernel_rfl
theorem term_Table_put.calls {x0 x1 x2 : Value} {R : KV} {X : KX} {w : World} (h : term_Table_put.b x0 x1 x2 R X w) : GCalls Try.prog 37 [x0, x1, x2] R X w :=
  gcalls_of (pl := term_Table_put.pl) Try.func37 rfl (by kernel_rfl) hmixed (term_Table_put.b_eq x0 x1 x2 R X w ▸ h)

/-! (*oubliette/term.Table).found -/
def term_Table_found.pl : Nat → DrawPlan
  | 3 => ⟨[([], [1]), ([0], [0, 2]), ([1], [1, 3]), ([2], [2, 5]), ([], [5]), ([3, 4], [3, 4, 6]), ([5], [5, 7, 8]), ([6], [6, 9]), ([6], [6, 10]), ([7, 0, 1, 2, 3, 4, 5, 6, 7], [7]), ([8, 9, 0, 1, 2, 3, 4, 5, 6, 7, 8, 9], [8])], .take 0 (.take 1 (.take 2 (.take 3 (.take 4 (.take 5 (.take 6 (.take 7 (.take 8 (.take 9 (.take 10 (.done)))))))))))⟩
  | 6 => ⟨[([], [1]), ([0], [0, 2]), ([1], [1, 3]), ([2], [2, 6]), ([], [6]), ([], [6]), ([3, 4, 5, 0, 1, 2, 3, 4, 5], [3, 4, 5])], .take 0 (.take 1 (.take 2 (.take 3 (.take 4 (.take 5 (.world 6 true (.done) .none))))))⟩
  | _ => ⟨[], .done⟩
def term_Table_found.b (x0 : Value) (x1 : Value) (x2 : Value) (x3 : Value) (R : KV) (X : KX) (w : World) : Prop :=
  pBox 78 x1 w fun t5 w =>
  pCall Try.prog 44 [x0, x3] X w fun t13 w =>
  pNot t13 fun t14 =>
  gIf t14 false (fun K => K x0) fun t16 =>
  gIf t14 false (fun K => pEq .ptr false t16 (.pointer none) K) fun t17 =>
  pPick t14 (.bool true) t17 fun t18 =>
  scond t18
  (R (.int .i64 0) w)
  (drawn w fun S w =>
    pNil x0 fun t21 =>
    pFA 2 t21 fun t22 =>
    pLd S t22 fun t23 =>
    pLdN S 4 t5 fun t24 =>
    pRunR Try.prog S (Instr.lookup 69 t23 t24 true) fun t25 =>
    pExt t25 0 fun t26 =>
    pExt t25 1 fun t27 =>
    pNot t27 fun t29 =>
    scond t29
    (pCall Try.prog 37 [x0, x2, x3] X w fun t33 w =>
      drawn w fun S w =>
      pNil x0 fun t35 =>
      pFA 2 t35 fun t36 =>
      pLd S t36 fun t37 =>
      pLdN S 4 t5 fun t38 =>
      pRunU Try.prog (Instr.mapUpdate 69 t37 t38 t33) w fun _ w =>
      anew w fun S w =>
      R t33 w)
    (R t26 w))
theorem term_Table_found.b_eq (x0 : Value) (x1 : Value) (x2 : Value) (x3 : Value) (R : KV) (X : KX) (w : World) : atP Try.prog Try.f38 term_Table_found.pl [] [] R X ([x0, x1, x2, x3] ++ undefs 37) w = term_Table_found.b x0 x1 x2 x3 R X w := by kernel_rfl
theorem term_Table_found.calls {x0 x1 x2 x3 : Value} {R : KV} {X : KX} {w : World} (h : term_Table_found.b x0 x1 x2 x3 R X w) : GCalls Try.prog 38 [x0, x1, x2, x3] R X w :=
  gcalls_of (pl := term_Table_found.pl) Try.func38 rfl (by kernel_rfl) hmixed (term_Table_found.b_eq x0 x1 x2 x3 R X w ▸ h)

/-! (*oubliette/term.Table).Text -/
def term_Table_Text.pl : Nat → DrawPlan
  | _ => ⟨[], .done⟩
def term_Table_Text.b (x0 : Value) (x1 : Value) (R : KV) (X : KX) (w : World) : Prop :=
  pBuild [.int .i64 0, .int .i64 0, .int .i64 0, .string ⟨#[]⟩] [(0, 1, (.int .i64 2)), (3, 1, x1)] fun t7 =>
  pBuild [.string ⟨#[]⟩] [(0, 1, x1)] fun t9 =>
  pCall Try.prog 38 [x0, t7, (.iface 90 t9), (.slice none 0 0)] X w fun t11 w =>
  R t11 w
theorem term_Table_Text.b_eq (x0 : Value) (x1 : Value) (R : KV) (X : KX) (w : World) : atP Try.prog Try.f39 term_Table_Text.pl [] [] R X ([x0, x1] ++ undefs 10) w = term_Table_Text.b x0 x1 R X w := by kernel_rfl
theorem term_Table_Text.calls {x0 x1 : Value} {R : KV} {X : KX} {w : World} (h : term_Table_Text.b x0 x1 R X w) : GCalls Try.prog 39 [x0, x1] R X w :=
  gcalls_of (pl := term_Table_Text.pl) Try.func39 rfl (by kernel_rfl) hmixed (term_Table_Text.b_eq x0 x1 R X w ▸ h)

/-! (*oubliette/term.Table).Kdf -/
def term_Table_Kdf.pl : Nat → DrawPlan
  | _ => ⟨[], .done⟩
def term_Table_Kdf.b (x0 : Value) (x1 : Value) (x2 : Value) (R : KV) (X : KX) (w : World) : Prop :=
  pBuild [.int .i64 0, .int .i64 0, .int .i64 0, .string ⟨#[]⟩] [(0, 1, (.int .i64 3)), (1, 1, x1), (2, 1, (.int .i64 0)), (3, 1, x2)] fun t10 =>
  pBuild [.int .i64 0, .string ⟨#[]⟩] [(0, 1, x1), (1, 1, x2)] fun t13 =>
  pBSlice 3 1 (rowOf [.int .i64 0] 1) [(0, 1, x1)] w fun t16 w =>
  pCall Try.prog 38 [x0, t10, (.iface 93 t13), t16] X w fun t17 w =>
  R t17 w
theorem term_Table_Kdf.b_eq (x0 : Value) (x1 : Value) (x2 : Value) (R : KV) (X : KX) (w : World) : atP Try.prog Try.f40 term_Table_Kdf.pl [] [] R X ([x0, x1, x2] ++ undefs 15) w = term_Table_Kdf.b x0 x1 x2 R X w := by kernel_rfl
theorem term_Table_Kdf.calls {x0 x1 x2 : Value} {R : KV} {X : KX} {w : World} (h : term_Table_Kdf.b x0 x1 x2 R X w) : GCalls Try.prog 40 [x0, x1, x2] R X w :=
  gcalls_of (pl := term_Table_Kdf.pl) Try.func40 rfl (by kernel_rfl) hmixed (term_Table_Kdf.b_eq x0 x1 x2 R X w ▸ h)

/-! (*oubliette/term.Table).Mix -/
def term_Table_Mix.pl : Nat → DrawPlan
  | _ => ⟨[], .done⟩
def term_Table_Mix.b (x0 : Value) (x1 : Value) (x2 : Value) (R : KV) (X : KX) (w : World) : Prop :=
  pBuild [.int .i64 0, .int .i64 0, .int .i64 0, .string ⟨#[]⟩] [(0, 1, (.int .i64 4)), (1, 1, x1), (2, 1, x2), (3, 1, (.string ⟨#[]⟩))] fun t10 =>
  pBuild [.int .i64 0, .int .i64 0] [(0, 1, x1), (1, 1, x2)] fun t13 =>
  pBSlice 3 2 (rowOf [.int .i64 0] 2) [(0, 1, x1), (1, 1, x2)] w fun t17 w =>
  pCall Try.prog 38 [x0, t10, (.iface 96 t13), t17] X w fun t18 w =>
  R t18 w
theorem term_Table_Mix.b_eq (x0 : Value) (x1 : Value) (x2 : Value) (R : KV) (X : KX) (w : World) : atP Try.prog Try.f41 term_Table_Mix.pl [] [] R X ([x0, x1, x2] ++ undefs 16) w = term_Table_Mix.b x0 x1 x2 R X w := by kernel_rfl
theorem term_Table_Mix.calls {x0 x1 x2 : Value} {R : KV} {X : KX} {w : World} (h : term_Table_Mix.b x0 x1 x2 R X w) : GCalls Try.prog 41 [x0, x1, x2] R X w :=
  gcalls_of (pl := term_Table_Mix.pl) Try.func41 rfl (by kernel_rfl) hmixed (term_Table_Mix.b_eq x0 x1 x2 R X w ▸ h)

/-! (oubliette/oublietteref15.Table).Atom -/
def oublietteref15_Table_Atom.pl : Nat → DrawPlan
  | _ => ⟨[], .done⟩
def oublietteref15_Table_Atom.j1 (x0 : Value) (x4 : Value) (x5 : Value) (g : Nat → Value) (N1 : List Value → World → Prop) (R : KV) (X : KX) (w : World) : Prop :=
  pBinI .add .i64 x5 (.int .i64 1) fun t11 =>
  N1 [x0, (g 1), (g 2), (g 3), x4, t11, (g 6), (g 7), (g 8), (g 9), x5, t11, (g 12), (g 13), (g 14), (g 15), (g 16), (g 17), (g 18), (g 19), (g 20), (g 21), (g 22), (g 23), (g 24), (g 25), (g 26), (g 27)] w
def oublietteref15_Table_Atom.b1 (x0 : Value) (x4 : Value) (x5 : Value) (g : Nat → Value) (N1 : List Value → World → Prop) (R : KV) (X : KX) (w : World) : Prop :=
  pLenSl x0 fun t8 =>
  pBinI .lss .i64 x5 t8 fun t9 =>
  scond t9
  (pIA 5 x0 x5 fun t14 =>
    pFA 0 t14 fun t15 =>
    pLd (· = w) t15 fun t16 =>
    pBinI .eql .i64 t16 (.int .i64 1) fun t17 =>
    scond t17
    (pBinI .add .i64 x4 (.int .i64 1) fun t19 =>
      oublietteref15_Table_Atom.j1 x0 t19 x5 (fun i => nth [x0, (g 1), (g 2), (g 3), t19, x5, x5, x0, t8, t9, (g 10), (g 11), x0, x5, t14, t15, t16, t17, x4, t19, (g 20), (g 21), (g 22), (g 23), (g 24), (g 25), (g 26), (g 27)] i) N1 R X w)
    (oublietteref15_Table_Atom.j1 x0 x4 x5 (fun i => nth [x0, (g 1), (g 2), (g 3), x4, x5, x5, x0, t8, t9, (g 10), (g 11), x0, x5, t14, t15, t16, t17, (g 18), (g 19), (g 20), (g 21), (g 22), (g 23), (g 24), (g 25), (g 26), (g 27)] i) N1 R X w))
  (pBuild [.int .i64 0, .int .i64 0, .int .i64 0, .string ⟨#[]⟩, .int .i64 0] [(0, 1, (.int .i64 1)), (4, 1, x4)] fun t22 =>
    pBSlice 86 1 (rowOf [.int .i64 0, .int .i64 0, .int .i64 0, .string ⟨#[]⟩, .int .i64 0] 1) [(0, 5, t22)] w fun t23 w =>
    pApp 86 5 48 [.int .i64 0, .int .i64 0, .int .i64 0, .string ⟨#[]⟩, .int .i64 0] x0 t23 w fun t24 w =>
    pLenSl x0 fun t26 =>
    pBinI .add .i64 t26 (.int .i64 1) fun t27 =>
    R (.tuple #[t24, t27]) w)
def oublietteref15_Table_Atom.I1 (e : List Value) (R : KV) (X : KX) (w : World) : Prop := atP Try.prog Try.f42 oublietteref15_Table_Atom.pl [1, 1, 0, 1, 0] [] R X e w
theorem oublietteref15_Table_Atom.I1_eq (e : List Value) (R : KV) (X : KX) (w : World) : oublietteref15_Table_Atom.I1 e R X w = loopS (fun N e w => atP Try.prog Try.f42 oublietteref15_Table_Atom.pl [1, 1, 0, 1, 0, 0] [N] R X e w) e w := by kernel_rfl
def oublietteref15_Table_Atom.fr1 (x0 : Value) (x4 : Value) (x5 : Value) (g : Nat → Value) : List Value := [x0, g 1, g 2, g 3, x4, x5, g 6, g 7, g 8, g 9, g 10, g 11, g 12, g 13, g 14, g 15, g 16, g 17, g 18, g 19, g 20, g 21, g 22, g 23, g 24, g 25, g 26, g 27]
theorem oublietteref15_Table_Atom.b1_eq (x0 : Value) (x4 : Value) (x5 : Value) (g : Nat → Value) (N1 : List Value → World → Prop) (R : KV) (X : KX) (w : World) : atP Try.prog Try.f42 oublietteref15_Table_Atom.pl [1, 1, 0, 1, 0, 0] [N1] R X (oublietteref15_Table_Atom.fr1 x0 x4 x5 g) w = oublietteref15_Table_Atom.b1 x0 x4 x5 g N1 R X w := by kernel_rfl
/-- What a round of this loop hands on. -/
def oublietteref15_Table_Atom.N1 (J : Value → Value → World → Prop) (m : Value → Value → World → Nat) (x0 : Value) (x4 : Value) (x5 : Value) (w : World) : List Value → World → Prop := fun e w' => (∃ y4 y5 g, e = oublietteref15_Table_Atom.fr1 x0 y4 y5 g ∧ J y4 y5 w') ∧ m (nth e 4) (nth e 5) w' < m x4 x5 w
theorem oublietteref15_Table_Atom.leaf1 {J : Value → Value → World → Prop} {m : Value → Value → World → Nat} {x0 : Value} {x4 : Value} {x5 : Value} {w w' : World} {e1 e2 e3 e4 e5 e6 e7 e8 e9 e10 e11 e12 e13 e14 e15 e16 e17 e18 e19 e20 e21 e22 e23 e24 e25 e26 e27 : Value} (h : J e4 e5 w') (hm : m e4 e5 w' < m x4 x5 w) : oublietteref15_Table_Atom.N1 J m x0 x4 x5 w [x0, e1, e2, e3, e4, e5, e6, e7, e8, e9, e10, e11, e12, e13, e14, e15, e16, e17, e18, e19, e20, e21, e22, e23, e24, e25, e26, e27] w' :=
  ⟨⟨e4, e5, (fun i => nth [x0, e1, e2, e3, e4, e5, e6, e7, e8, e9, e10, e11, e12, e13, e14, e15, e16, e17, e18, e19, e20, e21, e22, e23, e24, e25, e26, e27] i), rfl, h⟩, hm⟩
theorem oublietteref15_Table_Atom.loop1 (J : Value → Value → World → Prop) (m : Value → Value → World → Nat) {R : KV} {X : KX} {w : World} {x0 : Value} {e1 e2 e3 e4 e5 e6 e7 e8 e9 e10 e11 e12 e13 e14 e15 e16 e17 e18 e19 e20 e21 e22 e23 e24 e25 e26 e27 : Value} (h0 : J e4 e5 w)
    (hr : ∀ x4 x5 g w, J x4 x5 w → oublietteref15_Table_Atom.b1 x0 x4 x5 g (oublietteref15_Table_Atom.N1 J m x0 x4 x5 w) R X w) : oublietteref15_Table_Atom.I1 [x0, e1, e2, e3, e4, e5, e6, e7, e8, e9, e10, e11, e12, e13, e14, e15, e16, e17, e18, e19, e20, e21, e22, e23, e24, e25, e26, e27] R X w := by
  rw [oublietteref15_Table_Atom.I1_eq]
  refine ⟨fun e w => ∃ y4 y5 g, e = oublietteref15_Table_Atom.fr1 x0 y4 y5 g ∧ J y4 y5 w, fun e w => m (nth e 4) (nth e 5) w, ⟨e4, e5, (fun i => nth [x0, e1, e2, e3, e4, e5, e6, e7, e8, e9, e10, e11, e12, e13, e14, e15, e16, e17, e18, e19, e20, e21, e22, e23, e24, e25, e26, e27] i), rfl, h0⟩, ?_⟩
  rintro _ w ⟨y4, y5, g, rfl, hJ⟩
  rw [oublietteref15_Table_Atom.b1_eq]
  exact hr y4 y5 g w hJ
def oublietteref15_Table_Atom.b (x0 : Value) (R : KV) (X : KX) (w : World) : Prop :=
  oublietteref15_Table_Atom.I1 [x0, undef, (.slice none 0 0), (.int .i64 0), (.int .i64 0), (.int .i64 0), undef, undef, undef, undef, undef, undef, undef, undef, undef, undef, undef, undef, undef, undef, undef, undef, undef, undef, undef, undef, undef, undef] R X w
theorem oublietteref15_Table_Atom.b_eq (x0 : Value) (R : KV) (X : KX) (w : World) : atP Try.prog Try.f42 oublietteref15_Table_Atom.pl [] [] R X ([x0] ++ undefs 27) w = oublietteref15_Table_Atom.b x0 R X w := by kernel_rfl
theorem oublietteref15_Table_Atom.calls {x0 : Value} {R : KV} {X : KX} {w : World} (h : oublietteref15_Table_Atom.b x0 R X w) : GCalls Try.prog 42 [x0] R X w :=
  gcalls_of (pl := oublietteref15_Table_Atom.pl) Try.func42 rfl (by kernel_rfl) hmixed (oublietteref15_Table_Atom.b_eq x0 R X w ▸ h)

/-! (oubliette/oublietteref15.Table).Put -/
def oublietteref15_Table_Put.pl : Nat → DrawPlan
  | 6 => ⟨[([], [2]), ([], [2]), ([0, 1], [0, 1, 3]), ([2], [2, 5]), ([], [5]), ([3, 4], [3, 4])], .take 0 (.take 1 (.take 2 (.take 3 (.take 4 (.take 5 (.done))))))⟩
  | _ => ⟨[], .done⟩
def oublietteref15_Table_Put.b1 (x0 : Value) (x3 : Value) (x6 : Value) (g : Nat → Value) (N1 : List Value → World → Prop) (R : KV) (X : KX) (w : World) : Prop :=
  pLenSl x0 fun t32 =>
  pBinI .lss .i64 x6 t32 fun t33 =>
  scond t33
  (drawn w fun S w =>
    pIA 5 x0 x6 fun t38 =>
    pLdN S 5 t38 fun t39 =>
    pLdN S 5 x3 fun t40 =>
    pEqS Try.prog .eql 86 t39 t40 fun t41 =>
    scond t41
    (pBinI .add .i64 x6 (.int .i64 1) fun t44 =>
      R (.tuple #[x0, t44]) w)
    (pBinI .add .i64 x6 (.int .i64 1) fun t35 =>
      N1 [x0, (g 1), (g 2), x3, (g 4), (g 5), t35, (g 7), (g 8), (g 9), (g 10), (g 11), (g 12), (g 13), (g 14), (g 15), (g 16), (g 17), (g 18), (g 19), (g 20), (g 21), (g 22), (g 23), (g 24), (g 25), (g 26), (g 27), (g 28), (g 29), x6, x0, t32, t33, x6, t35, x0, x6, t38, t39, t40, t41, (g 42), (g 43), (g 44), (g 45), (g 46), (g 47), (g 48), (g 49), (g 50), (g 51)] w))
  (pLdN (· = w) 5 x3 fun t46 =>
    pBSlice 86 1 (rowOf [.int .i64 0, .int .i64 0, .int .i64 0, .string ⟨#[]⟩, .int .i64 0] 1) [(0, 5, t46)] w fun t47 w =>
    pApp 86 5 48 [.int .i64 0, .int .i64 0, .int .i64 0, .string ⟨#[]⟩, .int .i64 0] x0 t47 w fun t48 w =>
    pLenSl x0 fun t50 =>
    pBinI .add .i64 t50 (.int .i64 1) fun t51 =>
    R (.tuple #[t48, t51]) w)
def oublietteref15_Table_Put.I1 (e : List Value) (R : KV) (X : KX) (w : World) : Prop := atP Try.prog Try.f43 oublietteref15_Table_Put.pl [1, 1, 0, 1, 0] [] R X e w
theorem oublietteref15_Table_Put.I1_eq (e : List Value) (R : KV) (X : KX) (w : World) : oublietteref15_Table_Put.I1 e R X w = loopS (fun N e w => atP Try.prog Try.f43 oublietteref15_Table_Put.pl [1, 1, 0, 1, 0, 0] [N] R X e w) e w := by kernel_rfl
def oublietteref15_Table_Put.fr1 (x0 : Value) (x3 : Value) (x6 : Value) (g : Nat → Value) : List Value := [x0, g 1, g 2, x3, g 4, g 5, x6, g 7, g 8, g 9, g 10, g 11, g 12, g 13, g 14, g 15, g 16, g 17, g 18, g 19, g 20, g 21, g 22, g 23, g 24, g 25, g 26, g 27, g 28, g 29, g 30, g 31, g 32, g 33, g 34, g 35, g 36, g 37, g 38, g 39, g 40, g 41, g 42, g 43, g 44, g 45, g 46, g 47, g 48, g 49, g 50, g 51]
theorem oublietteref15_Table_Put.b1_eq (x0 : Value) (x3 : Value) (x6 : Value) (g : Nat → Value) (N1 : List Value → World → Prop) (R : KV) (X : KX) (w : World) : atP Try.prog Try.f43 oublietteref15_Table_Put.pl [1, 1, 0, 1, 0, 0] [N1] R X (oublietteref15_Table_Put.fr1 x0 x3 x6 g) w = oublietteref15_Table_Put.b1 x0 x3 x6 g N1 R X w := by kernel_rfl
/-- What a round of this loop hands on. -/
def oublietteref15_Table_Put.N1 (J : Value → World → Prop) (m : Value → World → Nat) (x0 : Value) (x3 : Value) (x6 : Value) (w : World) : List Value → World → Prop := fun e w' => (∃ y6 g, e = oublietteref15_Table_Put.fr1 x0 x3 y6 g ∧ J y6 w') ∧ m (nth e 6) w' < m x6 w
theorem oublietteref15_Table_Put.leaf1 {J : Value → World → Prop} {m : Value → World → Nat} {x0 : Value} {x3 : Value} {x6 : Value} {w w' : World} {e1 e2 e4 e5 e6 e7 e8 e9 e10 e11 e12 e13 e14 e15 e16 e17 e18 e19 e20 e21 e22 e23 e24 e25 e26 e27 e28 e29 e30 e31 e32 e33 e34 e35 e36 e37 e38 e39 e40 e41 e42 e43 e44 e45 e46 e47 e48 e49 e50 e51 : Value} (h : J e6 w') (hm : m e6 w' < m x6 w) : oublietteref15_Table_Put.N1 J m x0 x3 x6 w [x0, e1, e2, x3, e4, e5, e6, e7, e8, e9, e10, e11, e12, e13, e14, e15, e16, e17, e18, e19, e20, e21, e22, e23, e24, e25, e26, e27, e28, e29, e30, e31, e32, e33, e34, e35, e36, e37, e38, e39, e40, e41, e42, e43, e44, e45, e46, e47, e48, e49, e50, e51] w' :=
  ⟨⟨e6, (fun i => nth [x0, e1, e2, x3, e4, e5, e6, e7, e8, e9, e10, e11, e12, e13, e14, e15, e16, e17, e18, e19, e20, e21, e22, e23, e24, e25, e26, e27, e28, e29, e30, e31, e32, e33, e34, e35, e36, e37, e38, e39, e40, e41, e42, e43, e44, e45, e46, e47, e48, e49, e50, e51] i), rfl, h⟩, hm⟩
theorem oublietteref15_Table_Put.loop1 (J : Value → World → Prop) (m : Value → World → Nat) {R : KV} {X : KX} {w : World} {x0 : Value} {x3 : Value} {e1 e2 e4 e5 e6 e7 e8 e9 e10 e11 e12 e13 e14 e15 e16 e17 e18 e19 e20 e21 e22 e23 e24 e25 e26 e27 e28 e29 e30 e31 e32 e33 e34 e35 e36 e37 e38 e39 e40 e41 e42 e43 e44 e45 e46 e47 e48 e49 e50 e51 : Value} (h0 : J e6 w)
    (hr : ∀ x6 g w, J x6 w → oublietteref15_Table_Put.b1 x0 x3 x6 g (oublietteref15_Table_Put.N1 J m x0 x3 x6 w) R X w) : oublietteref15_Table_Put.I1 [x0, e1, e2, x3, e4, e5, e6, e7, e8, e9, e10, e11, e12, e13, e14, e15, e16, e17, e18, e19, e20, e21, e22, e23, e24, e25, e26, e27, e28, e29, e30, e31, e32, e33, e34, e35, e36, e37, e38, e39, e40, e41, e42, e43, e44, e45, e46, e47, e48, e49, e50, e51] R X w := by
  rw [oublietteref15_Table_Put.I1_eq]
  refine ⟨fun e w => ∃ y6 g, e = oublietteref15_Table_Put.fr1 x0 x3 y6 g ∧ J y6 w, fun e w => m (nth e 6) w, ⟨e6, (fun i => nth [x0, e1, e2, x3, e4, e5, e6, e7, e8, e9, e10, e11, e12, e13, e14, e15, e16, e17, e18, e19, e20, e21, e22, e23, e24, e25, e26, e27, e28, e29, e30, e31, e32, e33, e34, e35, e36, e37, e38, e39, e40, e41, e42, e43, e44, e45, e46, e47, e48, e49, e50, e51] i), rfl, h0⟩, ?_⟩
  rintro _ w ⟨y6, g, rfl, hJ⟩
  rw [oublietteref15_Table_Put.b1_eq]
  exact hr y6 g w hJ
def oublietteref15_Table_Put.b (x0 : Value) (x1 : Value) (R : KV) (X : KX) (w : World) : Prop :=
  pBox 86 x1 w fun t3 w =>
  pFA 0 t3 fun t7 =>
  pLd (· = w) t7 fun t8 =>
  pBinI .geq .i64 t8 (.int .i64 3) fun t9 =>
  gIf t9 true (fun K => K x0) fun t11 =>
  gIf t9 true (fun K => pFA 1 t3 K) fun t12 =>
  gIf t9 true (fun K => pLd (· = w) t12 K) fun t13 =>
  gIfW t9 true (fun w K => pCall Try.prog 47 [t11, t13] X w K) w fun t14 w =>
  gIf t9 true (fun K => pNot t14 K) fun t15 =>
  pPick t9 t15 (.bool false) fun t16 =>
  gIf t16 false (fun K => pFA 0 t3 K) fun t18 =>
  gIf t16 false (fun K => pLd (· = w) t18 K) fun t19 =>
  gIf t16 false (fun K => pBinI .geq .i64 t19 (.int .i64 4) K) fun t20 =>
  gIf t16 false (fun K => K t20) fun t21 =>
  gIf t21 true (fun K => K x0) fun t22 =>
  gIf t21 true (fun K => pFA 2 t3 K) fun t23 =>
  gIf t21 true (fun K => pLd (· = w) t23 K) fun t24 =>
  gIfW t21 true (fun w K => pCall Try.prog 47 [t22, t24] X w K) w fun t25 w =>
  gIf t21 true (fun K => pNot t25 K) fun t26 =>
  gIf t16 false (fun K => pPick t21 t26 (.bool false) K) fun t27 =>
  pPick t16 (.bool true) t27 fun t28 =>
  scond t28
  (R (.tuple #[x0, (.int .i64 0)]) w)
  (oublietteref15_Table_Put.I1 [x0, x1, undef, t3, (.slice none 0 0), (.int .i64 0), (.int .i64 0), t7, t8, t9, t9, t11, t12, t13, t14, t15, t16, t16, t18, t19, t20, t21, t22, t23, t24, t25, t26, t27, t28, undef, undef, undef, undef, undef, undef, undef, undef, undef, undef, undef, undef, undef, undef, undef, undef, undef, undef, undef, undef, undef, undef, undef] R X w)
theorem oublietteref15_Table_Put.b_eq (x0 : Value) (x1 : Value) (R : KV) (X : KX) (w : World) : atP Try.prog Try.f43 oublietteref15_Table_Put.pl [] [] R X ([x0, x1] ++ undefs 50) w = oublietteref15_Table_Put.b x0 x1 R X w := by kernel_rfl
theorem oublietteref15_Table_Put.calls {x0 x1 : Value} {R : KV} {X : KX} {w : World} (h : oublietteref15_Table_Put.b x0 x1 R X w) : GCalls Try.prog 43 [x0, x1] R X w :=
  gcalls_of (pl := oublietteref15_Table_Put.pl) Try.func43 rfl (by kernel_rfl) hmixed (oublietteref15_Table_Put.b_eq x0 x1 R X w ▸ h)

/-! (*oubliette/term.Table).there -/
def term_Table_there.pl : Nat → DrawPlan
  | _ => ⟨[], .done⟩
def term_Table_there.b (x0 : Value) (x1 : Value) (R : KV) (X : KX) (w : World) : Prop :=
  pBox 26 x0 w fun t2 w =>
  pLd (· = w) t2 fun t5 =>
  pEq .ptr true t5 (.pointer none) fun t6 =>
  gIf t6 true (fun K => K x1) fun t8 =>
  gIf t6 true (fun K => K (.func (.func 54) #[] #[t2])) fun t9 =>
  gIfW t6 true (fun w K => pCall Try.prog 53 [t8, t9] X w K) w fun t10 w =>
  gIf t6 true (fun K => pNot t10 K) fun t11 =>
  pPick t6 t11 (.bool false) fun t12 =>
  R t12 w
theorem term_Table_there.b_eq (x0 : Value) (x1 : Value) (R : KV) (X : KX) (w : World) : atP Try.prog Try.f44 term_Table_there.pl [] [] R X ([x0, x1] ++ undefs 11) w = term_Table_there.b x0 x1 R X w := by kernel_rfl
theorem term_Table_there.calls {x0 x1 : Value} {R : KV} {X : KX} {w : World} (h : term_Table_there.b x0 x1 R X w) : GCalls Try.prog 44 [x0, x1] R X w :=
  gcalls_of (pl := term_Table_there.pl) Try.func44 rfl (by kernel_rfl) hmixed (term_Table_there.b_eq x0 x1 R X w ▸ h)

/-! (*oubliette/term.Table).Len -/
def term_Table_Len.pl : Nat → DrawPlan
  | _ => ⟨[], .done⟩
def term_Table_Len.b (x0 : Value) (R : KV) (X : KX) (w : World) : Prop :=
  pEq .ptr false x0 (.pointer none) fun t4 =>
  scond t4
  (R (.int .i64 0) w)
  (pNil x0 fun t6 =>
    pFA 0 t6 fun t7 =>
    pLd (· = w) t7 fun t8 =>
    pLenSl t8 fun t9 =>
    R t9 w)
theorem term_Table_Len.b_eq (x0 : Value) (R : KV) (X : KX) (w : World) : atP Try.prog Try.f46 term_Table_Len.pl [] [] R X ([x0] ++ undefs 9) w = term_Table_Len.b x0 R X w := by kernel_rfl
theorem term_Table_Len.calls {x0 : Value} {R : KV} {X : KX} {w : World} (h : term_Table_Len.b x0 R X w) : GCalls Try.prog 46 [x0] R X w :=
  gcalls_of (pl := term_Table_Len.pl) Try.func46 rfl (by kernel_rfl) hmixed (term_Table_Len.b_eq x0 R X w ▸ h)

/-! (oubliette/oublietteref15.Table).there -/
def oublietteref15_Table_there.pl : Nat → DrawPlan
  | _ => ⟨[], .done⟩
def oublietteref15_Table_there.b (x0 : Value) (x1 : Value) (R : KV) (X : KX) (w : World) : Prop :=
  pBinI .geq .i64 x1 (.int .i64 1) fun t6 =>
  gIf t6 true (fun K => K x1) fun t8 =>
  gIf t6 true (fun K => K x0) fun t9 =>
  gIf t6 true (fun K => pLenSl t9 K) fun t10 =>
  gIf t6 true (fun K => pBinI .leq .i64 t8 t10 K) fun t11 =>
  pPick t6 t11 (.bool false) fun t12 =>
  R t12 w
theorem oublietteref15_Table_there.b_eq (x0 : Value) (x1 : Value) (R : KV) (X : KX) (w : World) : atP Try.prog Try.f47 oublietteref15_Table_there.pl [] [] R X ([x0, x1] ++ undefs 11) w = oublietteref15_Table_there.b x0 x1 R X w := by kernel_rfl
theorem oublietteref15_Table_there.calls {x0 x1 : Value} {R : KV} {X : KX} {w : World} (h : oublietteref15_Table_there.b x0 x1 R X w) : GCalls Try.prog 47 [x0, x1] R X w :=
  gcalls_of (pl := oublietteref15_Table_there.pl) Try.func47 rfl (by kernel_rfl) hmixed (oublietteref15_Table_there.b_eq x0 x1 R X w ▸ h)

/-! slices.ContainsFunc[[]int,int] -/
def slices_ContainsFunc_int_int.pl : Nat → DrawPlan
  | _ => ⟨[], .done⟩
def slices_ContainsFunc_int_int.b (x0 : Value) (x1 : Value) (R : KV) (X : KX) (w : World) : Prop :=
  pCall Try.prog 59 [x0, x1] X w fun t7 w =>
  pBinI .geq .i64 t7 (.int .i64 0) fun t8 =>
  R t8 w
theorem slices_ContainsFunc_int_int.b_eq (x0 : Value) (x1 : Value) (R : KV) (X : KX) (w : World) : atP Try.prog Try.f53 slices_ContainsFunc_int_int.pl [] [] R X ([x0, x1] ++ undefs 7) w = slices_ContainsFunc_int_int.b x0 x1 R X w := by kernel_rfl
theorem slices_ContainsFunc_int_int.calls {x0 x1 : Value} {R : KV} {X : KX} {w : World} (h : slices_ContainsFunc_int_int.b x0 x1 R X w) : GCalls Try.prog 53 [x0, x1] R X w :=
  gcalls_of (pl := slices_ContainsFunc_int_int.pl) Try.func53 rfl (by kernel_rfl) hmixed (slices_ContainsFunc_int_int.b_eq x0 x1 R X w ▸ h)

/-! (*oubliette/term.Table).there$1 -/
def term_Table_there_c1.pl : Nat → DrawPlan
  | _ => ⟨[], .done⟩
def term_Table_there_c1.b (x0 : Value) (x1 : Value) (R : KV) (X : KX) (w : World) : Prop :=
  pBinI .lss .i64 x0 (.int .i64 1) fun t5 =>
  gIf t5 false (fun K => K x0) fun t7 =>
  gIf t5 false (fun K => pLd (· = w) x1 K) fun t8 =>
  gIf t5 false (fun K => pNil t8 K) fun t9 =>
  gIf t5 false (fun K => pFA 0 t9 K) fun t10 =>
  gIf t5 false (fun K => pLd (· = w) t10 K) fun t11 =>
  gIf t5 false (fun K => pLenSl t11 K) fun t12 =>
  gIf t5 false (fun K => pBinI .gtr .i64 t7 t12 K) fun t13 =>
  pPick t5 (.bool true) t13 fun t14 =>
  R t14 w
theorem term_Table_there_c1.b_eq (x0 : Value) (x1 : Value) (R : KV) (X : KX) (w : World) : atP Try.prog Try.f54 term_Table_there_c1.pl [] [] R X ([x0, x1] ++ undefs 13) w = term_Table_there_c1.b x0 x1 R X w := by kernel_rfl
theorem term_Table_there_c1.calls {x0 x1 : Value} {R : KV} {X : KX} {w : World} (h : term_Table_there_c1.b x0 x1 R X w) : GCalls Try.prog 54 [x0, x1] R X w :=
  gcalls_of (pl := term_Table_there_c1.pl) Try.func54 rfl (by kernel_rfl) hmixed (term_Table_there_c1.b_eq x0 x1 R X w ▸ h)

/-! slices.IndexFunc[[]int,int] -/
def slices_IndexFunc_int_int.pl : Nat → DrawPlan
  | _ => ⟨[], .done⟩
def slices_IndexFunc_int_int.b1 (x0 : Value) (x1 : Value) (x7 : Value) (x8 : Value) (g : Nat → Value) (N1 : List Value → World → Prop) (R : KV) (X : KX) (w : World) : Prop :=
  pBinI .lss .i64 x8 x7 fun t9 =>
  scond t9
  (pIA 1 x0 x8 fun t14 =>
    pLd (· = w) t14 fun t15 =>
    pCallV Try.prog x1 [t15] X w fun t16 w =>
    scond t16
    (R x8 w)
    (pBinI .add .i64 x8 (.int .i64 1) fun t18 =>
      N1 [x0, x1, (g 2), (g 3), (g 4), x8, (g 6), x7, t18, t9, x8, x1, x0, x8, t14, t15, t16, (g 17), t18] w))
  (R (.int .i64 (-1)) w)
def slices_IndexFunc_int_int.I1 (e : List Value) (R : KV) (X : KX) (w : World) : Prop := atP Try.prog Try.f59 slices_IndexFunc_int_int.pl [1, 0, 1, 0] [] R X e w
theorem slices_IndexFunc_int_int.I1_eq (e : List Value) (R : KV) (X : KX) (w : World) : slices_IndexFunc_int_int.I1 e R X w = loopS (fun N e w => atP Try.prog Try.f59 slices_IndexFunc_int_int.pl [1, 0, 1, 0, 0] [N] R X e w) e w := by kernel_rfl
def slices_IndexFunc_int_int.fr1 (x0 : Value) (x1 : Value) (x7 : Value) (x8 : Value) (g : Nat → Value) : List Value := [x0, x1, g 2, g 3, g 4, g 5, g 6, x7, x8, g 9, g 10, g 11, g 12, g 13, g 14, g 15, g 16, g 17, g 18]
theorem slices_IndexFunc_int_int.b1_eq (x0 : Value) (x1 : Value) (x7 : Value) (x8 : Value) (g : Nat → Value) (N1 : List Value → World → Prop) (R : KV) (X : KX) (w : World) : atP Try.prog Try.f59 slices_IndexFunc_int_int.pl [1, 0, 1, 0, 0] [N1] R X (slices_IndexFunc_int_int.fr1 x0 x1 x7 x8 g) w = slices_IndexFunc_int_int.b1 x0 x1 x7 x8 g N1 R X w := by kernel_rfl
/-- What a round of this loop hands on. -/
def slices_IndexFunc_int_int.N1 (J : Value → World → Prop) (m : Value → World → Nat) (x0 : Value) (x1 : Value) (x7 : Value) (x8 : Value) (w : World) : List Value → World → Prop := fun e w' => (∃ y8 g, e = slices_IndexFunc_int_int.fr1 x0 x1 x7 y8 g ∧ J y8 w') ∧ m (nth e 8) w' < m x8 w
theorem slices_IndexFunc_int_int.leaf1 {J : Value → World → Prop} {m : Value → World → Nat} {x0 : Value} {x1 : Value} {x7 : Value} {x8 : Value} {w w' : World} {e2 e3 e4 e5 e6 e8 e9 e10 e11 e12 e13 e14 e15 e16 e17 e18 : Value} (h : J e8 w') (hm : m e8 w' < m x8 w) : slices_IndexFunc_int_int.N1 J m x0 x1 x7 x8 w [x0, x1, e2, e3, e4, e5, e6, x7, e8, e9, e10, e11, e12, e13, e14, e15, e16, e17, e18] w' :=
  ⟨⟨e8, (fun i => nth [x0, x1, e2, e3, e4, e5, e6, x7, e8, e9, e10, e11, e12, e13, e14, e15, e16, e17, e18] i), rfl, h⟩, hm⟩
theorem slices_IndexFunc_int_int.loop1 (J : Value → World → Prop) (m : Value → World → Nat) {R : KV} {X : KX} {w : World} {x0 : Value} {x1 : Value} {x7 : Value} {e2 e3 e4 e5 e6 e8 e9 e10 e11 e12 e13 e14 e15 e16 e17 e18 : Value} (h0 : J e8 w)
    (hr : ∀ x8 g w, J x8 w → slices_IndexFunc_int_int.b1 x0 x1 x7 x8 g (slices_IndexFunc_int_int.N1 J m x0 x1 x7 x8 w) R X w) : slices_IndexFunc_int_int.I1 [x0, x1, e2, e3, e4, e5, e6, x7, e8, e9, e10, e11, e12, e13, e14, e15, e16, e17, e18] R X w := by
  rw [slices_IndexFunc_int_int.I1_eq]
  refine ⟨fun e w => ∃ y8 g, e = slices_IndexFunc_int_int.fr1 x0 x1 x7 y8 g ∧ J y8 w, fun e w => m (nth e 8) w, ⟨e8, (fun i => nth [x0, x1, e2, e3, e4, e5, e6, x7, e8, e9, e10, e11, e12, e13, e14, e15, e16, e17, e18] i), rfl, h0⟩, ?_⟩
  rintro _ w ⟨y8, g, rfl, hJ⟩
  rw [slices_IndexFunc_int_int.b1_eq]
  exact hr y8 g w hJ
def slices_IndexFunc_int_int.b (x0 : Value) (x1 : Value) (R : KV) (X : KX) (w : World) : Prop :=
  pLenSl x0 fun t7 =>
  slices_IndexFunc_int_int.I1 [x0, x1, undef, undef, (.int .i64 0), undef, x0, t7, (.int .i64 0), undef, undef, undef, undef, undef, undef, undef, undef, undef, undef] R X w
theorem slices_IndexFunc_int_int.b_eq (x0 : Value) (x1 : Value) (R : KV) (X : KX) (w : World) : atP Try.prog Try.f59 slices_IndexFunc_int_int.pl [] [] R X ([x0, x1] ++ undefs 17) w = slices_IndexFunc_int_int.b x0 x1 R X w := by kernel_rfl
theorem slices_IndexFunc_int_int.calls {x0 x1 : Value} {R : KV} {X : KX} {w : World} (h : slices_IndexFunc_int_int.b x0 x1 R X w) : GCalls Try.prog 59 [x0, x1] R X w :=
  gcalls_of (pl := slices_IndexFunc_int_int.pl) Try.func59 rfl (by kernel_rfl) hmixed (slices_IndexFunc_int_int.b_eq x0 x1 R X w ▸ h)

/-! oubliette/oublietteref01.Ints -/
def oublietteref01_Ints.pl : Nat → DrawPlan
  | 6 => ⟨[([], [2]), ([], [2]), ([0, 1], [0, 1, 3]), ([2], [2, 8]), ([], [6]), ([], [6]), ([4, 5], [4, 5, 7]), ([6], [6, 8]), ([3, 7], [3, 7])], .take 0 (.take 1 (.take 2 (.take 3 (.take 4 (.take 5 (.take 6 (.take 7 (.take 8 (.done)))))))))⟩
  | _ => ⟨[], .done⟩
def oublietteref01_Ints.b1 (x0 : Value) (x1 : Value) (x5 : Value) (g : Nat → Value) (N1 : List Value → World → Prop) (R : KV) (X : KX) (w : World) : Prop :=
  pLenSl x0 fun t13 =>
  pBinI .lss .i64 x5 t13 fun t14 =>
  scond t14
  (drawn w fun S w =>
    pIA 1 x0 x5 fun t19 =>
    pLd S t19 fun t20 =>
    pIA 1 x1 x5 fun t23 =>
    pLd S t23 fun t24 =>
    pBinI .neq .i64 t20 t24 fun t25 =>
    scond t25
    (R (.bool false) w)
    (pBinI .add .i64 x5 (.int .i64 1) fun t16 =>
      N1 [x0, x1, (g 2), (g 3), (g 4), t16, (g 6), (g 7), (g 8), (g 9), (g 10), x5, x0, t13, t14, x5, t16, x0, x5, t19, t20, x1, x5, t23, t24, t25] w))
  (R (.bool true) w)
def oublietteref01_Ints.I1 (e : List Value) (R : KV) (X : KX) (w : World) : Prop := atP Try.prog Try.f14 oublietteref01_Ints.pl [1, 1, 0, 1, 0] [] R X e w
theorem oublietteref01_Ints.I1_eq (e : List Value) (R : KV) (X : KX) (w : World) : oublietteref01_Ints.I1 e R X w = loopS (fun N e w => atP Try.prog Try.f14 oublietteref01_Ints.pl [1, 1, 0, 1, 0, 0] [N] R X e w) e w := by kernel_rfl
def oublietteref01_Ints.fr1 (x0 : Value) (x1 : Value) (x5 : Value) (g : Nat → Value) : List Value := [x0, x1, g 2, g 3, g 4, x5, g 6, g 7, g 8, g 9, g 10, g 11, g 12, g 13, g 14, g 15, g 16, g 17, g 18, g 19, g 20, g 21, g 22, g 23, g 24, g 25]
theorem oublietteref01_Ints.b1_eq (x0 : Value) (x1 : Value) (x5 : Value) (g : Nat → Value) (N1 : List Value → World → Prop) (R : KV) (X : KX) (w : World) : atP Try.prog Try.f14 oublietteref01_Ints.pl [1, 1, 0, 1, 0, 0] [N1] R X (oublietteref01_Ints.fr1 x0 x1 x5 g) w = oublietteref01_Ints.b1 x0 x1 x5 g N1 R X w := by kernel_rfl
/-- What a round of this loop hands on. -/
def oublietteref01_Ints.N1 (J : Value → World → Prop) (m : Value → World → Nat) (x0 : Value) (x1 : Value) (x5 : Value) (w : World) : List Value → World → Prop := fun e w' => (∃ y5 g, e = oublietteref01_Ints.fr1 x0 x1 y5 g ∧ J y5 w') ∧ m (nth e 5) w' < m x5 w
theorem oublietteref01_Ints.leaf1 {J : Value → World → Prop} {m : Value → World → Nat} {x0 : Value} {x1 : Value} {x5 : Value} {w w' : World} {e2 e3 e4 e5 e6 e7 e8 e9 e10 e11 e12 e13 e14 e15 e16 e17 e18 e19 e20 e21 e22 e23 e24 e25 : Value} (h : J e5 w') (hm : m e5 w' < m x5 w) : oublietteref01_Ints.N1 J m x0 x1 x5 w [x0, x1, e2, e3, e4, e5, e6, e7, e8, e9, e10, e11, e12, e13, e14, e15, e16, e17, e18, e19, e20, e21, e22, e23, e24, e25] w' :=
  ⟨⟨e5, (fun i => nth [x0, x1, e2, e3, e4, e5, e6, e7, e8, e9, e10, e11, e12, e13, e14, e15, e16, e17, e18, e19, e20, e21, e22, e23, e24, e25] i), rfl, h⟩, hm⟩
theorem oublietteref01_Ints.loop1 (J : Value → World → Prop) (m : Value → World → Nat) {R : KV} {X : KX} {w : World} {x0 : Value} {x1 : Value} {e2 e3 e4 e5 e6 e7 e8 e9 e10 e11 e12 e13 e14 e15 e16 e17 e18 e19 e20 e21 e22 e23 e24 e25 : Value} (h0 : J e5 w)
    (hr : ∀ x5 g w, J x5 w → oublietteref01_Ints.b1 x0 x1 x5 g (oublietteref01_Ints.N1 J m x0 x1 x5 w) R X w) : oublietteref01_Ints.I1 [x0, x1, e2, e3, e4, e5, e6, e7, e8, e9, e10, e11, e12, e13, e14, e15, e16, e17, e18, e19, e20, e21, e22, e23, e24, e25] R X w := by
  rw [oublietteref01_Ints.I1_eq]
  refine ⟨fun e w => ∃ y5 g, e = oublietteref01_Ints.fr1 x0 x1 y5 g ∧ J y5 w, fun e w => m (nth e 5) w, ⟨e5, (fun i => nth [x0, x1, e2, e3, e4, e5, e6, e7, e8, e9, e10, e11, e12, e13, e14, e15, e16, e17, e18, e19, e20, e21, e22, e23, e24, e25] i), rfl, h0⟩, ?_⟩
  rintro _ w ⟨y5, g, rfl, hJ⟩
  rw [oublietteref01_Ints.b1_eq]
  exact hr y5 g w hJ
def oublietteref01_Ints.b (x0 : Value) (x1 : Value) (R : KV) (X : KX) (w : World) : Prop :=
  pLenSl x0 fun t7 =>
  pLenSl x1 fun t9 =>
  pBinI .neq .i64 t7 t9 fun t10 =>
  scond t10
  (R (.bool false) w)
  (oublietteref01_Ints.I1 [x0, x1, undef, undef, (.bool false), (.int .i64 0), x0, t7, x1, t9, t10, undef, undef, undef, undef, undef, undef, undef, undef, undef, undef, undef, undef, undef, undef, undef] R X w)
theorem oublietteref01_Ints.b_eq (x0 : Value) (x1 : Value) (R : KV) (X : KX) (w : World) : atP Try.prog Try.f14 oublietteref01_Ints.pl [] [] R X ([x0, x1] ++ undefs 24) w = oublietteref01_Ints.b x0 x1 R X w := by kernel_rfl
theorem oublietteref01_Ints.calls {x0 x1 : Value} {R : KV} {X : KX} {w : World} (h : oublietteref01_Ints.b x0 x1 R X w) : GCalls Try.prog 14 [x0, x1] R X w :=
  gcalls_of (pl := oublietteref01_Ints.pl) Try.func14 rfl (by kernel_rfl) hmixed (oublietteref01_Ints.b_eq x0 x1 R X w ▸ h)

/-! oubliette/oubliettelaw16.light -/
def oubliettelaw16_light.pl : Nat → DrawPlan
  | _ => ⟨[], .done⟩
def oubliettelaw16_light.b (x0 : Value) (x1 : Value) (R : KV) (X : KX) (w : World) : Prop :=
  pCall Try.prog 20 [x0] X w fun t6 w =>
  gIf t6 true (fun K => K x0) fun t8 =>
  gIf t6 true (fun K => pLenSl t8 K) fun t9 =>
  gIf t6 true (fun K => pBinI .leq .i64 t9 (.int .i64 30) K) fun t10 =>
  pPick t6 t10 (.bool false) fun t11 =>
  gIf t11 true (fun K => K x1) fun t13 =>
  gIf t11 true (fun K => pLenSl t13 K) fun t14 =>
  gIf t11 true (fun K => pBinI .leq .i64 t14 (.int .i64 20) K) fun t15 =>
  pPick t11 t15 (.bool false) fun t16 =>
  R t16 w
theorem oubliettelaw16_light.b_eq (x0 : Value) (x1 : Value) (R : KV) (X : KX) (w : World) : atP Try.prog Try.f6 oubliettelaw16_light.pl [] [] R X ([x0, x1] ++ undefs 15) w = oubliettelaw16_light.b x0 x1 R X w := by kernel_rfl
theorem oubliettelaw16_light.calls {x0 x1 : Value} {R : KV} {X : KX} {w : World} (h : oubliettelaw16_light.b x0 x1 R X w) : GCalls Try.prog 6 [x0, x1] R X w :=
  gcalls_of (pl := oubliettelaw16_light.pl) Try.func6 rfl (by kernel_rfl) hmixed (oubliettelaw16_light.b_eq x0 x1 R X w ▸ h)

/-! oubliette/oubliettelaw16.made -/
def oubliettelaw16_made.pl : Nat → DrawPlan
  | _ => ⟨[], .done⟩
def oubliettelaw16_made.b1 (x0 : Value) (x4 : Value) (x5 : Value) (x6 : Value) (g : Nat → Value) (N1 : List Value → World → Prop) (R : KV) (X : KX) (w : World) : Prop :=
  pLenSl x0 fun t12 =>
  pBinI .lss .i64 x6 t12 fun t13 =>
  scond t13
  (pIA 4 x0 x6 fun t19 =>
    pLdN (· = w) 4 t19 fun t20 =>
    pCall Try.prog 24 [x4, t20] X w fun t21 w =>
    pIA 4 x0 x6 fun t26 =>
    pLdN (· = w) 4 t26 fun t27 =>
    pCall Try.prog 25 [x5, t27] X w fun t28 w =>
    pExt t28 0 fun t29 =>
    pExt t28 1 fun t30 =>
    pBinI .add .i64 x6 (.int .i64 1) fun t15 =>
    N1 [x0, (g 1), (g 2), (g 3), x4, t29, t15, t29, t30, (g 9), x6, x0, t12, t13, x6, t15, x4, x0, x6, t19, t20, t21, t28, x5, x0, x6, t26, t27, t28, t29, t30, t29, (g 32), (g 33)] w)
  (R (.tuple #[x4, x5]) w)
def oubliettelaw16_made.I1 (e : List Value) (R : KV) (X : KX) (w : World) : Prop := atP Try.prog Try.f8 oubliettelaw16_made.pl [1, 1, 1, 0, 1, 0] [] R X e w
theorem oubliettelaw16_made.I1_eq (e : List Value) (R : KV) (X : KX) (w : World) : oubliettelaw16_made.I1 e R X w = loopS (fun N e w => atP Try.prog Try.f8 oubliettelaw16_made.pl [1, 1, 1, 0, 1, 0, 0] [N] R X e w) e w := by kernel_rfl
def oubliettelaw16_made.fr1 (x0 : Value) (x4 : Value) (x5 : Value) (x6 : Value) (g : Nat → Value) : List Value := [x0, g 1, g 2, g 3, x4, x5, x6, g 7, g 8, g 9, g 10, g 11, g 12, g 13, g 14, g 15, g 16, g 17, g 18, g 19, g 20, g 21, g 22, g 23, g 24, g 25, g 26, g 27, g 28, g 29, g 30, g 31, g 32, g 33]
theorem oubliettelaw16_made.b1_eq (x0 : Value) (x4 : Value) (x5 : Value) (x6 : Value) (g : Nat → Value) (N1 : List Value → World → Prop) (R : KV) (X : KX) (w : World) : atP Try.prog Try.f8 oubliettelaw16_made.pl [1, 1, 1, 0, 1, 0, 0] [N1] R X (oubliettelaw16_made.fr1 x0 x4 x5 x6 g) w = oubliettelaw16_made.b1 x0 x4 x5 x6 g N1 R X w := by kernel_rfl
/-- What a round of this loop hands on. -/
def oubliettelaw16_made.N1 (J : Value → Value → World → Prop) (m : Value → Value → World → Nat) (x0 : Value) (x4 : Value) (x5 : Value) (x6 : Value) (w : World) : List Value → World → Prop := fun e w' => (∃ y5 y6 g, e = oubliettelaw16_made.fr1 x0 x4 y5 y6 g ∧ J y5 y6 w') ∧ m (nth e 5) (nth e 6) w' < m x5 x6 w
theorem oubliettelaw16_made.leaf1 {J : Value → Value → World → Prop} {m : Value → Value → World → Nat} {x0 : Value} {x4 : Value} {x5 : Value} {x6 : Value} {w w' : World} {e1 e2 e3 e5 e6 e7 e8 e9 e10 e11 e12 e13 e14 e15 e16 e17 e18 e19 e20 e21 e22 e23 e24 e25 e26 e27 e28 e29 e30 e31 e32 e33 : Value} (h : J e5 e6 w') (hm : m e5 e6 w' < m x5 x6 w) : oubliettelaw16_made.N1 J m x0 x4 x5 x6 w [x0, e1, e2, e3, x4, e5, e6, e7, e8, e9, e10, e11, e12, e13, e14, e15, e16, e17, e18, e19, e20, e21, e22, e23, e24, e25, e26, e27, e28, e29, e30, e31, e32, e33] w' :=
  ⟨⟨e5, e6, (fun i => nth [x0, e1, e2, e3, x4, e5, e6, e7, e8, e9, e10, e11, e12, e13, e14, e15, e16, e17, e18, e19, e20, e21, e22, e23, e24, e25, e26, e27, e28, e29, e30, e31, e32, e33] i), rfl, h⟩, hm⟩
theorem oubliettelaw16_made.loop1 (J : Value → Value → World → Prop) (m : Value → Value → World → Nat) {R : KV} {X : KX} {w : World} {x0 : Value} {x4 : Value} {e1 e2 e3 e5 e6 e7 e8 e9 e10 e11 e12 e13 e14 e15 e16 e17 e18 e19 e20 e21 e22 e23 e24 e25 e26 e27 e28 e29 e30 e31 e32 e33 : Value} (h0 : J e5 e6 w)
    (hr : ∀ x5 x6 g w, J x5 x6 w → oubliettelaw16_made.b1 x0 x4 x5 x6 g (oubliettelaw16_made.N1 J m x0 x4 x5 x6 w) R X w) : oubliettelaw16_made.I1 [x0, e1, e2, e3, x4, e5, e6, e7, e8, e9, e10, e11, e12, e13, e14, e15, e16, e17, e18, e19, e20, e21, e22, e23, e24, e25, e26, e27, e28, e29, e30, e31, e32, e33] R X w := by
  rw [oubliettelaw16_made.I1_eq]
  refine ⟨fun e w => ∃ y5 y6 g, e = oubliettelaw16_made.fr1 x0 x4 y5 y6 g ∧ J y5 y6 w, fun e w => m (nth e 5) (nth e 6) w, ⟨e5, e6, (fun i => nth [x0, e1, e2, e3, x4, e5, e6, e7, e8, e9, e10, e11, e12, e13, e14, e15, e16, e17, e18, e19, e20, e21, e22, e23, e24, e25, e26, e27, e28, e29, e30, e31, e32, e33] i), rfl, h0⟩, ?_⟩
  rintro _ w ⟨y5, y6, g, rfl, hJ⟩
  rw [oubliettelaw16_made.b1_eq]
  exact hr y5 y6 g w hJ
def oubliettelaw16_made.b (x0 : Value) (R : KV) (X : KX) (w : World) : Prop :=
  pCall Try.prog 21 [] X w fun t9 w =>
  oubliettelaw16_made.I1 [x0, undef, (.pointer none), (.slice none 0 0), t9, (.slice none 0 0), (.int .i64 0), undef, undef, t9, undef, undef, undef, undef, undef, undef, undef, undef, undef, undef, undef, undef, undef, undef, undef, undef, undef, undef, undef, undef, undef, undef, undef, undef] R X w
theorem oubliettelaw16_made.b_eq (x0 : Value) (R : KV) (X : KX) (w : World) : atP Try.prog Try.f8 oubliettelaw16_made.pl [] [] R X ([x0] ++ undefs 33) w = oubliettelaw16_made.b x0 R X w := by kernel_rfl
theorem oubliettelaw16_made.calls {x0 : Value} {R : KV} {X : KX} {w : World} (h : oubliettelaw16_made.b x0 R X w) : GCalls Try.prog 8 [x0] R X w :=
  gcalls_of (pl := oubliettelaw16_made.pl) Try.func8 rfl (by kernel_rfl) hmixed (oubliettelaw16_made.b_eq x0 R X w ▸ h)
end Go.Proofs.Ytkpgmaiklfjjgaa
end
