/-
  The functions' own code as conditions on values and worlds; the kernel checks that each is the code's own.
-/
import Derived.Test.YtlolomdgchkibaaProg
import Derived.Test.YtlolomdgchkibaaGg
set_option maxRecDepth 100000
set_option linter.unusedVariables false
namespace Go.Proofs.Ytlolomdgchkibaa
open Go.G
theorem hmixed : Try.prog.follows .mixedOrders = true := by kernel_rfl
/-! oubliette/oubliettelaw27.ShapeLooks -/
def oubliettelaw27_ShapeLooks.pl : Nat → DrawPlan
  | 1 => ⟨[([], [3]), ([], [3]), ([], [3]), ([0, 1, 2], [0, 1, 2, 8]), ([], [7]), ([], [7]), ([], [7]), ([4, 5, 6, 3], [4, 5, 6, 8]), ([3, 7], [3, 7, 9]), ([8, 7], [8, 10, 11, 12, 13, 14, 15, 16, 17]), ([9], [9, 12]), ([9], [9, 12]), ([10, 11, 9, 9], [9, 10, 11, 16]), ([9], [9, 15]), ([9], [9, 15]), ([13, 14, 12, 9], [9, 13, 14, 16]), ([12, 15, 9], [9, 12, 15, 17]), ([9, 16], [9, 16, 18]), ([17, 15], [17, 19, 20, 21, 22, 23, 24, 25, 26]), ([18], [18, 21]), ([18], [18, 21]), ([19, 20, 18, 18], [18, 19, 20, 25]), ([18], [18, 24]), ([18], [18, 24]), ([22, 23, 21, 18], [18, 22, 23, 25]), ([21, 24, 18], [18, 21, 24, 26]), ([18, 25], [18, 25, 27]), ([26, 24], [26, 28, 29, 30, 31, 32, 33, 34, 35]), ([27], [27, 30]), ([27], [27, 30]), ([28, 29, 27, 27], [27, 28, 29, 34]), ([27], [27, 33]), ([27], [27, 33]), ([31, 32, 30, 27], [27, 31, 32, 34]), ([30, 33, 27], [27, 30, 33, 35]), ([27, 34], [27, 34, 36]), ([35, 33], [35, 37, 38, 39, 40, 41, 42, 43, 44]), ([36], [36, 39]), ([36], [36, 39]), ([37, 38, 36, 36], [36, 37, 38, 43]), ([36], [36, 42]), ([36], [36, 42]), ([40, 41, 39, 36], [36, 40, 41, 43]), ([39, 42, 36], [36, 39, 42, 44]), ([36, 43], [36, 43, 45]), ([44, 42], [44, 46, 47, 48, 49, 50, 51, 52, 53]), ([45], [45, 48]), ([45], [45, 48]), ([46, 47, 45, 45], [45, 46, 47, 52]), ([45], [45, 51]), ([45], [45, 51]), ([49, 50, 48, 45], [45, 49, 50, 52]), ([48, 51, 45], [45, 48, 51, 53]), ([45, 52], [45, 52, 54]), ([53, 51], [53, 55, 56]), ([54, 54], [54, 56]), ([54, 55], [54, 55, 57]), ([56, 55, 0, 1, 2, 3, 4, 5, 6, 7, 8, 9, 10, 11, 12, 13, 14, 15, 16, 17, 18, 19, 20, 21, 22, 23, 24, 25, 26, 27, 28, 29, 30, 31, 32, 33, 34, 35, 36, 37, 38, 39, 40, 41, 42, 43, 44, 45, 46, 47, 48, 49, 50, 51, 52, 53, 54, 55, 56], [56])], .take 0 (.take 1 (.take 2 (.take 4 (.take 5 (.take 6 (.world 3 false (.world 7 false (.take 8 (.take 9 (.take 10 (.take 11 (.take 13 (.take 14 (.world 12 false (.world 15 false (.take 16 (.take 17 (.take 18 (.take 19 (.take 20 (.take 22 (.take 23 (.world 21 false (.world 24 false (.take 25 (.take 26 (.take 27 (.take 28 (.take 29 (.take 31 (.take 32 (.world 30 false (.world 33 false (.take 34 (.take 35 (.take 36 (.take 37 (.take 38 (.take 40 (.take 41 (.world 39 false (.world 42 false (.take 43 (.take 44 (.take 45 (.take 46 (.take 47 (.take 49 (.take 50 (.world 48 false (.world 51 false (.take 52 (.take 53 (.take 54 (.world 55 false (.take 56 (.take 57 (.done))) .none)))) .none) .none)))))))) .none) .none)))))))) .none) .none)))))))) .none) .none)))))))) .none) .none))))))) .none) .none))))))⟩
  | _ => ⟨[], .done⟩
def oubliettelaw27_ShapeLooks.b (x0 : Value) (x1 : Value) (x2 : Value) (R : KV) (X : KX) (w : World) : Prop :=
  pBox 33 x0 w fun t3 w =>
  drawn w fun S w =>
  pLdN S 3 t3 fun t7 =>
  pLdN S 3 t3 fun t11 =>
  pCall Try.prog 18 [t7, x1, x2] X w fun t10 w =>
  S w ∧ (pCall Try.prog 19 [t11, x1, x2] X w fun t14 w =>
    S w ∧ (pBinI .eql .i64 t10 t14 fun t15 =>
      gIf t15 true (fun K => pLdN S 3 t3 K) fun t17 =>
      gIf t15 true (fun K => K x1) fun t18 =>
      gIf t15 true (fun K => pLdN S 3 t3 K) fun t20 =>
      gIf t15 true (fun K => K x1) fun t21 =>
      gIfW t15 true (fun w K => pCall Try.prog 20 [t17, t18] X w K) w fun t19 w =>
      S w ∧ (gIfW t15 true (fun w K => pCall Try.prog 21 [t20, t21] X w K) w fun t22 w =>
        S w ∧ (gIf t15 true (fun K => pBinI .eql .i64 t19 t22 K) fun t23 =>
          pPick t15 t23 (.bool false) fun t24 =>
          gIf t24 true (fun K => pLdN S 3 t3 K) fun t26 =>
          gIf t24 true (fun K => K x1) fun t27 =>
          gIf t24 true (fun K => pLdN S 3 t3 K) fun t29 =>
          gIf t24 true (fun K => K x1) fun t30 =>
          gIfW t24 true (fun w K => pCall Try.prog 22 [t26, t27] X w K) w fun t28 w =>
          S w ∧ (gIfW t24 true (fun w K => pCall Try.prog 23 [t29, t30] X w K) w fun t31 w =>
            S w ∧ (gIf t24 true (fun K => pBinI .eql .i64 t28 t31 K) fun t32 =>
              pPick t24 t32 (.bool false) fun t33 =>
              gIf t33 true (fun K => pLdN S 3 t3 K) fun t35 =>
              gIf t33 true (fun K => K x1) fun t36 =>
              gIf t33 true (fun K => pLdN S 3 t3 K) fun t38 =>
              gIf t33 true (fun K => K x1) fun t39 =>
              gIfW t33 true (fun w K => pCall Try.prog 24 [t35, t36] X w K) w fun t37 w =>
              S w ∧ (gIfW t33 true (fun w K => pCall Try.prog 25 [t38, t39] X w K) w fun t40 w =>
                S w ∧ (gIf t33 true (fun K => pBinI .eql .i64 t37 t40 K) fun t41 =>
                  pPick t33 t41 (.bool false) fun t42 =>
                  gIf t42 true (fun K => pLdN S 3 t3 K) fun t44 =>
                  gIf t42 true (fun K => K x2) fun t45 =>
                  gIf t42 true (fun K => pLdN S 3 t3 K) fun t47 =>
                  gIf t42 true (fun K => K x2) fun t48 =>
                  gIfW t42 true (fun w K => pCall Try.prog 26 [t44, t45] X w K) w fun t46 w =>
                  S w ∧ (gIfW t42 true (fun w K => pCall Try.prog 27 [t47, t48] X w K) w fun t49 w =>
                    S w ∧ (gIf t42 true (fun K => pBinI .eql .i64 t46 t49 K) fun t50 =>
                      pPick t42 t50 (.bool false) fun t51 =>
                      gIf t51 true (fun K => pLdN S 3 t3 K) fun t53 =>
                      gIf t51 true (fun K => K x1) fun t54 =>
                      gIf t51 true (fun K => pLdN S 3 t3 K) fun t56 =>
                      gIf t51 true (fun K => K x1) fun t57 =>
                      gIfW t51 true (fun w K => pCall Try.prog 28 [t53, t54] X w K) w fun t55 w =>
                      S w ∧ (gIfW t51 true (fun w K => pCall Try.prog 29 [t56, t57] X w K) w fun t58 w =>
                        S w ∧ (gIf t51 true (fun K => pBinI .eql .i64 t55 t58 K) fun t59 =>
                          pPick t51 t59 (.bool false) fun t60 =>
                          gIfW t60 true (fun w K => pCall Try.prog 30 [] X w K) w fun t62 w =>
                          S w ∧ (pPick t60 t62 (.bool false) fun t63 =>
                            R t63 w)))))))))))))
theorem oubliettelaw27_ShapeLooks.b_eq (x0 : Value) (x1 : Value) (x2 : Value) (R : KV) (X : KX) (w : World) : atP Try.prog Try.f4 oubliettelaw27_ShapeLooks.pl [] [] R X ([x0, x1, x2] ++ undefs 61) w = oubliettelaw27_ShapeLooks.b x0 x1 x2 R X w := by kernel_rfl
theorem oubliettelaw27_ShapeLooks.calls {x0 x1 x2 : Value} {R : KV} {X : KX} {w : World} (h : oubliettelaw27_ShapeLooks.b x0 x1 x2 R X w) : GCalls Try.prog 4 [x0, x1, x2] R X w :=
  gcalls_of (pl := oubliettelaw27_ShapeLooks.pl) Try.func4 rfl (by kernel_rfl) hmixed (oubliettelaw27_ShapeLooks.b_eq x0 x1 x2 R X w ▸ h)

/-! oubliette/shape.Child -/
def shape_Child.pl : Nat → DrawPlan
  | _ => ⟨[], .done⟩
def shape_Child.b (x0 : Value) (x1 : Value) (x2 : Value) (R : KV) (X : KX) (w : World) : Prop :=
  pBox 33 x0 w fun t3 w =>
  pBinI .lss .i64 x1 (.int .i64 0) fun t8 =>
  gIf t8 false (fun K => K x1) fun t10 =>
  gIf t8 false (fun K => pLdN (· = w) 3 t3 K) fun t11 =>
  gIfW t8 false (fun w K => pCall Try.prog 56 [t11] X w K) w fun t12 w =>
  gIf t8 false (fun K => pBinI .geq .i64 t10 t12 K) fun t13 =>
  pPick t8 (.bool true) t13 fun t14 =>
  gIf t14 false (fun K => K x2) fun t16 =>
  gIf t14 false (fun K => pBinI .lss .i64 t16 (.int .i64 0) K) fun t17 =>
  pPick t14 (.bool true) t17 fun t18 =>
  gIf t18 false (fun K => K x2) fun t20 =>
  gIf t18 false (fun K => pFA 0 t3 K) fun t21 =>
  gIf t18 false (fun K => pLd (· = w) t21 K) fun t22 =>
  gIf t18 false (fun K => pBinI .geq .i64 t20 t22 K) fun t23 =>
  pPick t18 (.bool true) t23 fun t24 =>
  scond t24
  (R (.int .i64 (-1)) w)
  (pFA 0 t3 fun t25 =>
    pLd (· = w) t25 fun t26 =>
    pBinI .mul .i64 t26 x1 fun t28 =>
    pBinI .add .i64 t28 (.int .i64 1) fun t29 =>
    pBinI .add .i64 t29 x2 fun t31 =>
    R t31 w)
theorem shape_Child.b_eq (x0 : Value) (x1 : Value) (x2 : Value) (R : KV) (X : KX) (w : World) : atP Try.prog Try.f18 shape_Child.pl [] [] R X ([x0, x1, x2] ++ undefs 29) w = shape_Child.b x0 x1 x2 R X w := by kernel_rfl
theorem shape_Child.calls {x0 x1 x2 : Value} {R : KV} {X : KX} {w : World} (h : shape_Child.b x0 x1 x2 R X w) : GCalls Try.prog 18 [x0, x1, x2] R X w :=
  gcalls_of (pl := shape_Child.pl) Try.func18 rfl (by kernel_rfl) hmixed (shape_Child.b_eq x0 x1 x2 R X w ▸ h)

/-! oubliette/oublietteref27.Child -/
def oublietteref27_Child.pl : Nat → DrawPlan
  | _ => ⟨[], .done⟩
def oublietteref27_Child.b (x0 : Value) (x1 : Value) (x2 : Value) (R : KV) (X : KX) (w : World) : Prop :=
  pBox 33 x0 w fun t3 w =>
  pLdN (· = w) 3 t3 fun t11 =>
  pCall Try.prog 57 [t11, x1] X w fun t13 w =>
  pExt t13 0 fun t14 =>
  pExt t13 1 fun t15 =>
  pExt t13 2 fun t16 =>
  pNot t16 fun t18 =>
  gIf t18 false (fun K => K t14) fun t20 =>
  gIf t18 false (fun K => pFA 1 t3 K) fun t21 =>
  gIf t18 false (fun K => pLd (· = w) t21 K) fun t22 =>
  gIf t18 false (fun K => pBinI .eql .i64 t20 t22 K) fun t23 =>
  pPick t18 (.bool true) t23 fun t24 =>
  gIf t24 false (fun K => K x2) fun t26 =>
  gIf t24 false (fun K => pBinI .lss .i64 t26 (.int .i64 0) K) fun t27 =>
  pPick t24 (.bool true) t27 fun t28 =>
  gIf t28 false (fun K => K x2) fun t30 =>
  gIf t28 false (fun K => pFA 0 t3 K) fun t31 =>
  gIf t28 false (fun K => pLd (· = w) t31 K) fun t32 =>
  gIf t28 false (fun K => pBinI .geq .i64 t30 t32 K) fun t33 =>
  pPick t28 (.bool true) t33 fun t34 =>
  scond t34
  (R (.int .i64 (-1)) w)
  (pLdN (· = w) 3 t3 fun t35 =>
    pBinI .add .i64 t14 (.int .i64 1) fun t37 =>
    pFA 0 t3 fun t39 =>
    pLd (· = w) t39 fun t40 =>
    pBinI .mul .i64 t15 t40 fun t41 =>
    pBinI .add .i64 t41 x2 fun t43 =>
    pCall Try.prog 58 [t35, t37, t43] X w fun t44 w =>
    R t44 w)
theorem oublietteref27_Child.b_eq (x0 : Value) (x1 : Value) (x2 : Value) (R : KV) (X : KX) (w : World) : atP Try.prog Try.f19 oublietteref27_Child.pl [] [] R X ([x0, x1, x2] ++ undefs 42) w = oublietteref27_Child.b x0 x1 x2 R X w := by kernel_rfl
theorem oublietteref27_Child.calls {x0 x1 x2 : Value} {R : KV} {X : KX} {w : World} (h : oublietteref27_Child.b x0 x1 x2 R X w) : GCalls Try.prog 19 [x0, x1, x2] R X w :=
  gcalls_of (pl := oublietteref27_Child.pl) Try.func19 rfl (by kernel_rfl) hmixed (oublietteref27_Child.b_eq x0 x1 x2 R X w ▸ h)

/-! oubliette/shape.Parent -/
def shape_Parent.pl : Nat → DrawPlan
  | _ => ⟨[], .done⟩
def shape_Parent.b (x0 : Value) (x1 : Value) (R : KV) (X : KX) (w : World) : Prop :=
  pBox 33 x0 w fun t2 w =>
  pLdN (· = w) 3 t2 fun t5 =>
  pCall Try.prog 59 [t5, x1] X w fun t7 w =>
  pNot t7 fun t8 =>
  gIf t8 false (fun K => K x1) fun t10 =>
  gIf t8 false (fun K => pBinI .eql .i64 t10 (.int .i64 0) K) fun t11 =>
  pPick t8 (.bool true) t11 fun t12 =>
  scond t12
  (R (.int .i64 (-1)) w)
  (pBinI .sub .i64 x1 (.int .i64 1) fun t14 =>
    pFA 0 t2 fun t15 =>
    pLd (· = w) t15 fun t16 =>
    pDiv .quo .i64 t14 t16 fun t17 =>
    R t17 w)
theorem shape_Parent.b_eq (x0 : Value) (x1 : Value) (R : KV) (X : KX) (w : World) : atP Try.prog Try.f20 shape_Parent.pl [] [] R X ([x0, x1] ++ undefs 16) w = shape_Parent.b x0 x1 R X w := by kernel_rfl
theorem shape_Parent.calls {x0 x1 : Value} {R : KV} {X : KX} {w : World} (h : shape_Parent.b x0 x1 R X w) : GCalls Try.prog 20 [x0, x1] R X w :=
  gcalls_of (pl := shape_Parent.pl) Try.func20 rfl (by kernel_rfl) hmixed (shape_Parent.b_eq x0 x1 R X w ▸ h)

/-! oubliette/oublietteref27.Parent -/
def oublietteref27_Parent.pl : Nat → DrawPlan
  | 4 => ⟨[([], [7]), ([], [2]), ([1], [1, 7]), ([], [6]), ([], [5]), ([4], [4, 6]), ([3, 5], [3, 5, 7]), ([0, 2, 6], [0, 2, 6, 8]), ([7, 7, 0, 1, 2, 3, 4, 5, 6, 7], [7])], .take 0 (.take 1 (.take 2 (.take 3 (.take 4 (.take 5 (.take 6 (.world 7 false (.take 8 (.done)) .none)))))))⟩
  | _ => ⟨[], .done⟩
def oublietteref27_Parent.b (x0 : Value) (x1 : Value) (R : KV) (X : KX) (w : World) : Prop :=
  pBox 33 x0 w fun t2 w =>
  pLdN (· = w) 3 t2 fun t9 =>
  pCall Try.prog 57 [t9, x1] X w fun t11 w =>
  pExt t11 0 fun t12 =>
  pExt t11 1 fun t13 =>
  pExt t11 2 fun t14 =>
  pNot t14 fun t16 =>
  gIf t16 false (fun K => K t12) fun t18 =>
  gIf t16 false (fun K => pBinI .eql .i64 t18 (.int .i64 0) K) fun t19 =>
  pPick t16 (.bool true) t19 fun t20 =>
  scond t20
  (R (.int .i64 (-1)) w)
  (drawn w fun S w =>
    pLdN S 3 t2 fun t21 =>
    pBinI .sub .i64 t12 (.int .i64 1) fun t23 =>
    pFA 0 t2 fun t25 =>
    pLd S t25 fun t26 =>
    pDiv .quo .i64 t13 t26 fun t27 =>
    pCall Try.prog 58 [t21, t23, t27] X w fun t28 w =>
    S w ∧ (R t28 w))
theorem oublietteref27_Parent.b_eq (x0 : Value) (x1 : Value) (R : KV) (X : KX) (w : World) : atP Try.prog Try.f21 oublietteref27_Parent.pl [] [] R X ([x0, x1] ++ undefs 27) w = oublietteref27_Parent.b x0 x1 R X w := by kernel_rfl
theorem oublietteref27_Parent.calls {x0 x1 : Value} {R : KV} {X : KX} {w : World} (h : oublietteref27_Parent.b x0 x1 R X w) : GCalls Try.prog 21 [x0, x1] R X w :=
  gcalls_of (pl := oublietteref27_Parent.pl) Try.func21 rfl (by kernel_rfl) hmixed (oublietteref27_Parent.b_eq x0 x1 R X w ▸ h)

/-! oubliette/shape.Which -/
def shape_Which.pl : Nat → DrawPlan
  | _ => ⟨[], .done⟩
def shape_Which.b (x0 : Value) (x1 : Value) (R : KV) (X : KX) (w : World) : Prop :=
  pBox 33 x0 w fun t2 w =>
  pLdN (· = w) 3 t2 fun t5 =>
  pCall Try.prog 59 [t5, x1] X w fun t7 w =>
  pNot t7 fun t8 =>
  gIf t8 false (fun K => K x1) fun t10 =>
  gIf t8 false (fun K => pBinI .eql .i64 t10 (.int .i64 0) K) fun t11 =>
  pPick t8 (.bool true) t11 fun t12 =>
  scond t12
  (R (.int .i64 (-1)) w)
  (pBinI .sub .i64 x1 (.int .i64 1) fun t14 =>
    pFA 0 t2 fun t15 =>
    pLd (· = w) t15 fun t16 =>
    pDiv .rem .i64 t14 t16 fun t17 =>
    R t17 w)
theorem shape_Which.b_eq (x0 : Value) (x1 : Value) (R : KV) (X : KX) (w : World) : atP Try.prog Try.f22 shape_Which.pl [] [] R X ([x0, x1] ++ undefs 16) w = shape_Which.b x0 x1 R X w := by kernel_rfl
theorem shape_Which.calls {x0 x1 : Value} {R : KV} {X : KX} {w : World} (h : shape_Which.b x0 x1 R X w) : GCalls Try.prog 22 [x0, x1] R X w :=
  gcalls_of (pl := shape_Which.pl) Try.func22 rfl (by kernel_rfl) hmixed (shape_Which.b_eq x0 x1 R X w ▸ h)

/-! oubliette/oublietteref27.Which -/
def oublietteref27_Which.pl : Nat → DrawPlan
  | _ => ⟨[], .done⟩
def oublietteref27_Which.b (x0 : Value) (x1 : Value) (R : KV) (X : KX) (w : World) : Prop :=
  pBox 33 x0 w fun t2 w =>
  pLdN (· = w) 3 t2 fun t9 =>
  pCall Try.prog 57 [t9, x1] X w fun t11 w =>
  pExt t11 0 fun t12 =>
  pExt t11 1 fun t13 =>
  pExt t11 2 fun t14 =>
  pNot t14 fun t16 =>
  gIf t16 false (fun K => K t12) fun t18 =>
  gIf t16 false (fun K => pBinI .eql .i64 t18 (.int .i64 0) K) fun t19 =>
  pPick t16 (.bool true) t19 fun t20 =>
  scond t20
  (R (.int .i64 (-1)) w)
  (pFA 0 t2 fun t22 =>
    pLd (· = w) t22 fun t23 =>
    pDiv .rem .i64 t13 t23 fun t24 =>
    R t24 w)
theorem oublietteref27_Which.b_eq (x0 : Value) (x1 : Value) (R : KV) (X : KX) (w : World) : atP Try.prog Try.f23 oublietteref27_Which.pl [] [] R X ([x0, x1] ++ undefs 23) w = oublietteref27_Which.b x0 x1 R X w := by kernel_rfl
theorem oublietteref27_Which.calls {x0 x1 : Value} {R : KV} {X : KX} {w : World} (h : oublietteref27_Which.b x0 x1 R X w) : GCalls Try.prog 23 [x0, x1] R X w :=
  gcalls_of (pl := oublietteref27_Which.pl) Try.func23 rfl (by kernel_rfl) hmixed (oublietteref27_Which.b_eq x0 x1 R X w ▸ h)

/-! oubliette/shape.Level -/
def shape_Level.pl : Nat → DrawPlan
  | _ => ⟨[], .done⟩
def shape_Level.b (x0 : Value) (x1 : Value) (R : KV) (X : KX) (w : World) : Prop :=
  pBox 33 x0 w fun t2 w =>
  pLdN (· = w) 3 t2 fun t5 =>
  pCall Try.prog 60 [t5, x1] X w fun t7 w =>
  pLenSl t7 fun t8 =>
  pBinI .sub .i64 t8 (.int .i64 1) fun t9 =>
  R t9 w
theorem shape_Level.b_eq (x0 : Value) (x1 : Value) (R : KV) (X : KX) (w : World) : atP Try.prog Try.f24 shape_Level.pl [] [] R X ([x0, x1] ++ undefs 8) w = shape_Level.b x0 x1 R X w := by kernel_rfl
theorem shape_Level.calls {x0 x1 : Value} {R : KV} {X : KX} {w : World} (h : shape_Level.b x0 x1 R X w) : GCalls Try.prog 24 [x0, x1] R X w :=
  gcalls_of (pl := shape_Level.pl) Try.func24 rfl (by kernel_rfl) hmixed (shape_Level.b_eq x0 x1 R X w ▸ h)

/-! oubliette/oublietteref27.Level -/
def oublietteref27_Level.pl : Nat → DrawPlan
  | _ => ⟨[], .done⟩
def oublietteref27_Level.b (x0 : Value) (x1 : Value) (R : KV) (X : KX) (w : World) : Prop :=
  pBox 33 x0 w fun t2 w =>
  pLdN (· = w) 3 t2 fun t9 =>
  pCall Try.prog 57 [t9, x1] X w fun t11 w =>
  pExt t11 0 fun t12 =>
  pExt t11 1 fun t13 =>
  pExt t11 2 fun t14 =>
  pNot t14 fun t16 =>
  scond t16
  (R (.int .i64 (-1)) w)
  (R t12 w)
theorem oublietteref27_Level.b_eq (x0 : Value) (x1 : Value) (R : KV) (X : KX) (w : World) : atP Try.prog Try.f25 oublietteref27_Level.pl [] [] R X ([x0, x1] ++ undefs 16) w = oublietteref27_Level.b x0 x1 R X w := by kernel_rfl
theorem oublietteref27_Level.calls {x0 x1 : Value} {R : KV} {X : KX} {w : World} (h : oublietteref27_Level.b x0 x1 R X w) : GCalls Try.prog 25 [x0, x1] R X w :=
  gcalls_of (pl := oublietteref27_Level.pl) Try.func25 rfl (by kernel_rfl) hmixed (oublietteref27_Level.b_eq x0 x1 R X w ▸ h)

/-! oubliette/shape.Leaf -/
def shape_Leaf.pl : Nat → DrawPlan
  | _ => ⟨[], .done⟩
def shape_Leaf.b (x0 : Value) (x1 : Value) (R : KV) (X : KX) (w : World) : Prop :=
  pBox 33 x0 w fun t2 w =>
  pBinI .lss .i64 x1 (.int .i64 0) fun t6 =>
  gIf t6 false (fun K => K x1) fun t8 =>
  gIf t6 false (fun K => pLdN (· = w) 3 t2 K) fun t9 =>
  gIfW t6 false (fun w K => pCall Try.prog 61 [t9] X w K) w fun t10 w =>
  gIf t6 false (fun K => pBinI .geq .i64 t8 t10 K) fun t11 =>
  pPick t6 (.bool true) t11 fun t12 =>
  scond t12
  (R (.int .i64 (-1)) w)
  (pLdN (· = w) 3 t2 fun t13 =>
    pCall Try.prog 56 [t13] X w fun t14 w =>
    pBinI .add .i64 t14 x1 fun t16 =>
    R t16 w)
theorem shape_Leaf.b_eq (x0 : Value) (x1 : Value) (R : KV) (X : KX) (w : World) : atP Try.prog Try.f26 shape_Leaf.pl [] [] R X ([x0, x1] ++ undefs 15) w = shape_Leaf.b x0 x1 R X w := by kernel_rfl
theorem shape_Leaf.calls {x0 x1 : Value} {R : KV} {X : KX} {w : World} (h : shape_Leaf.b x0 x1 R X w) : GCalls Try.prog 26 [x0, x1] R X w :=
  gcalls_of (pl := shape_Leaf.pl) Try.func26 rfl (by kernel_rfl) hmixed (shape_Leaf.b_eq x0 x1 R X w ▸ h)

/-! oubliette/oublietteref27.Leaf -/
def oublietteref27_Leaf.pl : Nat → DrawPlan
  | _ => ⟨[], .done⟩
def oublietteref27_Leaf.b (x0 : Value) (x1 : Value) (R : KV) (X : KX) (w : World) : Prop :=
  pBox 33 x0 w fun t2 w =>
  pBinI .lss .i64 x1 (.int .i64 0) fun t6 =>
  gIf t6 false (fun K => K x1) fun t8 =>
  gIf t6 false (fun K => pLdN (· = w) 3 t2 K) fun t9 =>
  gIfW t6 false (fun w K => pCall Try.prog 62 [t9] X w K) w fun t10 w =>
  gIf t6 false (fun K => pBinI .geq .i64 t8 t10 K) fun t11 =>
  pPick t6 (.bool true) t11 fun t12 =>
  scond t12
  (R (.int .i64 (-1)) w)
  (pLdN (· = w) 3 t2 fun t13 =>
    pFA 1 t2 fun t14 =>
    pLd (· = w) t14 fun t15 =>
    pCall Try.prog 58 [t13, t15, x1] X w fun t17 w =>
    R t17 w)
theorem oublietteref27_Leaf.b_eq (x0 : Value) (x1 : Value) (R : KV) (X : KX) (w : World) : atP Try.prog Try.f27 oublietteref27_Leaf.pl [] [] R X ([x0, x1] ++ undefs 16) w = oublietteref27_Leaf.b x0 x1 R X w := by kernel_rfl
theorem oublietteref27_Leaf.calls {x0 x1 : Value} {R : KV} {X : KX} {w : World} (h : oublietteref27_Leaf.b x0 x1 R X w) : GCalls Try.prog 27 [x0, x1] R X w :=
  gcalls_of (pl := oublietteref27_Leaf.pl) Try.func27 rfl (by kernel_rfl) hmixed (oublietteref27_Leaf.b_eq x0 x1 R X w ▸ h)

/-! oubliette/shape.Slot -/
def shape_Slot.pl : Nat → DrawPlan
  | _ => ⟨[], .done⟩
def shape_Slot.b (x0 : Value) (x1 : Value) (R : KV) (X : KX) (w : World) : Prop :=
  pBox 33 x0 w fun t2 w =>
  pLdN (· = w) 3 t2 fun t5 =>
  pCall Try.prog 59 [t5, x1] X w fun t7 w =>
  pNot t7 fun t8 =>
  gIf t8 false (fun K => K x1) fun t10 =>
  gIf t8 false (fun K => pLdN (· = w) 3 t2 K) fun t11 =>
  gIfW t8 false (fun w K => pCall Try.prog 56 [t11] X w K) w fun t12 w =>
  gIf t8 false (fun K => pBinI .lss .i64 t10 t12 K) fun t13 =>
  pPick t8 (.bool true) t13 fun t14 =>
  scond t14
  (R (.int .i64 (-1)) w)
  (pLdN (· = w) 3 t2 fun t16 =>
    pCall Try.prog 56 [t16] X w fun t17 w =>
    pBinI .sub .i64 x1 t17 fun t18 =>
    R t18 w)
theorem shape_Slot.b_eq (x0 : Value) (x1 : Value) (R : KV) (X : KX) (w : World) : atP Try.prog Try.f28 shape_Slot.pl [] [] R X ([x0, x1] ++ undefs 17) w = shape_Slot.b x0 x1 R X w := by kernel_rfl
theorem shape_Slot.calls {x0 x1 : Value} {R : KV} {X : KX} {w : World} (h : shape_Slot.b x0 x1 R X w) : GCalls Try.prog 28 [x0, x1] R X w :=
  gcalls_of (pl := shape_Slot.pl) Try.func28 rfl (by kernel_rfl) hmixed (shape_Slot.b_eq x0 x1 R X w ▸ h)

/-! oubliette/oublietteref27.Slot -/
def oublietteref27_Slot.pl : Nat → DrawPlan
  | _ => ⟨[], .done⟩
def oublietteref27_Slot.b (x0 : Value) (x1 : Value) (R : KV) (X : KX) (w : World) : Prop :=
  pBox 33 x0 w fun t2 w =>
  pLdN (· = w) 3 t2 fun t9 =>
  pCall Try.prog 57 [t9, x1] X w fun t11 w =>
  pExt t11 0 fun t12 =>
  pExt t11 1 fun t13 =>
  pExt t11 2 fun t14 =>
  pNot t14 fun t16 =>
  gIf t16 false (fun K => K t12) fun t18 =>
  gIf t16 false (fun K => pFA 1 t2 K) fun t19 =>
  gIf t16 false (fun K => pLd (· = w) t19 K) fun t20 =>
  gIf t16 false (fun K => pBinI .neq .i64 t18 t20 K) fun t21 =>
  pPick t16 (.bool true) t21 fun t22 =>
  scond t22
  (R (.int .i64 (-1)) w)
  (R t13 w)
theorem oublietteref27_Slot.b_eq (x0 : Value) (x1 : Value) (R : KV) (X : KX) (w : World) : atP Try.prog Try.f29 oublietteref27_Slot.pl [] [] R X ([x0, x1] ++ undefs 22) w = oublietteref27_Slot.b x0 x1 R X w := by kernel_rfl
theorem oublietteref27_Slot.calls {x0 x1 : Value} {R : KV} {X : KX} {w : World} (h : oublietteref27_Slot.b x0 x1 R X w) : GCalls Try.prog 29 [x0, x1] R X w :=
  gcalls_of (pl := oublietteref27_Slot.pl) Try.func29 rfl (by kernel_rfl) hmixed (oublietteref27_Slot.b_eq x0 x1 R X w ▸ h)

/-! oubliette/oubliettelaw27.alive -/
def oubliettelaw27_alive.pl : Nat → DrawPlan
  | _ => ⟨[], .done⟩
def oubliettelaw27_alive.b (R : KV) (X : KX) (w : World) : Prop :=
  pBuild [.int .i64 0, .int .i64 0, .int .i64 0] [(0, 1, (.int .i64 2)), (1, 1, (.int .i64 2)), (2, 1, (.int .i64 4))] fun t2 =>
  pBox 33 (.agg #[.int .i64 0, .int .i64 0, .int .i64 0]) w fun t1 w =>
  pStN 3 t1 t2 w fun _ w =>
  pLdN (· = w) 3 t1 fun t3 =>
  pCall Try.prog 47 [t3, (.int .i64 3)] X w fun t4 w =>
  pBSlice 3 2 (rowOf [.int .i64 0] 2) [(0, 1, (.int .i64 0)), (1, 1, (.int .i64 2))] w fun t5 w =>
  pCall Try.prog 12 [t4, t5] X w fun t6 w =>
  gIf t6 true (fun K => pLdN (· = w) 3 t1 K) fun t8 =>
  gIfW t6 true (fun w K => pCall Try.prog 26 [t8, (.int .i64 3)] X w K) w fun t9 w =>
  gIf t6 true (fun K => pBinI .eql .i64 t9 (.int .i64 6) K) fun t10 =>
  pPick t6 t10 (.bool false) fun t11 =>
  R t11 w
theorem oubliettelaw27_alive.b_eq (R : KV) (X : KX) (w : World) : atP Try.prog Try.f30 oubliettelaw27_alive.pl [] [] R X ([] ++ undefs 12) w = oubliettelaw27_alive.b R X w := by kernel_rfl
theorem oubliettelaw27_alive.calls {R : KV} {X : KX} {w : World} (h : oubliettelaw27_alive.b R X w) : GCalls Try.prog 30 [] R X w :=
  gcalls_of (pl := oubliettelaw27_alive.pl) Try.func30 rfl (by kernel_rfl) hmixed (oubliettelaw27_alive.b_eq R X w ▸ h)

/-! oubliette/oublietteref21.Pages -/
def oublietteref21_Pages.pl : Nat → DrawPlan
  | 1 => ⟨[([], [1]), ([0], [0, 4]), ([], [3]), ([2, 1], [2, 4]), ([1, 3], [1, 3, 5]), ([4, 3, 0, 1, 2, 3, 4], [4])], .take 0 (.take 2 (.world 1 false (.world 3 false (.take 4 (.take 5 (.done))) .none) .none))⟩
  | _ => ⟨[], .done⟩
def oublietteref21_Pages.b (x0 : Value) (R : KV) (X : KX) (w : World) : Prop :=
  pBox 33 x0 w fun t1 w =>
  drawn w fun S w =>
  pLdN S 3 t1 fun t3 =>
  pLdN S 3 t1 fun t5 =>
  pCall Try.prog 32 [t3] X w fun t4 w =>
  S w ∧ (pCall Try.prog 62 [t5] X w fun t6 w =>
    S w ∧ (pBinI .add .i64 t4 t6 fun t7 =>
      R t7 w))
theorem oublietteref21_Pages.b_eq (x0 : Value) (R : KV) (X : KX) (w : World) : atP Try.prog Try.f31 oublietteref21_Pages.pl [] [] R X ([x0] ++ undefs 7) w = oublietteref21_Pages.b x0 R X w := by kernel_rfl
theorem oublietteref21_Pages.calls {x0 : Value} {R : KV} {X : KX} {w : World} (h : oublietteref21_Pages.b x0 R X w) : GCalls Try.prog 31 [x0] R X w :=
  gcalls_of (pl := oublietteref21_Pages.pl) Try.func31 rfl (by kernel_rfl) hmixed (oublietteref21_Pages.b_eq x0 R X w ▸ h)

/-! oubliette/oublietteref21.Nodes -/
def oublietteref21_Nodes.pl : Nat → DrawPlan
  | _ => ⟨[], .done⟩
def oublietteref21_Nodes.b1 (x1 : Value) (x3 : Value) (x4 : Value) (x5 : Value) (g : Nat → Value) (N1 : List Value → World → Prop) (R : KV) (X : KX) (w : World) : Prop :=
  pFA 1 x1 fun t10 =>
  pLd (· = w) t10 fun t11 =>
  pBinI .lss .i64 x5 t11 fun t12 =>
  scond t12
  (pBinI .add .i64 x4 x3 fun t17 =>
    pFA 0 x1 fun t19 =>
    pLd (· = w) t19 fun t20 =>
    pBinI .mul .i64 x3 t20 fun t21 =>
    pBinI .add .i64 x5 (.int .i64 1) fun t14 =>
    N1 [(g 0), x1, (g 2), t21, t17, t14, (g 6), (g 7), (g 8), x5, t10, t11, t12, x5, t14, x4, x3, t17, x3, t19, t20, t21, (g 22)] w)
  (R x4 w)
def oublietteref21_Nodes.I1 (e : List Value) (R : KV) (X : KX) (w : World) : Prop := atP Try.prog Try.f32 oublietteref21_Nodes.pl [1, 1, 1, 0, 1, 0] [] R X e w
theorem oublietteref21_Nodes.I1_eq (e : List Value) (R : KV) (X : KX) (w : World) : oublietteref21_Nodes.I1 e R X w = loopS (fun N e w => atP Try.prog Try.f32 oublietteref21_Nodes.pl [1, 1, 1, 0, 1, 0, 0] [N] R X e w) e w := by kernel_rfl
def oublietteref21_Nodes.fr1 (x1 : Value) (x3 : Value) (x4 : Value) (x5 : Value) (g : Nat → Value) : List Value := [g 0, x1, g 2, x3, x4, x5, g 6, g 7, g 8, g 9, g 10, g 11, g 12, g 13, g 14, g 15, g 16, g 17, g 18, g 19, g 20, g 21, g 22]
theorem oublietteref21_Nodes.b1_eq (x1 : Value) (x3 : Value) (x4 : Value) (x5 : Value) (g : Nat → Value) (N1 : List Value → World → Prop) (R : KV) (X : KX) (w : World) : atP Try.prog Try.f32 oublietteref21_Nodes.pl [1, 1, 1, 0, 1, 0, 0] [N1] R X (oublietteref21_Nodes.fr1 x1 x3 x4 x5 g) w = oublietteref21_Nodes.b1 x1 x3 x4 x5 g N1 R X w := by kernel_rfl
/-- What a round of this loop hands on. -/
def oublietteref21_Nodes.N1 (J : Value → Value → Value → World → Prop) (m : Value → Value → Value → World → Nat) (x1 : Value) (x3 : Value) (x4 : Value) (x5 : Value) (w : World) : List Value → World → Prop := fun e w' => (∃ y3 y4 y5 g, e = oublietteref21_Nodes.fr1 x1 y3 y4 y5 g ∧ J y3 y4 y5 w') ∧ m (nth e 3) (nth e 4) (nth e 5) w' < m x3 x4 x5 w
theorem oublietteref21_Nodes.leaf1 {J : Value → Value → Value → World → Prop} {m : Value → Value → Value → World → Nat} {x1 : Value} {x3 : Value} {x4 : Value} {x5 : Value} {w w' : World} {e0 e2 e3 e4 e5 e6 e7 e8 e9 e10 e11 e12 e13 e14 e15 e16 e17 e18 e19 e20 e21 e22 : Value} (h : J e3 e4 e5 w') (hm : m e3 e4 e5 w' < m x3 x4 x5 w) : oublietteref21_Nodes.N1 J m x1 x3 x4 x5 w [e0, x1, e2, e3, e4, e5, e6, e7, e8, e9, e10, e11, e12, e13, e14, e15, e16, e17, e18, e19, e20, e21, e22] w' :=
  ⟨⟨e3, e4, e5, (fun i => nth [e0, x1, e2, e3, e4, e5, e6, e7, e8, e9, e10, e11, e12, e13, e14, e15, e16, e17, e18, e19, e20, e21, e22] i), rfl, h⟩, hm⟩
theorem oublietteref21_Nodes.loop1 (J : Value → Value → Value → World → Prop) (m : Value → Value → Value → World → Nat) {R : KV} {X : KX} {w : World} {x1 : Value} {e0 e2 e3 e4 e5 e6 e7 e8 e9 e10 e11 e12 e13 e14 e15 e16 e17 e18 e19 e20 e21 e22 : Value} (h0 : J e3 e4 e5 w)
    (hr : ∀ x3 x4 x5 g w, J x3 x4 x5 w → oublietteref21_Nodes.b1 x1 x3 x4 x5 g (oublietteref21_Nodes.N1 J m x1 x3 x4 x5 w) R X w) : oublietteref21_Nodes.I1 [e0, x1, e2, e3, e4, e5, e6, e7, e8, e9, e10, e11, e12, e13, e14, e15, e16, e17, e18, e19, e20, e21, e22] R X w := by
  rw [oublietteref21_Nodes.I1_eq]
  refine ⟨fun e w => ∃ y3 y4 y5 g, e = oublietteref21_Nodes.fr1 x1 y3 y4 y5 g ∧ J y3 y4 y5 w, fun e w => m (nth e 3) (nth e 4) (nth e 5) w, ⟨e3, e4, e5, (fun i => nth [e0, x1, e2, e3, e4, e5, e6, e7, e8, e9, e10, e11, e12, e13, e14, e15, e16, e17, e18, e19, e20, e21, e22] i), rfl, h0⟩, ?_⟩
  rintro _ w ⟨y3, y4, y5, g, rfl, hJ⟩
  rw [oublietteref21_Nodes.b1_eq]
  exact hr y3 y4 y5 g w hJ
def oublietteref21_Nodes.b (x0 : Value) (R : KV) (X : KX) (w : World) : Prop :=
  pBox 33 x0 w fun t1 w =>
  pLdN (· = w) 3 t1 fun t6 =>
  pCall Try.prog 63 [t6] X w fun t7 w =>
  pNot t7 fun t8 =>
  scond t8
  (R (.int .i64 0) w)
  (oublietteref21_Nodes.I1 [x0, t1, (.int .i64 0), (.int .i64 1), (.int .i64 0), (.int .i64 0), t6, t7, t8, undef, undef, undef, undef, undef, undef, undef, undef, undef, undef, undef, undef, undef, undef] R X w)
theorem oublietteref21_Nodes.b_eq (x0 : Value) (R : KV) (X : KX) (w : World) : atP Try.prog Try.f32 oublietteref21_Nodes.pl [] [] R X ([x0] ++ undefs 22) w = oublietteref21_Nodes.b x0 R X w := by kernel_rfl
theorem oublietteref21_Nodes.calls {x0 : Value} {R : KV} {X : KX} {w : World} (h : oublietteref21_Nodes.b x0 R X w) : GCalls Try.prog 32 [x0] R X w :=
  gcalls_of (pl := oublietteref21_Nodes.pl) Try.func32 rfl (by kernel_rfl) hmixed (oublietteref21_Nodes.b_eq x0 R X w ▸ h)

/-! oubliette/shape.Under -/
def shape_Under.pl : Nat → DrawPlan
  | 5 => ⟨[([], [2]), ([], [2, 9]), ([0, 1], [0, 1, 9]), ([], [8]), ([], [8, 10]), ([], [6]), ([5], [5, 7]), ([6], [6, 8]), ([3, 4, 7, 2], [3, 4, 7, 10]), ([2, 8, 0, 1, 2], [1, 2]), ([8, 9, 0, 1, 2, 3, 4, 5, 6, 7, 8, 9], [4, 8])], .take 0 (.take 1 (.take 3 (.take 4 (.take 5 (.take 6 (.take 7 (.world 2 false (.world 8 false (.take 9 (.take 10 (.done))) .none) .none)))))))⟩
  | _ => ⟨[], .done⟩
def shape_Under.b2 (x2 : Value) (x4 : Value) (x6 : Value) (x7 : Value) (g : Nat → Value) (N1 : List Value → World → Prop) (R : KV) (X : KX) (w : World) : Prop :=
  pBinI .leq .i64 x7 x6 fun t30 =>
  scond t30
  (pLdN (· = w) 3 x2 fun t34 =>
    pCall Try.prog 28 [t34, x7] X w fun t36 w =>
    pBSlice 3 1 (rowOf [.int .i64 0] 1) [(0, 1, t36)] w fun t37 w =>
    pApp 3 1 8 [.int .i64 0] x4 t37 w fun t38 w =>
    pBinI .add .i64 x7 (.int .i64 1) fun t32 =>
    N1 [(g 0), (g 1), x2, (g 3), t38, (g 5), x6, t32, (g 8), (g 9), (g 10), (g 11), (g 12), (g 13), (g 14), (g 15), (g 16), (g 17), (g 18), (g 19), (g 20), (g 21), (g 22), (g 23), (g 24), (g 25), (g 26), (g 27), x7, x6, t30, x7, t32, x4, t34, x7, t36, t37, t38, (g 39)] w)
  (R x4 w)
def shape_Under.I2 (e : List Value) (R : KV) (X : KX) (w : World) : Prop := atP Try.prog Try.f33 shape_Under.pl [1, 1, 1, 1, 0, 1, 0] [] R X e w
theorem shape_Under.I2_eq (e : List Value) (R : KV) (X : KX) (w : World) : shape_Under.I2 e R X w = loopS (fun N e w => atP Try.prog Try.f33 shape_Under.pl [1, 1, 1, 1, 0, 1, 0, 0] [N] R X e w) e w := by kernel_rfl
def shape_Under.fr2 (x2 : Value) (x4 : Value) (x6 : Value) (x7 : Value) (g : Nat → Value) : List Value := [g 0, g 1, x2, g 3, x4, g 5, x6, x7, g 8, g 9, g 10, g 11, g 12, g 13, g 14, g 15, g 16, g 17, g 18, g 19, g 20, g 21, g 22, g 23, g 24, g 25, g 26, g 27, g 28, g 29, g 30, g 31, g 32, g 33, g 34, g 35, g 36, g 37, g 38, g 39]
theorem shape_Under.b2_eq (x2 : Value) (x4 : Value) (x6 : Value) (x7 : Value) (g : Nat → Value) (N1 : List Value → World → Prop) (R : KV) (X : KX) (w : World) : atP Try.prog Try.f33 shape_Under.pl [1, 1, 1, 1, 0, 1, 0, 0] [N1] R X (shape_Under.fr2 x2 x4 x6 x7 g) w = shape_Under.b2 x2 x4 x6 x7 g N1 R X w := by kernel_rfl
/-- What a round of this loop hands on. -/
def shape_Under.N2 (J : Value → Value → World → Prop) (m : Value → Value → World → Nat) (x2 : Value) (x6 : Value) (x4 : Value) (x7 : Value) (w : World) : List Value → World → Prop := fun e w' => (∃ y4 y7 g, e = shape_Under.fr2 x2 y4 x6 y7 g ∧ J y4 y7 w') ∧ m (nth e 4) (nth e 7) w' < m x4 x7 w
theorem shape_Under.leaf2 {J : Value → Value → World → Prop} {m : Value → Value → World → Nat} {x2 : Value} {x4 : Value} {x6 : Value} {x7 : Value} {w w' : World} {e0 e1 e3 e4 e5 e7 e8 e9 e10 e11 e12 e13 e14 e15 e16 e17 e18 e19 e20 e21 e22 e23 e24 e25 e26 e27 e28 e29 e30 e31 e32 e33 e34 e35 e36 e37 e38 e39 : Value} (h : J e4 e7 w') (hm : m e4 e7 w' < m x4 x7 w) : shape_Under.N2 J m x2 x6 x4 x7 w [e0, e1, x2, e3, e4, e5, x6, e7, e8, e9, e10, e11, e12, e13, e14, e15, e16, e17, e18, e19, e20, e21, e22, e23, e24, e25, e26, e27, e28, e29, e30, e31, e32, e33, e34, e35, e36, e37, e38, e39] w' :=
  ⟨⟨e4, e7, (fun i => nth [e0, e1, x2, e3, e4, e5, x6, e7, e8, e9, e10, e11, e12, e13, e14, e15, e16, e17, e18, e19, e20, e21, e22, e23, e24, e25, e26, e27, e28, e29, e30, e31, e32, e33, e34, e35, e36, e37, e38, e39] i), rfl, h⟩, hm⟩
theorem shape_Under.loop2 (J : Value → Value → World → Prop) (m : Value → Value → World → Nat) {R : KV} {X : KX} {w : World} {x2 : Value} {x6 : Value} {e0 e1 e3 e4 e5 e7 e8 e9 e10 e11 e12 e13 e14 e15 e16 e17 e18 e19 e20 e21 e22 e23 e24 e25 e26 e27 e28 e29 e30 e31 e32 e33 e34 e35 e36 e37 e38 e39 : Value} (h0 : J e4 e7 w)
    (hr : ∀ x4 x7 g w, J x4 x7 w → shape_Under.b2 x2 x4 x6 x7 g (shape_Under.N2 J m x2 x6 x4 x7 w) R X w) : shape_Under.I2 [e0, e1, x2, e3, e4, e5, x6, e7, e8, e9, e10, e11, e12, e13, e14, e15, e16, e17, e18, e19, e20, e21, e22, e23, e24, e25, e26, e27, e28, e29, e30, e31, e32, e33, e34, e35, e36, e37, e38, e39] R X w := by
  rw [shape_Under.I2_eq]
  refine ⟨fun e w => ∃ y4 y7 g, e = shape_Under.fr2 x2 y4 x6 y7 g ∧ J y4 y7 w, fun e w => m (nth e 4) (nth e 7) w, ⟨e4, e7, (fun i => nth [e0, e1, x2, e3, e4, e5, x6, e7, e8, e9, e10, e11, e12, e13, e14, e15, e16, e17, e18, e19, e20, e21, e22, e23, e24, e25, e26, e27, e28, e29, e30, e31, e32, e33, e34, e35, e36, e37, e38, e39] i), rfl, h0⟩, ?_⟩
  rintro _ w ⟨y4, y7, g, rfl, hJ⟩
  rw [shape_Under.b2_eq]
  exact hr y4 y7 g w hJ
def shape_Under.b1 (x2 : Value) (x4 : Value) (x5 : Value) (x6 : Value) (g : Nat → Value) (N1 : List Value → World → Prop) (R : KV) (X : KX) (w : World) : Prop :=
  pLdN (· = w) 3 x2 fun t15 =>
  pCall Try.prog 56 [t15] X w fun t16 w =>
  pBinI .lss .i64 x5 t16 fun t17 =>
  scond t17
  (drawn w fun S w =>
    pLdN S 3 x2 fun t18 =>
    pLdN S 3 x2 fun t21 =>
    pFA 0 x2 fun t23 =>
    pLd S t23 fun t24 =>
    pBinI .sub .i64 t24 (.int .i64 1) fun t25 =>
    pCall Try.prog 18 [t18, x5, (.int .i64 0)] X w fun t20 w =>
    S w ∧ (pCall Try.prog 18 [t21, x6, t25] X w fun t26 w =>
      S w ∧ (N1 [(g 0), (g 1), x2, (g 3), x4, t20, t26, (g 7), (g 8), (g 9), (g 10), (g 11), (g 12), (g 13), x5, t15, t16, t17, t18, x5, t20, t21, x6, t23, t24, t25, t26, (g 27), (g 28), (g 29), (g 30), (g 31), (g 32), (g 33), (g 34), (g 35), (g 36), (g 37), (g 38), (g 39)] w)))
  (shape_Under.I2 [(g 0), (g 1), x2, (g 3), x4, x5, x6, x5, (g 8), (g 9), (g 10), (g 11), (g 12), (g 13), x5, t15, t16, t17, (g 18), (g 19), (g 20), (g 21), (g 22), (g 23), (g 24), (g 25), (g 26), x5, (g 28), (g 29), (g 30), (g 31), (g 32), (g 33), (g 34), (g 35), (g 36), (g 37), (g 38), (g 39)] R X w)
def shape_Under.I1 (e : List Value) (R : KV) (X : KX) (w : World) : Prop := atP Try.prog Try.f33 shape_Under.pl [1, 1, 1, 0, 0] [] R X e w
theorem shape_Under.I1_eq (e : List Value) (R : KV) (X : KX) (w : World) : shape_Under.I1 e R X w = loopS (fun N e w => atP Try.prog Try.f33 shape_Under.pl [1, 1, 1, 0, 0, 0] [N] R X e w) e w := by kernel_rfl
def shape_Under.fr1 (x2 : Value) (x4 : Value) (x5 : Value) (x6 : Value) (g : Nat → Value) : List Value := [g 0, g 1, x2, g 3, x4, x5, x6, g 7, g 8, g 9, g 10, g 11, g 12, g 13, g 14, g 15, g 16, g 17, g 18, g 19, g 20, g 21, g 22, g 23, g 24, g 25, g 26, g 27, g 28, g 29, g 30, g 31, g 32, g 33, g 34, g 35, g 36, g 37, g 38, g 39]
theorem shape_Under.b1_eq (x2 : Value) (x4 : Value) (x5 : Value) (x6 : Value) (g : Nat → Value) (N1 : List Value → World → Prop) (R : KV) (X : KX) (w : World) : atP Try.prog Try.f33 shape_Under.pl [1, 1, 1, 0, 0, 0] [N1] R X (shape_Under.fr1 x2 x4 x5 x6 g) w = shape_Under.b1 x2 x4 x5 x6 g N1 R X w := by kernel_rfl
/-- What a round of this loop hands on. -/
def shape_Under.N1 (J : Value → Value → World → Prop) (m : Value → Value → World → Nat) (x2 : Value) (x4 : Value) (x5 : Value) (x6 : Value) (w : World) : List Value → World → Prop := fun e w' => (∃ y5 y6 g, e = shape_Under.fr1 x2 x4 y5 y6 g ∧ J y5 y6 w') ∧ m (nth e 5) (nth e 6) w' < m x5 x6 w
theorem shape_Under.leaf1 {J : Value → Value → World → Prop} {m : Value → Value → World → Nat} {x2 : Value} {x4 : Value} {x5 : Value} {x6 : Value} {w w' : World} {e0 e1 e3 e5 e6 e7 e8 e9 e10 e11 e12 e13 e14 e15 e16 e17 e18 e19 e20 e21 e22 e23 e24 e25 e26 e27 e28 e29 e30 e31 e32 e33 e34 e35 e36 e37 e38 e39 : Value} (h : J e5 e6 w') (hm : m e5 e6 w' < m x5 x6 w) : shape_Under.N1 J m x2 x4 x5 x6 w [e0, e1, x2, e3, x4, e5, e6, e7, e8, e9, e10, e11, e12, e13, e14, e15, e16, e17, e18, e19, e20, e21, e22, e23, e24, e25, e26, e27, e28, e29, e30, e31, e32, e33, e34, e35, e36, e37, e38, e39] w' :=
  ⟨⟨e5, e6, (fun i => nth [e0, e1, x2, e3, x4, e5, e6, e7, e8, e9, e10, e11, e12, e13, e14, e15, e16, e17, e18, e19, e20, e21, e22, e23, e24, e25, e26, e27, e28, e29, e30, e31, e32, e33, e34, e35, e36, e37, e38, e39] i), rfl, h⟩, hm⟩
theorem shape_Under.loop1 (J : Value → Value → World → Prop) (m : Value → Value → World → Nat) {R : KV} {X : KX} {w : World} {x2 : Value} {x4 : Value} {e0 e1 e3 e5 e6 e7 e8 e9 e10 e11 e12 e13 e14 e15 e16 e17 e18 e19 e20 e21 e22 e23 e24 e25 e26 e27 e28 e29 e30 e31 e32 e33 e34 e35 e36 e37 e38 e39 : Value} (h0 : J e5 e6 w)
    (hr : ∀ x5 x6 g w, J x5 x6 w → shape_Under.b1 x2 x4 x5 x6 g (shape_Under.N1 J m x2 x4 x5 x6 w) R X w) : shape_Under.I1 [e0, e1, x2, e3, x4, e5, e6, e7, e8, e9, e10, e11, e12, e13, e14, e15, e16, e17, e18, e19, e20, e21, e22, e23, e24, e25, e26, e27, e28, e29, e30, e31, e32, e33, e34, e35, e36, e37, e38, e39] R X w := by
  rw [shape_Under.I1_eq]
  refine ⟨fun e w => ∃ y5 y6 g, e = shape_Under.fr1 x2 x4 y5 y6 g ∧ J y5 y6 w, fun e w => m (nth e 5) (nth e 6) w, ⟨e5, e6, (fun i => nth [e0, e1, x2, e3, x4, e5, e6, e7, e8, e9, e10, e11, e12, e13, e14, e15, e16, e17, e18, e19, e20, e21, e22, e23, e24, e25, e26, e27, e28, e29, e30, e31, e32, e33, e34, e35, e36, e37, e38, e39] i), rfl, h0⟩, ?_⟩
  rintro _ w ⟨y5, y6, g, rfl, hJ⟩
  rw [shape_Under.b1_eq]
  exact hr y5 y6 g w hJ
def shape_Under.b (x0 : Value) (x1 : Value) (R : KV) (X : KX) (w : World) : Prop :=
  pBox 33 x0 w fun t2 w =>
  pLdN (· = w) 3 t2 fun t8 =>
  pCall Try.prog 59 [t8, x1] X w fun t10 w =>
  pNot t10 fun t11 =>
  scond t11
  (R (.slice none 0 0) w)
  (shape_Under.I1 [x0, x1, t2, undef, (.slice none 0 0), x1, x1, undef, t8, x1, t10, t11, x1, x1, undef, undef, undef, undef, undef, undef, undef, undef, undef, undef, undef, undef, undef, undef, undef, undef, undef, undef, undef, undef, undef, undef, undef, undef, undef, undef] R X w)
theorem shape_Under.b_eq (x0 : Value) (x1 : Value) (R : KV) (X : KX) (w : World) : atP Try.prog Try.f33 shape_Under.pl [] [] R X ([x0, x1] ++ undefs 38) w = shape_Under.b x0 x1 R X w := by kernel_rfl
theorem shape_Under.calls {x0 x1 : Value} {R : KV} {X : KX} {w : World} (h : shape_Under.b x0 x1 R X w) : GCalls Try.prog 33 [x0, x1] R X w :=
  gcalls_of (pl := shape_Under.pl) Try.func33 rfl (by kernel_rfl) hmixed (shape_Under.b_eq x0 x1 R X w ▸ h)

/-! oubliette/shape.Path -/
def shape_Path.pl : Nat → DrawPlan
  | 4 => ⟨[([], [4]), ([], [3]), ([], [3]), ([1, 2], [1, 2, 4]), ([0, 3, 3], [0, 3, 5]), ([4, 4, 0, 1, 2, 3, 4], [4])], .take 0 (.take 1 (.take 2 (.world 3 false (.world 4 false (.take 5 (.done)) .none) .none)))⟩
  | _ => ⟨[], .done⟩
def shape_Path.b (x0 : Value) (x1 : Value) (R : KV) (X : KX) (w : World) : Prop :=
  pBox 33 x0 w fun t2 w =>
  pLdN (· = w) 3 t2 fun t7 =>
  pCall Try.prog 26 [t7, x1] X w fun t9 w =>
  pBinI .eql .i64 t9 (.int .i64 (-1)) fun t11 =>
  scond t11
  (R (.slice none 0 0) w)
  (drawn w fun S w =>
    pLdN S 3 t2 fun t12 =>
    pLdN S 3 t2 fun t13 =>
    pCall Try.prog 20 [t13, t9] X w fun t15 w =>
    S w ∧ (pCall Try.prog 60 [t12, t15] X w fun t16 w =>
      S w ∧ (pCall Try.prog 74 [t16] X w fun t18 w =>
        R t16 w)))
theorem shape_Path.b_eq (x0 : Value) (x1 : Value) (R : KV) (X : KX) (w : World) : atP Try.prog Try.f47 shape_Path.pl [] [] R X ([x0, x1] ++ undefs 18) w = shape_Path.b x0 x1 R X w := by kernel_rfl
theorem shape_Path.calls {x0 x1 : Value} {R : KV} {X : KX} {w : World} (h : shape_Path.b x0 x1 R X w) : GCalls Try.prog 47 [x0, x1] R X w :=
  gcalls_of (pl := shape_Path.pl) Try.func47 rfl (by kernel_rfl) hmixed (shape_Path.b_eq x0 x1 R X w ▸ h)

/-! oubliette/oublietteref01.Ints -/
def oublietteref01_Ints.pl : Nat → DrawPlan
  | 6 => ⟨[([], [2]), ([], [2]), ([0, 1], [0, 1, 3]), ([2], [2, 8]), ([], [6]), ([], [6]), ([4, 5], [4, 5, 7]), ([6], [6, 8]), ([3, 7], [3, 7])], .take 0 (.take 1 (.take 2 (.take 3 (.take 4 (.take 5 (.take 6 (.take 7 (.take 8 (.done)))))))))⟩
  | _ => ⟨[], .done⟩
def oublietteref01_Ints.b1 (x0 : Value) (x1 : Value) (x5 : Value) (g : Nat → Value) (N1 : List Value → World → Prop) (R : KV) (X : KX) (w : World) : Prop :=
  pLenSl x0 fun t13 =>
  pBinI .lss .i64 x5 t13 fun t14 =>
  scond t14
  (drawn w fun S w =>
    pIA 1 x0 x5 fun t19 =>
    pLd S t19 fun t20 =>
    pIA 1 x1 x5 fun t23 =>
    pLd S t23 fun t24 =>
    pBinI .neq .i64 t20 t24 fun t25 =>
    scond t25
    (R (.bool false) w)
    (pBinI .add .i64 x5 (.int .i64 1) fun t16 =>
      N1 [x0, x1, (g 2), (g 3), (g 4), t16, (g 6), (g 7), (g 8), (g 9), (g 10), x5, x0, t13, t14, x5, t16, x0, x5, t19, t20, x1, x5, t23, t24, t25] w))
  (R (.bool true) w)
def oublietteref01_Ints.I1 (e : List Value) (R : KV) (X : KX) (w : World) : Prop := atP Try.prog Try.f12 oublietteref01_Ints.pl [1, 1, 0, 1, 0] [] R X e w
theorem oublietteref01_Ints.I1_eq (e : List Value) (R : KV) (X : KX) (w : World) : oublietteref01_Ints.I1 e R X w = loopS (fun N e w => atP Try.prog Try.f12 oublietteref01_Ints.pl [1, 1, 0, 1, 0, 0] [N] R X e w) e w := by kernel_rfl
def oublietteref01_Ints.fr1 (x0 : Value) (x1 : Value) (x5 : Value) (g : Nat → Value) : List Value := [x0, x1, g 2, g 3, g 4, x5, g 6, g 7, g 8, g 9, g 10, g 11, g 12, g 13, g 14, g 15, g 16, g 17, g 18, g 19, g 20, g 21, g 22, g 23, g 24, g 25]
theorem oublietteref01_Ints.b1_eq (x0 : Value) (x1 : Value) (x5 : Value) (g : Nat → Value) (N1 : List Value → World → Prop) (R : KV) (X : KX) (w : World) : atP Try.prog Try.f12 oublietteref01_Ints.pl [1, 1, 0, 1, 0, 0] [N1] R X (oublietteref01_Ints.fr1 x0 x1 x5 g) w = oublietteref01_Ints.b1 x0 x1 x5 g N1 R X w := by kernel_rfl
/-- What a round of this loop hands on. -/
def oublietteref01_Ints.N1 (J : Value → World → Prop) (m : Value → World → Nat) (x0 : Value) (x1 : Value) (x5 : Value) (w : World) : List Value → World → Prop := fun e w' => (∃ y5 g, e = oublietteref01_Ints.fr1 x0 x1 y5 g ∧ J y5 w') ∧ m (nth e 5) w' < m x5 w
theorem oublietteref01_Ints.leaf1 {J : Value → World → Prop} {m : Value → World → Nat} {x0 : Value} {x1 : Value} {x5 : Value} {w w' : World} {e2 e3 e4 e5 e6 e7 e8 e9 e10 e11 e12 e13 e14 e15 e16 e17 e18 e19 e20 e21 e22 e23 e24 e25 : Value} (h : J e5 w') (hm : m e5 w' < m x5 w) : oublietteref01_Ints.N1 J m x0 x1 x5 w [x0, x1, e2, e3, e4, e5, e6, e7, e8, e9, e10, e11, e12, e13, e14, e15, e16, e17, e18, e19, e20, e21, e22, e23, e24, e25] w' :=
  ⟨⟨e5, (fun i => nth [x0, x1, e2, e3, e4, e5, e6, e7, e8, e9, e10, e11, e12, e13, e14, e15, e16, e17, e18, e19, e20, e21, e22, e23, e24, e25] i), rfl, h⟩, hm⟩
theorem oublietteref01_Ints.loop1 (J : Value → World → Prop) (m : Value → World → Nat) {R : KV} {X : KX} {w : World} {x0 : Value} {x1 : Value} {e2 e3 e4 e5 e6 e7 e8 e9 e10 e11 e12 e13 e14 e15 e16 e17 e18 e19 e20 e21 e22 e23 e24 e25 : Value} (h0 : J e5 w)
    (hr : ∀ x5 g w, J x5 w → oublietteref01_Ints.b1 x0 x1 x5 g (oublietteref01_Ints.N1 J m x0 x1 x5 w) R X w) : oublietteref01_Ints.I1 [x0, x1, e2, e3, e4, e5, e6, e7, e8, e9, e10, e11, e12, e13, e14, e15, e16, e17, e18, e19, e20, e21, e22, e23, e24, e25] R X w := by
  rw [oublietteref01_Ints.I1_eq]
  refine ⟨fun e w => ∃ y5 g, e = oublietteref01_Ints.fr1 x0 x1 y5 g ∧ J y5 w, fun e w => m (nth e 5) w, ⟨e5, (fun i => nth [x0, x1, e2, e3, e4, e5, e6, e7, e8, e9, e10, e11, e12, e13, e14, e15, e16, e17, e18, e19, e20, e21, e22, e23, e24, e25] i), rfl, h0⟩, ?_⟩
  rintro _ w ⟨y5, g, rfl, hJ⟩
  rw [oublietteref01_Ints.b1_eq]
  exact hr y5 g w hJ
def oublietteref01_Ints.b (x0 : Value) (x1 : Value) (R : KV) (X : KX) (w : World) : Prop :=
  pLenSl x0 fun t7 =>
  pLenSl x1 fun t9 =>
  pBinI .neq .i64 t7 t9 fun t10 =>
  scond t10
  (R (.bool false) w)
  (oublietteref01_Ints.I1 [x0, x1, undef, undef, (.bool false), (.int .i64 0), x0, t7, x1, t9, t10, undef, undef, undef, undef, undef, undef, undef, undef, undef, undef, undef, undef, undef, undef, undef] R X w)
theorem oublietteref01_Ints.b_eq (x0 : Value) (x1 : Value) (R : KV) (X : KX) (w : World) : atP Try.prog Try.f12 oublietteref01_Ints.pl [] [] R X ([x0, x1] ++ undefs 24) w = oublietteref01_Ints.b x0 x1 R X w := by kernel_rfl
theorem oublietteref01_Ints.calls {x0 x1 : Value} {R : KV} {X : KX} {w : World} (h : oublietteref01_Ints.b x0 x1 R X w) : GCalls Try.prog 12 [x0, x1] R X w :=
  gcalls_of (pl := oublietteref01_Ints.pl) Try.func12 rfl (by kernel_rfl) hmixed (oublietteref01_Ints.b_eq x0 x1 R X w ▸ h)

/-! oubliette/geom.Nodes -/
def geom_Nodes.pl : Nat → DrawPlan
  | _ => ⟨[], .done⟩
def geom_Nodes.b (x0 : Value) (R : KV) (X : KX) (w : World) : Prop :=
  pBox 33 x0 w fun t1 w =>
  pLdN (· = w) 3 t1 fun t6 =>
  pCall Try.prog 78 [t6] X w fun t7 w =>
  pExt t7 0 fun t8 =>
  pExt t7 1 fun t9 =>
  R t8 w
theorem geom_Nodes.b_eq (x0 : Value) (R : KV) (X : KX) (w : World) : atP Try.prog Try.f56 geom_Nodes.pl [] [] R X ([x0] ++ undefs 10) w = geom_Nodes.b x0 R X w := by kernel_rfl
theorem geom_Nodes.calls {x0 : Value} {R : KV} {X : KX} {w : World} (h : geom_Nodes.b x0 R X w) : GCalls Try.prog 56 [x0] R X w :=
  gcalls_of (pl := geom_Nodes.pl) Try.func56 rfl (by kernel_rfl) hmixed (geom_Nodes.b_eq x0 R X w ▸ h)

/-! oubliette/oublietteref27.Place -/
def oublietteref27_Place.pl : Nat → DrawPlan
  | _ => ⟨[], .done⟩
def oublietteref27_Place.b1 (x1 : Value) (x2 : Value) (x7 : Value) (x8 : Value) (g : Nat → Value) (N1 : List Value → World → Prop) (R : KV) (X : KX) (w : World) : Prop :=
  pBinI .geq .i64 x1 x8 fun t19 =>
  scond t19
  (pBinI .sub .i64 x1 x8 fun t22 =>
    pFA 0 x2 fun t24 =>
    pLd (· = w) t24 fun t25 =>
    pBinI .mul .i64 x8 t25 fun t26 =>
    pBinI .add .i64 x7 (.int .i64 1) fun t28 =>
    N1 [(g 0), t22, x2, (g 3), (g 4), (g 5), (g 6), t28, t26, (g 9), (g 10), (g 11), (g 12), (g 13), (g 14), (g 15), (g 16), x1, x8, t19, x1, x8, t22, x8, t24, t25, t26, x7, t28, (g 29), (g 30)] w)
  (R (.tuple #[x7, x1, (.bool true)]) w)
def oublietteref27_Place.I1 (e : List Value) (R : KV) (X : KX) (w : World) : Prop := atP Try.prog Try.f57 oublietteref27_Place.pl [1, 1, 1, 0, 0] [] R X e w
theorem oublietteref27_Place.I1_eq (e : List Value) (R : KV) (X : KX) (w : World) : oublietteref27_Place.I1 e R X w = loopS (fun N e w => atP Try.prog Try.f57 oublietteref27_Place.pl [1, 1, 1, 0, 0, 0] [N] R X e w) e w := by kernel_rfl
def oublietteref27_Place.fr1 (x1 : Value) (x2 : Value) (x7 : Value) (x8 : Value) (g : Nat → Value) : List Value := [g 0, x1, x2, g 3, g 4, g 5, g 6, x7, x8, g 9, g 10, g 11, g 12, g 13, g 14, g 15, g 16, g 17, g 18, g 19, g 20, g 21, g 22, g 23, g 24, g 25, g 26, g 27, g 28, g 29, g 30]
theorem oublietteref27_Place.b1_eq (x1 : Value) (x2 : Value) (x7 : Value) (x8 : Value) (g : Nat → Value) (N1 : List Value → World → Prop) (R : KV) (X : KX) (w : World) : atP Try.prog Try.f57 oublietteref27_Place.pl [1, 1, 1, 0, 0, 0] [N1] R X (oublietteref27_Place.fr1 x1 x2 x7 x8 g) w = oublietteref27_Place.b1 x1 x2 x7 x8 g N1 R X w := by kernel_rfl
/-- What a round of this loop hands on. -/
def oublietteref27_Place.N1 (J : Value → Value → Value → World → Prop) (m : Value → Value → Value → World → Nat) (x2 : Value) (x1 : Value) (x7 : Value) (x8 : Value) (w : World) : List Value → World → Prop := fun e w' => (∃ y1 y7 y8 g, e = oublietteref27_Place.fr1 y1 x2 y7 y8 g ∧ J y1 y7 y8 w') ∧ m (nth e 1) (nth e 7) (nth e 8) w' < m x1 x7 x8 w
theorem oublietteref27_Place.leaf1 {J : Value → Value → Value → World → Prop} {m : Value → Value → Value → World → Nat} {x1 : Value} {x2 : Value} {x7 : Value} {x8 : Value} {w w' : World} {e0 e1 e3 e4 e5 e6 e7 e8 e9 e10 e11 e12 e13 e14 e15 e16 e17 e18 e19 e20 e21 e22 e23 e24 e25 e26 e27 e28 e29 e30 : Value} (h : J e1 e7 e8 w') (hm : m e1 e7 e8 w' < m x1 x7 x8 w) : oublietteref27_Place.N1 J m x2 x1 x7 x8 w [e0, e1, x2, e3, e4, e5, e6, e7, e8, e9, e10, e11, e12, e13, e14, e15, e16, e17, e18, e19, e20, e21, e22, e23, e24, e25, e26, e27, e28, e29, e30] w' :=
  ⟨⟨e1, e7, e8, (fun i => nth [e0, e1, x2, e3, e4, e5, e6, e7, e8, e9, e10, e11, e12, e13, e14, e15, e16, e17, e18, e19, e20, e21, e22, e23, e24, e25, e26, e27, e28, e29, e30] i), rfl, h⟩, hm⟩
theorem oublietteref27_Place.loop1 (J : Value → Value → Value → World → Prop) (m : Value → Value → Value → World → Nat) {R : KV} {X : KX} {w : World} {x2 : Value} {e0 e1 e3 e4 e5 e6 e7 e8 e9 e10 e11 e12 e13 e14 e15 e16 e17 e18 e19 e20 e21 e22 e23 e24 e25 e26 e27 e28 e29 e30 : Value} (h0 : J e1 e7 e8 w)
    (hr : ∀ x1 x7 x8 g w, J x1 x7 x8 w → oublietteref27_Place.b1 x1 x2 x7 x8 g (oublietteref27_Place.N1 J m x2 x1 x7 x8 w) R X w) : oublietteref27_Place.I1 [e0, e1, x2, e3, e4, e5, e6, e7, e8, e9, e10, e11, e12, e13, e14, e15, e16, e17, e18, e19, e20, e21, e22, e23, e24, e25, e26, e27, e28, e29, e30] R X w := by
  rw [oublietteref27_Place.I1_eq]
  refine ⟨fun e w => ∃ y1 y7 y8 g, e = oublietteref27_Place.fr1 y1 x2 y7 y8 g ∧ J y1 y7 y8 w, fun e w => m (nth e 1) (nth e 7) (nth e 8) w, ⟨e1, e7, e8, (fun i => nth [e0, e1, x2, e3, e4, e5, e6, e7, e8, e9, e10, e11, e12, e13, e14, e15, e16, e17, e18, e19, e20, e21, e22, e23, e24, e25, e26, e27, e28, e29, e30] i), rfl, h0⟩, ?_⟩
  rintro _ w ⟨y1, y7, y8, g, rfl, hJ⟩
  rw [oublietteref27_Place.b1_eq]
  exact hr y1 y7 y8 g w hJ
def oublietteref27_Place.b (x0 : Value) (x1 : Value) (R : KV) (X : KX) (w : World) : Prop :=
  pBox 33 x0 w fun t2 w =>
  pBinI .lss .i64 x1 (.int .i64 0) fun t10 =>
  gIf t10 false (fun K => K x1) fun t12 =>
  gIf t10 false (fun K => pLdN (· = w) 3 t2 K) fun t13 =>
  gIfW t10 false (fun w K => pCall Try.prog 31 [t13] X w K) w fun t14 w =>
  gIf t10 false (fun K => pBinI .geq .i64 t12 t14 K) fun t15 =>
  pPick t10 (.bool true) t15 fun t16 =>
  scond t16
  (R (.tuple #[(.int .i64 0), (.int .i64 0), (.bool false)]) w)
  (oublietteref27_Place.I1 [x0, x1, t2, undef, (.int .i64 0), (.int .i64 0), (.bool false), (.int .i64 0), (.int .i64 1), x1, t10, t10, t12, t13, t14, t15, t16, undef, undef, undef, undef, undef, undef, undef, undef, undef, undef, undef, undef, undef, undef] R X w)
theorem oublietteref27_Place.b_eq (x0 : Value) (x1 : Value) (R : KV) (X : KX) (w : World) : atP Try.prog Try.f57 oublietteref27_Place.pl [] [] R X ([x0, x1] ++ undefs 29) w = oublietteref27_Place.b x0 x1 R X w := by kernel_rfl
theorem oublietteref27_Place.calls {x0 x1 : Value} {R : KV} {X : KX} {w : World} (h : oublietteref27_Place.b x0 x1 R X w) : GCalls Try.prog 57 [x0, x1] R X w :=
  gcalls_of (pl := oublietteref27_Place.pl) Try.func57 rfl (by kernel_rfl) hmixed (oublietteref27_Place.b_eq x0 x1 R X w ▸ h)

/-! oubliette/oublietteref27.At -/
def oublietteref27_At.pl : Nat → DrawPlan
  | _ => ⟨[], .done⟩
def oublietteref27_At.b1 (x1 : Value) (x2 : Value) (x3 : Value) (x7 : Value) (x8 : Value) (x9 : Value) (g : Nat → Value) (N1 : List Value → World → Prop) (R : KV) (X : KX) (w : World) : Prop :=
  pBinI .lss .i64 x9 x1 fun t12 =>
  scond t12
  (pBinI .add .i64 x7 x8 fun t17 =>
    pFA 0 x3 fun t19 =>
    pLd (· = w) t19 fun t20 =>
    pBinI .mul .i64 x8 t20 fun t21 =>
    pBinI .add .i64 x9 (.int .i64 1) fun t14 =>
    N1 [(g 0), x1, x2, x3, (g 4), (g 5), (g 6), t17, t21, t14, x9, x1, t12, x9, t14, x7, x8, t17, x8, t19, t20, t21, (g 22), (g 23), (g 24)] w)
  (pBinI .add .i64 x7 x2 fun t24 =>
    R t24 w)
def oublietteref27_At.I1 (e : List Value) (R : KV) (X : KX) (w : World) : Prop := atP Try.prog Try.f58 oublietteref27_At.pl [1, 1, 0, 1, 0] [] R X e w
theorem oublietteref27_At.I1_eq (e : List Value) (R : KV) (X : KX) (w : World) : oublietteref27_At.I1 e R X w = loopS (fun N e w => atP Try.prog Try.f58 oublietteref27_At.pl [1, 1, 0, 1, 0, 0] [N] R X e w) e w := by kernel_rfl
def oublietteref27_At.fr1 (x1 : Value) (x2 : Value) (x3 : Value) (x7 : Value) (x8 : Value) (x9 : Value) (g : Nat → Value) : List Value := [g 0, x1, x2, x3, g 4, g 5, g 6, x7, x8, x9, g 10, g 11, g 12, g 13, g 14, g 15, g 16, g 17, g 18, g 19, g 20, g 21, g 22, g 23, g 24]
theorem oublietteref27_At.b1_eq (x1 : Value) (x2 : Value) (x3 : Value) (x7 : Value) (x8 : Value) (x9 : Value) (g : Nat → Value) (N1 : List Value → World → Prop) (R : KV) (X : KX) (w : World) : atP Try.prog Try.f58 oublietteref27_At.pl [1, 1, 0, 1, 0, 0] [N1] R X (oublietteref27_At.fr1 x1 x2 x3 x7 x8 x9 g) w = oublietteref27_At.b1 x1 x2 x3 x7 x8 x9 g N1 R X w := by kernel_rfl
/-- What a round of this loop hands on. -/
def oublietteref27_At.N1 (J : Value → Value → Value → World → Prop) (m : Value → Value → Value → World → Nat) (x1 : Value) (x2 : Value) (x3 : Value) (x7 : Value) (x8 : Value) (x9 : Value) (w : World) : List Value → World → Prop := fun e w' => (∃ y7 y8 y9 g, e = oublietteref27_At.fr1 x1 x2 x3 y7 y8 y9 g ∧ J y7 y8 y9 w') ∧ m (nth e 7) (nth e 8) (nth e 9) w' < m x7 x8 x9 w
theorem oublietteref27_At.leaf1 {J : Value → Value → Value → World → Prop} {m : Value → Value → Value → World → Nat} {x1 : Value} {x2 : Value} {x3 : Value} {x7 : Value} {x8 : Value} {x9 : Value} {w w' : World} {e0 e4 e5 e6 e7 e8 e9 e10 e11 e12 e13 e14 e15 e16 e17 e18 e19 e20 e21 e22 e23 e24 : Value} (h : J e7 e8 e9 w') (hm : m e7 e8 e9 w' < m x7 x8 x9 w) : oublietteref27_At.N1 J m x1 x2 x3 x7 x8 x9 w [e0, x1, x2, x3, e4, e5, e6, e7, e8, e9, e10, e11, e12, e13, e14, e15, e16, e17, e18, e19, e20, e21, e22, e23, e24] w' :=
  ⟨⟨e7, e8, e9, (fun i => nth [e0, x1, x2, x3, e4, e5, e6, e7, e8, e9, e10, e11, e12, e13, e14, e15, e16, e17, e18, e19, e20, e21, e22, e23, e24] i), rfl, h⟩, hm⟩
theorem oublietteref27_At.loop1 (J : Value → Value → Value → World → Prop) (m : Value → Value → Value → World → Nat) {R : KV} {X : KX} {w : World} {x1 : Value} {x2 : Value} {x3 : Value} {e0 e4 e5 e6 e7 e8 e9 e10 e11 e12 e13 e14 e15 e16 e17 e18 e19 e20 e21 e22 e23 e24 : Value} (h0 : J e7 e8 e9 w)
    (hr : ∀ x7 x8 x9 g w, J x7 x8 x9 w → oublietteref27_At.b1 x1 x2 x3 x7 x8 x9 g (oublietteref27_At.N1 J m x1 x2 x3 x7 x8 x9 w) R X w) : oublietteref27_At.I1 [e0, x1, x2, x3, e4, e5, e6, e7, e8, e9, e10, e11, e12, e13, e14, e15, e16, e17, e18, e19, e20, e21, e22, e23, e24] R X w := by
  rw [oublietteref27_At.I1_eq]
  refine ⟨fun e w => ∃ y7 y8 y9 g, e = oublietteref27_At.fr1 x1 x2 x3 y7 y8 y9 g ∧ J y7 y8 y9 w, fun e w => m (nth e 7) (nth e 8) (nth e 9) w, ⟨e7, e8, e9, (fun i => nth [e0, x1, x2, x3, e4, e5, e6, e7, e8, e9, e10, e11, e12, e13, e14, e15, e16, e17, e18, e19, e20, e21, e22, e23, e24] i), rfl, h0⟩, ?_⟩
  rintro _ w ⟨y7, y8, y9, g, rfl, hJ⟩
  rw [oublietteref27_At.b1_eq]
  exact hr y7 y8 y9 g w hJ
def oublietteref27_At.b (x0 : Value) (x1 : Value) (x2 : Value) (R : KV) (X : KX) (w : World) : Prop :=
  pBox 33 x0 w fun t3 w =>
  oublietteref27_At.I1 [x0, x1, x2, t3, undef, undef, (.int .i64 0), (.int .i64 0), (.int .i64 1), (.int .i64 0), undef, undef, undef, undef, undef, undef, undef, undef, undef, undef, undef, undef, undef, undef, undef] R X w
theorem oublietteref27_At.b_eq (x0 : Value) (x1 : Value) (x2 : Value) (R : KV) (X : KX) (w : World) : atP Try.prog Try.f58 oublietteref27_At.pl [] [] R X ([x0, x1, x2] ++ undefs 22) w = oublietteref27_At.b x0 x1 x2 R X w := by kernel_rfl
theorem oublietteref27_At.calls {x0 x1 x2 : Value} {R : KV} {X : KX} {w : World} (h : oublietteref27_At.b x0 x1 x2 R X w) : GCalls Try.prog 58 [x0, x1, x2] R X w :=
  gcalls_of (pl := oublietteref27_At.pl) Try.func58 rfl (by kernel_rfl) hmixed (oublietteref27_At.b_eq x0 x1 x2 R X w ▸ h)

/-! oubliette/shape.there -/
def shape_there.pl : Nat → DrawPlan
  | _ => ⟨[], .done⟩
def shape_there.b (x0 : Value) (x1 : Value) (R : KV) (X : KX) (w : World) : Prop :=
  pBox 33 x0 w fun t2 w =>
  pBinI .geq .i64 x1 (.int .i64 0) fun t6 =>
  gIf t6 true (fun K => K x1) fun t8 =>
  gIf t6 true (fun K => pLdN (· = w) 3 t2 K) fun t9 =>
  gIfW t6 true (fun w K => pCall Try.prog 79 [t9] X w K) w fun t10 w =>
  gIf t6 true (fun K => pBinI .lss .i64 t8 t10 K) fun t11 =>
  pPick t6 t11 (.bool false) fun t12 =>
  R t12 w
theorem shape_there.b_eq (x0 : Value) (x1 : Value) (R : KV) (X : KX) (w : World) : atP Try.prog Try.f59 shape_there.pl [] [] R X ([x0, x1] ++ undefs 11) w = shape_there.b x0 x1 R X w := by kernel_rfl
theorem shape_there.calls {x0 x1 : Value} {R : KV} {X : KX} {w : World} (h : shape_there.b x0 x1 R X w) : GCalls Try.prog 59 [x0, x1] R X w :=
  gcalls_of (pl := shape_there.pl) Try.func59 rfl (by kernel_rfl) hmixed (shape_there.b_eq x0 x1 R X w ▸ h)

/-! oubliette/shape.up -/
def shape_up.pl : Nat → DrawPlan
  | _ => ⟨[], .done⟩
def shape_up.b1 (x1 : Value) (x2 : Value) (x4 : Value) (g : Nat → Value) (N1 : List Value → World → Prop) (R : KV) (X : KX) (w : World) : Prop :=
  pBSlice 3 1 (rowOf [.int .i64 0] 1) [(0, 1, x1)] w fun t11 w =>
  pApp 3 1 8 [.int .i64 0] x4 t11 w fun t12 w =>
  pBinI .eql .i64 x1 (.int .i64 0) fun t14 =>
  scond t14
  (R t12 w)
  (pLdN (· = w) 3 x2 fun t15 =>
    pCall Try.prog 20 [t15, x1] X w fun t17 w =>
    N1 [(g 0), t17, x2, (g 3), t12, (g 5), (g 6), (g 7), (g 8), x4, x1, t11, t12, x1, t14, t15, x1, t17, (g 18)] w)
def shape_up.I1 (e : List Value) (R : KV) (X : KX) (w : World) : Prop := atP Try.prog Try.f60 shape_up.pl [1, 0, 1, 1, 0, 0] [] R X e w
theorem shape_up.I1_eq (e : List Value) (R : KV) (X : KX) (w : World) : shape_up.I1 e R X w = loopS (fun N e w => atP Try.prog Try.f60 shape_up.pl [1, 0, 1, 1, 0, 0, 0] [N] R X e w) e w := by kernel_rfl
def shape_up.fr1 (x1 : Value) (x2 : Value) (x4 : Value) (g : Nat → Value) : List Value := [g 0, x1, x2, g 3, x4, g 5, g 6, g 7, g 8, g 9, g 10, g 11, g 12, g 13, g 14, g 15, g 16, g 17, g 18]
theorem shape_up.b1_eq (x1 : Value) (x2 : Value) (x4 : Value) (g : Nat → Value) (N1 : List Value → World → Prop) (R : KV) (X : KX) (w : World) : atP Try.prog Try.f60 shape_up.pl [1, 0, 1, 1, 0, 0, 0] [N1] R X (shape_up.fr1 x1 x2 x4 g) w = shape_up.b1 x1 x2 x4 g N1 R X w := by kernel_rfl
/-- What a round of this loop hands on. -/
def shape_up.N1 (J : Value → Value → World → Prop) (m : Value → Value → World → Nat) (x2 : Value) (x1 : Value) (x4 : Value) (w : World) : List Value → World → Prop := fun e w' => (∃ y1 y4 g, e = shape_up.fr1 y1 x2 y4 g ∧ J y1 y4 w') ∧ m (nth e 1) (nth e 4) w' < m x1 x4 w
theorem shape_up.leaf1 {J : Value → Value → World → Prop} {m : Value → Value → World → Nat} {x1 : Value} {x2 : Value} {x4 : Value} {w w' : World} {e0 e1 e3 e4 e5 e6 e7 e8 e9 e10 e11 e12 e13 e14 e15 e16 e17 e18 : Value} (h : J e1 e4 w') (hm : m e1 e4 w' < m x1 x4 w) : shape_up.N1 J m x2 x1 x4 w [e0, e1, x2, e3, e4, e5, e6, e7, e8, e9, e10, e11, e12, e13, e14, e15, e16, e17, e18] w' :=
  ⟨⟨e1, e4, (fun i => nth [e0, e1, x2, e3, e4, e5, e6, e7, e8, e9, e10, e11, e12, e13, e14, e15, e16, e17, e18] i), rfl, h⟩, hm⟩
theorem shape_up.loop1 (J : Value → Value → World → Prop) (m : Value → Value → World → Nat) {R : KV} {X : KX} {w : World} {x2 : Value} {e0 e1 e3 e4 e5 e6 e7 e8 e9 e10 e11 e12 e13 e14 e15 e16 e17 e18 : Value} (h0 : J e1 e4 w)
    (hr : ∀ x1 x4 g w, J x1 x4 w → shape_up.b1 x1 x2 x4 g (shape_up.N1 J m x2 x1 x4 w) R X w) : shape_up.I1 [e0, e1, x2, e3, e4, e5, e6, e7, e8, e9, e10, e11, e12, e13, e14, e15, e16, e17, e18] R X w := by
  rw [shape_up.I1_eq]
  refine ⟨fun e w => ∃ y1 y4 g, e = shape_up.fr1 y1 x2 y4 g ∧ J y1 y4 w, fun e w => m (nth e 1) (nth e 4) w, ⟨e1, e4, (fun i => nth [e0, e1, x2, e3, e4, e5, e6, e7, e8, e9, e10, e11, e12, e13, e14, e15, e16, e17, e18] i), rfl, h0⟩, ?_⟩
  rintro _ w ⟨y1, y4, g, rfl, hJ⟩
  rw [shape_up.b1_eq]
  exact hr y1 y4 g w hJ
def shape_up.b (x0 : Value) (x1 : Value) (R : KV) (X : KX) (w : World) : Prop :=
  pBox 33 x0 w fun t2 w =>
  pLdN (· = w) 3 t2 fun t5 =>
  pCall Try.prog 59 [t5, x1] X w fun t7 w =>
  pNot t7 fun t8 =>
  scond t8
  (R (.slice none 0 0) w)
  (shape_up.I1 [x0, x1, t2, undef, (.slice none 0 0), t5, x1, t7, t8, undef, undef, undef, undef, undef, undef, undef, undef, undef, undef] R X w)
theorem shape_up.b_eq (x0 : Value) (x1 : Value) (R : KV) (X : KX) (w : World) : atP Try.prog Try.f60 shape_up.pl [] [] R X ([x0, x1] ++ undefs 17) w = shape_up.b x0 x1 R X w := by kernel_rfl
theorem shape_up.calls {x0 x1 : Value} {R : KV} {X : KX} {w : World} (h : shape_up.b x0 x1 R X w) : GCalls Try.prog 60 [x0, x1] R X w :=
  gcalls_of (pl := shape_up.pl) Try.func60 rfl (by kernel_rfl) hmixed (shape_up.b_eq x0 x1 R X w ▸ h)

/-! oubliette/geom.Leaves -/
def geom_Leaves.pl : Nat → DrawPlan
  | _ => ⟨[], .done⟩
def geom_Leaves.b (x0 : Value) (R : KV) (X : KX) (w : World) : Prop :=
  pBox 33 x0 w fun t1 w =>
  pLdN (· = w) 3 t1 fun t6 =>
  pCall Try.prog 78 [t6] X w fun t7 w =>
  pExt t7 0 fun t8 =>
  pExt t7 1 fun t9 =>
  R t9 w
theorem geom_Leaves.b_eq (x0 : Value) (R : KV) (X : KX) (w : World) : atP Try.prog Try.f61 geom_Leaves.pl [] [] R X ([x0] ++ undefs 10) w = geom_Leaves.b x0 R X w := by kernel_rfl
theorem geom_Leaves.calls {x0 : Value} {R : KV} {X : KX} {w : World} (h : geom_Leaves.b x0 R X w) : GCalls Try.prog 61 [x0] R X w :=
  gcalls_of (pl := geom_Leaves.pl) Try.func61 rfl (by kernel_rfl) hmixed (geom_Leaves.b_eq x0 R X w ▸ h)

/-! oubliette/oublietteref21.Leaves -/
def oublietteref21_Leaves.pl : Nat → DrawPlan
  | _ => ⟨[], .done⟩
def oublietteref21_Leaves.b1 (x1 : Value) (x3 : Value) (x4 : Value) (g : Nat → Value) (N1 : List Value → World → Prop) (R : KV) (X : KX) (w : World) : Prop :=
  pFA 1 x1 fun t9 =>
  pLd (· = w) t9 fun t10 =>
  pBinI .lss .i64 x4 t10 fun t11 =>
  scond t11
  (pFA 0 x1 fun t15 =>
    pLd (· = w) t15 fun t16 =>
    pBinI .mul .i64 x3 t16 fun t17 =>
    pBinI .add .i64 x4 (.int .i64 1) fun t13 =>
    N1 [(g 0), x1, (g 2), t17, t13, (g 5), (g 6), (g 7), x4, t9, t10, t11, x4, t13, x3, t15, t16, t17, (g 18)] w)
  (R x3 w)
def oublietteref21_Leaves.I1 (e : List Value) (R : KV) (X : KX) (w : World) : Prop := atP Try.prog Try.f62 oublietteref21_Leaves.pl [1, 1, 1, 0, 1, 0] [] R X e w
theorem oublietteref21_Leaves.I1_eq (e : List Value) (R : KV) (X : KX) (w : World) : oublietteref21_Leaves.I1 e R X w = loopS (fun N e w => atP Try.prog Try.f62 oublietteref21_Leaves.pl [1, 1, 1, 0, 1, 0, 0] [N] R X e w) e w := by kernel_rfl
def oublietteref21_Leaves.fr1 (x1 : Value) (x3 : Value) (x4 : Value) (g : Nat → Value) : List Value := [g 0, x1, g 2, x3, x4, g 5, g 6, g 7, g 8, g 9, g 10, g 11, g 12, g 13, g 14, g 15, g 16, g 17, g 18]
theorem oublietteref21_Leaves.b1_eq (x1 : Value) (x3 : Value) (x4 : Value) (g : Nat → Value) (N1 : List Value → World → Prop) (R : KV) (X : KX) (w : World) : atP Try.prog Try.f62 oublietteref21_Leaves.pl [1, 1, 1, 0, 1, 0, 0] [N1] R X (oublietteref21_Leaves.fr1 x1 x3 x4 g) w = oublietteref21_Leaves.b1 x1 x3 x4 g N1 R X w := by kernel_rfl
/-- What a round of this loop hands on. -/
def oublietteref21_Leaves.N1 (J : Value → Value → World → Prop) (m : Value → Value → World → Nat) (x1 : Value) (x3 : Value) (x4 : Value) (w : World) : List Value → World → Prop := fun e w' => (∃ y3 y4 g, e = oublietteref21_Leaves.fr1 x1 y3 y4 g ∧ J y3 y4 w') ∧ m (nth e 3) (nth e 4) w' < m x3 x4 w
theorem oublietteref21_Leaves.leaf1 {J : Value → Value → World → Prop} {m : Value → Value → World → Nat} {x1 : Value} {x3 : Value} {x4 : Value} {w w' : World} {e0 e2 e3 e4 e5 e6 e7 e8 e9 e10 e11 e12 e13 e14 e15 e16 e17 e18 : Value} (h : J e3 e4 w') (hm : m e3 e4 w' < m x3 x4 w) : oublietteref21_Leaves.N1 J m x1 x3 x4 w [e0, x1, e2, e3, e4, e5, e6, e7, e8, e9, e10, e11, e12, e13, e14, e15, e16, e17, e18] w' :=
  ⟨⟨e3, e4, (fun i => nth [e0, x1, e2, e3, e4, e5, e6, e7, e8, e9, e10, e11, e12, e13, e14, e15, e16, e17, e18] i), rfl, h⟩, hm⟩
theorem oublietteref21_Leaves.loop1 (J : Value → Value → World → Prop) (m : Value → Value → World → Nat) {R : KV} {X : KX} {w : World} {x1 : Value} {e0 e2 e3 e4 e5 e6 e7 e8 e9 e10 e11 e12 e13 e14 e15 e16 e17 e18 : Value} (h0 : J e3 e4 w)
    (hr : ∀ x3 x4 g w, J x3 x4 w → oublietteref21_Leaves.b1 x1 x3 x4 g (oublietteref21_Leaves.N1 J m x1 x3 x4 w) R X w) : oublietteref21_Leaves.I1 [e0, x1, e2, e3, e4, e5, e6, e7, e8, e9, e10, e11, e12, e13, e14, e15, e16, e17, e18] R X w := by
  rw [oublietteref21_Leaves.I1_eq]
  refine ⟨fun e w => ∃ y3 y4 g, e = oublietteref21_Leaves.fr1 x1 y3 y4 g ∧ J y3 y4 w, fun e w => m (nth e 3) (nth e 4) w, ⟨e3, e4, (fun i => nth [e0, x1, e2, e3, e4, e5, e6, e7, e8, e9, e10, e11, e12, e13, e14, e15, e16, e17, e18] i), rfl, h0⟩, ?_⟩
  rintro _ w ⟨y3, y4, g, rfl, hJ⟩
  rw [oublietteref21_Leaves.b1_eq]
  exact hr y3 y4 g w hJ
def oublietteref21_Leaves.b (x0 : Value) (R : KV) (X : KX) (w : World) : Prop :=
  pBox 33 x0 w fun t1 w =>
  pLdN (· = w) 3 t1 fun t5 =>
  pCall Try.prog 63 [t5] X w fun t6 w =>
  pNot t6 fun t7 =>
  scond t7
  (R (.int .i64 0) w)
  (oublietteref21_Leaves.I1 [x0, t1, (.int .i64 0), (.int .i64 1), (.int .i64 0), t5, t6, t7, undef, undef, undef, undef, undef, undef, undef, undef, undef, undef, undef] R X w)
theorem oublietteref21_Leaves.b_eq (x0 : Value) (R : KV) (X : KX) (w : World) : atP Try.prog Try.f62 oublietteref21_Leaves.pl [] [] R X ([x0] ++ undefs 18) w = oublietteref21_Leaves.b x0 R X w := by kernel_rfl
theorem oublietteref21_Leaves.calls {x0 : Value} {R : KV} {X : KX} {w : World} (h : oublietteref21_Leaves.b x0 R X w) : GCalls Try.prog 62 [x0] R X w :=
  gcalls_of (pl := oublietteref21_Leaves.pl) Try.func62 rfl (by kernel_rfl) hmixed (oublietteref21_Leaves.b_eq x0 R X w ▸ h)

/-! oubliette/oublietteref21.Right -/
def oublietteref21_Right.pl : Nat → DrawPlan
  | 1 => ⟨[([], [1]), ([0], [0, 2]), ([1], [1, 3]), ([2, 1], [2, 4, 5, 6, 7, 8, 9]), ([3], [3, 5]), ([4, 3], [3, 4, 8]), ([3], [3, 7]), ([6, 3, 3], [3, 6, 8]), ([5, 7, 3], [3, 5, 7, 9]), ([3, 8], [3, 8, 10]), ([9, 7], [9, 11, 12, 13, 14]), ([10], [10, 12]), ([11, 10], [10, 11, 13]), ([12, 10], [10, 12, 14]), ([10, 13], [10, 13, 15]), ([14, 10, 0, 1, 2, 3, 4, 5, 6, 7, 8, 9, 10, 11, 12, 13, 14], [14])], .take 0 (.world 1 true (.take 2 (.take 3 (.take 4 (.take 5 (.take 6 (.world 7 false (.take 8 (.take 9 (.take 10 (.take 11 (.take 12 (.take 13 (.take 14 (.take 15 (.done))))))))) .none)))))) .none)⟩
  | _ => ⟨[], .done⟩
def oublietteref21_Right.b (x0 : Value) (R : KV) (X : KX) (w : World) : Prop :=
  pBox 33 x0 w fun t1 w =>
  drawn w fun S w =>
  pLdN S 3 t1 fun t3 =>
  pCall Try.prog 80 [t3] X w fun t4 w =>
  anew w fun S w =>
  pBinI .gtr .i64 t4 (.int .i64 0) fun t5 =>
  gIf t5 true (fun K => pFA 2 t1 K) fun t7 =>
  gIf t5 true (fun K => pLd S t7 K) fun t8 =>
  gIf t5 true (fun K => pLdN S 3 t1 K) fun t9 =>
  gIfW t5 true (fun w K => pCall Try.prog 80 [t9] X w K) w fun t10 w =>
  S w ∧ (gIf t5 true (fun K => pBinI .geq .i64 t8 t10 K) fun t11 =>
    pPick t5 t11 (.bool false) fun t12 =>
    gIf t12 true (fun K => pFA 2 t1 K) fun t14 =>
    gIf t12 true (fun K => pLd S t14 K) fun t15 =>
    gIf t12 true (fun K => pBinI .leq .i64 t15 (.int .i64 64) K) fun t16 =>
    pPick t12 t16 (.bool false) fun t17 =>
    R t17 w)
theorem oublietteref21_Right.b_eq (x0 : Value) (R : KV) (X : KX) (w : World) : atP Try.prog Try.f63 oublietteref21_Right.pl [] [] R X ([x0] ++ undefs 17) w = oublietteref21_Right.b x0 R X w := by kernel_rfl
theorem oublietteref21_Right.calls {x0 : Value} {R : KV} {X : KX} {w : World} (h : oublietteref21_Right.b x0 R X w) : GCalls Try.prog 63 [x0] R X w :=
  gcalls_of (pl := oublietteref21_Right.pl) Try.func63 rfl (by kernel_rfl) hmixed (oublietteref21_Right.b_eq x0 R X w ▸ h)

/-! slices.Reverse[[]int,int] -/
def slices_Reverse_int_int.pl : Nat → DrawPlan
  | 3 => ⟨[([], [12]), ([], [12]), ([], [14]), ([], [14]), ([], [6]), ([], [6]), ([4, 5], [4, 5, 7]), ([6], [6, 13]), ([], [10]), ([], [10]), ([8, 9], [8, 9, 11]), ([10], [10, 15]), ([0, 1, 0, 1, 4, 5, 6, 7, 11], [0, 1, 13]), ([12, 7, 0, 1, 4, 5, 6, 7, 11], [7, 12]), ([2, 3, 0, 1, 2, 3, 4, 5, 6, 7, 8, 9, 10, 11, 12, 13], [2, 3, 15]), ([14, 11, 13, 0, 1, 2, 3, 4, 5, 6, 7, 8, 9, 10, 11, 12, 13], [11, 14])], .take 0 (.take 1 (.take 2 (.take 3 (.take 4 (.take 5 (.take 6 (.take 7 (.take 8 (.take 9 (.take 10 (.take 11 (.take 12 (.world 13 true (.take 14 (.world 15 true (.done) .none)) .none)))))))))))))⟩
  | _ => ⟨[], .done⟩
def slices_Reverse_int_int.b1 (x0 : Value) (x2 : Value) (x3 : Value) (g : Nat → Value) (N1 : List Value → World → Prop) (R : KV) (X : KX) (w : World) : Prop :=
  pBinI .lss .i64 x2 x3 fun t9 =>
  scond t9
  (drawn w fun S w =>
    pIA 1 x0 x3 fun t20 =>
    pLd S t20 fun t21 =>
    pIA 1 x0 x2 fun t24 =>
    pLd S t24 fun t25 =>
    pIA 1 x0 x2 fun t26 =>
    pSt t26 t21 w fun _ w =>
    anew w fun S w =>
    pIA 1 x0 x3 fun t27 =>
    pSt t27 t25 w fun _ w =>
    anew w fun S w =>
    pBinI .add .i64 x2 (.int .i64 1) fun t11 =>
    pBinI .sub .i64 x3 (.int .i64 1) fun t13 =>
    N1 [x0, (g 1), t11, t13, (g 4), (g 5), (g 6), x2, x3, t9, x2, t11, x3, t13, x0, x2, x0, x3, x0, x3, t20, t21, x0, x2, t24, t25, t26, t27] w)
  (R (.tuple #[]) w)
def slices_Reverse_int_int.I1 (e : List Value) (R : KV) (X : KX) (w : World) : Prop := atP Try.prog Try.f74 slices_Reverse_int_int.pl [1, 0] [] R X e w
theorem slices_Reverse_int_int.I1_eq (e : List Value) (R : KV) (X : KX) (w : World) : slices_Reverse_int_int.I1 e R X w = loopS (fun N e w => atP Try.prog Try.f74 slices_Reverse_int_int.pl [1, 0, 0] [N] R X e w) e w := by kernel_rfl
def slices_Reverse_int_int.fr1 (x0 : Value) (x2 : Value) (x3 : Value) (g : Nat → Value) : List Value := [x0, g 1, x2, x3, g 4, g 5, g 6, g 7, g 8, g 9, g 10, g 11, g 12, g 13, g 14, g 15, g 16, g 17, g 18, g 19, g 20, g 21, g 22, g 23, g 24, g 25, g 26, g 27]
theorem slices_Reverse_int_int.b1_eq (x0 : Value) (x2 : Value) (x3 : Value) (g : Nat → Value) (N1 : List Value → World → Prop) (R : KV) (X : KX) (w : World) : atP Try.prog Try.f74 slices_Reverse_int_int.pl [1, 0, 0] [N1] R X (slices_Reverse_int_int.fr1 x0 x2 x3 g) w = slices_Reverse_int_int.b1 x0 x2 x3 g N1 R X w := by kernel_rfl
/-- What a round of this loop hands on. -/
def slices_Reverse_int_int.N1 (J : Value → Value → World → Prop) (m : Value → Value → World → Nat) (x0 : Value) (x2 : Value) (x3 : Value) (w : World) : List Value → World → Prop := fun e w' => (∃ y2 y3 g, e = slices_Reverse_int_int.fr1 x0 y2 y3 g ∧ J y2 y3 w') ∧ m (nth e 2) (nth e 3) w' < m x2 x3 w
theorem slices_Reverse_int_int.leaf1 {J : Value → Value → World → Prop} {m : Value → Value → World → Nat} {x0 : Value} {x2 : Value} {x3 : Value} {w w' : World} {e1 e2 e3 e4 e5 e6 e7 e8 e9 e10 e11 e12 e13 e14 e15 e16 e17 e18 e19 e20 e21 e22 e23 e24 e25 e26 e27 : Value} (h : J e2 e3 w') (hm : m e2 e3 w' < m x2 x3 w) : slices_Reverse_int_int.N1 J m x0 x2 x3 w [x0, e1, e2, e3, e4, e5, e6, e7, e8, e9, e10, e11, e12, e13, e14, e15, e16, e17, e18, e19, e20, e21, e22, e23, e24, e25, e26, e27] w' :=
  ⟨⟨e2, e3, (fun i => nth [x0, e1, e2, e3, e4, e5, e6, e7, e8, e9, e10, e11, e12, e13, e14, e15, e16, e17, e18, e19, e20, e21, e22, e23, e24, e25, e26, e27] i), rfl, h⟩, hm⟩
theorem slices_Reverse_int_int.loop1 (J : Value → Value → World → Prop) (m : Value → Value → World → Nat) {R : KV} {X : KX} {w : World} {x0 : Value} {e1 e2 e3 e4 e5 e6 e7 e8 e9 e10 e11 e12 e13 e14 e15 e16 e17 e18 e19 e20 e21 e22 e23 e24 e25 e26 e27 : Value} (h0 : J e2 e3 w)
    (hr : ∀ x2 x3 g w, J x2 x3 w → slices_Reverse_int_int.b1 x0 x2 x3 g (slices_Reverse_int_int.N1 J m x0 x2 x3 w) R X w) : slices_Reverse_int_int.I1 [x0, e1, e2, e3, e4, e5, e6, e7, e8, e9, e10, e11, e12, e13, e14, e15, e16, e17, e18, e19, e20, e21, e22, e23, e24, e25, e26, e27] R X w := by
  rw [slices_Reverse_int_int.I1_eq]
  refine ⟨fun e w => ∃ y2 y3 g, e = slices_Reverse_int_int.fr1 x0 y2 y3 g ∧ J y2 y3 w, fun e w => m (nth e 2) (nth e 3) w, ⟨e2, e3, (fun i => nth [x0, e1, e2, e3, e4, e5, e6, e7, e8, e9, e10, e11, e12, e13, e14, e15, e16, e17, e18, e19, e20, e21, e22, e23, e24, e25, e26, e27] i), rfl, h0⟩, ?_⟩
  rintro _ w ⟨y2, y3, g, rfl, hJ⟩
  rw [slices_Reverse_int_int.b1_eq]
  exact hr y2 y3 g w hJ
def slices_Reverse_int_int.b (x0 : Value) (R : KV) (X : KX) (w : World) : Prop :=
  pLenSl x0 fun t5 =>
  pBinI .sub .i64 t5 (.int .i64 1) fun t6 =>
  slices_Reverse_int_int.I1 [x0, undef, (.int .i64 0), t6, x0, t5, t6, undef, undef, undef, undef, undef, undef, undef, undef, undef, undef, undef, undef, undef, undef, undef, undef, undef, undef, undef, undef, undef] R X w
theorem slices_Reverse_int_int.b_eq (x0 : Value) (R : KV) (X : KX) (w : World) : atP Try.prog Try.f74 slices_Reverse_int_int.pl [] [] R X ([x0] ++ undefs 27) w = slices_Reverse_int_int.b x0 R X w := by kernel_rfl
theorem slices_Reverse_int_int.calls {x0 : Value} {R : KV} {X : KX} {w : World} (h : slices_Reverse_int_int.b x0 R X w) : GCalls Try.prog 74 [x0] R X w :=
  gcalls_of (pl := slices_Reverse_int_int.pl) Try.func74 rfl (by kernel_rfl) hmixed (slices_Reverse_int_int.b_eq x0 R X w ▸ h)

/-! oubliette/geom.levels -/
def geom_levels.pl : Nat → DrawPlan
  | _ => ⟨[], .done⟩
def geom_levels.b1 (x1 : Value) (x2 : Value) (x3 : Value) (x8 : Value) (x9 : Value) (g : Nat → Value) (N1 : List Value → World → Prop) (R : KV) (X : KX) (w : World) : Prop :=
  pBinI .lss .i64 x9 x8 fun t10 =>
  scond t10
  (pBinI .add .i64 x2 x3 fun t13 =>
    pFA 0 x1 fun t15 =>
    pLd (· = w) t15 fun t16 =>
    pBinI .mul .i64 x3 t16 fun t17 =>
    pBinI .add .i64 x9 (.int .i64 1) fun t18 =>
    N1 [(g 0), x1, t13, t17, (g 4), (g 5), (g 6), (g 7), x8, t18, t10, x2, x3, t13, x3, t15, t16, t17, t18, (g 19), (g 20)] w)
  (R (.tuple #[x2, x3]) w)
def geom_levels.I1 (e : List Value) (R : KV) (X : KX) (w : World) : Prop := atP Try.prog Try.f78 geom_levels.pl [1, 1, 1, 0, 1, 0] [] R X e w
theorem geom_levels.I1_eq (e : List Value) (R : KV) (X : KX) (w : World) : geom_levels.I1 e R X w = loopS (fun N e w => atP Try.prog Try.f78 geom_levels.pl [1, 1, 1, 0, 1, 0, 0] [N] R X e w) e w := by kernel_rfl
def geom_levels.fr1 (x1 : Value) (x2 : Value) (x3 : Value) (x8 : Value) (x9 : Value) (g : Nat → Value) : List Value := [g 0, x1, x2, x3, g 4, g 5, g 6, g 7, x8, x9, g 10, g 11, g 12, g 13, g 14, g 15, g 16, g 17, g 18, g 19, g 20]
theorem geom_levels.b1_eq (x1 : Value) (x2 : Value) (x3 : Value) (x8 : Value) (x9 : Value) (g : Nat → Value) (N1 : List Value → World → Prop) (R : KV) (X : KX) (w : World) : atP Try.prog Try.f78 geom_levels.pl [1, 1, 1, 0, 1, 0, 0] [N1] R X (geom_levels.fr1 x1 x2 x3 x8 x9 g) w = geom_levels.b1 x1 x2 x3 x8 x9 g N1 R X w := by kernel_rfl
/-- What a round of this loop hands on. -/
def geom_levels.N1 (J : Value → Value → Value → World → Prop) (m : Value → Value → Value → World → Nat) (x1 : Value) (x8 : Value) (x2 : Value) (x3 : Value) (x9 : Value) (w : World) : List Value → World → Prop := fun e w' => (∃ y2 y3 y9 g, e = geom_levels.fr1 x1 y2 y3 x8 y9 g ∧ J y2 y3 y9 w') ∧ m (nth e 2) (nth e 3) (nth e 9) w' < m x2 x3 x9 w
theorem geom_levels.leaf1 {J : Value → Value → Value → World → Prop} {m : Value → Value → Value → World → Nat} {x1 : Value} {x2 : Value} {x3 : Value} {x8 : Value} {x9 : Value} {w w' : World} {e0 e2 e3 e4 e5 e6 e7 e9 e10 e11 e12 e13 e14 e15 e16 e17 e18 e19 e20 : Value} (h : J e2 e3 e9 w') (hm : m e2 e3 e9 w' < m x2 x3 x9 w) : geom_levels.N1 J m x1 x8 x2 x3 x9 w [e0, x1, e2, e3, e4, e5, e6, e7, x8, e9, e10, e11, e12, e13, e14, e15, e16, e17, e18, e19, e20] w' :=
  ⟨⟨e2, e3, e9, (fun i => nth [e0, x1, e2, e3, e4, e5, e6, e7, x8, e9, e10, e11, e12, e13, e14, e15, e16, e17, e18, e19, e20] i), rfl, h⟩, hm⟩
theorem geom_levels.loop1 (J : Value → Value → Value → World → Prop) (m : Value → Value → Value → World → Nat) {R : KV} {X : KX} {w : World} {x1 : Value} {x8 : Value} {e0 e2 e3 e4 e5 e6 e7 e9 e10 e11 e12 e13 e14 e15 e16 e17 e18 e19 e20 : Value} (h0 : J e2 e3 e9 w)
    (hr : ∀ x2 x3 x9 g w, J x2 x3 x9 w → geom_levels.b1 x1 x2 x3 x8 x9 g (geom_levels.N1 J m x1 x8 x2 x3 x9 w) R X w) : geom_levels.I1 [e0, x1, e2, e3, e4, e5, e6, e7, x8, e9, e10, e11, e12, e13, e14, e15, e16, e17, e18, e19, e20] R X w := by
  rw [geom_levels.I1_eq]
  refine ⟨fun e w => ∃ y2 y3 y9 g, e = geom_levels.fr1 x1 y2 y3 x8 y9 g ∧ J y2 y3 y9 w, fun e w => m (nth e 2) (nth e 3) (nth e 9) w, ⟨e2, e3, e9, (fun i => nth [e0, x1, e2, e3, e4, e5, e6, e7, x8, e9, e10, e11, e12, e13, e14, e15, e16, e17, e18, e19, e20] i), rfl, h0⟩, ?_⟩
  rintro _ w ⟨y2, y3, y9, g, rfl, hJ⟩
  rw [geom_levels.b1_eq]
  exact hr y2 y3 y9 g w hJ
def geom_levels.b (x0 : Value) (R : KV) (X : KX) (w : World) : Prop :=
  pBox 33 x0 w fun t1 w =>
  pLdN (· = w) 3 t1 fun t4 =>
  pCall Try.prog 87 [t4] X w fun t5 w =>
  pNot t5 fun t6 =>
  scond t6
  (R (.tuple #[(.int .i64 0), (.int .i64 0)]) w)
  (pFA 1 t1 fun t7 =>
    pLd (· = w) t7 fun t8 =>
    geom_levels.I1 [x0, t1, (.int .i64 0), (.int .i64 1), t4, t5, t6, t7, t8, (.int .i64 0), undef, undef, undef, undef, undef, undef, undef, undef, undef, undef, undef] R X w)
theorem geom_levels.b_eq (x0 : Value) (R : KV) (X : KX) (w : World) : atP Try.prog Try.f78 geom_levels.pl [] [] R X ([x0] ++ undefs 20) w = geom_levels.b x0 R X w := by kernel_rfl
theorem geom_levels.calls {x0 : Value} {R : KV} {X : KX} {w : World} (h : geom_levels.b x0 R X w) : GCalls Try.prog 78 [x0] R X w :=
  gcalls_of (pl := geom_levels.pl) Try.func78 rfl (by kernel_rfl) hmixed (geom_levels.b_eq x0 R X w ▸ h)

/-! oubliette/geom.Pages -/
def geom_Pages.pl : Nat → DrawPlan
  | _ => ⟨[], .done⟩
def geom_Pages.b (x0 : Value) (R : KV) (X : KX) (w : World) : Prop :=
  pBox 33 x0 w fun t1 w =>
  pLdN (· = w) 3 t1 fun t6 =>
  pCall Try.prog 78 [t6] X w fun t7 w =>
  pExt t7 0 fun t8 =>
  pExt t7 1 fun t9 =>
  pBinI .add .i64 t8 t9 fun t12 =>
  R t12 w
theorem geom_Pages.b_eq (x0 : Value) (R : KV) (X : KX) (w : World) : atP Try.prog Try.f79 geom_Pages.pl [] [] R X ([x0] ++ undefs 12) w = geom_Pages.b x0 R X w := by kernel_rfl
theorem geom_Pages.calls {x0 : Value} {R : KV} {X : KX} {w : World} (h : geom_Pages.b x0 R X w) : GCalls Try.prog 79 [x0] R X w :=
  gcalls_of (pl := geom_Pages.pl) Try.func79 rfl (by kernel_rfl) hmixed (geom_Pages.b_eq x0 R X w ▸ h)

/-! oubliette/oublietteref21.Least -/
def oublietteref21_Least.pl : Nat → DrawPlan
  | _ => ⟨[], .done⟩
def oublietteref21_Least.b (x0 : Value) (R : KV) (X : KX) (w : World) : Prop :=
  pBox 33 x0 w fun t1 w =>
  pFA 0 t1 fun t3 =>
  pLd (· = w) t3 fun t4 =>
  pBinI .lss .i64 t4 (.int .i64 2) fun t5 =>
  gIf t5 false (fun K => pFA 0 t1 K) fun t7 =>
  gIf t5 false (fun K => pLd (· = w) t7 K) fun t8 =>
  gIf t5 false (fun K => pBinI .gtr .i64 t8 (.int .i64 4) K) fun t9 =>
  pPick t5 (.bool true) t9 fun t10 =>
  gIf t10 false (fun K => pFA 1 t1 K) fun t12 =>
  gIf t10 false (fun K => pLd (· = w) t12 K) fun t13 =>
  gIf t10 false (fun K => pBinI .lss .i64 t13 (.int .i64 1) K) fun t14 =>
  pPick t10 (.bool true) t14 fun t15 =>
  gIf t15 false (fun K => pFA 1 t1 K) fun t17 =>
  gIf t15 false (fun K => pLd (· = w) t17 K) fun t18 =>
  gIf t15 false (fun K => pBinI .gtr .i64 t18 (.int .i64 3) K) fun t19 =>
  pPick t15 (.bool true) t19 fun t20 =>
  scond t20
  (R (.int .i64 0) w)
  (pFA 1 t1 fun t21 =>
    pLd (· = w) t21 fun t22 =>
    pBinI .add .i64 t22 (.int .i64 2) fun t23 =>
    R t23 w)
theorem oublietteref21_Least.b_eq (x0 : Value) (R : KV) (X : KX) (w : World) : atP Try.prog Try.f80 oublietteref21_Least.pl [] [] R X ([x0] ++ undefs 23) w = oublietteref21_Least.b x0 R X w := by kernel_rfl
theorem oublietteref21_Least.calls {x0 : Value} {R : KV} {X : KX} {w : World} (h : oublietteref21_Least.b x0 R X w) : GCalls Try.prog 80 [x0] R X w :=
  gcalls_of (pl := oublietteref21_Least.pl) Try.func80 rfl (by kernel_rfl) hmixed (oublietteref21_Least.b_eq x0 R X w ▸ h)

/-! oubliette/geom.Right -/
def geom_Right.pl : Nat → DrawPlan
  | _ => ⟨[], .done⟩
def geom_Right.b (x0 : Value) (R : KV) (X : KX) (w : World) : Prop :=
  pBox 33 x0 w fun t1 w =>
  pLdN (· = w) 3 t1 fun t4 =>
  pCall Try.prog 91 [t4] X w fun t5 w =>
  pBinI .gtr .i64 t5 (.int .i64 0) fun t7 =>
  gIf t7 true (fun K => pFA 2 t1 K) fun t9 =>
  gIf t7 true (fun K => pLd (· = w) t9 K) fun t10 =>
  gIf t7 true (fun K => K t5) fun t11 =>
  gIf t7 true (fun K => pBinI .geq .i64 t10 t11 K) fun t12 =>
  pPick t7 t12 (.bool false) fun t13 =>
  gIf t13 true (fun K => pFA 2 t1 K) fun t15 =>
  gIf t13 true (fun K => pLd (· = w) t15 K) fun t16 =>
  gIf t13 true (fun K => pBinI .leq .i64 t16 (.int .i64 64) K) fun t17 =>
  pPick t13 t17 (.bool false) fun t18 =>
  R t18 w
theorem geom_Right.b_eq (x0 : Value) (R : KV) (X : KX) (w : World) : atP Try.prog Try.f87 geom_Right.pl [] [] R X ([x0] ++ undefs 18) w = geom_Right.b x0 R X w := by kernel_rfl
theorem geom_Right.calls {x0 : Value} {R : KV} {X : KX} {w : World} (h : geom_Right.b x0 R X w) : GCalls Try.prog 87 [x0] R X w :=
  gcalls_of (pl := geom_Right.pl) Try.func87 rfl (by kernel_rfl) hmixed (geom_Right.b_eq x0 R X w ▸ h)

/-! oubliette/geom.Least -/
def geom_Least.pl : Nat → DrawPlan
  | _ => ⟨[], .done⟩
def geom_Least.b (x0 : Value) (R : KV) (X : KX) (w : World) : Prop :=
  pBox 33 x0 w fun t1 w =>
  pFA 0 t1 fun t3 =>
  pLd (· = w) t3 fun t4 =>
  pBinI .lss .i64 t4 (.int .i64 2) fun t5 =>
  gIf t5 false (fun K => pFA 0 t1 K) fun t7 =>
  gIf t5 false (fun K => pLd (· = w) t7 K) fun t8 =>
  gIf t5 false (fun K => pBinI .gtr .i64 t8 (.int .i64 4) K) fun t9 =>
  pPick t5 (.bool true) t9 fun t10 =>
  gIf t10 false (fun K => pFA 1 t1 K) fun t12 =>
  gIf t10 false (fun K => pLd (· = w) t12 K) fun t13 =>
  gIf t10 false (fun K => pBinI .lss .i64 t13 (.int .i64 1) K) fun t14 =>
  pPick t10 (.bool true) t14 fun t15 =>
  gIf t15 false (fun K => pFA 1 t1 K) fun t17 =>
  gIf t15 false (fun K => pLd (· = w) t17 K) fun t18 =>
  gIf t15 false (fun K => pBinI .gtr .i64 t18 (.int .i64 3) K) fun t19 =>
  pPick t15 (.bool true) t19 fun t20 =>
  scond t20
  (R (.int .i64 0) w)
  (pFA 1 t1 fun t21 =>
    pLd (· = w) t21 fun t22 =>
    pBinI .add .i64 t22 (.int .i64 2) fun t23 =>
    R t23 w)
theorem geom_Least.b_eq (x0 : Value) (R : KV) (X : KX) (w : World) : atP Try.prog Try.f91 geom_Least.pl [] [] R X ([x0] ++ undefs 23) w = geom_Least.b x0 R X w := by kernel_rfl
theorem geom_Least.calls {x0 : Value} {R : KV} {X : KX} {w : World} (h : geom_Least.b x0 R X w) : GCalls Try.prog 91 [x0] R X w :=
  gcalls_of (pl := geom_Least.pl) Try.func91 rfl (by kernel_rfl) hmixed (geom_Least.b_eq x0 R X w ▸ h)
end Go.Proofs.Ytlolomdgchkibaa
