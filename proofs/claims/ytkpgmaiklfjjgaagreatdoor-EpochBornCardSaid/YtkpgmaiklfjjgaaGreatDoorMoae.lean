/-
  The functions' own code as conditions on values and worlds; the kernel checks that each is the code's own.
-/
import Derived.Test.YtkpgmaiklfjjgaaGreatDoorMoad
import Derived.Test.YtkpgmaiklfjjgaaGreatDoorProg
section
set_option maxRecDepth 100000
set_option linter.unusedVariables false
namespace Go.Proofs.YtkpgmaiklfjjgaaGreatDoor
open Go.G
theorem hmixed : Tryz.prog.follows .mixedOrders = true := by kernel_rfl
/-! oubliette/oublietteref01.Same -/
def oublietteref01_Same.pl : Nat → DrawPlan
  | 6 => ⟨[([], [2]), ([], [2]), ([0, 1], [0, 1, 3]), ([2], [2, 8]), ([], [6]), ([], [6]), ([4, 5], [4, 5, 7]), ([6], [6, 8]), ([3, 7], [3, 7])], .take 0 (.take 1 (.take 2 (.take 3 (.take 4 (.take 5 (.take 6 (.take 7 (.take 8 (.done)))))))))⟩
  | _ => ⟨[], .done⟩
def oublietteref01_Same.b1 (x0 : Value) (x1 : Value) (x5 : Value) (g : Nat → Value) (N1 : List Value → World → Prop) (R : KV) (X : KX) (w : World) : Prop :=
  pLenSl x0 fun t13 =>
  pBinI .lss .i64 x5 t13 fun t14 =>
  scond t14
  (drawn w fun S w =>
    pIA 1 x0 x5 fun t19 =>
    pLd S t19 fun t20 =>
    pIA 1 x1 x5 fun t23 =>
    pLd S t23 fun t24 =>
    pBinI .neq .u8 t20 t24 fun t25 =>
    scond t25
    (R (.bool false) w)
    (pBinI .add .i64 x5 (.int .i64 1) fun t16 =>
      N1 [x0, x1, (g 2), (g 3), (g 4), t16, (g 6), (g 7), (g 8), (g 9), (g 10), x5, x0, t13, t14, x5, t16, x0, x5, t19, t20, x1, x5, t23, t24, t25] w))
  (R (.bool true) w)
def oublietteref01_Same.I1 (e : List Value) (R : KV) (X : KX) (w : World) : Prop := atP Tryz.prog Tryz.f30 oublietteref01_Same.pl [1, 1, 0, 1, 0] [] R X e w
theorem oublietteref01_Same.I1_eq (e : List Value) (R : KV) (X : KX) (w : World) : oublietteref01_Same.I1 e R X w = loopS (fun N e w => atP Tryz.prog Tryz.f30 oublietteref01_Same.pl [1, 1, 0, 1, 0, 0] [N] R X e w) e w := by kernel_rfl
def oublietteref01_Same.fr1 (x0 : Value) (x1 : Value) (x5 : Value) (g : Nat → Value) : List Value := [x0, x1, g 2, g 3, g 4, x5, g 6, g 7, g 8, g 9, g 10, g 11, g 12, g 13, g 14, g 15, g 16, g 17, g 18, g 19, g 20, g 21, g 22, g 23, g 24, g 25]
theorem oublietteref01_Same.b1_eq (x0 : Value) (x1 : Value) (x5 : Value) (g : Nat → Value) (N1 : List Value → World → Prop) (R : KV) (X : KX) (w : World) : atP Tryz.prog Tryz.f30 oublietteref01_Same.pl [1, 1, 0, 1, 0, 0] [N1] R X (oublietteref01_Same.fr1 x0 x1 x5 g) w = oublietteref01_Same.b1 x0 x1 x5 g N1 R X w := by kernel_rfl
/-- What a round of this loop hands on. -/
def oublietteref01_Same.N1 (J : Value → World → Prop) (m : Value → World → Nat) (x0 : Value) (x1 : Value) (x5 : Value) (w : World) : List Value → World → Prop := fun e w' => (∃ y5 g, e = oublietteref01_Same.fr1 x0 x1 y5 g ∧ J y5 w') ∧ m (nth e 5) w' < m x5 w
theorem oublietteref01_Same.leaf1 {J : Value → World → Prop} {m : Value → World → Nat} {x0 : Value} {x1 : Value} {x5 : Value} {w w' : World} {e2 e3 e4 e5 e6 e7 e8 e9 e10 e11 e12 e13 e14 e15 e16 e17 e18 e19 e20 e21 e22 e23 e24 e25 : Value} (h : J e5 w') (hm : m e5 w' < m x5 w) : oublietteref01_Same.N1 J m x0 x1 x5 w [x0, x1, e2, e3, e4, e5, e6, e7, e8, e9, e10, e11, e12, e13, e14, e15, e16, e17, e18, e19, e20, e21, e22, e23, e24, e25] w' :=
  ⟨⟨e5, (fun i => nth [x0, x1, e2, e3, e4, e5, e6, e7, e8, e9, e10, e11, e12, e13, e14, e15, e16, e17, e18, e19, e20, e21, e22, e23, e24, e25] i), rfl, h⟩, hm⟩
theorem oublietteref01_Same.loop1 (J : Value → World → Prop) (m : Value → World → Nat) {R : KV} {X : KX} {w : World} {x0 : Value} {x1 : Value} {e2 e3 e4 e5 e6 e7 e8 e9 e10 e11 e12 e13 e14 e15 e16 e17 e18 e19 e20 e21 e22 e23 e24 e25 : Value} (h0 : J e5 w)
    (hr : ∀ x5 g w, J x5 w → oublietteref01_Same.b1 x0 x1 x5 g (oublietteref01_Same.N1 J m x0 x1 x5 w) R X w) : oublietteref01_Same.I1 [x0, x1, e2, e3, e4, e5, e6, e7, e8, e9, e10, e11, e12, e13, e14, e15, e16, e17, e18, e19, e20, e21, e22, e23, e24, e25] R X w := by
  rw [oublietteref01_Same.I1_eq]
  refine ⟨fun e w => ∃ y5 g, e = oublietteref01_Same.fr1 x0 x1 y5 g ∧ J y5 w, fun e w => m (nth e 5) w, ⟨e5, (fun i => nth [x0, x1, e2, e3, e4, e5, e6, e7, e8, e9, e10, e11, e12, e13, e14, e15, e16, e17, e18, e19, e20, e21, e22, e23, e24, e25] i), rfl, h0⟩, ?_⟩
  rintro _ w ⟨y5, g, rfl, hJ⟩
  rw [oublietteref01_Same.b1_eq]
  exact hr y5 g w hJ
def oublietteref01_Same.b (x0 : Value) (x1 : Value) (R : KV) (X : KX) (w : World) : Prop :=
  pLenSl x0 fun t7 =>
  pLenSl x1 fun t9 =>
  pBinI .neq .i64 t7 t9 fun t10 =>
  scond t10
  (R (.bool false) w)
  (oublietteref01_Same.I1 [x0, x1, undef, undef, (.bool false), (.int .i64 0), x0, t7, x1, t9, t10, undef, undef, undef, undef, undef, undef, undef, undef, undef, undef, undef, undef, undef, undef, undef] R X w)
theorem oublietteref01_Same.b_eq (x0 : Value) (x1 : Value) (R : KV) (X : KX) (w : World) : atP Tryz.prog Tryz.f30 oublietteref01_Same.pl [] [] R X ([x0, x1] ++ undefs 24) w = oublietteref01_Same.b x0 x1 R X w := by kernel_rfl
theorem oublietteref01_Same.calls {x0 x1 : Value} {R : KV} {X : KX} {w : World} (h : oublietteref01_Same.b x0 x1 R X w) : GCalls Tryz.prog 30 [x0, x1] R X w :=
  gcalls_of (pl := oublietteref01_Same.pl) Tryz.func30 rfl (by kernel_rfl) hmixed (oublietteref01_Same.b_eq x0 x1 R X w ▸ h)

/-! oubliette/oublietteref01.Join -/
def oublietteref01_Join.pl : Nat → DrawPlan
  | _ => ⟨[], .done⟩
def oublietteref01_Join.b (x0 : Value) (x1 : Value) (R : KV) (X : KX) (w : World) : Prop :=
  pApp 5 1 1 [.int .u8 0] (.slice none 0 0) x0 w fun t8 w =>
  pApp 5 1 1 [.int .u8 0] t8 x1 w fun t11 w =>
  R t11 w
theorem oublietteref01_Join.b_eq (x0 : Value) (x1 : Value) (R : KV) (X : KX) (w : World) : atP Tryz.prog Tryz.f58 oublietteref01_Join.pl [] [] R X ([x0, x1] ++ undefs 10) w = oublietteref01_Join.b x0 x1 R X w := by kernel_rfl
theorem oublietteref01_Join.calls {x0 x1 : Value} {R : KV} {X : KX} {w : World} (h : oublietteref01_Join.b x0 x1 R X w) : GCalls Tryz.prog 58 [x0, x1] R X w :=
  gcalls_of (pl := oublietteref01_Join.pl) Tryz.func58 rfl (by kernel_rfl) hmixed (oublietteref01_Join.b_eq x0 x1 R X w ▸ h)

/-! slices.Clone[[]byte,byte] -/
def slices_Clone_byte_byte.pl : Nat → DrawPlan
  | _ => ⟨[], .done⟩
def slices_Clone_byte_byte.b (x0 : Value) (R : KV) (X : KX) (w : World) : Prop :=
  pEq .sl false x0 (.slice none 0 0) fun t4 =>
  scond t4
  (R (.slice none 0 0) w)
  (pBSlice 5 0 (rowOf [.int .u8 0] 0) [] w fun t5 w =>
    pApp 5 1 1 [.int .u8 0] t5 x0 w fun t7 w =>
    R t7 w)
theorem slices_Clone_byte_byte.b_eq (x0 : Value) (R : KV) (X : KX) (w : World) : atP Tryz.prog Tryz.f50 slices_Clone_byte_byte.pl [] [] R X ([x0] ++ undefs 7) w = slices_Clone_byte_byte.b x0 R X w := by kernel_rfl
theorem slices_Clone_byte_byte.calls {x0 : Value} {R : KV} {X : KX} {w : World} (h : slices_Clone_byte_byte.b x0 R X w) : GCalls Tryz.prog 50 [x0] R X w :=
  gcalls_of (pl := slices_Clone_byte_byte.pl) Tryz.func50 rfl (by kernel_rfl) hmixed (slices_Clone_byte_byte.b_eq x0 R X w ▸ h)

/-! oubliette/oublietteref01.Print -/
def oublietteref01_Print.pl : Nat → DrawPlan
  | _ => ⟨[], .done⟩
def oublietteref01_Print.b (x0 : Value) (R : KV) (X : KX) (w : World) : Prop :=
  pBinI .lss .i64 x0 (.int .i64 0) fun t4 =>
  scond t4
  (R (.string ⟨#[]⟩) w)
  (pBinI .lss .i64 x0 (.int .i64 10) fun t6 =>
    scond t6
    (pBinI .add .i64 (.int .i64 48) x0 fun t8 =>
      pConv .u8 t8 fun t9 =>
      pBSlice 5 1 (rowOf [.int .u8 0] 1) [(0, 1, t9)] w fun t10 w =>
      pStrOf (· = w) t10 fun t11 =>
      R t11 w)
    (pDiv .quo .i64 x0 (.int .i64 10) fun t13 =>
      pCall Tryz.prog 34 [t13] X w fun t14 w =>
      pDiv .rem .i64 x0 (.int .i64 10) fun t16 =>
      pCall Tryz.prog 34 [t16] X w fun t17 w =>
      pBinS .add t14 t17 fun t18 =>
      R t18 w))
theorem oublietteref01_Print.b_eq (x0 : Value) (R : KV) (X : KX) (w : World) : atP Tryz.prog Tryz.f34 oublietteref01_Print.pl [] [] R X ([x0] ++ undefs 18) w = oublietteref01_Print.b x0 R X w := by kernel_rfl
theorem oublietteref01_Print.calls {x0 : Value} {R : KV} {X : KX} {w : World} (h : oublietteref01_Print.b x0 R X w) : GCalls Tryz.prog 34 [x0] R X w :=
  gcalls_of (pl := oublietteref01_Print.pl) Tryz.func34 rfl (by kernel_rfl) hmixed (oublietteref01_Print.b_eq x0 R X w ▸ h)

/-! oubliette/num.Print -/
def num_Print.pl : Nat → DrawPlan
  | _ => ⟨[], .done⟩
def num_Print.b (x0 : Value) (R : KV) (X : KX) (w : World) : Prop :=
  pBinI .lss .i64 x0 (.int .i64 0) fun t4 =>
  scond t4
  (R (.string ⟨#[]⟩) w)
  (pCall Tryz.prog 68 [x0] X w fun t6 w =>
    R t6 w)
theorem num_Print.b_eq (x0 : Value) (R : KV) (X : KX) (w : World) : atP Tryz.prog Tryz.f49 num_Print.pl [] [] R X ([x0] ++ undefs 6) w = num_Print.b x0 R X w := by kernel_rfl
theorem num_Print.calls {x0 : Value} {R : KV} {X : KX} {w : World} (h : num_Print.b x0 R X w) : GCalls Tryz.prog 49 [x0] R X w :=
  gcalls_of (pl := num_Print.pl) Tryz.func49 rfl (by kernel_rfl) hmixed (num_Print.b_eq x0 R X w ▸ h)

/-! oubliette/num.Get -/
def num_Get.pl : Nat → DrawPlan
  | _ => ⟨[], .done⟩
def num_Get.b1 (x2 : Value) (x14 : Value) (x15 : Value) (x16 : Value) (g : Nat → Value) (N1 : List Value → World → Prop) (R : KV) (X : KX) (w : World) : Prop :=
  pBinI .lss .i64 x16 x15 fun t17 =>
  scond t17
  (pIA 1 x14 x16 fun t18 =>
    pLd (· = w) t18 fun t19 =>
    pShift .shl .u64 x2 (.int .u64 8) fun t21 =>
    pConv .u64 t19 fun t23 =>
    pBinI .or .u64 t21 t23 fun t24 =>
    pBinI .add .i64 x16 (.int .i64 1) fun t25 =>
    N1 [(g 0), (g 1), t24, (g 3), (g 4), t19, (g 6), (g 7), (g 8), (g 9), (g 10), (g 11), (g 12), (g 13), x14, x15, t25, t17, t18, t19, x2, t21, t19, t23, t24, t25, (g 26)] w)
  (R (.tuple #[x2, (.int .i64 0)]) w)
def num_Get.I1 (e : List Value) (R : KV) (X : KX) (w : World) : Prop := atP Tryz.prog Tryz.f44 num_Get.pl [1, 1, 0, 1, 0] [] R X e w
theorem num_Get.I1_eq (e : List Value) (R : KV) (X : KX) (w : World) : num_Get.I1 e R X w = loopS (fun N e w => atP Tryz.prog Tryz.f44 num_Get.pl [1, 1, 0, 1, 0, 0] [N] R X e w) e w := by kernel_rfl
def num_Get.fr1 (x2 : Value) (x14 : Value) (x15 : Value) (x16 : Value) (g : Nat → Value) : List Value := [g 0, g 1, x2, g 3, g 4, g 5, g 6, g 7, g 8, g 9, g 10, g 11, g 12, g 13, x14, x15, x16, g 17, g 18, g 19, g 20, g 21, g 22, g 23, g 24, g 25, g 26]
theorem num_Get.b1_eq (x2 : Value) (x14 : Value) (x15 : Value) (x16 : Value) (g : Nat → Value) (N1 : List Value → World → Prop) (R : KV) (X : KX) (w : World) : atP Tryz.prog Tryz.f44 num_Get.pl [1, 1, 0, 1, 0, 0] [N1] R X (num_Get.fr1 x2 x14 x15 x16 g) w = num_Get.b1 x2 x14 x15 x16 g N1 R X w := by kernel_rfl
/-- What a round of this loop hands on. -/
def num_Get.N1 (J : Value → Value → World → Prop) (m : Value → Value → World → Nat) (x14 : Value) (x15 : Value) (x2 : Value) (x16 : Value) (w : World) : List Value → World → Prop := fun e w' => (∃ y2 y16 g, e = num_Get.fr1 y2 x14 x15 y16 g ∧ J y2 y16 w') ∧ m (nth e 2) (nth e 16) w' < m x2 x16 w
theorem num_Get.leaf1 {J : Value → Value → World → Prop} {m : Value → Value → World → Nat} {x2 : Value} {x14 : Value} {x15 : Value} {x16 : Value} {w w' : World} {e0 e1 e2 e3 e4 e5 e6 e7 e8 e9 e10 e11 e12 e13 e16 e17 e18 e19 e20 e21 e22 e23 e24 e25 e26 : Value} (h : J e2 e16 w') (hm : m e2 e16 w' < m x2 x16 w) : num_Get.N1 J m x14 x15 x2 x16 w [e0, e1, e2, e3, e4, e5, e6, e7, e8, e9, e10, e11, e12, e13, x14, x15, e16, e17, e18, e19, e20, e21, e22, e23, e24, e25, e26] w' :=
  ⟨⟨e2, e16, (fun i => nth [e0, e1, e2, e3, e4, e5, e6, e7, e8, e9, e10, e11, e12, e13, x14, x15, e16, e17, e18, e19, e20, e21, e22, e23, e24, e25, e26] i), rfl, h⟩, hm⟩
theorem num_Get.loop1 (J : Value → Value → World → Prop) (m : Value → Value → World → Nat) {R : KV} {X : KX} {w : World} {x14 : Value} {x15 : Value} {e0 e1 e2 e3 e4 e5 e6 e7 e8 e9 e10 e11 e12 e13 e16 e17 e18 e19 e20 e21 e22 e23 e24 e25 e26 : Value} (h0 : J e2 e16 w)
    (hr : ∀ x2 x16 g w, J x2 x16 w → num_Get.b1 x2 x14 x15 x16 g (num_Get.N1 J m x14 x15 x2 x16 w) R X w) : num_Get.I1 [e0, e1, e2, e3, e4, e5, e6, e7, e8, e9, e10, e11, e12, e13, x14, x15, e16, e17, e18, e19, e20, e21, e22, e23, e24, e25, e26] R X w := by
  rw [num_Get.I1_eq]
  refine ⟨fun e w => ∃ y2 y16 g, e = num_Get.fr1 y2 x14 x15 y16 g ∧ J y2 y16 w, fun e w => m (nth e 2) (nth e 16) w, ⟨e2, e16, (fun i => nth [e0, e1, e2, e3, e4, e5, e6, e7, e8, e9, e10, e11, e12, e13, x14, x15, e16, e17, e18, e19, e20, e21, e22, e23, e24, e25, e26] i), rfl, h0⟩, ?_⟩
  rintro _ w ⟨y2, y16, g, rfl, hJ⟩
  rw [num_Get.b1_eq]
  exact hr y2 y16 g w hJ
def num_Get.b (x0 : Value) (R : KV) (X : KX) (w : World) : Prop :=
  pLenSl x0 fun t7 =>
  pBinI .eql .i64 t7 (.int .i64 0) fun t8 =>
  gIf t8 false (fun K => K x0) fun t10 =>
  gIf t8 false (fun K => pLenSl t10 K) fun t11 =>
  gIf t8 false (fun K => pBinI .gtr .i64 t11 (.int .i64 8) K) fun t12 =>
  pPick t8 (.bool true) t12 fun t13 =>
  scond t13
  (R (.tuple #[(.int .u64 0), (.int .i64 4)]) w)
  (pLenSl x0 fun t15 =>
    num_Get.I1 [x0, undef, (.int .u64 0), (.int .i64 0), undef, undef, x0, t7, t8, t8, t10, t11, t12, t13, x0, t15, (.int .i64 0), undef, undef, undef, undef, undef, undef, undef, undef, undef, undef] R X w)
theorem num_Get.b_eq (x0 : Value) (R : KV) (X : KX) (w : World) : atP Tryz.prog Tryz.f44 num_Get.pl [] [] R X ([x0] ++ undefs 26) w = num_Get.b x0 R X w := by kernel_rfl
theorem num_Get.calls {x0 : Value} {R : KV} {X : KX} {w : World} (h : num_Get.b x0 R X w) : GCalls Tryz.prog 44 [x0] R X w :=
  gcalls_of (pl := num_Get.pl) Tryz.func44 rfl (by kernel_rfl) hmixed (num_Get.b_eq x0 R X w ▸ h)

/-! oubliette/num.Same -/
def num_Same.pl : Nat → DrawPlan
  | _ => ⟨[], .done⟩
def num_Same.b (x0 : Value) (x1 : Value) (R : KV) (X : KX) (w : World) : Prop :=
  pCall Tryz.prog 66 [x0, x1] X w fun t7 w =>
  R t7 w
theorem num_Same.b_eq (x0 : Value) (x1 : Value) (R : KV) (X : KX) (w : World) : atP Tryz.prog Tryz.f47 num_Same.pl [] [] R X ([x0, x1] ++ undefs 6) w = num_Same.b x0 x1 R X w := by kernel_rfl
theorem num_Same.calls {x0 x1 : Value} {R : KV} {X : KX} {w : World} (h : num_Same.b x0 x1 R X w) : GCalls Tryz.prog 47 [x0, x1] R X w :=
  gcalls_of (pl := num_Same.pl) Tryz.func47 rfl (by kernel_rfl) hmixed (num_Same.b_eq x0 x1 R X w ▸ h)

/-! oubliette/num.Put -/
def num_Put.pl : Nat → DrawPlan
  | _ => ⟨[], .done⟩
def num_Put.b1 (x0 : Value) (x4 : Value) (x5 : Value) (g : Nat → Value) (N1 : List Value → World → Prop) (R : KV) (X : KX) (w : World) : Prop :=
  pBinI .lss .i64 x5 (.int .i64 0) fun t17 =>
  scond t17
  (R x4 w)
  (pBinI .mul .i64 (.int .i64 8) x5 fun t21 =>
    pShift .shr .u64 x0 t21 fun t22 =>
    pConv .u8 t22 fun t23 =>
    pBSlice 5 1 (rowOf [.int .u8 0] 1) [(0, 1, t23)] w fun t24 w =>
    pApp 5 1 1 [.int .u8 0] x4 t24 w fun t25 w =>
    pBinI .sub .i64 x5 (.int .i64 1) fun t15 =>
    N1 [x0, (g 1), (g 2), (g 3), t25, t15, (g 6), (g 7), (g 8), (g 9), (g 10), (g 11), (g 12), (g 13), x5, t15, x5, t17, x4, x0, x5, t21, t22, t23, t24, t25, (g 26)] w)
def num_Put.I1 (e : List Value) (R : KV) (X : KX) (w : World) : Prop := atP Tryz.prog Tryz.f62 num_Put.pl [1, 0, 1, 1, 0, 1, 0] [] R X e w
theorem num_Put.I1_eq (e : List Value) (R : KV) (X : KX) (w : World) : num_Put.I1 e R X w = loopS (fun N e w => atP Tryz.prog Tryz.f62 num_Put.pl [1, 0, 1, 1, 0, 1, 0, 0] [N] R X e w) e w := by kernel_rfl
def num_Put.fr1 (x0 : Value) (x4 : Value) (x5 : Value) (g : Nat → Value) : List Value := [x0, g 1, g 2, g 3, x4, x5, g 6, g 7, g 8, g 9, g 10, g 11, g 12, g 13, g 14, g 15, g 16, g 17, g 18, g 19, g 20, g 21, g 22, g 23, g 24, g 25, g 26]
theorem num_Put.b1_eq (x0 : Value) (x4 : Value) (x5 : Value) (g : Nat → Value) (N1 : List Value → World → Prop) (R : KV) (X : KX) (w : World) : atP Tryz.prog Tryz.f62 num_Put.pl [1, 0, 1, 1, 0, 1, 0, 0] [N1] R X (num_Put.fr1 x0 x4 x5 g) w = num_Put.b1 x0 x4 x5 g N1 R X w := by kernel_rfl
/-- What a round of this loop hands on. -/
def num_Put.N1 (J : Value → Value → World → Prop) (m : Value → Value → World → Nat) (x0 : Value) (x4 : Value) (x5 : Value) (w : World) : List Value → World → Prop := fun e w' => (∃ y4 y5 g, e = num_Put.fr1 x0 y4 y5 g ∧ J y4 y5 w') ∧ m (nth e 4) (nth e 5) w' < m x4 x5 w
theorem num_Put.leaf1 {J : Value → Value → World → Prop} {m : Value → Value → World → Nat} {x0 : Value} {x4 : Value} {x5 : Value} {w w' : World} {e1 e2 e3 e4 e5 e6 e7 e8 e9 e10 e11 e12 e13 e14 e15 e16 e17 e18 e19 e20 e21 e22 e23 e24 e25 e26 : Value} (h : J e4 e5 w') (hm : m e4 e5 w' < m x4 x5 w) : num_Put.N1 J m x0 x4 x5 w [x0, e1, e2, e3, e4, e5, e6, e7, e8, e9, e10, e11, e12, e13, e14, e15, e16, e17, e18, e19, e20, e21, e22, e23, e24, e25, e26] w' :=
  ⟨⟨e4, e5, (fun i => nth [x0, e1, e2, e3, e4, e5, e6, e7, e8, e9, e10, e11, e12, e13, e14, e15, e16, e17, e18, e19, e20, e21, e22, e23, e24, e25, e26] i), rfl, h⟩, hm⟩
theorem num_Put.loop1 (J : Value → Value → World → Prop) (m : Value → Value → World → Nat) {R : KV} {X : KX} {w : World} {x0 : Value} {e1 e2 e3 e4 e5 e6 e7 e8 e9 e10 e11 e12 e13 e14 e15 e16 e17 e18 e19 e20 e21 e22 e23 e24 e25 e26 : Value} (h0 : J e4 e5 w)
    (hr : ∀ x4 x5 g w, J x4 x5 w → num_Put.b1 x0 x4 x5 g (num_Put.N1 J m x0 x4 x5 w) R X w) : num_Put.I1 [x0, e1, e2, e3, e4, e5, e6, e7, e8, e9, e10, e11, e12, e13, e14, e15, e16, e17, e18, e19, e20, e21, e22, e23, e24, e25, e26] R X w := by
  rw [num_Put.I1_eq]
  refine ⟨fun e w => ∃ y4 y5 g, e = num_Put.fr1 x0 y4 y5 g ∧ J y4 y5 w, fun e w => m (nth e 4) (nth e 5) w, ⟨e4, e5, (fun i => nth [x0, e1, e2, e3, e4, e5, e6, e7, e8, e9, e10, e11, e12, e13, e14, e15, e16, e17, e18, e19, e20, e21, e22, e23, e24, e25, e26] i), rfl, h0⟩, ?_⟩
  rintro _ w ⟨y4, y5, g, rfl, hJ⟩
  rw [num_Put.b1_eq]
  exact hr y4 y5 g w hJ
def num_Put.b (x0 : Value) (x1 : Value) (R : KV) (X : KX) (w : World) : Prop :=
  pBinI .lss .i64 x1 (.int .i64 1) fun t7 =>
  gIf t7 false (fun K => K x1) fun t9 =>
  gIf t7 false (fun K => pBinI .gtr .i64 t9 (.int .i64 8) K) fun t10 =>
  pPick t7 (.bool true) t10 fun t11 =>
  scond t11
  (R (.slice none 0 0) w)
  (pBinI .sub .i64 x1 (.int .i64 1) fun t13 =>
    num_Put.I1 [x0, x1, undef, undef, (.slice none 0 0), t13, x1, t7, t7, t9, t10, t11, x1, t13, undef, undef, undef, undef, undef, undef, undef, undef, undef, undef, undef, undef, undef] R X w)
theorem num_Put.b_eq (x0 : Value) (x1 : Value) (R : KV) (X : KX) (w : World) : atP Tryz.prog Tryz.f62 num_Put.pl [] [] R X ([x0, x1] ++ undefs 25) w = num_Put.b x0 x1 R X w := by kernel_rfl
theorem num_Put.calls {x0 x1 : Value} {R : KV} {X : KX} {w : World} (h : num_Put.b x0 x1 R X w) : GCalls Tryz.prog 62 [x0, x1] R X w :=
  gcalls_of (pl := num_Put.pl) Tryz.func62 rfl (by kernel_rfl) hmixed (num_Put.b_eq x0 x1 R X w ▸ h)

/-! strconv.Itoa -/
def strconv_Itoa.pl : Nat → DrawPlan
  | _ => ⟨[], .done⟩
def strconv_Itoa.b (x0 : Value) (R : KV) (X : KX) (w : World) : Prop :=
  pCall Tryz.prog 80 [x0] X w fun t4 w =>
  R t4 w
theorem strconv_Itoa.b_eq (x0 : Value) (R : KV) (X : KX) (w : World) : atP Tryz.prog Tryz.f68 strconv_Itoa.pl [] [] R X ([x0] ++ undefs 4) w = strconv_Itoa.b x0 R X w := by kernel_rfl
theorem strconv_Itoa.calls {x0 : Value} {R : KV} {X : KX} {w : World} (h : strconv_Itoa.b x0 R X w) : GCalls Tryz.prog 68 [x0] R X w :=
  gcalls_of (pl := strconv_Itoa.pl) Tryz.func68 rfl (by kernel_rfl) hmixed (strconv_Itoa.b_eq x0 R X w ▸ h)

/-! oubliette/num.Pad -/
def num_Pad.pl : Nat → DrawPlan
  | _ => ⟨[], .done⟩
def num_Pad.b (x0 : Value) (x1 : Value) (R : KV) (X : KX) (w : World) : Prop :=
  pBinI .lss .i64 x1 (.int .i64 1) fun t7 =>
  gIf t7 false (fun K => K x1) fun t9 =>
  gIf t7 false (fun K => pBinI .gtr .i64 t9 (.int .i64 65536) K) fun t10 =>
  pPick t7 (.bool true) t10 fun t11 =>
  scond t11
  (R (.slice none 0 0) w)
  (pMake 5 1 [.int .u8 0] x1 x1 w fun t13 w =>
    pCopy 1 t13 x0 w fun t16 w =>
    R t13 w)
theorem num_Pad.b_eq (x0 : Value) (x1 : Value) (R : KV) (X : KX) (w : World) : atP Tryz.prog Tryz.f63 num_Pad.pl [] [] R X ([x0, x1] ++ undefs 16) w = num_Pad.b x0 x1 R X w := by kernel_rfl
theorem num_Pad.calls {x0 x1 : Value} {R : KV} {X : KX} {w : World} (h : num_Pad.b x0 x1 R X w) : GCalls Tryz.prog 63 [x0, x1] R X w :=
  gcalls_of (pl := num_Pad.pl) Tryz.func63 rfl (by kernel_rfl) hmixed (num_Pad.b_eq x0 x1 R X w ▸ h)

/-! bytes.Equal -/
def bytes_Equal.pl : Nat → DrawPlan
  | _ => ⟨[], .done⟩
def bytes_Equal.b (x0 : Value) (x1 : Value) (R : KV) (X : KX) (w : World) : Prop :=
  pStrOf (· = w) x0 fun t6 =>
  pStrOf (· = w) x1 fun t8 =>
  pBinS .eql t6 t8 fun t9 =>
  R t9 w
theorem bytes_Equal.b_eq (x0 : Value) (x1 : Value) (R : KV) (X : KX) (w : World) : atP Tryz.prog Tryz.f66 bytes_Equal.pl [] [] R X ([x0, x1] ++ undefs 8) w = bytes_Equal.b x0 x1 R X w := by kernel_rfl
theorem bytes_Equal.calls {x0 x1 : Value} {R : KV} {X : KX} {w : World} (h : bytes_Equal.b x0 x1 R X w) : GCalls Tryz.prog 66 [x0, x1] R X w :=
  gcalls_of (pl := bytes_Equal.pl) Tryz.func66 rfl (by kernel_rfl) hmixed (bytes_Equal.b_eq x0 x1 R X w ▸ h)

/-! slices.Concat[[]byte,byte] -/
def slices_Concat_byte_byte.pl : Nat → DrawPlan
  | _ => ⟨[], .done⟩
def slices_Concat_byte_byte.b2 (x6 : Value) (x25 : Value) (x26 : Value) (x27 : Value) (g : Nat → Value) (N1 : List Value → World → Prop) (R : KV) (X : KX) (w : World) : Prop :=
  pBinI .lss .i64 x27 x26 fun t28 =>
  scond t28
  (pIA 1 x25 x27 fun t29 =>
    pLd (· = w) t29 fun t30 =>
    pApp 5 1 1 [.int .u8 0] x6 t30 w fun t33 w =>
    pBinI .add .i64 x27 (.int .i64 1) fun t34 =>
    N1 [(g 0), (g 1), (g 2), (g 3), (g 4), (g 5), t33, (g 7), t30, (g 9), (g 10), (g 11), (g 12), (g 13), (g 14), (g 15), (g 16), (g 17), (g 18), (g 19), (g 20), (g 21), (g 22), (g 23), (g 24), x25, x26, t34, t28, t29, t30, x6, t30, t33, t34, (g 35)] w)
  (R x6 w)
def slices_Concat_byte_byte.I2 (e : List Value) (R : KV) (X : KX) (w : World) : Prop := atP Tryz.prog Tryz.f83 slices_Concat_byte_byte.pl [1, 1, 1, 1, 0, 1, 0] [] R X e w
theorem slices_Concat_byte_byte.I2_eq (e : List Value) (R : KV) (X : KX) (w : World) : slices_Concat_byte_byte.I2 e R X w = loopS (fun N e w => atP Tryz.prog Tryz.f83 slices_Concat_byte_byte.pl [1, 1, 1, 1, 0, 1, 0, 0] [N] R X e w) e w := by kernel_rfl
def slices_Concat_byte_byte.fr2 (x6 : Value) (x25 : Value) (x26 : Value) (x27 : Value) (g : Nat → Value) : List Value := [g 0, g 1, g 2, g 3, g 4, g 5, x6, g 7, g 8, g 9, g 10, g 11, g 12, g 13, g 14, g 15, g 16, g 17, g 18, g 19, g 20, g 21, g 22, g 23, g 24, x25, x26, x27, g 28, g 29, g 30, g 31, g 32, g 33, g 34, g 35]
theorem slices_Concat_byte_byte.b2_eq (x6 : Value) (x25 : Value) (x26 : Value) (x27 : Value) (g : Nat → Value) (N1 : List Value → World → Prop) (R : KV) (X : KX) (w : World) : atP Tryz.prog Tryz.f83 slices_Concat_byte_byte.pl [1, 1, 1, 1, 0, 1, 0, 0] [N1] R X (slices_Concat_byte_byte.fr2 x6 x25 x26 x27 g) w = slices_Concat_byte_byte.b2 x6 x25 x26 x27 g N1 R X w := by kernel_rfl
/-- What a round of this loop hands on. -/
def slices_Concat_byte_byte.N2 (J : Value → Value → World → Prop) (m : Value → Value → World → Nat) (x25 : Value) (x26 : Value) (x6 : Value) (x27 : Value) (w : World) : List Value → World → Prop := fun e w' => (∃ y6 y27 g, e = slices_Concat_byte_byte.fr2 y6 x25 x26 y27 g ∧ J y6 y27 w') ∧ m (nth e 6) (nth e 27) w' < m x6 x27 w
theorem slices_Concat_byte_byte.leaf2 {J : Value → Value → World → Prop} {m : Value → Value → World → Nat} {x6 : Value} {x25 : Value} {x26 : Value} {x27 : Value} {w w' : World} {e0 e1 e2 e3 e4 e5 e6 e7 e8 e9 e10 e11 e12 e13 e14 e15 e16 e17 e18 e19 e20 e21 e22 e23 e24 e27 e28 e29 e30 e31 e32 e33 e34 e35 : Value} (h : J e6 e27 w') (hm : m e6 e27 w' < m x6 x27 w) : slices_Concat_byte_byte.N2 J m x25 x26 x6 x27 w [e0, e1, e2, e3, e4, e5, e6, e7, e8, e9, e10, e11, e12, e13, e14, e15, e16, e17, e18, e19, e20, e21, e22, e23, e24, x25, x26, e27, e28, e29, e30, e31, e32, e33, e34, e35] w' :=
  ⟨⟨e6, e27, (fun i => nth [e0, e1, e2, e3, e4, e5, e6, e7, e8, e9, e10, e11, e12, e13, e14, e15, e16, e17, e18, e19, e20, e21, e22, e23, e24, x25, x26, e27, e28, e29, e30, e31, e32, e33, e34, e35] i), rfl, h⟩, hm⟩
theorem slices_Concat_byte_byte.loop2 (J : Value → Value → World → Prop) (m : Value → Value → World → Nat) {R : KV} {X : KX} {w : World} {x25 : Value} {x26 : Value} {e0 e1 e2 e3 e4 e5 e6 e7 e8 e9 e10 e11 e12 e13 e14 e15 e16 e17 e18 e19 e20 e21 e22 e23 e24 e27 e28 e29 e30 e31 e32 e33 e34 e35 : Value} (h0 : J e6 e27 w)
    (hr : ∀ x6 x27 g w, J x6 x27 w → slices_Concat_byte_byte.b2 x6 x25 x26 x27 g (slices_Concat_byte_byte.N2 J m x25 x26 x6 x27 w) R X w) : slices_Concat_byte_byte.I2 [e0, e1, e2, e3, e4, e5, e6, e7, e8, e9, e10, e11, e12, e13, e14, e15, e16, e17, e18, e19, e20, e21, e22, e23, e24, x25, x26, e27, e28, e29, e30, e31, e32, e33, e34, e35] R X w := by
  rw [slices_Concat_byte_byte.I2_eq]
  refine ⟨fun e w => ∃ y6 y27 g, e = slices_Concat_byte_byte.fr2 y6 x25 x26 y27 g ∧ J y6 y27 w, fun e w => m (nth e 6) (nth e 27) w, ⟨e6, e27, (fun i => nth [e0, e1, e2, e3, e4, e5, e6, e7, e8, e9, e10, e11, e12, e13, e14, e15, e16, e17, e18, e19, e20, e21, e22, e23, e24, x25, x26, e27, e28, e29, e30, e31, e32, e33, e34, e35] i), rfl, h0⟩, ?_⟩
  rintro _ w ⟨y6, y27, g, rfl, hJ⟩
  rw [slices_Concat_byte_byte.b2_eq]
  exact hr y6 y27 g w hJ
def slices_Concat_byte_byte.b1 (x0 : Value) (x3 : Value) (x9 : Value) (x10 : Value) (x11 : Value) (g : Nat → Value) (N1 : List Value → World → Prop) (R : KV) (X : KX) (w : World) : Prop :=
  pBinI .lss .i64 x11 x10 fun t12 =>
  scond t12
  (pIA 1 x9 x11 fun t13 =>
    pLd (· = w) t13 fun t14 =>
    pLenSl t14 fun t17 =>
    pBinI .add .i64 x3 t17 fun t18 =>
    pBinI .lss .i64 t18 (.int .i64 0) fun t20 =>
    scond t20
    (pPanic (.iface 9 (.string ⟨#[108, 101, 110, 32, 111, 117, 116, 32, 111, 102, 32, 114, 97, 110, 103, 101]⟩)) X w)
    (pBinI .add .i64 x11 (.int .i64 1) fun t22 =>
      N1 [x0, (g 1), (g 2), t18, (g 4), t14, (g 6), (g 7), (g 8), x9, x10, t22, t12, t13, t14, x3, t14, t17, t18, t18, t20, (g 21), t22, (g 23), (g 24), (g 25), (g 26), (g 27), (g 28), (g 29), (g 30), (g 31), (g 32), (g 33), (g 34), (g 35)] w))
  (pCall Tryz.prog 94 [(.slice none 0 0), x3] X w fun t24 w =>
    pLenSl x0 fun t26 =>
    slices_Concat_byte_byte.I2 [x0, (g 1), (g 2), x3, (g 4), (g 5), t24, (g 7), (g 8), x9, x10, x11, t12, (g 13), (g 14), (g 15), (g 16), (g 17), (g 18), (g 19), (g 20), (g 21), (g 22), x3, t24, x0, t26, (.int .i64 0), (g 28), (g 29), (g 30), (g 31), (g 32), (g 33), (g 34), (g 35)] R X w)
def slices_Concat_byte_byte.I1 (e : List Value) (R : KV) (X : KX) (w : World) : Prop := atP Tryz.prog Tryz.f83 slices_Concat_byte_byte.pl [1, 1, 0, 1, 0] [] R X e w
theorem slices_Concat_byte_byte.I1_eq (e : List Value) (R : KV) (X : KX) (w : World) : slices_Concat_byte_byte.I1 e R X w = loopS (fun N e w => atP Tryz.prog Tryz.f83 slices_Concat_byte_byte.pl [1, 1, 0, 1, 0, 0] [N] R X e w) e w := by kernel_rfl
def slices_Concat_byte_byte.fr1 (x0 : Value) (x3 : Value) (x9 : Value) (x10 : Value) (x11 : Value) (g : Nat → Value) : List Value := [x0, g 1, g 2, x3, g 4, g 5, g 6, g 7, g 8, x9, x10, x11, g 12, g 13, g 14, g 15, g 16, g 17, g 18, g 19, g 20, g 21, g 22, g 23, g 24, g 25, g 26, g 27, g 28, g 29, g 30, g 31, g 32, g 33, g 34, g 35]
theorem slices_Concat_byte_byte.b1_eq (x0 : Value) (x3 : Value) (x9 : Value) (x10 : Value) (x11 : Value) (g : Nat → Value) (N1 : List Value → World → Prop) (R : KV) (X : KX) (w : World) : atP Tryz.prog Tryz.f83 slices_Concat_byte_byte.pl [1, 1, 0, 1, 0, 0] [N1] R X (slices_Concat_byte_byte.fr1 x0 x3 x9 x10 x11 g) w = slices_Concat_byte_byte.b1 x0 x3 x9 x10 x11 g N1 R X w := by kernel_rfl
/-- What a round of this loop hands on. -/
def slices_Concat_byte_byte.N1 (J : Value → Value → World → Prop) (m : Value → Value → World → Nat) (x0 : Value) (x9 : Value) (x10 : Value) (x3 : Value) (x11 : Value) (w : World) : List Value → World → Prop := fun e w' => (∃ y3 y11 g, e = slices_Concat_byte_byte.fr1 x0 y3 x9 x10 y11 g ∧ J y3 y11 w') ∧ m (nth e 3) (nth e 11) w' < m x3 x11 w
theorem slices_Concat_byte_byte.leaf1 {J : Value → Value → World → Prop} {m : Value → Value → World → Nat} {x0 : Value} {x3 : Value} {x9 : Value} {x10 : Value} {x11 : Value} {w w' : World} {e1 e2 e3 e4 e5 e6 e7 e8 e11 e12 e13 e14 e15 e16 e17 e18 e19 e20 e21 e22 e23 e24 e25 e26 e27 e28 e29 e30 e31 e32 e33 e34 e35 : Value} (h : J e3 e11 w') (hm : m e3 e11 w' < m x3 x11 w) : slices_Concat_byte_byte.N1 J m x0 x9 x10 x3 x11 w [x0, e1, e2, e3, e4, e5, e6, e7, e8, x9, x10, e11, e12, e13, e14, e15, e16, e17, e18, e19, e20, e21, e22, e23, e24, e25, e26, e27, e28, e29, e30, e31, e32, e33, e34, e35] w' :=
  ⟨⟨e3, e11, (fun i => nth [x0, e1, e2, e3, e4, e5, e6, e7, e8, x9, x10, e11, e12, e13, e14, e15, e16, e17, e18, e19, e20, e21, e22, e23, e24, e25, e26, e27, e28, e29, e30, e31, e32, e33, e34, e35] i), rfl, h⟩, hm⟩
theorem slices_Concat_byte_byte.loop1 (J : Value → Value → World → Prop) (m : Value → Value → World → Nat) {R : KV} {X : KX} {w : World} {x0 : Value} {x9 : Value} {x10 : Value} {e1 e2 e3 e4 e5 e6 e7 e8 e11 e12 e13 e14 e15 e16 e17 e18 e19 e20 e21 e22 e23 e24 e25 e26 e27 e28 e29 e30 e31 e32 e33 e34 e35 : Value} (h0 : J e3 e11 w)
    (hr : ∀ x3 x11 g w, J x3 x11 w → slices_Concat_byte_byte.b1 x0 x3 x9 x10 x11 g (slices_Concat_byte_byte.N1 J m x0 x9 x10 x3 x11 w) R X w) : slices_Concat_byte_byte.I1 [x0, e1, e2, e3, e4, e5, e6, e7, e8, x9, x10, e11, e12, e13, e14, e15, e16, e17, e18, e19, e20, e21, e22, e23, e24, e25, e26, e27, e28, e29, e30, e31, e32, e33, e34, e35] R X w := by
  rw [slices_Concat_byte_byte.I1_eq]
  refine ⟨fun e w => ∃ y3 y11 g, e = slices_Concat_byte_byte.fr1 x0 y3 x9 x10 y11 g ∧ J y3 y11 w, fun e w => m (nth e 3) (nth e 11) w, ⟨e3, e11, (fun i => nth [x0, e1, e2, e3, e4, e5, e6, e7, e8, x9, x10, e11, e12, e13, e14, e15, e16, e17, e18, e19, e20, e21, e22, e23, e24, e25, e26, e27, e28, e29, e30, e31, e32, e33, e34, e35] i), rfl, h0⟩, ?_⟩
  rintro _ w ⟨y3, y11, g, rfl, hJ⟩
  rw [slices_Concat_byte_byte.b1_eq]
  exact hr y3 y11 g w hJ
def slices_Concat_byte_byte.b (x0 : Value) (R : KV) (X : KX) (w : World) : Prop :=
  pLenSl x0 fun t10 =>
  slices_Concat_byte_byte.I1 [x0, undef, (.slice none 0 0), (.int .i64 0), undef, undef, undef, undef, undef, x0, t10, (.int .i64 0), undef, undef, undef, undef, undef, undef, undef, undef, undef, undef, undef, undef, undef, undef, undef, undef, undef, undef, undef, undef, undef, undef, undef, undef] R X w
theorem slices_Concat_byte_byte.b_eq (x0 : Value) (R : KV) (X : KX) (w : World) : atP Tryz.prog Tryz.f83 slices_Concat_byte_byte.pl [] [] R X ([x0] ++ undefs 35) w = slices_Concat_byte_byte.b x0 R X w := by kernel_rfl
theorem slices_Concat_byte_byte.calls {x0 : Value} {R : KV} {X : KX} {w : World} (h : slices_Concat_byte_byte.b x0 R X w) : GCalls Tryz.prog 83 [x0] R X w :=
  gcalls_of (pl := slices_Concat_byte_byte.pl) Tryz.func83 rfl (by kernel_rfl) hmixed (slices_Concat_byte_byte.b_eq x0 R X w ▸ h)

/-! oubliette/oublietteref01.Put -/
def oublietteref01_Put.pl : Nat → DrawPlan
  | _ => ⟨[], .done⟩
def oublietteref01_Put.b1 (x0 : Value) (x5 : Value) (x6 : Value) (g : Nat → Value) (N1 : List Value → World → Prop) (R : KV) (X : KX) (w : World) : Prop :=
  pBinI .geq .i64 x6 (.int .i64 0) fun t18 =>
  scond t18
  (pDiv .rem .u64 x0 (.int .u64 256) fun t24 =>
    pConv .u8 t24 fun t25 =>
    pIA 1 x5 x6 fun t26 =>
    pSt t26 t25 w fun _ w =>
    pDiv .quo .u64 x0 (.int .u64 256) fun t28 =>
    pBinI .sub .i64 x6 (.int .i64 1) fun t20 =>
    N1 [t28, (g 1), (g 2), (g 3), (g 4), x5, t20, (g 7), (g 8), (g 9), (g 10), (g 11), (g 12), (g 13), (g 14), (g 15), (g 16), x6, t18, x6, t20, x5, x6, x0, t24, t25, t26, x0, t28, (g 29)] w)
  (R x5 w)
def oublietteref01_Put.I1 (e : List Value) (R : KV) (X : KX) (w : World) : Prop := atP Tryz.prog Tryz.f87 oublietteref01_Put.pl [1, 1, 1, 0, 1, 0] [] R X e w
theorem oublietteref01_Put.I1_eq (e : List Value) (R : KV) (X : KX) (w : World) : oublietteref01_Put.I1 e R X w = loopS (fun N e w => atP Tryz.prog Tryz.f87 oublietteref01_Put.pl [1, 1, 1, 0, 1, 0, 0] [N] R X e w) e w := by kernel_rfl
def oublietteref01_Put.fr1 (x0 : Value) (x5 : Value) (x6 : Value) (g : Nat → Value) : List Value := [x0, g 1, g 2, g 3, g 4, x5, x6, g 7, g 8, g 9, g 10, g 11, g 12, g 13, g 14, g 15, g 16, g 17, g 18, g 19, g 20, g 21, g 22, g 23, g 24, g 25, g 26, g 27, g 28, g 29]
theorem oublietteref01_Put.b1_eq (x0 : Value) (x5 : Value) (x6 : Value) (g : Nat → Value) (N1 : List Value → World → Prop) (R : KV) (X : KX) (w : World) : atP Tryz.prog Tryz.f87 oublietteref01_Put.pl [1, 1, 1, 0, 1, 0, 0] [N1] R X (oublietteref01_Put.fr1 x0 x5 x6 g) w = oublietteref01_Put.b1 x0 x5 x6 g N1 R X w := by kernel_rfl
/-- What a round of this loop hands on. -/
def oublietteref01_Put.N1 (J : Value → Value → World → Prop) (m : Value → Value → World → Nat) (x5 : Value) (x0 : Value) (x6 : Value) (w : World) : List Value → World → Prop := fun e w' => (∃ y0 y6 g, e = oublietteref01_Put.fr1 y0 x5 y6 g ∧ J y0 y6 w') ∧ m (nth e 0) (nth e 6) w' < m x0 x6 w
theorem oublietteref01_Put.leaf1 {J : Value → Value → World → Prop} {m : Value → Value → World → Nat} {x0 : Value} {x5 : Value} {x6 : Value} {w w' : World} {e0 e1 e2 e3 e4 e6 e7 e8 e9 e10 e11 e12 e13 e14 e15 e16 e17 e18 e19 e20 e21 e22 e23 e24 e25 e26 e27 e28 e29 : Value} (h : J e0 e6 w') (hm : m e0 e6 w' < m x0 x6 w) : oublietteref01_Put.N1 J m x5 x0 x6 w [e0, e1, e2, e3, e4, x5, e6, e7, e8, e9, e10, e11, e12, e13, e14, e15, e16, e17, e18, e19, e20, e21, e22, e23, e24, e25, e26, e27, e28, e29] w' :=
  ⟨⟨e0, e6, (fun i => nth [e0, e1, e2, e3, e4, x5, e6, e7, e8, e9, e10, e11, e12, e13, e14, e15, e16, e17, e18, e19, e20, e21, e22, e23, e24, e25, e26, e27, e28, e29] i), rfl, h⟩, hm⟩
theorem oublietteref01_Put.loop1 (J : Value → Value → World → Prop) (m : Value → Value → World → Nat) {R : KV} {X : KX} {w : World} {x5 : Value} {e0 e1 e2 e3 e4 e6 e7 e8 e9 e10 e11 e12 e13 e14 e15 e16 e17 e18 e19 e20 e21 e22 e23 e24 e25 e26 e27 e28 e29 : Value} (h0 : J e0 e6 w)
    (hr : ∀ x0 x6 g w, J x0 x6 w → oublietteref01_Put.b1 x0 x5 x6 g (oublietteref01_Put.N1 J m x5 x0 x6 w) R X w) : oublietteref01_Put.I1 [e0, e1, e2, e3, e4, x5, e6, e7, e8, e9, e10, e11, e12, e13, e14, e15, e16, e17, e18, e19, e20, e21, e22, e23, e24, e25, e26, e27, e28, e29] R X w := by
  rw [oublietteref01_Put.I1_eq]
  refine ⟨fun e w => ∃ y0 y6 g, e = oublietteref01_Put.fr1 y0 x5 y6 g ∧ J y0 y6 w, fun e w => m (nth e 0) (nth e 6) w, ⟨e0, e6, (fun i => nth [e0, e1, e2, e3, e4, x5, e6, e7, e8, e9, e10, e11, e12, e13, e14, e15, e16, e17, e18, e19, e20, e21, e22, e23, e24, e25, e26, e27, e28, e29] i), rfl, h0⟩, ?_⟩
  rintro _ w ⟨y0, y6, g, rfl, hJ⟩
  rw [oublietteref01_Put.b1_eq]
  exact hr y0 y6 g w hJ
def oublietteref01_Put.b (x0 : Value) (x1 : Value) (R : KV) (X : KX) (w : World) : Prop :=
  pBinI .lss .i64 x1 (.int .i64 1) fun t8 =>
  gIf t8 false (fun K => K x1) fun t10 =>
  gIf t8 false (fun K => pBinI .gtr .i64 t10 (.int .i64 8) K) fun t11 =>
  pPick t8 (.bool true) t11 fun t12 =>
  scond t12
  (R (.slice none 0 0) w)
  (pMake 5 1 [.int .u8 0] x1 x1 w fun t14 w =>
    pBinI .sub .i64 x1 (.int .i64 1) fun t16 =>
    oublietteref01_Put.I1 [x0, x1, undef, undef, (.slice none 0 0), t14, t16, x1, t8, t8, t10, t11, t12, x1, t14, x1, t16, undef, undef, undef, undef, undef, undef, undef, undef, undef, undef, undef, undef, undef] R X w)
theorem oublietteref01_Put.b_eq (x0 : Value) (x1 : Value) (R : KV) (X : KX) (w : World) : atP Tryz.prog Tryz.f87 oublietteref01_Put.pl [] [] R X ([x0, x1] ++ undefs 28) w = oublietteref01_Put.b x0 x1 R X w := by kernel_rfl
theorem oublietteref01_Put.calls {x0 x1 : Value} {R : KV} {X : KX} {w : World} (h : oublietteref01_Put.b x0 x1 R X w) : GCalls Tryz.prog 87 [x0, x1] R X w :=
  gcalls_of (pl := oublietteref01_Put.pl) Tryz.func87 rfl (by kernel_rfl) hmixed (oublietteref01_Put.b_eq x0 x1 R X w ▸ h)

/-! slices.Grow[[]byte,byte] -/
def slices_Grow_byte_byte.pl : Nat → DrawPlan
  | _ => ⟨[], .done⟩
def slices_Grow_byte_byte.b (x0 : Value) (x1 : Value) (R : KV) (X : KX) (w : World) : Prop :=
  pBinI .lss .i64 x1 (.int .i64 0) fun t6 =>
  scond t6
  (pPanic (.iface 9 (.string ⟨#[99, 97, 110, 110, 111, 116, 32, 98, 101, 32, 110, 101, 103, 97, 116, 105, 118, 101]⟩)) X w)
  (pCapSl x0 fun t10 =>
    pLenSl x0 fun t12 =>
    pBinI .sub .i64 t10 t12 fun t13 =>
    pBinI .sub .i64 x1 t13 fun t14 =>
    pBinI .gtr .i64 t14 (.int .i64 0) fun t16 =>
    scond t16
    (pCapSl x0 fun t19 =>
      pSl 1 x0 none (some t19) none fun t20 =>
      pAppZ 5 1 1 [.int .u8 0] t20 t14 w fun t22 w =>
      pLenSl x0 fun t24 =>
      pSl 1 t22 none (some t24) none fun t25 =>
      R t25 w)
    (R x0 w))
theorem slices_Grow_byte_byte.b_eq (x0 : Value) (x1 : Value) (R : KV) (X : KX) (w : World) : atP Tryz.prog Tryz.f94 slices_Grow_byte_byte.pl [] [] R X ([x0, x1] ++ undefs 25) w = slices_Grow_byte_byte.b x0 x1 R X w := by kernel_rfl
theorem slices_Grow_byte_byte.calls {x0 x1 : Value} {R : KV} {X : KX} {w : World} (h : slices_Grow_byte_byte.b x0 x1 R X w) : GCalls Tryz.prog 94 [x0, x1] R X w :=
  gcalls_of (pl := slices_Grow_byte_byte.pl) Tryz.func94 rfl (by kernel_rfl) hmixed (slices_Grow_byte_byte.b_eq x0 x1 R X w ▸ h)

/-! oubliette/oublietteref01.Pad -/
def oublietteref01_Pad.pl : Nat → DrawPlan
  | _ => ⟨[], .done⟩
def oublietteref01_Pad.b1 (x0 : Value) (x1 : Value) (x5 : Value) (x6 : Value) (g : Nat → Value) (N1 : List Value → World → Prop) (R : KV) (X : KX) (w : World) : Prop :=
  pBinI .lss .i64 x6 x1 fun t17 =>
  gIf t17 true (fun K => K x6) fun t19 =>
  gIf t17 true (fun K => K x0) fun t20 =>
  gIf t17 true (fun K => pLenSl t20 K) fun t21 =>
  gIf t17 true (fun K => pBinI .lss .i64 t19 t21 K) fun t22 =>
  pPick t17 t22 (.bool false) fun t23 =>
  scond t23
  (pIA 1 x0 x6 fun t30 =>
    pLd (· = w) t30 fun t31 =>
    pIA 1 x5 x6 fun t32 =>
    pSt t32 t31 w fun _ w =>
    pBinI .add .i64 x6 (.int .i64 1) fun t25 =>
    N1 [x0, x1, (g 2), (g 3), (g 4), x5, t25, (g 7), (g 8), (g 9), (g 10), (g 11), (g 12), (g 13), (g 14), x6, x1, t17, t17, t19, t20, t21, t22, t23, x6, t25, x5, x6, x0, x6, t30, t31, t32, (g 33)] w)
  (R x5 w)
def oublietteref01_Pad.I1 (e : List Value) (R : KV) (X : KX) (w : World) : Prop := atP Tryz.prog Tryz.f97 oublietteref01_Pad.pl [1, 1, 1, 0, 1, 0] [] R X e w
theorem oublietteref01_Pad.I1_eq (e : List Value) (R : KV) (X : KX) (w : World) : oublietteref01_Pad.I1 e R X w = loopS (fun N e w => atP Tryz.prog Tryz.f97 oublietteref01_Pad.pl [1, 1, 1, 0, 1, 0, 0] [N] R X e w) e w := by kernel_rfl
def oublietteref01_Pad.fr1 (x0 : Value) (x1 : Value) (x5 : Value) (x6 : Value) (g : Nat → Value) : List Value := [x0, x1, g 2, g 3, g 4, x5, x6, g 7, g 8, g 9, g 10, g 11, g 12, g 13, g 14, g 15, g 16, g 17, g 18, g 19, g 20, g 21, g 22, g 23, g 24, g 25, g 26, g 27, g 28, g 29, g 30, g 31, g 32, g 33]
theorem oublietteref01_Pad.b1_eq (x0 : Value) (x1 : Value) (x5 : Value) (x6 : Value) (g : Nat → Value) (N1 : List Value → World → Prop) (R : KV) (X : KX) (w : World) : atP Tryz.prog Tryz.f97 oublietteref01_Pad.pl [1, 1, 1, 0, 1, 0, 0] [N1] R X (oublietteref01_Pad.fr1 x0 x1 x5 x6 g) w = oublietteref01_Pad.b1 x0 x1 x5 x6 g N1 R X w := by kernel_rfl
/-- What a round of this loop hands on. -/
def oublietteref01_Pad.N1 (J : Value → World → Prop) (m : Value → World → Nat) (x0 : Value) (x1 : Value) (x5 : Value) (x6 : Value) (w : World) : List Value → World → Prop := fun e w' => (∃ y6 g, e = oublietteref01_Pad.fr1 x0 x1 x5 y6 g ∧ J y6 w') ∧ m (nth e 6) w' < m x6 w
theorem oublietteref01_Pad.leaf1 {J : Value → World → Prop} {m : Value → World → Nat} {x0 : Value} {x1 : Value} {x5 : Value} {x6 : Value} {w w' : World} {e2 e3 e4 e6 e7 e8 e9 e10 e11 e12 e13 e14 e15 e16 e17 e18 e19 e20 e21 e22 e23 e24 e25 e26 e27 e28 e29 e30 e31 e32 e33 : Value} (h : J e6 w') (hm : m e6 w' < m x6 w) : oublietteref01_Pad.N1 J m x0 x1 x5 x6 w [x0, x1, e2, e3, e4, x5, e6, e7, e8, e9, e10, e11, e12, e13, e14, e15, e16, e17, e18, e19, e20, e21, e22, e23, e24, e25, e26, e27, e28, e29, e30, e31, e32, e33] w' :=
  ⟨⟨e6, (fun i => nth [x0, x1, e2, e3, e4, x5, e6, e7, e8, e9, e10, e11, e12, e13, e14, e15, e16, e17, e18, e19, e20, e21, e22, e23, e24, e25, e26, e27, e28, e29, e30, e31, e32, e33] i), rfl, h⟩, hm⟩
theorem oublietteref01_Pad.loop1 (J : Value → World → Prop) (m : Value → World → Nat) {R : KV} {X : KX} {w : World} {x0 : Value} {x1 : Value} {x5 : Value} {e2 e3 e4 e6 e7 e8 e9 e10 e11 e12 e13 e14 e15 e16 e17 e18 e19 e20 e21 e22 e23 e24 e25 e26 e27 e28 e29 e30 e31 e32 e33 : Value} (h0 : J e6 w)
    (hr : ∀ x6 g w, J x6 w → oublietteref01_Pad.b1 x0 x1 x5 x6 g (oublietteref01_Pad.N1 J m x0 x1 x5 x6 w) R X w) : oublietteref01_Pad.I1 [x0, x1, e2, e3, e4, x5, e6, e7, e8, e9, e10, e11, e12, e13, e14, e15, e16, e17, e18, e19, e20, e21, e22, e23, e24, e25, e26, e27, e28, e29, e30, e31, e32, e33] R X w := by
  rw [oublietteref01_Pad.I1_eq]
  refine ⟨fun e w => ∃ y6 g, e = oublietteref01_Pad.fr1 x0 x1 x5 y6 g ∧ J y6 w, fun e w => m (nth e 6) w, ⟨e6, (fun i => nth [x0, x1, e2, e3, e4, x5, e6, e7, e8, e9, e10, e11, e12, e13, e14, e15, e16, e17, e18, e19, e20, e21, e22, e23, e24, e25, e26, e27, e28, e29, e30, e31, e32, e33] i), rfl, h0⟩, ?_⟩
  rintro _ w ⟨y6, g, rfl, hJ⟩
  rw [oublietteref01_Pad.b1_eq]
  exact hr y6 g w hJ
def oublietteref01_Pad.b (x0 : Value) (x1 : Value) (R : KV) (X : KX) (w : World) : Prop :=
  pBinI .lss .i64 x1 (.int .i64 1) fun t8 =>
  gIf t8 false (fun K => K x1) fun t10 =>
  gIf t8 false (fun K => pBinI .gtr .i64 t10 (.int .i64 65536) K) fun t11 =>
  pPick t8 (.bool true) t11 fun t12 =>
  scond t12
  (R (.slice none 0 0) w)
  (pMake 5 1 [.int .u8 0] x1 x1 w fun t14 w =>
    oublietteref01_Pad.I1 [x0, x1, undef, undef, (.slice none 0 0), t14, (.int .i64 0), x1, t8, t8, t10, t11, t12, x1, t14, undef, undef, undef, undef, undef, undef, undef, undef, undef, undef, undef, undef, undef, undef, undef, undef, undef, undef, undef] R X w)
theorem oublietteref01_Pad.b_eq (x0 : Value) (x1 : Value) (R : KV) (X : KX) (w : World) : atP Tryz.prog Tryz.f97 oublietteref01_Pad.pl [] [] R X ([x0, x1] ++ undefs 32) w = oublietteref01_Pad.b x0 x1 R X w := by kernel_rfl
theorem oublietteref01_Pad.calls {x0 x1 : Value} {R : KV} {X : KX} {w : World} (h : oublietteref01_Pad.b x0 x1 R X w) : GCalls Tryz.prog 97 [x0, x1] R X w :=
  gcalls_of (pl := oublietteref01_Pad.pl) Tryz.func97 rfl (by kernel_rfl) hmixed (oublietteref01_Pad.b_eq x0 x1 R X w ▸ h)

/-! oubliette/num.Xor -/
def num_Xor.pl : Nat → DrawPlan
  | 5 => ⟨[([], [11]), ([], [11]), ([], [4]), ([], [4]), ([2, 3], [2, 3, 5]), ([4], [4, 10]), ([], [8]), ([], [8]), ([6, 7], [6, 7, 9]), ([8], [8, 10]), ([5, 9], [5, 9, 12]), ([0, 1, 0, 1, 2, 3, 4, 5, 6, 7, 8, 9, 10], [0, 1, 12]), ([11, 10, 0, 1, 2, 3, 4, 5, 6, 7, 8, 9, 10], [10, 11])], .take 0 (.take 1 (.take 2 (.take 3 (.take 4 (.take 5 (.take 6 (.take 7 (.take 8 (.take 9 (.take 10 (.take 11 (.world 12 true (.done) .none))))))))))))⟩
  | _ => ⟨[], .done⟩
def num_Xor.b1 (x0 : Value) (x1 : Value) (x5 : Value) (x14 : Value) (x15 : Value) (g : Nat → Value) (N1 : List Value → World → Prop) (R : KV) (X : KX) (w : World) : Prop :=
  pBinI .lss .i64 x15 x14 fun t16 =>
  scond t16
  (drawn w fun S w =>
    pIA 1 x0 x15 fun t22 =>
    pLd S t22 fun t23 =>
    pIA 1 x1 x15 fun t26 =>
    pLd S t26 fun t27 =>
    pBinI .xor .u8 t23 t27 fun t28 =>
    pIA 1 x5 x15 fun t29 =>
    pSt t29 t28 w fun _ w =>
    anew w fun S w =>
    pBinI .add .i64 x15 (.int .i64 1) fun t30 =>
    N1 [x0, x1, (g 2), (g 3), (g 4), x5, x15, (g 7), (g 8), (g 9), (g 10), (g 11), (g 12), (g 13), x14, t30, t16, x15, x5, x15, x0, x15, t22, t23, x1, x15, t26, t27, t28, t29, t30, (g 31)] w)
  (R x5 w)
def num_Xor.I1 (e : List Value) (R : KV) (X : KX) (w : World) : Prop := atP Tryz.prog Tryz.f104 num_Xor.pl [1, 1, 0, 1, 0] [] R X e w
theorem num_Xor.I1_eq (e : List Value) (R : KV) (X : KX) (w : World) : num_Xor.I1 e R X w = loopS (fun N e w => atP Tryz.prog Tryz.f104 num_Xor.pl [1, 1, 0, 1, 0, 0] [N] R X e w) e w := by kernel_rfl
def num_Xor.fr1 (x0 : Value) (x1 : Value) (x5 : Value) (x14 : Value) (x15 : Value) (g : Nat → Value) : List Value := [x0, x1, g 2, g 3, g 4, x5, g 6, g 7, g 8, g 9, g 10, g 11, g 12, g 13, x14, x15, g 16, g 17, g 18, g 19, g 20, g 21, g 22, g 23, g 24, g 25, g 26, g 27, g 28, g 29, g 30, g 31]
theorem num_Xor.b1_eq (x0 : Value) (x1 : Value) (x5 : Value) (x14 : Value) (x15 : Value) (g : Nat → Value) (N1 : List Value → World → Prop) (R : KV) (X : KX) (w : World) : atP Tryz.prog Tryz.f104 num_Xor.pl [1, 1, 0, 1, 0, 0] [N1] R X (num_Xor.fr1 x0 x1 x5 x14 x15 g) w = num_Xor.b1 x0 x1 x5 x14 x15 g N1 R X w := by kernel_rfl
/-- What a round of this loop hands on. -/
def num_Xor.N1 (J : Value → World → Prop) (m : Value → World → Nat) (x0 : Value) (x1 : Value) (x5 : Value) (x14 : Value) (x15 : Value) (w : World) : List Value → World → Prop := fun e w' => (∃ y15 g, e = num_Xor.fr1 x0 x1 x5 x14 y15 g ∧ J y15 w') ∧ m (nth e 15) w' < m x15 w
theorem num_Xor.leaf1 {J : Value → World → Prop} {m : Value → World → Nat} {x0 : Value} {x1 : Value} {x5 : Value} {x14 : Value} {x15 : Value} {w w' : World} {e2 e3 e4 e6 e7 e8 e9 e10 e11 e12 e13 e15 e16 e17 e18 e19 e20 e21 e22 e23 e24 e25 e26 e27 e28 e29 e30 e31 : Value} (h : J e15 w') (hm : m e15 w' < m x15 w) : num_Xor.N1 J m x0 x1 x5 x14 x15 w [x0, x1, e2, e3, e4, x5, e6, e7, e8, e9, e10, e11, e12, e13, x14, e15, e16, e17, e18, e19, e20, e21, e22, e23, e24, e25, e26, e27, e28, e29, e30, e31] w' :=
  ⟨⟨e15, (fun i => nth [x0, x1, e2, e3, e4, x5, e6, e7, e8, e9, e10, e11, e12, e13, x14, e15, e16, e17, e18, e19, e20, e21, e22, e23, e24, e25, e26, e27, e28, e29, e30, e31] i), rfl, h⟩, hm⟩
theorem num_Xor.loop1 (J : Value → World → Prop) (m : Value → World → Nat) {R : KV} {X : KX} {w : World} {x0 : Value} {x1 : Value} {x5 : Value} {x14 : Value} {e2 e3 e4 e6 e7 e8 e9 e10 e11 e12 e13 e15 e16 e17 e18 e19 e20 e21 e22 e23 e24 e25 e26 e27 e28 e29 e30 e31 : Value} (h0 : J e15 w)
    (hr : ∀ x15 g w, J x15 w → num_Xor.b1 x0 x1 x5 x14 x15 g (num_Xor.N1 J m x0 x1 x5 x14 x15 w) R X w) : num_Xor.I1 [x0, x1, e2, e3, e4, x5, e6, e7, e8, e9, e10, e11, e12, e13, x14, e15, e16, e17, e18, e19, e20, e21, e22, e23, e24, e25, e26, e27, e28, e29, e30, e31] R X w := by
  rw [num_Xor.I1_eq]
  refine ⟨fun e w => ∃ y15 g, e = num_Xor.fr1 x0 x1 x5 x14 y15 g ∧ J y15 w, fun e w => m (nth e 15) w, ⟨e15, (fun i => nth [x0, x1, e2, e3, e4, x5, e6, e7, e8, e9, e10, e11, e12, e13, x14, e15, e16, e17, e18, e19, e20, e21, e22, e23, e24, e25, e26, e27, e28, e29, e30, e31] i), rfl, h0⟩, ?_⟩
  rintro _ w ⟨y15, g, rfl, hJ⟩
  rw [num_Xor.b1_eq]
  exact hr y15 g w hJ
def num_Xor.b (x0 : Value) (x1 : Value) (R : KV) (X : KX) (w : World) : Prop :=
  pLenSl x0 fun t8 =>
  pLenSl x1 fun t10 =>
  pMin t8 t10 fun t11 =>
  pMake 5 1 [.int .u8 0] t11 t11 w fun t12 w =>
  pLenSl t12 fun t14 =>
  num_Xor.I1 [x0, x1, undef, undef, (.slice none 0 0), t12, undef, x0, t8, x1, t10, t11, t12, t12, t14, (.int .i64 0), undef, undef, undef, undef, undef, undef, undef, undef, undef, undef, undef, undef, undef, undef, undef, undef] R X w
theorem num_Xor.b_eq (x0 : Value) (x1 : Value) (R : KV) (X : KX) (w : World) : atP Tryz.prog Tryz.f104 num_Xor.pl [] [] R X ([x0, x1] ++ undefs 30) w = num_Xor.b x0 x1 R X w := by kernel_rfl
theorem num_Xor.calls {x0 x1 : Value} {R : KV} {X : KX} {w : World} (h : num_Xor.b x0 x1 R X w) : GCalls Tryz.prog 104 [x0, x1] R X w :=
  gcalls_of (pl := num_Xor.pl) Tryz.func104 rfl (by kernel_rfl) hmixed (num_Xor.b_eq x0 x1 R X w ▸ h)

/-! bytes.Repeat -/
def bytes_Repeat.pl : Nat → DrawPlan
  | 20 => ⟨[([], [8, 9]), ([], [3]), ([], [3, 9]), ([1, 2], [1, 2, 7]), ([], [6]), ([], [6]), ([4, 5], [4, 5, 7]), ([3, 6], [3, 6, 8]), ([0, 7], [0, 7, 9]), ([8, 7, 0, 1, 2, 3, 4, 5, 6, 7, 8], [0, 2, 8])], .take 0 (.take 1 (.take 2 (.take 3 (.take 4 (.take 5 (.take 6 (.world 7 false (.take 8 (.take 9 (.done))) .none)))))))⟩
  | _ => ⟨[], .done⟩
def bytes_Repeat.b1 (x7 : Value) (x8 : Value) (x9 : Value) (x10 : Value) (g : Nat → Value) (N1 : List Value → World → Prop) (R : KV) (X : KX) (w : World) : Prop :=
  pBinI .lss .i64 x10 x7 fun t63 =>
  scond t63
  (pMin x10 x8 fun t66 =>
    drawn w fun S w =>
    pSl 1 x9 (some x10) none none fun t70 =>
    pSl 1 x9 none (some t66) none fun t73 =>
    pCopy 1 t70 t73 w fun t74 w =>
    S w ∧ (pBinI .add .i64 x10 t74 fun t75 =>
      N1 [(g 0), (g 1), (g 2), (g 3), (g 4), (g 5), (g 6), x7, x8, x9, t75, t66, (g 12), (g 13), (g 14), (g 15), (g 16), (g 17), (g 18), (g 19), (g 20), (g 21), (g 22), (g 23), (g 24), (g 25), (g 26), (g 27), (g 28), (g 29), (g 30), (g 31), (g 32), (g 33), (g 34), (g 35), (g 36), (g 37), (g 38), (g 39), (g 40), (g 41), (g 42), (g 43), (g 44), (g 45), (g 46), (g 47), (g 48), (g 49), (g 50), (g 51), (g 52), (g 53), (g 54), (g 55), (g 56), (g 57), (g 58), (g 59), (g 60), x10, x7, t63, x10, x8, t66, x10, x9, x10, t70, x9, t66, t73, t74, t75, (g 76)] w))
  (R x9 w)
def bytes_Repeat.I1 (e : List Value) (R : KV) (X : KX) (w : World) : Prop := atP Tryz.prog Tryz.f105 bytes_Repeat.pl [1, 1, 1, 1, 1, 1, 1, 1, 1, 1, 1, 0, 0] [] R X e w
theorem bytes_Repeat.I1_eq (e : List Value) (R : KV) (X : KX) (w : World) : bytes_Repeat.I1 e R X w = loopS (fun N e w => atP Tryz.prog Tryz.f105 bytes_Repeat.pl [1, 1, 1, 1, 1, 1, 1, 1, 1, 1, 1, 0, 0, 0] [N] R X e w) e w := by kernel_rfl
def bytes_Repeat.fr1 (x7 : Value) (x8 : Value) (x9 : Value) (x10 : Value) (g : Nat → Value) : List Value := [g 0, g 1, g 2, g 3, g 4, g 5, g 6, x7, x8, x9, x10, g 11, g 12, g 13, g 14, g 15, g 16, g 17, g 18, g 19, g 20, g 21, g 22, g 23, g 24, g 25, g 26, g 27, g 28, g 29, g 30, g 31, g 32, g 33, g 34, g 35, g 36, g 37, g 38, g 39, g 40, g 41, g 42, g 43, g 44, g 45, g 46, g 47, g 48, g 49, g 50, g 51, g 52, g 53, g 54, g 55, g 56, g 57, g 58, g 59, g 60, g 61, g 62, g 63, g 64, g 65, g 66, g 67, g 68, g 69, g 70, g 71, g 72, g 73, g 74, g 75, g 76]
theorem bytes_Repeat.b1_eq (x7 : Value) (x8 : Value) (x9 : Value) (x10 : Value) (g : Nat → Value) (N1 : List Value → World → Prop) (R : KV) (X : KX) (w : World) : atP Tryz.prog Tryz.f105 bytes_Repeat.pl [1, 1, 1, 1, 1, 1, 1, 1, 1, 1, 1, 0, 0, 0] [N1] R X (bytes_Repeat.fr1 x7 x8 x9 x10 g) w = bytes_Repeat.b1 x7 x8 x9 x10 g N1 R X w := by kernel_rfl
/-- What a round of this loop hands on. -/
def bytes_Repeat.N1 (J : Value → World → Prop) (m : Value → World → Nat) (x7 : Value) (x8 : Value) (x9 : Value) (x10 : Value) (w : World) : List Value → World → Prop := fun e w' => (∃ y10 g, e = bytes_Repeat.fr1 x7 x8 x9 y10 g ∧ J y10 w') ∧ m (nth e 10) w' < m x10 w
theorem bytes_Repeat.leaf1 {J : Value → World → Prop} {m : Value → World → Nat} {x7 : Value} {x8 : Value} {x9 : Value} {x10 : Value} {w w' : World} {e0 e1 e2 e3 e4 e5 e6 e10 e11 e12 e13 e14 e15 e16 e17 e18 e19 e20 e21 e22 e23 e24 e25 e26 e27 e28 e29 e30 e31 e32 e33 e34 e35 e36 e37 e38 e39 e40 e41 e42 e43 e44 e45 e46 e47 e48 e49 e50 e51 e52 e53 e54 e55 e56 e57 e58 e59 e60 e61 e62 e63 e64 e65 e66 e67 e68 e69 e70 e71 e72 e73 e74 e75 e76 : Value} (h : J e10 w') (hm : m e10 w' < m x10 w) : bytes_Repeat.N1 J m x7 x8 x9 x10 w [e0, e1, e2, e3, e4, e5, e6, x7, x8, x9, e10, e11, e12, e13, e14, e15, e16, e17, e18, e19, e20, e21, e22, e23, e24, e25, e26, e27, e28, e29, e30, e31, e32, e33, e34, e35, e36, e37, e38, e39, e40, e41, e42, e43, e44, e45, e46, e47, e48, e49, e50, e51, e52, e53, e54, e55, e56, e57, e58, e59, e60, e61, e62, e63, e64, e65, e66, e67, e68, e69, e70, e71, e72, e73, e74, e75, e76] w' :=
  ⟨⟨e10, (fun i => nth [e0, e1, e2, e3, e4, e5, e6, x7, x8, x9, e10, e11, e12, e13, e14, e15, e16, e17, e18, e19, e20, e21, e22, e23, e24, e25, e26, e27, e28, e29, e30, e31, e32, e33, e34, e35, e36, e37, e38, e39, e40, e41, e42, e43, e44, e45, e46, e47, e48, e49, e50, e51, e52, e53, e54, e55, e56, e57, e58, e59, e60, e61, e62, e63, e64, e65, e66, e67, e68, e69, e70, e71, e72, e73, e74, e75, e76] i), rfl, h⟩, hm⟩
theorem bytes_Repeat.loop1 (J : Value → World → Prop) (m : Value → World → Nat) {R : KV} {X : KX} {w : World} {x7 : Value} {x8 : Value} {x9 : Value} {e0 e1 e2 e3 e4 e5 e6 e10 e11 e12 e13 e14 e15 e16 e17 e18 e19 e20 e21 e22 e23 e24 e25 e26 e27 e28 e29 e30 e31 e32 e33 e34 e35 e36 e37 e38 e39 e40 e41 e42 e43 e44 e45 e46 e47 e48 e49 e50 e51 e52 e53 e54 e55 e56 e57 e58 e59 e60 e61 e62 e63 e64 e65 e66 e67 e68 e69 e70 e71 e72 e73 e74 e75 e76 : Value} (h0 : J e10 w)
    (hr : ∀ x10 g w, J x10 w → bytes_Repeat.b1 x7 x8 x9 x10 g (bytes_Repeat.N1 J m x7 x8 x9 x10 w) R X w) : bytes_Repeat.I1 [e0, e1, e2, e3, e4, e5, e6, x7, x8, x9, e10, e11, e12, e13, e14, e15, e16, e17, e18, e19, e20, e21, e22, e23, e24, e25, e26, e27, e28, e29, e30, e31, e32, e33, e34, e35, e36, e37, e38, e39, e40, e41, e42, e43, e44, e45, e46, e47, e48, e49, e50, e51, e52, e53, e54, e55, e56, e57, e58, e59, e60, e61, e62, e63, e64, e65, e66, e67, e68, e69, e70, e71, e72, e73, e74, e75, e76] R X w := by
  rw [bytes_Repeat.I1_eq]
  refine ⟨fun e w => ∃ y10 g, e = bytes_Repeat.fr1 x7 x8 x9 y10 g ∧ J y10 w, fun e w => m (nth e 10) w, ⟨e10, (fun i => nth [e0, e1, e2, e3, e4, e5, e6, x7, x8, x9, e10, e11, e12, e13, e14, e15, e16, e17, e18, e19, e20, e21, e22, e23, e24, e25, e26, e27, e28, e29, e30, e31, e32, e33, e34, e35, e36, e37, e38, e39, e40, e41, e42, e43, e44, e45, e46, e47, e48, e49, e50, e51, e52, e53, e54, e55, e56, e57, e58, e59, e60, e61, e62, e63, e64, e65, e66, e67, e68, e69, e70, e71, e72, e73, e74, e75, e76] i), rfl, h0⟩, ?_⟩
  rintro _ w ⟨y10, g, rfl, hJ⟩
  rw [bytes_Repeat.b1_eq]
  exact hr y10 g w hJ
def bytes_Repeat.j1 (x0 : Value) (x7 : Value) (x8 : Value) (g : Nat → Value) (R : KV) (X : KX) (w : World) : Prop :=
  pCall Tryz.prog 114 [x7] X w fun t54 w =>
  pSl 1 t54 none (some x7) (some x7) fun t57 =>
  pCopy 1 t57 x0 w fun t60 w =>
  bytes_Repeat.I1 [x0, (g 1), (g 2), (g 3), (g 4), (g 5), (g 6), x7, x8, t57, t60, (g 11), (g 12), (g 13), (g 14), (g 15), (g 16), (g 17), (g 18), (g 19), (g 20), (g 21), (g 22), (g 23), (g 24), (g 25), (g 26), (g 27), (g 28), (g 29), (g 30), (g 31), (g 32), (g 33), (g 34), (g 35), (g 36), (g 37), (g 38), (g 39), (g 40), (g 41), (g 42), (g 43), (g 44), (g 45), (g 46), (g 47), (g 48), (g 49), (g 50), (g 51), (g 52), x7, t54, x7, x7, t57, t57, x0, t60, (g 61), (g 62), (g 63), (g 64), (g 65), (g 66), (g 67), (g 68), (g 69), (g 70), (g 71), (g 72), (g 73), (g 74), (g 75), (g 76)] R X w
def bytes_Repeat.b (x0 : Value) (x1 : Value) (R : KV) (X : KX) (w : World) : Prop :=
  pBinI .eql .i64 x1 (.int .i64 0) fun t13 =>
  scond t13
  (pBSlice 5 0 (rowOf [.int .u8 0] 0) [] w fun t14 w =>
    R t14 w)
  (pBinI .lss .i64 x1 (.int .i64 0) fun t16 =>
    scond t16
    (pPanic (.iface 9 (.string ⟨#[98, 121, 116, 101, 115, 58, 32, 110, 101, 103, 97, 116, 105, 118, 101, 32, 82, 101, 112, 101, 97, 116, 32, 99, 111, 117, 110, 116]⟩)) X w)
    (pLenSl x0 fun t20 =>
      pConv .u64 t20 fun t21 =>
      pConv .u64 x1 fun t23 =>
      pCall Tryz.prog 113 [t21, t23] X w fun t24 w =>
      pExt t24 0 fun t25 =>
      pExt t24 1 fun t26 =>
      pBinI .gtr .u64 t25 (.int .u64 0) fun t28 =>
      gIf t28 false (fun K => K t26) fun t30 =>
      gIf t28 false (fun K => pBinI .gtr .u64 t30 (.int .u64 9223372036854775807) K) fun t31 =>
      pPick t28 (.bool true) t31 fun t32 =>
      scond t32
      (pPanic (.iface 9 (.string ⟨#[98, 121, 116, 101, 115, 58, 32, 82, 101, 112, 101, 97, 116, 32, 111, 117, 116, 112, 117, 116, 32, 108, 101, 110, 103, 116, 104, 32, 111, 118, 101, 114, 102, 108, 111, 119]⟩)) X w)
      (pConv .i64 t26 fun t35 =>
        pLenSl x0 fun t37 =>
        pBinI .eql .i64 t37 (.int .i64 0) fun t38 =>
        scond t38
        (pBSlice 5 0 (rowOf [.int .u8 0] 0) [] w fun t39 w =>
          R t39 w)
        (pBinI .gtr .i64 t35 (.int .i64 8192) fun t42 =>
          scond t42
          (pLenSl x0 fun t44 =>
            pDiv .quo .i64 (.int .i64 8192) t44 fun t45 =>
            pLenSl x0 fun t47 =>
            pBinI .mul .i64 t45 t47 fun t48 =>
            pBinI .eql .i64 t48 (.int .i64 0) fun t50 =>
            scond t50
            (pLenSl x0 fun t52 =>
              bytes_Repeat.j1 x0 t35 t52 (fun i => nth [x0, x1, undef, undef, (.slice none 0 0), t25, t26, t35, t52, undef, undef, undef, x1, t13, undef, x1, t16, undef, t24, x0, t20, t21, x1, t23, t24, t25, t26, t25, t28, t28, t30, t31, t32, undef, t26, t35, x0, t37, t38, undef, t35, t35, t42, x0, t44, t45, x0, t47, t48, t48, t50, x0, t52, undef, undef, undef, undef, undef, undef, undef, undef, undef, undef, undef, undef, undef, undef, undef, undef, undef, undef, undef, undef, undef, undef, undef, undef] i) R X w)
            (bytes_Repeat.j1 x0 t35 t48 (fun i => nth [x0, x1, undef, undef, (.slice none 0 0), t25, t26, t35, t48, undef, undef, undef, x1, t13, undef, x1, t16, undef, t24, x0, t20, t21, x1, t23, t24, t25, t26, t25, t28, t28, t30, t31, t32, undef, t26, t35, x0, t37, t38, undef, t35, t35, t42, x0, t44, t45, x0, t47, t48, t48, t50, undef, undef, undef, undef, undef, undef, undef, undef, undef, undef, undef, undef, undef, undef, undef, undef, undef, undef, undef, undef, undef, undef, undef, undef, undef, undef] i) R X w))
          (bytes_Repeat.j1 x0 t35 t35 (fun i => nth [x0, x1, undef, undef, (.slice none 0 0), t25, t26, t35, t35, undef, undef, undef, x1, t13, undef, x1, t16, undef, t24, x0, t20, t21, x1, t23, t24, t25, t26, t25, t28, t28, t30, t31, t32, undef, t26, t35, x0, t37, t38, undef, t35, t35, t42, undef, undef, undef, undef, undef, undef, undef, undef, undef, undef, undef, undef, undef, undef, undef, undef, undef, undef, undef, undef, undef, undef, undef, undef, undef, undef, undef, undef, undef, undef, undef, undef, undef, undef] i) R X w)))))
theorem bytes_Repeat.b_eq (x0 : Value) (x1 : Value) (R : KV) (X : KX) (w : World) : atP Tryz.prog Tryz.f105 bytes_Repeat.pl [] [] R X ([x0, x1] ++ undefs 75) w = bytes_Repeat.b x0 x1 R X w := by kernel_rfl
theorem bytes_Repeat.calls {x0 x1 : Value} {R : KV} {X : KX} {w : World} (h : bytes_Repeat.b x0 x1 R X w) : GCalls Tryz.prog 105 [x0, x1] R X w :=
  gcalls_of (pl := bytes_Repeat.pl) Tryz.func105 rfl (by kernel_rfl) hmixed (bytes_Repeat.b_eq x0 x1 R X w ▸ h)

/-! oubliette/oublietteref01.Get -/
def oublietteref01_Get.pl : Nat → DrawPlan
  | _ => ⟨[], .done⟩
def oublietteref01_Get.b1 (x0 : Value) (x4 : Value) (x5 : Value) (g : Nat → Value) (N1 : List Value → World → Prop) (R : KV) (X : KX) (w : World) : Prop :=
  pLenSl x0 fun t16 =>
  pBinI .lss .i64 x5 t16 fun t17 =>
  scond t17
  (pBinI .mul .u64 x4 (.int .u64 256) fun t21 =>
    pIA 1 x0 x5 fun t24 =>
    pLd (· = w) t24 fun t25 =>
    pConv .u64 t25 fun t26 =>
    pBinI .add .u64 t21 t26 fun t27 =>
    pBinI .add .i64 x5 (.int .i64 1) fun t19 =>
    N1 [x0, (g 1), (g 2), (g 3), t27, t19, (g 6), (g 7), (g 8), (g 9), (g 10), (g 11), (g 12), (g 13), x5, x0, t16, t17, x5, t19, x4, t21, x0, x5, t24, t25, t26, t27, (g 28)] w)
  (R (.tuple #[x4, (.int .i64 0)]) w)
def oublietteref01_Get.I1 (e : List Value) (R : KV) (X : KX) (w : World) : Prop := atP Tryz.prog Tryz.f107 oublietteref01_Get.pl [1, 1, 1, 0, 1, 0] [] R X e w
theorem oublietteref01_Get.I1_eq (e : List Value) (R : KV) (X : KX) (w : World) : oublietteref01_Get.I1 e R X w = loopS (fun N e w => atP Tryz.prog Tryz.f107 oublietteref01_Get.pl [1, 1, 1, 0, 1, 0, 0] [N] R X e w) e w := by kernel_rfl
def oublietteref01_Get.fr1 (x0 : Value) (x4 : Value) (x5 : Value) (g : Nat → Value) : List Value := [x0, g 1, g 2, g 3, x4, x5, g 6, g 7, g 8, g 9, g 10, g 11, g 12, g 13, g 14, g 15, g 16, g 17, g 18, g 19, g 20, g 21, g 22, g 23, g 24, g 25, g 26, g 27, g 28]
theorem oublietteref01_Get.b1_eq (x0 : Value) (x4 : Value) (x5 : Value) (g : Nat → Value) (N1 : List Value → World → Prop) (R : KV) (X : KX) (w : World) : atP Tryz.prog Tryz.f107 oublietteref01_Get.pl [1, 1, 1, 0, 1, 0, 0] [N1] R X (oublietteref01_Get.fr1 x0 x4 x5 g) w = oublietteref01_Get.b1 x0 x4 x5 g N1 R X w := by kernel_rfl
/-- What a round of this loop hands on. -/
def oublietteref01_Get.N1 (J : Value → Value → World → Prop) (m : Value → Value → World → Nat) (x0 : Value) (x4 : Value) (x5 : Value) (w : World) : List Value → World → Prop := fun e w' => (∃ y4 y5 g, e = oublietteref01_Get.fr1 x0 y4 y5 g ∧ J y4 y5 w') ∧ m (nth e 4) (nth e 5) w' < m x4 x5 w
theorem oublietteref01_Get.leaf1 {J : Value → Value → World → Prop} {m : Value → Value → World → Nat} {x0 : Value} {x4 : Value} {x5 : Value} {w w' : World} {e1 e2 e3 e4 e5 e6 e7 e8 e9 e10 e11 e12 e13 e14 e15 e16 e17 e18 e19 e20 e21 e22 e23 e24 e25 e26 e27 e28 : Value} (h : J e4 e5 w') (hm : m e4 e5 w' < m x4 x5 w) : oublietteref01_Get.N1 J m x0 x4 x5 w [x0, e1, e2, e3, e4, e5, e6, e7, e8, e9, e10, e11, e12, e13, e14, e15, e16, e17, e18, e19, e20, e21, e22, e23, e24, e25, e26, e27, e28] w' :=
  ⟨⟨e4, e5, (fun i => nth [x0, e1, e2, e3, e4, e5, e6, e7, e8, e9, e10, e11, e12, e13, e14, e15, e16, e17, e18, e19, e20, e21, e22, e23, e24, e25, e26, e27, e28] i), rfl, h⟩, hm⟩
theorem oublietteref01_Get.loop1 (J : Value → Value → World → Prop) (m : Value → Value → World → Nat) {R : KV} {X : KX} {w : World} {x0 : Value} {e1 e2 e3 e4 e5 e6 e7 e8 e9 e10 e11 e12 e13 e14 e15 e16 e17 e18 e19 e20 e21 e22 e23 e24 e25 e26 e27 e28 : Value} (h0 : J e4 e5 w)
    (hr : ∀ x4 x5 g w, J x4 x5 w → oublietteref01_Get.b1 x0 x4 x5 g (oublietteref01_Get.N1 J m x0 x4 x5 w) R X w) : oublietteref01_Get.I1 [x0, e1, e2, e3, e4, e5, e6, e7, e8, e9, e10, e11, e12, e13, e14, e15, e16, e17, e18, e19, e20, e21, e22, e23, e24, e25, e26, e27, e28] R X w := by
  rw [oublietteref01_Get.I1_eq]
  refine ⟨fun e w => ∃ y4 y5 g, e = oublietteref01_Get.fr1 x0 y4 y5 g ∧ J y4 y5 w, fun e w => m (nth e 4) (nth e 5) w, ⟨e4, e5, (fun i => nth [x0, e1, e2, e3, e4, e5, e6, e7, e8, e9, e10, e11, e12, e13, e14, e15, e16, e17, e18, e19, e20, e21, e22, e23, e24, e25, e26, e27, e28] i), rfl, h0⟩, ?_⟩
  rintro _ w ⟨y4, y5, g, rfl, hJ⟩
  rw [oublietteref01_Get.b1_eq]
  exact hr y4 y5 g w hJ
def oublietteref01_Get.b (x0 : Value) (R : KV) (X : KX) (w : World) : Prop :=
  pLenSl x0 fun t7 =>
  pBinI .lss .i64 t7 (.int .i64 1) fun t8 =>
  gIf t8 false (fun K => K x0) fun t10 =>
  gIf t8 false (fun K => pLenSl t10 K) fun t11 =>
  gIf t8 false (fun K => pBinI .gtr .i64 t11 (.int .i64 8) K) fun t12 =>
  pPick t8 (.bool true) t12 fun t13 =>
  scond t13
  (R (.tuple #[(.int .u64 0), (.int .i64 4)]) w)
  (oublietteref01_Get.I1 [x0, undef, (.int .u64 0), (.int .i64 0), (.int .u64 0), (.int .i64 0), x0, t7, t8, t8, t10, t11, t12, t13, undef, undef, undef, undef, undef, undef, undef, undef, undef, undef, undef, undef, undef, undef, undef] R X w)
theorem oublietteref01_Get.b_eq (x0 : Value) (R : KV) (X : KX) (w : World) : atP Tryz.prog Tryz.f107 oublietteref01_Get.pl [] [] R X ([x0] ++ undefs 28) w = oublietteref01_Get.b x0 R X w := by kernel_rfl
theorem oublietteref01_Get.calls {x0 : Value} {R : KV} {X : KX} {w : World} (h : oublietteref01_Get.b x0 R X w) : GCalls Tryz.prog 107 [x0] R X w :=
  gcalls_of (pl := oublietteref01_Get.pl) Tryz.func107 rfl (by kernel_rfl) hmixed (oublietteref01_Get.b_eq x0 R X w ▸ h)

/-! math/bits.Mul -/
def bits_Mul.pl : Nat → DrawPlan
  | _ => ⟨[], .done⟩
def bits_Mul.b (x0 : Value) (x1 : Value) (R : KV) (X : KX) (w : World) : Prop :=
  scond (.bool false)
  (pConv .u32 x0 fun t12 =>
    pConv .u32 x1 fun t14 =>
    pCall Tryz.prog 121 [t12, t14] X w fun t15 w =>
    pExt t15 0 fun t16 =>
    pExt t15 1 fun t17 =>
    pConv .u64 t16 fun t19 =>
    pConv .u64 t17 fun t21 =>
    R (.tuple #[t19, t21]) w)
  (pCall Tryz.prog 122 [x0, x1] X w fun t25 w =>
    pExt t25 0 fun t26 =>
    pExt t25 1 fun t27 =>
    R (.tuple #[t26, t27]) w)
theorem bits_Mul.b_eq (x0 : Value) (x1 : Value) (R : KV) (X : KX) (w : World) : atP Tryz.prog Tryz.f113 bits_Mul.pl [] [] R X ([x0, x1] ++ undefs 28) w = bits_Mul.b x0 x1 R X w := by kernel_rfl
theorem bits_Mul.calls {x0 x1 : Value} {R : KV} {X : KX} {w : World} (h : bits_Mul.b x0 x1 R X w) : GCalls Tryz.prog 113 [x0, x1] R X w :=
  gcalls_of (pl := bits_Mul.pl) Tryz.func113 rfl (by kernel_rfl) hmixed (bits_Mul.b_eq x0 x1 R X w ▸ h)

/-! math/bits.Mul32 -/
def bits_Mul32.pl : Nat → DrawPlan
  | _ => ⟨[], .done⟩
def bits_Mul32.b (x0 : Value) (x1 : Value) (R : KV) (X : KX) (w : World) : Prop :=
  pConv .u64 x0 fun t8 =>
  pConv .u64 x1 fun t10 =>
  pBinI .mul .u64 t8 t10 fun t11 =>
  pShift .shr .u64 t11 (.int .u64 32) fun t13 =>
  pConv .u32 t13 fun t14 =>
  pConv .u32 t11 fun t16 =>
  R (.tuple #[t14, t16]) w
theorem bits_Mul32.b_eq (x0 : Value) (x1 : Value) (R : KV) (X : KX) (w : World) : atP Tryz.prog Tryz.f121 bits_Mul32.pl [] [] R X ([x0, x1] ++ undefs 15) w = bits_Mul32.b x0 x1 R X w := by kernel_rfl
theorem bits_Mul32.calls {x0 x1 : Value} {R : KV} {X : KX} {w : World} (h : bits_Mul32.b x0 x1 R X w) : GCalls Tryz.prog 121 [x0, x1] R X w :=
  gcalls_of (pl := bits_Mul32.pl) Tryz.func121 rfl (by kernel_rfl) hmixed (bits_Mul32.b_eq x0 x1 R X w ▸ h)

/-! math/bits.Mul64 -/
def bits_Mul64.pl : Nat → DrawPlan
  | _ => ⟨[], .done⟩
def bits_Mul64.b (x0 : Value) (x1 : Value) (R : KV) (X : KX) (w : World) : Prop :=
  pBinI .and .u64 x0 (.int .u64 4294967295) fun t15 =>
  pShift .shr .u64 x0 (.int .u64 32) fun t17 =>
  pBinI .and .u64 x1 (.int .u64 4294967295) fun t19 =>
  pShift .shr .u64 x1 (.int .u64 32) fun t21 =>
  pBinI .mul .u64 t15 t19 fun t24 =>
  pBinI .mul .u64 t17 t19 fun t27 =>
  pShift .shr .u64 t24 (.int .u64 32) fun t29 =>
  pBinI .add .u64 t27 t29 fun t30 =>
  pBinI .and .u64 t30 (.int .u64 4294967295) fun t32 =>
  pShift .shr .u64 t30 (.int .u64 32) fun t34 =>
  pBinI .mul .u64 t15 t21 fun t38 =>
  pBinI .add .u64 t32 t38 fun t39 =>
  pBinI .mul .u64 t17 t21 fun t42 =>
  pBinI .add .u64 t42 t34 fun t44 =>
  pShift .shr .u64 t39 (.int .u64 32) fun t46 =>
  pBinI .add .u64 t44 t46 fun t47 =>
  pBinI .mul .u64 x0 x1 fun t50 =>
  R (.tuple #[t47, t50]) w
theorem bits_Mul64.b_eq (x0 : Value) (x1 : Value) (R : KV) (X : KX) (w : World) : atP Tryz.prog Tryz.f122 bits_Mul64.pl [] [] R X ([x0, x1] ++ undefs 49) w = bits_Mul64.b x0 x1 R X w := by kernel_rfl
theorem bits_Mul64.calls {x0 x1 : Value} {R : KV} {X : KX} {w : World} (h : bits_Mul64.b x0 x1 R X w) : GCalls Tryz.prog 122 [x0, x1] R X w :=
  gcalls_of (pl := bits_Mul64.pl) Tryz.func122 rfl (by kernel_rfl) hmixed (bits_Mul64.b_eq x0 x1 R X w ▸ h)
end Go.Proofs.YtkpgmaiklfjjgaaGreatDoor
end
