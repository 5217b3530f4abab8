/-
  slices.Chunk: what its iterator hands to a loop's body.
-/
import Derived.Test.YtkpgmaiklfjjgaaDoorMoap
import Derived.Below
import Derived.BigFrameIn
section
set_option linter.unusedSimpArgs false
set_option linter.unusedVariables false
namespace Go.Proofs.YtkpgmaiklfjjgaaDoor
open Go Go.G Go.RowKit
variable {X : KX} {w : World} {K : KV} {D D' : Nat → Prop}
def sl31 (g : Nat → Value) : List Value := [g 0, g 1, g 2, g 3, g 4, g 5, g 6, g 7, g 8, g 9, g 10, g 11, g 12, g 13, g 14, g 15, g 16, g 17, g 18, g 19, g 20, g 21, g 22, g 23, g 24, g 25, g 26, g 27, g 28, g 29, g 30]
theorem ck0_eq (N : List Value → World → Prop) (g : Nat → Value) (w : World) : semL Tryd.prog (opsOf (sub [0] (bodyOf Tryd.f142))) (justN N) (opsOf (sub [0] (bodyOf Tryd.f142))).toList (sl31 g) w = N (sl31 (slot g 4 (.int .i64 0))) w := by kernel_rfl
theorem ck1_eq (N : List Value → World → Prop) (g : Nat → Value) (w : World) : semL Tryd.prog (opsOf (sub [1, 0, 0, 0, 0] (bodyOf Tryd.f142))) (justN N) (opsOf (sub [1, 0, 0, 0, 0] (bodyOf Tryd.f142))).toList (sl31 g) w =
  (pLd (· = w) (g 1) fun t7 => pLenSl t7 fun t8 => pBinI .lss .i64 (g 4) t8 fun t9 => N (sl31 (slot (slot (slot (slot g 6 (g 4)) 7 t7) 8 t8) 9 t9)) w) := by kernel_rfl
theorem ck3_eq (N : List Value → World → Prop) (g : Nat → Value) (w : World) : sem Tryd.prog slices_Chunk_byte_byte_c1.pl (sub [1, 0, 0, 1, 0, 0, 0] (bodyOf Tryd.f142)) (justN N) (sl31 g) w =
  (drawn w fun S w => pLd S (g 2) fun t13 => pLd S (g 1) fun t14 => pSl 1 t14 (some (g 4)) none none fun t16 => pLenSl t16 fun t17 => pMin t13 t17 fun t18 => N (sl31 (slot (slot (slot (slot (slot (slot (slot g 13 t13) 14 t14) 15 (g 4)) 16 t16) 17 t17) 18 t18) 5 t18)) w) := by kernel_rfl
theorem ck4_eq (N : List Value → World → Prop) (g : Nat → Value) (w : World) : semL Tryd.prog (opsOf (sub [1, 0, 0, 1, 0, 0, 1, 0] (bodyOf Tryd.f142))) (justN N) ((opsOf (sub [1, 0, 0, 1, 0, 0, 1, 0] (bodyOf Tryd.f142))).toList.take 10) (sl31 g) w =
  (pLd (· = w) (g 1) fun t20 => pBinI .add .i64 (g 4) (g 5) fun t24 => pBinI .add .i64 (g 4) (g 5) fun t27 => pSl 1 t20 (some (g 4)) (some t24) (some t27) fun t28 => N (sl31 (slot (slot (slot (slot (slot (slot (slot (slot (slot (slot g 19 (g 0)) 20 t20) 21 (g 4)) 22 (g 4)) 23 (g 5)) 24 t24) 25 (g 4)) 26 (g 5)) 27 t27) 28 t28)) w) := by kernel_rfl
theorem ck5_eq (N : List Value → World → Prop) (g : Nat → Value) (w : World) : semL Tryd.prog (opsOf (sub [1, 0, 0, 1, 0, 0, 1, 0] (bodyOf Tryd.f142))) (justN N) ((opsOf (sub [1, 0, 0, 1, 0, 0, 1, 0] (bodyOf Tryd.f142))).toList.drop 11) (sl31 g) w =
  (pNot (g 29) fun t30 => N (sl31 (slot g 30 t30)) w) := by kernel_rfl
theorem ck2_eq (N : List Value → World → Prop) (g : Nat → Value) (w : World) : semL Tryd.prog (opsOf (sub [1, 0, 0, 1, 1] (bodyOf Tryd.f142))) (justN N) (opsOf (sub [1, 0, 0, 1, 1] (bodyOf Tryd.f142))).toList (sl31 g) w =
  (pLd (· = w) (g 2) fun t11 => pBinI .add .i64 (g 4) t11 fun t12 => N (sl31 (slot (slot (slot (slot g 10 (g 4)) 11 t11) 12 t12) 4 t12)) w) := by kernel_rfl
theorem sl31_nth (g : Nat → Value) : ∀ i, i < 31 → nth (sl31 g) i = g i
  | 0, _ | 1, _ | 2, _ | 3, _ | 4, _ | 5, _ | 6, _ | 7, _ | 8, _ | 9, _ | 10, _ | 11, _ | 12, _ | 13, _ | 14, _ | 15, _ | 16, _ | 17, _ | 18, _ | 19, _ | 20, _ | 21, _ | 22, _ | 23, _ | 24, _ | 25, _ | 26, _ | 27, _ | 28, _ | 29, _ | 30, _ => rfl
  | n + 31, h => absurd h (by omega)
theorem ev31 (g : Nat → Value) (i : Nat) (hi : i < 31) : Act.eval ⟨(sl31 g).toArray, []⟩ (.tmp i) = g i := by
  rw [eval_eq]; exact sl31_nth g i hi
/-- What a round keeps: what lay below n₀, but for the blocks of T. -/
def Kp (T : Nat → Prop) (n₀ : Nat) (W W' : World) : Prop := W.heap.size ≤ W'.heap.size ∧ ∀ b, b < n₀ → ¬ T b → W'.heap[b]? = W.heap[b]?
theorem Kp.refl {T : Nat → Prop} {n₀ : Nat} (W : World) : Kp T n₀ W W := ⟨Nat.le_refl _, fun _ _ _ => rfl⟩
theorem Kp.trans {T : Nat → Prop} {n₀ : Nat} {A B C : World} (h : Kp T n₀ A B) (k : Kp T n₀ B C) : Kp T n₀ A C := ⟨Nat.le_trans h.1 k.1, fun b hb hT => (k.2 b hb hT).trans (h.2 b hb hT)⟩
theorem Kp.size {T : Nat → Prop} {n₀ : Nat} {A B : World} (h : Kp T n₀ A B) : A.heap.size ≤ B.heap.size := h.1
theorem Kp.cell {T : Nat → Prop} {n₀ : Nat} {A B : World} (h : Kp T n₀ A B) {p : Addr} (hp : p.block < n₀ ∧ ¬ T p.block) : B.cell? p = A.cell? p := cell_congr (h.2 _ hp.1 hp.2)
def ckV (ad : Addr) (j : Nat) : Value := .slice (some (ad.add (64 * j))) 64 64
theorem ext_grown {w w' : World} (h : Ext w w') : w.grownBy w' none := ⟨h.os, h.tape, h.output, h.size, fun k hk _ => h.keep k hk (fun h => h)⟩
theorem ext_kp {T : Nat → Prop} {w w' : World} (h : Ext w w') {B : Nat} (hB : B ≤ w.heap.size) : Kp T B w w' := ⟨h.size, fun k hk _ => h.keep k (by omega) (fun h => h)⟩
theorem fin_take {m k : Nat} (h : k < m) : (List.finRange m).take (k + 1) = (List.finRange m).take k ++ [⟨k, h⟩] := by
  rw [List.take_succ_eq_append_getElem (by simpa using h)]; simp
theorem slots (g : Nat → Value) : (sl31 g).toArray.toList = sl31 g := rfl
set_option maxHeartbeats 1000000 in
set_option maxRecDepth 100000 in
theorem chunk_in {T : Nat → Prop} {n l Bs Bn n₀ m c : Nat} {ad : Addr} {J Jx : List (Fin m) → World → Prop} (hm : 64 * m ≤ 1000000) (hBs : Bs < n₀ ∧ ¬ T Bs) (hBn : Bn < n₀ ∧ ¬ T Bn)
    (hY : ∀ pre x W, J pre W → pre.length < m → YieldAt (WF none) (n - 1) Tryd.prog l #[ckV ad x.val] W fun e W' => (e = .returned (.bool true) ∧ J (pre ++ [x]) W' ∧ Kp T n₀ W W') ∨ (e = .returned (.bool false) ∧ Jx (pre ++ [x]) W'))
    {W : World} (hn₀ : n₀ ≤ W.heap.size) (hJ : AbidesFrom W.heap.size J) (h1 : W.cell? ⟨Bs, 0, none⟩ = some (.slice (some ad) (64 * m) c)) (hc : 64 * m ≤ c) (h2 : W.cell? ⟨Bn, 0, none⟩ = some (.int .i64 64)) (h0 : J [] W) :
    CallsIn (WF none) n Tryd.prog 142 #[.func (.yield l) #[] #[], .pointer (some ⟨Bs, 0, none⟩), .pointer (some ⟨Bn, 0, none⟩)] W fun e W' => (∃ v, e = .returned v) ∧
      ((∃ ys, ys = List.finRange m ∧ J ys W') ∨ (∃ pre, True ∧ Jx pre W')) := by
  refine callsIn_of_wp Tryd.func142 rfl trivial ?_ rfl
  have he : ({ tmps := #[Value.func (.yield l) #[] #[], .pointer (some ⟨Bs, 0, none⟩), .pointer (some ⟨Bn, 0, none⟩)] ++ Array.replicate (Tryd.f142.ntmps - 3) undef, defers := [] } : Act) =
    ⟨(sl31 (fun i => nth ([Value.func (.yield l) #[] #[], .pointer (some ⟨Bs, 0, none⟩), .pointer (some ⟨Bn, 0, none⟩)] ++ undefs 28) i)).toArray, []⟩ := by kernel_rfl
  refine (Eq.mpr (congrArg (fun a => Code.wpIn _ _ _ _ _ a W) he) ?_)
  refine wpIn_seq (region_in (by kernel_rfl) (N := fun e w => Code.wpIn (WF none) n Tryd.prog (sub [1] (bodyOf Tryd.f142)) _ ⟨e.toArray, []⟩ w) (fun e w h => h) (Eq.mpr (ck0_eq _ _ _) ?_))
  refine wpIn_block (wpIn_loop (fun a w => ∃ k g, k ≤ m ∧ a = ⟨(sl31 g).toArray, []⟩ ∧ g 0 = .func (.yield l) #[] #[] ∧ g 1 = .pointer (some ⟨Bs, 0, none⟩) ∧ g 2 = .pointer (some ⟨Bn, 0, none⟩) ∧ g 4 = .int .i64 ((64 * k : Nat) : Int) ∧ J ((List.finRange m).take k) w ∧ Kp T n₀ W w ∧ W.heap.size ≤ w.heap.size)
    (fun a _ => (64 * m - iv (nth a.tmps.toList 4)).toNat) ⟨0, _, by omega, rfl, rfl, rfl, rfl, rfl, by simpa using h0, Kp.refl _, Nat.le_refl _⟩ ?_)
  rintro _ w ⟨k, g, hk, rfl, g0, g1, g2, g4, hJk, hb, hsz⟩
  have q1 : w.cell? ⟨Bs, 0, none⟩ = some (.slice (some ad) (64 * m) c) := (hb.cell (p := ⟨Bs, 0, none⟩) hBs).trans h1
  have q2 : w.cell? ⟨Bn, 0, none⟩ = some (.int .i64 64) := (hb.cell (p := ⟨Bn, 0, none⟩) hBn).trans h2
  refine wpIn_seq (wpIn_seq (region_in (by kernel_rfl) (N := fun e w => Code.wpIn (WF none) n Tryd.prog (sub [1, 0, 0, 0, 1] (bodyOf Tryd.f142)) _ ⟨e.toArray, []⟩ w) (fun e w h => h) (Eq.mpr (ck1_eq _ _ _) ?_)))
  rw [g1, g4]
  simp only [↓eBinI, ↓eDiv, ↓eShift, ↓eBinS, ↓ePick, ↓eNot, ↓eNeg, ↓eConv, ↓eConvS, ↓eExt0, ↓eExt1, ↓eExt2, ↓eFA, ↓eIA, ↓eLenSl, ↓eCapSl, ↓eLenS, ↓eMin, ↓eMax, ↓eCondT, ↓eCondF, ↓gIf_tt, ↓gIf_ff, ↓gIf_tf, ↓gIf_ft, ↓gIf_u, ↓gIfW_u, ↓gIfW_tt, ↓gIfW_ff, ↓gIfW_tf, ↓gIfW_ft, binI, divI, shiftI, add_mk, Nat.zero_add, cond_true, cond_false, decide_true, decide_false, Bool.not_true, Bool.not_false, Bool.and_true, Bool.true_and, Bool.and_false, Bool.false_and, Int.toNat_natCast, Nat.mul_one, ↓eLdW, q1, Option.some.injEq, exists_eq_left']
  by_cases ck : k < m
  · refine wpIn_cond (t := true) (by rw [ev31 _ _ (by omega), slot_same]; congr 1; rw [decide_eq_true]; omega) ?_
    refine wpIn_skip ?_
    generalize hg' : slot (slot (slot (slot g 6 _) 7 _) 8 _) 9 _ = g'
    have p0 : g' 0 = .func (.yield l) #[] #[] := by rw [← hg']; simp [slot, g0]
    have p1 : g' 1 = .pointer (some ⟨Bs, 0, none⟩) := by rw [← hg']; simp [slot, g1]
    have p2 : g' 2 = .pointer (some ⟨Bn, 0, none⟩) := by rw [← hg']; simp [slot, g2]
    have p4 : g' 4 = .int .i64 ((64 * k : Nat) : Int) := by rw [← hg']; simp [slot, g4]
    clear hg' g0 g1 g2
    refine wpIn_seq (wpIn_block (wpIn_seq (drawn_in hmixed (N := fun e w => Code.wpIn (WF none) n Tryd.prog (sub [1, 0, 0, 1, 0, 0, 1] (bodyOf Tryd.f142)) _ ⟨e.toArray, []⟩ w) (fun e w h => h) (Eq.mpr (ck3_eq _ _ _) ?_))))
    refine draw_ fun w2 hx => ?_
    have r1 := hx.cell q1
    have r2 := hx.cell q2
    rw [p1, p2, p4]
    simp only [↓eBinI, ↓eDiv, ↓eShift, ↓eBinS, ↓ePick, ↓eNot, ↓eNeg, ↓eConv, ↓eConvS, ↓eExt0, ↓eExt1, ↓eExt2, ↓eFA, ↓eIA, ↓eLenSl, ↓eCapSl, ↓eLenS, ↓eMin, ↓eMax, ↓eCondT, ↓eCondF, ↓gIf_tt, ↓gIf_ff, ↓gIf_tf, ↓gIf_ft, ↓gIf_u, ↓gIfW_u, ↓gIfW_tt, ↓gIfW_ff, ↓gIfW_tf, ↓gIfW_ft, binI, divI, shiftI, add_mk, Nat.zero_add, cond_true, cond_false, decide_true, decide_false, Bool.not_true, Bool.not_false, Bool.and_true, Bool.true_and, Bool.and_false, Bool.false_and, Int.toNat_natCast, Nat.mul_one, ↓eLdE r1, ↓eLdE r2]
    refine eSl (l := 64 * k) (h := 64 * m) (m := c) (bnd_int (by omega)) bnd_none bnd_none (by omega) (by omega) (by omega) (by simp) ?_
    have e5 : (if ((64 * m - 64 * k : Nat) : Int) < (64 : Int) then ((64 * m - 64 * k : Nat) : Int) else (64 : Int)) = 64 := by rw [if_neg (by omega)]
    simp only [↓eBinI, ↓eDiv, ↓eShift, ↓eBinS, ↓ePick, ↓eNot, ↓eNeg, ↓eConv, ↓eConvS, ↓eExt0, ↓eExt1, ↓eExt2, ↓eFA, ↓eIA, ↓eLenSl, ↓eCapSl, ↓eLenS, ↓eMin, ↓eMax, ↓eCondT, ↓eCondF, ↓gIf_tt, ↓gIf_ff, ↓gIf_tf, ↓gIf_ft, ↓gIf_u, ↓gIfW_u, ↓gIfW_tt, ↓gIfW_ff, ↓gIfW_tf, ↓gIfW_ft, binI, divI, shiftI, add_mk, Nat.zero_add, cond_true, cond_false, decide_true, decide_false, Bool.not_true, Bool.not_false, Bool.and_true, Bool.true_and, Bool.and_false, Bool.false_and, Int.toNat_natCast, Nat.mul_one, e5]
    generalize hg' : slot (slot (slot (slot (slot (slot (slot g' 13 _) 14 _) 15 _) 16 _) 17 _) 18 _) 5 _ = g2
    have p0' : g2 0 = .func (.yield l) #[] #[] := by rw [← hg']; simp [slot, p0]
    have p1' : g2 1 = .pointer (some ⟨Bs, 0, none⟩) := by rw [← hg']; simp [slot, p1]
    have p2' : g2 2 = .pointer (some ⟨Bn, 0, none⟩) := by rw [← hg']; simp [slot, p2]
    have p4' : g2 4 = .int .i64 ((64 * k : Nat) : Int) := by rw [← hg']; simp [slot, p4]
    have p5' : g2 5 = .int .i64 64 := by rw [← hg']; simp [slot]
    clear hg' p0 p1 p2 p4 g'
    have hJ2 : J ((List.finRange m).take k) w2 := hJ _ _ _ none hJk (ext_grown hx) (fun r e => by cases e)
    have hb2 : Kp T n₀ W w2 := hb.trans (ext_kp hx (by omega))
    have hlen : ((List.finRange m).take k).length < m := by simp; omega
    have hy := hY _ ⟨k, ck⟩ w2 hJ2 hlen
    rw [← fin_take ck] at hy
    have v1 : w2.cell? ⟨Bs, 0, none⟩ = some (.slice (some ad) (64 * m) c) := r1
    refine wpIn_seq (wpIn_region_list ?_)
    refine Eq.mpr (congrArg (fun L => wpListIn _ _ _ _ _ L _ _) (List.take_append_drop 10 _).symm) ?_
    refine semL_app (Q := justN fun e w => wpListIn (WF none) n Tryd.prog (opsOf (sub [1, 0, 0, 1, 0, 0, 1, 0] (bodyOf Tryd.f142))) _ (List.drop 10 (opsOf (sub [1, 0, 0, 1, 0, 0, 1, 0] (bodyOf Tryd.f142))).toList) ⟨e.toArray, []⟩ w) (fun e w h => h) (fun _ _ _ h => h.elim) _ _ _ (fun o ho => List.all_eq_true.1 (by kernel_rfl) o ho) (Eq.mpr (ck4_eq _ _ _) ?_)
    have a1 : IntKind.i64.wrap (((64 * k : Nat) : Int) + 64) = ((64 * k + 64 : Nat) : Int) := by rw [wrap64 (by omega) (by omega)]; omega
    rw [p1', p4', p5']
    simp only [↓eBinI, ↓eDiv, ↓eShift, ↓eBinS, ↓ePick, ↓eNot, ↓eNeg, ↓eConv, ↓eConvS, ↓eExt0, ↓eExt1, ↓eExt2, ↓eFA, ↓eIA, ↓eLenSl, ↓eCapSl, ↓eLenS, ↓eMin, ↓eMax, ↓eCondT, ↓eCondF, ↓gIf_tt, ↓gIf_ff, ↓gIf_tf, ↓gIf_ft, ↓gIf_u, ↓gIfW_u, ↓gIfW_tt, ↓gIfW_ff, ↓gIfW_tf, ↓gIfW_ft, binI, divI, shiftI, add_mk, Nat.zero_add, cond_true, cond_false, decide_true, decide_false, Bool.not_true, Bool.not_false, Bool.and_true, Bool.true_and, Bool.and_false, Bool.false_and, Int.toNat_natCast, Nat.mul_one, ↓eLdW, v1, Option.some.injEq, exists_eq_left', a1]
    refine eSl (l := 64 * k) (h := 64 * k + 64) (m := 64 * k + 64) (bnd_int (by omega)) (bnd_int (by omega)) (bnd_int (by omega)) (by omega) (by omega) (by omega) (by simp) ?_
    have a2 : Value.slice (if 64 * k + 64 = 64 * k then some ad else (some ad).map (·.add (64 * k * 1))) (64 * k + 64 - 64 * k) (64 * k + 64 - 64 * k) = ckV ad k := by
      rw [if_neg (by omega), Option.map_some, Nat.mul_one, Nat.add_sub_cancel_left]; rfl
    rw [a2]
    generalize hg' : slot (slot (slot (slot (slot (slot (slot (slot (slot (slot g2 19 _) 20 _) 21 _) 22 _) 23 _) 24 _) 25 _) 26 _) 27 _) 28 _ = g3
    have p0 : g3 0 = .func (.yield l) #[] #[] := by rw [← hg']; simp [slot, p0']
    have p1 : g3 1 = .pointer (some ⟨Bs, 0, none⟩) := by rw [← hg']; simp [slot, p1']
    have p2 : g3 2 = .pointer (some ⟨Bn, 0, none⟩) := by rw [← hg']; simp [slot, p2']
    have p4 : g3 4 = .int .i64 ((64 * k : Nat) : Int) := by rw [← hg']; simp [slot, p4']
    have p19 : g3 19 = .func (.yield l) #[] #[] := by rw [← hg']; simp [slot, p0']
    have p28 : g3 28 = ckV ad k := by rw [← hg']; simp [slot]
    clear hg' p0' p1' p2' p4' p5' g2
    refine BigFrame.wpListIn_want rfl fun K hK => ?_
    refine yield_op (l := l) (f := .tmp 19) (v := .tmp 28) rfl rfl rfl (by rw [ev31 _ _ (by omega)]; exact p19) (by rw [ev31 _ _ (by omega), p28]; exact hy) ?_
    have goOn : ∀ (b : Bool) w', Code.wpIn (WF none) n Tryd.prog (sub [1, 0, 0, 1, 0, 0, 1, 1] (bodyOf Tryd.f142)) (Exit.inBlock 1 (Exit.then (Code.wpIn (WF none) n Tryd.prog (sub [1, 0, 0, 1, 1] (bodyOf Tryd.f142)) (Exit.then (fun a' w' => (∃ k g, k ≤ m ∧ a' = ⟨(sl31 g).toArray, []⟩ ∧ g 0 = .func (.yield l) #[] #[] ∧ g 1 = .pointer (some ⟨Bs, 0, none⟩) ∧ g 2 = .pointer (some ⟨Bn, 0, none⟩) ∧ g 4 = .int .i64 ((64 * k : Nat) : Int) ∧ J ((List.finRange m).take k) w' ∧ Kp T n₀ W w' ∧ W.heap.size ≤ w'.heap.size) ∧ (64 * (m : Int) - iv (nth a'.tmps.toList 4)).toNat < (64 * (m : Int) - iv (nth (sl31 g) 4)).toNat) (Exit.inBlock 0 (bodyPost Tryd.prog Tryd.f142 fun e W' => (∃ v, e = .returned v) ∧ ((∃ ys, ys = List.finRange m ∧ J ys W') ∨ (∃ pre, True ∧ Jx pre W')))))) (Exit.then (fun a' w' => (∃ k g, k ≤ m ∧ a' = ⟨(sl31 g).toArray, []⟩ ∧ g 0 = .func (.yield l) #[] #[] ∧ g 1 = .pointer (some ⟨Bs, 0, none⟩) ∧ g 2 = .pointer (some ⟨Bn, 0, none⟩) ∧ g 4 = .int .i64 ((64 * k : Nat) : Int) ∧ J ((List.finRange m).take k) w' ∧ Kp T n₀ W w' ∧ W.heap.size ≤ w'.heap.size) ∧ (64 * (m : Int) - iv (nth a'.tmps.toList 4)).toNat < (64 * (m : Int) - iv (nth (sl31 g) 4)).toNat) (Exit.inBlock 0 (bodyPost Tryd.prog Tryd.f142 fun e W' => (∃ v, e = .returned v) ∧ ((∃ ys, ys = List.finRange m ∧ J ys W') ∨ (∃ pre, True ∧ Jx pre W'))))))) ⟨(sl31 (slot (slot g3 29 (.bool b)) 30 (.bool (!b)))).toArray, []⟩ w' → K (Act.put ⟨(sl31 g3).toArray, []⟩ (some 29) (.bool b)) w' := by
      intro b w' hh
      refine hK _ _ ?_
      show wpListIn (WF none) n Tryd.prog (opsOf (sub [1, 0, 0, 1, 0, 0, 1, 0] (bodyOf Tryd.f142))) _ (List.drop 11 (opsOf (sub [1, 0, 0, 1, 0, 0, 1, 0] (bodyOf Tryd.f142))).toList ++ []) ⟨(sl31 (slot g3 29 (.bool b))).toArray, []⟩ w'
      refine semL_app (os2 := []) (Q := justN fun e w => Code.wpIn (WF none) n Tryd.prog (sub [1, 0, 0, 1, 0, 0, 1, 1] (bodyOf Tryd.f142)) _ ⟨e.toArray, []⟩ w) (by intro e w h; exact h) (fun _ _ _ h => h.elim) _ _ _ (fun o ho => List.all_eq_true.1 (by kernel_rfl) o ho) (Eq.mpr (ck5_eq _ _ _) ?_)
      rw [slot_same]
      simp only [↓eBinI, ↓eDiv, ↓eShift, ↓eBinS, ↓ePick, ↓eNot, ↓eNeg, ↓eConv, ↓eConvS, ↓eExt0, ↓eExt1, ↓eExt2, ↓eFA, ↓eIA, ↓eLenSl, ↓eCapSl, ↓eLenS, ↓eMin, ↓eMax, ↓eCondT, ↓eCondF, ↓gIf_tt, ↓gIf_ff, ↓gIf_tf, ↓gIf_ft, ↓gIf_u, ↓gIfW_u, ↓gIfW_tt, ↓gIfW_ff, ↓gIfW_tf, ↓gIfW_ft, binI, divI, shiftI, add_mk, Nat.zero_add, cond_true, cond_false, decide_true, decide_false, Bool.not_true, Bool.not_false, Bool.and_true, Bool.true_and, Bool.and_false, Bool.false_and, Int.toNat_natCast, Nat.mul_one]
      exact hh
    rintro e w' (⟨rfl, hJ', hb'⟩ | ⟨rfl, hJx⟩)
    · refine goOn true w' ?_
      refine wpIn_cond (t := false) (by rw [ev31 _ _ (by omega), slot_same]; rfl) ?_
      refine wpIn_skip ?_
      simp only [Exit.then, Exit.inBlock]
      have s1 : w'.cell? ⟨Bn, 0, none⟩ = some (.int .i64 64) := ((hb2.trans hb').cell (p := ⟨Bn, 0, none⟩) hBn).trans h2
      refine (region_in (by kernel_rfl) (N := fun e w => _) (fun e w h => h) (Eq.mpr (ck2_eq _ _ _) ?_))
      have t2 : slot (slot g3 29 (.bool true)) 30 (.bool (!true)) 2 = .pointer (some ⟨Bn, 0, none⟩) := by simp [slot, p2]
      have t4 : slot (slot g3 29 (.bool true)) 30 (.bool (!true)) 4 = .int .i64 ((64 * k : Nat) : Int) := by simp [slot, p4]
      rw [t2, t4]
      simp only [↓eBinI, ↓eDiv, ↓eShift, ↓eBinS, ↓ePick, ↓eNot, ↓eNeg, ↓eConv, ↓eConvS, ↓eExt0, ↓eExt1, ↓eExt2, ↓eFA, ↓eIA, ↓eLenSl, ↓eCapSl, ↓eLenS, ↓eMin, ↓eMax, ↓eCondT, ↓eCondF, ↓gIf_tt, ↓gIf_ff, ↓gIf_tf, ↓gIf_ft, ↓gIf_u, ↓gIfW_u, ↓gIfW_tt, ↓gIfW_ff, ↓gIfW_tf, ↓gIfW_ft, binI, divI, shiftI, add_mk, Nat.zero_add, cond_true, cond_false, decide_true, decide_false, Bool.not_true, Bool.not_false, Bool.and_true, Bool.true_and, Bool.and_false, Bool.false_and, Int.toNat_natCast, Nat.mul_one, ↓eLdW, s1, Option.some.injEq, exists_eq_left', a1]
      have hmm : nth (sl31 g) 4 = .int .i64 ((64 * k : Nat) : Int) := g4
      refine ⟨⟨k + 1, _, by omega, rfl, ?_, ?_, ?_, ?_, hJ', hb2.trans hb', ?_⟩, ?_⟩
      · simp [slot, p0]
      · simp [slot, p1]
      · simp [slot, p2]
      · simp [slot]; omega
      · have := hx.size; have := hb'.size; omega
      · rw [hmm]
        show (64 * (m : Int) - iv (Value.int .i64 ((64 * k + 64 : Nat) : Int))).toNat < (64 * (m : Int) - iv (Value.int .i64 ((64 * k : Nat) : Int))).toNat
        simp only [iv]; omega
    · refine goOn false w' ?_
      refine wpIn_cond (t := true) (by rw [ev31 _ _ (by omega), slot_same]; rfl) ?_
      refine wpIn_ret ?_
      simp only [Exit.then, Exit.inBlock]
      exact bodyPost_ret (results_none rfl _ _ _) rfl ⟨⟨_, rfl⟩, .inr ⟨_, trivial, hJx⟩⟩
  · refine wpIn_cond (t := false) (by rw [ev31 _ _ (by omega), slot_same]; congr 1; rw [decide_eq_false]; omega) ?_
    refine wpIn_exit ?_
    simp only [Exit.then, Exit.inBlock, if_true]
    refine bodyPost_end (results_none rfl _ _ _) rfl ?_
    refine ⟨⟨_, rfl⟩, .inl ⟨_, rfl, ?_⟩⟩
    rwa [List.take_of_length_le (by simp; omega)] at hJk
end Go.Proofs.YtkpgmaiklfjjgaaDoor
end
