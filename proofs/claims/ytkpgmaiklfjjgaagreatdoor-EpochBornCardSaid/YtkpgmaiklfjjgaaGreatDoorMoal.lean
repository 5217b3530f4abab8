/-
  A region's text at the wide fence, also within a round of a range over a function.
  slices.Chunk: what its iterator hands to a loop's body.
  The program's sum.
-/
import Derived.Test.YtkpgmaiklfjjgaaGreatDoorMoak
import Derived.TacticsIn
import Derived.RangeFuncNested
import Derived.RangeFuncBound
import Derived.RangeFuncCalls
import Derived.RangeFuncLeaves
import Derived.Below
import Derived.BigFrameIn
import Derived.Shelf.Abstract
section
set_option linter.unusedSimpArgs false
set_option linter.unusedVariables false
namespace Go.G
open Go
variable {P : Program} {pl : Nat → DrawPlan} {ds : List Deferred} {ro : Option Nat} {n : Nat}
abbrev WF (ro : Option Nat) : Fence := { fn := fun _ => True, depth := none, alive := false, round := ro }
def noDefer (o : Oper) : Bool := match o.op with | .defer _ => false | _ => true
theorem noDefer_ne {o : Oper} (h : noDefer o = true) : ∀ c, o.op ≠ .defer c := fun c e => by unfold noDefer at h; rw [e] at h; cases h
theorem callsWF {f : FuncId} {args : Array Value} {w : World} {R : Ending → World → Prop} (h : Calls P f args w R) : CallsIn (WF ro) n P f args w R :=
  (callsIn_wide.2 h : CallsIn Fence.wide n P f args w R)
theorem opIn {o : Oper} {a : Act} {w : World} {next : Act → World → Prop} {Q : Exit → Act → World → Prop} (hd : noDefer o = true)
    (h : o.wp P a w next Q) : o.wpIn (WF ro) n P a w next Q := by
  refine ⟨fun _ _ => trivial, ?_⟩
  rw [Oper.semAt_eq _ _ _ (noDefer_ne hd)]
  unfold Oper.wp at h
  unfold Oper.upon at h
  split at h
  · rename_i hr; rw [hr]; exact h
  · rename_i hr; rw [hr]; exact h
  · rename_i hr; rw [hr]; exact h
  · rename_i hr; rw [hr]
    exact ⟨fun h => (by cases h), callsWF h⟩
  · rename_i hr; rw [hr]
    exact ⟨fun h => (by cases h), fun c cs _ => let ⟨v, w', r, s⟩ := h c cs; ⟨v, w', r, (stepsIn_wide.2 s : StepsIn (Machine.fenced P Fence.wide) P _ _)⟩⟩
  · rename_i hr; rw [hr]; exact h
  · exact h.elim
/-- A list of operations, and others behind. -/
theorem semL_app {ops : Array Oper} {Q : QE} {QQ : Exit → Act → World → Prop} {os2 : List Oper} (hN : ∀ e w, Q .normal e w → wpListIn (WF ro) n P ops QQ os2 ⟨e.toArray, ds⟩ w)
    (hP : ∀ ch (e : List Value) w, Q (.panic ch) e w → QQ (.panic ch) ⟨e.toArray, ds⟩ w) : ∀ (os : List Oper) (e : List Value) (w : World), (∀ o ∈ os, noDefer o = true) → semL P ops Q os e w → wpListIn (WF ro) n P ops QQ (os ++ os2) ⟨e.toArray, ds⟩ w
  | [], e, w, _, h => hN e w (by simpa [semL] using h)
  | o :: rest, e, w, hd, h => by
    have hdo := hd o (by simp)
    have hdr : ∀ o ∈ rest, noDefer o = true := fun x hx => hd x (by simp [hx])
    have pure : stepP P ops (fun w' => w' = w) o e (fun v => semL P ops Q rest (put e o.dst v) w) → wpListIn (WF ro) n P ops QQ (o :: rest ++ os2) ⟨e.toArray, ds⟩ w := fun h => by
      obtain ⟨v, hK, hy⟩ := stepP_yields (ds := ds) h
      have ih := semL_app hN hP rest _ _ hdr hK
      rw [← put_eq] at ih
      rw [List.cons_append]; unfold wpListIn
      rcases hy with ⟨hw, hr⟩ | ⟨hw, rfl⟩
      · rw [if_pos hw]
        refine opIn hdo ?_
        unfold Oper.wp
        rw [hr w rfl]
        exact ih
      · rw [if_neg (by rw [hw]; simp)]
        exact ⟨fun _ _ => trivial, ih⟩
    unfold semL at h
    split at h
    · rcases stepW_wp (ds := ds) (next := wpListIn (WF ro) n P ops QQ (rest ++ os2)) (Q := QQ) h (fun v w' hk => by rw [put_eq]; exact semL_app hN hP rest _ _ hdr hk) (fun ch w' hx => hP _ _ _ hx) with ⟨hw, hh⟩ | ⟨hw, hh⟩
      · rw [List.cons_append]; unfold wpListIn
        rw [if_pos hw]
        exact opIn hdo hh
      · rw [List.cons_append]; unfold wpListIn
        rw [if_neg (by rw [hw]; simp)]
        exact ⟨fun _ _ => trivial, hh⟩
    · exact pure h
    · exact pure h
/-- Only the way on. -/
def justN (N : List Value → World → Prop) : QE
  | .normal, e, w => N e w
  | _, _, _ => False
theorem region_in {id : Nat} {ops : Array Oper} {N : List Value → World → Prop} {QQ : Exit → Act → World → Prop} {e : List Value} {w : World} (hd : ops.toList.all noDefer = true) (hN : ∀ e w, N e w → QQ .normal ⟨e.toArray, ds⟩ w)
    (h : semL P ops (justN N) ops.toList e w) : (Code.region id ops false).wpIn (WF ro) n P QQ ⟨e.toArray, ds⟩ w := by
  refine wpIn_region_list ?_
  have := semL_app (P := P) (ops := ops) (Q := justN N) (QQ := QQ) (os2 := []) (ds := ds) (ro := ro) (n := n) (fun e w hq => hN e w hq) (fun _ _ _ h => h.elim) ops.toList e w (fun o ho => List.all_eq_true.1 hd o ho) h
  rwa [List.append_nil] at this
/-- A region whose order is open, outside of a round. -/
theorem drawn_in (hm : P.follows .mixedOrders = true) {id : Nat} {ops : Array Oper} {N : List Value → World → Prop} {QQ : Exit → Act → World → Prop} {e : List Value} {w : World} (hN : ∀ e w, N e w → QQ .normal ⟨e.toArray, ds⟩ w)
    (h : sem P pl (.region id ops true) (justN N) e w) : (Code.region id ops true).wpIn (WF none) n P QQ ⟨e.toArray, ds⟩ w := by
  refine (wpIn_wide (n := n)).2 (wp_mono (sem_sound (ds := ds) hm _ _ e w (fun ch e e' w h => h.elim) h) fun ex a w' hh => ?_)
  obtain ⟨hd, hh⟩ := hh
  cases ex with
  | normal =>
    have := hN _ _ hh
    rwa [← act_eta a hd] at this
  | outgrown => cases hh
  | exit id => exact hh.elim
  | goto l => exact hh.elim
  | ret => exact hh.elim
  | panic ch => exact hh.elim
/-- Operations of a call of yield. -/
def sub : List Nat → Code → Code
  | 0 :: p, .seq a _ => sub p a
  | _ :: p, .seq _ b => sub p b
  | 0 :: p, .cond _ a _ => sub p a
  | _ :: p, .cond _ _ b => sub p b
  | _ :: p, .block _ c => sub p c
  | _ :: p, .scope c => sub p c
  | _ :: p, .loop c => sub p c
  | _ :: p, .rangeFunc _ _ _ c => sub p c
  | _, c => c
def asgOf : Code → Code
  | .rangeFunc _ _ a _ => a
  | c => c
def opsOf : Code → Array Oper
  | .region _ ops _ => ops
  | _ => #[]
def slot (g : Nat → Value) (i : Nat) (v : Value) : Nat → Value := fun j => if j = i then v else g j
theorem slot_same {g : Nat → Value} {i : Nat} {v : Value} : slot g i v i = v := by simp [slot]
theorem slot_ne {g : Nat → Value} {i j : Nat} {v : Value} (h : j ≠ i) : slot g i v j = g j := by simp [slot, h]
/-- A call of yield. -/
theorem yield_op {o : Oper} {c : Call} {f v : Operand} {a : Act} {w : World} {next : Act → World → Prop} {Q : Exit → Act → World → Prop} {l : Nat} (ho : o.op = .call c) (hc : c.callee = .value f) (hargs : c.args = #[v]) (hf : a.eval f = .func (.yield l) #[] #[])
    {R : Ending → World → Prop} (hy : YieldAt (WF none) (n - 1) P l #[a.eval v] w R) (hR : ∀ e w', R e w' → match e with | .returned v => next (a.put o.dst v) w' | _ => False) : o.wpIn (WF none) n P a w next Q := by
  obtain ⟨fn, tmps, assign, body, hr, hround⟩ := hy
  refine ⟨fun _ _ => trivial, ?_⟩
  have e1 : (Oper.semAt none a.eval o).run P w = .ok (.round l fn tmps assign body) w := by
    rw [Oper.semAt_none]
    unfold execOp
    simp only [ho, resolve, hc, hargs, hf, Deferred.ofValue, Sem.run_bind, Sem.run_pure, Result.andThen_ok, invoke]
    simpa using hr
  show o.uponIn (WF none) n P a next Q ((Oper.semAt none a.eval o).run P w)
  rw [e1]
  refine ⟨fun h => (by cases h), hround.mono fun e w' h => ?_⟩
  have := hR e w' h
  cases e with
  | returned v => exact this
  | panicked ch => exact this.elim
  | outgrown => exact this.elim
end Go.G
end
section
set_option linter.unusedSimpArgs false
set_option linter.unusedVariables false
namespace Go.Proofs.YtkpgmaiklfjjgaaGreatDoor
open Go Go.G Go.RowKit
variable {X : KX} {w : World} {K : KV} {D D' : Nat → Prop}
def sl31 (g : Nat → Value) : List Value := [g 0, g 1, g 2, g 3, g 4, g 5, g 6, g 7, g 8, g 9, g 10, g 11, g 12, g 13, g 14, g 15, g 16, g 17, g 18, g 19, g 20, g 21, g 22, g 23, g 24, g 25, g 26, g 27, g 28, g 29, g 30]
theorem ck0_eq (N : List Value → World → Prop) (g : Nat → Value) (w : World) : semL Tryz.prog (opsOf (sub [0] (bodyOf Tryz.f123))) (justN N) (opsOf (sub [0] (bodyOf Tryz.f123))).toList (sl31 g) w = N (sl31 (slot g 4 (.int .i64 0))) w := by kernel_rfl
theorem ck1_eq (N : List Value → World → Prop) (g : Nat → Value) (w : World) : semL Tryz.prog (opsOf (sub [1, 0, 0, 0, 0] (bodyOf Tryz.f123))) (justN N) (opsOf (sub [1, 0, 0, 0, 0] (bodyOf Tryz.f123))).toList (sl31 g) w =
  (pLd (· = w) (g 1) fun t7 => pLenSl t7 fun t8 => pBinI .lss .i64 (g 4) t8 fun t9 => N (sl31 (slot (slot (slot (slot g 6 (g 4)) 7 t7) 8 t8) 9 t9)) w) := by kernel_rfl
theorem ck3_eq (N : List Value → World → Prop) (g : Nat → Value) (w : World) : sem Tryz.prog slices_Chunk_byte_byte_c1.pl (sub [1, 0, 0, 1, 0, 0, 0] (bodyOf Tryz.f123)) (justN N) (sl31 g) w =
  (drawn w fun S w => pLd S (g 2) fun t13 => pLd S (g 1) fun t14 => pSl 1 t14 (some (g 4)) none none fun t16 => pLenSl t16 fun t17 => pMin t13 t17 fun t18 => N (sl31 (slot (slot (slot (slot (slot (slot (slot g 13 t13) 14 t14) 15 (g 4)) 16 t16) 17 t17) 18 t18) 5 t18)) w) := by kernel_rfl
theorem ck4_eq (N : List Value → World → Prop) (g : Nat → Value) (w : World) : semL Tryz.prog (opsOf (sub [1, 0, 0, 1, 0, 0, 1, 0] (bodyOf Tryz.f123))) (justN N) ((opsOf (sub [1, 0, 0, 1, 0, 0, 1, 0] (bodyOf Tryz.f123))).toList.take 10) (sl31 g) w =
  (pLd (· = w) (g 1) fun t20 => pBinI .add .i64 (g 4) (g 5) fun t24 => pBinI .add .i64 (g 4) (g 5) fun t27 => pSl 1 t20 (some (g 4)) (some t24) (some t27) fun t28 => N (sl31 (slot (slot (slot (slot (slot (slot (slot (slot (slot (slot g 19 (g 0)) 20 t20) 21 (g 4)) 22 (g 4)) 23 (g 5)) 24 t24) 25 (g 4)) 26 (g 5)) 27 t27) 28 t28)) w) := by kernel_rfl
theorem ck5_eq (N : List Value → World → Prop) (g : Nat → Value) (w : World) : semL Tryz.prog (opsOf (sub [1, 0, 0, 1, 0, 0, 1, 0] (bodyOf Tryz.f123))) (justN N) ((opsOf (sub [1, 0, 0, 1, 0, 0, 1, 0] (bodyOf Tryz.f123))).toList.drop 11) (sl31 g) w =
  (pNot (g 29) fun t30 => N (sl31 (slot g 30 t30)) w) := by kernel_rfl
theorem ck2_eq (N : List Value → World → Prop) (g : Nat → Value) (w : World) : semL Tryz.prog (opsOf (sub [1, 0, 0, 1, 1] (bodyOf Tryz.f123))) (justN N) (opsOf (sub [1, 0, 0, 1, 1] (bodyOf Tryz.f123))).toList (sl31 g) w =
  (pLd (· = w) (g 2) fun t11 => pBinI .add .i64 (g 4) t11 fun t12 => N (sl31 (slot (slot (slot (slot g 10 (g 4)) 11 t11) 12 t12) 4 t12)) w) := by kernel_rfl
theorem sl31_nth (g : Nat → Value) : ∀ i, i < 31 → nth (sl31 g) i = g i
  | 0, _ | 1, _ | 2, _ | 3, _ | 4, _ | 5, _ | 6, _ | 7, _ | 8, _ | 9, _ | 10, _ | 11, _ | 12, _ | 13, _ | 14, _ | 15, _ | 16, _ | 17, _ | 18, _ | 19, _ | 20, _ | 21, _ | 22, _ | 23, _ | 24, _ | 25, _ | 26, _ | 27, _ | 28, _ | 29, _ | 30, _ => rfl
  | n + 31, h => absurd h (by omega)
theorem ev31 (g : Nat → Value) (i : Nat) (hi : i < 31) : Act.eval ⟨(sl31 g).toArray, []⟩ (.tmp i) = g i := by
  rw [eval_eq]; exact sl31_nth g i hi
/-- What a round keeps: what lay below n₀, but for the blocks of T. -/
def Kp (T : Nat → Prop) (n₀ : Nat) (W W' : World) : Prop := W.heap.size ≤ W'.heap.size ∧ ∀ b, b < n₀ → ¬ T b → W'.heap[b]? = W.heap[b]?
theorem Kp.refl {T : Nat → Prop} {n₀ : Nat} (W : World) : Kp T n₀ W W := ⟨Nat.le_refl _, fun _ _ _ => rfl⟩
theorem Kp.trans {T : Nat → Prop} {n₀ : Nat} {A B C : World} (h : Kp T n₀ A B) (k : Kp T n₀ B C) : Kp T n₀ A C := ⟨Nat.le_trans h.1 k.1, fun b hb hT => (k.2 b hb hT).trans (h.2 b hb hT)⟩
theorem Kp.size {T : Nat → Prop} {n₀ : Nat} {A B : World} (h : Kp T n₀ A B) : A.heap.size ≤ B.heap.size := h.1
theorem Kp.cell {T : Nat → Prop} {n₀ : Nat} {A B : World} (h : Kp T n₀ A B) {p : Addr} (hp : p.block < n₀ ∧ ¬ T p.block) : B.cell? p = A.cell? p := cell_congr (h.2 _ hp.1 hp.2)
def ckV (ad : Addr) (j : Nat) : Value := .slice (some (ad.add (64 * j))) 64 64
theorem ext_grown {w w' : World} (h : Ext w w') : w.grownBy w' none := ⟨h.os, h.tape, h.output, h.size, fun k hk _ => h.keep k hk (fun h => h)⟩
theorem ext_kp {T : Nat → Prop} {w w' : World} (h : Ext w w') {B : Nat} (hB : B ≤ w.heap.size) : Kp T B w w' := ⟨h.size, fun k hk _ => h.keep k (by omega) (fun h => h)⟩
theorem fin_take {m k : Nat} (h : k < m) : (List.finRange m).take (k + 1) = (List.finRange m).take k ++ [⟨k, h⟩] := by
  rw [List.take_succ_eq_append_getElem (by simpa using h)]; simp
theorem slots (g : Nat → Value) : (sl31 g).toArray.toList = sl31 g := rfl
set_option maxHeartbeats 1000000 in
set_option maxRecDepth 100000 in
theorem chunk_in {T : Nat → Prop} {n l Bs Bn n₀ m c : Nat} {ad : Addr} {J Jx : List (Fin m) → World → Prop} (hm : 64 * m ≤ 1000000) (hBs : Bs < n₀ ∧ ¬ T Bs) (hBn : Bn < n₀ ∧ ¬ T Bn)
    (hY : ∀ pre x W, J pre W → pre.length < m → YieldAt (WF none) (n - 1) Tryz.prog l #[ckV ad x.val] W fun e W' => (e = .returned (.bool true) ∧ J (pre ++ [x]) W' ∧ Kp T n₀ W W') ∨ (e = .returned (.bool false) ∧ Jx (pre ++ [x]) W'))
    {W : World} (hn₀ : n₀ ≤ W.heap.size) (hJ : AbidesFrom W.heap.size J) (h1 : W.cell? ⟨Bs, 0, none⟩ = some (.slice (some ad) (64 * m) c)) (hc : 64 * m ≤ c) (h2 : W.cell? ⟨Bn, 0, none⟩ = some (.int .i64 64)) (h0 : J [] W) :
    CallsIn (WF none) n Tryz.prog 123 #[.func (.yield l) #[] #[], .pointer (some ⟨Bs, 0, none⟩), .pointer (some ⟨Bn, 0, none⟩)] W fun e W' => (∃ v, e = .returned v) ∧
      ((∃ ys, ys = List.finRange m ∧ J ys W') ∨ (∃ pre, True ∧ Jx pre W')) := by
  refine callsIn_of_wp Tryz.func123 rfl trivial ?_ rfl
  have he : ({ tmps := #[Value.func (.yield l) #[] #[], .pointer (some ⟨Bs, 0, none⟩), .pointer (some ⟨Bn, 0, none⟩)] ++ Array.replicate (Tryz.f123.ntmps - 3) undef, defers := [] } : Act) =
    ⟨(sl31 (fun i => nth ([Value.func (.yield l) #[] #[], .pointer (some ⟨Bs, 0, none⟩), .pointer (some ⟨Bn, 0, none⟩)] ++ undefs 28) i)).toArray, []⟩ := by kernel_rfl
  refine (Eq.mpr (congrArg (fun a => Code.wpIn _ _ _ _ _ a W) he) ?_)
  refine wpIn_seq (region_in (by kernel_rfl) (N := fun e w => Code.wpIn (WF none) n Tryz.prog (sub [1] (bodyOf Tryz.f123)) _ ⟨e.toArray, []⟩ w) (fun e w h => h) (Eq.mpr (ck0_eq _ _ _) ?_))
  refine wpIn_block (wpIn_loop (fun a w => ∃ k g, k ≤ m ∧ a = ⟨(sl31 g).toArray, []⟩ ∧ g 0 = .func (.yield l) #[] #[] ∧ g 1 = .pointer (some ⟨Bs, 0, none⟩) ∧ g 2 = .pointer (some ⟨Bn, 0, none⟩) ∧ g 4 = .int .i64 ((64 * k : Nat) : Int) ∧ J ((List.finRange m).take k) w ∧ Kp T n₀ W w ∧ W.heap.size ≤ w.heap.size)
    (fun a _ => (64 * m - iv (nth a.tmps.toList 4)).toNat) ⟨0, _, by omega, rfl, rfl, rfl, rfl, rfl, by simpa using h0, Kp.refl _, Nat.le_refl _⟩ ?_)
  rintro _ w ⟨k, g, hk, rfl, g0, g1, g2, g4, hJk, hb, hsz⟩
  have q1 : w.cell? ⟨Bs, 0, none⟩ = some (.slice (some ad) (64 * m) c) := (hb.cell (p := ⟨Bs, 0, none⟩) hBs).trans h1
  have q2 : w.cell? ⟨Bn, 0, none⟩ = some (.int .i64 64) := (hb.cell (p := ⟨Bn, 0, none⟩) hBn).trans h2
  refine wpIn_seq (wpIn_seq (region_in (by kernel_rfl) (N := fun e w => Code.wpIn (WF none) n Tryz.prog (sub [1, 0, 0, 0, 1] (bodyOf Tryz.f123)) _ ⟨e.toArray, []⟩ w) (fun e w h => h) (Eq.mpr (ck1_eq _ _ _) ?_)))
  rw [g1, g4]
  simp only [↓eBinI, ↓eDiv, ↓eShift, ↓eBinS, ↓ePick, ↓eNot, ↓eNeg, ↓eConv, ↓eConvS, ↓eExt0, ↓eExt1, ↓eExt2, ↓eFA, ↓eIA, ↓eLenSl, ↓eCapSl, ↓eLenS, ↓eMin, ↓eMax, ↓eCondT, ↓eCondF, ↓gIf_tt, ↓gIf_ff, ↓gIf_tf, ↓gIf_ft, ↓gIf_u, ↓gIfW_u, ↓gIfW_tt, ↓gIfW_ff, ↓gIfW_tf, ↓gIfW_ft, binI, divI, shiftI, add_mk, Nat.zero_add, cond_true, cond_false, decide_true, decide_false, Bool.not_true, Bool.not_false, Bool.and_true, Bool.true_and, Bool.and_false, Bool.false_and, Int.toNat_natCast, Nat.mul_one, ↓eLdW, q1, Option.some.injEq, exists_eq_left']
  by_cases ck : k < m
  · refine wpIn_cond (t := true) (by rw [ev31 _ _ (by omega), slot_same]; congr 1; rw [decide_eq_true]; omega) ?_
    refine wpIn_skip ?_
    generalize hg' : slot (slot (slot (slot g 6 _) 7 _) 8 _) 9 _ = g'
    have p0 : g' 0 = .func (.yield l) #[] #[] := by rw [← hg']; simp [slot, g0]
    have p1 : g' 1 = .pointer (some ⟨Bs, 0, none⟩) := by rw [← hg']; simp [slot, g1]
    have p2 : g' 2 = .pointer (some ⟨Bn, 0, none⟩) := by rw [← hg']; simp [slot, g2]
    have p4 : g' 4 = .int .i64 ((64 * k : Nat) : Int) := by rw [← hg']; simp [slot, g4]
    clear hg' g0 g1 g2
    refine wpIn_seq (wpIn_block (wpIn_seq (drawn_in hmixed (N := fun e w => Code.wpIn (WF none) n Tryz.prog (sub [1, 0, 0, 1, 0, 0, 1] (bodyOf Tryz.f123)) _ ⟨e.toArray, []⟩ w) (fun e w h => h) (Eq.mpr (ck3_eq _ _ _) ?_))))
    refine draw_ fun w2 hx => ?_
    have r1 := hx.cell q1
    have r2 := hx.cell q2
    rw [p1, p2, p4]
    simp only [↓eBinI, ↓eDiv, ↓eShift, ↓eBinS, ↓ePick, ↓eNot, ↓eNeg, ↓eConv, ↓eConvS, ↓eExt0, ↓eExt1, ↓eExt2, ↓eFA, ↓eIA, ↓eLenSl, ↓eCapSl, ↓eLenS, ↓eMin, ↓eMax, ↓eCondT, ↓eCondF, ↓gIf_tt, ↓gIf_ff, ↓gIf_tf, ↓gIf_ft, ↓gIf_u, ↓gIfW_u, ↓gIfW_tt, ↓gIfW_ff, ↓gIfW_tf, ↓gIfW_ft, binI, divI, shiftI, add_mk, Nat.zero_add, cond_true, cond_false, decide_true, decide_false, Bool.not_true, Bool.not_false, Bool.and_true, Bool.true_and, Bool.and_false, Bool.false_and, Int.toNat_natCast, Nat.mul_one, ↓eLdE r1, ↓eLdE r2]
    refine eSl (l := 64 * k) (h := 64 * m) (m := c) (bnd_int (by omega)) bnd_none bnd_none (by omega) (by omega) (by omega) (by simp) ?_
    have e5 : (if ((64 * m - 64 * k : Nat) : Int) < (64 : Int) then ((64 * m - 64 * k : Nat) : Int) else (64 : Int)) = 64 := by rw [if_neg (by omega)]
    simp only [↓eBinI, ↓eDiv, ↓eShift, ↓eBinS, ↓ePick, ↓eNot, ↓eNeg, ↓eConv, ↓eConvS, ↓eExt0, ↓eExt1, ↓eExt2, ↓eFA, ↓eIA, ↓eLenSl, ↓eCapSl, ↓eLenS, ↓eMin, ↓eMax, ↓eCondT, ↓eCondF, ↓gIf_tt, ↓gIf_ff, ↓gIf_tf, ↓gIf_ft, ↓gIf_u, ↓gIfW_u, ↓gIfW_tt, ↓gIfW_ff, ↓gIfW_tf, ↓gIfW_ft, binI, divI, shiftI, add_mk, Nat.zero_add, cond_true, cond_false, decide_true, decide_false, Bool.not_true, Bool.not_false, Bool.and_true, Bool.true_and, Bool.and_false, Bool.false_and, Int.toNat_natCast, Nat.mul_one, e5]
    generalize hg' : slot (slot (slot (slot (slot (slot (slot g' 13 _) 14 _) 15 _) 16 _) 17 _) 18 _) 5 _ = g2
    have p0' : g2 0 = .func (.yield l) #[] #[] := by rw [← hg']; simp [slot, p0]
    have p1' : g2 1 = .pointer (some ⟨Bs, 0, none⟩) := by rw [← hg']; simp [slot, p1]
    have p2' : g2 2 = .pointer (some ⟨Bn, 0, none⟩) := by rw [← hg']; simp [slot, p2]
    have p4' : g2 4 = .int .i64 ((64 * k : Nat) : Int) := by rw [← hg']; simp [slot, p4]
    have p5' : g2 5 = .int .i64 64 := by rw [← hg']; simp [slot]
    clear hg' p0 p1 p2 p4 g'
    have hJ2 : J ((List.finRange m).take k) w2 := hJ _ _ _ none hJk (ext_grown hx) (fun r e => by cases e)
    have hb2 : Kp T n₀ W w2 := hb.trans (ext_kp hx (by omega))
    have hlen : ((List.finRange m).take k).length < m := by simp; omega
    have hy := hY _ ⟨k, ck⟩ w2 hJ2 hlen
    rw [← fin_take ck] at hy
    have v1 : w2.cell? ⟨Bs, 0, none⟩ = some (.slice (some ad) (64 * m) c) := r1
    refine wpIn_seq (wpIn_region_list ?_)
    refine Eq.mpr (congrArg (fun L => wpListIn _ _ _ _ _ L _ _) (List.take_append_drop 10 _).symm) ?_
    refine semL_app (Q := justN fun e w => wpListIn (WF none) n Tryz.prog (opsOf (sub [1, 0, 0, 1, 0, 0, 1, 0] (bodyOf Tryz.f123))) _ (List.drop 10 (opsOf (sub [1, 0, 0, 1, 0, 0, 1, 0] (bodyOf Tryz.f123))).toList) ⟨e.toArray, []⟩ w) (fun e w h => h) (fun _ _ _ h => h.elim) _ _ _ (fun o ho => List.all_eq_true.1 (by kernel_rfl) o ho) (Eq.mpr (ck4_eq _ _ _) ?_)
    have a1 : IntKind.i64.wrap (((64 * k : Nat) : Int) + 64) = ((64 * k + 64 : Nat) : Int) := by rw [wrap64 (by omega) (by omega)]; omega
    rw [p1', p4', p5']
    simp only [↓eBinI, ↓eDiv, ↓eShift, ↓eBinS, ↓ePick, ↓eNot, ↓eNeg, ↓eConv, ↓eConvS, ↓eExt0, ↓eExt1, ↓eExt2, ↓eFA, ↓eIA, ↓eLenSl, ↓eCapSl, ↓eLenS, ↓eMin, ↓eMax, ↓eCondT, ↓eCondF, ↓gIf_tt, ↓gIf_ff, ↓gIf_tf, ↓gIf_ft, ↓gIf_u, ↓gIfW_u, ↓gIfW_tt, ↓gIfW_ff, ↓gIfW_tf, ↓gIfW_ft, binI, divI, shiftI, add_mk, Nat.zero_add, cond_true, cond_false, decide_true, decide_false, Bool.not_true, Bool.not_false, Bool.and_true, Bool.true_and, Bool.and_false, Bool.false_and, Int.toNat_natCast, Nat.mul_one, ↓eLdW, v1, Option.some.injEq, exists_eq_left', a1]
    refine eSl (l := 64 * k) (h := 64 * k + 64) (m := 64 * k + 64) (bnd_int (by omega)) (bnd_int (by omega)) (bnd_int (by omega)) (by omega) (by omega) (by omega) (by simp) ?_
    have a2 : Value.slice (if 64 * k + 64 = 64 * k then some ad else (some ad).map (·.add (64 * k * 1))) (64 * k + 64 - 64 * k) (64 * k + 64 - 64 * k) = ckV ad k := by
      rw [if_neg (by omega), Option.map_some, Nat.mul_one, Nat.add_sub_cancel_left]; rfl
    rw [a2]
    generalize hg' : slot (slot (slot (slot (slot (slot (slot (slot (slot (slot g2 19 _) 20 _) 21 _) 22 _) 23 _) 24 _) 25 _) 26 _) 27 _) 28 _ = g3
    have p0 : g3 0 = .func (.yield l) #[] #[] := by rw [← hg']; simp [slot, p0']
    have p1 : g3 1 = .pointer (some ⟨Bs, 0, none⟩) := by rw [← hg']; simp [slot, p1']
    have p2 : g3 2 = .pointer (some ⟨Bn, 0, none⟩) := by rw [← hg']; simp [slot, p2']
    have p4 : g3 4 = .int .i64 ((64 * k : Nat) : Int) := by rw [← hg']; simp [slot, p4']
    have p19 : g3 19 = .func (.yield l) #[] #[] := by rw [← hg']; simp [slot, p0']
    have p28 : g3 28 = ckV ad k := by rw [← hg']; simp [slot]
    clear hg' p0' p1' p2' p4' p5' g2
    refine BigFrame.wpListIn_want rfl fun K hK => ?_
    refine yield_op (l := l) (f := .tmp 19) (v := .tmp 28) rfl rfl rfl (by rw [ev31 _ _ (by omega)]; exact p19) (by rw [ev31 _ _ (by omega), p28]; exact hy) ?_
    have goOn : ∀ (b : Bool) w', Code.wpIn (WF none) n Tryz.prog (sub [1, 0, 0, 1, 0, 0, 1, 1] (bodyOf Tryz.f123)) (Exit.inBlock 1 (Exit.then (Code.wpIn (WF none) n Tryz.prog (sub [1, 0, 0, 1, 1] (bodyOf Tryz.f123)) (Exit.then (fun a' w' => (∃ k g, k ≤ m ∧ a' = ⟨(sl31 g).toArray, []⟩ ∧ g 0 = .func (.yield l) #[] #[] ∧ g 1 = .pointer (some ⟨Bs, 0, none⟩) ∧ g 2 = .pointer (some ⟨Bn, 0, none⟩) ∧ g 4 = .int .i64 ((64 * k : Nat) : Int) ∧ J ((List.finRange m).take k) w' ∧ Kp T n₀ W w' ∧ W.heap.size ≤ w'.heap.size) ∧ (64 * (m : Int) - iv (nth a'.tmps.toList 4)).toNat < (64 * (m : Int) - iv (nth (sl31 g) 4)).toNat) (Exit.inBlock 0 (bodyPost Tryz.prog Tryz.f123 fun e W' => (∃ v, e = .returned v) ∧ ((∃ ys, ys = List.finRange m ∧ J ys W') ∨ (∃ pre, True ∧ Jx pre W')))))) (Exit.then (fun a' w' => (∃ k g, k ≤ m ∧ a' = ⟨(sl31 g).toArray, []⟩ ∧ g 0 = .func (.yield l) #[] #[] ∧ g 1 = .pointer (some ⟨Bs, 0, none⟩) ∧ g 2 = .pointer (some ⟨Bn, 0, none⟩) ∧ g 4 = .int .i64 ((64 * k : Nat) : Int) ∧ J ((List.finRange m).take k) w' ∧ Kp T n₀ W w' ∧ W.heap.size ≤ w'.heap.size) ∧ (64 * (m : Int) - iv (nth a'.tmps.toList 4)).toNat < (64 * (m : Int) - iv (nth (sl31 g) 4)).toNat) (Exit.inBlock 0 (bodyPost Tryz.prog Tryz.f123 fun e W' => (∃ v, e = .returned v) ∧ ((∃ ys, ys = List.finRange m ∧ J ys W') ∨ (∃ pre, True ∧ Jx pre W'))))))) ⟨(sl31 (slot (slot g3 29 (.bool b)) 30 (.bool (!b)))).toArray, []⟩ w' → K (Act.put ⟨(sl31 g3).toArray, []⟩ (some 29) (.bool b)) w' := by
      intro b w' hh
      refine hK _ _ ?_
      show wpListIn (WF none) n Tryz.prog (opsOf (sub [1, 0, 0, 1, 0, 0, 1, 0] (bodyOf Tryz.f123))) _ (List.drop 11 (opsOf (sub [1, 0, 0, 1, 0, 0, 1, 0] (bodyOf Tryz.f123))).toList ++ []) ⟨(sl31 (slot g3 29 (.bool b))).toArray, []⟩ w'
      refine semL_app (os2 := []) (Q := justN fun e w => Code.wpIn (WF none) n Tryz.prog (sub [1, 0, 0, 1, 0, 0, 1, 1] (bodyOf Tryz.f123)) _ ⟨e.toArray, []⟩ w) (by intro e w h; exact h) (fun _ _ _ h => h.elim) _ _ _ (fun o ho => List.all_eq_true.1 (by kernel_rfl) o ho) (Eq.mpr (ck5_eq _ _ _) ?_)
      rw [slot_same]
      simp only [↓eBinI, ↓eDiv, ↓eShift, ↓eBinS, ↓ePick, ↓eNot, ↓eNeg, ↓eConv, ↓eConvS, ↓eExt0, ↓eExt1, ↓eExt2, ↓eFA, ↓eIA, ↓eLenSl, ↓eCapSl, ↓eLenS, ↓eMin, ↓eMax, ↓eCondT, ↓eCondF, ↓gIf_tt, ↓gIf_ff, ↓gIf_tf, ↓gIf_ft, ↓gIf_u, ↓gIfW_u, ↓gIfW_tt, ↓gIfW_ff, ↓gIfW_tf, ↓gIfW_ft, binI, divI, shiftI, add_mk, Nat.zero_add, cond_true, cond_false, decide_true, decide_false, Bool.not_true, Bool.not_false, Bool.and_true, Bool.true_and, Bool.and_false, Bool.false_and, Int.toNat_natCast, Nat.mul_one]
      exact hh
    rintro e w' (⟨rfl, hJ', hb'⟩ | ⟨rfl, hJx⟩)
    · refine goOn true w' ?_
      refine wpIn_cond (t := false) (by rw [ev31 _ _ (by omega), slot_same]; rfl) ?_
      refine wpIn_skip ?_
      simp only [Exit.then, Exit.inBlock]
      have s1 : w'.cell? ⟨Bn, 0, none⟩ = some (.int .i64 64) := ((hb2.trans hb').cell (p := ⟨Bn, 0, none⟩) hBn).trans h2
      refine (region_in (by kernel_rfl) (N := fun e w => _) (fun e w h => h) (Eq.mpr (ck2_eq _ _ _) ?_))
      have t2 : slot (slot g3 29 (.bool true)) 30 (.bool (!true)) 2 = .pointer (some ⟨Bn, 0, none⟩) := by simp [slot, p2]
      have t4 : slot (slot g3 29 (.bool true)) 30 (.bool (!true)) 4 = .int .i64 ((64 * k : Nat) : Int) := by simp [slot, p4]
      rw [t2, t4]
      simp only [↓eBinI, ↓eDiv, ↓eShift, ↓eBinS, ↓ePick, ↓eNot, ↓eNeg, ↓eConv, ↓eConvS, ↓eExt0, ↓eExt1, ↓eExt2, ↓eFA, ↓eIA, ↓eLenSl, ↓eCapSl, ↓eLenS, ↓eMin, ↓eMax, ↓eCondT, ↓eCondF, ↓gIf_tt, ↓gIf_ff, ↓gIf_tf, ↓gIf_ft, ↓gIf_u, ↓gIfW_u, ↓gIfW_tt, ↓gIfW_ff, ↓gIfW_tf, ↓gIfW_ft, binI, divI, shiftI, add_mk, Nat.zero_add, cond_true, cond_false, decide_true, decide_false, Bool.not_true, Bool.not_false, Bool.and_true, Bool.true_and, Bool.and_false, Bool.false_and, Int.toNat_natCast, Nat.mul_one, ↓eLdW, s1, Option.some.injEq, exists_eq_left', a1]
      have hmm : nth (sl31 g) 4 = .int .i64 ((64 * k : Nat) : Int) := g4
      refine ⟨⟨k + 1, _, by omega, rfl, ?_, ?_, ?_, ?_, hJ', hb2.trans hb', ?_⟩, ?_⟩
      · simp [slot, p0]
      · simp [slot, p1]
      · simp [slot, p2]
      · simp [slot]; omega
      · have := hx.size; have := hb'.size; omega
      · rw [hmm]
        show (64 * (m : Int) - iv (Value.int .i64 ((64 * k + 64 : Nat) : Int))).toNat < (64 * (m : Int) - iv (Value.int .i64 ((64 * k : Nat) : Int))).toNat
        simp only [iv]; omega
    · refine goOn false w' ?_
      refine wpIn_cond (t := true) (by rw [ev31 _ _ (by omega), slot_same]; rfl) ?_
      refine wpIn_ret ?_
      simp only [Exit.then, Exit.inBlock]
      exact bodyPost_ret (results_none rfl _ _ _) rfl ⟨⟨_, rfl⟩, .inr ⟨_, trivial, hJx⟩⟩
  · refine wpIn_cond (t := false) (by rw [ev31 _ _ (by omega), slot_same]; congr 1; rw [decide_eq_false]; omega) ?_
    refine wpIn_exit ?_
    simp only [Exit.then, Exit.inBlock, if_true]
    refine bodyPost_end (results_none rfl _ _ _) rfl ?_
    refine ⟨⟨_, rfl⟩, .inl ⟨_, rfl, ?_⟩⟩
    rwa [List.take_of_length_le (by simp; omega)] at hJk
end Go.Proofs.YtkpgmaiklfjjgaaGreatDoor
end
section
set_option linter.unusedSimpArgs false
set_option linter.unusedVariables false
namespace Go.Proofs.YtkpgmaiklfjjgaaGreatDoor
open Go Go.G Go.RowKit Go.Shelf
variable {X : KX} {w : World} {K : KV} {D D' : Nat → Prop}
def sl30 (g : Nat → Value) : List Value := [g 0, g 1, g 2, g 3, g 4, g 5, g 6, g 7, g 8, g 9, g 10, g 11, g 12, g 13, g 14, g 15, g 16, g 17, g 18, g 19, g 20, g 21, g 22, g 23, g 24, g 25, g 26, g 27, g 28, g 29]
theorem su0_eq (N : List Value → World → Prop) (g : Nat → Value) (w : World) : semL Tryz.prog (opsOf (sub [0] (bodyOf Tryz.f106))) (justN N) (opsOf (sub [0] (bodyOf Tryz.f106))).toList (sl30 g) w =
  (N (sl30 (slot g 2 (.slice none 0 0))) w) := by kernel_rfl
theorem su1_eq (N : List Value → World → Prop) (g : Nat → Value) (w : World) : semL Tryz.prog (opsOf (sub [1, 0] (bodyOf Tryz.f106))) (justN N) (opsOf (sub [1, 0] (bodyOf Tryz.f106))).toList (sl30 g) w =
  (pCall Tryz.prog 115 [] (fun _ _ => False) w fun t7 w => pBox 140 (.agg #[.int .u32 0, .int .u32 0, .int .u32 0, .int .u32 0, .int .u32 0, .int .u32 0, .int .u32 0, .int .u32 0]) w fun t3 w => pStN 8 t3 t7 w fun _ w => N (sl30 (slot (slot g 7 t7) 3 t3)) w) := by kernel_rfl
theorem su2_eq (N : List Value → World → Prop) (g : Nat → Value) (w : World) : semL Tryz.prog (opsOf (sub [1, 1, 0, 0] (bodyOf Tryz.f106))) (justN N) (opsOf (sub [1, 1, 0, 0] (bodyOf Tryz.f106))).toList (sl30 g) w =
  (pLenSl (g 0) fun t10 => pCall Tryz.prog 117 [t10] (fun _ _ => False) w fun t11 w => pBSlice 22 2 (rowOf [.slice none 0 0] 2) [(0, 1, g 0), (1, 1, t11)] w fun t12 w => pCall Tryz.prog 83 [t12] (fun _ _ => False) w fun t13 w => pCall Tryz.prog 116 [t13, .int .i64 64] (fun _ _ => False) w fun t14 w => N (sl30 (slot (slot (slot (slot (slot (slot (slot g 8 (g 0)) 9 (g 0)) 10 t10) 11 t11) 12 t12) 13 t13) 14 t14)) w) := by kernel_rfl
theorem su3_eq (N : List Value → World → Prop) (g : Nat → Value) (w : World) : semL Tryz.prog (opsOf (asgOf (sub [1, 1, 0, 1, 0] (bodyOf Tryz.f106)))) (justN N) (opsOf (asgOf (sub [1, 1, 0, 1, 0] (bodyOf Tryz.f106)))).toList (sl30 g) w =
  (N (sl30 (slot g 4 (g 15))) w) := by kernel_rfl
theorem su4_eq (N : List Value → World → Prop) (g : Nat → Value) (w : World) : semL Tryz.prog (opsOf (sub [1, 1, 0, 1, 0, 0, 0] (bodyOf Tryz.f106))) (justN N) (opsOf (sub [1, 1, 0, 1, 0, 0, 0] (bodyOf Tryz.f106))).toList (sl30 g) w =
  (pLdN (· = w) 8 (g 3) fun t16 => pCall Tryz.prog 118 [t16, g 4] (fun _ _ => False) w fun t18 w => pStN 8 (g 3) t18 w fun _ w => N (sl30 (slot (slot (slot g 16 t16) 17 (g 4)) 18 t18)) w) := by kernel_rfl
theorem su5_eq (N : List Value → World → Prop) (g : Nat → Value) (w : World) : semL Tryz.prog (opsOf (sub [1, 1, 1, 0, 0] (bodyOf Tryz.f106))) (justN N) (opsOf (sub [1, 1, 1, 0, 0] (bodyOf Tryz.f106))).toList (sl30 g) w =
  (pLdN (· = w) 8 (g 3) fun t19 => N (sl30 (slot (slot g 19 t19) 20 (.int .i64 0))) w) := by kernel_rfl
theorem su6_eq (N : List Value → World → Prop) (g : Nat → Value) (w : World) : semL Tryz.prog (opsOf (sub [1, 1, 1, 0, 1, 0, 0, 0] (bodyOf Tryz.f106))) (justN N) (opsOf (sub [1, 1, 1, 0, 1, 0, 0, 0] (bodyOf Tryz.f106))).toList (sl30 g) w =
  (pBinI .lss .i64 (g 20) (.int .i64 8) fun t21 => N (sl30 (slot g 21 t21)) w) := by kernel_rfl
theorem su7_eq (N : List Value → World → Prop) (g : Nat → Value) (w : World) : semL Tryz.prog (opsOf (sub [1, 1, 1, 0, 1, 0, 0, 1, 1, 0, 0, 0] (bodyOf Tryz.f106))) (justN N) (opsOf (sub [1, 1, 1, 0, 1, 0, 0, 1, 1, 0, 0, 0] (bodyOf Tryz.f106))).toList (sl30 g) w =
  (pIx 8 (g 19) (g 20) fun t22 => N (sl30 (slot (slot g 22 t22) 6 t22)) w) := by kernel_rfl
theorem su8_eq (N : List Value → World → Prop) (g : Nat → Value) (w : World) : semL Tryz.prog (opsOf (sub [1, 1, 1, 0, 1, 0, 0, 1, 1, 0, 0, 1] (bodyOf Tryz.f106))) (justN N) (opsOf (sub [1, 1, 1, 0, 1, 0, 0, 1, 1, 0, 0, 1] (bodyOf Tryz.f106))).toList (sl30 g) w =
  (pConv .u64 (g 6) fun t25 => pCall Tryz.prog 62 [t25, .int .i64 4] (fun _ _ => False) w fun t26 w => pApp 5 1 1 [.int .u8 0] (g 2) t26 w fun t27 w => N (sl30 (slot (slot (slot (slot (slot (slot g 23 (g 2)) 24 (g 6)) 25 t25) 26 t26) 27 t27) 2 t27)) w) := by kernel_rfl
theorem su9_eq (N : List Value → World → Prop) (g : Nat → Value) (w : World) : semL Tryz.prog (opsOf (sub [1, 1, 1, 0, 1, 0, 0, 1, 1, 1] (bodyOf Tryz.f106))) (justN N) (opsOf (sub [1, 1, 1, 0, 1, 0, 0, 1, 1, 1] (bodyOf Tryz.f106))).toList (sl30 g) w =
  (pBinI .add .i64 (g 20) (.int .i64 1) fun t28 => N (sl30 (slot (slot g 28 t28) 20 t28)) w) := by kernel_rfl
theorem su10_eq (N : List Value → World → Prop) (g : Nat → Value) (w : World) : semL Tryz.prog (opsOf (sub [1, 1, 1, 1, 0] (bodyOf Tryz.f106))) (justN N) (opsOf (sub [1, 1, 1, 1, 0] (bodyOf Tryz.f106))).toList (sl30 g) w =
  (N (sl30 (slot (slot g 29 (g 2)) 2 (g 2))) w) := by kernel_rfl
theorem sl30_nth (g : Nat → Value) : ∀ i, i < 30 → nth (sl30 g) i = g i
  | 0, _ | 1, _ | 2, _ | 3, _ | 4, _ | 5, _ | 6, _ | 7, _ | 8, _ | 9, _ | 10, _ | 11, _ | 12, _ | 13, _ | 14, _ | 15, _ | 16, _ | 17, _ | 18, _ | 19, _ | 20, _ | 21, _ | 22, _ | 23, _ | 24, _ | 25, _ | 26, _ | 27, _ | 28, _ | 29, _ => rfl
  | n + 30, h => absurd h (by omega)
theorem ev30 {ds : List Deferred} (g : Nat → Value) (i : Nat) (hi : i < 30) : Act.eval ⟨(sl30 g).toArray, ds⟩ (.tmp i) = g i := by
  rw [eval_eq]; exact sl30_nth g i hi
theorem Chunk_c {a : Addr} {n c : Nat} {K : KV} (h : ∀ Bs Bn w', w.heap.size ≤ Bs → w.heap.size ≤ Bn → Bs < w'.heap.size → Bn < w'.heap.size → Ext w w' → w'.cell? ⟨Bs, 0, none⟩ = some (.slice (some a) n c) → w'.cell? ⟨Bn, 0, none⟩ = some (.int .i64 64) → K (.func (.func 123) #[] #[.pointer (some ⟨Bs, 0, none⟩), .pointer (some ⟨Bn, 0, none⟩)]) w') : GCalls Tryz.prog 116 [.slice (some a) n c, .int .i64 64] K X w := by
  apply slices_Chunk_byte_byte.calls; unfold slices_Chunk_byte_byte.b
  refine boxV rfl fun g1 w1 hg1 h1 c1 => ?_
  refine boxV rfl fun g2 w2 hg2 h2 c2 => ?_
  have l1 := c1.lt; have l2 := c2.lt; have z2 := h2.size; have z1 := h1.size
  rw [c2.c0]
  simp only [↓eBinI, ↓eDiv, ↓eShift, ↓eBinS, ↓ePick, ↓eNot, ↓eNeg, ↓eConv, ↓eConvS, ↓eExt0, ↓eExt1, ↓eExt2, ↓eFA, ↓eIA, ↓eLenSl, ↓eCapSl, ↓eLenS, ↓eMin, ↓eMax, ↓eCondT, ↓eCondF, ↓gIf_tt, ↓gIf_ff, ↓gIf_tf, ↓gIf_ft, ↓gIf_u, ↓gIfW_u, ↓gIfW_tt, ↓gIfW_ff, ↓gIfW_tf, ↓gIfW_ft, binI, divI, shiftI, add_mk, Nat.zero_add, cond_true, cond_false, decide_true, decide_false, Bool.not_true, Bool.not_false, Bool.and_true, Bool.true_and, Bool.and_false, Bool.false_and, Int.toNat_natCast, Nat.mul_one, show decide ((64 : Int) < 1) = false from by decide]
  refine h _ _ _ (by omega) (by omega) (by omega) l2 (h1.tr h2) ?_ ?_
  · rw [(c1.ext h2).c]; rfl
  · rw [c2.c]; rfl
def hv (all : List UInt8) (m : Nat) (pre : List (Fin m)) : List W32 := pre.foldl (fun v (j : Fin m) => blockF v ((all.take (64 * j.val + 64)).drop (64 * j.val))) firstF
theorem hv_snoc (all : List UInt8) (m : Nat) (pre : List (Fin m)) (j : Fin m) : hv all m (pre ++ [j]) = blockF (hv all m pre) ((all.take (64 * j.val + 64)).drop (64 * j.val)) := by simp [hv]
theorem hv_len (all : List UInt8) (m : Nat) : ∀ pre : List (Fin m), (hv all m pre).length = 8 := by
  have : ∀ (pre : List (Fin m)) (v : List W32), v.length = 8 → (pre.foldl (fun v (j : Fin m) => blockF v ((all.take (64 * j.val + 64)).drop (64 * j.val))) v).length = 8 := by
    intro pre
    induction pre with
    | nil => intro v h; exact h
    | cons x r ih => intro v h; exact ih _ (blockF_len h)
  exact fun pre => this pre _ rfl
theorem hv_all (all : List UInt8) (m : Nat) : ∀ k, k ≤ m → hv all m ((List.finRange m).take k) = hs all k
  | 0, _ => rfl
  | k + 1, h => by rw [fin_take (by omega), hv_snoc, hv_all all m k (by omega), hs]
theorem hv_done (all : List UInt8) (m : Nat) : hv all m (List.finRange m) = hs all m := by
  have := hv_all all m m (Nat.le_refl _)
  rwa [List.take_of_length_le (by simp)] at this
set_option maxHeartbeats 1000000 in
set_option maxRecDepth 100000 in
theorem Sum_c {x : Value} {b : List UInt8} (hk : KT w) (hx : Rd (.slice .byte) D w [x] b) (hb : b.length ≤ 1000) (h : ∀ v w', Ext w w' → G.Own .byte (fun _ => False) w.heap.size w' v (sumF b) → K v w') : GCalls Tryz.prog 106 [x] K X w := by
  have hk2 : 2 < w.heap.size := cell_lt (hk 0 (by rw [kT_len]; omega))
  refine .inl ⟨⟨_, Tryz.func106, by kernel_rfl, by kernel_rfl⟩, (callsIn_wide (n := 3)).1 ?_⟩
  show CallsIn (WF none) 3 Tryz.prog 106 _ w _
  refine callsIn_of_wp_marks Tryz.func106 rfl trivial ?_ rfl
  have he : ({ tmps := [x].toArray ++ Array.replicate (Tryz.f106.ntmps - [x].toArray.size) undef, defers := [] } : Act) = ⟨(sl30 (fun i => nth ([x] ++ undefs 29) i)).toArray, []⟩ := by kernel_rfl
  refine (Eq.mpr (congrArg (fun a => Code.wpIn _ _ _ _ _ a w) he) ?_)
  refine wpIn_seq (region_in (by kernel_rfl) (N := fun e w => Code.wpIn (WF none) 3 Tryz.prog (sub [1] (bodyOf Tryz.f106)) _ ⟨e.toArray, []⟩ w) (fun e w h => h) (Eq.mpr (su0_eq _ _ _) ?_))
  refine wpIn_seq (region_in (by kernel_rfl) (N := fun e w => Code.wpIn (WF none) 3 Tryz.prog (sub [1, 1] (bodyOf Tryz.f106)) _ ⟨e.toArray, []⟩ w) (fun e w h => h) (Eq.mpr (su1_eq _ _ _) ?_))
  refine First_c fun w1 h1 => ?_
  refine boxC (cs := us (List.replicate 8 0)) fun g3 w2 hg3 h2 c2 => ?_
  refine c2.uSetN (l' := firstF) rfl rfl fun w3 c3 f3 => ?_
  have z1 := h1.size
  have k3 : Ext w w3 := (h1.tr h2).tn f3 (fun x hx => by omega)
  refine wpIn_seq (wpIn_seq (region_in (by kernel_rfl) (N := fun e w => Code.wpIn (WF none) 3 Tryz.prog (sub [1, 1, 0, 1] (bodyOf Tryz.f106)) _ ⟨e.toArray, []⟩ w) (fun e w h => h) (Eq.mpr (su2_eq _ _ _) ?_)))
  generalize hgA : slot (slot (slot (fun i => nth ([x] ++ undefs 29) i) 2 _) 7 _) 3 _ = gA
  have a0 : gA 0 = x := by rw [← hgA]; rfl
  have a2 : gA 2 = .slice none 0 0 := by rw [← hgA]; rfl
  have a3 : gA 3 = .pointer (some ⟨g3, 0, none⟩) := by rw [← hgA]; rfl
  clear hgA he
  have hx3 := hx.ext k3
  obtain ⟨ax, cx, ex, hcx, hlx⟩ := hx3.form
  rw [a0, ex]
  rw [ex] at hx3
  simp only [↓eBinI, ↓eDiv, ↓eShift, ↓eBinS, ↓ePick, ↓eNot, ↓eNeg, ↓eConv, ↓eConvS, ↓eExt0, ↓eExt1, ↓eExt2, ↓eFA, ↓eIA, ↓eLenSl, ↓eCapSl, ↓eLenS, ↓eMin, ↓eMax, ↓eCondT, ↓eCondF, ↓gIf_tt, ↓gIf_ff, ↓gIf_tf, ↓gIf_ft, ↓gIf_u, ↓gIfW_u, ↓gIfW_tt, ↓gIfW_ff, ↓gIfW_tf, ↓gIfW_ft, binI, divI, shiftI, add_mk, Nat.zero_add, cond_true, cond_false, decide_true, decide_false, Bool.not_true, Bool.not_false, Bool.and_true, Bool.true_and, Bool.and_false, Bool.false_and, Int.toNat_natCast, Nat.mul_one]
  refine Pad_c (by omega) fun v4 w4 h4 o4 => ?_
  have hpl := padS_len b.length
  have hzl := zs_lt b.length
  have hp4 := o4.rd2 (D' := fun _ => True) (fun _ _ => trivial) (fun _ _ _ _ => trivial) (show (padS b.length).length < _ by omega)
  obtain ⟨a4, c4', e4, _⟩ := hp4.form
  refine Cs.bslice (cs := [.slice ax b.length cx, v4]) (fill2 rfl (by rw [e4]; rfl)) fun g5 w5 hg5 h5 c5 => ?_
  have k5 := (k3.tr h4).tr h5
  have hrd5 : Rd (.slice (.slice .byte)) (fun _ => True) w5 [.slice (some ⟨g5, 0, none⟩) 2 2] [b, padS b.length] := by
    have hr : RdL (.slice .byte) (fun _ => True) w5 [.slice ax b.length cx, v4] [b, padS b.length] :=
      ⟨[.slice ax b.length cx], [v4], rfl, ((hx3.ext h4).ext h5).wide (fun _ _ => trivial), [v4], [], rfl, hp4.ext h5, rfl⟩
    have hc5 := c5
    exact Rd.of_rows hr (fun _ h => h) (show 2 ≤ 2 by omega) (show 2 < _ by omega) fun i u hi => ⟨_, rfl, rfl, trivial, by rw [add_mk, Nat.zero_add, hc5.c]; exact hi⟩
  refine Concat_c hrd5 (show 2 ≤ _ by omega) (fun i hi => by
    match i, hi with
    | 0, _ => show b.length ≤ 1000; omega
    | 1, _ => show (padS b.length).length ≤ 1000; omega) fun v6 w6 h6 o6 => ?_
  have hal : (allF b).length = b.length + (1 + zs b.length + 8) := allF_len b
  have ham := allF_mod b
  have hfl : [b, padS b.length].flatten = allF b := by simp [allF]
  rw [hfl] at o6
  obtain ⟨ga, ca, ea, hgB, hgl⟩ := o6.some_of (by show 0 < (allF b).length; omega)
  subst ea
  refine Chunk_c fun Bs Bn w7 b1 b2 b3 b4 h7 q1 q2 => ?_
  have k7 := (k5.tr h6).tr h7
  have z3 := f3.size; have z4 := h4.size; have z5 := h5.size; have z6 := h6.size; have z7 := h7.size; have z2 := h2.size; have l2 := c2.lt; have l5 := c5.lt
  obtain ⟨m, hmd⟩ : ∃ m, m = (allF b).length / 64 := ⟨_, rfl⟩
  have hml : (allF b).length = 64 * m := by omega
  obtain ⟨_, _, ef, hcap⟩ := o6.form
  simp only [Value.slice.injEq] at ef
  obtain ⟨-, -, rfl⟩ := ef
  rw [hml] at q1 hcap
  have o7 := o6.ext h7
  rw [hml] at o7
  have c7 : Cs w7 g3 (us firstF) := (((c3.ext h4).ext h5).ext h6).ext h7
  have hk7 := hk.ext k7
  generalize hgB : slot (slot (slot (slot (slot (slot (slot gA 8 _) 9 _) 10 _) 11 _) 12 _) 13 _) 14 _ = gB
  have s2 : gB 2 = .slice none 0 0 := by rw [← hgB]; exact a2
  have s3 : gB 3 = .pointer (some ⟨g3, 0, none⟩) := by rw [← hgB]; exact a3
  have s14 : gB 14 = .func (.func 123) #[] #[.pointer (some ⟨Bs, 0, none⟩), .pointer (some ⟨Bn, 0, none⟩)] := by rw [← hgB]; rfl
  clear hgB a0 a2 a3 gA
  refine wpIn_block (wpIn_rangeFunc_ownF (α := Fin m) (encs := fun j => #[ckV ⟨ga, 0, none⟩ j.val]) (Kp := Kp (· = g3) w7.heap.size) (S := fun ys => ys = List.finRange m) (Sp := fun _ => True) (N := m) (w0 := w7) rfl (by omega) (gf := 123) (lb := #[.pointer (some ⟨Bs, 0, none⟩), .pointer (some ⟨Bn, 0, none⟩)]) (by rw [ev30 _ _ (by omega)]; exact s14) trivial (enters_of Tryz.func123 (by kernel_rfl) rfl)
    (fun l J Jx W hW hJ hJx hY h0 => chunk_in (T := (· = g3)) (by omega) ⟨b3, by omega⟩ ⟨b4, by omega⟩ hY hW.size hJ ((hW.cell (p := ⟨Bs, 0, none⟩) b3).trans q1) hcap ((hW.cell (p := ⟨Bn, 0, none⟩) b4).trans q2) h0)
    (fun h k => h.trans k) (fun W l o o' hl ho _ _ => ⟨by simp, fun b hb _ => World.putObj_heap_other (by omega)⟩) (Below.refl _ _) (fun _ => rfl)
    (fun pre W => Cs W g3 (us (hv (allF b) m pre)) ∧ Fr (· = g3) w7 W) (fun _ _ _ => False) ?_ (fun _ _ _ _ _ hs _ _ => hs) ⟨c7, Fr.refl _ _⟩
    (fun x => ⟨(sl30 (slot (slot gB 15 (ckV ⟨ga, 0, none⟩ x.val)) 4 (ckV ⟨ga, 0, none⟩ x.val))).toArray, []⟩) ?_ ?_ ?_ (fun _ _ _ _ _ _ h _ => h.elim))
  · rintro pre A B row ⟨hc, hf⟩ hg hr
    have hrow : ∀ r, row = some r → w7.heap.size ≤ r := fun r e => (hr r e).1
    refine ⟨?_, ?_⟩
    · obtain ⟨T, hc⟩ := hc
      refine ⟨T, ?_⟩
      rw [hg.block g3 (heap_lt hc) (fun e => by have := hrow g3 e.symm; omega)]
      exact hc
    · refine ⟨hg.os.trans hf.os, hg.tape.trans hf.tape, hg.output.trans hf.output, Nat.le_trans hf.size hg.size, fun k hk hT => ?_⟩
      rw [hg.block k (Nat.lt_of_lt_of_le hk hf.size) (fun e => by have := hrow k e.symm; omega)]
      exact hf.keep k hk hT
  · intro l x W K hK
    have het : ((#[15].zip #[ckV ⟨ga, 0, none⟩ x.val]).foldl (fun (t : Array Value) (pv : Tmp × Value) => t.setIfInBounds pv.1 pv.2) (sl30 gB).toArray) = (sl30 (slot gB 15 (ckV ⟨ga, 0, none⟩ x.val))).toArray := by
      simp [sl30, slot]
    refine (Eq.mpr (congrArg (fun t => Code.wpIn _ _ _ _ _ ⟨t, []⟩ W) het) ?_)
    refine region_in (ro := some l) (by kernel_rfl) (N := fun e w => K ⟨e.toArray, []⟩ w) (fun e w h => h) (Eq.mpr (su3_eq _ _ _) ?_)
    rw [slot_same]
    exact hK
  · rintro l pre x W ⟨hc, hf⟩ hlen
    refine wpIn_block (region_in (ro := some l) (by kernel_rfl) (N := fun e w => _) (fun e w h => h) (Eq.mpr (su4_eq _ _ _) ?_))
    have t3 : slot (slot gB 15 (ckV ⟨ga, 0, none⟩ x.val)) 4 (ckV ⟨ga, 0, none⟩ x.val) 3 = .pointer (some ⟨g3, 0, none⟩) := by rw [← s3]; rfl
    have t4 : slot (slot gB 15 (ckV ⟨ga, 0, none⟩ x.val)) 4 (ckV ⟨ga, 0, none⟩ x.val) 4 = ckV ⟨ga, 0, none⟩ x.val := rfl
    rw [t3, t4]
    have hvl := hv_len (allF b) m pre
    rw [hc.ld (by rw [us_len]; exact hvl)]
    have hkW : KT W := fun i hi => hf.cell (hk7 i hi) (by show ¬ 2 = g3; omega)
    have oW := o7.fr hf (fun _ h => h.elim) (fun b' hb' hB => by show ¬ b' = g3; omega)
    have hrW := oW.rd2 (D' := fun _ => True) (fun _ _ => trivial) (fun _ _ _ _ => trivial) (show (allF b).length < _ by omega)
    have hxm := x.isLt
    have hcut := hrW.cut (l := 64 * x.val) (e := 64 * x.val + 64) (m := 64 * x.val + 64) (by omega) (by omega) (by omega) (by omega)
    have a2 : Value.slice (if 64 * x.val + 64 = 64 * x.val then some (⟨ga, 0, none⟩ : Addr) else (some (⟨ga, 0, none⟩ : Addr)).map (·.add (64 * x.val * Ty.byte.n))) (64 * x.val + 64 - 64 * x.val) (64 * x.val + 64 - 64 * x.val) = ckV ⟨ga, 0, none⟩ x.val := by
      rw [if_neg (by omega), Option.map_some, show Ty.byte.n = 1 from rfl, Nat.mul_one, Nat.add_sub_cancel_left]; rfl
    rw [a2] at hcut
    refine Block_c hkW hvl hcut (by rw [List.length_drop, List.length_take]; omega) fun w8 h8 => ?_
    have hbl := blockF_len (v := hv (allF b) m pre) (b := ((allF b).take (64 * x.val + 64)).drop (64 * x.val)) hvl
    refine (hc.ext h8).uSetN (l' := blockF (hv (allF b) m pre) (((allF b).take (64 * x.val + 64)).drop (64 * x.val))) (by rw [hbl, hvl]) hvl fun w9 c9 f9 => ?_
    have hfr : Fr (· = g3) W w9 := (Fr.mono h8 (fun _ _ h => h.elim)).trans f9 (fun _ _ h => h)
    have hc0 := hc
    refine ⟨⟨hfr.size, fun k o hk ho => hfr.heap hk (fun e => ?_)⟩, ⟨hfr.size, fun b hb hT => ?_⟩, ?_, hf.trans hfr (fun _ _ h => h)⟩
    · have e : k = g3 := e
      subst e
      obtain ⟨T, hcT⟩ := hc0
      rw [hcT] at hk
      cases hk
      cases ho
    · exact hfr.keep b (by have := hf.size; omega) hT
    · rw [hv_snoc]; exact c9
  · rintro D ys W hD rfl ⟨hc, hf⟩ hKD
    rw [hv_done] at hc
    have hHl := hs_len (allF b) m
    simp only [Exit.then, Exit.inBlock]
    have hfW : Ext w W := k7.tn hf (fun x hx => by omega)
    have hDl : D < W.heap.size := heap_lt hKD
    refine wpIn_seq (wpIn_seq (region_in (by kernel_rfl) (N := fun e w => Code.wpIn (WF none) 3 Tryz.prog (sub [1, 1, 1, 0, 1] (bodyOf Tryz.f106)) _ ⟨e.toArray, [{ target := .collected D, args := #[] }]⟩ w) (fun e w h => h) (Eq.mpr (su5_eq _ _ _) ?_)))
    rw [s3, hc.ld (by rw [us_len]; exact hHl)]
    generalize hH : hs (allF b) m = H at *
    refine wpIn_block (wpIn_loop (fun a w' => ∃ i g, i ≤ 8 ∧ a = ⟨(sl30 g).toArray, [{ target := .collected D, args := #[] }]⟩ ∧ g 19 = .agg ⟨us H⟩ ∧ g 20 = .int .i64 ((i : Nat) : Int) ∧ G.Own .byte (fun _ => False) w.heap.size w' (g 2) (outF (H.take i)) ∧ (∀ b', Blk (g 2) b' → b' ≠ D) ∧ Ext w w' ∧ w'.heap[D]? = some (.deferred (some [])))
      (fun a _ => (8 - iv (nth a.tmps.toList 20)).toNat) ⟨0, _, by omega, rfl, by simp [slot], by simp [slot], by simp [slot, s2]; exact G.Own.nil, by simp only [slot]; rintro b' ⟨_, _, _, h, _⟩; simp [s2] at h, hfW, hKD⟩ ?_)
    rintro _ w1 ⟨i, g, hi, rfl, g19, g20, ho, hbk, hE, hD1⟩
    refine wpIn_seq (region_in (by kernel_rfl) (N := fun e w => Code.wpIn (WF none) 3 Tryz.prog (sub [1, 1, 1, 0, 1, 0, 0, 1] (bodyOf Tryz.f106)) _ ⟨e.toArray, [{ target := .collected D, args := #[] }]⟩ w) (fun e w h => h) (Eq.mpr (su6_eq _ _ _) ?_))
    rw [g20]
    simp only [↓eBinI, ↓eDiv, ↓eShift, ↓eBinS, ↓ePick, ↓eNot, ↓eNeg, ↓eConv, ↓eConvS, ↓eExt0, ↓eExt1, ↓eExt2, ↓eFA, ↓eIA, ↓eLenSl, ↓eCapSl, ↓eLenS, ↓eMin, ↓eMax, ↓eCondT, ↓eCondF, ↓gIf_tt, ↓gIf_ff, ↓gIf_tf, ↓gIf_ft, ↓gIf_u, ↓gIfW_u, ↓gIfW_tt, ↓gIfW_ff, ↓gIfW_tf, ↓gIfW_ft, binI, divI, shiftI, add_mk, Nat.zero_add, cond_true, cond_false, decide_true, decide_false, Bool.not_true, Bool.not_false, Bool.and_true, Bool.true_and, Bool.and_false, Bool.false_and, Int.toNat_natCast, Nat.mul_one]
    by_cases ci : (i : Int) < 8
    · refine wpIn_seq (wpIn_cond (t := true) (by rw [ev30 _ _ (by omega), slot_same]; congr 1; rw [decide_eq_true ci]) (wpIn_skip ?_))
      have hi8 : i < H.length := by omega
      refine wpIn_seq (wpIn_block (wpIn_seq (region_in (by kernel_rfl) (N := fun e w => Code.wpIn (WF none) 3 Tryz.prog (sub [1, 1, 1, 0, 1, 0, 0, 1, 1, 0, 0, 1] (bodyOf Tryz.f106)) _ ⟨e.toArray, [{ target := .collected D, args := #[] }]⟩ w) (fun e w h => h) (Eq.mpr (su7_eq _ _ _) ?_))))
      have u19 : slot g 21 (.bool (decide ((i : Int) < 8))) 19 = .agg ⟨us H⟩ := by simp [slot, g19]
      have u20 : slot g 21 (.bool (decide ((i : Int) < 8))) 20 = .int .i64 ((i : Nat) : Int) := by simp [slot, g20]
      rw [u19, u20]
      refine ⟨_, .i64, i, u H[i], rfl, rfl, by omega, by omega, by rw [Int.toNat_natCast]; have := us_get hi8; simpa using this, ?_⟩
      refine region_in (by kernel_rfl) (N := fun e w => Code.wpIn (WF none) 3 Tryz.prog (sub [1, 1, 1, 0, 1, 0, 0, 1, 1, 1] (bodyOf Tryz.f106)) _ ⟨e.toArray, [{ target := .collected D, args := #[] }]⟩ w) (fun e w h => h) (Eq.mpr (su8_eq _ _ _) ?_)
      generalize hgC : slot (slot (slot g 21 _) 22 _) 6 _ = gC
      have v2 : gC 2 = g 2 := by rw [← hgC]; simp [slot]
      have v6 : gC 6 = u H[i] := by rw [← hgC]; simp [slot]
      have v19 : gC 19 = .agg ⟨us H⟩ := by rw [← hgC]; simp [slot, g19]
      have v20 : gC 20 = .int .i64 ((i : Nat) : Int) := by rw [← hgC]; simp [slot, g20]
      clear hgC u19 u20
      have hlt : H[i].toNat < 4294967296 := H[i].isLt
      rw [v2, v6]
      simp only [↓eBinI, ↓eDiv, ↓eShift, ↓eBinS, ↓ePick, ↓eNot, ↓eNeg, ↓eConv, ↓eConvS, ↓eExt0, ↓eExt1, ↓eExt2, ↓eFA, ↓eIA, ↓eLenSl, ↓eCapSl, ↓eLenS, ↓eMin, ↓eMax, ↓eCondT, ↓eCondF, ↓gIf_tt, ↓gIf_ff, ↓gIf_tf, ↓gIf_ft, ↓gIf_u, ↓gIfW_u, ↓gIfW_tt, ↓gIfW_ff, ↓gIfW_tf, ↓gIfW_ft, binI, divI, shiftI, add_mk, Nat.zero_add, cond_true, cond_false, decide_true, decide_false, Bool.not_true, Bool.not_false, Bool.and_true, Bool.true_and, Bool.and_false, Bool.false_and, Int.toNat_natCast, Nat.mul_one, ↓eU64]
      refine num_Put_c (s := 4) (by omega) (by omega) (by omega) fun v3 w3 h3 o3 => ?_
      have hp := putF_len 4 H[i].toNat
      have hol := outF_len (H.take i)
      have htl : (H.take i).length = i := by rw [List.length_take]; omega
      have hD3 : w3.heap[D]? = some (.deferred (some [])) := h3.heap hD1 (fun h => h)
      refine (ho.ext h3).cat (hE.tr h3).size (fun h => h) rfl rfl (o3.rd2 (D' := fun _ => True) (fun _ _ => trivial) (fun _ _ _ _ => trivial) (show (putF _ 4).length < _ by omega)) (fun cs h => h.flat rfl) (by show (2 * ((outF _).length + (putF _ 4).length) + 192) * 1 ≤ _; omega) fun v w4 hv' hf' hbk' => ?_
      have e0 : IntKind.i64.wrap ((i : Int) + 1) = ((i + 1 : Nat) : Int) := by rw [wrap64 (by omega) (by omega)]; omega
      refine region_in (by kernel_rfl) (N := fun e w => _) (fun e w h => h) (Eq.mpr (su9_eq _ _ _) ?_)
      generalize hgE : slot (slot (slot (slot (slot (slot gC 23 _) 24 _) 25 _) 26 _) 27 _) 2 _ = gE
      have x2 : gE 2 = v := by rw [← hgE]; simp [slot]
      have x19 : gE 19 = .agg ⟨us H⟩ := by rw [← hgE]; simp [slot, v19]
      have x20 : gE 20 = .int .i64 ((i : Nat) : Int) := by rw [← hgE]; simp [slot, v20]
      rw [x20]
      simp only [↓eBinI, ↓eDiv, ↓eShift, ↓eBinS, ↓ePick, ↓eNot, ↓eNeg, ↓eConv, ↓eConvS, ↓eExt0, ↓eExt1, ↓eExt2, ↓eFA, ↓eIA, ↓eLenSl, ↓eCapSl, ↓eLenS, ↓eMin, ↓eMax, ↓eCondT, ↓eCondF, ↓gIf_tt, ↓gIf_ff, ↓gIf_tf, ↓gIf_ft, ↓gIf_u, ↓gIfW_u, ↓gIfW_tt, ↓gIfW_ff, ↓gIfW_tf, ↓gIfW_ft, binI, divI, shiftI, add_mk, Nat.zero_add, cond_true, cond_false, decide_true, decide_false, Bool.not_true, Bool.not_false, Bool.and_true, Bool.true_and, Bool.and_false, Bool.false_and, Int.toNat_natCast, Nat.mul_one, e0]
      have hm20 : nth (sl30 g) 20 = .int .i64 ((i : Nat) : Int) := g20
      refine ⟨⟨i + 1, _, by omega, rfl, by simp [slot, x19], by simp [slot], ?_, ?_, (hE.tr h3).tn hf' (fun x hx => hx.2), hf'.heap hD3 (fun h => hbk _ h.1 rfl)⟩, ?_⟩
      · rw [List.take_succ_eq_append_getElem hi8, outF_snoc]
        simpa [slot, x2] using hv'
      · have : slot (slot gE 28 (.int .i64 ((i + 1 : Nat) : Int))) 20 (.int .i64 ((i + 1 : Nat) : Int)) 2 = v := by simp [slot, x2]
        rw [this]
        intro b' hb'
        rcases hbk' b' hb' with h | h
        · exact hbk _ h
        · have := heap_lt hD3; have := h3.size; omega
      · rw [hm20]
        show (8 - iv (Value.int .i64 ((i + 1 : Nat) : Int))).toNat < (8 - iv (Value.int .i64 ((i : Nat) : Int))).toNat
        simp only [iv]; omega
    · refine wpIn_seq (wpIn_cond (t := false) (by rw [ev30 _ _ (by omega), slot_same]; congr 1; rw [decide_eq_false ci]) (wpIn_exit ?_))
      simp only [Exit.then, Exit.inBlock, if_true]
      have : i = 8 := by omega
      subst this
      refine wpIn_seq (region_in (by kernel_rfl) (N := fun e w => Code.wpIn (WF none) 3 Tryz.prog .ret _ ⟨e.toArray, [{ target := .collected D, args := #[] }]⟩ w) (fun e w h => h) (Eq.mpr (su10_eq _ _ _) ?_))
      refine wpIn_ret ?_
      refine ⟨by simp, .inl ⟨D, _, rfl, run_takeDeferred hD1, _, results_tmp rfl _ _ _, ?_⟩⟩
      have hF : Fr (· = D) w1 (w1.putObj D (.deferred none)) := ⟨rfl, rfl, rfl, by simp, fun b hb hT => World.putObj_heap_other (fun e => hT (by first | exact e | exact e.symm))⟩
      have hval : ((sl30 (slot (slot (slot g 21 (.bool (decide (((8 : Nat) : Int) < 8)))) 29 (slot g 21 (.bool (decide (((8 : Nat) : Int) < 8))) 2)) 2 (slot g 21 (.bool (decide (((8 : Nat) : Int) < 8))) 2))).toArray).getD 2 undef = g 2 := rfl
      rw [List.take_of_length_le (by omega)] at ho
      have hs1 : sumF b = outF H := by rw [sumF, ← hmd, hH]
      have hk := h (g 2) (w1.putObj D (.deferred none)) (hE.tn hF (fun x hx => by have := k7.size; omega)) (by rw [hs1]; exact ho.fr hF (fun _ h => h.elim) (fun b' hb' hB => hbk b' hb'))
      exact hk
end Go.Proofs.YtkpgmaiklfjjgaaGreatDoor
end
