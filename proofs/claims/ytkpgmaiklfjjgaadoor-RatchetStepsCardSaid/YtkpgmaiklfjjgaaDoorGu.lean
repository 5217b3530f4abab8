/-
  A region's text at the wide fence, also within a round of a range over a function.
-/
import Derived.Test.YtkpgmaiklfjjgaaDoorGg
import Derived.TacticsIn
import Derived.RangeFuncNested
import Derived.RangeFuncBound
import Derived.RangeFuncCalls
import Derived.RangeFuncLeaves
set_option linter.unusedSimpArgs false
set_option linter.unusedVariables false
namespace Go.G
open Go
variable {P : Program} {pl : Nat → DrawPlan} {ds : List Deferred} {ro : Option Nat} {n : Nat}
abbrev WF (ro : Option Nat) : Fence := { fn := fun _ => True, depth := none, alive := false, round := ro }
def noDefer (o : Oper) : Bool := match o.op with | .defer _ => false | _ => true
theorem noDefer_ne {o : Oper} (h : noDefer o = true) : ∀ c, o.op ≠ .defer c := fun c e => by unfold noDefer at h; rw [e] at h; cases h
theorem callsWF {f : FuncId} {args : Array Value} {w : World} {R : Ending → World → Prop} (h : Calls P f args w R) : CallsIn (WF ro) n P f args w R :=
  (callsIn_wide.2 h : CallsIn Fence.wide n P f args w R)
theorem opIn {o : Oper} {a : Act} {w : World} {next : Act → World → Prop} {Q : Exit → Act → World → Prop} (hd : noDefer o = true)
    (h : o.wp P a w next Q) : o.wpIn (WF ro) n P a w next Q := by
  refine ⟨fun _ _ => trivial, ?_⟩
  rw [Oper.semAt_eq _ _ _ (noDefer_ne hd)]
  unfold Oper.wp at h
  unfold Oper.upon at h
  split at h
  · rename_i hr; rw [hr]; exact h
  · rename_i hr; rw [hr]; exact h
  · rename_i hr; rw [hr]; exact h
  · rename_i hr; rw [hr]
    exact ⟨fun h => (by cases h), callsWF h⟩
  · rename_i hr; rw [hr]
    exact ⟨fun h => (by cases h), fun c cs _ => let ⟨v, w', r, s⟩ := h c cs; ⟨v, w', r, (stepsIn_wide.2 s : StepsIn (Machine.fenced P Fence.wide) P _ _)⟩⟩
  · rename_i hr; rw [hr]; exact h
  · exact h.elim
/-- A list of operations, and others behind. -/
theorem semL_app {ops : Array Oper} {Q : QE} {QQ : Exit → Act → World → Prop} {os2 : List Oper} (hN : ∀ e w, Q .normal e w → wpListIn (WF ro) n P ops QQ os2 ⟨e.toArray, ds⟩ w)
    (hP : ∀ ch (e : List Value) w, Q (.panic ch) e w → QQ (.panic ch) ⟨e.toArray, ds⟩ w) : ∀ (os : List Oper) (e : List Value) (w : World), (∀ o ∈ os, noDefer o = true) → semL P ops Q os e w → wpListIn (WF ro) n P ops QQ (os ++ os2) ⟨e.toArray, ds⟩ w
  | [], e, w, _, h => hN e w (by simpa [semL] using h)
  | o :: rest, e, w, hd, h => by
    have hdo := hd o (by simp)
    have hdr : ∀ o ∈ rest, noDefer o = true := fun x hx => hd x (by simp [hx])
    have pure : stepP P ops (fun w' => w' = w) o e (fun v => semL P ops Q rest (put e o.dst v) w) → wpListIn (WF ro) n P ops QQ (o :: rest ++ os2) ⟨e.toArray, ds⟩ w := fun h => by
      obtain ⟨v, hK, hy⟩ := stepP_yields (ds := ds) h
      have ih := semL_app hN hP rest _ _ hdr hK
      rw [← put_eq] at ih
      rw [List.cons_append]; unfold wpListIn
      rcases hy with ⟨hw, hr⟩ | ⟨hw, rfl⟩
      · rw [if_pos hw]
        refine opIn hdo ?_
        unfold Oper.wp
        rw [hr w rfl]
        exact ih
      · rw [if_neg (by rw [hw]; simp)]
        exact ⟨fun _ _ => trivial, ih⟩
    unfold semL at h
    split at h
    · rcases stepW_wp (ds := ds) (next := wpListIn (WF ro) n P ops QQ (rest ++ os2)) (Q := QQ) h (fun v w' hk => by rw [put_eq]; exact semL_app hN hP rest _ _ hdr hk) (fun ch w' hx => hP _ _ _ hx) with ⟨hw, hh⟩ | ⟨hw, hh⟩
      · rw [List.cons_append]; unfold wpListIn
        rw [if_pos hw]
        exact opIn hdo hh
      · rw [List.cons_append]; unfold wpListIn
        rw [if_neg (by rw [hw]; simp)]
        exact ⟨fun _ _ => trivial, hh⟩
    · exact pure h
    · exact pure h
/-- Only the way on. -/
def justN (N : List Value → World → Prop) : QE
  | .normal, e, w => N e w
  | _, _, _ => False
theorem region_in {id : Nat} {ops : Array Oper} {N : List Value → World → Prop} {QQ : Exit → Act → World → Prop} {e : List Value} {w : World} (hd : ops.toList.all noDefer = true) (hN : ∀ e w, N e w → QQ .normal ⟨e.toArray, ds⟩ w)
    (h : semL P ops (justN N) ops.toList e w) : (Code.region id ops false).wpIn (WF ro) n P QQ ⟨e.toArray, ds⟩ w := by
  refine wpIn_region_list ?_
  have := semL_app (P := P) (ops := ops) (Q := justN N) (QQ := QQ) (os2 := []) (ds := ds) (ro := ro) (n := n) (fun e w hq => hN e w hq) (fun _ _ _ h => h.elim) ops.toList e w (fun o ho => List.all_eq_true.1 hd o ho) h
  rwa [List.append_nil] at this
/-- A region whose order is open, outside of a round. -/
theorem drawn_in (hm : P.follows .mixedOrders = true) {id : Nat} {ops : Array Oper} {N : List Value → World → Prop} {QQ : Exit → Act → World → Prop} {e : List Value} {w : World} (hN : ∀ e w, N e w → QQ .normal ⟨e.toArray, ds⟩ w)
    (h : sem P pl (.region id ops true) (justN N) e w) : (Code.region id ops true).wpIn (WF none) n P QQ ⟨e.toArray, ds⟩ w := by
  refine (wpIn_wide (n := n)).2 (wp_mono (sem_sound (ds := ds) hm _ _ e w (fun ch e e' w h => h.elim) h) fun ex a w' hh => ?_)
  obtain ⟨hd, hh⟩ := hh
  cases ex with
  | normal =>
    have := hN _ _ hh
    rwa [← act_eta a hd] at this
  | outgrown => cases hh
  | exit id => exact hh.elim
  | goto l => exact hh.elim
  | ret => exact hh.elim
  | panic ch => exact hh.elim
/-- Operations of a call of yield. -/
def sub : List Nat → Code → Code
  | 0 :: p, .seq a _ => sub p a
  | _ :: p, .seq _ b => sub p b
  | 0 :: p, .cond _ a _ => sub p a
  | _ :: p, .cond _ _ b => sub p b
  | _ :: p, .block _ c => sub p c
  | _ :: p, .scope c => sub p c
  | _ :: p, .loop c => sub p c
  | _ :: p, .rangeFunc _ _ _ c => sub p c
  | _, c => c
def asgOf : Code → Code
  | .rangeFunc _ _ a _ => a
  | c => c
def opsOf : Code → Array Oper
  | .region _ ops _ => ops
  | _ => #[]
def slot (g : Nat → Value) (i : Nat) (v : Value) : Nat → Value := fun j => if j = i then v else g j
theorem slot_same {g : Nat → Value} {i : Nat} {v : Value} : slot g i v i = v := by simp [slot]
theorem slot_ne {g : Nat → Value} {i j : Nat} {v : Value} (h : j ≠ i) : slot g i v j = g j := by simp [slot, h]
/-- A call of yield. -/
theorem yield_op {o : Oper} {c : Call} {f v : Operand} {a : Act} {w : World} {next : Act → World → Prop} {Q : Exit → Act → World → Prop} {l : Nat} (ho : o.op = .call c) (hc : c.callee = .value f) (hargs : c.args = #[v]) (hf : a.eval f = .func (.yield l) #[] #[])
    {R : Ending → World → Prop} (hy : YieldAt (WF none) (n - 1) P l #[a.eval v] w R) (hR : ∀ e w', R e w' → match e with | .returned v => next (a.put o.dst v) w' | _ => False) : o.wpIn (WF none) n P a w next Q := by
  obtain ⟨fn, tmps, assign, body, hr, hround⟩ := hy
  refine ⟨fun _ _ => trivial, ?_⟩
  have e1 : (Oper.semAt none a.eval o).run P w = .ok (.round l fn tmps assign body) w := by
    rw [Oper.semAt_none]
    unfold execOp
    simp only [ho, resolve, hc, hargs, hf, Deferred.ofValue, Sem.run_bind, Sem.run_pure, Result.andThen_ok, invoke]
    simpa using hr
  show o.uponIn (WF none) n P a next Q ((Oper.semAt none a.eval o).run P w)
  rw [e1]
  refine ⟨fun h => (by cases h), hround.mono fun e w' h => ?_⟩
  have := hR e w' h
  cases e with
  | returned v => exact this
  | panicked ch => exact this.elim
  | outgrown => exact this.elim
end Go.G
