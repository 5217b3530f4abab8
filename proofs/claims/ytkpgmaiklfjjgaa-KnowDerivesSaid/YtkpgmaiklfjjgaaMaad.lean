/-
  Code: 'sem' is enough for the walk's 'Code.wp'; and a call.
-/
import Derived.Test.YtkpgmaiklfjjgaaMaac
import Derived.Scope
section
set_option linter.unusedSimpArgs false
set_option linter.unusedVariables false
namespace Go.G
open Go
variable {P : Program} {pl : Nat → DrawPlan} {ds : List Deferred}

/-- What is said of a panic does not hang on the slots. -/
def PI (Q : QE) : Prop := ∀ ch e e' w, Q (.panic ch) e w → Q (.panic ch) e' w
theorem PI.thenQ {Q : QE} (h : PI Q) (N : List Value → World → Prop) : PI (thenQ N Q) := fun ch e e' w hq => h ch e e' w hq
theorem PI.inBlk {Q : QE} (h : PI Q) (id : Nat) : PI (inBlk id Q) := fun ch e e' w hq => h ch e e' w hq
theorem PI.noGo {Q : QE} (h : PI Q) : PI (noGo Q) := fun ch e e' w hq => h ch e e' w hq
theorem act_eta (a : Act) (h : a.defers = ds) : a = ⟨a.tmps.toList.toArray, ds⟩ := by
  cases a
  simp only at h
  subst h
  rfl
theorem sem_sound (hm : P.follows .mixedOrders = true) : ∀ (c : Code) (Q : QE) (e : List Value) (w : World), PI Q → sem P pl c Q e w → Code.wp P c (liftQ ds Q) ⟨e.toArray, ds⟩ w
  | .skip, Q, e, w, _, h => wp_skip ⟨rfl, by simpa [sem] using h⟩
  | .label l, Q, e, w, _, h => wp_label ⟨rfl, by simpa [sem] using h⟩
  | .region id ops d, Q, e, w, hq, h => by
    cases d with
    | false => exact wp_region_list (semL_sound _ _ _ (by simpa [sem] using h))
    | true =>
      simp only [sem] at h
      split at h
      · rename_i hok
        exact drawn_sound hm hq hok h
      · cases h
  | .seq x y, Q, e, w, hq, h => by
    simp only [sem] at h
    refine wp_seq (wp_mono (sem_sound hm x _ e w (hq.thenQ _) h) fun ex a w' hh => ?_)
    obtain ⟨hd, hh⟩ := hh
    cases ex with
    | normal =>
      have := sem_sound hm y Q a.tmps.toList w' hq hh
      rw [← act_eta a hd] at this
      exact this
    | outgrown => cases hh
    | exit id => exact ⟨hd, hh⟩
    | goto l => exact ⟨hd, hh⟩
    | ret => exact ⟨hd, hh⟩
    | panic ch => exact ⟨hd, hh⟩
  | .cond c x y, Q, e, w, hq, h => by
    simp only [sem] at h
    obtain ⟨b, hb, h1, h2⟩ := h
    have hc : Act.eval ⟨e.toArray, ds⟩ c = .bool b := by rw [eval_eq]; exact hb
    refine wp_cond hc ?_
    cases b with
    | true => exact sem_sound hm x Q e w hq (h1 rfl)
    | false => exact sem_sound hm y Q e w hq (h2 rfl)
  | .block id x, Q, e, w, hq, h => by
    simp only [sem] at h
    refine wp_block (wp_mono (sem_sound hm x _ e w (hq.inBlk _) h) fun ex a w' hh => ?_)
    obtain ⟨hd, hh⟩ := hh
    cases ex with
    | normal => exact ⟨hd, hh⟩
    | exit i =>
      simp only [Exit.inBlock]
      simp only [inBlk] at hh
      split at hh
      · rename_i hb
        have : i = id := by simpa using hb
        rw [if_pos this]
        exact ⟨hd, hh⟩
      · rename_i hb
        have : ¬ i = id := fun e => by subst e; simp at hb
        rw [if_neg this]
        exact ⟨hd, hh⟩
    | goto l => exact ⟨hd, hh⟩
    | ret => exact ⟨hd, hh⟩
    | panic ch => exact ⟨hd, hh⟩
    | outgrown => cases hh
  | .scope x, Q, e, w, hq, h => by
    simp only [sem] at h
    refine wp_scope_straight (wp_mono (sem_sound hm x _ e w hq.noGo h) fun ex a w' hh => ?_)
    obtain ⟨hd, hh⟩ := hh
    cases ex with
    | normal => exact ⟨hd, hh⟩
    | exit i => exact ⟨hd, hh⟩
    | goto l => cases hh
    | ret => exact ⟨hd, hh⟩
    | panic ch => exact ⟨hd, hh⟩
    | outgrown => cases hh
  | .exit id, Q, e, w, _, h => wp_exit ⟨rfl, by simpa [sem] using h⟩
  | .ret, Q, e, w, _, h => wp_ret ⟨rfl, by simpa [sem] using h⟩
  | .loop x, Q, e, w, hq, h => by
    simp only [sem] at h
    obtain ⟨I, m, h0, hr⟩ := h
    refine wp_loop (fun a w => a.defers = ds ∧ I a.tmps.toList w) (fun a w => m a.tmps.toList w) ⟨rfl, by simpa using h0⟩ fun a w' ⟨hd, hI⟩ => ?_
    have := sem_sound hm x _ a.tmps.toList w' (hq.thenQ _) (hr _ _ hI)
    rw [← act_eta a hd] at this
    refine wp_mono this fun ex a' w'' hh => ?_
    obtain ⟨hd', hh⟩ := hh
    cases ex with
    | normal => exact ⟨⟨hd', hh.1⟩, hh.2⟩
    | outgrown => cases hh
    | exit id => exact ⟨hd', hh⟩
    | goto l => exact ⟨hd', hh⟩
    | ret => exact ⟨hd', hh⟩
    | panic ch => exact ⟨hd', hh⟩
  | .rangeFunc .., Q, e, w, _, h => by simp [sem] at h
  | .goto .., Q, e, w, _, h => by simp [sem] at h
  | .refuse .., Q, e, w, _, h => by simp [sem] at h

/-! ### A call -/
theorem results_run {rs : List ResultVar} {e : List Value} {w : World} {K : KV} {F : ResultVar → Sem Value} (hF : ∀ t, (F (.tmp t)).run P w = .ok (nth e t) w)
    (hC : ∀ b t a, nth e b = .pointer (some a) → (F (.cell b t)).run P w = (loadVar t a).run P w) : ∀ (acc : List Value), sresL P rs e acc K w →
    ∃ vs : List Value, (rs.mapM F).run P w = .ok vs w ∧ (match acc.reverse ++ vs with | [v] => K v w | l => K (.tuple l.toArray) w) := by
  induction rs with
  | nil =>
    intro acc h
    refine ⟨[], rfl, ?_⟩
    simp only [sresL] at h
    rw [List.append_nil]
    split at h
    · exact h
    · rename_i hne
      split
      · rename_i v hv
        have : acc = [v] := by rw [← List.reverse_reverse acc, hv]; rfl
        exact absurd this (hne v)
      · exact h
  | cons r rs ih =>
    intro acc h
    have go : ∀ v, (F r).run P w = .ok v w → sresL P rs e (v :: acc) K w → ∃ vs : List Value, ((r :: rs).mapM F).run P w = .ok vs w ∧ (match acc.reverse ++ vs with | [v] => K v w | l => K (.tuple l.toArray) w) := fun v hv hk => by
      obtain ⟨vs, h1, h2⟩ := ih _ hk
      refine ⟨v :: vs, ?_, ?_⟩
      · simp only [List.mapM_cons, Sem.run_bind, Sem.run_pure, Result.andThen_ok, h1, hv]
      · simpa using h2
    cases r with
    | cell b t =>
      simp only [sresL] at h
      split at h
      · rename_i n ht
        obtain ⟨a, xs, hv, hn, hc, hk⟩ := h
        refine go _ ?_ hk
        rw [hC b t a hv]
        have := loadAt_agg ht hn (hc w rfl)
        simpa [Instr.loadAt, Instr.sureAddr] using this
      · rename_i ht
        obtain ⟨a, x, hv, hc, hk⟩ := h
        refine go _ ?_ hk
        rw [hC b t a hv]
        have := loadAt_cell ht (hc w rfl)
        simpa [Instr.loadAt, Instr.sureAddr] using this
      · cases h
    | tmp t =>
      simp only [sresL] at h
      exact go _ (hF t) h
theorem one_or_many {vs : List Value} {K : KV} {w : World} (h : match vs with | [v] => K v w | l => K (.tuple l.toArray) w) : K (if h : vs.length = 1 then vs[0] else .tuple vs.toArray) w := by
  cases vs with
  | nil => exact h
  | cons v r =>
    cases r with
    | nil => exact h
    | cons u r => simpa using h
theorem GCalls.calls {f : FuncId} {args : List Value} {R : KV} {X : KX} {w : World} (h : GCalls P f args R X w) (hfb : ((P.funcs[f]?).bind (·.body)).isSome = true) : Calls P f args.toArray w fun
    | .returned v, w' => R v w'
    | .panicked ch, w' => X ch w'
    | .outgrown, _ => False := by
  rcases h with h | ⟨v, w', hr, _⟩
  · exact h.2
  · exfalso
    cases hf : P.funcs[f]? with
    | none => rw [hf] at hfb; cases hfb
    | some g =>
      rw [hf] at hfb
      have h4 : ¬ (g.body.isNone = true) := by cases hb : g.body <;> simp_all
      unfold callFunc at hr
      simp only [Sem.run_bind, program, Sem.run, Result.andThen_ok, hf] at hr
      split at hr
      · cases hr
      · simp at hr
theorem gcalls_of {f : FuncId} {fn : Func} {args : List Value} {R : KV} {X : KX} {w : World} (hf : P.funcs[f]? = some fn) (hb : fn.body.isSome = true) (hn : (fn.name == "runtime.NumGoroutine") = false)
    (hm : P.follows .mixedOrders = true) (h : atP P fn pl [] [] R X (args ++ undefs (fn.ntmps - args.length)) w) : GCalls P f args R X w := by
  refine .inl ⟨⟨fn, hf, hb, hn⟩, ?_⟩
  obtain ⟨c, hc⟩ := Option.isSome_iff_exists.1 hb
  have hbody : bodyOf fn = c := by simp [bodyOf, hc]
  have hu : ∀ n, undefs n = List.replicate n undef := fun n => by
    induction n with
    | zero => rfl
    | succ n ih => simp [undefs, ih, List.replicate_succ]
  simp only [atP, down, hbody] at h
  have hq : PI (bodyQ P fn.results.toList R X) := fun ch e e' w hh => hh
  have hs := sem_sound (ds := []) hm c _ _ w hq h
  refine calls_of_wp hf hc ?_
  have he : (⟨(args ++ undefs (fn.ntmps - args.length)).toArray, []⟩ : Act) = { tmps := args.toArray ++ Array.replicate (fn.ntmps - args.toArray.size) undef, defers := [] } := by
    congr 1
    apply Array.ext'
    simp [hu]
  rw [he] at hs
  refine wp_mono hs fun ex a w' hh => ?_
  obtain ⟨hd, hh⟩ := hh
  have fin : sresL P fn.results.toList a.tmps.toList [] R w' → bodyPost P fn (fun | .returned v, w' => R v w' | .panicked ch, w' => X ch w' | .outgrown, _ => False) .normal a w' := fun hh => by
    obtain ⟨F, hFd⟩ : ∃ F : ResultVar → Sem Value, F = (fun | .tmp t => pure (a.tmps.getD t undef) | .cell b t => do loadVar t (← asAddr (a.tmps.getD b undef))) := ⟨_, rfl⟩
    have hF : ∀ t, (F (.tmp t)).run P w' = .ok (nth a.tmps.toList t) w' := fun t => by
      rw [hFd, ← nth_eq]
      simp
    have hC : ∀ b t ad, nth a.tmps.toList b = .pointer (some ad) → (F (.cell b t)).run P w' = (loadVar t ad).run P w' := fun b t ad hb => by
      rw [hFd]
      have hg : a.tmps.getD b undef = .pointer (some ad) := by rw [← hb, ← nth_eq]
      simp only [Sem.run_bind, hg]
      rfl
    obtain ⟨vs, h1, h2⟩ := results_run hF hC [] hh
    rw [hFd] at h1
    refine ⟨hd, if h : vs.length = 1 then vs[0] else .tuple vs.toArray, ?_, one_or_many (by simpa using h2)⟩
    unfold results
    rw [Array.mapM_eq_mapM_toList]
    simp only [Sem.run_bind, Sem.run_map]
    refine (congrArg (fun r => (Result.andThen (Result.andThen r _) _)) h1).trans ?_
    simp
  cases ex with
  | normal => exact fin hh
  | ret => exact fin hh
  | panic ch => exact ⟨hd, hh⟩
  | exit id => exact hh
  | goto l => exact hh
  | outgrown => exact hh
end Go.G
end
