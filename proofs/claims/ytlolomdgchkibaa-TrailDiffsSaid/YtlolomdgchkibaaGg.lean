/-
  Code: 'sem' is enough for the walk's 'Code.wp'; and a call.
-/
import Derived.Test.YtlolomdgchkibaaGf
import Derived.Scope
set_option linter.unusedSimpArgs false
set_option linter.unusedVariables false
namespace Go.G
open Go
variable {P : Program} {pl : Nat → DrawPlan}

/-- What is said of a panic does not hang on the slots. -/
def PI (Q : QE) : Prop := ∀ ch e e' w, Q (.panic ch) e w → Q (.panic ch) e' w
theorem PI.thenQ {Q : QE} (h : PI Q) (N : List Value → World → Prop) : PI (thenQ N Q) := fun ch e e' w hq => h ch e e' w hq
theorem PI.inBlk {Q : QE} (h : PI Q) (id : Nat) : PI (inBlk id Q) := fun ch e e' w hq => h ch e e' w hq
theorem PI.noGo {Q : QE} (h : PI Q) : PI (noGo Q) := fun ch e e' w hq => h ch e e' w hq
theorem act_eta (a : Act) (h : a.defers = []) : a = ⟨a.tmps.toList.toArray, []⟩ := by
  cases a
  simp only at h
  subst h
  rfl
theorem sem_sound (hm : P.follows .mixedOrders = true) : ∀ (c : Code) (Q : QE) (e : List Value) (w : World), PI Q → sem P pl c Q e w → Code.wp P c (liftQ Q) ⟨e.toArray, []⟩ w
  | .skip, Q, e, w, _, h => wp_skip ⟨rfl, by simpa [sem] using h⟩
  | .label l, Q, e, w, _, h => wp_label ⟨rfl, by simpa [sem] using h⟩
  | .region id ops d, Q, e, w, hq, h => by
    cases d with
    | false => exact wp_region_list (semL_sound _ _ _ (by simpa [sem] using h))
    | true =>
      simp only [sem] at h
      split at h
      · rename_i hok
        exact drawn_sound hm hq hok h
      · cases h
  | .seq x y, Q, e, w, hq, h => by
    simp only [sem] at h
    refine wp_seq (wp_mono (sem_sound hm x _ e w (hq.thenQ _) h) fun ex a w' hh => ?_)
    obtain ⟨hd, hh⟩ := hh
    cases ex with
    | normal =>
      have := sem_sound hm y Q a.tmps.toList w' hq hh
      rw [← act_eta a hd] at this
      exact this
    | outgrown => cases hh
    | exit id => exact ⟨hd, hh⟩
    | goto l => exact ⟨hd, hh⟩
    | ret => exact ⟨hd, hh⟩
    | panic ch => exact ⟨hd, hh⟩
  | .cond c x y, Q, e, w, hq, h => by
    simp only [sem] at h
    obtain ⟨b, hb, h1, h2⟩ := h
    have hc : Act.eval ⟨e.toArray, []⟩ c = .bool b := by rw [eval_eq]; exact hb
    refine wp_cond hc ?_
    cases b with
    | true => exact sem_sound hm x Q e w hq (h1 rfl)
    | false => exact sem_sound hm y Q e w hq (h2 rfl)
  | .block id x, Q, e, w, hq, h => by
    simp only [sem] at h
    refine wp_block (wp_mono (sem_sound hm x _ e w (hq.inBlk _) h) fun ex a w' hh => ?_)
    obtain ⟨hd, hh⟩ := hh
    cases ex with
    | normal => exact ⟨hd, hh⟩
    | exit i =>
      simp only [Exit.inBlock]
      simp only [inBlk] at hh
      split at hh
      · rename_i hb
        have : i = id := by simpa using hb
        rw [if_pos this]
        exact ⟨hd, hh⟩
      · rename_i hb
        have : ¬ i = id := fun e => by subst e; simp at hb
        rw [if_neg this]
        exact ⟨hd, hh⟩
    | goto l => exact ⟨hd, hh⟩
    | ret => exact ⟨hd, hh⟩
    | panic ch => exact ⟨hd, hh⟩
    | outgrown => cases hh
  | .scope x, Q, e, w, hq, h => by
    simp only [sem] at h
    refine wp_scope_straight (wp_mono (sem_sound hm x _ e w hq.noGo h) fun ex a w' hh => ?_)
    obtain ⟨hd, hh⟩ := hh
    cases ex with
    | normal => exact ⟨hd, hh⟩
    | exit i => exact ⟨hd, hh⟩
    | goto l => cases hh
    | ret => exact ⟨hd, hh⟩
    | panic ch => exact ⟨hd, hh⟩
    | outgrown => cases hh
  | .exit id, Q, e, w, _, h => wp_exit ⟨rfl, by simpa [sem] using h⟩
  | .ret, Q, e, w, _, h => wp_ret ⟨rfl, by simpa [sem] using h⟩
  | .loop x, Q, e, w, hq, h => by
    simp only [sem] at h
    obtain ⟨I, m, h0, hr⟩ := h
    refine wp_loop (fun a w => a.defers = [] ∧ I a.tmps.toList w) (fun a w => m a.tmps.toList w) ⟨rfl, by simpa using h0⟩ fun a w' ⟨hd, hI⟩ => ?_
    have := sem_sound hm x _ a.tmps.toList w' (hq.thenQ _) (hr _ _ hI)
    rw [← act_eta a hd] at this
    refine wp_mono this fun ex a' w'' hh => ?_
    obtain ⟨hd', hh⟩ := hh
    cases ex with
    | normal => exact ⟨⟨hd', hh.1⟩, hh.2⟩
    | outgrown => cases hh
    | exit id => exact ⟨hd', hh⟩
    | goto l => exact ⟨hd', hh⟩
    | ret => exact ⟨hd', hh⟩
    | panic ch => exact ⟨hd', hh⟩
  | .rangeFunc .., Q, e, w, _, h => by simp [sem] at h
  | .goto .., Q, e, w, _, h => by simp [sem] at h
  | .refuse .., Q, e, w, _, h => by simp [sem] at h

/-! ### A call -/
theorem results_run {rs : List ResultVar} {e : List Value} {w : World} {K : KV} {F : ResultVar → Sem Value} (hF : ∀ t, (F (.tmp t)).run P w = .ok (nth e t) w) : ∀ (acc : List Value), sresL rs e acc K w →
    ∃ vs : List Value, (rs.mapM F).run P w = .ok vs w ∧ (match acc.reverse ++ vs with | [v] => K v w | l => K (.tuple l.toArray) w) := by
  induction rs with
  | nil =>
    intro acc h
    refine ⟨[], rfl, ?_⟩
    simp only [sresL] at h
    rw [List.append_nil]
    split at h
    · exact h
    · rename_i hne
      split
      · rename_i v hv
        have : acc = [v] := by rw [← List.reverse_reverse acc, hv]; rfl
        exact absurd this (hne v)
      · exact h
  | cons r rs ih =>
    intro acc h
    cases r with
    | cell a t => simp [sresL] at h
    | tmp t =>
      simp only [sresL] at h
      obtain ⟨vs, h1, h2⟩ := ih _ h
      refine ⟨nth e t :: vs, ?_, ?_⟩
      · simp only [List.mapM_cons, Sem.run_bind, Sem.run_pure, Result.andThen_ok, h1, hF]
      · simpa using h2
theorem one_or_many {vs : List Value} {K : KV} {w : World} (h : match vs with | [v] => K v w | l => K (.tuple l.toArray) w) : K (if h : vs.length = 1 then vs[0] else .tuple vs.toArray) w := by
  cases vs with
  | nil => exact h
  | cons v r =>
    cases r with
    | nil => exact h
    | cons u r => simpa using h
theorem gcalls_of {f : FuncId} {fn : Func} {args : List Value} {R : KV} {X : KX} {w : World} (hf : P.funcs[f]? = some fn) (hb : fn.body.isSome = true) (hn : (fn.name == "runtime.NumGoroutine") = false)
    (hm : P.follows .mixedOrders = true) (h : atP P fn pl [] [] R X (args ++ undefs (fn.ntmps - args.length)) w) : GCalls P f args R X w := by
  refine ⟨⟨fn, hf, hb, hn⟩, ?_⟩
  obtain ⟨c, hc⟩ := Option.isSome_iff_exists.1 hb
  have hbody : bodyOf fn = c := by simp [bodyOf, hc]
  have hu : ∀ n, undefs n = List.replicate n undef := fun n => by
    induction n with
    | zero => rfl
    | succ n ih => simp [undefs, ih, List.replicate_succ]
  simp only [atP, down, hbody] at h
  have hq : PI (bodyQ fn.results.toList R X) := fun ch e e' w hh => hh
  have hs := sem_sound hm c _ _ w hq h
  refine calls_of_wp hf hc ?_
  have he : (⟨(args ++ undefs (fn.ntmps - args.length)).toArray, []⟩ : Act) = { tmps := args.toArray ++ Array.replicate (fn.ntmps - args.toArray.size) undef, defers := [] } := by
    congr 1
    apply Array.ext'
    simp [hu]
  rw [he] at hs
  refine wp_mono hs fun ex a w' hh => ?_
  obtain ⟨hd, hh⟩ := hh
  have fin : sresL fn.results.toList a.tmps.toList [] R w' → bodyPost P fn (fun | .returned v, w' => R v w' | .panicked ch, w' => X ch w' | .outgrown, _ => False) .normal a w' := fun hh => by
    obtain ⟨F, hFd⟩ : ∃ F : ResultVar → Sem Value, F = (fun | .tmp t => pure (a.tmps.getD t undef) | .cell b t => do loadVar t (← asAddr (a.tmps.getD b undef))) := ⟨_, rfl⟩
    have hF : ∀ t, (F (.tmp t)).run P w' = .ok (nth a.tmps.toList t) w' := fun t => by
      rw [hFd, ← nth_eq]
      simp
    obtain ⟨vs, h1, h2⟩ := results_run hF [] hh
    rw [hFd] at h1
    refine ⟨hd, if h : vs.length = 1 then vs[0] else .tuple vs.toArray, ?_, one_or_many (by simpa using h2)⟩
    unfold results
    rw [Array.mapM_eq_mapM_toList]
    simp only [Sem.run_bind, Sem.run_map]
    refine (congrArg (fun r => (Result.andThen (Result.andThen r _) _)) h1).trans ?_
    simp
  cases ex with
  | normal => exact fin hh
  | ret => exact fin hh
  | panic ch => exact ⟨hd, hh⟩
  | exit id => exact hh
  | goto l => exact hh
  | outgrown => exact hh
end Go.G
