/-
  The library's contracts in this file's words; a map's keys, sorted.
-/
import Derived.Test.YtlolomdgchkibaaGp
import Derived.Test.YtlolomdgchkibaaGn
import Derived.Test.YtlolomdgchkibaaGm
import Derived.Shelf.SlIterI.Nil
import Derived.Shelf.SortM.Plain
import Derived.Shelf.SortM.SortNone
set_option linter.unusedSimpArgs false
set_option linter.unusedVariables false
namespace Go.G
open Go Go.MapKept Go.Proofs Go.WideShapes Go.Maps Go.RowKit
open Go.WideElems (rd rg rg_of)
theorem Calls.g {P : Program} {f : FuncId} {fn : Func} {args : List Value} {K : KV} {X : KX} {w : World} {Q : Ending → World → Prop} (h : Calls P f args.toArray w Q) (hf : P.funcs[f]? = some fn) (hb : fn.body.isSome = true) (hn : (fn.name == "runtime.NumGoroutine") = false)
    (hQ : ∀ e w', Q e w' → ∃ v, e = .returned v ∧ K v w') : GCalls P f args K X w :=
  .inl ⟨⟨fn, hf, hb, hn⟩, h.mono fun e w' he => by obtain ⟨v, rfl, hk⟩ := hQ e w' he; exact hk⟩
theorem Ext.of_below {w w' : World} (h : Below w.heap.size w w') : Ext w w' := ⟨h.os, h.tape, h.output, h.size, fun b hb _ => h.block b hb⟩
theorem RdL.ints {D : Nat → Prop} {w : World} : ∀ {xs : List Int}, (∀ x ∈ xs, IntKind.i64.min ≤ x ∧ x ≤ IntKind.i64.max) → RdL (.int .i64) D w (xs.map encZ) xs
  | [], _ => rfl
  | x :: xs, h => ⟨[.int .i64 x], xs.map encZ, rfl, ⟨rfl, h x (by simp)⟩, RdL.ints (fun y hy => h y (by simp [hy]))⟩
theorem Own.of_row {t : Ty} {D : Nat → Prop} {w : World} {base : Nat} {e : TypeId} {v : Value} {xs : List t.D} {cs : List Value} (h : w.ownsRow base e t.n v xs.length cs) (hr : RdL t D w cs xs) (hD : ∀ b, base ≤ b → ¬ D b) : Own t D base w v xs := by
  obtain ⟨h1, ⟨rfl, h2⟩ | ⟨g, cap, cur, rfl, h3, h4, h5, h6, h7, h8⟩⟩ := h
  · exact .inl ⟨List.length_eq_zero_iff.1 h2, _, rfl⟩
  · refine .inr ⟨g, cap, cur, e, (0, 0), cs, cur.toList.drop (xs.length * t.n), rfl, h3, hD g h3, h4, fun o _ _ h => by simp at h, ?_, h7, hr⟩
    rw [← h8, List.take_append_drop]
abbrev anyR : Value → Option (DataW Unit × List MemPlace) := fun _ => some (.lit (.bool true), [])
theorem wf64 {n : Int} : (Lit.int .i64 n).wf = true ↔ IntKind.i64.min ≤ n ∧ n ≤ IntKind.i64.max := by simp [Lit.wf]
theorem ownsMap_of {P : Program} {k : TypeId} {w : World} {b : Nat} {l : List (Int × Value)} (hk : P.underlying k = some (.int .i64)) (h : MapB encI w b l) (hr : ∀ p ∈ l, IntKind.i64.min ≤ p.1 ∧ p.1 ≤ IntKind.i64.max) (hs : l.length ≤ maxLen) :
    ∃ D0 : DataW Unit, w.ownsMap P k anyR b l.length D0 ∧ Maps.size D0 = l.length ∧ (intKeys D0).Perm (l.map (·.1)) := by
  obtain ⟨es, cl, hb, hst, hl⟩ := h
  have hlen : es.size = l.length := by
    have := congrArg List.length hl
    simpa using this
  have hkey : ∀ x ∈ es.toList, ∃ p ∈ l, x.key = .int .i64 p.1 ∧ rd P k anyR x = some (.int .i64 p.1, .lit (.bool true)) := fun x hx => by
    have : (x.key, x.val) ∈ l.map (fun p => (encI p.1, p.2)) := by rw [← hl]; exact List.mem_map.2 ⟨x, hx, rfl⟩
    obtain ⟨p, hp, e⟩ := List.mem_map.1 this
    have e1 : x.key = .int .i64 p.1 := (congrArg Prod.fst e).symm
    refine ⟨p, hp, e1, ?_⟩
    have hw : (Lit.int .i64 p.1).wf = true := wf64.2 (hr p hp)
    unfold rd
    rw [e1, Maps.keyOf_int_mk hk hw]
    rfl
  refine ⟨.map ((es.toList.map (rg P k anyR)).foldr DataW.insert []), ⟨es, cl, hb, ⟨by omega, hst, fun x hx => ?_⟩, by omega, rfl⟩, ?_, ?_⟩
  · obtain ⟨p, _, _, h2⟩ := hkey x hx
    exact ⟨_, h2⟩
  · rw [Maps.size_eq, (sorted_perm _).length_eq]
    simpa using hlen
  · show ((_ : List (Lit × DataW Unit)).map fun p => intOf p.1).Perm _
    refine ((sorted_perm _).map _).trans ?_
    have : ∀ (es : List MapEntry) (l : List (Int × Value)), es.map (fun e => (e.key, e.val)) = l.map (fun p => (encI p.1, p.2)) → (∀ x ∈ es, ∃ n : Int, x.key = .int .i64 n ∧ rd P k anyR x = some (.int .i64 n, .lit (.bool true))) →
        (es.map (rg P k anyR)).map (fun p => intOf p.1) = l.map (·.1) := by
      intro es
      induction es with
      | nil => intro l hl _; cases l with
        | nil => rfl
        | cons _ _ => simp at hl
      | cons x es ih =>
        intro l hl hx
        cases l with
        | nil => simp at hl
        | cons p l =>
          simp only [List.map_cons, List.cons.injEq, Prod.mk.injEq] at hl
          obtain ⟨n, h1, h2⟩ := hx x (by simp)
          have hn : n = p.1 := by have := h1.symm.trans hl.1.1; simpa [encI] using this
          simp only [List.map_cons]
          rw [ih l hl.2 (fun y hy => hx y (by simp [hy])), rg_of h2, hn]
          rfl
    rw [this es.toList l hl (fun x hx => by obtain ⟨p, _, h1, h2⟩ := hkey x hx; exact ⟨p.1, h1, h2⟩)]
def sortI (l : List Int) : List Int := l.mergeSort leI
theorem sortI_perm {l l' : List Int} (h : l.Perm l') : sortI l = sortI l' := mergeSort_of_perm_i h
/-- maps.Keys and slices.Sorted, one behind the other. -/
theorem sorted_keys {P : Program} {ρ ρ2 : Go.Shelf.Ren} (Lk : SlLaysZI.n7 P ρ) (Ls : SlLaysZI.n6 P ρ2) (hsort : ∀ n, AnyZI.SortsIn P ρ2 Fence.wide n) {w : World} {b : Nat} {l : List (Int × Value)}
    (h : MapB encI w b l) (hr : ∀ p ∈ l, IntKind.i64.min ≤ p.1 ∧ p.1 ≤ IntKind.i64.max) (hs : l.length ≤ 1000000) (hk : P.underlying (ρ.t 26) = some (.int .i64))
    (e9 : ∀ args w, (callFunc (ρ2.f 9) args).run P w = .ok (.enter (ρ2.f 9) args) w) (eg : ∀ args w, (callFunc (ρ.f 10) args).run P w = .ok (.enter (ρ.f 10) args) w) :
    Calls P (ρ.f 7) #[.map (some b)] w (fun e w' => e = .returned (.func (.func (ρ.f 10)) #[] #[.pointer (some ⟨w.heap.size, 0, none⟩)]) ∧ w' = w.alloc (.cells #[.map (some b)] (ρ.t 23))) ∧
    Calls P (ρ2.f 6) #[.func (.func (ρ.f 10)) #[] #[.pointer (some ⟨w.heap.size, 0, none⟩)]] (w.alloc (.cells #[.map (some b)] (ρ.t 23))) fun e w' => ∃ v, e = .returned v ∧
      Ext w w' ∧ Own (.int .i64) (fun _ => False) w.heap.size w' v (sortI (l.map (·.1))) := by
  obtain ⟨D0, hown, hsz, hp⟩ := ownsMap_of hk h hr (by simp [maxLen]; omega)
  have hbl := hown.lt
  refine ⟨(callsIn_wide (n := 5)).1 (AnyZI.keys_in Lk Fence.wide 5 trivial rfl (some b) w), ?_⟩
  have hseq : SeqGives Fence.wide 2 P (ρ.f 10) #[.pointer (some ⟨w.heap.size, 0, none⟩)] encZ (fun ss => ss.Perm (intKeys D0)) (Maps.size D0) (w.alloc (.cells #[.map (some b)] (ρ.t 23))) :=
    AnyZI.keys_gives (ρ := ρ) { Lk with } Fence.wide _ trivial rfl (by omega) w.heap.size b l.length D0 _ (by simp) (by simp) (by
      obtain ⟨es, clock, hb, Ft, hs, hD⟩ := hown
      exact ⟨es, clock, (Below.heap_alloc _ _ b hbl).trans hb, Ft, hs, hD⟩)
  have cS := AnyZI.sorted_in Ls Fence.wide 5 trivial trivial trivial trivial rfl (by omega) (hsort _) e9 (ρ.f 10) #[.pointer (some ⟨w.heap.size, 0, none⟩)] trivial eg _ _ (by rw [hsz]; simp [maxLen]; omega) (by rw [hsz]; omega) _ hseq
  refine ((callsIn_wide (n := 5)).1 cS).mono ?_
  rintro e w' ⟨v, ss, rfl, hS, hrow, hnil, hbel⟩
  have hsz1 : (w.alloc (.cells #[.map (some b)] (ρ.t 23))).heap.size = w.heap.size + 1 := size_alloc _ _
  have hS2 : ss.mergeSort (fun x y => decide (x ≤ y)) = sortI (l.map (·.1)) := sortI_perm (hS.trans hp)
  rw [hS2] at hrow
  have hlen : ss.length = (sortI (l.map (·.1))).length := by rw [← hS2, List.length_mergeSort]
  rw [hlen] at hrow
  refine ⟨v, rfl, (Ext.alloc w _).tr (Ext.of_below hbel), ?_⟩
  refine (Own.of_row (D := fun _ => False) (t := .int .i64) hrow (RdL.ints fun x hx => ?_) (fun b hb hd => hd)).low (by omega)
  have : x ∈ l.map (·.1) := (List.mergeSort_perm _ _).mem_iff.1 hx
  obtain ⟨p, hp', rfl⟩ := List.mem_map.1 this
  exact hr p hp'
end Go.G
