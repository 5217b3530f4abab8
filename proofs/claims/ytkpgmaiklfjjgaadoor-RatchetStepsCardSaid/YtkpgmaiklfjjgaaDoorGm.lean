/-
  The row's frame: what comes in reads as lists and numbers; a law that hands back true and turns nothing holds.
-/
import Derived.Test.YtkpgmaiklfjjgaaDoorGl
import Derived.WalkKit
import Derived.ProofKit
import Derived.OpenShut
import Derived.Carry
set_option linter.unusedSimpArgs false
set_option linter.unusedVariables false
namespace Go.G
open Go Go.ChangeShapes Go.WideShapes Go.ChangeAt Go.RowKit
/-- Whatever is read at this type of the program reads as this. -/
def Opens (P : Program) (t : TypeId) (ty : Ty) : Prop :=
  ∀ (H : Type) (enc : TypeId × Value → H) (w : World) (sp : Nat → Bool) (fuel : Nat) (cs : List Value) (x : DataW H × List MemPlace),
    DataW.trod enc P w 0 sp true fuel t cs = some x → ∃ y, Rd ty (fun b => b < w.heap.size) w cs y
variable {P : Program} {t : TypeId}
theorem wf_min_max {k : IntKind} {n : Int} (h : (Lit.int k n).wf = true) : k.min ≤ n ∧ n ≤ k.max := by
  simp only [Lit.wf, Bool.and_eq_true, decide_eq_true_eq] at h; exact h
theorem opens_int {k : IntKind} (ht : P.underlying t = some (.int k)) : Opens P t (.int k) := fun H enc w sp fuel cs x h => by
  obtain ⟨n, rfl, _, hw⟩ := DataW.trod_int ht h
  exact ⟨n, rfl, wf_min_max hw⟩
theorem opens_byte (ht : P.underlying t = some (.int .u8)) : Opens P t .byte := fun H enc w sp fuel cs x h => by
  obtain ⟨n, rfl, _, hw⟩ := DataW.trod_int ht h
  have := wf_min_max hw
  simp [IntKind.min, IntKind.max, IntKind.signed, IntKind.bits] at this
  refine ⟨UInt8.ofNat n.toNat, ?_⟩
  show [Value.int .u8 n] = [Value.int .u8 _]
  congr 2
  rw [UInt8.toNat_ofNat']
  omega
theorem opens_bool (ht : P.underlying t = some .bool) : Opens P t .bool := fun H enc w sp fuel cs x h => by
  obtain ⟨b, rfl, _⟩ := DataW.trod_bool ht h
  exact ⟨b, rfl⟩
theorem opens_str (ht : P.underlying t = some .string) : Opens P t .str := fun H enc w sp fuel cs x h => by
  obtain ⟨s, rfl, _, hl⟩ := DataW.trod_string ht h
  refine ⟨s.data.toList, ?_, ?_⟩
  · simp
  · simp [maxLen] at hl ⊢
    have : s.data.size = s.size := rfl
    omega
theorem list_choice {α : Type} {p : Nat → α → Prop} : ∀ (n : Nat), (∀ i, i < n → ∃ y, p i y) → ∃ l : List α, l.length = n ∧ ∀ i (h : i < l.length), p i l[i]
  | 0, _ => ⟨[], rfl, fun i h => by simp at h⟩
  | n + 1, h => by
    obtain ⟨l, hl, hp⟩ := list_choice n (fun i hi => h i (by omega))
    obtain ⟨y, hy⟩ := h n (by omega)
    refine ⟨l ++ [y], by simp [hl], fun i hi => ?_⟩
    by_cases hin : i < l.length
    · rw [List.getElem_append_left hin]; exact hp i hin
    · have : i = l.length := by simp at hi; omega
      subst this
      rw [List.getElem_append_right (by omega)]
      simpa [hl] using hy
theorem opens_slice {e : TypeId} {ty : Ty} (ht : P.underlying t = some (.slice e)) (hc : P.cellsOf e = ty.n) (he : Opens P e ty) : Opens P t (.slice ty) := fun H enc w sp fuel cs x h => by
  rcases DataW.trod_slice ht h with ⟨rfl, _⟩ | ⟨a, len, cap, elems, rest, n, rfl, rfl, _, _, hlc, hcm, hel, hget, _, _⟩
  · exact ⟨[], none, 0, rfl, Nat.le_refl _, by simp, fun h => absurd rfl h⟩
  · have hp := ty.n_pos
    have hspot : 0 < len → a.spot = none := fun h0 => by
      have hg := hget 0 h0
      rw [List.getElem?_eq_getElem (by omega)] at hg
      obtain ⟨cs, h1, _⟩ := Option.bind_eq_some_iff.1 hg
      obtain ⟨_, hlen, hcell⟩ := World.cells?_some h1
      rw [hc] at hcell hlen
      have h0 := hcell 0 (by omega)
      rw [List.getElem?_eq_getElem (by omega), add_zero, Nat.zero_mul, add_zero] at h0
      exact World.cell?_spot h0
    have key : ∀ i, i < len → ∃ y, a.spot = none ∧ a.block < w.heap.size ∧ ∃ cs : List Value, cs.length = ty.n ∧ (∀ j v, cs[j]? = some v → w.cell? (a.add (i * ty.n + j)) = some v) ∧ Rd ty (fun b => b < w.heap.size) w cs y := by
      intro i hi
      have hg := hget i hi
      rw [List.getElem?_eq_getElem (by omega)] at hg
      obtain ⟨cs, h1, h2⟩ := Option.bind_eq_some_iff.1 hg
      obtain ⟨_, hlen, hcell⟩ := World.cells?_some h1
      obtain ⟨y, hy⟩ := he H enc w sp n cs _ h2
      rw [hc] at hcell hlen
      have h0 := hcell 0 (by omega)
      rw [List.getElem?_eq_getElem (by omega)] at h0
      have hsp : a.spot = none := hspot (by omega)
      refine ⟨y, hsp, ?_, cs, hlen, fun j v hj => ?_, hy⟩
      · have := cell_lt h0
        rwa [add_block, add_block] at this
      · have hjl := (List.getElem?_eq_some_iff.1 hj).1
        have := hcell j (by omega)
        rw [add_add _ _ _ hsp] at this
        rw [this]; exact hj
    obtain ⟨ys, hl, hy⟩ := list_choice len key
    refine ⟨ys, some a, cap, by rw [hl], by omega, by simp [maxLen] at hcm; omega, fun hne => ?_⟩
    have hpos : 0 < ys.length := List.length_pos_iff.2 hne
    obtain ⟨s0, b0, _⟩ := hy 0 hpos
    exact ⟨a, rfl, s0, b0, fun i hi => (hy i hi).2.2⟩
theorem opens_pair {fs : Array Field} {f1 f2 : Field} {a b : Ty} (ht : P.underlying t = some (.struct fs)) (hf : fs = #[f1, f2]) (hn : P.cellsOf t = a.n + b.n) (o1 : f1.offset = 0) (o2 : f2.offset = a.n) (c1 : P.cellsOf f1.type = a.n) (c2 : P.cellsOf f2.type = b.n)
    (h1 : Opens P f1.type a) (h2 : Opens P f2.type b) : Opens P t (.pair a b) := fun H enc w sp fuel cs x h => by
  subst hf
  obtain ⟨xs, n, _, _, hl, hxl, hx⟩ := DataW.trod_struct ht h
  have g1 := hx 0 f1 rfl
  have g2 := hx 1 f2 rfl
  simp at hxl
  rw [List.getElem?_eq_getElem (by omega), o1, c1] at g1
  rw [List.getElem?_eq_getElem (by omega), o2, c2] at g2
  obtain ⟨y1, hy1⟩ := h1 H enc w sp n _ _ g1
  obtain ⟨y2, hy2⟩ := h2 H enc w sp n _ _ g2
  rw [hn] at hl
  refine ⟨(y1, y2), cs.take a.n, cs.drop a.n, (List.take_append_drop _ _).symm, by simp; omega, by simp; omega, by simpa using hy1, ?_⟩
  rw [List.take_of_length_le (by simp; omega)] at hy2
  exact hy2
theorem opens_three {fs : Array Field} {f1 f2 f3 : Field} {a b c : Ty} (ht : P.underlying t = some (.struct fs)) (hf : fs = #[f1, f2, f3]) (hn : P.cellsOf t = a.n + (b.n + c.n)) (o1 : f1.offset = 0) (o2 : f2.offset = a.n) (o3 : f3.offset = a.n + b.n) (c1 : P.cellsOf f1.type = a.n) (c2 : P.cellsOf f2.type = b.n) (c3 : P.cellsOf f3.type = c.n)
    (h1 : Opens P f1.type a) (h2 : Opens P f2.type b) (h3 : Opens P f3.type c) : Opens P t (.pair a (.pair b c)) := fun H enc w sp fuel cs x h => by
  subst hf
  obtain ⟨xs, n, _, _, hl, hxl, hx⟩ := DataW.trod_struct ht h
  have g1 := hx 0 f1 rfl
  have g2 := hx 1 f2 rfl
  have g3 := hx 2 f3 rfl
  simp at hxl
  rw [List.getElem?_eq_getElem (by omega), o1, c1] at g1
  rw [List.getElem?_eq_getElem (by omega), o2, c2] at g2
  rw [List.getElem?_eq_getElem (by omega), o3, c3] at g3
  obtain ⟨y1, hy1⟩ := h1 H enc w sp n _ _ g1
  obtain ⟨y2, hy2⟩ := h2 H enc w sp n _ _ g2
  obtain ⟨y3, hy3⟩ := h3 H enc w sp n _ _ g3
  rw [hn] at hl
  refine ⟨(y1, y2, y3), cs.take a.n, cs.drop a.n, (List.take_append_drop _ _).symm, by simp; omega, by simp [Ty.n]; omega, by simpa using hy1, (cs.drop a.n).take b.n, (cs.drop a.n).drop b.n, (List.take_append_drop _ _).symm, by simp; omega, by simp; omega, hy2, ?_⟩
  rw [List.take_of_length_le (by simp; omega)] at hy3
  rw [List.drop_drop]
  exact hy3
theorem trodAll_stays {H : Type} {enc : TypeId × Value → H} (hl : laidOutB P = true) {W W' : World} (hb : Below W.heap.size W W') : ∀ {ts : List TypeId} {vs : List Value} {ds : List (DataW H)} {ps : List MemPlace}, (∀ t ∈ ts, P.readableRec t = true ∧ t < P.types.size) →
    DataW.TrodAll enc P W 0 (fun _ => true) true ts vs ds ps → DataW.TrodAll enc P W' 0 (fun b => decide (b < W.heap.size)) true ts vs ds ps
  | [], [], [], _, _, h => h
  | t :: ts, v :: vs, d :: ds, ps, hr, h => by
    obtain ⟨p, q, h1, h2, h3⟩ := h
    refine ⟨p, q, ?_, trodAll_stays hl hb (fun t ht => hr t (List.mem_cons_of_mem _ ht)) h2, h3⟩
    obtain ⟨fuel, hf⟩ := h1
    exact Below.trod hl (hr t (by simp)).1 (hr t (by simp)).2 ⟨fuel, hf⟩ hb (fun x hx => DataW.trod_lt _ _ _ _ hf x hx)
  | [], _ :: _, _, _, _, h => by simp [DataW.TrodAll] at h
  | [], [], _ :: _, _, _, h => by simp [DataW.TrodAll] at h
  | _ :: _, [], _, _, _, h => by simp [DataW.TrodAll] at h
  | _ :: _, _ :: _, [], _, _, h => by simp [DataW.TrodAll] at h
theorem trodAll_len {H : Type} {enc : TypeId × Value → H} {W : World} {base : Nat} {sp : Nat → Bool} {hd : Bool} : ∀ {ts : List TypeId} {vs : List Value} {ds : List (DataW H)} {ps : List MemPlace}, DataW.TrodAll enc P W base sp hd ts vs ds ps → ds.length = ts.length ∧ vs.length = ts.length
  | [], [], [], _, _ => ⟨rfl, rfl⟩
  | t :: ts, v :: vs, d :: ds, _, h => by
    obtain ⟨p, q, _, h2, _⟩ := h
    have := trodAll_len h2
    simp [this]
  | [], _ :: _, _, _, h => by simp [DataW.TrodAll] at h
  | [], [], _ :: _, _, h => by simp [DataW.TrodAll] at h
  | _ :: _, [], _, _, h => by simp [DataW.TrodAll] at h
  | _ :: _, _ :: _, [], _, h => by simp [DataW.TrodAll] at h
theorem Ext.below {w w' : World} (h : Ext w w') : Below w.heap.size w w' := ⟨h.os, h.tape, h.output, h.size, fun k hk => h.keep k hk (fun h => h)⟩
/-- A law: it hands back true, and nothing has turned. -/
theorem law_end {fn : Func} {s : ChangeSpec} {H : Type} {enc : TypeId × Value → H} {W : World} {args : Array Value} {ds gs : List (DataW H)} {before : List MemPlace} {f : FuncId} {tb : TypeId}
    (hW : DataW.Whole enc P fn.params.toList s.vars false W args.toList ds gs before) (hv : s.vars = []) (hs : ∀ ds : List (DataW H), ds.length = fn.params.toList.length → s.fn H ds = { results := [.lit (.bool true)], args := ds })
    (hr : fn.resultTypes = #[tb]) (hb : P.underlying tb = some .bool) (hl : laidOutB P = true) (hp : ∀ t ∈ fn.params.toList, P.readableRec t = true ∧ t < P.types.size)
    (walk : GCalls P f args.toList (fun v w' => v = .bool true ∧ Ext W w') (fun _ _ => False) W) (hfb : ((P.funcs[f]?).bind (·.body)).isSome = true := by kernel_rfl) :
    Calls P f args W fun e w' => ∃ v, e = .returned v ∧ s.post enc P fn false true false false W args v w' := by
  have hw := walk.calls hfb
  rw [Array.toArray_toList] at hw
  refine hw.mono fun e w' he => ?_
  cases e with
  | returned v =>
    obtain ⟨rfl, hE⟩ := he
    refine ⟨_, rfl, ds, gs, before, [], before, [], hW, ?_⟩
    obtain ⟨p, q, hA, hV, rfl, _, _⟩ := hW
    rw [hv] at hV
    cases gs with
    | cons _ _ => simp [DataW.TrodVars] at hV
    | nil =>
    have hq : q = [] := hV
    subst hq
    rw [List.append_nil, hs ds (trodAll_len hA).1, hr]
    simp only [List.append_nil]
    refine ⟨?_, trodAll_stays hl hE.below hp hA, ?_, hE.below.frame _, fun h => by cases h⟩
    · refine ⟨[], [], ⟨1, ?_⟩, rfl, rfl⟩
      simp [DataW.trod, hb, Value.cells]
    · rw [hv]; rfl
  | panicked ch => exact he.elim
  | outgrown => exact he.elim
end Go.G
