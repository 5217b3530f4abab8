/-
  The document's paths, and the slots below a page, are the program's.
-/
import Derived.Test.YtlolomdgchkibaaKh
import Derived.Test.YtlolomdgchkibaaS21
import Derived.Test.YtlolomdgchkibaaTl
set_option maxRecDepth 100000
set_option linter.unusedSimpArgs false
set_option linter.unusedVariables false
namespace Go.Proofs.Ytlolomdgchkibaa
open Go Go.G
variable {X : KX} {w : World} {K : KV} {a d l : Int} {D : Nat → Prop}
def rpL (a d l : Int) : Nat → Int → List Int → List Int
  | 0, _, out => out
  | n + 1, p, out => if p > 0 then rpL a d l n (parentF a d l p) (parentF a d l p :: out) else out
def rpathF (a d l s : Int) : List Int := if leafF a d l s < 0 then [] else rpL a d l 86 (leafF a d l s) []
def runderF (a d l p : Int) : List Int := ((List.range (leavesF a d l).toNat).filter fun (s : Nat) => leafF a d l s == p || (pathF a d l s).contains p).map fun (s : Nat) => (s : Int)
section
variable (hr : rightF a d l = true) (hq : rightF a d 64 = true)
include hr hq
theorem leaf_l : leafF a d l = leafF a d 64 := by funext p; unfold leafF; rw [leaves_l hr hq, nodes_l hr hq]
theorem up_l : upF a d l = upF a d 64 := by funext p; unfold upF; rw [there_l hr hq]
theorem path_l : pathF a d l = pathF a d 64 := by funext p; unfold pathF; rw [leaf_l hr hq, up_l hr hq, parent_l hr hq]
theorem rpL_l : ∀ n p out, rpL a d l n p out = rpL a d 64 n p out
  | 0, _, _ => rfl
  | n + 1, p, out => by unfold rpL; rw [parent_l hr hq, rpL_l n]
theorem rpath_l : rpathF a d l = rpathF a d 64 := by funext p; unfold rpathF; rw [leaf_l hr hq, rpL_l hr hq]
end
/-- All that is to be looked at, geometry by geometry. -/
def check3 : Bool := [2, 3, 4].all fun a => [1, 2, 3].all fun d => (List.range 64).all fun (s : Nat) => decide (¬ (s : Int) < leavesF a d 64) ||
  (rpathF a d 64 s == pathF a d 64 s && thereF a d 64 (leafF a d 64 s) && (pathF a d 64 s).all (fun p => thereF a d 64 p) &&
    (upF a d 64 (leafF a d 64 s)).all (fun p => thereF a d 64 p))
def check4 : Bool := [2, 3, 4].all fun a => [1, 2, 3].all fun d => (List.range 85).all fun (p : Nat) => !(thereF a d 64 p) ||
  (underF a d 64 p == runderF a d 64 p && (underF a d 64 p).all (fun s => decide (0 ≤ s) && decide (s < leavesF a d 64)) && (List.range 64).all fun (s : Nat) => decide (¬ (s : Int) < leavesF a d 64) || ((upF a d 64 (leafF a d 64 s)).contains (p : Int) == (underF a d 64 p).contains (s : Int)))
theorem check3_true : check3 = true := by decide +kernel
theorem check4_true : check4 = true := by decide +kernel
theorem leaves_right {s : Int} (h0 : 0 ≤ s) (h : s < leavesF a d l) : rightF a d l = true := by
  cases hr : rightF a d l with
  | true => rfl
  | false => unfold leavesF at h; rw [hr] at h; simp at h; omega
theorem leaves_le : leavesF a d l ≤ 64 := by
  unfold leavesF
  cases hr : rightF a d l with
  | false => simp
  | true => have h' := @leavesF_bd a d l; unfold leavesF at h'; simp only [hr, cond_true] at h' ⊢; omega
/-- Of a slot that is. -/
theorem slot_law {s : Int} (h0 : 0 ≤ s) (h : s < leavesF a d l) : rpathF a d l s = pathF a d l s ∧ thereF a d l (leafF a d l s) = true ∧ (∀ p ∈ pathF a d l s, thereF a d l p = true) ∧ (∀ p ∈ upF a d l (leafF a d l s), thereF a d l p = true) := by
  have hr := leaves_right h0 h
  obtain ⟨hq, ha, hd⟩ := right64 hr
  have h64 := @leaves_le a d l
  rw [rpath_l hr hq, path_l hr hq, there_l hr hq, leaf_l hr hq, up_l hr hq]
  rw [leaves_l hr hq] at h h64
  have hc := check3_true
  unfold check3 at hc
  have hc := List.all_eq_true.1 (List.all_eq_true.1 (List.all_eq_true.1 hc a ha) d hd) s.toNat (by simp; omega)
  have hss : ((s.toNat : Nat) : Int) = s := by omega
  rw [hss, decide_eq_false (by omega)] at hc
  simp only [Bool.false_or, Bool.and_eq_true, beq_iff_eq, List.all_eq_true] at hc
  exact ⟨hc.1.1.1, hc.1.1.2, hc.1.2, hc.2⟩
theorem no_leaf {s : Int} (h : ¬ (0 ≤ s ∧ s < leavesF a d l)) : leafF a d l s = -1 := by unfold leafF; rw [if_pos (by omega)]
theorem path_law (s : Int) : rpathF a d l s = pathF a d l s := by
  by_cases h : 0 ≤ s ∧ s < leavesF a d l
  · exact (slot_law h.1 h.2).1
  · have := no_leaf h
    unfold rpathF pathF
    rw [this]; rfl
theorem page_law {p : Int} (h : thereF a d l p = true) : underF a d l p = runderF a d l p ∧ (∀ s ∈ underF a d l p, 0 ≤ s ∧ s < leavesF a d l) ∧ ∀ s : Int, 0 ≤ s → s < leavesF a d l → (p ∈ upF a d l (leafF a d l s) ↔ s ∈ underF a d l p) := by
  have hb := there_bd h
  have hr := hb.2.2.2.1
  obtain ⟨hq, ha, hd⟩ := right64 hr
  have hru : runderF a d l = runderF a d 64 := by funext p; unfold runderF; rw [leaves_l hr hq, leaf_l hr hq, path_l hr hq]
  have h64 := @leaves_le a d l
  rw [hru, under_l hr hq, leaves_l hr hq, leaf_l hr hq, up_l hr hq]
  rw [there_l hr hq] at h
  rw [leaves_l hr hq] at h64
  have hc := check4_true
  unfold check4 at hc
  have hc := List.all_eq_true.1 (List.all_eq_true.1 (List.all_eq_true.1 hc a ha) d hd) p.toNat (by simp; omega)
  have hpp : ((p.toNat : Nat) : Int) = p := by omega
  rw [hpp, h] at hc
  simp only [Bool.not_true, Bool.false_or, Bool.and_eq_true, beq_iff_eq, List.all_eq_true, decide_eq_true_eq] at hc
  refine ⟨hc.1.1, hc.1.2, fun s h0 h1 => ?_⟩
  have hs := hc.2 s.toNat (by simp; omega)
  have hss : ((s.toNat : Nat) : Int) = s := by omega
  rw [hss, decide_eq_false (by omega)] at hs
  simp only [Bool.false_or, beq_iff_eq] at hs
  rw [← List.contains_iff_mem, ← List.contains_iff_mem, hs]
theorem under_law (p : Int) : runderF a d l p = underF a d l p := by
  cases h : thereF a d l p with
  | true => exact (page_law h).1.symm
  | false =>
    have e : underF a d l p = [] := by unfold underF; rw [h]; rfl
    rw [e]
    unfold runderF
    rw [List.map_eq_nil_iff, List.filter_eq_nil_iff]
    intro s hs hh
    rw [List.mem_range] at hs
    obtain ⟨_, h2, h3, _⟩ := slot_law (a := a) (d := d) (l := l) (s := (s : Int)) (by omega) (by omega)
    simp only [Bool.or_eq_true, beq_iff_eq, List.contains_iff_mem] at hh
    rcases hh with hh | hh
    · rw [hh, h] at h2; cases h2
    · rw [h3 p hh] at h; cases h
theorem under_slot {p s : Int} (h : s ∈ underF a d l p) : 0 ≤ s ∧ s < leavesF a d l := by
  cases ht : thereF a d l p with
  | true => exact (page_law ht).2.1 s h
  | false => have e : underF a d l p = [] := by unfold underF; rw [ht]; rfl
             rw [e] at h; cases h
/-- A page is on the way up from a slot just where the slot is below it. -/
theorem touch_law (p s : Int) : p ∈ upF a d l (leafF a d l s) ↔ thereF a d l p = true ∧ s ∈ underF a d l p := by
  by_cases hs : 0 ≤ s ∧ s < leavesF a d l
  · constructor
    · intro h
      have ht := (slot_law hs.1 hs.2).2.2.2 p h
      exact ⟨ht, ((page_law ht).2.2 s hs.1 hs.2).1 h⟩
    · rintro ⟨ht, h⟩
      exact ((page_law ht).2.2 s hs.1 hs.2).2 h
  · constructor
    · intro h
      rw [no_leaf hs] at h
      have : thereF a d l (-1) = false := by unfold thereF; simp
      unfold upF at h
      rw [this] at h; cases h
    · rintro ⟨_, h⟩
      exact absurd (under_slot h) hs
def touchF (a d l : Int) (slots : List Int) : List Int := ((List.range (pagesF a d l).toNat).filter fun (p : Nat) => (underF a d l p).any fun u => slots.contains u).map fun (p : Nat) => (p : Int)
theorem touch_spec (slots : List Int) : (touchF a d l slots).Pairwise (· < ·) ∧ ∀ p, p ∈ touchF a d l slots ↔ p ∈ (slots.map fun s => upF a d l (leafF a d l s)).flatten := by
  refine ⟨?_, fun p => ?_⟩
  · unfold touchF
    rw [List.pairwise_map]
    exact (List.Pairwise.filter _ List.pairwise_lt_range).imp (fun h => by omega)
  · rw [List.mem_flatten]
    unfold touchF
    rw [List.mem_map]
    constructor
    · rintro ⟨q, hq, rfl⟩
      obtain ⟨h1, h2⟩ := List.mem_filter.1 hq
      obtain ⟨u, hu, hs⟩ := List.any_eq_true.1 h2
      rw [List.contains_iff_mem] at hs
      rw [List.mem_range] at h1
      have ht : thereF a d l (q : Int) = true := by unfold thereF; simp; omega
      exact ⟨_, List.mem_map.2 ⟨u, hs, rfl⟩, (touch_law _ _).2 ⟨ht, hu⟩⟩
    · rintro ⟨us, hus, hp⟩
      obtain ⟨s, hs, rfl⟩ := List.mem_map.1 hus
      obtain ⟨ht, hu⟩ := (touch_law _ _).1 hp
      unfold thereF at ht
      simp only [Bool.and_eq_true, decide_eq_true_eq] at ht
      refine ⟨p.toNat, List.mem_filter.2 ⟨?_, ?_⟩, by omega⟩
      · rw [List.mem_range]; omega
      · rw [List.any_eq_true]
        exact ⟨s, by rw [show ((p.toNat : Nat) : Int) = p by omega]; exact hu, List.contains_iff_mem.2 hs⟩
theorem touch_sort (slots : List Int) : sortI (keysF (slots.map fun s => upF a d l (leafF a d l s)).flatten) = touchF a d l slots := by
  obtain ⟨h1, h2⟩ := touch_spec (a := a) (d := d) (l := l) slots
  exact sort_unique h1 (keysF_nodup _) (fun q => by rw [h2 q, mem_keysF])
end Go.Proofs.Ytlolomdgchkibaa
