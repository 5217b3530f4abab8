/-
  A gen that was skipped is told, and no more.
  What a chain that stands well tells of any gen.
  The rest of a round of the law on what a chain tells once: what is said of the answer.
-/
import Derived.Test.YtkpgmaiklfjjgaaDoorMoba
section
set_option linter.unusedSimpArgs false
set_option linter.unusedVariables false
namespace Go.Proofs.YtkpgmaiklfjjgaaDoor
open Go Go.G Go.RowKit
variable {X : KX} {w : World} {K : KV} {D D' : Nat → Prop}
theorem own_el {t : Ty} {B g n c i : Nat} {xs : List t.D} (h : G.Own t D B w (.slice (some ⟨g, 0, none⟩) n c) xs) (hi : i < xs.length) :
    ∃ us : List Value, us.length = t.n ∧ (∀ j, j < t.n → w.cell? ((⟨g, i * t.n, none⟩ : Addr).add j) = us[j]?) ∧ Rd t D w us xs[i] := by
  rcases h with ⟨rfl, a, e⟩ | ⟨g', c', cs, T, fz, old, rest, e, h1, h2, h3, h3', h4, h5, h6⟩
  · simp at hi
  · simp only [Value.slice.injEq, Option.some.injEq, Addr.mk.injEq, and_true] at e
    obtain ⟨rfl, -, rfl⟩ := e
    obtain ⟨us, e1, e2, e3⟩ := h6.get i hi
    refine ⟨us, e1, fun j hj => ?_, e2⟩
    have hu : us[j]? = some (us[j]'(by omega)) := List.getElem?_eq_getElem (by omega)
    have := e3 j _ hu
    rw [add_mk, cell_mk h3, hu, ← Array.getElem?_toList, h4, List.getElem?_append_left (List.getElem?_eq_some_iff.1 this).1]
    exact this
set_option maxHeartbeats 1000000 in
theorem AtSkip_c {xs : Value} {g0 gen win : Int} {i : Nat} {vc vs : Value} {cur : List UInt8} {sk : List (Int × List UInt8)} (hc : Rd (.slice .byte) D w [vc] cur) (hv : Rd (.slice tSkip) D' w [vs] sk)
    (hcl : cur.length ≤ 1000) (hsl : sk.length ≤ 100) (hse : ∀ i (h : i < sk.length), sk[i].2.length ≤ 1000) (hw1 : 1 ≤ win) (hw8 : win ≤ 8) (hg0 : 0 ≤ g0) (hg : 0 ≤ gen) (hgm : gen < 1073741824) (hlt : gen < g0) (hi : i < sk.length) (hp : placeF sk gen = (i : Int))
    (h : ∀ vk vc' vs' w', Ext w w' → Rd (.slice .byte) (w.heap.size ≤ ·) w' [vk] sk[i].2 → Rd (.slice .byte) (w.heap.size ≤ ·) w' [vc'] cur → Rd (.slice tSkip) (w.heap.size ≤ ·) w' [vs'] (sk.eraseIdx i) → K (.tuple #[vk, chainV g0 vc' vs', .int .i64 0]) w') :
    GCalls Tryd.prog 21 [xs, chainV g0 vc vs, .int .i64 gen, .int .i64 win] K X w := by
  have oc := one_of_rd hc
  have os := one_of_rd hv
  apply ratchet_At.calls; unfold ratchet_At.b
  refine boxC (cs := [.int .i64 g0, vc, vs]) fun g5 w1 hg5 h1 c1 => ?_
  refine boxC (cs := [.int .i64 0, .slice none 0 0, .slice none 0 0]) fun g9 w2 hg9 h2 c2 => ?_
  have z1 := h1.size; have z2 := h2.size; have l1 := c1.lt; have l2 := c2.lt
  have h12 := h1.tr h2
  have c1 := c1.ext h2
  rw [c1.ld3]
  refine (?_ : GCalls Tryd.prog 49 [chainV g0 vc vs, .int .i64 gen] _ X w2)
  refine place_c (hv.ext h12) fun w3 h3 => ?_
  have z3 := h3.size
  have h13 := h12.tr h3
  have c1 := c1.ext h3
  have c2 := c2.ext h3
  have d1 : ¬ (win < 1) := by omega
  have d2 : ¬ (win > 8) := by omega
  have d3 : ¬ (gen < 0) := by omega
  have d4 : ¬ (gen ≥ 1073741824) := by omega
  have d5 : ¬ (g0 < 0) := by omega
  have d6 : ¬ ((i : Int) < 0) := by omega
  obtain ⟨av, cv, hvf, hcv, hlv⟩ := hv.form
  simp only [↓eBinI, ↓eDiv, ↓eShift, ↓eBinS, ↓ePick, ↓eNot, ↓eNeg, ↓eConv, ↓eConvS, ↓eExt0, ↓eExt1, ↓eExt2, ↓eFA, ↓eIA, ↓eLenSl, ↓eCapSl, ↓eLenS, ↓eMin, ↓eMax, ↓eCondT, ↓eCondF, ↓gIf_tt, ↓gIf_ff, ↓gIf_tf, ↓gIf_ft, ↓gIf_u, ↓gIfW_u, ↓gIfW_tt, ↓gIfW_ff, ↓gIfW_tf, ↓gIfW_ft, binI, divI, shiftI, add_mk, Nat.zero_add, cond_true, cond_false, decide_true, decide_false, Bool.not_true, Bool.not_false, Bool.and_true, Bool.true_and, Bool.and_false, Bool.false_and, Int.toNat_natCast, Nat.mul_one, d1, d2, d3, d4, ↓c1.c0, d5, hlt, hp, d6, ↓c1.c2, ↓c1.ld3]
  rw [hvf]
  simp only [↓eBinI, ↓eDiv, ↓eShift, ↓eBinS, ↓ePick, ↓eNot, ↓eNeg, ↓eConv, ↓eConvS, ↓eExt0, ↓eExt1, ↓eExt2, ↓eFA, ↓eIA, ↓eLenSl, ↓eCapSl, ↓eLenS, ↓eMin, ↓eMax, ↓eCondT, ↓eCondF, ↓gIf_tt, ↓gIf_ff, ↓gIf_tf, ↓gIf_ft, ↓gIf_u, ↓gIfW_u, ↓gIfW_tt, ↓gIfW_ff, ↓gIfW_tf, ↓gIfW_ft, binI, divI, shiftI, add_mk, Nat.zero_add, cond_true, cond_false, decide_true, decide_false, Bool.not_true, Bool.not_false, Bool.and_true, Bool.true_and, Bool.and_false, Bool.false_and, Int.toNat_natCast, Nat.mul_one]
  rw [← hvf]
  refine (?_ : GCalls Tryd.prog 50 [chainV g0 vc vs, .int .i64 sk.length] _ X w3)
  refine DropO_c (hc.ext h13) (hv.ext h13) hcl (by omega) hse (by omega) (by omega) fun vc' vs' w4 D2 B h4 hB1 hB2 rc o4 hD2 hb4 => ?_
  rw [Int.toNat_natCast, Nat.sub_self, List.drop_zero] at o4
  have z4 := h4.size
  obtain ⟨gv, cw, rfl, hgv, hgs⟩ := o4.some_of (by omega)
  have oc' := one_of_rd rc
  refine (c1.ext h4).setN (l' := [.int .i64 g0, vc', .slice (some ⟨gv, 0, none⟩) sk.length cw]) rfl rfl (allOne3 rfl oc' rfl) fun w5 c5 f5 => ?_
  have z5 := f5.size
  have o5 := o4.fr f5 (fun b hb => by have := hD2 b hb; omega) (fun b hb hB => by omega)
  have rc := rc.fr f5 (fun b hb => by omega)
  simp only [↓eBinI, ↓eDiv, ↓eShift, ↓eBinS, ↓ePick, ↓eNot, ↓eNeg, ↓eConv, ↓eConvS, ↓eExt0, ↓eExt1, ↓eExt2, ↓eFA, ↓eIA, ↓eLenSl, ↓eCapSl, ↓eLenS, ↓eMin, ↓eMax, ↓eCondT, ↓eCondF, ↓gIf_tt, ↓gIf_ff, ↓gIf_tf, ↓gIf_ft, ↓gIf_u, ↓gIfW_u, ↓gIfW_tt, ↓gIfW_ff, ↓gIfW_tf, ↓gIfW_ft, binI, divI, shiftI, add_mk, Nat.zero_add, cond_true, cond_false, decide_true, decide_false, Bool.not_true, Bool.not_false, Bool.and_true, Bool.true_and, Bool.and_false, Bool.false_and, Int.toNat_natCast, Nat.mul_one, ↓c5.c2]
  obtain ⟨us, hus, hcell, hrd⟩ := own_el o5 hi
  obtain ⟨va, vb, rfl, hva, hvb, r2, r3⟩ := hrd
  obtain ⟨rfl, hp0, hp1⟩ := r2
  obtain ⟨vk, rfl⟩ : ∃ vk, vb = [vk] := by
    match vb, hvb with
    | [vk], _ => exact ⟨vk, rfl⟩
  have hc1 : w5.cell? ⟨gv, i * 2 + 1, none⟩ = some vk := hcell 1 (by show 1 < 2; omega)
  simp only [↓eLdW, hc1, Option.some.injEq, exists_eq_left', wrap64 (show -9223372036854775808 ≤ (i : Int) + 1 by omega) (show (i : Int) + 1 ≤ 9223372036854775807 by omega)]
  refine ⟨by omega, by omega, ?_⟩
  refine Delete_c o5 hi (by omega) (fun b hb => by have := hD2 b hb; omega) fun w6 f6 o6 => ?_
  have z6 := f6.size
  have hgvD : ¬ D2 gv := by
    rcases o5 with ⟨e, _⟩ | ⟨g', _, _, _, _, _, _, e, h1, h2, _⟩
    · rw [e] at hi; simp at hi
    · simp at e; rw [e.1]; exact h2
  have r3 := (rd_bd r3).fr f6 (fun b hb e => hgvD (by rw [← show b = gv from e]; exact hb.1))
  have rc := rc.fr f6 (fun b hb => by omega)
  have c5 := c5.fr f6 (by omega)
  have c9 : Cs w6 g9 [.int .i64 0, .slice none 0 0, .slice none 0 0] := ((c2.ext h4).fr f5 (by omega)).fr f6 (by omega)
  refine c5.set (i := 2) (by simp) rfl fun w7 c7 f7 => ?_
  have c7 : Cs w7 g5 [.int .i64 g0, vc', .slice (some ⟨gv, 0, none⟩) (sk.eraseIdx i).length cw] := c7
  have z7 := f7.size
  refine draw_ fun w8 h8 => ?_
  have z8 := h8.size
  have c8 := c7.ext h8
  rw [c8.le3]
  refine (((c9.fr f7 (by omega)).ext h8)).setN (l' := [.int .i64 g0, vc', .slice (some ⟨gv, 0, none⟩) (sk.eraseIdx i).length cw]) rfl rfl (allOne3 rfl oc' rfl) fun w9 ca f9 => ?_
  refine anew_ ?_
  rw [ca.ld3]
  have hel : (sk.eraseIdx i).length = sk.length - 1 := by rw [List.length_eraseIdx, if_pos hi]
  have F46 : Fr (fun b => b = g5 ∨ b = gv) w4 w6 := (f5.mono (fun _ _ h => .inl h)).trans f6 (fun _ _ h => .inr h)
  have F47 : Fr (fun b => b = g5 ∨ b = gv) w4 w7 := F46.trans f7 (fun _ _ h => .inl h)
  have F48 : Fr (fun b => b = g5 ∨ b = gv) w4 w8 := F47.trans (h8.mono (fun _ _ h => h.elim)) (fun _ _ h => h)
  have F49 : Fr (fun b => b = g5 ∨ b = gv ∨ b = g9) w4 w9 := (F48.mono (fun _ _ h => by rcases h with h | h; exact .inl h; exact .inr (.inl h))).trans f9 (fun _ _ h => .inr (.inr h))
  have F69 : Fr (fun b => b = g5 ∨ b = g9) w6 w9 := ((f7.mono (fun _ _ h => .inl h)).trans (h8.mono (fun _ _ h => h.elim)) (fun _ _ h => h)).trans f9 (fun _ _ h => .inr h)
  refine h vk vc' _ w9 ((h13.tr h4).tn F49 (fun x hx => by omega)) ?_ ?_ ?_
  · exact (r3.fr F69 (fun b hb => by have := hD2 b hb.1; omega)).wide (fun b hb => by have := hD2 b hb.1; omega)
  · exact (rc.fr F69 (fun b hb => by omega)).wide (fun b hb => by omega)
  · exact ((o6.rd2 (D' := fun b => B ≤ b) (fun b hb => (hD2 b hb).1) (fun b _ hB _ => hB) (by omega)).fr F69 (fun b hb => by omega)).wide (fun b hb => by omega)
end Go.Proofs.YtkpgmaiklfjjgaaDoor
end
section
set_option linter.unusedSimpArgs false
set_option linter.unusedVariables false
namespace Go.Proofs.YtkpgmaiklfjjgaaDoor
open Go Go.G Go.RowKit
variable {X : KX} {w : World} {K : KV} {D D' : Nat → Prop}
theorem ChainOk.key_len {key cur : List UInt8} {g : Nat} {sk : List (Int × List UInt8)} {told : List Int} (h : ChainOk key g cur sk told) : ∀ i (hi : i < sk.length), sk[i].2.length ≤ 1000 := fun i hi => by
  rw [(h.low _ (List.getElem_mem hi)).2.2, deriveF_len]; omega
set_option maxHeartbeats 1000000 in
theorem AtOk_c {gs g : Nat} {gen win : Int} {vc vs : Value} {key cur : List UInt8} {sk : List (Int × List UInt8)} {told : List Int} (hs : SReal w gs) (hk : KT w) (hok : ChainOk key g cur sk told) (hc : Rd (.slice .byte) D w [vc] cur) (hv : Rd (.slice tSkip) D' w [vs] sk)
    (hkl : key.length ≤ 100) (hsl : (sk.length : Int) ≤ win) (hw1 : 1 ≤ win) (hw8 : win ≤ 8) (hg : 0 ≤ gen) (hgm : gen ≤ 40) (hg0 : g ≤ 41)
    (hno : ∀ (f : Int) w', Ext w w' → (f = 9 ∧ hasF g sk gen = false ∨ f = 10 ∧ hasF g sk gen = true ∧ gen ∉ told) → K (.tuple #[.slice none 0 0, chainV 0 (.slice none 0 0) (.slice none 0 0), .int .i64 f]) w')
    (h : ∀ vk vc' vs' w' (g' : Nat) cur' sk', Ext w w' → hasF g sk gen = true → gen ∉ told → Rd (.slice .byte) (w.heap.size ≤ ·) w' [vk] (deriveF (curF key gen.toNat) keyL) → Rd (.slice .byte) (w.heap.size ≤ ·) w' [vc'] cur' → Rd (.slice tSkip) (w.heap.size ≤ ·) w' [vs'] sk' →
      ChainOk key g' cur' sk' (told ++ [gen]) → (sk'.length : Int) ≤ win → g' ≤ 41 → K (.tuple #[vk, chainV g' vc' vs', .int .i64 0]) w') :
    GCalls Tryd.prog 21 [.pointer (some ⟨gs, 0, none⟩), chainV g vc vs, .int .i64 gen, .int .i64 win] K X w := by
  have hcl : cur.length ≤ 1000 := by rw [hok.cur]; exact curF_len (by omega) g
  by_cases c1 : gen < (g : Int)
  · by_cases c2 : placeF sk gen < 0
    · refine AtUsed_c hc hv hw1 hw8 (by omega) hg (by omega) c1 c2 fun w' e => hno 9 w' e (.inl ⟨rfl, ?_⟩)
      unfold hasF
      rw [decide_eq_false (by omega), decide_eq_false (by omega)]; rfl
    · obtain ⟨i, hi, hp, he⟩ := placeF_pos (sk := sk) (gen := gen) (by omega)
      have hh : hasF g sk gen = true := by unfold hasF; rw [decide_eq_true (p := placeF sk gen ≥ 0) (by omega), Bool.or_true]
      refine AtSkip_c hc hv hcl (by omega) hok.key_len hw1 hw8 (by omega) hg (by omega) c1 hi hp fun vk vc' vs' w' e r1 r2 r3 => ?_
      have hl := hok.low _ (List.getElem_mem hi)
      rw [hl.2.2, he] at r1
      have hel : (sk.eraseIdx i).length = sk.length - 1 := by rw [List.length_eraseIdx, if_pos hi]
      have hq := hok.less hi
      rw [he] at hq
      exact h vk vc' vs' w' g cur _ e hh (fun ht => (hok.told _ ht).2 _ (List.getElem_mem hi) he) r1 r2 r3 hq (by omega) hg0
  · have hh : hasF g sk gen = true := by unfold hasF; rw [decide_eq_true (p := gen ≥ (g : Int)) (by omega), Bool.true_or]
    have hnt : gen ∉ told := fun ht => by have := (hok.told _ ht).1; omega
    by_cases c3 : gen - g > win
    · exact AtWindow_c hc hv hw1 hw8 (by omega) hg (by omega) (by omega) c3 fun w' e => hno 10 w' e (.inr ⟨rfl, hh, hnt⟩)
    · refine AtGo_c hs hk hc hv hcl (by omega) hok.key_len hw1 hw8 (by omega) (by omega) (by omega) (by omega) fun vk vc' vs' w' e r1 r2 r3 => ?_
      obtain ⟨n, hn⟩ : ∃ n : Nat, gen = ((g + n : Nat) : Int) := ⟨(gen - g).toNat, by omega⟩
      have hn1 : (gen - (g : Int)).toNat = n := by omega
      have hn2 : gen.toNat = g + n := by omega
      rw [hn1] at r1 r2 r3
      rw [hok.cur, curF_add, ← hn2] at r1
      have hq := hok.go (n := n) (m := (sk ++ skF g cur n).length - win.toNat)
      rw [← hn] at hq
      have := h vk vc' vs' w' (g + n + 1) _ _ e hh hnt r1 r2 r3 hq (by rw [List.length_drop]; omega) (by omega)
      rw [show ((g + n + 1 : Nat) : Int) = gen + 1 by omega] at this
      exact this
end Go.Proofs.YtkpgmaiklfjjgaaDoor
end
section
set_option linter.unusedSimpArgs false
set_option linter.unusedVariables false
namespace Go.Proofs.YtkpgmaiklfjjgaaDoor
open Go Go.G Go.RowKit
variable {X : KX} {w : World} {K : KV} {D D' D1 D2 D3 : Nat → Prop}
def onceTail (X : KX) (x0 : Value) (a : Addr) (n cl i : Nat) (win : Int) (x9 t13 t59 t69 t71 p8 : Value) (R : KV) (J0 : Value → Value → Value → Value → Value → Value → Value → Value → Value → Value → Value → Value → World → Prop) (J1 : Value → Value → Value → Value → Value → Value → Value → Value → Value → Value → Value → Value → Value → Value → Value → Value → Value → Value → Value → Value → Value → Value → Value → Value → Value → Value → Value → Value → Value → Value → Value → Value → Value → World → Prop) (w : World) : Prop :=
  anew w fun S w => 0 ≤ (i : Int) ∧ True ∧ ∃ t76, w.cell? (a.add i) = some t76 ∧
          pCall Tryd.prog 22 [x9, t76] X w fun t77 w =>
          gIf t77 true (fun K => K t71) fun t79 =>
          gIf t77 true (fun K => pBinI .neq .i64 t79 (.int .i64 9) K) fun t80 =>
          pPick t77 t80 (.bool false) fun t81 =>
          gIf t81 false (fun K => K t71) fun t83 =>
          gIf t81 false (fun K => pBinI .eql .i64 t83 (.int .i64 9) K) fun t84 =>
          gIf t81 false (fun K => K t59) fun t85 =>
          gIf t81 false (fun K => pNot t85 K) fun t86 =>
          gIf t81 false (fun K => pEq .bool true t84 t86 K) fun t87 =>
          pPick t81 (.bool true) t87 fun t88 =>
          scond t88
          (R (.bool false) w)
          (pBinI .neq .i64 t71 (.int .i64 0) fun t90 =>
            scond t90
            (J0 t76 t77 t79 t80 t81 t83 t84 t85 t86 t87 t88 t90 w)
            (drawn w fun S w =>
              0 ≤ (i : Int) ∧ True ∧ pLd S (.pointer (some (a.add i))) fun t96 =>
              pCall Tryd.prog 23 [x0, t96] X w fun t97 w =>
              anew w fun S w =>
              pCall Tryd.prog 16 [t69, t97] X w fun t98 w =>
              S w ∧ (pNot t98 fun t99 =>
                gIf t99 false (fun K => pFA 2 t13 K) fun t101 =>
                gIf t99 false (fun K => pLd S t101 K) fun t102 =>
                gIf t99 false (fun K => pLenSl t102 K) fun t103 =>
                gIf t99 false (fun K => K (.int .i64 win)) fun t104 =>
                gIf t99 false (fun K => pBinI .gtr .i64 t103 t104 K) fun t105 =>
                pPick t99 (.bool true) t105 fun t106 =>
                gIf t106 false (fun K => pLdN S 3 t13 K) fun t108 =>
                gIf t106 false (fun K => K (.slice (some a) n cl)) fun t109 =>
                gIf t106 false (fun K => K (.int .i64 i)) fun t110 =>
                gIf t106 false (fun K => pIA 1 t109 t110 K) fun t111 =>
                gIf t106 false (fun K => pLd S t111 K) fun t112 =>
                gIfW t106 false (fun w K => pCall Tryd.prog 20 [t108, t112] X w K) w fun t113 w =>
                S w ∧ (pPick t106 (.bool true) t113 fun t114 =>
                  scond t114
                  (R (.bool false) w)
                  (0 ≤ (i : Int) ∧ True ∧ ∃ t119, w.cell? (a.add i) = some t119 ∧
                    pBSlice 3 1 (rowOf [.int .i64 0] 1) [(0, 1, t119)] w fun t120 w =>
                    pApp 3 1 8 [.int .i64 0] x9 t120 w fun t121 w =>
                    pLdN (· = w) 3 t13 fun t122 =>
                    pStN 3 p8 t122 w fun _ w =>
                    J1 t121 t76 t77 t79 t80 t81 t83 t84 t85 t86 t87 t88 t90 t96 t97 t98 t99 t101 t102 t103 t104 t105 t106 t108 t109 t110 t111 t112 t113 t114 t119 t120 t122 w)))))
variable {x0 x9 vk vc vs vc' vs' : Value} {a : Addr} {n cl i g g' g8 g13 B : Nat} {win li f : Int} {b : Bool} {key cur cur' : List UInt8} {sk sk' : List (Int × List UInt8)} {told : List Int} {J0 : Value → Value → Value → Value → Value → Value → Value → Value → Value → Value → Value → Value → World → Prop} {J1 : Value → Value → Value → Value → Value → Value → Value → Value → Value → Value → Value → Value → Value → Value → Value → Value → Value → Value → Value → Value → Value → Value → Value → Value → Value → Value → Value → Value → Value → Value → Value → Value → Value → World → Prop}
theorem ex30 {a b c : Value} {K : KP} (h : K a) : pExt (.tuple #[a, b, c]) 0 K := by first | exact h | (rw [eExt0]; exact h)
theorem ex31 {a b c : Value} {K : KP} (h : K b) : pExt (.tuple #[a, b, c]) 1 K := by first | exact h | (rw [eExt1]; exact h)
theorem ex32 {a b c : Value} {K : KP} (h : K c) : pExt (.tuple #[a, b, c]) 2 K := by first | exact h | (rw [eExt2]; exact h)
theorem i99 : ((9 : Int) == 9) = true := rfl
theorem i109 : ((10 : Int) == 9) = false := rfl
theorem i09 : ((0 : Int) == 9) = false := rfl
theorem n99 : ((9 : Int) != 9) = false := rfl
theorem n90 : ((9 : Int) != 0) = true := rfl
theorem n100 : ((10 : Int) != 0) = true := rfl
theorem n00 : ((0 : Int) != 0) = false := rfl
theorem btt : (true != true) = false := rfl
theorem ownI_rd {v : Value} {xs : List Int} (h : G.Own (.int .i64) NoB B w v xs) (hl : xs.length < 9223372036854775808) : Rd (.slice (.int .i64)) (B ≤ ·) w [v] xs := h.rd (fun _ h => h.elim) (fun _ h => h) hl
theorem once_no {t13 t69 p8 : Value} (q : w.cell? (a.add i) = some (.int .i64 li)) (ho : G.Own (.int .i64) NoB B w x9 told) (hti : told.length ≤ 20)
    (hf : f = 9 ∧ b = false ∨ f = 10 ∧ b = true ∧ li ∉ told) (h : ∀ w', Ext w w' → ∀ y0 y1 y2 y3 y4 y5 y6 y7 y8 y9 y10 y11, J0 y0 y1 y2 y3 y4 y5 y6 y7 y8 y9 y10 y11 w') : onceTail X x0 a n cl i win x9 t13 (.bool b) t69 (.int .i64 f) p8 K J0 J1 w := by
  unfold onceTail
  refine anew_ ?_
  refine ⟨by omega, trivial, _, q, ?_⟩
  refine ref01_Has_c (ownI_rd ho (by show told.length < _; omega)) fun w1 h1 => ?_
  rcases hf with ⟨rfl, rfl⟩ | ⟨rfl, rfl, hm⟩
  · cases decide (li ∈ told) with
    | false =>
      simp only [↓eBinI, ↓eDiv, ↓eShift, ↓eBinS, ↓ePick, ↓eNot, ↓eNeg, ↓eConv, ↓eConvS, ↓eExt0, ↓eExt1, ↓eExt2, ↓eFA, ↓eIA, ↓eLenSl, ↓eCapSl, ↓eLenS, ↓eMin, ↓eMax, ↓eCondT, ↓eCondF, ↓gIf_tt, ↓gIf_ff, ↓gIf_tf, ↓gIf_ft, ↓gIf_u, ↓gIfW_u, ↓gIfW_tt, ↓gIfW_ff, ↓gIfW_tf, ↓gIfW_ft, binI, divI, shiftI, add_mk, Nat.zero_add, cond_true, cond_false, decide_true, decide_false, Bool.not_true, Bool.not_false, Bool.and_true, Bool.true_and, Bool.and_false, Bool.false_and, Int.toNat_natCast, Nat.mul_one, i99, i109, i09, n99, n90, n100, n00, btt]
      refine ⟨true, rfl, ?_⟩
      simp only [↓eBinI, ↓eDiv, ↓eShift, ↓eBinS, ↓ePick, ↓eNot, ↓eNeg, ↓eConv, ↓eConvS, ↓eExt0, ↓eExt1, ↓eExt2, ↓eFA, ↓eIA, ↓eLenSl, ↓eCapSl, ↓eLenS, ↓eMin, ↓eMax, ↓eCondT, ↓eCondF, ↓gIf_tt, ↓gIf_ff, ↓gIf_tf, ↓gIf_ft, ↓gIf_u, ↓gIfW_u, ↓gIfW_tt, ↓gIfW_ff, ↓gIfW_tf, ↓gIfW_ft, binI, divI, shiftI, add_mk, Nat.zero_add, cond_true, cond_false, decide_true, decide_false, Bool.not_true, Bool.not_false, Bool.and_true, Bool.true_and, Bool.and_false, Bool.false_and, Int.toNat_natCast, Nat.mul_one, i99, i109, i09, n99, n90, n100, n00, btt]
      exact h _ h1 _ _ _ _ _ _ _ _ _ _ _ _
    | true =>
      simp only [↓eBinI, ↓eDiv, ↓eShift, ↓eBinS, ↓ePick, ↓eNot, ↓eNeg, ↓eConv, ↓eConvS, ↓eExt0, ↓eExt1, ↓eExt2, ↓eFA, ↓eIA, ↓eLenSl, ↓eCapSl, ↓eLenS, ↓eMin, ↓eMax, ↓eCondT, ↓eCondF, ↓gIf_tt, ↓gIf_ff, ↓gIf_tf, ↓gIf_ft, ↓gIf_u, ↓gIfW_u, ↓gIfW_tt, ↓gIfW_ff, ↓gIfW_tf, ↓gIfW_ft, binI, divI, shiftI, add_mk, Nat.zero_add, cond_true, cond_false, decide_true, decide_false, Bool.not_true, Bool.not_false, Bool.and_true, Bool.true_and, Bool.and_false, Bool.false_and, Int.toNat_natCast, Nat.mul_one, i99, i109, i09, n99, n90, n100, n00, btt]
      refine ⟨true, rfl, ?_⟩
      simp only [↓eBinI, ↓eDiv, ↓eShift, ↓eBinS, ↓ePick, ↓eNot, ↓eNeg, ↓eConv, ↓eConvS, ↓eExt0, ↓eExt1, ↓eExt2, ↓eFA, ↓eIA, ↓eLenSl, ↓eCapSl, ↓eLenS, ↓eMin, ↓eMax, ↓eCondT, ↓eCondF, ↓gIf_tt, ↓gIf_ff, ↓gIf_tf, ↓gIf_ft, ↓gIf_u, ↓gIfW_u, ↓gIfW_tt, ↓gIfW_ff, ↓gIfW_tf, ↓gIfW_ft, binI, divI, shiftI, add_mk, Nat.zero_add, cond_true, cond_false, decide_true, decide_false, Bool.not_true, Bool.not_false, Bool.and_true, Bool.true_and, Bool.and_false, Bool.false_and, Int.toNat_natCast, Nat.mul_one, i99, i109, i09, n99, n90, n100, n00, btt]
      exact h _ h1 _ _ _ _ _ _ _ _ _ _ _ _
  · rw [decide_eq_false hm]
    simp only [↓eBinI, ↓eDiv, ↓eShift, ↓eBinS, ↓ePick, ↓eNot, ↓eNeg, ↓eConv, ↓eConvS, ↓eExt0, ↓eExt1, ↓eExt2, ↓eFA, ↓eIA, ↓eLenSl, ↓eCapSl, ↓eLenS, ↓eMin, ↓eMax, ↓eCondT, ↓eCondF, ↓gIf_tt, ↓gIf_ff, ↓gIf_tf, ↓gIf_ft, ↓gIf_u, ↓gIfW_u, ↓gIfW_tt, ↓gIfW_ff, ↓gIfW_tf, ↓gIfW_ft, binI, divI, shiftI, add_mk, Nat.zero_add, cond_true, cond_false, decide_true, decide_false, Bool.not_true, Bool.not_false, Bool.and_true, Bool.true_and, Bool.and_false, Bool.false_and, Int.toNat_natCast, Nat.mul_one, i99, i109, i09, n99, n90, n100, n00, btt]
    refine ⟨true, rfl, ?_⟩
    simp only [↓eBinI, ↓eDiv, ↓eShift, ↓eBinS, ↓ePick, ↓eNot, ↓eNeg, ↓eConv, ↓eConvS, ↓eExt0, ↓eExt1, ↓eExt2, ↓eFA, ↓eIA, ↓eLenSl, ↓eCapSl, ↓eLenS, ↓eMin, ↓eMax, ↓eCondT, ↓eCondF, ↓gIf_tt, ↓gIf_ff, ↓gIf_tf, ↓gIf_ft, ↓gIf_u, ↓gIfW_u, ↓gIfW_tt, ↓gIfW_ff, ↓gIfW_tf, ↓gIfW_ft, binI, divI, shiftI, add_mk, Nat.zero_add, cond_true, cond_false, decide_true, decide_false, Bool.not_true, Bool.not_false, Bool.and_true, Bool.true_and, Bool.and_false, Bool.false_and, Int.toNat_natCast, Nat.mul_one, i99, i109, i09, n99, n90, n100, n00, btt]
    exact h _ h1 _ _ _ _ _ _ _ _ _ _ _ _
theorem once_yes (hbt : b = true) (q : w.cell? (a.add i) = some (.int .i64 li)) (hin : i < n) (hn : n ≤ 20) (ho : G.Own (.int .i64) NoB B w x9 told) (hti : told.length ≤ 20) (hB : B ≤ w.heap.size) (hm : li ∉ told) (h0 : 0 ≤ li) (h40 : li ≤ 40) (hx : Rd (.slice .byte) D1 w [x0] key) (hkl : key.length ≤ 100)
    (c8 : Cs w g8 [.int .i64 g, vc, vs]) (c13 : Cs w g13 [.int .i64 g', vc', vs']) (rk : Rd (.slice .byte) D2 w [vk] (deriveF (curF key li.toNat) keyL)) (rc : Rd (.slice .byte) D w [vc'] cur') (rs : Rd (.slice tSkip) D3 w [vs'] sk') (hsw : (sk'.length : Int) ≤ win) (hw8 : win ≤ 8) (hh : hasF g' sk' li = false)
    (hD : ∀ b, D b ∨ D3 b → b ≠ g8 ∧ b < w.heap.size ∧ ¬ (Blk x9 b ∧ B ≤ b)) (h13 : g13 ≠ g8) (h8 : ¬ (Blk x9 g8 ∧ B ≤ g8)) (h13' : ¬ (Blk x9 g13 ∧ B ≤ g13)) (h8w : g8 < w.heap.size)
    (h : ∀ v w', Fr (fun b => (Blk x9 b ∧ B ≤ b) ∨ b = g8) w w' → Cs w' g8 [.int .i64 g', vc', vs'] → G.Own (.int .i64) NoB B w' v (told ++ [li]) → (∀ b, Blk v b → Blk x9 b ∨ (w.heap.size ≤ b ∧ b < w'.heap.size)) → ∀ y0 y1 y2 y3 y4 y5 y6 y7 y8 y9 y10 y11 y12 y13 y14 y15 y16 y17 y18 y19 y20 y21 y22 y23 y24 y25 y26 y27 y28 y29 y30 y31, J1 v y0 y1 y2 y3 y4 y5 y6 y7 y8 y9 y10 y11 y12 y13 y14 y15 y16 y17 y18 y19 y20 y21 y22 y23 y24 y25 y26 y27 y28 y29 y30 y31 w') : onceTail X x0 a n cl i win x9 (.pointer (some ⟨g13, 0, none⟩)) (.bool b) vk (.int .i64 0) (.pointer (some ⟨g8, 0, none⟩)) K J0 J1 w := by
  subst hbt
  unfold onceTail
  refine anew_ ?_
  refine ⟨by omega, trivial, _, q, ?_⟩
  refine ref01_Has_c (ownI_rd ho (by show told.length < _; omega)) fun w1 h1 => ?_
  rw [decide_eq_false hm]
  simp only [↓eBinI, ↓eDiv, ↓eShift, ↓eBinS, ↓ePick, ↓eNot, ↓eNeg, ↓eConv, ↓eConvS, ↓eExt0, ↓eExt1, ↓eExt2, ↓eFA, ↓eIA, ↓eLenSl, ↓eCapSl, ↓eLenS, ↓eMin, ↓eMax, ↓eCondT, ↓eCondF, ↓gIf_tt, ↓gIf_ff, ↓gIf_tf, ↓gIf_ft, ↓gIf_u, ↓gIfW_u, ↓gIfW_tt, ↓gIfW_ff, ↓gIfW_tf, ↓gIfW_ft, binI, divI, shiftI, add_mk, Nat.zero_add, cond_true, cond_false, decide_true, decide_false, Bool.not_true, Bool.not_false, Bool.and_true, Bool.true_and, Bool.and_false, Bool.false_and, Int.toNat_natCast, Nat.mul_one, i99, i109, i09, n99, n90, n100, n00, btt]
  refine ⟨true, rfl, ?_⟩
  simp only [↓eBinI, ↓eDiv, ↓eShift, ↓eBinS, ↓ePick, ↓eNot, ↓eNeg, ↓eConv, ↓eConvS, ↓eExt0, ↓eExt1, ↓eExt2, ↓eFA, ↓eIA, ↓eLenSl, ↓eCapSl, ↓eLenS, ↓eMin, ↓eMax, ↓eCondT, ↓eCondF, ↓gIf_tt, ↓gIf_ff, ↓gIf_tf, ↓gIf_ft, ↓gIf_u, ↓gIfW_u, ↓gIfW_tt, ↓gIfW_ff, ↓gIfW_tf, ↓gIfW_ft, binI, divI, shiftI, add_mk, Nat.zero_add, cond_true, cond_false, decide_true, decide_false, Bool.not_true, Bool.not_false, Bool.and_true, Bool.true_and, Bool.and_false, Bool.false_and, Int.toNat_natCast, Nat.mul_one, i99, i109, i09, n99, n90, n100, n00, btt]
  refine draw_ fun w2 h2 => ?_
  have h12 := h1.tr h2
  refine ⟨by omega, trivial, ?_⟩
  rw [eLdE (h12.cell q)]
  obtain ⟨m, rfl⟩ : ∃ m : Nat, li = (m : Int) := ⟨li.toNat, by omega⟩
  refine ref33_Key_c (hx.ext h12) (by omega) (by omega) fun v3 w3 h3 r3 => ?_
  refine anew_ ?_
  have h13x := h12.tr h3
  refine Same_c (rk.ext h13x) r3 fun w4 h4 => ?_
  refine ⟨h4, ?_⟩
  have h14 := h13x.tr h4
  have hd : decide (deriveF (curF key (m : Int).toNat) keyL = deriveF (curF key m) keyL) = true := decide_eq_true rfl
  rw [hd]
  have k13 := c13.ext h13x
  obtain ⟨_, _, rfl, _, _⟩ := rs.form
  have e1 : ¬ ((sk'.length : Int) > win) := by omega
  simp only [↓eBinI, ↓eDiv, ↓eShift, ↓eBinS, ↓ePick, ↓eNot, ↓eNeg, ↓eConv, ↓eConvS, ↓eExt0, ↓eExt1, ↓eExt2, ↓eFA, ↓eIA, ↓eLenSl, ↓eCapSl, ↓eLenS, ↓eMin, ↓eMax, ↓eCondT, ↓eCondF, ↓gIf_tt, ↓gIf_ff, ↓gIf_tf, ↓gIf_ft, ↓gIf_u, ↓gIfW_u, ↓gIfW_tt, ↓gIfW_ff, ↓gIfW_tf, ↓gIfW_ft, binI, divI, shiftI, add_mk, Nat.zero_add, cond_true, cond_false, decide_true, decide_false, Bool.not_true, Bool.not_false, Bool.and_true, Bool.true_and, Bool.and_false, Bool.false_and, Int.toNat_natCast, Nat.mul_one, ↓k13.e2, ↓k13.le3, e1]
  rw [eLdE (h13x.cell q)]
  refine ⟨by omega, by omega, ?_⟩
  refine (?_ : GCalls Tryd.prog 20 [chainV g' vc' _, .int .i64 m] _ X w4)
  refine Has_c (rs.ext h14) fun w5 h5 => ?_
  refine ⟨h4.tr h5, ?_⟩
  have h15 := h14.tr h5
  rw [hh]
  simp only [↓eBinI, ↓eDiv, ↓eShift, ↓eBinS, ↓ePick, ↓eNot, ↓eNeg, ↓eConv, ↓eConvS, ↓eExt0, ↓eExt1, ↓eExt2, ↓eFA, ↓eIA, ↓eLenSl, ↓eCapSl, ↓eLenS, ↓eMin, ↓eMax, ↓eCondT, ↓eCondF, ↓gIf_tt, ↓gIf_ff, ↓gIf_tf, ↓gIf_ft, ↓gIf_u, ↓gIfW_u, ↓gIfW_tt, ↓gIfW_ff, ↓gIfW_tf, ↓gIfW_ft, binI, divI, shiftI, add_mk, Nat.zero_add, cond_true, cond_false, decide_true, decide_false, Bool.not_true, Bool.not_false, Bool.and_true, Bool.true_and, Bool.and_false, Bool.false_and, Int.toNat_natCast, Nat.mul_one]
  refine ⟨by omega, trivial, _, h15.cell q, ?_⟩
  refine bslice1 rfl fun g20 w6 hg20 h6 c20 => ?_
  have h16 := h15.tr h6
  have z16 := h16.size
  have z15 := h15.size
  refine (ho.ext h16).push1 c20 ⟨rfl, Int.le_trans (show IntKind.i64.min ≤ 0 by decide) h0, Int.le_trans h40 (show (40 : Int) ≤ IntKind.i64.max by decide)⟩ (by omega) (fun h => h) rfl (by omega) fun v7 w7 o7 f7 b7 => ?_
  have z7 := f7.size
  have k13 := (c13.ext h16).fr f7 (by exact h13')
  rw [k13.ld3]
  refine ((c8.ext h16).fr f7 (by exact h8)).setN (l' := [.int .i64 g', vc', _]) rfl rfl (allOne3 rfl (one_of_rd rc) (one_of_rd rs)) fun w8 c8 f8 => ?_
  have z8 := f8.size
  refine h _ _ (((h16.mono (fun _ _ h => h.elim)).trans f7 (fun x _ h => .inl h)).trans f8 (fun x _ h => .inr h)) c8 (o7.fr f8 (fun _ h => h.elim) (fun b hb hB' e => by
      subst e
      rcases b7 _ hb with h | h
      · exact h8 ⟨h, hB'⟩
      · omega)) (fun b hb => by
      rcases b7 _ hb with h | h
      · exact .inl h
      · exact .inr ⟨by omega, by omega⟩) _ _ _ _ _ _ _ _ _ _ _ _ _ _ _ _ _ _ _ _ _ _ _ _ _ _ _ _ _ _ _ _
end Go.Proofs.YtkpgmaiklfjjgaaDoor
end
