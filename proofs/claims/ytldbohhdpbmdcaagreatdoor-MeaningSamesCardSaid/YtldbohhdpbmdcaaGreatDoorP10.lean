/- By an AI agent. Part of the proof: an abstract machine over the model, an evaluator over it, and contracts. Texts: MsC. -/
import Derived.Test.YtldbohhdpbmdcaaGreatDoorP09
import Derived.Test.YtldbohhdpbmdcaaGreatDoorP04

namespace Go.Proofs.YtldbohhdpbmdcaaGreatDoor
open Go Go.Abs

abbrev eI (l : List Int) : AV := .imm 1 (ints l)
abbrev eO (l : List Int) (e : Int) : AV := .agg [eI l, int e]

theorem ints_len (l : List Int) : (ints l).length = l.length := by simp [ints]

theorem list_eq_of {l m : List Int} (hl : l.length = m.length) (h : ∀ j, j < l.length → l.getD j 0 = m.getD j 0) : l = m := by
  apply List.ext_getElem hl
  intro i h1 h2
  have := h i h1
  simpa [List.getD_eq_getElem?_getD, h1, h2] using this

theorem c_equal (l m : List Int) (hl : l.length ≤ 9223372036854775807) (h0 : Heap) : APure PP 10 [eI l, eI m] (bool (decide (l = m))) h0 := by
  refine APure.of fun h _ => s10_ok ?_
  unfold s10
  simp only [bindO_some, eLen_imm, ints_len, eBin_neq, condW_bool]
  by_cases hlm : l.length = m.length
  · have : ((l.length : Int) != (m.length : Int)) = false := by simp [hlm]
    rw [this]
    simp only [Bool.false_eq_true, if_false]
    refine loopW_intro (fun k s hh => ∃ i : Nat, i ≤ l.length ∧ s = [int i] ∧ hh = h ∧ k = l.length - i ∧ ∀ j, j < i → l.getD j 0 = m.getD j 0) (fun k s hh K hI hK => ?_) (m := l.length) ⟨0, Nat.zero_le _, rfl, rfl, rfl, fun j hj => absurd hj (by omega)⟩
    obtain ⟨i, hi, rfl, rfl, rfl, hp⟩ := hI
    simp only [lget, List.getD_cons_zero, eBin_lss, bindO_some, condW_bool]
    by_cases hlt : i < l.length
    · have h1 : decide ((i : Int) < (l.length : Int)) = true := by simpa using hlt
      rw [h1]
      simp only [if_true]
      have e1 : eIxS 1 (eI l) (int (i : Int)) = some (.iptr (eget (ints l) i) 0) := eIxS_immN (by rw [ints_len]; exact hlt)
      have e2 : eIxS 1 (eI m) (int (i : Int)) = some (.iptr (eget (ints m) i) 0) := eIxS_immN (by rw [ints_len]; omega)
      simp only [e1, e2, bindO_some]
      have g1 : eget (ints l) i = [int (l.getD i 0)] := eget_mapInt l i hlt
      have g2 : eget (ints m) i = [int (m.getD i 0)] := eget_mapInt m i (by omega)
      rw [g1, g2]
      simp only [eLoad_cell, List.length_cons, List.length_nil, Nat.zero_add, Nat.lt_add_one, bindO_some, lget, List.getD_cons_zero, eBin_neq, condW_bool]
      by_cases hv : l.getD i 0 = m.getD i 0
      · have hb : (l.getD i 0 != m.getD i 0) = false := by rw [hv]; simp
        rw [hb]
        simp only [Bool.false_eq_true, if_false, eBin_add, bindO_some]
        refine dropW_same (hK (l.length - (i + 1)) _ _ (by omega) ⟨i + 1, hlt, ?_, rfl, rfl, fun j hj => ?_⟩)
        · rw [wrap_small (by omega) (by omega)]; rfl
        · rcases Nat.lt_or_ge j i with h | h
          · exact hp j h
          · obtain rfl : j = i := by omega
            exact hv
      · have hb : (l.getD i 0 != m.getD i 0) = true := by simpa using hv
        rw [hb]
        simp only [if_true]
        have hne : decide (l = m) = false := by simp; intro e; exact hv (by rw [e])
        rw [hne]
        simp
    · have h1 : decide ((i : Int) < (l.length : Int)) = false := by simpa using hlt
      rw [h1]
      simp only [Bool.false_eq_true, if_false]
      have : l = m := list_eq_of hlm fun j hj => hp j (by omega)
      simp [this]
  · have : ((l.length : Int) != (m.length : Int)) = true := by simpa using fun e : (l.length : Int) = m.length => hlm (by omega)
    rw [this]
    simp only [if_true]
    have hne : decide (l = m) = false := by simp; intro e; exact hlm (by rw [e])
    rw [hne]
    simp

theorem eL1 (cs : List AV) (off : Nat) (h : Heap) (hl : off < cs.length) : eLoad false 1 (.iptr cs off) h = some (lget cs off) := eLoad_cell cs off h hl

theorem c_refSame (l m : List Int) (e f : Int) (hl : l.length ≤ 9223372036854775807) (h0 : Heap) : APure PP 6 [eO l e, eO m f] (bool (decide (e = f ∧ l = m))) h0 := by
  refine APure.of fun h _ => s6_ok ?_
  unfold s6
  have a1 : ∀ (x : AV) (y : AV) (h : Heap), eLoad false 1 (.iptr [x, y] 0) h = some x := fun x y h => eL1 [x, y] 0 h (by simp)
  have a2 : ∀ (x : AV) (y : AV) (h : Heap), eLoad false 1 (.iptr [x, y] 1) h = some y := fun x y h => eL1 [x, y] 1 h (by simp)
  simp only [bindO_some, cellsOf_agg, eFA_iptr, Nat.zero_add, Nat.add_zero, a1, a2, eBin_neq, isV_v, true_and]
  by_cases hef : e = f
  · have hb : (e != f) = false := by simp [hef]
    rw [hb]
    simp only [gdO_True, bindO_some, eFA_iptr, Nat.zero_add, Nat.add_zero, a1, a2, eLen_imm, ints_len, eBin_neq]
    simp only [ePick, bindO_some, condW_bool, Bool.false_eq_true, if_false]
    by_cases hlm : l.length = m.length
    · have : ((l.length : Int) != (m.length : Int)) = false := by simp [hlm]
      rw [this]
      simp only [Bool.false_eq_true, if_false]
      refine loopW_intro (fun k s hh => ∃ i : Nat, i ≤ l.length ∧ s = [int i] ∧ hh = h ∧ k = l.length - i ∧ ∀ j, j < i → l.getD j 0 = m.getD j 0) (fun k s hh K hI hK => ?_) (m := l.length) ⟨0, Nat.zero_le _, rfl, rfl, rfl, fun j hj => absurd hj (by omega)⟩
      obtain ⟨i, hi, rfl, rfl, rfl, hp⟩ := hI
      simp only [lget, List.getD_cons_zero, bindO_some, a1, a2, eLen_imm, ints_len, eBin_lss, condW_bool]
      by_cases hlt : i < l.length
      · have h1 : decide ((i : Int) < (l.length : Int)) = true := by simpa using hlt
        rw [h1]
        simp only [if_true]
        have e1 : eIxS 1 (eI l) (int (i : Int)) = some (.iptr (eget (ints l) i) 0) := eIxS_immN (by rw [ints_len]; exact hlt)
        have e2 : eIxS 1 (eI m) (int (i : Int)) = some (.iptr (eget (ints m) i) 0) := eIxS_immN (by rw [ints_len]; omega)
        simp only [e1, e2, bindO_some]
        have g1 : eget (ints l) i = [int (l.getD i 0)] := eget_mapInt l i hlt
        have g2 : eget (ints m) i = [int (m.getD i 0)] := eget_mapInt m i (by omega)
        rw [g1, g2]
        simp only [eLoad_cell, List.length_cons, List.length_nil, Nat.zero_add, Nat.lt_add_one, bindO_some, lget, List.getD_cons_zero, eBin_neq, condW_bool]
        by_cases hv : l.getD i 0 = m.getD i 0
        · have hb : (l.getD i 0 != m.getD i 0) = false := by rw [hv]; simp
          rw [hb]
          simp only [Bool.false_eq_true, if_false, eBin_add, bindO_some]
          refine dropW_same (hK (l.length - (i + 1)) _ _ (by omega) ⟨i + 1, hlt, ?_, rfl, rfl, fun j hj => ?_⟩)
          · rw [wrap_small (by omega) (by omega)]; rfl
          · rcases Nat.lt_or_ge j i with h | h
            · exact hp j h
            · obtain rfl : j = i := by omega
              exact hv
        · have hb : (l.getD i 0 != m.getD i 0) = true := by simpa using hv
          rw [hb]
          simp only [if_true]
          have hne : decide (e = f ∧ l = m) = false := by simp; intro _ e; exact hv (by rw [e])
          rw [hne]
          simp
      · have h1 : decide ((i : Int) < (l.length : Int)) = false := by simpa using hlt
        rw [h1]
        simp only [Bool.false_eq_true, if_false]
        have : l = m := list_eq_of hlm fun j hj => hp j (by omega)
        simp [this, hef]
    · have : ((l.length : Int) != (m.length : Int)) = true := by simpa using fun e : (l.length : Int) = m.length => hlm (by omega)
      rw [this]
      simp only [if_true]
      have hne : decide (e = f ∧ l = m) = false := by simp; intro _ e; exact hlm (by rw [e])
      rw [hne]
      simp
  · have hb : (e != f) = true := by simpa using hef
    rw [hb]
    have hne : decide (e = f ∧ l = m) = false := by simp [hef]
    rw [hne]
    have hq : (AV.v (Value.bool true) = AV.v (Value.bool false)) = False := by simp
    simp only [hq, gdO_False, isV_v, true_and, undefAV, ePick, bindO_some, condW_bool, if_true]
    simp

theorem c_meanSame (l m : List Int) (e f : Int) (hl : l.length ≤ 9223372036854775807) (h0 : Heap) : APure PP 5 [eO l e, eO m f] (bool (decide (e = f ∧ l = m))) h0 := by
  refine APure.of fun h _ => s5_ok ?_
  unfold s5
  have a1 : ∀ (x : AV) (y : AV) (h : Heap), eLoad false 1 (.iptr [x, y] 0) h = some x := fun x y h => eL1 [x, y] 0 h (by simp)
  have a2 : ∀ (x : AV) (y : AV) (h : Heap), eLoad false 1 (.iptr [x, y] 1) h = some y := fun x y h => eL1 [x, y] 1 h (by simp)
  simp only [bindO_some, cellsOf_agg, eFA_iptr, Nat.zero_add, Nat.add_zero, a1, a2, eBin_eql, isV_v, true_and]
  by_cases hef : e = f
  · have hb : (e == f) = true := by simp [hef]
    rw [hb]
    simp only [gdO_True, bindO_some, eFA_iptr, Nat.zero_add, Nat.add_zero, a1, callG_True]
    refine callP_of (c_equal l m hl h) ?_
    simp [hef, ePick]
  · have hb : (e == f) = false := by simpa using hef
    rw [hb]
    have hq : (AV.v (Value.bool false) = AV.v (Value.bool true)) = False := by simp
    simp only [hq, gdO_False, callG_False, undefAV, ePick, bindO_some]
    simp [hef]

theorem c_law (hk : ∀ h, APure PP 4 [] (bool true) h) (l m : List Int) (e f : Int) (hl : l.length ≤ 9223372036854775807) (h0 : Heap) : APure PP 3 [eO l e, eO m f] (bool true) h0 := by
  refine APure.of fun h _ => s3_ok ?_
  unfold s3
  have a1 : ∀ (x : AV) (y : AV) (h : Heap), eLoad false 1 (.iptr [x, y] 0) h = some x := fun x y h => eL1 [x, y] 0 h (by simp)
  have a2 : ∀ (x : AV) (y : AV) (h : Heap), eLoad true 2 (.iptr [x, y] 0) h = some (.agg [x, y]) := fun x y h => eLoad_agg 2 _ h rfl
  have a3 : ∀ (x y : AV) (o : Nat), eFA 0 (.iptr [x, y] o) = some (.iptr [x, y] o) := fun x y o => rfl
  simp only [bindO_some, cellsOf_agg, a3, a1, a2, eLen_imm, ints_len, eBin_gtr, isV_v, true_and]
  by_cases hL : (l.length : Int) > 500
  · have hb : decide ((l.length : Int) > 500) = true := by simpa using hL
    rw [hb]
    have hq : (AV.v (Value.bool true) = AV.v (Value.bool false)) = False := by simp
    simp only [hq, gdO_False, isV_v, isV_undef, true_and, ePick_bool, if_true, bindO_some, condW_bool]
    exact callP_of (hk h) (by simp)
  · have hb : decide ((l.length : Int) > 500) = false := by simpa using hL
    rw [hb]
    simp only [gdO_True, isV_v, true_and, bindO_some, a3, a1, eLen_imm, ints_len, eBin_gtr, ePick_bool, Bool.false_eq_true, if_false, condW_bool]
    by_cases hM : (m.length : Int) > 500
    · have hb : decide ((m.length : Int) > 500) = true := by simpa using hM
      rw [hb]
      simp only [if_true]
      exact callP_of (hk h) (by simp)
    · have hb : decide ((m.length : Int) > 500) = false := by simpa using hM
      rw [hb]
      simp only [Bool.false_eq_true, if_false]
      refine callP_of (c_meanSame l m e f hl h) (callP_of (c_refSame l m e f hl h) ?_)
      simp only [eBin_eqlB, beq_self_eq_true, bindO_some]
      refine ⟨⟨_, rfl⟩, ?_⟩
      refine callG_pos trivial (hk h) ?_
      simp
end Go.Proofs.YtldbohhdpbmdcaaGreatDoor
