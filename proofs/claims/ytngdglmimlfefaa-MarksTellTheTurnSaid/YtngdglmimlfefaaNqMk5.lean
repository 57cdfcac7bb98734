/- NqMk5: a part of the proof. -/
import Derived.Test.YtngdglmimlfefaaNqMk4
set_option linter.unusedVariables false
set_option linter.unusedSimpArgs false
set_option maxRecDepth 100000
namespace Go.Nw
theorem turnFault_00 {t : TTurn} (h : turnFault t = 0) : (0 ≤ t.Quarters ∧ t.Quarters ≤ 3) ∧ Sm t.At := by
  unfold turnFault at h
  split at h
  · cases h
  · rename_i c
    simp only [Bool.or_eq_true, Bool.not_eq_true', Bool.and_eq_false_iff, decide_eq_false_iff_not] at c
    unfold Sm; omega
theorem marks_apart {p : TPanel} (h : checkF p = 0) : p.Marks.Pairwise fun a b => a ≠ b := by
  unfold checkF at h
  by_cases c : rgsF p = true
  · rw [if_pos c] at h; cases h
  rw [if_neg c] at h
  by_cases c2 : kindsF p.Kinds = 0
  · rw [if_neg (not_not_intro c2)] at h
    by_cases c3 : slotsF p = 0
    · rw [if_neg (not_not_intro c3)] at h
      unfold marksF at h
      by_cases c4 : 10 < (p.Marks.length : Int)
      · rw [if_pos c4] at h; cases h
      rw [if_neg c4, faultF_eq0] at h
      refine List.pairwise_iff_getElem.2 fun i j hi hj hij e => ?_
      have h1 := h j hj
      have ei : markD p i = p.Marks[i] := by simp [markD, hi]
      have ej : markD p j = p.Marks[j] := by simp [markD, hj]
      by_cases k1 : onPanelF p (markD p j) = false
      · rw [markFault_1 k1] at h1; cases h1
      by_cases k2 : ∃ m, m < p.Slots.length ∧ inF (cellF p (slotD p m)) (markD p j) = true
      · rw [markFault_12 k1 k2] at h1; cases h1
      rw [markFault_7 k1 k2 ⟨i, hij, by rw [ei, ej, e]⟩] at h1; cases h1
    · rw [if_pos c3] at h; exact absurd h c3
  · rw [if_pos c2] at h; exact absurd h c2
theorem lie_told {p : TPanel} {t : TTurn} (h : checkF p = 0) (hn : 0 < p.Marks.length) (h1 : (blk p.Marks p.Marks 4).length = 1) (ft : t.Flip = false) (ht : turnFault t = 0) (hs : ∀ q ∈ p.Marks, Sm (turnF q t)) :
    lieF p (p.Marks.reverse.map fun q => turnF q t) = (t, true, 0) := by
  obtain ⟨m1, m2⟩ := marks_ok h
  obtain ⟨⟨t0, t3⟩, -⟩ := turnFault_00 ht
  obtain ⟨S, hSe⟩ : ∃ S, S = p.Marks.reverse.map fun q => turnF q t := ⟨_, rfl⟩
  rw [← hSe]
  have hlen : p.Marks.length = S.length := by rw [hSe, List.length_map, List.length_reverse]
  have hS : ∀ z, z ∈ S ↔ ∃ q ∈ p.Marks, z = turnF q t := fun z => by
    rw [hSe, List.mem_map]
    constructor
    · rintro ⟨q, hq, e⟩; exact ⟨q, List.mem_reverse.1 hq, e.symm⟩
    · rintro ⟨q, hq, e⟩; exact ⟨q, List.mem_reverse.2 hq, e.symm⟩
  have hd : S.Pairwise fun a b => a ≠ b := by
    rw [hSe]
    refine List.pairwise_map.2 (List.pairwise_reverse.2 ((marks_apart h).imp fun {a b} hab e => hab (turn_inj ft e).symm))
  have hf : ∀ i < S.length, seenFault S i = 0 := fun i hi => by
    have e : S.getD i default = S[i] := by simp [hi]
    unfold seenFault
    rw [e]
    obtain ⟨q, hq, e'⟩ := (hS S[i]).1 (List.getElem_mem hi)
    have : isPt S[i] = true := isPt_sm.2 (by rw [e']; exact hs q hq)
    rw [if_neg (by rw [this]; simp), if_neg]
    rintro ⟨j, hj, e2⟩
    have ej : S.getD j default = S[j]'(by omega) := by simp [show j < S.length by omega]
    rw [ej] at e2
    exact List.pairwise_iff_getElem.1 hd j i (by omega) hi hj e2
  obtain ⟨o1, o2⟩ := only_turn hn h1 ft t0 t3 hlen hS
  have hb : 0 < (blk p.Marks S 4).length := List.length_pos_of_mem o1
  have hh : HeadP (blk p.Marks S 4) t := ⟨o1, by rw [o2 _ (getD_mem hb)], fun u hu _ => by rw [o2 u hu]; unfold leT; omega⟩
  unfold lieF tailF
  rw [if_pos h, if_neg (by omega), if_pos (faultF_0 hf), if_neg (by omega), if_neg (by omega), headF_eq hh, if_pos ht]
theorem row_MarksTellTheTurn (a0 : TPanel) (a1 : TTurn) (h0 : okTPanel a0) (h1 : okTTurn a1) : p_law9_MarksTellTheTurn a0 a1 = some true := by
  have f := fits_of h0
  apply ok_val
  unfold p_law9_MarksTellTheTurn
  refine ok_then (o_panel_GoodMarks f ?_)
  by_cases hg : (goodF a0).2 = 0 ∧ (goodF a0).1 = true
  · obtain ⟨g1, g2⟩ := hg
    have hc : checkF a0 = 0 := by
      unfold goodF at g1
      by_cases c : checkF a0 = 0
      · exact c
      · rw [if_neg c] at g1; exact absurd g1 c
    have hgood : 2 ≤ (a0.Marks.length : Int) ∧ ((blk a0.Marks a0.Marks 4).length : Int) = 1 := by
      unfold goodF at g2
      rw [if_pos hc] at g2
      simpa using g2
    rw [g1, g2]
    simp only [decide_true, Bool.not_true, Bool.false_or, Bool.or_false, Bool.true_or]
    obtain ⟨m1, m2⟩ := marks_ok hc
    by_cases ff : a1.Flip = true
    · rw [ff]
      simp only [Bool.not_true, Bool.false_eq_true, if_false, Bool.true_or, if_true]
      refine ok_then (ok_some ?_)
      exact ok_then (o_law9_awake (ok_some rfl))
    · have ff : a1.Flip = false := by simpa using ff
      rw [ff]
      simp only [Bool.not_false, if_true, Bool.false_or]
      refine ok_then (o_shape_CheckTurn ?_)
      by_cases ht : turnFault a1 = 0
      · rw [if_neg (by simp [ht]), if_pos (by omega)]
        obtain ⟨⟨t0, t3⟩, ta⟩ := turnFault_00 ht
        refine ok_esc ?_
        refine ok_loop (fun s : Int × List TPoint × Bool => ∃ n : Nat, s.1 = (n : Int) - 1 ∧ n ≤ a0.Marks.length ∧ s.2.1 = (a0.Marks.drop n).reverse.map (fun q => turnF q a1) ∧ ∀ q ∈ a0.Marks.drop n, Sm (turnF q a1)) (fun s => (s.1 + 1).toNat)
          ⟨a0.Marks.length, rfl, Nat.le_refl _, by simp, by simp⟩ ?_
        rintro ⟨i', out, s3⟩ ⟨n, e1, hn, e2, hI⟩
        simp only at e1 e2
        subst e1 e2
        by_cases hz : n = 0
        · subst hz
          rw [if_neg (by simp)]
          refine ok_some ?_
          simp only [List.drop_zero] at hI ⊢
          refine ok_then (o_panel_Lie f (by rw [List.length_map, List.length_reverse]; omega) ?_)
          rw [lie_told hc (by omega) (by omega) ff ht hI]
          simp only [decide_true, Bool.and_self, if_true]
          exact ok_then (o_law9_awake (ok_some rfl))
        · have hi : n - 1 < a0.Marks.length := by omega
          have en : ((n : Int) - 1).toNat = n - 1 := by omega
          have hmem : a0.Marks.getD (n - 1) default ∈ a0.Marks := getD_mem hi
          have hdrop : a0.Marks.drop (n - 1) = a0.Marks.getD (n - 1) default :: a0.Marks.drop n := by
            rw [List.drop_eq_getElem_cons hi, show n - 1 + 1 = n by omega]
            simp [hi]
          simp only [en]
          rw [if_pos (by omega), if_pos (by omega)]
          refine ok_then (o_shape_Turned (m2 _ hmem) ht t3 ta.near (fun hsm => ?_) ?_)
          · rw [if_pos rfl, if_pos (by rw [List.length_map, List.length_reverse, List.length_drop]; omega)]
            refine ok_some ⟨⟨n - 1, by simp only; omega, by omega, ?_, fun q hq => ?_⟩, by simp only; omega⟩
            · simp only
              rw [hdrop, List.reverse_cons, List.map_append]; rfl
            · rw [hdrop] at hq
              rcases List.mem_cons.1 hq with rfl | hq
              · exact hsm
              · exact hI q hq
          · rw [if_neg (by simp)]
            exact ok_then (o_law9_awake (ok_some (ok_some rfl)))
      · rw [if_pos (by simp [ht])]
        exact ok_then (o_law9_awake (ok_some rfl))
  · -- no good marks
    have hgo : decide ((goodF a0).2 = 0) = true ∧ (goodF a0).1 = false ∨ decide ((goodF a0).2 = 0) = false ∧ (goodF a0).1 = false := by
      by_cases c : (goodF a0).2 = 0
      · left
        refine ⟨decide_eq_true c, ?_⟩
        cases hb : (goodF a0).1 with
        | false => rfl
        | true => exact absurd ⟨c, hb⟩ hg
      · right
        refine ⟨decide_eq_false c, ?_⟩
        unfold goodF at c ⊢
        split at c
        · exact absurd rfl c
        · rename_i h; rw [if_neg h]
    rcases hgo with ⟨c1, c2⟩ | ⟨c1, c2⟩
    · rw [c1, c2]
      simp only [Bool.not_true, Bool.not_false, Bool.false_or, Bool.true_or, Bool.or_true, Bool.false_eq_true, if_false, if_true]
      refine ok_then (ok_some ?_)
      exact ok_then (o_law9_awake (ok_some rfl))
    · rw [c1, c2]
      simp only [Bool.not_true, Bool.not_false, Bool.false_or, Bool.true_or, Bool.or_true, Bool.false_eq_true, if_false, if_true]
      refine ok_then (ok_some ?_)
      exact ok_then (o_law9_awake (ok_some rfl))
end Go.Nw
