/- NqLaw2: a part of the proof. -/
import Derived.Test.YtngdglmimlfefaaNqLaw1
set_option linter.unusedVariables false
set_option linter.unusedSimpArgs false
set_option maxRecDepth 100000
namespace Go.Nw
theorem toPanel_ok {p : TPanel} {i : Int} {q : TPoint} (h : (toPanelF p i q).2 = 0) : checkF p = 0 ∧ 0 ≤ i ∧ i < p.Slots.length ∧ (toPanelF p i q).1 = turnF q (turnOfF p (slotD p i.toNat)) ∧
    0 ≤ q.X ∧ q.X ≤ (boardF p (slotD p i.toNat).Board).W ∧ 0 ≤ q.Y ∧ q.Y ≤ (boardF p (slotD p i.toNat).Board).H := by
  rw [toPanelF] at h ⊢
  by_cases c : (slotTurnF p i).2 = 0
  · obtain ⟨h1, h2, h3, h4⟩ := slotTurn_ok c
    rw [if_pos c] at h ⊢
    split at h
    · cases h
    · rename_i c2
      rw [if_neg c2]
      (simp only [Bool.or_eq_true, Bool.and_eq_true, Bool.not_eq_true', Bool.not_eq_true, Bool.not_eq_false', Bool.not_eq_false, Bool.or_eq_false_iff, Bool.and_eq_false_iff, decide_eq_true_eq, decide_eq_false_iff_not, Bool.not_not, beq_iff_eq, bne_iff_ne] at c2)
      exact ⟨h1, h2, h3, rfl, by simp only [slotD]; omega⟩
  · rw [if_neg c] at h; exact (c h).elim
theorem toPanel_no {p : TPanel} {i : Int} {q : TPoint} (h : ¬ (toPanelF p i q).2 = 0) : (toPanelF p i q).1 = {} := by
  rw [toPanelF] at h ⊢
  by_cases c : (slotTurnF p i).2 = 0
  · rw [if_pos c] at h ⊢
    split at h
    · rename_i c2; rw [if_pos c2]
    · exact (h rfl).elim
  · rw [if_neg c]
theorem turn_in {p : TPanel} {s : TSlot} {q : TPoint} (hs : 0 ≤ s.Quarters ∧ s.Quarters ≤ 3) (h : 0 ≤ q.X ∧ q.X ≤ (boardF p s.Board).W ∧ 0 ≤ q.Y ∧ q.Y ≤ (boardF p s.Board).H) : hitF (cellF p s) (turnF q (turnOfF p s)) = true := by
  rcases (by omega : s.Quarters = 0 ∨ s.Quarters = 1 ∨ s.Quarters = 2 ∨ s.Quarters = 3) with e | e | e | e <;>
    (simp [hitF, cellF, sizeF, turnF, turnOfF, turnAt, e, rotN, rot, flipF]; omega)
theorem home_turn {p : TPanel} {s : TSlot} {q : TPoint} (hs : 0 ≤ s.Quarters ∧ s.Quarters ≤ 3) : homeF p s (turnF q (turnOfF p s)) = q := by
  rcases (by omega : s.Quarters = 0 ∨ s.Quarters = 1 ∨ s.Quarters = 2 ∨ s.Quarters = 3) with e | e | e | e <;>
    (have e2 : Int.tmod (4 - s.Quarters) 4 = if s.Quarters = 0 then 0 else 4 - s.Quarters := by rw [e]; decide
     rw [e] at e2
     simp only [homeF, turnF, turnOfF, e, e2]
     ext <;> simp [rotN, rot, flipF, turnAt, e] <;> omega)
theorem cell_on {p : TPanel} (g : Good p) {i : Nat} (hi : i < p.Slots.length) {q : TPoint} (h : hitF (cellF p (slotD p i)) q = true) : onPanelF p q = true := by
  obtain ⟨h1, ⟨_, l1, l2, l3, l4⟩, _⟩ := slot_ok (g.ss i hi)
  obtain ⟨o1, o2, o3, o4, o5, o6, _, _⟩ := g.toOpn.toRgs
  simp only [hitF] at h
  (simp only [Bool.or_eq_true, Bool.and_eq_true, Bool.not_eq_true', Bool.not_eq_true, Bool.not_eq_false', Bool.not_eq_false, Bool.or_eq_false_iff, Bool.and_eq_false_iff, decide_eq_true_eq, decide_eq_false_iff_not, Bool.not_not, beq_iff_eq, bne_iff_ne] at h)
  simp only [cellF] at h
  simp only [onPanelF]
  (simp only [Bool.or_eq_true, Bool.and_eq_true, Bool.not_eq_true', Bool.not_eq_true, Bool.not_eq_false', Bool.not_eq_false, Bool.or_eq_false_iff, Bool.and_eq_false_iff, decide_eq_true_eq, decide_eq_false_iff_not, Bool.not_not, beq_iff_eq, bne_iff_ne] at ⊢); omega
theorem apart_hit {a b : TRect} {q : TPoint} {g : Int} (h0 : 0 ≤ g) (h : apartF a b g = true ∨ apartF b a g = true) (hs : a.X0 < q.X ∧ q.X < a.X1 ∧ a.Y0 < q.Y ∧ q.Y < a.Y1) : hitF b q = false := by
  simp only [apartF] at h
  simp only [hitF]
  (simp only [Bool.or_eq_true, Bool.and_eq_true, Bool.not_eq_true', Bool.not_eq_true, Bool.not_eq_false', Bool.not_eq_false, Bool.or_eq_false_iff, Bool.and_eq_false_iff, decide_eq_true_eq, decide_eq_false_iff_not, Bool.not_not, beq_iff_eq, bne_iff_ne] at h ⊢); omega
theorem inside_one {p : TPanel} (g : Good p) {i j : Nat} (hi : i < p.Slots.length) (hj : j < p.Slots.length) (e : j ≠ i) {q : TPoint} (hs : (cellF p (slotD p i)).X0 < q.X ∧ q.X < (cellF p (slotD p i)).X1 ∧ (cellF p (slotD p i)).Y0 < q.Y ∧ q.Y < (cellF p (slotD p i)).Y1) : hitF (cellF p (slotD p j)) q = false := by
  refine apart_hit g.toOpn.toRgs.g1 ?_ hs
  rcases Nat.lt_or_gt_of_ne e with h | h
  · exact .inl ((slot_ok (g.ss i hi)).2.2 j h)
  · exact .inr ((slot_ok (g.ss j hj)).2.2 i h)
/-- where a point of a cell is found -/
theorem toBoard_hit {p : TPanel} (c : checkF p = 0) {i : Nat} (hi : i < p.Slots.length) {q : TPoint} (h : hitF (cellF p (slotD p i)) q = true) :
    ∃ j : Nat, j < p.Slots.length ∧ toBoardF p q = ((j : Int), homeF p (slotD p j) q, true, 0) ∧ hitF (cellF p (slotD p j)) q = true := by
  have g := good_of c
  have h' : ¬ onPanelF p q = false := by rw [cell_on g hi h]; exact Bool.noConfusion
  rcases firstF_cases p.Slots.length (fun i => hitF (cellF p (slotD p i)) q) with ⟨_, h2⟩ | ⟨j, h1, h2, h3, h4⟩
  · have := h2 i hi; simp only [h] at this; cases this
  · exact ⟨j, h1, toBoard_at c h' h1 h3 h4, h3⟩
theorem law_PanelPointsComeBack {p : TPanel} {i : Int} {q : TPoint} (f : Fits p) : p_law9_PanelPointsComeBack p i q = some true := by
  apply ok_val
  unfold p_law9_PanelPointsComeBack
  refine ok_then (o_panel_ToPanel f (ok_if (fun c => ?_) (fun c => ?_)))
  · obtain ⟨h1, h2, h3, h4, h5⟩ := toPanel_ok c
    have g := good_of h1
    have hi : i.toNat < p.Slots.length := by omega
    have hq := (slot_ok (g.ss _ hi)).2.1.1
    have hh := turn_in hq h5
    obtain ⟨j, hj, e, hjh⟩ := toBoard_hit h1 hi hh
    rw [h4]
    refine ok_then (o_panel_Cells f ?_)
    have eo : openF p = (p.Slots.map (cellF p), 0) := by rw [openF, h1, if_pos rfl]
    rw [eo]
    dsimp only
    rw [getD_map (cellF p) p.Slots i.toNat default default hi, List.length_map]
    refine ok_if (fun c2 => ?_) (fun c2 => ?_)
    · simp at c2; exfalso; omega
    · refine ok_then (o_panel_ToBoard f ?_)
      rw [e]
      refine ok_if (fun c3 => ?_) (fun c3 => ?_)
      · simp at c3
      · refine ok_guard h2 (ok_if (fun c4 => ?_) (fun c4 => ?_))
        · exfalso
          change (_ && (!decide ((j : Int) = i) || !decide (homeF p (slotD p j) _ = q))) = true at c4
          rw [Bool.and_eq_true] at c4
          obtain ⟨c5, c6⟩ := c4
          have hs : (cellF p (slotD p i.toNat)).X0 < (turnF q (turnOfF p (slotD p i.toNat))).X ∧ (turnF q (turnOfF p (slotD p i.toNat))).X < (cellF p (slotD p i.toNat)).X1 ∧ (cellF p (slotD p i.toNat)).Y0 < (turnF q (turnOfF p (slotD p i.toNat))).Y ∧ (turnF q (turnOfF p (slotD p i.toNat))).Y < (cellF p (slotD p i.toNat)).Y1 := by
            simp only [Bool.and_eq_true, decide_eq_true_eq, and_assoc] at c5; exact c5
          have ej : j = i.toNat := by
            by_cases e : j = i.toNat
            · exact e
            · rw [inside_one g hi hj e hs] at hjh; cases hjh
          subst ej
          rw [home_turn hq] at c6
          simp at c6
          omega
        · have hb : (decide ((cellF p (slotD p i.toNat)).X0 ≤ (turnF q (turnOfF p (slotD p i.toNat))).X) && decide ((turnF q (turnOfF p (slotD p i.toNat))).X ≤ (cellF p (slotD p i.toNat)).X1) && decide ((cellF p (slotD p i.toNat)).Y0 ≤ (turnF q (turnOfF p (slotD p i.toNat))).Y) && decide ((turnF q (turnOfF p (slotD p i.toNat))).Y ≤ (cellF p (slotD p i.toNat)).Y1)) = true := by
            simp only [hitF] at hh; rw [← Bool.and_assoc] at hh; exact hh
          change Ok (Option.bind (if (decide ((cellF p (slotD p i.toNat)).X0 ≤ (turnF q (turnOfF p (slotD p i.toNat))).X) && decide ((turnF q (turnOfF p (slotD p i.toNat))).X ≤ (cellF p (slotD p i.toNat)).X1) && decide ((cellF p (slotD p i.toNat)).Y0 ≤ (turnF q (turnOfF p (slotD p i.toNat))).Y) && decide ((turnF q (turnOfF p (slotD p i.toNat))).Y ≤ (cellF p (slotD p i.toNat)).Y1)) = true then p_law9_awake else some default) fun (x9 : Bool) => some ((decide ((cellF p (slotD p i.toNat)).X0 ≤ (turnF q (turnOfF p (slotD p i.toNat))).X) && decide ((turnF q (turnOfF p (slotD p i.toNat))).X ≤ (cellF p (slotD p i.toNat)).X1) && decide ((cellF p (slotD p i.toNat)).Y0 ≤ (turnF q (turnOfF p (slotD p i.toNat))).Y) && decide ((turnF q (turnOfF p (slotD p i.toNat))).Y ≤ (cellF p (slotD p i.toNat)).Y1)) && x9)) _
          rw [hb, if_pos rfl]
          exact ok_then (o_law9_awake (ok_some rfl))
  · have e := toPanel_no c
    rw [e]
    rw [if_pos (by simp)]
    refine ok_then (o_law9_awake ?_)
    (try dsimp only); (repeat' (first | (with_reducible apply ok_guard; case h => (first | assumption | omega | (simp; done) | (simp; omega) | (and_intros <;> first | omega | (intro _; omega)) | (simp only [Bool.or_eq_true, Bool.and_eq_true, Bool.not_eq_true', Bool.not_eq_true, Bool.not_eq_false', Bool.not_eq_false, Bool.or_eq_false_iff, Bool.and_eq_false_iff, decide_eq_true_eq, decide_eq_false_iff_not, Bool.not_not, beq_iff_eq, bne_iff_ne] at *; omega))) | (with_reducible apply ok_guard) | (with_reducible apply ok_if <;> intro _) | (with_reducible apply ok_some) | (with_reducible apply ok_esc) | (with_reducible apply ok_then))); (all_goals try dsimp only); (all_goals try (exfalso; omega))
    simp
theorem row_PanelPointsComeBack (a0 : TPanel) (a1 : Int) (a2 : TPoint) (h0 : okTPanel a0) (h1 : -9223372036854775808 ≤ a1 ∧ a1 ≤ 9223372036854775807) (h2 : okTPoint a2) : p_law9_PanelPointsComeBack a0 a1 a2 = some true := law_PanelPointsComeBack (fits_of h0)
end Go.Nw
