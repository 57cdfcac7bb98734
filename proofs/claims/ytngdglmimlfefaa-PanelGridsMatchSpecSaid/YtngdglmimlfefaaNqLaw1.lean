/- NqLaw1: a part of the proof. -/
import Derived.Test.YtngdglmimlfefaaNqPts
set_option linter.unusedVariables false
set_option linter.unusedSimpArgs false
set_option maxRecDepth 100000
namespace Go.Nw
theorem check_one : checkF { W := 1, H := 1 } = 0 := by
  rw [checkF, if_neg (by decide), if_neg, if_neg, marksF, if_neg (by decide), faultF_0]
  · intro j hj; exact absurd hj (Nat.not_lt_zero _)
  · rw [slotsF, if_neg (by decide), faultF_0]
    · exact not_not_intro rfl
    · intro j hj; exact absurd hj (Nat.not_lt_zero _)
  · rw [kindsF, if_neg (by decide), faultF_0]
    · exact not_not_intro rfl
    · intro j hj; exact absurd hj (Nat.not_lt_zero _)
theorem fits_one : Fits { W := 1, H := 1 } := ⟨by decide, by decide, by decide, fun i hi => absurd hi (Nat.not_lt_zero _)⟩
theorem area_nil : p_shape_AreaOf [] = some 0 := by
  apply ok_val
  unfold p_shape_AreaOf
  apply ok_then
  refine ok_for 0 (fun i x => x = 0) rfl ?_ ?_
  · intro i x hi; exact absurd hi (Nat.not_lt_zero _)
  · rintro x rfl
    refine ok_if (fun h => absurd h (by decide)) (fun _ => ok_some (ok_some rfl))
theorem lowest_01 : p_panel_Lowest 0 1 = some { Num := 0, Den := 1 } := by
  apply ok_val
  unfold p_panel_Lowest
  rw [loopO_inl (s' := (0, 1)) (by simp), loopO_inr (e := 1) (by simp)]
  refine ok_then ?_
  (try dsimp only); (repeat' (first | (with_reducible apply ok_guard; case h => (first | assumption | omega | (simp; done) | (simp; omega) | (and_intros <;> first | omega | (intro _; omega)) | (simp only [Bool.or_eq_true, Bool.and_eq_true, Bool.not_eq_true', Bool.not_eq_true, Bool.not_eq_false', Bool.not_eq_false, Bool.or_eq_false_iff, Bool.and_eq_false_iff, decide_eq_true_eq, decide_eq_false_iff_not, Bool.not_not, beq_iff_eq, bne_iff_ne] at *; omega))) | (with_reducible apply ok_guard) | (with_reducible apply ok_if <;> intro _) | (with_reducible apply ok_some) | (with_reducible apply ok_esc) | (with_reducible apply ok_then))); (all_goals try dsimp only); (all_goals try (exfalso; omega))
  rfl
theorem awake_t : p_law9_awake = some true := by
  apply ok_val
  unfold p_law9_awake p_panel_Use
  apply ok_then
  apply ok_then
  refine o_panel_open fits_one ?_
  rw [show openF { W := 1, H := 1 } = ([], 0) from by rw [openF, check_one]; rfl]
  refine ok_if (fun _ => ?_) (fun h => absurd rfl h)
  apply ok_then
  refine ok_of area_nil ?_
  (try dsimp only); (repeat' (first | (with_reducible apply ok_guard; case h => (first | assumption | omega | (simp; done) | (simp; omega) | (and_intros <;> first | omega | (intro _; omega)) | (simp only [Bool.or_eq_true, Bool.and_eq_true, Bool.not_eq_true', Bool.not_eq_true, Bool.not_eq_false', Bool.not_eq_false, Bool.or_eq_false_iff, Bool.and_eq_false_iff, decide_eq_true_eq, decide_eq_false_iff_not, Bool.not_not, beq_iff_eq, bne_iff_ne] at *; omega))) | (with_reducible apply ok_guard) | (with_reducible apply ok_if <;> intro _) | (with_reducible apply ok_some) | (with_reducible apply ok_esc) | (with_reducible apply ok_then))); (all_goals try dsimp only); (all_goals try (exfalso; omega))
  refine ok_of lowest_01 ?_
  (try dsimp only); (repeat' (first | (with_reducible apply ok_guard; case h => (first | assumption | omega | (simp; done) | (simp; omega) | (and_intros <;> first | omega | (intro _; omega)) | (simp only [Bool.or_eq_true, Bool.and_eq_true, Bool.not_eq_true', Bool.not_eq_true, Bool.not_eq_false', Bool.not_eq_false, Bool.or_eq_false_iff, Bool.and_eq_false_iff, decide_eq_true_eq, decide_eq_false_iff_not, Bool.not_not, beq_iff_eq, bne_iff_ne] at *; omega))) | (with_reducible apply ok_guard) | (with_reducible apply ok_if <;> intro _) | (with_reducible apply ok_some) | (with_reducible apply ok_esc) | (with_reducible apply ok_then))); (all_goals try dsimp only); (all_goals try (exfalso; omega))
  rfl
theorem s_law9_awake {β : Type} {c : Prop} {d : Decidable c} {e : Bool} {f : Bool → Option β} {Q : β → Prop} (hd : ¬ c → f e = f true) (k : Ok (f true) Q) : Ok (Option.bind (@ite _ c d p_law9_awake (some e)) f) Q := ok_short (fun _ => awake_t) hd k
theorem o_law9_awake {Q : Bool → Prop} (k : Q true) : Ok p_law9_awake Q := ok_of awake_t k
theorem law_PanelPointsMatchSpec {p : TPanel} {i : Int} {q : TPoint} (f : Fits p) : p_law9_PanelPointsMatchSpec p i q = some true := by
  apply ok_val
  unfold p_law9_PanelPointsMatchSpec
  (try dsimp only); (repeat' (first | (with_reducible apply s_panel_SlotTurn; case hd => (intro hc; simp only [Bool.not_not, Bool.not_eq_true, Bool.not_eq_false'] at hc; simp only [hc, Bool.true_or, Bool.false_and, Bool.not_true, Bool.not_false, Bool.or_true, Bool.and_false])) | (with_reducible apply s_ref9_SlotTurn; case hd => (intro hc; simp only [Bool.not_not, Bool.not_eq_true, Bool.not_eq_false'] at hc; simp only [hc, Bool.true_or, Bool.false_and, Bool.not_true, Bool.not_false, Bool.or_true, Bool.and_false])) | (with_reducible apply s_panel_ToPanel; case hd => (intro hc; simp only [Bool.not_not, Bool.not_eq_true, Bool.not_eq_false'] at hc; simp only [hc, Bool.true_or, Bool.false_and, Bool.not_true, Bool.not_false, Bool.or_true, Bool.and_false])) | (with_reducible apply s_ref9_ToPanel; case hd => (intro hc; simp only [Bool.not_not, Bool.not_eq_true, Bool.not_eq_false'] at hc; simp only [hc, Bool.true_or, Bool.false_and, Bool.not_true, Bool.not_false, Bool.or_true, Bool.and_false])) | (with_reducible apply s_panel_ToBoard; case hd => (intro hc; simp only [Bool.not_not, Bool.not_eq_true, Bool.not_eq_false'] at hc; simp only [hc, Bool.true_or, Bool.false_and, Bool.not_true, Bool.not_false, Bool.or_true, Bool.and_false])) | (with_reducible apply s_ref9_ToBoard; case hd => (intro hc; simp only [Bool.not_not, Bool.not_eq_true, Bool.not_eq_false'] at hc; simp only [hc, Bool.true_or, Bool.false_and, Bool.not_true, Bool.not_false, Bool.or_true, Bool.and_false])) | (with_reducible apply s_law9_awake; case hd => (intro hc; simp only [Bool.not_not, Bool.not_eq_true, Bool.not_eq_false'] at hc; simp only [hc, Bool.true_or, Bool.false_and, Bool.not_true, Bool.not_false, Bool.or_true, Bool.and_false])) | (with_reducible apply o_panel_SlotTurn <;> try first | assumption | omega) | (with_reducible apply o_ref9_SlotTurn <;> try first | assumption | omega) | (with_reducible apply o_panel_ToPanel <;> try first | assumption | omega) | (with_reducible apply o_ref9_ToPanel <;> try first | assumption | omega) | (with_reducible apply o_panel_ToBoard <;> try first | assumption | omega) | (with_reducible apply o_ref9_ToBoard <;> try first | assumption | omega) | (with_reducible apply o_law9_awake <;> try first | assumption | omega) | (with_reducible apply ok_guard; case h => (first | assumption | omega | (simp; done) | (simp; omega) | (and_intros <;> first | omega | (intro _; omega)) | (simp only [Bool.or_eq_true, Bool.and_eq_true, Bool.not_eq_true', Bool.not_eq_true, Bool.not_eq_false', Bool.not_eq_false, Bool.or_eq_false_iff, Bool.and_eq_false_iff, decide_eq_true_eq, decide_eq_false_iff_not, Bool.not_not, beq_iff_eq, bne_iff_ne] at *; omega))) | (with_reducible apply ok_guard) | (with_reducible apply ok_if <;> intro _) | (with_reducible apply ok_some) | (with_reducible apply ok_esc) | (with_reducible apply ok_then))); (all_goals try dsimp only); (all_goals try (exfalso; omega))
  · rename_i h; simp at h
  · simp
theorem getD_mem {α : Type} {l : List α} {i : Nat} {d : α} (h : i < l.length) : l.getD i d ∈ l := by simp [List.getD, List.getElem?_eq_getElem h]
theorem fits_of {p : TPanel} (h : okTPanel p) : Fits p := by
  obtain ⟨_, _, _, _, ⟨h1, h2⟩, ⟨h3, _⟩, h4, _⟩ := h
  exact ⟨h1, h3, h4, fun i hi => (h2 _ (getD_mem hi)).1⟩
theorem row_PanelPointsMatchSpec (a0 : TPanel) (a1 : Int) (a2 : TPoint) (h0 : okTPanel a0) (h1 : -9223372036854775808 ≤ a1 ∧ a1 ≤ 9223372036854775807) (h2 : okTPoint a2) : p_law9_PanelPointsMatchSpec a0 a1 a2 = some true := law_PanelPointsMatchSpec (fits_of h0)
end Go.Nw
