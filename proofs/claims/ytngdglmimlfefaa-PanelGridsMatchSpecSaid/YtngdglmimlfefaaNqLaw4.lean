/- NqLaw4: a part of the proof. -/
import Derived.Test.YtngdglmimlfefaaNqRows
set_option linter.unusedVariables false
set_option linter.unusedSimpArgs false
set_option maxRecDepth 100000
namespace Go.Nw
def Lens (p : TPanel) : Prop := p.Kinds.length < 281474976710656 ∧ p.Slots.length < 281474976710656 ∧ p.Marks.length < 281474976710656
theorem lens_0 : Lens {} := ⟨by decide, by decide, by decide⟩
theorem same_self {a : TPanel} (h : Lens a) : p_ref9_Same a a = some true := by
  obtain ⟨h1, h2, h3⟩ := h
  apply ok_val
  unfold p_ref9_Same
  refine ok_if (fun c => by simp at c) (fun _ => ?_)
  refine ok_esc (ok_for a.Kinds.length (fun _ _ => True) trivial ?_ ?_)
  · intro i x hi _
    (try dsimp only); (repeat' (first | (with_reducible apply ok_guard; case h => (first | assumption | omega | (simp; done) | (simp; omega) | (and_intros <;> first | omega | (intro _; omega)) | (simp only [Bool.or_eq_true, Bool.and_eq_true, Bool.not_eq_true', Bool.not_eq_true, Bool.not_eq_false', Bool.not_eq_false, Bool.or_eq_false_iff, Bool.and_eq_false_iff, decide_eq_true_eq, decide_eq_false_iff_not, Bool.not_not, beq_iff_eq, bne_iff_ne] at *; omega))) | (with_reducible apply ok_guard) | (with_reducible apply ok_if <;> intro _) | (with_reducible apply ok_some) | (with_reducible apply ok_esc) | (with_reducible apply ok_then))); (all_goals try dsimp only); (all_goals try (exfalso; omega))
    · exact ⟨rfl, trivial⟩
    · rename_i h; exact (h rfl).elim
  · intro x _
    refine ok_if (fun h => by exfalso; dsimp only at h; omega) (fun _ => ok_some ?_)
    refine ok_esc (ok_for a.Slots.length (fun _ _ => True) trivial ?_ ?_)
    · intro i x hi _
      (try dsimp only); (repeat' (first | (with_reducible apply ok_guard; case h => (first | assumption | omega | (simp; done) | (simp; omega) | (and_intros <;> first | omega | (intro _; omega)) | (simp only [Bool.or_eq_true, Bool.and_eq_true, Bool.not_eq_true', Bool.not_eq_true, Bool.not_eq_false', Bool.not_eq_false, Bool.or_eq_false_iff, Bool.and_eq_false_iff, decide_eq_true_eq, decide_eq_false_iff_not, Bool.not_not, beq_iff_eq, bne_iff_ne] at *; omega))) | (with_reducible apply ok_guard) | (with_reducible apply ok_if <;> intro _) | (with_reducible apply ok_some) | (with_reducible apply ok_esc) | (with_reducible apply ok_then))); (all_goals try dsimp only); (all_goals try (exfalso; omega))
      · exact ⟨rfl, trivial⟩
      · rename_i h; exact (h rfl).elim
    · intro x _
      refine ok_if (fun h => by exfalso; dsimp only at h; omega) (fun _ => ok_some ?_)
      refine ok_esc (ok_for a.Marks.length (fun _ _ => True) trivial ?_ ?_)
      · intro i x hi _
        (try dsimp only); (repeat' (first | (with_reducible apply ok_guard; case h => (first | assumption | omega | (simp; done) | (simp; omega) | (and_intros <;> first | omega | (intro _; omega)) | (simp only [Bool.or_eq_true, Bool.and_eq_true, Bool.not_eq_true', Bool.not_eq_true, Bool.not_eq_false', Bool.not_eq_false, Bool.or_eq_false_iff, Bool.and_eq_false_iff, decide_eq_true_eq, decide_eq_false_iff_not, Bool.not_not, beq_iff_eq, bne_iff_ne] at *; omega))) | (with_reducible apply ok_guard) | (with_reducible apply ok_if <;> intro _) | (with_reducible apply ok_some) | (with_reducible apply ok_esc) | (with_reducible apply ok_then))); (all_goals try dsimp only); (all_goals try (exfalso; omega))
        · exact ⟨rfl, trivial⟩
        · rename_i h; exact (h rfl).elim
      · intro x _
        exact ok_if (fun h => by exfalso; dsimp only at h; omega) (fun _ => ok_some (ok_some rfl))
theorem o_same {a : TPanel} (h : Lens a) {Q : Bool → Prop} (k : Q true) : Ok (p_ref9_Same a a) Q := ok_of (same_self h) k
theorem told_1 {p : TPanel} (h : Lens p) : Lens (toldF p).1 := by
  rw [toldF]; split
  · exact h
  · exact lens_0
theorem told_ok {p : TPanel} (h : (toldF p).2 = 0) : checkF p = 0 ∧ (toldF p).1 = p := by
  rw [toldF] at h ⊢
  by_cases c : checkF p = 0
  · rw [if_pos c]; exact ⟨c, rfl⟩
  · rw [if_neg c] at h; exact (c h).elim
theorem told_no {p : TPanel} (h : ¬ (toldF p).2 = 0) : (toldF p).1 = {} := by
  rw [toldF] at h ⊢
  by_cases c : checkF p = 0
  · rw [if_pos c] at h; exact (h rfl).elim
  · rw [if_neg c]
theorem rowsAll_len {p : TPanel} {b : ByteArray} {q c n t m : Int} (hc : 0 ≤ c) (ht : 0 ≤ t) (hn : 0 ≤ n) (hm : 0 ≤ m) : ((rowsUp p b (boardF p b) q c n t (n + m).toNat).2.length : Int) = n * c + m * t := by
  have := rows_len (p := p) (b := b) (k := boardF p b) (q := q) hn hc ht (n + m).toNat
  rw [this]
  by_cases e : (((n + m).toNat : Nat) : Int) ≤ n
  · have h0 : m = 0 := by omega
    subst h0
    rw [if_pos e]; simp
    rw [show max n 0 = n by omega]
  · rw [if_neg e, show (((n + m).toNat : Nat) : Int) - n = m by omega]
theorem rowsAll_lens {p : TPanel} {b : ByteArray} {q c n t m : Int} (l : Lens p) (hc : 0 ≤ c) (ht : 0 ≤ t) (hn : 0 ≤ n) (hm : 0 ≤ m) : Lens (rowsAll p b q c n t m).1 := by
  rw [rowsAll]
  split
  · exact lens_0
  · have := rowsAll_len (p := p) (b := b) (q := q) hc ht hn hm
    exact told_1 ⟨l.1, by simp only [withS]; omega, l.2.2⟩
theorem Fits.lens {p : TPanel} (f : Fits p) : Lens p := ⟨f.1, f.2.1, f.2.2.1⟩
theorem grid_lens {p : TPanel} {b : ByteArray} {q : Int} (f : Fits p) : Lens (gridF p b q).1 := by
  rw [gridF]
  by_cases c : checkF p = 0
  · rw [if_pos c]
    by_cases k : kindF p b < 0
    · rw [if_pos k]; exact lens_0
    · rw [if_neg k]
      have o := (good_of c).toOpn
      split
      · exact lens_0
      · exact rowsAll_lens f.lens (cols_b o (by omega)).1 (by omega) (lines_b o (by omega)).1 (by omega)
  · rw [if_neg c]; exact lens_0
theorem best_b {p : TPanel} {b : ByteArray} (o : Opn p) (h : 0 ≤ kindF p b) : 0 ≤ (roF p b).b ((roF p b).best (mostF p b).toNat : Nat) := by
  have h1 := ((roF p b).best_is (mostF p b).toNat).1
  have h2 : 0 ≤ mostF p b ∧ mostF p b ≤ 2000000 := lines_b o h
  exact ((roOk o h).b (by omega) (by omega)).1
theorem rows_lens {p : TPanel} {b : ByteArray} (f : Fits p) : Lens (rowsBF p b).1 := by
  rw [rowsBF]
  by_cases c : checkF p = 0
  · rw [if_pos c]
    by_cases k : kindF p b < 0
    · rw [if_pos k]; exact lens_0
    · rw [if_neg k]
      have o := (good_of c).toOpn
      exact rowsAll_lens f.lens (cols_b o (by omega)).1 (cols_b o (by omega)).1 (by omega) (best_b o (by omega))
  · rw [if_neg c]; exact lens_0
theorem law_PanelGridsMatchSpec {p : TPanel} {b : ByteArray} {q : Int} (f : Fits p) : p_law9_PanelGridsMatchSpec p b q = some true := by
  apply ok_val
  unfold p_law9_PanelGridsMatchSpec
  refine ok_then (o_panel_Grid f (ok_then (o_ref9_Grid f (ok_then (o_panel_Rows f (ok_then (o_ref9_Rows f (ok_then (o_same (grid_lens f) ?_)))))))))
  rw [if_pos (by simp)]
  refine ok_then (o_same (rows_lens f) ?_)
  rw [if_pos (by simp)]
  refine ok_then (o_law9_awake (ok_some ?_))
  simp
theorem row_PanelGridsMatchSpec (a0 : TPanel) (a1 : ByteArray) (a2 : Int) (h0 : okTPanel a0) (h1 : a1.size < 281474976710656) (h2 : -9223372036854775808 ≤ a2 ∧ a2 ≤ 9223372036854775807) : p_law9_PanelGridsMatchSpec a0 a1 a2 = some true := law_PanelGridsMatchSpec (fits_of h0)
theorem rowsAll_ok {p : TPanel} {b : ByteArray} {q c n t m : Int} (h : (rowsAll p b q c n t m).2 = 0) : checkF (rowsAll p b q c n t m).1 = 0 ∧ (rowsAll p b q c n t m).1 = withS p (rowsUp p b (boardF p b) q c n t (n + m).toNat).2 := by
  rw [rowsAll] at h ⊢
  by_cases c : 500 < n * c + m * t
  · rw [if_pos c] at h; cases h
  · rw [if_neg c] at h ⊢
    obtain ⟨h1, h2⟩ := told_ok h
    rw [h2]; exact ⟨h1, rfl⟩
theorem rowsAll_no {p : TPanel} {b : ByteArray} {q c n t m : Int} (h : ¬ (rowsAll p b q c n t m).2 = 0) : (rowsAll p b q c n t m).1 = {} := by
  rw [rowsAll] at h ⊢
  by_cases c : 500 < n * c + m * t
  · rw [if_pos c]
  · rw [if_neg c] at h ⊢
    exact told_no h
theorem law_PanelRowsAreMost {p : TPanel} {b : ByteArray} {q : Int} (f : Fits p) : p_law9_PanelRowsAreMost p b q = some true := by
  apply ok_val
  unfold p_law9_PanelRowsAreMost
  refine ok_then (o_panel_Rows f (ok_if (fun h => ?_) (fun h => ?_)))
  · refine ok_then (o_panel_Grid f ?_)
    by_cases c : checkF p = 0
    · by_cases k : kindF p b < 0
      · rw [rowsBF, if_pos c, if_pos k] at h; cases h
      · have o := (good_of c).toOpn
        have hk := Int.not_lt.1 k
        have b0 := cols_b (q := 0) o hk
        have b1 := cols_b (q := 1) o hk
        have bM : 0 ≤ mostF p b ∧ mostF p b ≤ 2000000 := lines_b o hk
        have hb := best_b o hk
        have hr := roOk o hk
        obtain ⟨hB1, hB2⟩ := (roF p b).best_is (mostF p b).toNat
        have er : rowsBF p b = rowsAll p b 0 (colsF p b 0) ((roF p b).best (mostF p b).toNat : Nat) (colsF p b 1) ((roF p b).b ((roF p b).best (mostF p b).toNat : Nat)) := by rw [rowsBF, if_pos c, if_neg k]
        have hlen := rowsAll_len (p := p) (b := b) (q := 0) b0.1 b1.1 (show (0 : Int) ≤ ((roF p b).best (mostF p b).toNat : Nat) by omega) hb
        rw [er] at h ⊢
        obtain ⟨h1, h2⟩ := rowsAll_ok h
        rw [h2] at h1 ⊢
        have hv : ((roF p b).best (mostF p b).toNat : Nat) * colsF p b 0 + (roF p b).b ((roF p b).best (mostF p b).toNat : Nat) * colsF p b 1 = (roF p b).v ((roF p b).best (mostF p b).toNat : Nat) := rfl
        rw [hv] at hlen
        have hfit := (roOk o hk).v (n := ((roF p b).best (mostF p b).toNat : Nat)) (by omega) (by omega)
        have hv2 : (roF p b).v ((roF p b).best (mostF p b).toNat : Nat) = ((roF p b).best (mostF p b).toNat : Nat) * (roF p b).A + (roF p b).b ((roF p b).best (mostF p b).toNat : Nat) * (roF p b).T := rfl
        refine ok_then (o_panel_CheckPanel (fits_with f (by omega)) ?_)
        rw [h1]
        have key : (gridF p b q).2 = 0 → ((gridF p b q).1.Slots.length : Int) ≤ (roF p b).v ((roF p b).best (mostF p b).toNat : Nat) := fun hz => by
          by_cases k2 : (!(decide (0 ≤ q) && decide (q ≤ 3))) = true
          · rw [gridF, if_pos c, if_neg k, if_pos k2] at hz; cases hz
          · have eg : gridF p b q = rowsAll p b q (colsF p b q) (linesF p b q) 0 0 := by rw [gridF, if_pos c, if_neg k, if_neg k2]
            rw [eg] at hz ⊢
            obtain ⟨g1, g2⟩ := rowsAll_ok hz
            have c0 := cols_b (q := q) o hk
            have l0 := lines_b (q := q) o hk
            have gl := rowsAll_len (p := p) (b := b) (q := q) c0.1 (show (0 : Int) ≤ 0 by omega) l0.1 (show (0 : Int) ≤ 0 by omega)
            rw [g2]
            simp only [withS]
            rw [gl]
            (simp only [Bool.or_eq_true, Bool.and_eq_true, Bool.not_eq_true', Bool.not_eq_true, Bool.not_eq_false', Bool.not_eq_false, Bool.or_eq_false_iff, Bool.and_eq_false_iff, decide_eq_true_eq, decide_eq_false_iff_not, Bool.not_not, beq_iff_eq, bne_iff_ne] at k2)
            have hs : (sizeF (boardF p b) q = sizeF (boardF p b) 0) ∨ (sizeF (boardF p b) q = sizeF (boardF p b) 1) := by
              rcases (by omega : q = 0 ∨ q = 1 ∨ q = 2 ∨ q = 3) with rfl | rfl | rfl | rfl
              · exact .inl rfl
              · exact .inr rfl
              · exact .inl (by simp [sizeF])
              · exact .inr (by simp [sizeF])
            rcases hs with e | e
            · have e1 : colsF p b q = colsF p b 0 := by rw [colsF, e, colsF]
              have e2 : linesF p b q = mostF p b := by rw [mostF, linesF, linesF, e1, e]
              have h5 := (hB2 (mostF p b).toNat (Nat.le_refl _)).1
              have h6 := (hr.v (n := mostF p b) bM.1 bM.2)
              have h7 : (roF p b).v (mostF p b) = mostF p b * colsF p b 0 + (roF p b).b (mostF p b) * (roF p b).T := rfl
              rw [e1, e2]
              rw [show (((mostF p b).toNat : Nat) : Int) = mostF p b by omega] at h5
              omega
            · have e1 : colsF p b q = colsF p b 1 := by rw [colsF, e, colsF]
              have h5 := (hB2 0 (Nat.zero_le _)).1
              have h7 : (roF p b).v ((0 : Nat) : Int) = ((0 : Nat) : Int) * (roF p b).A + (roF p b).b ((0 : Nat) : Int) * colsF p b 1 := rfl
              have e2 : linesF p b q = (roF p b).b ((0 : Nat) : Int) := by
                rw [linesF, e1, e, size1]
                have := b1.1
                by_cases z : colsF p b 1 = 0
                · rw [if_pos z, Ro.b, if_neg]; change ¬ 0 < colsF p b 1; omega
                · rw [if_neg z, Ro.b, if_pos (show 0 < (roF p b).T by change 0 < colsF p b 1; omega)]; simp [roF]
              rw [e1, e2]
              simp only [Int.natCast_zero, Int.zero_mul] at h7 h5 ⊢
              omega
        have hc : (decide ((0 : Int) = 0) && (!decide ((gridF p b q).2 = 0) || decide (((gridF p b q).1.Slots.length : Int) ≤ ((withS p (rowsUp p b (boardF p b) 0 (colsF p b 0) ((roF p b).best (mostF p b).toNat : Nat) (colsF p b 1) (((roF p b).best (mostF p b).toNat : Nat) + (roF p b).b ((roF p b).best (mostF p b).toNat : Nat)).toNat).2).Slots.length : Int)))) = true := by
          simp only [decide_true, Bool.true_and, Bool.or_eq_true, Bool.not_eq_true', decide_eq_false_iff_not, decide_eq_true_eq]
          by_cases z : (gridF p b q).2 = 0
          · right; simp only [withS]; rw [hlen]; exact key z
          · left; exact z
        rw [hc, if_pos rfl]
        exact ok_then (o_law9_awake (ok_some rfl))
    · rw [rowsBF, if_neg c] at h; exact (c h).elim
  · have e : (rowsBF p b).1 = {} := by
      rw [rowsBF] at h ⊢
      by_cases c : checkF p = 0
      · rw [if_pos c] at h ⊢
        by_cases k : kindF p b < 0
        · rw [if_pos k]
        · rw [if_neg k] at h ⊢; exact rowsAll_no h
      · rw [if_neg c]
    rw [e]
    refine ok_then ?_
    refine ok_if (fun _ => o_law9_awake (ok_some rfl)) (fun c3 => absurd rfl c3)
theorem row_PanelRowsAreMost (a0 : TPanel) (a1 : ByteArray) (a2 : Int) (h0 : okTPanel a0) (h1 : a1.size < 281474976710656) (h2 : -9223372036854775808 ≤ a2 ∧ a2 ≤ 9223372036854775807) : p_law9_PanelRowsAreMost a0 a1 a2 = some true := law_PanelRowsAreMost (fits_of h0)
end Go.Nw
