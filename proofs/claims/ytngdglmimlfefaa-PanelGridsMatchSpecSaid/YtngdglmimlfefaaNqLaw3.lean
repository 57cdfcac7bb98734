/- NqLaw3: a part of the proof. -/
import Derived.Test.YtngdglmimlfefaaNqTabs
set_option linter.unusedVariables false
set_option linter.unusedSimpArgs false
set_option maxRecDepth 100000
namespace Go.Nw
theorem list_ext {α : Type} {a b : List α} {d : α} (hl : a.length = b.length) (h : ∀ i < a.length, a.getD i d = b.getD i d) : a = b := by
  refine List.ext_getElem hl fun i h1 h2 => ?_
  have := h i h1
  simpa [List.getD, List.getElem?_eq_getElem h1, List.getElem?_eq_getElem h2] using this
theorem t_slices_Equal_Point {a b : List TPoint} (ha : a.length < 281474976710656) : p_slices_Equal_Point a b = some (decide (a = b)) := by
  apply ok_val
  unfold p_slices_Equal_Point
  (try dsimp only); (repeat' (first | (with_reducible apply ok_guard; case h => (first | assumption | omega | (simp; done) | (simp; omega) | (and_intros <;> first | omega | (intro _; omega)) | (simp only [Bool.or_eq_true, Bool.and_eq_true, Bool.not_eq_true', Bool.not_eq_true, Bool.not_eq_false', Bool.not_eq_false, Bool.or_eq_false_iff, Bool.and_eq_false_iff, decide_eq_true_eq, decide_eq_false_iff_not, Bool.not_not, beq_iff_eq, bne_iff_ne] at *; omega))) | (with_reducible apply ok_guard) | (with_reducible apply ok_if <;> intro _) | (with_reducible apply ok_some) | (with_reducible apply ok_esc) | (with_reducible apply ok_then))); (all_goals try dsimp only); (all_goals try (exfalso; omega))
  · rename_i c
    refine ok_for a.length (fun i _ => ∀ j < i, a.getD j default = b.getD j default) (by intro j h; omega) ?_ ?_
    · intro i x hi hI
      simp only [Int.toNat_natCast]
      (try dsimp only); (repeat' (first | (with_reducible apply ok_guard; case h => (first | assumption | omega | (simp; done) | (simp; omega) | (and_intros <;> first | omega | (intro _; omega)) | (simp only [Bool.or_eq_true, Bool.and_eq_true, Bool.not_eq_true', Bool.not_eq_true, Bool.not_eq_false', Bool.not_eq_false, Bool.or_eq_false_iff, Bool.and_eq_false_iff, decide_eq_true_eq, decide_eq_false_iff_not, Bool.not_not, beq_iff_eq, bne_iff_ne] at *; omega))) | (with_reducible apply ok_guard) | (with_reducible apply ok_if <;> intro _) | (with_reducible apply ok_some) | (with_reducible apply ok_esc) | (with_reducible apply ok_then))); (all_goals try dsimp only); (all_goals try (exfalso; omega))
      · rename_i h; exact ⟨rfl, all_lt hI h⟩
      · rename_i h
        have : a ≠ b := fun e => h (by rw [e])
        simp [this]
    · intro x hI
      (try dsimp only); (repeat' (first | (with_reducible apply ok_guard; case h => (first | assumption | omega | (simp; done) | (simp; omega) | (and_intros <;> first | omega | (intro _; omega)) | (simp only [Bool.or_eq_true, Bool.and_eq_true, Bool.not_eq_true', Bool.not_eq_true, Bool.not_eq_false', Bool.not_eq_false, Bool.or_eq_false_iff, Bool.and_eq_false_iff, decide_eq_true_eq, decide_eq_false_iff_not, Bool.not_not, beq_iff_eq, bne_iff_ne] at *; omega))) | (with_reducible apply ok_guard) | (with_reducible apply ok_if <;> intro _) | (with_reducible apply ok_some) | (with_reducible apply ok_esc) | (with_reducible apply ok_then))); (all_goals try dsimp only); (all_goals try (exfalso; omega))
      have : a = b := list_ext (by omega) hI
      simp [this]
  · rename_i c
    have : a ≠ b := fun e => c (by rw [e])
    simp [this]
theorem o_slices_Equal_Point {a b : List TPoint} (ha : a.length < 281474976710656) {Q_ : _ → Prop} (k_ : Q_ (decide (a = b))) : Ok (p_slices_Equal_Point a b) Q_ := ok_of (t_slices_Equal_Point ha) k_
theorem s_slices_Equal_Point {β : Type} {cc_ : Prop} {d_ : Decidable cc_} {a b : List TPoint} (ha : cc_ → (a.length < 281474976710656)) {e_ : _} {f_ : _ → Option β} {Q_ : β → Prop} (hd : ¬ cc_ → f_ e_ = f_ (decide (a = b))) (k_ : Ok (f_ (decide (a = b))) Q_) : Ok (Option.bind (@ite _ cc_ d_ (p_slices_Equal_Point a b) (some e_)) f_) Q_ := ok_short (fun hc__ => t_slices_Equal_Point (ha hc__)) hd k_
theorem len_tabs {c : TRect} {most : Int} (h : Dims c) (h3 : 1 ≤ most) (h4 : most ≤ 1000000) : (tabsUp c most 4).length ≤ 8000000 ∧ 4 ≤ (tabsUp c most 4).length := by
  have := len_tabsUp h h3 h4 4
  have p0 := parF_b (h.side ((0 : Nat) : Int)).1 (h.side ((0 : Nat) : Int)).2 h3 h4
  have p1 := parF_b (h.side ((1 : Nat) : Int)).1 (h.side ((1 : Nat) : Int)).2 h3 h4
  have p2 := parF_b (h.side ((2 : Nat) : Int)).1 (h.side ((2 : Nat) : Int)).2 h3 h4
  have p3 := parF_b (h.side ((3 : Nat) : Int)).1 (h.side ((3 : Nat) : Int)).2 h3 h4
  simp only [tabsUp, tabsN, List.length_append, List.length_map, List.length_range, List.length_nil] at this ⊢
  omega
theorem tabs_ok {p : TPanel} {slot most : Int} (h : (tabsF p slot most).2 = 0) : checkF p = 0 ∧ 0 ≤ slot ∧ slot < p.Slots.length ∧ 1 ≤ most ∧ most ≤ 1000000 ∧ (tabsF p slot most).1 = tabsUp (cellF p (slotD p slot.toNat)) most 4 := by
  rw [tabsF] at h ⊢
  by_cases c : checkF p = 0
  · rw [if_pos c] at h ⊢
    split at h
    · cases h
    · rename_i c2
      rw [if_neg c2]
      split at h
      · cases h
      · rename_i c3
        rw [if_neg c3]
        split at h
        · cases h
        · rename_i c4
          rw [if_neg c4]
          (simp only [Bool.or_eq_true, Bool.and_eq_true, Bool.not_eq_true', Bool.not_eq_true, Bool.not_eq_false', Bool.not_eq_false, Bool.or_eq_false_iff, Bool.and_eq_false_iff, decide_eq_true_eq, decide_eq_false_iff_not, Bool.not_not, beq_iff_eq, bne_iff_ne] at c2 c3)
          exact ⟨c, by omega, by omega, by omega, by omega, rfl⟩
  · rw [if_neg c] at h; exact (c h).elim
theorem tabs_no {p : TPanel} {slot most : Int} (h : ¬ (tabsF p slot most).2 = 0) : (tabsF p slot most).1 = [] := by
  rw [tabsF] at h ⊢
  by_cases c : checkF p = 0
  · rw [if_pos c] at h ⊢
    split
    · rfl
    · split
      · rfl
      · split
        · rfl
        · rename_i c2 c3 c4
          rw [if_neg c2, if_neg c3, if_neg c4] at h; exact (h rfl).elim
  · rw [if_neg c]
theorem tabs_len {p : TPanel} {slot most : Int} : (tabsF p slot most).1.length ≤ 8000000 := by
  by_cases c : (tabsF p slot most).2 = 0
  · obtain ⟨h1, h2, h3, h4, h5, h6⟩ := tabs_ok c
    rw [h6]
    exact (len_tabs ((good_of h1).dims (by omega)) h4 h5).1
  · rw [tabs_no c]; exact Nat.zero_le _
theorem law_TabsMatchSpec {p : TPanel} {i m : Int} (f : Fits p) : p_law9_TabsMatchSpec p i m = some true := by
  have hl := tabs_len (p := p) (slot := i) (most := m)
  apply ok_val
  unfold p_law9_TabsMatchSpec
  refine ok_then (o_panel_Tabs f (ok_then (o_ref9_Tabs f (ok_then (o_slices_Equal_Point (by omega) ?_)))))
  rw [if_pos (by simp)]
  refine ok_then (o_law9_awake (ok_some ?_))
  simp
theorem row_TabsMatchSpec (a0 : TPanel) (a1 a2 : Int) (h0 : okTPanel a0) (h1 : -9223372036854775808 ≤ a1 ∧ a1 ≤ 9223372036854775807) (h2 : -9223372036854775808 ≤ a2 ∧ a2 ≤ 9223372036854775807) : p_law9_TabsMatchSpec a0 a1 a2 = some true := law_TabsMatchSpec (fits_of h0)
theorem tab_border {r : TRect} {most : Int} (h : Dims r) (h3 : 1 ≤ most) (h4 : most ≤ 1000000) {i : Nat} (hi : i < 4) {k : Nat} (hk : k < (parF (sideLen r i) most - 1).toNat) :
    ((tabAt r most i k).X = r.X0 ∨ (tabAt r most i k).X = r.X1) ∧ r.Y0 ≤ (tabAt r most i k).Y ∧ (tabAt r most i k).Y ≤ r.Y1 ∨ ((tabAt r most i k).Y = r.Y0 ∨ (tabAt r most i k).Y = r.Y1) ∧ r.X0 ≤ (tabAt r most i k).X ∧ (tabAt r most i k).X ≤ r.X1 := by
  have hsd := h.side i
  have hp := parF_b hsd.1 hsd.2 h3 h4
  obtain ⟨_, d1, d2⟩ := tab_d hsd.1 hsd.2 hp.1 hp.2 hk
  obtain ⟨_, w1, w2, w3, w4⟩ := h
  have hsl : (i = 0 ∨ i = 2 → sideLen r i = r.X1 - r.X0) ∧ (i = 1 ∨ i = 3 → sideLen r i = r.Y1 - r.Y0) := by
    rcases side4 hi with rfl | rfl | rfl | rfl <;> simp [sideLen]
  simp only [tabAt]
  generalize (sideLen r i * ((k : Int) + 1)).tdiv (parF (sideLen r i) most) = d at *
  rcases side4 hi with rfl | rfl | rfl | rfl
  · have e := hsl.1 (by simp); simp [tabPt, crn, dxF, dyF]; omega
  · have e := hsl.2 (by simp); simp [tabPt, crn, dxF, dyF]; omega
  · have e := hsl.1 (by simp); simp [tabPt, crn, dxF, dyF]; omega
  · have e := hsl.2 (by simp); simp [tabPt, crn, dxF, dyF]; omega
theorem mem_tabs {r : TRect} {most : Int} {q : TPoint} : ∀ n, n ≤ 4 → q ∈ tabsUp r most n → ∃ i k, i < 4 ∧ k < (parF (sideLen r (i : Nat)) most - 1).toNat ∧ q = tabAt r most i k
  | 0, _, h => by simp [tabsUp] at h
  | n + 1, hn, h => by
    simp only [tabsUp, List.mem_append] at h
    rcases h with h | h
    · exact mem_tabs n (by omega) h
    · simp only [tabsN, List.mem_map, List.mem_range] at h
      obtain ⟨k, hk, rfl⟩ := h
      exact ⟨n, k, by omega, hk, rfl⟩
theorem law_TabsHold {p : TPanel} {i m : Int} (f : Fits p) : p_law9_TabsHold p i m = some true := by
  have hl := tabs_len (p := p) (slot := i) (most := m)
  apply ok_val
  unfold p_law9_TabsHold
  refine ok_then (o_panel_Tabs f (ok_if (fun c => ?_) (fun c => ?_)))
  · obtain ⟨h1, h2, h3, h4, h5, h6⟩ := tabs_ok c
    have g := good_of h1
    have hi : i.toNat < p.Slots.length := by omega
    have hd := g.dims hi
    have hn := (len_tabs hd h4 h5).2
    rw [h6] at hl ⊢
    refine ok_then (o_panel_Cells f ?_)
    have eo : openF p = (p.Slots.map (cellF p), 0) := by rw [openF, h1, if_pos rfl]
    rw [eo]
    dsimp only
    rw [getD_map (cellF p) p.Slots i.toNat default default hi, List.length_map]
    refine ok_if (fun c2 => ?_) (fun c2 => ?_)
    · simp at c2; exfalso; omega
    · refine ok_esc ?_
      have hb : ∀ k < (tabsUp (cellF p (slotD p i.toNat)) m 4).length, _ := fun k hk => (mem_tabs 4 (by omega) (getD_mem (d := default) hk))
      change Ok (loopO _ (0, false)) _
      refine ok_for (tabsUp (cellF p (slotD p i.toNat)) m 4).length (fun _ _ => True) trivial ?_ ?_
      · intro k x hk _
        obtain ⟨s, n, hs, hn', e⟩ := hb k hk
        have hbd := tab_border hd h4 h5 hs hn'
        rw [← e] at hbd
        simp only [Int.toNat_natCast]
        (try dsimp only); (repeat' (first | (with_reducible apply ok_guard; case h => (first | assumption | omega | (simp; done) | (simp; omega) | (and_intros <;> first | omega | (intro _; omega)) | (simp only [Bool.or_eq_true, Bool.and_eq_true, Bool.not_eq_true', Bool.not_eq_true, Bool.not_eq_false', Bool.not_eq_false, Bool.or_eq_false_iff, Bool.and_eq_false_iff, decide_eq_true_eq, decide_eq_false_iff_not, Bool.not_not, beq_iff_eq, bne_iff_ne] at *; omega))) | (with_reducible apply ok_guard) | (with_reducible apply ok_if <;> intro _) | (with_reducible apply ok_some) | (with_reducible apply ok_esc) | (with_reducible apply ok_then))); (all_goals try dsimp only); (all_goals try (exfalso; omega))
        · rename_i c3
          exfalso
          (simp only [Bool.or_eq_true, Bool.and_eq_true, Bool.not_eq_true', Bool.not_eq_true, Bool.not_eq_false', Bool.not_eq_false, Bool.or_eq_false_iff, Bool.and_eq_false_iff, decide_eq_true_eq, decide_eq_false_iff_not, Bool.not_not, beq_iff_eq, bne_iff_ne] at c3)
          simp only [slotD] at hbd c3
          omega
        · exact ⟨rfl, trivial⟩
      · intro x _
        (try dsimp only); (repeat' (first | (with_reducible apply ok_guard; case h => (first | assumption | omega | (simp; done) | (simp; omega) | (and_intros <;> first | omega | (intro _; omega)) | (simp only [Bool.or_eq_true, Bool.and_eq_true, Bool.not_eq_true', Bool.not_eq_true, Bool.not_eq_false', Bool.not_eq_false, Bool.or_eq_false_iff, Bool.and_eq_false_iff, decide_eq_true_eq, decide_eq_false_iff_not, Bool.not_not, beq_iff_eq, bne_iff_ne] at *; omega))) | (with_reducible apply ok_guard) | (with_reducible apply ok_if <;> intro _) | (with_reducible apply ok_some) | (with_reducible apply ok_esc) | (with_reducible apply ok_then))); (all_goals try dsimp only); (all_goals try (exfalso; omega))
        refine o_law9_awake ?_
        (try dsimp only); (repeat' (first | (with_reducible apply ok_guard; case h => (first | assumption | omega | (simp; done) | (simp; omega) | (and_intros <;> first | omega | (intro _; omega)) | (simp only [Bool.or_eq_true, Bool.and_eq_true, Bool.not_eq_true', Bool.not_eq_true, Bool.not_eq_false', Bool.not_eq_false, Bool.or_eq_false_iff, Bool.and_eq_false_iff, decide_eq_true_eq, decide_eq_false_iff_not, Bool.not_not, beq_iff_eq, bne_iff_ne] at *; omega))) | (with_reducible apply ok_guard) | (with_reducible apply ok_if <;> intro _) | (with_reducible apply ok_some) | (with_reducible apply ok_esc) | (with_reducible apply ok_then))); (all_goals try dsimp only); (all_goals try (exfalso; omega))
  · have e := tabs_no c
    rw [e]
    refine ok_then ?_
    refine ok_if (fun c3 => ?_) (fun c3 => absurd rfl c3)
    refine o_law9_awake (ok_some rfl)
theorem row_TabsHold (a0 : TPanel) (a1 a2 : Int) (h0 : okTPanel a0) (h1 : -9223372036854775808 ≤ a1 ∧ a1 ≤ 9223372036854775807) (h2 : -9223372036854775808 ≤ a2 ∧ a2 ≤ 9223372036854775807) : p_law9_TabsHold a0 a1 a2 = some true := law_TabsHold (fits_of h0)
end Go.Nw
