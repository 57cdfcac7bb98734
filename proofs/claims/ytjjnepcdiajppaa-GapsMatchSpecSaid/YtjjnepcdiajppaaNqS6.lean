/- NqS6: a part of the proof. -/
import Derived.Test.YtjjnepcdiajppaaNqS5
set_option linter.unusedVariables false
set_option linter.unusedSimpArgs false
set_option maxRecDepth 100000
namespace Go.Nw
theorem o_slices_Sort_int_o {l : List Int} (hl : l.length < 1000000000000) {Q : List Int → Prop} (k : Q (sortI l)) : Ok (p_slices_Sort_int_o l) Q := by
  unfold p_slices_Sort_int_o
  exact ok_of (if_pos (by omega)) k
theorem sortI_sorted (l : List Int) : (sortI l).Pairwise (· ≤ ·) := by
  have := List.pairwise_mergeSort (le := fun a b : Int => decide (a ≤ b)) (fun a b c h1 h2 => by simp at *; omega) (fun a b => by simp; omega) l
  exact this.imp fun h => by simpa using h
theorem sortI_mem {l : List Int} {a : Int} : a ∈ sortI l ↔ a ∈ l := by simp [sortI]
def hts (l : List TRect) : List Int := l.flatMap fun r => [r.Y0, r.Y1]
theorem mem_hts {l : List TRect} {a : Int} : a ∈ hts l ↔ ∃ r ∈ l, a = r.Y0 ∨ a = r.Y1 := by simp [hts]
theorem hts_len (l : List TRect) : (hts l).length = 2 * l.length := by
  induction l with
  | nil => rfl
  | cons a l ih => simp only [hts, List.flatMap_cons, List.length_append, List.length_cons, List.length_nil] at ih ⊢; omega
theorem hts_snoc (l : List TRect) (r : TRect) : hts (l ++ [r]) = hts l ++ [r.Y0, r.Y1] := by simp [hts]
theorem t_shape_SetOf {l : List TRect} (hl : l.length < 1000000) (hr : ∀ r ∈ l, ROk r) : p_shape_SetOf l = some ((setB (cov l)).map ofBd) := by
  apply ok_val
  unfold p_shape_SetOf
  refine ok_then (o_slices_Clone_Rect_o (by omega) ?_)
  refine ok_then (sortBy (fun r => r.Y0) (fun x y hx hy => ?_) (fun x hx => (hr x hx).bdd) (by omega) fun x1 hp hs => ?_)
  · unfold p_shape_SetOf_1
    simp only [Bdd_TRect] at hx hy
    rw [if_pos (by omega)]
  have hlen := hp.length_eq
  have hmem : ∀ q, q ∈ x1 ↔ q ∈ l := fun q => hp.mem_iff
  refine ok_then ?_
  refine ok_for l.length (fun i e => e = hts (x1.take i)) (by simp [hts]) ?_ ?_
  · rintro i e hi rfl
    have h1 : (hts (x1.take i)).length ≤ 2 * i := by rw [hts_len, List.length_take]; omega
    simp only [Int.toNat_natCast]
    (try dsimp only); (repeat' (first | (with_reducible apply ok_guard; case h => (first | assumption | omega | (simp; done) | (simp; omega) | (and_intros <;> first | omega | (intro _; omega)) | (simp only [Bool.or_eq_true, Bool.and_eq_true, Bool.not_eq_true', Bool.not_eq_true, Bool.not_eq_false', Bool.not_eq_false, Bool.or_eq_false_iff, Bool.and_eq_false_iff, decide_eq_true_eq, decide_eq_false_iff_not, Bool.not_not, beq_iff_eq, bne_iff_ne] at *; omega))) | (with_reducible apply ok_guard) | (with_reducible apply ok_if <;> intro _) | (with_reducible apply ok_some) | (with_reducible apply ok_esc) | (with_reducible apply ok_then))); (all_goals try dsimp only); (all_goals try (exfalso; omega))
    exact ⟨by simp, by rw [take_snoc (d := default) (by omega), hts_snoc]⟩
  rintro e rfl
  (try dsimp only); (repeat' (first | (with_reducible apply ok_guard; case h => (first | assumption | omega | (simp; done) | (simp; omega) | (and_intros <;> first | omega | (intro _; omega)) | (simp only [Bool.or_eq_true, Bool.and_eq_true, Bool.not_eq_true', Bool.not_eq_true, Bool.not_eq_false', Bool.not_eq_false, Bool.or_eq_false_iff, Bool.and_eq_false_iff, decide_eq_true_eq, decide_eq_false_iff_not, Bool.not_not, beq_iff_eq, bne_iff_ne] at *; omega))) | (with_reducible apply ok_guard) | (with_reducible apply ok_if <;> intro _) | (with_reducible apply ok_some) | (with_reducible apply ok_esc) | (with_reducible apply ok_then))); (all_goals try dsimp only); (all_goals try (exfalso; omega))
  rw [show l.length = x1.length by omega, List.take_length]
  have h2 : (hts x1).length = 2 * l.length := by rw [hts_len]; omega
  refine o_slices_Sort_int_o (by omega) ?_
  have h3 : (sortI (hts x1)).length = 2 * l.length := by rw [sortI_len]; exact h2
  rw [if_pos (by rw [h3, h2])]
  refine ok_then (o_slices_Compact_int_o (by omega) (sortI_sorted _) fun ys hu hm hyl => ?_)
  have H : Hts l ys := ⟨hu, fun a => by
    rw [hm, sortI_mem, mem_hts]
    constructor
    · rintro ⟨r, h, h'⟩; exact ⟨r, (hmem r).1 h, h'⟩
    · rintro ⟨r, h, h'⟩; exact ⟨r, (hmem r).2 h, h'⟩⟩
  rw [H.setB (fun r h => (hr r h).xx) (fun r h => (hr r h).yy)]
  have hyl' : ys.length ≤ 2 * l.length := by omega
  refine ok_then ?_
  refine ok_loop (fun s : Int × List TRect × List TShapeBand × Int => ∃ n k : Nat, s.1 = n ∧ s.2.2.2 = k ∧ n ≤ l.length ∧ (k + 1 ≤ ys.length ∨ k = 0) ∧ s.2.1.length ≤ n ∧ (∀ r ∈ s.2.1, r ∈ x1.take n) ∧ (∀ r ∈ x1.take n, (k = 0 ∨ ys.getD (k - 1) 0 < r.Y1) → r ∈ s.2.1) ∧
      (k = 0 → n = 0) ∧ (∀ j, n ≤ j → j < x1.length → k = 0 ∨ ys.getD (k - 1) 0 < (x1.getD j default).Y0) ∧ (∀ j < n, (x1.getD j default).Y0 ≤ ys.getD (k - 1) 0) ∧ s.2.2.1 = (stripsB (rowF l) [] (ys.take (k + 1))).map ofBd) (fun s => ys.length - s.2.2.2.toNat)
    ⟨0, 0, rfl, rfl, by omega, .inr rfl, by simp, by simp, by simp, by simp, by simp, by simp, ?_⟩ ?_
  · match ys with
    | [] => rfl
    | [a] => rfl
    | a :: b :: m => rfl
  · rintro ⟨s1, now, out, s4⟩ ⟨n, k, e1, e2, hn, hk, hnl, hA, hB, hk0, hC, hD, hout⟩
    simp only at e1 e2 hnl hA hB hout
    subst e1 e2 hout
    simp only [Int.toNat_natCast]
    (try dsimp only); (repeat' (first | (with_reducible apply ok_guard; case h => (first | assumption | omega | (simp; done) | (simp; omega) | (and_intros <;> first | omega | (intro _; omega)) | (simp only [Bool.or_eq_true, Bool.and_eq_true, Bool.not_eq_true', Bool.not_eq_true, Bool.not_eq_false', Bool.not_eq_false, Bool.or_eq_false_iff, Bool.and_eq_false_iff, decide_eq_true_eq, decide_eq_false_iff_not, Bool.not_not, beq_iff_eq, bne_iff_ne] at *; omega))) | (with_reducible apply ok_guard) | (with_reducible apply ok_if <;> intro _) | (with_reducible apply ok_some) | (with_reducible apply ok_esc) | (with_reducible apply ok_then))); (all_goals try dsimp only); (all_goals try (exfalso; omega))
    · have hk1 : k + 1 < ys.length := by omega
      obtain ⟨Y, hY⟩ : ∃ Y, Y = ys.getD k 0 := ⟨_, rfl⟩
      have hYm : Y ∈ ys := by rw [hY]; exact mem_getD (by omega)
      have hprev : k = 0 ∨ ys.getD (k - 1) 0 < Y := by
        by_cases c : k = 0
        · exact .inl c
        · right
          rw [hY, getD_in (show k - 1 < ys.length by omega), getD_in (show k < ys.length by omega)]
          exact List.pairwise_iff_getElem.1 hu (k - 1) k _ _ (by omega)
      have hcons : ∀ a ∈ ys, (k = 0 ∨ ys.getD (k - 1) 0 < a) → Y ≤ a := fun a ha h => by
        obtain ⟨j, hj, rfl⟩ := List.getElem_of_mem ha
        have hjk : k ≤ j := by
          rcases h with h | h
          · omega
          · rw [getD_in (show k - 1 < ys.length by omega)] at h
            apply Classical.byContradiction
            intro hc
            by_cases e : j = k - 1
            · subst e; omega
            · have := List.pairwise_iff_getElem.1 hu j (k - 1) hj (by omega) (by omega); omega
        rw [hY, getD_in (show k < ys.length by omega)]
        by_cases e : k = j
        · subst e; exact Int.le_refl _
        · exact Int.le_of_lt (List.pairwise_iff_getElem.1 hu k j _ hj (by omega))
      have hx1 : ∀ j, j < x1.length → x1.getD j default ∈ l := fun j hj => (hmem _).1 (mem_getD hj)
      have hx1t : ∀ r q, r ∈ x1.take q → ∃ j, j < q ∧ j < x1.length ∧ r = x1.getD j default := fun r q h => by
        obtain ⟨j, hj, rfl⟩ := List.getElem_of_mem h
        have hj1 : j < q ∧ j < x1.length := by simp at hj; omega
        exact ⟨j, hj1.1, hj1.2, by rw [getD_in hj1.2]; simp⟩
      have ht1 : ∀ q j, j < q → j < x1.length → x1.getD j default ∈ x1.take q := fun q j h1 h2 => by
        rw [getD_in h2]
        exact List.mem_take_iff_getElem.2 ⟨j, by omega, rfl⟩
      refine o_slices_DeleteFunc_Rect_o (g := fun r => decide (r.Y1 ≤ Y)) (by omega) (fun r hr' => ?_) ?_
      · show p_shape_SetOf_2 r ys k = _
        unfold p_shape_SetOf_2
        rw [if_pos ⟨by omega, by omega⟩, hY]
        simp
      obtain ⟨now0, hnow0⟩ : ∃ m, m = now.filter fun r => !decide (r.Y1 ≤ Y) := ⟨_, rfl⟩
      have hm0 : ∀ r, r ∈ now0 ↔ r ∈ now ∧ Y < r.Y1 := fun r => by rw [hnow0, List.mem_filter]; simp
      have hl0 : now0.length ≤ n := by
        have := List.length_filter_le (fun r => !decide (r.Y1 ≤ Y)) now
        rw [← hnow0] at this; omega
      rw [← hnow0]
      (try dsimp only); (repeat' (first | (with_reducible apply ok_guard; case h => (first | assumption | omega | (simp; done) | (simp; omega) | (and_intros <;> first | omega | (intro _; omega)) | (simp only [Bool.or_eq_true, Bool.and_eq_true, Bool.not_eq_true', Bool.not_eq_true, Bool.not_eq_false', Bool.not_eq_false, Bool.or_eq_false_iff, Bool.and_eq_false_iff, decide_eq_true_eq, decide_eq_false_iff_not, Bool.not_not, beq_iff_eq, bne_iff_ne] at *; omega))) | (with_reducible apply ok_guard) | (with_reducible apply ok_if <;> intro _) | (with_reducible apply ok_some) | (with_reducible apply ok_esc) | (with_reducible apply ok_then))); (all_goals try dsimp only); (all_goals try (exfalso; omega))
      refine ok_loop (fun st : Int × List TRect => ∃ q : Nat, st.1 = q ∧ n ≤ q ∧ q ≤ x1.length ∧ (∀ j < q, (x1.getD j default).Y0 ≤ Y) ∧ st.2.length ≤ q ∧ (∀ r ∈ st.2, r ∈ now0 ∨ ∃ j, n ≤ j ∧ j < q ∧ r = x1.getD j default) ∧ (∀ r ∈ now0, r ∈ st.2) ∧ ∀ j, n ≤ j → j < q → x1.getD j default ∈ st.2) (fun st : Int × List TRect => x1.length - st.1.toNat)
        ⟨n, rfl, Nat.le_refl _, by omega, fun j hj => ?_, hl0, fun r h => .inl h, fun r h => h, fun j h1 h2 => by omega⟩ ?_
      · have := hD j hj
        rcases hprev with h | h
        · have := hk0 h; omega
        · omega
      rintro ⟨q', nw⟩ ⟨q, e1, hq1, hq2, hq3, hq4, hq5, hq6, hq7⟩
      simp only at e1 hq4 hq5 hq6 hq7
      subst e1
      simp only [Int.toNat_natCast, ← hY]
      (try dsimp only); (repeat' (first | (with_reducible apply ok_guard; case h => (first | assumption | omega | (simp; done) | (simp; omega) | (and_intros <;> first | omega | (intro _; omega)) | (simp only [Bool.or_eq_true, Bool.and_eq_true, Bool.not_eq_true', Bool.not_eq_true, Bool.not_eq_false', Bool.not_eq_false, Bool.or_eq_false_iff, Bool.and_eq_false_iff, decide_eq_true_eq, decide_eq_false_iff_not, Bool.not_not, beq_iff_eq, bne_iff_ne] at *; omega))) | (with_reducible apply ok_guard) | (with_reducible apply ok_if <;> intro _) | (with_reducible apply ok_some) | (with_reducible apply ok_esc) | (with_reducible apply ok_then))); (all_goals try dsimp only); (all_goals try (exfalso; omega))
      · rename_i hc
        simp only [Bool.and_eq_true, decide_eq_true_eq] at hc
        have hq : q < x1.length := by omega
        refine ⟨⟨q + 1, by simp, by omega, by omega, fun j hj => ?_, by simp; omega, fun r h => ?_, fun r h => by simp [hq6 r h], fun j h1 h2 => ?_⟩, by simp; omega⟩
        · by_cases e : j = q
          · rw [e]; exact hc.2
          · exact hq3 j (by omega)
        · rcases List.mem_append.1 h with h | h
          · rcases hq5 r h with h | ⟨j, h1, h2, h3⟩
            · exact .inl h
            · exact .inr ⟨j, h1, by omega, h3⟩
          · simp only [List.mem_singleton] at h
            exact .inr ⟨q, hq1, by omega, h⟩
        · by_cases e : j = q
          · simp [e]
          · exact List.mem_append_left _ (hq7 j h1 (by omega))
      · rename_i hc
        have hend : ∀ j, q ≤ j → j < x1.length → Y < (x1.getD j default).Y0 := fun j h1 h2 => by
          have h3 : q < x1.length := by omega
          have h4 : Y < (x1.getD q default).Y0 := by
            have : ¬ (x1.getD q default).Y0 ≤ Y := fun h => hc (by simp only [Bool.and_eq_true, decide_eq_true_eq]; exact ⟨by omega, h⟩)
            omega
          by_cases e : q = j
          · rw [← e]; exact h4
          · have := List.pairwise_iff_getElem.1 hs q j h3 h2 (by omega)
            rw [getD_in h3] at h4
            rw [getD_in h2]; omega
        have hnwl : ∀ r ∈ nw, r ∈ l ∧ r.Y0 ≤ Y ∧ Y < r.Y1 := fun r h => by
          rcases hq5 r h with h | ⟨j, h1, h2, h3⟩
          · obtain ⟨h1, h2⟩ := (hm0 r).1 h
            obtain ⟨j, h3, h4, rfl⟩ := hx1t r n (hA r h1)
            exact ⟨hx1 j h4, hq3 j (by omega), h2⟩
          · subst h3
            have h4 : j < x1.length := by omega
            have h5 := hcons _ ((H.mem _).2 ⟨_, hx1 j h4, .inl rfl⟩) (hC j h1 h4)
            have h6 := (hr _ (hx1 j h4)).yy
            exact ⟨hx1 j h4, hq3 j h2, by omega⟩
        have hin : ∀ j, j < q → Y < (x1.getD j default).Y1 → x1.getD j default ∈ nw := fun j h1 h2 => by
          by_cases c : j < n
          · refine hq6 _ ((hm0 _).2 ⟨hB _ (ht1 n j c (by omega)) ?_, h2⟩)
            rcases hprev with h | h
            · exact .inl h
            · exact .inr (by omega)
          · exact hq7 j (by omega) h1
        have e9 : ((k : Int) + 1).toNat = k + 1 := by omega
        simp only [e9]
        refine o_shape_stretches_o (by omega) (fun r h => hr r (hnwl r h).1) fun xs l' hp' g1 g2 g3 g4 g5 => ?_
        have hrow : rowF l Y = xs := rowF_eq g1 g2 fun x => by
          rw [g3]
          constructor
          · rintro ⟨r, h, h'⟩; exact ⟨r, (hnwl r h).1, h', (hnwl r h).2⟩
          · rintro ⟨r, h, h', h1, h2⟩
            obtain ⟨j, hj, rfl⟩ := List.getElem_of_mem ((hmem r).2 h)
            have hjq : j < q := Classical.byContradiction fun c => by
              have := hend j (by omega) hj
              rw [getD_in hj] at this; omega
            have := hin j hjq (by rw [getD_in hj]; exact h2)
            rw [getD_in hj] at this
            exact ⟨_, this, h'⟩
        have hs1 := stripsB_len (rowF l) (ys.take (k + 1)) []
        have hs2 := stripsB_xs (f := rowF l) (P := fun xs => xs.length < 1000000000000) (ys.take (k + 1)) [] (fun _ h => nomatch h) (fun a _ => by have := (rowF_all (fun r h => (hr r h).xx) a).2.1; omega)
        rw [List.length_take] at hs1
        simp only [List.length_nil] at hs1
        have hpl := hp'.length_eq
        refine ok_then (o_shape_Set_push_o (s := stripsB (rowF l) [] (ys.take (k + 1))) (b := ⟨Y, ys.getD (k + 1) 0, xs⟩) (by omega) hs2 (by simp only; omega) ?_)
        rw [if_pos (by simp only; omega)]
        (try dsimp only); (repeat' (first | (with_reducible apply ok_guard; case h => (first | assumption | omega | (simp; done) | (simp; omega) | (and_intros <;> first | omega | (intro _; omega)) | (simp only [Bool.or_eq_true, Bool.and_eq_true, Bool.not_eq_true', Bool.not_eq_true, Bool.not_eq_false', Bool.not_eq_false, Bool.or_eq_false_iff, Bool.and_eq_false_iff, decide_eq_true_eq, decide_eq_false_iff_not, Bool.not_not, beq_iff_eq, bne_iff_ne] at *; omega))) | (with_reducible apply ok_guard) | (with_reducible apply ok_if <;> intro _) | (with_reducible apply ok_some) | (with_reducible apply ok_esc) | (with_reducible apply ok_then))); (all_goals try dsimp only); (all_goals try (exfalso; omega))
        refine ⟨⟨q, k + 1, rfl, by simp, by omega, .inl (by omega), by omega, fun r h => ?_, fun r h1 h2 => ?_, by omega, fun j h1 h2 => .inr (by rw [show k + 1 - 1 = k by omega, ← hY]; exact hend j h1 h2), fun j h1 => by rw [show k + 1 - 1 = k by omega, ← hY]; exact hq3 j h1, ?_⟩, by simp; omega⟩
        · rcases hq5 r (hp'.mem_iff.1 h) with h | ⟨j, h1, h2, rfl⟩
          · obtain ⟨j, h3, h4, rfl⟩ := hx1t r n (hA r ((hm0 r).1 h).1)
            exact ht1 q j (by omega) h4
          · exact ht1 q j h2 (by omega)
        · rw [show k + 1 - 1 = k by omega, ← hY] at h2
          obtain ⟨j, h3, h4, rfl⟩ := hx1t r q h1
          exact hp'.mem_iff.2 (hin j h3 (h2.resolve_left (by omega)))
        · have t1 : ys.take (k + 1) = ys.take k ++ [Y] := by rw [hY]; exact take_snoc (by omega)
          have t2 : ys.take (k + 1 + 1) = ys.take k ++ [Y, ys.getD (k + 1) 0] := by rw [take_snoc (d := 0) hk1, t1]; simp
          rw [t2, stripsB_snoc, t1, hrow]
    · rw [List.take_of_length_le (by omega)]
theorem o_shape_SetOf {l : List TRect} (hl : l.length < 1000000) (hr : ∀ r ∈ l, ROk r) {Q_ : _ → Prop} (k_ : Q_ ((setB (cov l)).map ofBd)) : Ok (p_shape_SetOf l) Q_ := ok_of (t_shape_SetOf hl hr) k_
theorem s_shape_SetOf {β : Type} {cc_ : Prop} {d_ : Decidable cc_} {l : List TRect} (hl : cc_ → (l.length < 1000000)) (hr : cc_ → (∀ r ∈ l, ROk r)) {e_ : _} {f_ : _ → Option β} {Q_ : β → Prop} (hd : ¬ cc_ → f_ e_ = f_ ((setB (cov l)).map ofBd)) (k_ : Ok (f_ ((setB (cov l)).map ofBd)) Q_) : Ok (Option.bind (@ite _ cc_ d_ (p_shape_SetOf l) (some e_)) f_) Q_ := ok_short (fun hc__ => t_shape_SetOf (hl hc__) (hr hc__)) hd k_
end Go.Nw
