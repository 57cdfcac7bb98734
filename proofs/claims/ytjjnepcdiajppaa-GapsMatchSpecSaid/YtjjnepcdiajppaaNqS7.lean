/- NqS7: a part of the proof. -/
import Derived.Test.YtjjnepcdiajppaaNqS6
set_option linter.unusedVariables false
set_option linter.unusedSimpArgs false
set_option maxRecDepth 100000
namespace Go.Nw
theorem pairsX_get : ∀ {l : List Int} {q : Nat}, 2 * q + 1 < l.length → (pairsX l).take (q + 1) = (pairsX l).take q ++ [(l.getD (2 * q) 0, l.getD (2 * q + 1) 0)]
  | [], q, h => by simp at h
  | [a], q, h => by simp at h
  | a :: b :: l, 0, h => by simp [pairsX]
  | a :: b :: l, q + 1, h => by
    have := pairsX_get (l := l) (q := q) (by simp only [List.length_cons] at h; omega)
    rw [pairsX, List.take_succ_cons, List.take_succ_cons, this, show 2 * (q + 1) = 2 * q + 2 by omega]
    simp
theorem rectsOf_take {s : List Bd} {i : Nat} (h : i < s.length) : rectsOf (s.take (i + 1)) = rectsOf (s.take i) ++ rectsB s[i] := by
  rw [rectsOf, List.take_succ_eq_append_getElem h, List.flatMap_append]; simp [rectsOf]
theorem rectsOf_le {s : List Bd} (i : Nat) : (rectsOf (s.take i)).length ≤ (rectsOf s).length := by
  conv => rhs; rw [← List.take_append_drop i s]
  simp only [rectsOf, List.flatMap_append, List.length_append]; omega
theorem rectsB_len (b : Bd) : (rectsB b).length = b.xs.length / 2 := by rw [rectsB, List.length_map, pairsX_len]
theorem t_shape_Set_Rects {s : List Bd} (hl : s.length < 1000000000000) (he : ∀ b ∈ s, b.xs.length % 2 = 0) (hn : (rectsOf s).length < 1000000000000) : p_shape_Set_Rects (s.map ofBd) = some (rectsOf s) := by
  apply ok_val
  unfold p_shape_Set_Rects
  (try dsimp only); (repeat' (first | (with_reducible apply ok_guard; case h => (first | assumption | omega | (simp; done) | (simp; omega) | (and_intros <;> first | omega | (intro _; omega)) | (simp only [Bool.or_eq_true, Bool.and_eq_true, Bool.not_eq_true', Bool.not_eq_true, Bool.not_eq_false', Bool.not_eq_false, Bool.or_eq_false_iff, Bool.and_eq_false_iff, decide_eq_true_eq, decide_eq_false_iff_not, Bool.not_not, beq_iff_eq, bne_iff_ne] at *; omega))) | (with_reducible apply ok_guard) | (with_reducible apply ok_if <;> intro _) | (with_reducible apply ok_some) | (with_reducible apply ok_esc) | (with_reducible apply ok_then))); (all_goals try dsimp only); (all_goals try (exfalso; omega))
  refine ok_for s.length (fun i out => out = rectsOf (s.take i)) (by simp [rectsOf]) ?_ ?_
  · rintro i out hi rfl
    have h1 := rectsOf_le (s := s) (i + 1)
    rw [rectsOf_take hi, List.length_append, rectsB_len] at h1
    have h2 := he _ (List.getElem_mem hi)
    have e1 : (List.map ofBd s).getD i default = ofBd s[i] := by simp [hi]
    have e2 : (ofBd s[i]).Xs = s[i].xs := rfl
    have e3 : (ofBd s[i]).Y0 = s[i].y0 := rfl
    have e4 : (ofBd s[i]).Y1 = s[i].y1 := rfl
    simp only [Int.toNat_natCast, e1, e2, e3, e4, List.length_map]
    (try dsimp only); (repeat' (first | (with_reducible apply ok_guard; case h => (first | assumption | omega | (simp; done) | (simp; omega) | (and_intros <;> first | omega | (intro _; omega)) | (simp only [Bool.or_eq_true, Bool.and_eq_true, Bool.not_eq_true', Bool.not_eq_true, Bool.not_eq_false', Bool.not_eq_false, Bool.or_eq_false_iff, Bool.and_eq_false_iff, decide_eq_true_eq, decide_eq_false_iff_not, Bool.not_not, beq_iff_eq, bne_iff_ne] at *; omega))) | (with_reducible apply ok_guard) | (with_reducible apply ok_if <;> intro _) | (with_reducible apply ok_some) | (with_reducible apply ok_esc) | (with_reducible apply ok_then))); (all_goals try dsimp only); (all_goals try (exfalso; omega))
    refine ok_loop (fun st : Int × List TRect => ∃ q : Nat, st.1 = 2 * (q : Int) ∧ 2 * q ≤ s[i].xs.length ∧ st.2 = rectsOf (s.take i) ++ ((pairsX s[i].xs).take q).map fun p => { X0 := p.1, Y0 := s[i].y0, X1 := p.2, Y1 := s[i].y1 }) (fun st : Int × List TRect => s[i].xs.length - st.1.toNat)
      ⟨0, rfl, by omega, by simp⟩ ?_
    rintro ⟨j, out⟩ ⟨q, e5, hq, e6⟩
    simp only at e5 e6
    subst e5 e6
    have e7 : (2 * (q : Int)).toNat = 2 * q := by omega
    have e8 : (2 * (q : Int) + 1).toNat = 2 * q + 1 := by omega
    simp only [e7, e8]
    have hlen : (rectsOf (s.take i) ++ ((pairsX s[i].xs).take q).map fun p => ({ X0 := p.1, Y0 := s[i].y0, X1 := p.2, Y1 := s[i].y1 } : TRect)).length ≤ (rectsOf (s.take i)).length + q := by simp; omega
    (try dsimp only); (repeat' (first | (with_reducible apply ok_guard; case h => (first | assumption | omega | (simp; done) | (simp; omega) | (and_intros <;> first | omega | (intro _; omega)) | (simp only [Bool.or_eq_true, Bool.and_eq_true, Bool.not_eq_true', Bool.not_eq_true, Bool.not_eq_false', Bool.not_eq_false, Bool.or_eq_false_iff, Bool.and_eq_false_iff, decide_eq_true_eq, decide_eq_false_iff_not, Bool.not_not, beq_iff_eq, bne_iff_ne] at *; omega))) | (with_reducible apply ok_guard) | (with_reducible apply ok_if <;> intro _) | (with_reducible apply ok_some) | (with_reducible apply ok_esc) | (with_reducible apply ok_then))); (all_goals try dsimp only); (all_goals try (exfalso; omega))
    · refine ⟨⟨q + 1, by first | omega | (simp; omega), by omega, ?_⟩, by first | omega | (simp; omega)⟩
      rw [pairsX_get (by omega)]; simp
    · refine ⟨by simp, ?_⟩
      rw [rectsOf_take hi, List.take_of_length_le (l := pairsX s[i].xs) (by rw [pairsX_len]; omega)]; rfl
  · rintro out rfl
    simp only [List.length_map]
    (try dsimp only); (repeat' (first | (with_reducible apply ok_guard; case h => (first | assumption | omega | (simp; done) | (simp; omega) | (and_intros <;> first | omega | (intro _; omega)) | (simp only [Bool.or_eq_true, Bool.and_eq_true, Bool.not_eq_true', Bool.not_eq_true, Bool.not_eq_false', Bool.not_eq_false, Bool.or_eq_false_iff, Bool.and_eq_false_iff, decide_eq_true_eq, decide_eq_false_iff_not, Bool.not_not, beq_iff_eq, bne_iff_ne] at *; omega))) | (with_reducible apply ok_guard) | (with_reducible apply ok_if <;> intro _) | (with_reducible apply ok_some) | (with_reducible apply ok_esc) | (with_reducible apply ok_then))); (all_goals try dsimp only); (all_goals try (exfalso; omega))
    simp
theorem o_shape_Set_Rects {s : List Bd} (hl : s.length < 1000000000000) (he : ∀ b ∈ s, b.xs.length % 2 = 0) (hn : (rectsOf s).length < 1000000000000) {Q_ : _ → Prop} (k_ : Q_ (rectsOf s)) : Ok (p_shape_Set_Rects (s.map ofBd)) Q_ := ok_of (t_shape_Set_Rects hl he hn) k_
theorem s_shape_Set_Rects {β : Type} {cc_ : Prop} {d_ : Decidable cc_} {s : List Bd} (hl : cc_ → (s.length < 1000000000000)) (he : cc_ → (∀ b ∈ s, b.xs.length % 2 = 0)) (hn : cc_ → ((rectsOf s).length < 1000000000000)) {e_ : _} {f_ : _ → Option β} {Q_ : β → Prop} (hd : ¬ cc_ → f_ e_ = f_ (rectsOf s)) (k_ : Ok (f_ (rectsOf s)) Q_) : Ok (Option.bind (@ite _ cc_ d_ (p_shape_Set_Rects (s.map ofBd)) (some e_)) f_) Q_ := ok_short (fun hc__ => t_shape_Set_Rects (hl hc__) (he hc__) (hn hc__)) hd k_
theorem t_shape_Set_Rects_o {s : List Bd} (hl : s.length < 1000000000000) (he : ∀ b ∈ s, b.xs.length % 2 = 0) (hn : (rectsOf s).length < 1000000000000) : p_shape_Set_Rects_o (s.map ofBd) = some (rectsOf s) := by
  apply ok_val
  unfold p_shape_Set_Rects_o
  (try dsimp only); (repeat' (first | (with_reducible apply ok_guard; case h => (first | assumption | omega | (simp; done) | (simp; omega) | (and_intros <;> first | omega | (intro _; omega)) | (simp only [Bool.or_eq_true, Bool.and_eq_true, Bool.not_eq_true', Bool.not_eq_true, Bool.not_eq_false', Bool.not_eq_false, Bool.or_eq_false_iff, Bool.and_eq_false_iff, decide_eq_true_eq, decide_eq_false_iff_not, Bool.not_not, beq_iff_eq, bne_iff_ne] at *; omega))) | (with_reducible apply ok_guard) | (with_reducible apply ok_if <;> intro _) | (with_reducible apply ok_some) | (with_reducible apply ok_esc) | (with_reducible apply ok_then))); (all_goals try dsimp only); (all_goals try (exfalso; omega))
  refine ok_for s.length (fun i out => out = rectsOf (s.take i)) (by simp [rectsOf]) ?_ ?_
  · rintro i out hi rfl
    have h1 := rectsOf_le (s := s) (i + 1)
    rw [rectsOf_take hi, List.length_append, rectsB_len] at h1
    have h2 := he _ (List.getElem_mem hi)
    have e1 : (List.map ofBd s).getD i default = ofBd s[i] := by simp [hi]
    have e2 : (ofBd s[i]).Xs = s[i].xs := rfl
    have e3 : (ofBd s[i]).Y0 = s[i].y0 := rfl
    have e4 : (ofBd s[i]).Y1 = s[i].y1 := rfl
    simp only [Int.toNat_natCast, e1, e2, e3, e4, List.length_map]
    (try dsimp only); (repeat' (first | (with_reducible apply ok_guard; case h => (first | assumption | omega | (simp; done) | (simp; omega) | (and_intros <;> first | omega | (intro _; omega)) | (simp only [Bool.or_eq_true, Bool.and_eq_true, Bool.not_eq_true', Bool.not_eq_true, Bool.not_eq_false', Bool.not_eq_false, Bool.or_eq_false_iff, Bool.and_eq_false_iff, decide_eq_true_eq, decide_eq_false_iff_not, Bool.not_not, beq_iff_eq, bne_iff_ne] at *; omega))) | (with_reducible apply ok_guard) | (with_reducible apply ok_if <;> intro _) | (with_reducible apply ok_some) | (with_reducible apply ok_esc) | (with_reducible apply ok_then))); (all_goals try dsimp only); (all_goals try (exfalso; omega))
    refine ok_loop (fun st : Int × List TRect => ∃ q : Nat, st.1 = 2 * (q : Int) ∧ 2 * q ≤ s[i].xs.length ∧ st.2 = rectsOf (s.take i) ++ ((pairsX s[i].xs).take q).map fun p => { X0 := p.1, Y0 := s[i].y0, X1 := p.2, Y1 := s[i].y1 }) (fun st : Int × List TRect => s[i].xs.length - st.1.toNat)
      ⟨0, rfl, by omega, by simp⟩ ?_
    rintro ⟨j, out⟩ ⟨q, e5, hq, e6⟩
    simp only at e5 e6
    subst e5 e6
    have e7 : (2 * (q : Int)).toNat = 2 * q := by omega
    have e8 : (2 * (q : Int) + 1).toNat = 2 * q + 1 := by omega
    simp only [e7, e8]
    have hlen : (rectsOf (s.take i) ++ ((pairsX s[i].xs).take q).map fun p => ({ X0 := p.1, Y0 := s[i].y0, X1 := p.2, Y1 := s[i].y1 } : TRect)).length ≤ (rectsOf (s.take i)).length + q := by simp; omega
    (try dsimp only); (repeat' (first | (with_reducible apply ok_guard; case h => (first | assumption | omega | (simp; done) | (simp; omega) | (and_intros <;> first | omega | (intro _; omega)) | (simp only [Bool.or_eq_true, Bool.and_eq_true, Bool.not_eq_true', Bool.not_eq_true, Bool.not_eq_false', Bool.not_eq_false, Bool.or_eq_false_iff, Bool.and_eq_false_iff, decide_eq_true_eq, decide_eq_false_iff_not, Bool.not_not, beq_iff_eq, bne_iff_ne] at *; omega))) | (with_reducible apply ok_guard) | (with_reducible apply ok_if <;> intro _) | (with_reducible apply ok_some) | (with_reducible apply ok_esc) | (with_reducible apply ok_then))); (all_goals try dsimp only); (all_goals try (exfalso; omega))
    · refine ⟨⟨q + 1, by first | omega | (simp; omega), by omega, ?_⟩, by first | omega | (simp; omega)⟩
      rw [pairsX_get (by omega)]; simp
    · refine ⟨by simp, ?_⟩
      rw [rectsOf_take hi, List.take_of_length_le (l := pairsX s[i].xs) (by rw [pairsX_len]; omega)]; rfl
  · rintro out rfl
    simp only [List.length_map]
    (try dsimp only); (repeat' (first | (with_reducible apply ok_guard; case h => (first | assumption | omega | (simp; done) | (simp; omega) | (and_intros <;> first | omega | (intro _; omega)) | (simp only [Bool.or_eq_true, Bool.and_eq_true, Bool.not_eq_true', Bool.not_eq_true, Bool.not_eq_false', Bool.not_eq_false, Bool.or_eq_false_iff, Bool.and_eq_false_iff, decide_eq_true_eq, decide_eq_false_iff_not, Bool.not_not, beq_iff_eq, bne_iff_ne] at *; omega))) | (with_reducible apply ok_guard) | (with_reducible apply ok_if <;> intro _) | (with_reducible apply ok_some) | (with_reducible apply ok_esc) | (with_reducible apply ok_then))); (all_goals try dsimp only); (all_goals try (exfalso; omega))
    simp
theorem o_shape_Set_Rects_o {s : List Bd} (hl : s.length < 1000000000000) (he : ∀ b ∈ s, b.xs.length % 2 = 0) (hn : (rectsOf s).length < 1000000000000) {Q_ : _ → Prop} (k_ : Q_ (rectsOf s)) : Ok (p_shape_Set_Rects_o (s.map ofBd)) Q_ := ok_of (t_shape_Set_Rects_o hl he hn) k_
theorem s_shape_Set_Rects_o {β : Type} {cc_ : Prop} {d_ : Decidable cc_} {s : List Bd} (hl : cc_ → (s.length < 1000000000000)) (he : cc_ → (∀ b ∈ s, b.xs.length % 2 = 0)) (hn : cc_ → ((rectsOf s).length < 1000000000000)) {e_ : _} {f_ : _ → Option β} {Q_ : β → Prop} (hd : ¬ cc_ → f_ e_ = f_ (rectsOf s)) (k_ : Ok (f_ (rectsOf s)) Q_) : Ok (Option.bind (@ite _ cc_ d_ (p_shape_Set_Rects_o (s.map ofBd)) (some e_)) f_) Q_ := ok_short (fun hc__ => t_shape_Set_Rects_o (hl hc__) (he hc__) (hn hc__)) hd k_
theorem t_shape_Set_Many {s : List Bd} (hl : s.length < 1000000000000) (he : ∀ b ∈ s, b.xs.length % 2 = 0) (hn : (rectsOf s).length < 1000000000000) : p_shape_Set_Many (s.map ofBd) = some (((rectsOf s).length : Int)) := by
  apply ok_val
  unfold p_shape_Set_Many
  (try dsimp only); (repeat' (first | (with_reducible apply ok_guard; case h => (first | assumption | omega | (simp; done) | (simp; omega) | (and_intros <;> first | omega | (intro _; omega)) | (simp only [Bool.or_eq_true, Bool.and_eq_true, Bool.not_eq_true', Bool.not_eq_true, Bool.not_eq_false', Bool.not_eq_false, Bool.or_eq_false_iff, Bool.and_eq_false_iff, decide_eq_true_eq, decide_eq_false_iff_not, Bool.not_not, beq_iff_eq, bne_iff_ne] at *; omega))) | (with_reducible apply ok_guard) | (with_reducible apply ok_if <;> intro _) | (with_reducible apply ok_some) | (with_reducible apply ok_esc) | (with_reducible apply ok_then))); (all_goals try dsimp only); (all_goals try (exfalso; omega))
  refine ok_for s.length (fun i n => n = ((rectsOf (s.take i)).length : Int)) (by simp [rectsOf]) ?_ ?_
  · rintro i n hi rfl
    have h1 := rectsOf_le (s := s) (i + 1)
    have h3 := rectsOf_take hi
    have h4 := congrArg List.length h3
    rw [List.length_append, rectsB_len] at h4
    have h2 := he _ (List.getElem_mem hi)
    have e1 : (List.map ofBd s).getD i default = ofBd s[i] := by simp [hi]
    have e2 : (ofBd s[i]).Xs = s[i].xs := rfl
    simp only [Int.toNat_natCast, e1, e2, List.length_map]
    have e5 : Int.tdiv (s[i].xs.length : Int) 2 = ((s[i].xs.length / 2 : Nat) : Int) := by rw [Int.tdiv_eq_ediv_of_nonneg (by omega)]; omega
    simp only [e5]
    (try dsimp only); (repeat' (first | (with_reducible apply ok_guard; case h => (first | assumption | omega | (simp; done) | (simp; omega) | (and_intros <;> first | omega | (intro _; omega)) | (simp only [Bool.or_eq_true, Bool.and_eq_true, Bool.not_eq_true', Bool.not_eq_true, Bool.not_eq_false', Bool.not_eq_false, Bool.or_eq_false_iff, Bool.and_eq_false_iff, decide_eq_true_eq, decide_eq_false_iff_not, Bool.not_not, beq_iff_eq, bne_iff_ne] at *; omega))) | (with_reducible apply ok_guard) | (with_reducible apply ok_if <;> intro _) | (with_reducible apply ok_some) | (with_reducible apply ok_esc) | (with_reducible apply ok_then))); (all_goals try dsimp only); (all_goals try (exfalso; omega))
    exact ⟨by simp, by rw [h4]; simp⟩
  · rintro n rfl
    simp only [List.length_map]
    (try dsimp only); (repeat' (first | (with_reducible apply ok_guard; case h => (first | assumption | omega | (simp; done) | (simp; omega) | (and_intros <;> first | omega | (intro _; omega)) | (simp only [Bool.or_eq_true, Bool.and_eq_true, Bool.not_eq_true', Bool.not_eq_true, Bool.not_eq_false', Bool.not_eq_false, Bool.or_eq_false_iff, Bool.and_eq_false_iff, decide_eq_true_eq, decide_eq_false_iff_not, Bool.not_not, beq_iff_eq, bne_iff_ne] at *; omega))) | (with_reducible apply ok_guard) | (with_reducible apply ok_if <;> intro _) | (with_reducible apply ok_some) | (with_reducible apply ok_esc) | (with_reducible apply ok_then))); (all_goals try dsimp only); (all_goals try (exfalso; omega))
    simp
theorem o_shape_Set_Many {s : List Bd} (hl : s.length < 1000000000000) (he : ∀ b ∈ s, b.xs.length % 2 = 0) (hn : (rectsOf s).length < 1000000000000) {Q_ : _ → Prop} (k_ : Q_ (((rectsOf s).length : Int))) : Ok (p_shape_Set_Many (s.map ofBd)) Q_ := ok_of (t_shape_Set_Many hl he hn) k_
theorem s_shape_Set_Many {β : Type} {cc_ : Prop} {d_ : Decidable cc_} {s : List Bd} (hl : cc_ → (s.length < 1000000000000)) (he : cc_ → (∀ b ∈ s, b.xs.length % 2 = 0)) (hn : cc_ → ((rectsOf s).length < 1000000000000)) {e_ : _} {f_ : _ → Option β} {Q_ : β → Prop} (hd : ¬ cc_ → f_ e_ = f_ (((rectsOf s).length : Int))) (k_ : Ok (f_ (((rectsOf s).length : Int))) Q_) : Ok (Option.bind (@ite _ cc_ d_ (p_shape_Set_Many (s.map ofBd)) (some e_)) f_) Q_ := ok_short (fun hc__ => t_shape_Set_Many (hl hc__) (he hc__) (hn hc__)) hd k_
theorem t_shape_within {a b c : Int} : p_shape_within a b c = some (decide (b ≤ a) && decide (a ≤ c)) := by
  apply ok_val
  unfold p_shape_within
  (try dsimp only); (repeat' (first | (with_reducible apply ok_guard; case h => (first | assumption | omega | (simp; done) | (simp; omega) | (and_intros <;> first | omega | (intro _; omega)) | (simp only [Bool.or_eq_true, Bool.and_eq_true, Bool.not_eq_true', Bool.not_eq_true, Bool.not_eq_false', Bool.not_eq_false, Bool.or_eq_false_iff, Bool.and_eq_false_iff, decide_eq_true_eq, decide_eq_false_iff_not, Bool.not_not, beq_iff_eq, bne_iff_ne] at *; omega))) | (with_reducible apply ok_guard) | (with_reducible apply ok_if <;> intro _) | (with_reducible apply ok_some) | (with_reducible apply ok_esc) | (with_reducible apply ok_then))); (all_goals try dsimp only); (all_goals try (exfalso; omega))
theorem o_shape_within {a b c : Int} {Q_ : _ → Prop} (k_ : Q_ (decide (b ≤ a) && decide (a ≤ c))) : Ok (p_shape_within a b c) Q_ := ok_of (t_shape_within ) k_
theorem s_shape_within {β : Type} {cc_ : Prop} {d_ : Decidable cc_} {a b c : Int} {e_ : _} {f_ : _ → Option β} {Q_ : β → Prop} (hd : ¬ cc_ → f_ e_ = f_ (decide (b ≤ a) && decide (a ≤ c))) (k_ : Ok (f_ (decide (b ≤ a) && decide (a ≤ c))) Q_) : Ok (Option.bind (@ite _ cc_ d_ (p_shape_within a b c) (some e_)) f_) Q_ := ok_short (fun hc__ => t_shape_within ) hd k_
theorem t_ref1_within {a b c : Int} : p_ref1_within a b c = some (decide (b ≤ a) && decide (a ≤ c)) := by
  apply ok_val
  unfold p_ref1_within
  (try dsimp only); (repeat' (first | (with_reducible apply ok_guard; case h => (first | assumption | omega | (simp; done) | (simp; omega) | (and_intros <;> first | omega | (intro _; omega)) | (simp only [Bool.or_eq_true, Bool.and_eq_true, Bool.not_eq_true', Bool.not_eq_true, Bool.not_eq_false', Bool.not_eq_false, Bool.or_eq_false_iff, Bool.and_eq_false_iff, decide_eq_true_eq, decide_eq_false_iff_not, Bool.not_not, beq_iff_eq, bne_iff_ne] at *; omega))) | (with_reducible apply ok_guard) | (with_reducible apply ok_if <;> intro _) | (with_reducible apply ok_some) | (with_reducible apply ok_esc) | (with_reducible apply ok_then))); (all_goals try dsimp only); (all_goals try (exfalso; omega))
theorem o_ref1_within {a b c : Int} {Q_ : _ → Prop} (k_ : Q_ (decide (b ≤ a) && decide (a ≤ c))) : Ok (p_ref1_within a b c) Q_ := ok_of (t_ref1_within ) k_
theorem s_ref1_within {β : Type} {cc_ : Prop} {d_ : Decidable cc_} {a b c : Int} {e_ : _} {f_ : _ → Option β} {Q_ : β → Prop} (hd : ¬ cc_ → f_ e_ = f_ (decide (b ≤ a) && decide (a ≤ c))) (k_ : Ok (f_ (decide (b ≤ a) && decide (a ≤ c))) Q_) : Ok (Option.bind (@ite _ cc_ d_ (p_ref1_within a b c) (some e_)) f_) Q_ := ok_short (fun hc__ => t_ref1_within ) hd k_
def isAtF (n : Int) : Bool := decide (-1000000 ≤ n) && decide (n ≤ 1000000)
def isPointF (p : TPoint) : Bool := isAtF p.X && isAtF p.Y
def isRectF (r : TRect) : Bool := isAtF r.X0 && isAtF r.Y0 && isAtF r.X1 && isAtF r.Y1
theorem t_shape_IsAt {n : Int} : p_shape_IsAt n = some (isAtF n) := by
  apply ok_val
  unfold p_shape_IsAt
  (try dsimp only); (repeat' (first | (with_reducible apply s_shape_within; case hd => (intro hc; simp only [Bool.not_not, Bool.not_eq_true, Bool.not_eq_false'] at hc; simp only [hc, Bool.true_or, Bool.false_and, Bool.not_true, Bool.not_false, Bool.or_true, Bool.and_false])) | (with_reducible apply o_shape_within <;> try first | assumption | omega) | (with_reducible apply ok_guard; case h => (first | assumption | omega | (simp; done) | (simp; omega) | (and_intros <;> first | omega | (intro _; omega)) | (simp only [Bool.or_eq_true, Bool.and_eq_true, Bool.not_eq_true', Bool.not_eq_true, Bool.not_eq_false', Bool.not_eq_false, Bool.or_eq_false_iff, Bool.and_eq_false_iff, decide_eq_true_eq, decide_eq_false_iff_not, Bool.not_not, beq_iff_eq, bne_iff_ne] at *; omega))) | (with_reducible apply ok_guard) | (with_reducible apply ok_if <;> intro _) | (with_reducible apply ok_some) | (with_reducible apply ok_esc) | (with_reducible apply ok_then))); (all_goals try dsimp only); (all_goals try (exfalso; omega))
  rfl
theorem o_shape_IsAt {n : Int} {Q_ : _ → Prop} (k_ : Q_ (isAtF n)) : Ok (p_shape_IsAt n) Q_ := ok_of (t_shape_IsAt ) k_
theorem s_shape_IsAt {β : Type} {cc_ : Prop} {d_ : Decidable cc_} {n : Int} {e_ : _} {f_ : _ → Option β} {Q_ : β → Prop} (hd : ¬ cc_ → f_ e_ = f_ (isAtF n)) (k_ : Ok (f_ (isAtF n)) Q_) : Ok (Option.bind (@ite _ cc_ d_ (p_shape_IsAt n) (some e_)) f_) Q_ := ok_short (fun hc__ => t_shape_IsAt ) hd k_
theorem t_ref1_At {n : Int} : p_ref1_At n = some (isAtF n) := by
  apply ok_val
  unfold p_ref1_At
  (try dsimp only); (repeat' (first | (with_reducible apply s_ref1_within; case hd => (intro hc; simp only [Bool.not_not, Bool.not_eq_true, Bool.not_eq_false'] at hc; simp only [hc, Bool.true_or, Bool.false_and, Bool.not_true, Bool.not_false, Bool.or_true, Bool.and_false])) | (with_reducible apply o_ref1_within <;> try first | assumption | omega) | (with_reducible apply ok_guard; case h => (first | assumption | omega | (simp; done) | (simp; omega) | (and_intros <;> first | omega | (intro _; omega)) | (simp only [Bool.or_eq_true, Bool.and_eq_true, Bool.not_eq_true', Bool.not_eq_true, Bool.not_eq_false', Bool.not_eq_false, Bool.or_eq_false_iff, Bool.and_eq_false_iff, decide_eq_true_eq, decide_eq_false_iff_not, Bool.not_not, beq_iff_eq, bne_iff_ne] at *; omega))) | (with_reducible apply ok_guard) | (with_reducible apply ok_if <;> intro _) | (with_reducible apply ok_some) | (with_reducible apply ok_esc) | (with_reducible apply ok_then))); (all_goals try dsimp only); (all_goals try (exfalso; omega))
  rfl
theorem o_ref1_At {n : Int} {Q_ : _ → Prop} (k_ : Q_ (isAtF n)) : Ok (p_ref1_At n) Q_ := ok_of (t_ref1_At ) k_
theorem s_ref1_At {β : Type} {cc_ : Prop} {d_ : Decidable cc_} {n : Int} {e_ : _} {f_ : _ → Option β} {Q_ : β → Prop} (hd : ¬ cc_ → f_ e_ = f_ (isAtF n)) (k_ : Ok (f_ (isAtF n)) Q_) : Ok (Option.bind (@ite _ cc_ d_ (p_ref1_At n) (some e_)) f_) Q_ := ok_short (fun hc__ => t_ref1_At ) hd k_
theorem t_shape_IsPoint {p : TPoint} : p_shape_IsPoint p = some (isPointF p) := by
  apply ok_val
  unfold p_shape_IsPoint
  (try dsimp only); (repeat' (first | (with_reducible apply s_shape_IsAt; case hd => (intro hc; simp only [Bool.not_not, Bool.not_eq_true, Bool.not_eq_false'] at hc; simp only [hc, Bool.true_or, Bool.false_and, Bool.not_true, Bool.not_false, Bool.or_true, Bool.and_false])) | (with_reducible apply o_shape_IsAt <;> try first | assumption | omega) | (with_reducible apply ok_guard; case h => (first | assumption | omega | (simp; done) | (simp; omega) | (and_intros <;> first | omega | (intro _; omega)) | (simp only [Bool.or_eq_true, Bool.and_eq_true, Bool.not_eq_true', Bool.not_eq_true, Bool.not_eq_false', Bool.not_eq_false, Bool.or_eq_false_iff, Bool.and_eq_false_iff, decide_eq_true_eq, decide_eq_false_iff_not, Bool.not_not, beq_iff_eq, bne_iff_ne] at *; omega))) | (with_reducible apply ok_guard) | (with_reducible apply ok_if <;> intro _) | (with_reducible apply ok_some) | (with_reducible apply ok_esc) | (with_reducible apply ok_then))); (all_goals try dsimp only); (all_goals try (exfalso; omega))
  rfl
theorem o_shape_IsPoint {p : TPoint} {Q_ : _ → Prop} (k_ : Q_ (isPointF p)) : Ok (p_shape_IsPoint p) Q_ := ok_of (t_shape_IsPoint ) k_
theorem s_shape_IsPoint {β : Type} {cc_ : Prop} {d_ : Decidable cc_} {p : TPoint} {e_ : _} {f_ : _ → Option β} {Q_ : β → Prop} (hd : ¬ cc_ → f_ e_ = f_ (isPointF p)) (k_ : Ok (f_ (isPointF p)) Q_) : Ok (Option.bind (@ite _ cc_ d_ (p_shape_IsPoint p) (some e_)) f_) Q_ := ok_short (fun hc__ => t_shape_IsPoint ) hd k_
theorem t_ref1_IsPoint {p : TPoint} : p_ref1_IsPoint p = some (isPointF p) := by
  apply ok_val
  unfold p_ref1_IsPoint
  (try dsimp only); (repeat' (first | (with_reducible apply s_ref1_At; case hd => (intro hc; simp only [Bool.not_not, Bool.not_eq_true, Bool.not_eq_false'] at hc; simp only [hc, Bool.true_or, Bool.false_and, Bool.not_true, Bool.not_false, Bool.or_true, Bool.and_false])) | (with_reducible apply o_ref1_At <;> try first | assumption | omega) | (with_reducible apply ok_guard; case h => (first | assumption | omega | (simp; done) | (simp; omega) | (and_intros <;> first | omega | (intro _; omega)) | (simp only [Bool.or_eq_true, Bool.and_eq_true, Bool.not_eq_true', Bool.not_eq_true, Bool.not_eq_false', Bool.not_eq_false, Bool.or_eq_false_iff, Bool.and_eq_false_iff, decide_eq_true_eq, decide_eq_false_iff_not, Bool.not_not, beq_iff_eq, bne_iff_ne] at *; omega))) | (with_reducible apply ok_guard) | (with_reducible apply ok_if <;> intro _) | (with_reducible apply ok_some) | (with_reducible apply ok_esc) | (with_reducible apply ok_then))); (all_goals try dsimp only); (all_goals try (exfalso; omega))
  rfl
theorem o_ref1_IsPoint {p : TPoint} {Q_ : _ → Prop} (k_ : Q_ (isPointF p)) : Ok (p_ref1_IsPoint p) Q_ := ok_of (t_ref1_IsPoint ) k_
theorem s_ref1_IsPoint {β : Type} {cc_ : Prop} {d_ : Decidable cc_} {p : TPoint} {e_ : _} {f_ : _ → Option β} {Q_ : β → Prop} (hd : ¬ cc_ → f_ e_ = f_ (isPointF p)) (k_ : Ok (f_ (isPointF p)) Q_) : Ok (Option.bind (@ite _ cc_ d_ (p_ref1_IsPoint p) (some e_)) f_) Q_ := ok_short (fun hc__ => t_ref1_IsPoint ) hd k_
theorem t_shape_isRect {r : TRect} : p_shape_isRect r = some (isRectF r) := by
  apply ok_val
  unfold p_shape_isRect
  (try dsimp only); (repeat' (first | (with_reducible apply s_shape_IsAt; case hd => (intro hc; simp only [Bool.not_not, Bool.not_eq_true, Bool.not_eq_false'] at hc; simp only [hc, Bool.true_or, Bool.false_and, Bool.not_true, Bool.not_false, Bool.or_true, Bool.and_false])) | (with_reducible apply o_shape_IsAt <;> try first | assumption | omega) | (with_reducible apply ok_guard; case h => (first | assumption | omega | (simp; done) | (simp; omega) | (and_intros <;> first | omega | (intro _; omega)) | (simp only [Bool.or_eq_true, Bool.and_eq_true, Bool.not_eq_true', Bool.not_eq_true, Bool.not_eq_false', Bool.not_eq_false, Bool.or_eq_false_iff, Bool.and_eq_false_iff, decide_eq_true_eq, decide_eq_false_iff_not, Bool.not_not, beq_iff_eq, bne_iff_ne] at *; omega))) | (with_reducible apply ok_guard) | (with_reducible apply ok_if <;> intro _) | (with_reducible apply ok_some) | (with_reducible apply ok_esc) | (with_reducible apply ok_then))); (all_goals try dsimp only); (all_goals try (exfalso; omega))
  rfl
theorem o_shape_isRect {r : TRect} {Q_ : _ → Prop} (k_ : Q_ (isRectF r)) : Ok (p_shape_isRect r) Q_ := ok_of (t_shape_isRect ) k_
theorem s_shape_isRect {β : Type} {cc_ : Prop} {d_ : Decidable cc_} {r : TRect} {e_ : _} {f_ : _ → Option β} {Q_ : β → Prop} (hd : ¬ cc_ → f_ e_ = f_ (isRectF r)) (k_ : Ok (f_ (isRectF r)) Q_) : Ok (Option.bind (@ite _ cc_ d_ (p_shape_isRect r) (some e_)) f_) Q_ := ok_short (fun hc__ => t_shape_isRect ) hd k_
end Go.Nw
