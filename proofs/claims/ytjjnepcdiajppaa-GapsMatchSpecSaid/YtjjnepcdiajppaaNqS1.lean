/- NqS1: a part of the proof. -/
import Derived.Test.YtjjnepcdiajppaaNqSeq
import Derived.Test.YtjjnepcdiajppaaNqRect
import Derived.Test.YtjjnepcdiajppaaNwDR
set_option linter.unusedVariables false
set_option linter.unusedSimpArgs false
set_option maxRecDepth 100000
namespace Go.Nw
theorem eq_of_getD {α : Type} [Inhabited α] {l m : List α} (hl : l.length = m.length) (h : ∀ i < l.length, l.getD i default = m.getD i default) : l = m := by
  apply List.ext_getElem hl
  intro i h1 h2
  have := h i h1
  simpa [h1, h2] using this
theorem t_slices_Equal_Rect {l m : List TRect} (hl : l.length < 281474976710656) : p_slices_Equal_Rect l m = some (decide (l = m)) := by
  apply ok_val
  unfold p_slices_Equal_Rect
  (try dsimp only); (repeat' (first | (with_reducible apply ok_guard; case h => (first | assumption | omega | (simp; done) | (simp; omega) | (and_intros <;> first | omega | (intro _; omega)) | (simp only [Bool.or_eq_true, Bool.and_eq_true, Bool.not_eq_true', Bool.not_eq_true, Bool.not_eq_false', Bool.not_eq_false, Bool.or_eq_false_iff, Bool.and_eq_false_iff, decide_eq_true_eq, decide_eq_false_iff_not, Bool.not_not, beq_iff_eq, bne_iff_ne] at *; omega))) | (with_reducible apply ok_guard) | (with_reducible apply ok_if <;> intro _) | (with_reducible apply ok_some) | (with_reducible apply ok_esc) | (with_reducible apply ok_then))); (all_goals try dsimp only); (all_goals try (exfalso; omega))
  · refine ok_for l.length (fun i _ => ∀ j < i, l.getD j default = m.getD j default) (by intro j h; omega) ?_ ?_
    · intro i x hi hI
      simp only [Int.toNat_natCast]
      (try dsimp only); (repeat' (first | (with_reducible apply ok_guard; case h => (first | assumption | omega | (simp; done) | (simp; omega) | (and_intros <;> first | omega | (intro _; omega)) | (simp only [Bool.or_eq_true, Bool.and_eq_true, Bool.not_eq_true', Bool.not_eq_true, Bool.not_eq_false', Bool.not_eq_false, Bool.or_eq_false_iff, Bool.and_eq_false_iff, decide_eq_true_eq, decide_eq_false_iff_not, Bool.not_not, beq_iff_eq, bne_iff_ne] at *; omega))) | (with_reducible apply ok_guard) | (with_reducible apply ok_if <;> intro _) | (with_reducible apply ok_some) | (with_reducible apply ok_esc) | (with_reducible apply ok_then))); (all_goals try dsimp only); (all_goals try (exfalso; omega))
      · rename_i h1 h2
        exact ⟨rfl, all_lt hI h2⟩
      · rename_i h1 h2
        exact (decide_eq_false fun e => h2 (by rw [e])).symm
    · intro x hI
      (try dsimp only); (repeat' (first | (with_reducible apply ok_guard; case h => (first | assumption | omega | (simp; done) | (simp; omega) | (and_intros <;> first | omega | (intro _; omega)) | (simp only [Bool.or_eq_true, Bool.and_eq_true, Bool.not_eq_true', Bool.not_eq_true, Bool.not_eq_false', Bool.not_eq_false, Bool.or_eq_false_iff, Bool.and_eq_false_iff, decide_eq_true_eq, decide_eq_false_iff_not, Bool.not_not, beq_iff_eq, bne_iff_ne] at *; omega))) | (with_reducible apply ok_guard) | (with_reducible apply ok_if <;> intro _) | (with_reducible apply ok_some) | (with_reducible apply ok_esc) | (with_reducible apply ok_then))); (all_goals try dsimp only); (all_goals try (exfalso; omega))
      rename_i h1 h2
      exact (decide_eq_true (eq_of_getD (by omega) hI)).symm
  · rename_i h1
    exact (decide_eq_false fun e => h1 (by rw [e])).symm
theorem o_slices_Equal_Rect {l m : List TRect} (hl : l.length < 281474976710656) {Q_ : _ → Prop} (k_ : Q_ (decide (l = m))) : Ok (p_slices_Equal_Rect l m) Q_ := ok_of (t_slices_Equal_Rect hl) k_
theorem s_slices_Equal_Rect {β : Type} {cc_ : Prop} {d_ : Decidable cc_} {l m : List TRect} (hl : cc_ → (l.length < 281474976710656)) {e_ : _} {f_ : _ → Option β} {Q_ : β → Prop} (hd : ¬ cc_ → f_ e_ = f_ (decide (l = m))) (k_ : Ok (f_ (decide (l = m))) Q_) : Ok (Option.bind (@ite _ cc_ d_ (p_slices_Equal_Rect l m) (some e_)) f_) Q_ := ok_short (fun hc__ => t_slices_Equal_Rect (hl hc__)) hd k_
theorem t_slices_Equal_int {l m : List Int} (hl : l.length < 281474976710656) : p_slices_Equal_int l m = some (decide (l = m)) := by
  apply ok_val
  unfold p_slices_Equal_int
  (try dsimp only); (repeat' (first | (with_reducible apply ok_guard; case h => (first | assumption | omega | (simp; done) | (simp; omega) | (and_intros <;> first | omega | (intro _; omega)) | (simp only [Bool.or_eq_true, Bool.and_eq_true, Bool.not_eq_true', Bool.not_eq_true, Bool.not_eq_false', Bool.not_eq_false, Bool.or_eq_false_iff, Bool.and_eq_false_iff, decide_eq_true_eq, decide_eq_false_iff_not, Bool.not_not, beq_iff_eq, bne_iff_ne] at *; omega))) | (with_reducible apply ok_guard) | (with_reducible apply ok_if <;> intro _) | (with_reducible apply ok_some) | (with_reducible apply ok_esc) | (with_reducible apply ok_then))); (all_goals try dsimp only); (all_goals try (exfalso; omega))
  · refine ok_for l.length (fun i _ => ∀ j < i, l.getD j default = m.getD j default) (by intro j h; omega) ?_ ?_
    · intro i x hi hI
      simp only [Int.toNat_natCast]
      (try dsimp only); (repeat' (first | (with_reducible apply ok_guard; case h => (first | assumption | omega | (simp; done) | (simp; omega) | (and_intros <;> first | omega | (intro _; omega)) | (simp only [Bool.or_eq_true, Bool.and_eq_true, Bool.not_eq_true', Bool.not_eq_true, Bool.not_eq_false', Bool.not_eq_false, Bool.or_eq_false_iff, Bool.and_eq_false_iff, decide_eq_true_eq, decide_eq_false_iff_not, Bool.not_not, beq_iff_eq, bne_iff_ne] at *; omega))) | (with_reducible apply ok_guard) | (with_reducible apply ok_if <;> intro _) | (with_reducible apply ok_some) | (with_reducible apply ok_esc) | (with_reducible apply ok_then))); (all_goals try dsimp only); (all_goals try (exfalso; omega))
      · rename_i h1 h2
        exact ⟨rfl, all_lt hI h2⟩
      · rename_i h1 h2
        exact (decide_eq_false fun e => h2 (by rw [e])).symm
    · intro x hI
      (try dsimp only); (repeat' (first | (with_reducible apply ok_guard; case h => (first | assumption | omega | (simp; done) | (simp; omega) | (and_intros <;> first | omega | (intro _; omega)) | (simp only [Bool.or_eq_true, Bool.and_eq_true, Bool.not_eq_true', Bool.not_eq_true, Bool.not_eq_false', Bool.not_eq_false, Bool.or_eq_false_iff, Bool.and_eq_false_iff, decide_eq_true_eq, decide_eq_false_iff_not, Bool.not_not, beq_iff_eq, bne_iff_ne] at *; omega))) | (with_reducible apply ok_guard) | (with_reducible apply ok_if <;> intro _) | (with_reducible apply ok_some) | (with_reducible apply ok_esc) | (with_reducible apply ok_then))); (all_goals try dsimp only); (all_goals try (exfalso; omega))
      rename_i h1 h2
      exact (decide_eq_true (eq_of_getD (by omega) hI)).symm
  · rename_i h1
    exact (decide_eq_false fun e => h1 (by rw [e])).symm
theorem o_slices_Equal_int {l m : List Int} (hl : l.length < 281474976710656) {Q_ : _ → Prop} (k_ : Q_ (decide (l = m))) : Ok (p_slices_Equal_int l m) Q_ := ok_of (t_slices_Equal_int hl) k_
theorem s_slices_Equal_int {β : Type} {cc_ : Prop} {d_ : Decidable cc_} {l m : List Int} (hl : cc_ → (l.length < 281474976710656)) {e_ : _} {f_ : _ → Option β} {Q_ : β → Prop} (hd : ¬ cc_ → f_ e_ = f_ (decide (l = m))) (k_ : Ok (f_ (decide (l = m))) Q_) : Ok (Option.bind (@ite _ cc_ d_ (p_slices_Equal_int l m) (some e_)) f_) Q_ := ok_short (fun hc__ => t_slices_Equal_int (hl hc__)) hd k_
theorem t_slices_IndexFunc_Rect {l : List TRect} {f : TRect → Option Bool} {g : TRect → Bool} (hl : l.length < 281474976710656) (hf : ∀ x ∈ l, f x = some (g x)) : p_slices_IndexFunc_Rect l f = some (firstF l.length fun i => g (l.getD i default)) := by
  apply ok_val
  unfold p_slices_IndexFunc_Rect
  (try dsimp only); (repeat' (first | (with_reducible apply ok_guard; case h => (first | assumption | omega | (simp; done) | (simp; omega) | (and_intros <;> first | omega | (intro _; omega)) | (simp only [Bool.or_eq_true, Bool.and_eq_true, Bool.not_eq_true', Bool.not_eq_true, Bool.not_eq_false', Bool.not_eq_false, Bool.or_eq_false_iff, Bool.and_eq_false_iff, decide_eq_true_eq, decide_eq_false_iff_not, Bool.not_not, beq_iff_eq, bne_iff_ne] at *; omega))) | (with_reducible apply ok_guard) | (with_reducible apply ok_if <;> intro _) | (with_reducible apply ok_some) | (with_reducible apply ok_esc) | (with_reducible apply ok_then))); (all_goals try dsimp only); (all_goals try (exfalso; omega))
  refine ok_for l.length (fun i _ => ∀ j < i, g (l.getD j default) = false) (by intro j h; omega) ?_ ?_
  · intro i x hi hI
    simp only [Int.toNat_natCast]
    (try dsimp only); (repeat' (first | (with_reducible apply ok_guard; case h => (first | assumption | omega | (simp; done) | (simp; omega) | (and_intros <;> first | omega | (intro _; omega)) | (simp only [Bool.or_eq_true, Bool.and_eq_true, Bool.not_eq_true', Bool.not_eq_true, Bool.not_eq_false', Bool.not_eq_false, Bool.or_eq_false_iff, Bool.and_eq_false_iff, decide_eq_true_eq, decide_eq_false_iff_not, Bool.not_not, beq_iff_eq, bne_iff_ne] at *; omega))) | (with_reducible apply ok_guard) | (with_reducible apply ok_if <;> intro _) | (with_reducible apply ok_some) | (with_reducible apply ok_esc) | (with_reducible apply ok_then))); (all_goals try dsimp only); (all_goals try (exfalso; omega))
    refine ok_of (hf _ (by simp [hi])) ?_
    (try dsimp only); (repeat' (first | (with_reducible apply ok_guard; case h => (first | assumption | omega | (simp; done) | (simp; omega) | (and_intros <;> first | omega | (intro _; omega)) | (simp only [Bool.or_eq_true, Bool.and_eq_true, Bool.not_eq_true', Bool.not_eq_true, Bool.not_eq_false', Bool.not_eq_false, Bool.or_eq_false_iff, Bool.and_eq_false_iff, decide_eq_true_eq, decide_eq_false_iff_not, Bool.not_not, beq_iff_eq, bne_iff_ne] at *; omega))) | (with_reducible apply ok_guard) | (with_reducible apply ok_if <;> intro _) | (with_reducible apply ok_some) | (with_reducible apply ok_esc) | (with_reducible apply ok_then))); (all_goals try dsimp only); (all_goals try (exfalso; omega))
    · rw [firstF_at hi ‹_› hI]
    · exact ⟨rfl, all_lt hI (by simpa using ‹¬ g _ = true›)⟩
  · intro x hI
    (try dsimp only); (repeat' (first | (with_reducible apply ok_guard; case h => (first | assumption | omega | (simp; done) | (simp; omega) | (and_intros <;> first | omega | (intro _; omega)) | (simp only [Bool.or_eq_true, Bool.and_eq_true, Bool.not_eq_true', Bool.not_eq_true, Bool.not_eq_false', Bool.not_eq_false, Bool.or_eq_false_iff, Bool.and_eq_false_iff, decide_eq_true_eq, decide_eq_false_iff_not, Bool.not_not, beq_iff_eq, bne_iff_ne] at *; omega))) | (with_reducible apply ok_guard) | (with_reducible apply ok_if <;> intro _) | (with_reducible apply ok_some) | (with_reducible apply ok_esc) | (with_reducible apply ok_then))); (all_goals try dsimp only); (all_goals try (exfalso; omega))
    rw [firstF_none hI]
theorem o_slices_IndexFunc_Rect {l : List TRect} {f : TRect → Option Bool} {g : TRect → Bool} (hl : l.length < 281474976710656) (hf : ∀ x ∈ l, f x = some (g x)) {Q_ : _ → Prop} (k_ : Q_ (firstF l.length fun i => g (l.getD i default))) : Ok (p_slices_IndexFunc_Rect l f) Q_ := ok_of (t_slices_IndexFunc_Rect hl hf) k_
theorem s_slices_IndexFunc_Rect {β : Type} {cc_ : Prop} {d_ : Decidable cc_} {l : List TRect} {f : TRect → Option Bool} {g : TRect → Bool} (hl : cc_ → (l.length < 281474976710656)) (hf : cc_ → (∀ x ∈ l, f x = some (g x))) {e_ : _} {f_ : _ → Option β} {Q_ : β → Prop} (hd : ¬ cc_ → f_ e_ = f_ (firstF l.length fun i => g (l.getD i default))) (k_ : Ok (f_ (firstF l.length fun i => g (l.getD i default))) Q_) : Ok (Option.bind (@ite _ cc_ d_ (p_slices_IndexFunc_Rect l f) (some e_)) f_) Q_ := ok_short (fun hc__ => t_slices_IndexFunc_Rect (hl hc__) (hf hc__)) hd k_
theorem t_slices_Clone_Rect_o {l : List TRect} (hl : l.length < 1000000000000) : p_slices_Clone_Rect_o l = some (l) := by
  apply ok_val
  unfold p_slices_Clone_Rect_o
  by_cases h : l.length = 0
  · obtain rfl := List.eq_nil_of_length_eq_zero h
    rw [if_pos (show ([] : List TRect).length = 0 from rfl)]
    (try dsimp only); (repeat' (first | (with_reducible apply ok_guard; case h => (first | assumption | omega | (simp; done) | (simp; omega) | (and_intros <;> first | omega | (intro _; omega)) | (simp only [Bool.or_eq_true, Bool.and_eq_true, Bool.not_eq_true', Bool.not_eq_true, Bool.not_eq_false', Bool.not_eq_false, Bool.or_eq_false_iff, Bool.and_eq_false_iff, decide_eq_true_eq, decide_eq_false_iff_not, Bool.not_not, beq_iff_eq, bne_iff_ne] at *; omega))) | (with_reducible apply ok_guard) | (with_reducible apply ok_if <;> intro _) | (with_reducible apply ok_some) | (with_reducible apply ok_esc) | (with_reducible apply ok_then))); (all_goals try dsimp only); (all_goals try (exfalso; omega))
  · rw [if_neg h, if_pos (by omega)]
    (try dsimp only); (repeat' (first | (with_reducible apply ok_guard; case h => (first | assumption | omega | (simp; done) | (simp; omega) | (and_intros <;> first | omega | (intro _; omega)) | (simp only [Bool.or_eq_true, Bool.and_eq_true, Bool.not_eq_true', Bool.not_eq_true, Bool.not_eq_false', Bool.not_eq_false, Bool.or_eq_false_iff, Bool.and_eq_false_iff, decide_eq_true_eq, decide_eq_false_iff_not, Bool.not_not, beq_iff_eq, bne_iff_ne] at *; omega))) | (with_reducible apply ok_guard) | (with_reducible apply ok_if <;> intro _) | (with_reducible apply ok_some) | (with_reducible apply ok_esc) | (with_reducible apply ok_then))); (all_goals try dsimp only); (all_goals try (exfalso; omega))
theorem o_slices_Clone_Rect_o {l : List TRect} (hl : l.length < 1000000000000) {Q_ : _ → Prop} (k_ : Q_ (l)) : Ok (p_slices_Clone_Rect_o l) Q_ := ok_of (t_slices_Clone_Rect_o hl) k_
theorem s_slices_Clone_Rect_o {β : Type} {cc_ : Prop} {d_ : Decidable cc_} {l : List TRect} (hl : cc_ → (l.length < 1000000000000)) {e_ : _} {f_ : _ → Option β} {Q_ : β → Prop} (hd : ¬ cc_ → f_ e_ = f_ (l)) (k_ : Ok (f_ (l)) Q_) : Ok (Option.bind (@ite _ cc_ d_ (p_slices_Clone_Rect_o l) (some e_)) f_) Q_ := ok_short (fun hc__ => t_slices_Clone_Rect_o (hl hc__)) hd k_
theorem take_set_succ {α : Type} {s : List α} {i : Nat} {v : α} (h : i < s.length) : (s.set i v).take (i + 1) = s.take i ++ [v] := by
  rw [List.take_succ_eq_append_getElem (by simpa using h), List.getElem_set_self, List.take_set_of_le (Nat.le_refl _)]
theorem getD_set_ne' {α : Type} {s : List α} {i q : Nat} {v d : α} (h : i ≠ q) : (s.set i v).getD q d = s.getD q d := by
  simp only [List.getD_eq_getElem?_getD, List.getElem?_set_ne h]
/-- what is deleted of a row, from the first on -/
theorem t_slices_DeleteFunc_Rect_o {l : List TRect} {f : TRect → Option Bool} {g : TRect → Bool} (hl : l.length < 1000000000000) (hf : ∀ x ∈ l, f x = some (g x)) : p_slices_DeleteFunc_Rect_o l f = some (l.filter fun x => !g x) := by
  apply ok_val
  unfold p_slices_DeleteFunc_Rect_o
  have hl2 : l.length < 281474976710656 := by omega
  refine ok_then (o_slices_IndexFunc_Rect hl2 hf ?_)
  rcases firstF_cases l.length (fun i => g (l.getD i default)) with ⟨h1, h2⟩ | ⟨k, h1, h2, h3, h4⟩
  · rw [h1]
    (try dsimp only); (repeat' (first | (with_reducible apply ok_guard; case h => (first | assumption | omega | (simp; done) | (simp; omega) | (and_intros <;> first | omega | (intro _; omega)) | (simp only [Bool.or_eq_true, Bool.and_eq_true, Bool.not_eq_true', Bool.not_eq_true, Bool.not_eq_false', Bool.not_eq_false, Bool.or_eq_false_iff, Bool.and_eq_false_iff, decide_eq_true_eq, decide_eq_false_iff_not, Bool.not_not, beq_iff_eq, bne_iff_ne] at *; omega))) | (with_reducible apply ok_guard) | (with_reducible apply ok_if <;> intro _) | (with_reducible apply ok_some) | (with_reducible apply ok_esc) | (with_reducible apply ok_then))); (all_goals try dsimp only); (all_goals try (exfalso; omega))
    symm
    refine List.filter_eq_self.2 fun x hx => ?_
    obtain ⟨i, hi, rfl⟩ := List.getElem_of_mem hx
    have := h2 i hi
    simp [hi] at this
    simp [this]
  · rw [h2]
    have hfil : ∀ i, i < l.length → (l.take (i + 1)).filter (fun x => !g x) = (l.take i).filter (fun x => !g x) ++ if g (l.getD i default) = true then [] else [l.getD i default] := by
      intro i hi
      rw [List.take_succ_eq_append_getElem hi, List.filter_append]
      congr 1
      have e : l.getD i default = l[i] := by simp [hi]
      rw [e]
      by_cases c : g l[i] = true
      · simp [c]
      · simp [c]
    have h0 : (l.take k).filter (fun x => !g x) = l.take k := by
      refine List.filter_eq_self.2 fun x hx => ?_
      obtain ⟨i, hi, rfl⟩ := List.getElem_of_mem hx
      have hi' : i < k := by simp at hi; omega
      have := h4 i hi'
      have hi2 : i < l.length := by omega
      simp [hi2] at this
      simp [this]
    (try dsimp only); (repeat' (first | (with_reducible apply ok_guard; case h => (first | assumption | omega | (simp; done) | (simp; omega) | (and_intros <;> first | omega | (intro _; omega)) | (simp only [Bool.or_eq_true, Bool.and_eq_true, Bool.not_eq_true', Bool.not_eq_true, Bool.not_eq_false', Bool.not_eq_false, Bool.or_eq_false_iff, Bool.and_eq_false_iff, decide_eq_true_eq, decide_eq_false_iff_not, Bool.not_not, beq_iff_eq, bne_iff_ne] at *; omega))) | (with_reducible apply ok_guard) | (with_reducible apply ok_if <;> intro _) | (with_reducible apply ok_some) | (with_reducible apply ok_esc) | (with_reducible apply ok_then))); (all_goals try dsimp only); (all_goals try (exfalso; omega))
    refine ok_loop (fun s : Int × Int × List TRect => ∃ j i : Nat, s.1 = j ∧ s.2.1 = i ∧ i < j ∧ j ≤ l.length ∧ s.2.2.length = l.length ∧ s.2.2.take i = (l.take j).filter (fun x => !g x) ∧ ∀ q, j ≤ q → q < l.length → s.2.2.getD q default = l.getD q default) (fun s : Int × Int × List TRect => l.length - s.1.toNat)
      ⟨k + 1, k, by simp, rfl, by omega, by omega, rfl, by rw [hfil k h1, h0, if_pos h3, List.append_nil], fun _ _ _ => rfl⟩ ?_
    rintro ⟨s1, s2, s3⟩ ⟨j, i, e1, e2, e3, e4, e5, e6, e7⟩
    simp only at e1 e2 e5 e6 e7
    subst e1 e2
    simp only [Int.toNat_natCast]
    (try dsimp only); (repeat' (first | (with_reducible apply ok_guard; case h => (first | assumption | omega | (simp; done) | (simp; omega) | (and_intros <;> first | omega | (intro _; omega)) | (simp only [Bool.or_eq_true, Bool.and_eq_true, Bool.not_eq_true', Bool.not_eq_true, Bool.not_eq_false', Bool.not_eq_false, Bool.or_eq_false_iff, Bool.and_eq_false_iff, decide_eq_true_eq, decide_eq_false_iff_not, Bool.not_not, beq_iff_eq, bne_iff_ne] at *; omega))) | (with_reducible apply ok_guard) | (with_reducible apply ok_if <;> intro _) | (with_reducible apply ok_some) | (with_reducible apply ok_esc) | (with_reducible apply ok_then))); (all_goals try dsimp only); (all_goals try (exfalso; omega))
    · have hj : j < l.length := by omega
      rw [e7 j (Nat.le_refl _) hj]
      refine ok_of (hf _ (by simp [hj])) ?_
      have hfj := hfil j hj
      (try dsimp only); (repeat' (first | (with_reducible apply ok_guard; case h => (first | assumption | omega | (simp; done) | (simp; omega) | (and_intros <;> first | omega | (intro _; omega)) | (simp only [Bool.or_eq_true, Bool.and_eq_true, Bool.not_eq_true', Bool.not_eq_true, Bool.not_eq_false', Bool.not_eq_false, Bool.or_eq_false_iff, Bool.and_eq_false_iff, decide_eq_true_eq, decide_eq_false_iff_not, Bool.not_not, beq_iff_eq, bne_iff_ne] at *; omega))) | (with_reducible apply ok_guard) | (with_reducible apply ok_if <;> intro _) | (with_reducible apply ok_some) | (with_reducible apply ok_esc) | (with_reducible apply ok_then))); (all_goals try dsimp only); (all_goals try (exfalso; omega))
      · rename_i c
        have c' : g (l.getD j default) = false := by simpa using c
        rw [if_neg (by rw [c']; exact Bool.false_ne_true)] at hfj
        refine ⟨⟨j + 1, i + 1, by simp, by simp, by omega, by omega, by simp [e5], ?_, fun q h1 h2 => ?_⟩, by simp; omega⟩
        · rw [take_set_succ (by omega), e6, hfj]
        · rw [getD_set_ne' (by omega)]; exact e7 q (by omega) h2
      · rename_i c
        have c' : g (l.getD j default) = true := by simpa using c
        rw [if_pos c', List.append_nil] at hfj
        exact ⟨⟨j + 1, i, by simp, rfl, by omega, by omega, e5, by rw [hfj]; exact e6, fun q h1 h2 => e7 q (by omega) h2⟩, by simp; omega⟩
    · have hj : j = l.length := by omega
      subst hj
      rw [Int.toNat_natCast, Nat.sub_zero, List.append_assoc, List.take_append_of_le_length (by rw [List.length_take]; omega), List.take_take, Nat.min_self, e6, List.take_length]
theorem o_slices_DeleteFunc_Rect_o {l : List TRect} {f : TRect → Option Bool} {g : TRect → Bool} (hl : l.length < 1000000000000) (hf : ∀ x ∈ l, f x = some (g x)) {Q_ : _ → Prop} (k_ : Q_ (l.filter fun x => !g x)) : Ok (p_slices_DeleteFunc_Rect_o l f) Q_ := ok_of (t_slices_DeleteFunc_Rect_o hl hf) k_
theorem s_slices_DeleteFunc_Rect_o {β : Type} {cc_ : Prop} {d_ : Decidable cc_} {l : List TRect} {f : TRect → Option Bool} {g : TRect → Bool} (hl : cc_ → (l.length < 1000000000000)) (hf : cc_ → (∀ x ∈ l, f x = some (g x))) {e_ : _} {f_ : _ → Option β} {Q_ : β → Prop} (hd : ¬ cc_ → f_ e_ = f_ (l.filter fun x => !g x)) (k_ : Ok (f_ (l.filter fun x => !g x)) Q_) : Ok (Option.bind (@ite _ cc_ d_ (p_slices_DeleteFunc_Rect_o l f) (some e_)) f_) Q_ := ok_short (fun hc__ => t_slices_DeleteFunc_Rect_o (hl hc__) (hf hc__)) hd k_
end Go.Nw
