/- NqT9: a part of the proof. -/
import Derived.Test.YtjjnepcdiajppaaNqT5
set_option linter.unusedVariables false
set_option linter.unusedSimpArgs false
set_option maxRecDepth 100000
namespace Go.Nw
theorem getD_set_eq {α : Type} {s : List α} {i q : Nat} {v d : α} (h : i < s.length) : (s.set i v).getD q d = if i = q then v else s.getD q d := by
  by_cases c : i = q
  · subst c; rw [if_pos rfl]; simp [h]
  · rw [if_neg c, getD_set_ne' c]
theorem t_slices_Reverse_Rect_o {l : List TRect} (hl : l.length < 281474976710656) : p_slices_Reverse_Rect_o l = some (l.reverse) := by
  apply ok_val
  unfold p_slices_Reverse_Rect_o
  refine ok_guard (by omega) ?_
  refine ok_loop (fun s : Int × Int × List TRect => ∃ i : Nat, s.2.1 = i ∧ s.1 = (l.length : Int) - 1 - i ∧ 2 * i ≤ l.length + 1 ∧ s.2.2.length = l.length ∧ ∀ q < l.length, s.2.2.getD q default = if q < i ∨ l.length < q + i + 1 then l.getD (l.length - 1 - q) default else l.getD q default) (fun s => s.1.toNat)
    ⟨0, rfl, by simp, by omega, rfl, fun q hq => by simp only; rw [if_neg (by omega)]⟩ ?_
  rintro ⟨j', i', m⟩ ⟨i, e1, e2, h1, h2, h3⟩
  simp only at e1 e2 h2 h3
  subst e1 e2
  simp only [Int.toNat_natCast]
  by_cases c : (i : Int) < (l.length : Int) - 1 - i
  · have e3 : ((l.length : Int) - 1 - i).toNat = l.length - 1 - i := by omega
    simp only [e3]
    rw [if_pos c, if_pos ⟨by omega, by omega, by omega, by omega, by omega, by omega, by omega, by omega, by omega, by omega, by omega, by rw [List.length_set]; omega⟩]
    refine ok_some ⟨⟨i + 1, by simp, by simp only; omega, by omega, by simp only [List.length_set]; exact h2, fun q hq => ?_⟩, by simp only; omega⟩
    simp only
    rw [getD_set_eq (by rw [List.length_set]; omega), getD_set_eq (by omega), h3 _ (show l.length - 1 - i < l.length by omega), h3 i (by omega), h3 q hq]
    rw [if_neg (show ¬ (l.length - 1 - i < i ∨ l.length < l.length - 1 - i + i + 1) by omega), if_neg (show ¬ (i < i ∨ l.length < i + i + 1) by omega)]
    by_cases a : l.length - 1 - i = q
    · rw [if_pos a, if_pos (by omega), ← a, show l.length - 1 - (l.length - 1 - i) = i by omega]
    · rw [if_neg a]
      by_cases b : i = q
      · rw [if_pos b, if_pos (by omega), ← b]
      · rw [if_neg b]
        by_cases d : q < i ∨ l.length < q + i + 1
        · rw [if_pos d, if_pos (by omega)]
        · rw [if_neg d, if_neg (by omega)]
  · rw [if_neg c]
    refine ok_some ?_
    refine eq_of_getD (by simp only [List.length_reverse]; exact h2) fun q hq => ?_
    rw [h3 q (by omega)]
    have hr : l.reverse.getD q default = l.getD (l.length - 1 - q) default := by
      rw [getD_in (by rw [List.length_reverse]; omega), getD_in (by omega), List.getElem_reverse]
    rw [hr]
    by_cases d : q < i ∨ l.length < q + i + 1
    · rw [if_pos d]
    · rw [if_neg d, show l.length - 1 - q = q by omega]
theorem o_slices_Reverse_Rect_o {l : List TRect} (hl : l.length < 281474976710656) {Q_ : _ → Prop} (k_ : Q_ (l.reverse)) : Ok (p_slices_Reverse_Rect_o l) Q_ := ok_of (t_slices_Reverse_Rect_o hl) k_
theorem s_slices_Reverse_Rect_o {β : Type} {cc_ : Prop} {d_ : Decidable cc_} {l : List TRect} (hl : cc_ → (l.length < 281474976710656)) {e_ : _} {f_ : _ → Option β} {Q_ : β → Prop} (hd : ¬ cc_ → f_ e_ = f_ (l.reverse)) (k_ : Ok (f_ (l.reverse)) Q_) : Ok (Option.bind (@ite _ cc_ d_ (p_slices_Reverse_Rect_o l) (some e_)) f_) Q_ := ok_short (fun hc__ => t_slices_Reverse_Rect_o (hl hc__)) hd k_
theorem rectsFault_mem {l m : List TRect} (hn : l.length = m.length) (h : ∀ r, r ∈ l ↔ r ∈ m) : rectsFault l = 0 ↔ rectsFault m = 0 := by
  rw [rectsFault_0, rectsFault_0, hn]
  exact and_congr Iff.rfl ⟨fun g r hr => g r ((h r).2 hr), fun g r hr => g r ((h r).1 hr)⟩
theorem canonF_mem {l m : List TRect} (h : ∀ r, r ∈ l ↔ r ∈ m) : canonF l = canonF m := by
  unfold canonF
  rw [setB_congr (Q := cov m) fun x y => ?_]
  exact ⟨fun ⟨r, hr, h'⟩ => ⟨r, (h r).1 hr, h'⟩, fun ⟨r, hr, h'⟩ => ⟨r, (h r).2 hr, h'⟩⟩
theorem regionF_0 {l : List TRect} (h : (regionF l).2 = 0) : rectsFault l = 0 ∧ (canonF l).length ≤ 2000 ∧ regionF l = (canonF l, 0) := by
  unfold regionF at h ⊢
  by_cases h0 : rectsFault l = 0
  · rw [if_pos h0] at h ⊢
    have hc : ¬ 2000 < ((canonF l).length : Int) := fun c => by unfold toldF at h; rw [if_pos c] at h; cases h
    refine ⟨h0, by omega, ?_⟩
    unfold toldF; rw [if_neg hc]
  · rw [if_neg h0] at h; exact absurd h h0
theorem regionF_n {l : List TRect} (h : (regionF l).2 ≠ 0) : (regionF l).1 = [] := by
  unfold regionF at h ⊢
  split
  · rename_i h0
    rw [if_pos h0] at h
    unfold toldF at h ⊢
    split
    · rfl
    · rename_i h2; rw [if_neg h2] at h; exact absurd rfl h
  · rfl
theorem regionF_ok {l : List TRect} (h0 : rectsFault l = 0) (h1 : (canonF l).length ≤ 2000) : regionF l = (canonF l, 0) := by
  unfold regionF toldF
  rw [if_pos h0, if_neg (by omega)]
theorem canon_region {l : List TRect} (h0 : rectsFault l = 0) (h1 : (canonF l).length ≤ 2000) : regionFault (canonF l) = 0 := by
  obtain ⟨T, cv⟩ := set_tame h0
  exact region_bands T.canon h1 fun x y hxy => cov_in (rectsFault_0.1 h0).2 ((cv x y).1 hxy)
theorem row_RegionsAreCanonical (a0 : List TRect) (h0 : a0.length < 281474976710656 ∧ ∀ x ∈ a0, okTRect x) : p_law1_RegionsAreCanonical a0 = some true := by
  have hl := h0.1
  have hn := regionF_len a0
  apply ok_val
  unfold p_law1_RegionsAreCanonical
  refine ok_then (o_shape_Region hl ?_)
  by_cases hc : (regionF a0).2 = 0
  · rw [if_pos hc]
    obtain ⟨r0, r1, r2⟩ := regionF_0 hc
    have ra := (rectsFault_0.1 r0).1
    rw [r2] at hn ⊢
    refine ok_then (o_slices_Clone_Rect_o (by omega) ?_)
    refine ok_then (o_slices_Reverse_Rect_o hl ?_)
    rw [if_pos (by simp), List.drop_zero, List.take_of_length_le (by simp)]
    have hm : ∀ r, r ∈ a0.reverse ↔ r ∈ a0 := fun r => List.mem_reverse
    have e1 : regionF a0.reverse = (canonF a0, 0) := by
      have := canonF_mem hm
      rw [regionF_ok ((rectsFault_mem (by simp) hm).2 r0) (by rw [this]; exact r1), this]
    have f := canon_region r0 r1
    have R := (regionFault_0.1 f).1
    have e2 : regionF (canonF a0) = (canonF a0, 0) := by
      rw [regionF_ok (regionFault_r f) (by rw [R.canon]; exact r1), R.canon]
    refine ok_then (o_shape_Region (by rw [List.length_reverse]; exact hl) ?_)
    refine ok_then (o_shape_Region (by simp only; omega) ?_)
    rw [e1, e2]
    simp only [decide_true, if_true]
    refine ok_then (o_slices_Equal_Rect (by omega) ?_)
    simp only [decide_true, Bool.and_self, if_true]
    refine ok_then (o_slices_Equal_Rect (by omega) ?_)
    simp only [decide_true, Bool.and_self, if_true]
    refine ok_then (o_shape_CheckRegion (by omega) ?_)
    rw [f]
    simp only [decide_true, Bool.and_self, if_true]
    exact ok_then (o_law1_awake (ok_some rfl))
  · rw [if_neg hc, regionF_n hc, if_pos (by simp)]
    exact ok_then (o_law1_awake (ok_some rfl))
end Go.Nw
