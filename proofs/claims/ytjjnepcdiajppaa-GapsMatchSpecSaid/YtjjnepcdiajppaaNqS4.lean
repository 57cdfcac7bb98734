/- NqS4: a part of the proof. -/
import Derived.Test.YtjjnepcdiajppaaNqS3
set_option linter.unusedVariables false
set_option linter.unusedSimpArgs false
set_option maxRecDepth 100000
namespace Go.Nw
def toBd (b : TShapeBand) : Bd := ⟨b.Y0, b.Y1, b.Xs⟩
def ofBd (b : Bd) : TShapeBand := { Y0 := b.y0, Y1 := b.y1, Xs := b.xs }
theorem toBd_ofBd (b : Bd) : toBd (ofBd b) = b := rfl
theorem ofBd_toBd (b : TShapeBand) : ofBd (toBd b) = b := rfl
theorem map_toBd (l : List Bd) : (l.map ofBd).map toBd = l := by rw [List.map_map]; exact (List.map_congr_left fun _ _ => rfl).trans (List.map_id l)
theorem map_ofBd (l : List TShapeBand) : (l.map toBd).map ofBd = l := by rw [List.map_map]; exact (List.map_congr_left fun _ _ => rfl).trans (List.map_id l)
theorem t_shape_Set_push_o {s : List Bd} {b : Bd} (hl : s.length < 1000000000000) (hx : ∀ c ∈ s, c.xs.length < 1000000000000) (hb : b.xs.length < 1000000000000) : p_shape_Set_push_o (s.map ofBd) (ofBd b) = some ((pushB s b).map ofBd) := by
  apply ok_val
  unfold p_shape_Set_push_o
  have hbx : (ofBd b).Xs = b.xs := rfl
  have h0 : (ofBd b).Y0 = b.y0 := rfl
  have h1 : (ofBd b).Y1 = b.y1 := rfl
  simp only [List.length_map, hbx, h0, h1]
  by_cases hc' : b.xs = [] ∨ b.y1 ≤ b.y0
  · rw [if_pos (by
      simp only [Bool.or_eq_true, decide_eq_true_eq]
      rcases hc' with h | h
      · exact .inl (by rw [h]; rfl)
      · exact .inr h)]
    (try dsimp only); (repeat' (first | (with_reducible apply ok_guard; case h => (first | assumption | omega | (simp; done) | (simp; omega) | (and_intros <;> first | omega | (intro _; omega)) | (simp only [Bool.or_eq_true, Bool.and_eq_true, Bool.not_eq_true', Bool.not_eq_true, Bool.not_eq_false', Bool.not_eq_false, Bool.or_eq_false_iff, Bool.and_eq_false_iff, decide_eq_true_eq, decide_eq_false_iff_not, Bool.not_not, beq_iff_eq, bne_iff_ne] at *; omega))) | (with_reducible apply ok_guard) | (with_reducible apply ok_if <;> intro _) | (with_reducible apply ok_some) | (with_reducible apply ok_esc) | (with_reducible apply ok_then))); (all_goals try dsimp only); (all_goals try (exfalso; omega))
    rw [pushB, if_pos hc']
  rw [if_neg (by
    simp only [Bool.or_eq_true, decide_eq_true_eq]
    rintro (h | h)
    · exact hc' (.inl (List.eq_nil_of_length_eq_zero (by omega)))
    · exact hc' (.inr h)), pushB, if_neg hc']
  rcases List.eq_nil_or_concat s with rfl | ⟨s', c, rfl⟩
  · (try dsimp only); (repeat' (first | (with_reducible apply ok_guard; case h => (first | assumption | omega | (simp; done) | (simp; omega) | (and_intros <;> first | omega | (intro _; omega)) | (simp only [Bool.or_eq_true, Bool.and_eq_true, Bool.not_eq_true', Bool.not_eq_true, Bool.not_eq_false', Bool.not_eq_false, Bool.or_eq_false_iff, Bool.and_eq_false_iff, decide_eq_true_eq, decide_eq_false_iff_not, Bool.not_not, beq_iff_eq, bne_iff_ne] at *; omega))) | (with_reducible apply ok_guard) | (with_reducible apply ok_if <;> intro _) | (with_reducible apply ok_some) | (with_reducible apply ok_esc) | (with_reducible apply ok_then))); (all_goals try dsimp only); (all_goals try (exfalso; omega))
    · rename_i h; simp at h
    · rename_i h; simp at h
    · rfl
  · rw [List.concat_eq_append] at *
    have e0 : ((s' ++ [c]).length : Int) - 1 = (s'.length : Int) := by simp
    have e2 : (List.map ofBd (s' ++ [c])).getD s'.length default = ofBd c := by simp
    have e3 : (s' ++ [c]).getLast? = some c := by simp
    have e4 : (s' ++ [c]).dropLast = s' := by simp
    have e5 : (s' ++ [c]).length = s'.length + 1 := by simp
    have c1 : (ofBd c).Y1 = c.y1 := rfl
    have c0 : (ofBd c).Y0 = c.y0 := rfl
    have cx : (ofBd c).Xs = c.xs := rfl
    have e6 : ∀ v, (List.map ofBd (s' ++ [c])).set s'.length v = List.map ofBd s' ++ [v] := fun v => by
      rw [List.map_append, List.set_append_right _ _ (by simp)]; simp
    have hcx : c.xs.length < 281474976710656 := by have := hx c (by simp); omega
    have e7 : decide ((0 : Int) ≤ (s'.length : Int)) = true := by simp
    simp only [e0, Int.toNat_natCast, e2, e3, e4, c1, c0, cx, e6, e7, Bool.true_and]
    simp only [e5] at hl ⊢
    rw [if_pos ⟨by omega, by omega⟩, if_pos ⟨fun _ => ⟨by omega, by omega⟩, fun _ => by omega, fun _ => ⟨by omega, by omega⟩, fun _ => by omega⟩]
    by_cases h : c.y1 = b.y0
    · rw [if_pos (decide_eq_true h)]
      refine ok_then (o_slices_Equal_int hcx ?_)
      by_cases hq : c.xs = b.xs
      · rw [if_pos (by simp [h, hq]), if_pos (by simp), if_pos ⟨h, hq⟩]
        refine ok_some ?_
        rw [List.take_of_length_le (by simp)]
        simp [ofBd]
      · rw [if_neg (by simp [hq]), if_pos (by omega), if_neg (fun e => hq e.2)]
        refine ok_some ?_
        simp
    · rw [if_neg (by simp [h])]
      refine ok_then (ok_some ?_)
      rw [if_neg (by simp [h]), if_pos (by omega), if_neg (fun e => h e.1)]
      refine ok_some ?_
      simp
theorem o_shape_Set_push_o {s : List Bd} {b : Bd} (hl : s.length < 1000000000000) (hx : ∀ c ∈ s, c.xs.length < 1000000000000) (hb : b.xs.length < 1000000000000) {Q_ : _ → Prop} (k_ : Q_ ((pushB s b).map ofBd)) : Ok (p_shape_Set_push_o (s.map ofBd) (ofBd b)) Q_ := ok_of (t_shape_Set_push_o hl hx hb) k_
theorem s_shape_Set_push_o {β : Type} {cc_ : Prop} {d_ : Decidable cc_} {s : List Bd} {b : Bd} (hl : cc_ → (s.length < 1000000000000)) (hx : cc_ → (∀ c ∈ s, c.xs.length < 1000000000000)) (hb : cc_ → (b.xs.length < 1000000000000)) {e_ : _} {f_ : _ → Option β} {Q_ : β → Prop} (hd : ¬ cc_ → f_ e_ = f_ ((pushB s b).map ofBd)) (k_ : Ok (f_ ((pushB s b).map ofBd)) Q_) : Ok (Option.bind (@ite _ cc_ d_ (p_shape_Set_push_o (s.map ofBd) (ofBd b)) (some e_)) f_) Q_ := ok_short (fun hc__ => t_shape_Set_push_o (hl hc__) (hx hc__) (hb hc__)) hd k_
end Go.Nw
