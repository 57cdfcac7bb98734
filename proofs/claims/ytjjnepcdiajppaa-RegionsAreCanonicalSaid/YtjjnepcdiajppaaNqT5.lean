/- NqT5: a part of the proof. -/
import Derived.Test.YtjjnepcdiajppaaNqT4
set_option linter.unusedVariables false
set_option linter.unusedSimpArgs false
set_option maxRecDepth 100000
namespace Go.Nw
/-! Which squares a region has. -/
open Classical in
noncomputable def sqF (l : List TRect) (p : TPoint) : Bool := decide (cov l p.X p.Y)
theorem sqF_iff {l : List TRect} {p : TPoint} : sqF l p = true ↔ cov l p.X p.Y := by simp [sqF]
theorem t_shape_HasSquare {l : List TRect} {p : TPoint} (hl : l.length < 281474976710656) : p_shape_HasSquare l p = some (sqF l p) := by
  apply ok_val
  unfold p_shape_HasSquare
  refine ok_then ?_
  unfold p_slices_ContainsFunc_Rect
  refine ok_then (o_slices_IndexFunc_Rect (g := fun a => decide (TRect.X0 a ≤ TPoint.X p) && decide (TPoint.X p < TRect.X1 a) && decide (TRect.Y0 a ≤ TPoint.Y p) && decide (TPoint.Y p < TRect.Y1 a)) hl (fun x hx => rfl) ?_)
  refine ok_some (ok_some ?_)
  rw [Bool.eq_iff_iff, decide_eq_true_eq, firstF_any, sqF_iff]
  constructor
  · rintro ⟨i, hi, h⟩
    simp only [Bool.and_eq_true, decide_eq_true_eq] at h
    exact ⟨_, mem_getD hi, ⟨h.1.1.1, h.1.1.2⟩, h.1.2, h.2⟩
  · rintro ⟨r, hr, ⟨h1, h2⟩, h3, h4⟩
    obtain ⟨i, hi, rfl⟩ := List.getElem_of_mem hr
    refine ⟨i, hi, ?_⟩
    rw [getD_in hi]
    simp only [Bool.and_eq_true, decide_eq_true_eq]
    exact ⟨⟨⟨h1, h2⟩, h3⟩, h4⟩
theorem o_shape_HasSquare {l : List TRect} {p : TPoint} (hl : l.length < 281474976710656) {Q_ : _ → Prop} (k_ : Q_ (sqF l p)) : Ok (p_shape_HasSquare l p) Q_ := ok_of (t_shape_HasSquare hl) k_
theorem s_shape_HasSquare {β : Type} {cc_ : Prop} {d_ : Decidable cc_} {l : List TRect} {p : TPoint} (hl : cc_ → (l.length < 281474976710656)) {e_ : _} {f_ : _ → Option β} {Q_ : β → Prop} (hd : ¬ cc_ → f_ e_ = f_ (sqF l p)) (k_ : Ok (f_ (sqF l p)) Q_) : Ok (Option.bind (@ite _ cc_ d_ (p_shape_HasSquare l p) (some e_)) f_) Q_ := ok_short (fun hc__ => t_shape_HasSquare (hl hc__)) hd k_
noncomputable def hasF (l : List TRect) (p : TPoint) : Bool × Int := if regionFault l = 0 then (if isPointF p = true then (sqF l p, 0) else (false, 1)) else (false, regionFault l)
theorem t_shape_Has {l : List TRect} {p : TPoint} (hl : l.length < 281474976710656) : p_shape_Has l p = some (hasF l p) := by
  apply ok_val
  unfold p_shape_Has
  unfold hasF
  refine ok_then (o_shape_CheckRegion hl ?_)
  by_cases h0 : regionFault l = 0
  · rw [if_pos h0, if_pos h0]
    refine ok_then (o_shape_IsPoint ?_)
    by_cases h1 : isPointF p = true
    · rw [if_pos h1, if_neg (by simp [h1])]
      exact ok_then (o_shape_HasSquare hl (ok_some rfl))
    · rw [if_neg h1, if_pos (by simp [h1])]; exact ok_some rfl
  · rw [if_neg h0, if_neg h0]; exact ok_some rfl
theorem o_shape_Has {l : List TRect} {p : TPoint} (hl : l.length < 281474976710656) {Q_ : _ → Prop} (k_ : Q_ (hasF l p)) : Ok (p_shape_Has l p) Q_ := ok_of (t_shape_Has hl) k_
theorem s_shape_Has {β : Type} {cc_ : Prop} {d_ : Decidable cc_} {l : List TRect} {p : TPoint} (hl : cc_ → (l.length < 281474976710656)) {e_ : _} {f_ : _ → Option β} {Q_ : β → Prop} (hd : ¬ cc_ → f_ e_ = f_ (hasF l p)) (k_ : Ok (f_ (hasF l p)) Q_) : Ok (Option.bind (@ite _ cc_ d_ (p_shape_Has l p) (some e_)) f_) Q_ := ok_short (fun hc__ => t_shape_Has (hl hc__)) hd k_
theorem t_ref1_Has {l : List TRect} {p : TPoint} (hl : l.length < 281474976710656) : p_ref1_Has l p = some (hasF l p) := by
  apply ok_val
  unfold p_ref1_Has
  unfold hasF
  refine ok_then (o_ref1_CheckRegion hl ?_)
  by_cases h0 : regionFault l = 0
  · rw [if_pos h0, if_pos h0]
    obtain ⟨k1, k2⟩ := rectsFault_0.1 (regionFault_r h0)
    refine ok_then (o_ref1_IsPoint ?_)
    by_cases h1 : isPointF p = true
    · rw [if_pos h1, if_neg (by simp [h1])]
      refine ok_then ?_
      unfold p_ref1_HasPoint
      have hx := fun r hr => (k2 r hr).xx
      have r1 := (rowF_all hx p.Y).2.1
      have r2 := rowF_ok hx p.Y
      refine ok_then (o_ref1_row (by omega) hx ?_)
      refine ok_then (o_ref1_inside (by omega) r2.1 r2.2.1 ?_)
      refine ok_some (ok_some ?_)
      have : inX (rowF l p.Y) p.X = sqF l p := by rw [Bool.eq_iff_iff, r2.2.2, sqF_iff]; rfl
      rw [this]
    · rw [if_neg h1, if_pos (by simp [h1])]; exact ok_some rfl
  · rw [if_neg h0, if_neg h0]; exact ok_some rfl
theorem o_ref1_Has {l : List TRect} {p : TPoint} (hl : l.length < 281474976710656) {Q_ : _ → Prop} (k_ : Q_ (hasF l p)) : Ok (p_ref1_Has l p) Q_ := ok_of (t_ref1_Has hl) k_
theorem s_ref1_Has {β : Type} {cc_ : Prop} {d_ : Decidable cc_} {l : List TRect} {p : TPoint} (hl : cc_ → (l.length < 281474976710656)) {e_ : _} {f_ : _ → Option β} {Q_ : β → Prop} (hd : ¬ cc_ → f_ e_ = f_ (hasF l p)) (k_ : Ok (f_ (hasF l p)) Q_) : Ok (Option.bind (@ite _ cc_ d_ (p_ref1_Has l p) (some e_)) f_) Q_ := ok_short (fun hc__ => t_ref1_Has (hl hc__)) hd k_
theorem o_law1_has {l : List TRect} {p : TPoint} (hl : l.length < 281474976710656) {Q : Bool → Prop} (k : Q (decide (regionFault l = 0) && isPointF p && sqF l p)) : Ok (p_law1_has l p) Q := by
  unfold p_law1_has
  refine ok_then (o_shape_Has hl (ok_some ?_))
  have e : (decide ((hasF l p).2 = 0) && (hasF l p).1) = (decide (regionFault l = 0) && isPointF p && sqF l p) := by
    unfold hasF
    by_cases h0 : regionFault l = 0
    · rw [if_pos h0, h0]
      by_cases h1 : isPointF p = true
      · rw [if_pos h1, h1]; simp
      · rw [if_neg h1]; simp at h1; simp [h1]
    · rw [if_neg h0]; simp [h0]
  rw [e]; exact k
/-! What rectangles of bands are like. -/
theorem rectsB_sorted (b : Bd) (hu : Up b.xs) : (rectsB b).Pairwise fun r q => befF r q = true := by
  have : ∀ {l : List Int}, Up l → (pairsX l).Pairwise fun p q => p.1 < q.1 := by
    intro l
    match l with
    | [] => intro _; exact List.Pairwise.nil
    | [a] => intro _; exact List.Pairwise.nil
    | a :: c :: l =>
      intro hu
      have ih : ∀ {l : List Int}, Up l → ∀ p ∈ pairsX l, p.1 ∈ l := fun h p hp => (pairsX_lt h p hp).2.1
      obtain ⟨h1, h2⟩ := List.pairwise_cons.1 hu
      obtain ⟨h3, h4⟩ := List.pairwise_cons.1 h2
      refine List.pairwise_cons.2 ⟨fun q hq => h1 _ (by simp [ih h4 q hq]), ?_⟩
      have g := fl_up (l := pairsX l)
      by_cases he : l.length % 2 = 0
      · rw [fl_pairsX he] at g
        have := (g h4)
        exact this.ap.imp_of_mem fun {p q} hp hq hpq => by have := this.lt p hp; omega
      · -- an odd row: its pairs are those of the row without its last
        have hd : pairsX l = pairsX l.dropLast := by
          clear g ih h1 h2 h3 hu
          have : ∀ n (l : List Int), l.length = n → l.length % 2 = 1 → pairsX l = pairsX l.dropLast := by
            intro n
            induction n using Nat.strongRecOn with
            | ind n IH =>
              intro l hn ho
              match l with
              | [] => rfl
              | [a] => rfl
              | [a, b] => simp at ho
              | a :: b :: c :: l => 
                have := IH (c :: l).length (by rw [← hn]; simp only [List.length_cons]; omega) (c :: l) rfl (by simp only [List.length_cons] at ho ⊢; omega)
                simp only [pairsX, List.dropLast_cons_cons] at this ⊢
                rw [this]
          exact this _ l rfl (by omega)
        rw [hd] at g ⊢
        rw [fl_pairsX (by rw [List.length_dropLast]; omega)] at g
        have := g (h4.sublist (List.dropLast_sublist l))
        exact this.ap.imp_of_mem fun {p q} hp hq hpq => by have := this.lt p hp; omega
  unfold rectsB
  refine List.pairwise_map.2 ((this hu).imp fun {p q} h => ?_)
  simp [befF, h]
theorem rectsOf_sorted : ∀ {S : List Bd}, Canon S → (rectsOf S).Pairwise fun r q => befF r q = true
  | [], _ => List.Pairwise.nil
  | b :: S, h => by
    have hb := h.ok b (by simp)
    rw [rectsOf, List.flatMap_cons]
    refine List.pairwise_append.2 ⟨rectsB_sorted b hb.up, rectsOf_sorted h.tail, fun r hr q hq => ?_⟩
    obtain ⟨p, hp, rfl⟩ := List.mem_map.1 hr
    obtain ⟨c, hc, h1, h2, -⟩ := mem_rectsOf.1 (show q ∈ rectsOf S from hq)
    have := h.head c hc
    have := hb.lt
    simp only [befF, Bool.or_eq_true, decide_eq_true_eq]
    left; omega
theorem rectsOf_lt {S : List Bd} (h : Canon S) {r : TRect} (hr : r ∈ rectsOf S) : r.X0 < r.X1 ∧ r.Y0 < r.Y1 := by
  obtain ⟨b, hb, h1, h2, h3⟩ := mem_rectsOf.1 hr
  have ok := h.ok b hb
  have := (pairsX_lt ok.up _ h3).1
  have := ok.lt
  simp only at *; omega
/-- bands within the range are a right region -/
theorem region_bands {S : List Bd} (h : Canon S) (hn : (rectsOf S).length ≤ 2000) (hb : ∀ x y, inB S x y = true → (-1000000 ≤ x ∧ x < 1000000) ∧ -1000000 ≤ y ∧ y < 1000000) : regionFault (rectsOf S) = 0 := by
  refine regionFault_0.2 ⟨⟨hn, fun r hr => ?_, ?_⟩, fun j h1 h2 => ?_⟩
  · obtain ⟨q1, q2⟩ := rectsOf_lt h hr
    have c1 := hb _ _ ((cov_rectsOf h r.X0 r.Y0).1 ⟨r, hr, ⟨Int.le_refl _, q1⟩, Int.le_refl _, q2⟩)
    have c2 := hb _ _ ((cov_rectsOf h (r.X1 - 1) (r.Y1 - 1)).1 ⟨r, hr, ⟨by omega, by omega⟩, by omega, by omega⟩)
    exact ⟨by omega, q1, by omega, by omega, q2, by omega⟩
  · unfold canonF; rw [setB_cov h]
  · have := List.pairwise_iff_getElem.1 (rectsOf_sorted h) (j - 1) j (by omega) (by omega) (by omega)
    rw [getD_in (by omega), getD_in (by omega)]; exact this
theorem cov_in {l : List TRect} (h : ∀ r ∈ l, RIn r) {x y : Int} (hc : cov l x y) : (-1000000 ≤ x ∧ x < 1000000) ∧ -1000000 ≤ y ∧ y < 1000000 := by
  obtain ⟨r, hr, ⟨h1, h2⟩, h3, h4⟩ := hc
  have a := h r hr
  have := a.x0; have := a.x1; have := a.y0; have := a.y1
  omega
/-- two right regions taken together are one, if they are not too large -/
theorem twoF_0 {l m : List TRect} {n : Int} (h : (twoF n l m).2 = 0) : regionFault l = 0 ∧ regionFault m = 0 ∧ (twoF n l m).1 = combF n l m ∧ regionFault (combF n l m) = 0 ∧ CombOk n l m := by
  unfold twoF at h ⊢
  by_cases h0 : regionFault l = 0
  · rw [if_pos h0] at h ⊢
    by_cases h1 : regionFault m = 0
    · rw [if_pos h1] at h ⊢
      have rl := regionFault_r h0; have rm := regionFault_r h1
      have C := comb_ok n rl rm
      have hc : ¬ 2000 < ((combF n l m).length : Int) := fun c => by unfold toldF at h; rw [if_pos c] at h; cases h
      refine ⟨h0, h1, by unfold toldF; rw [if_neg hc], region_bands C.canon (by unfold combF at hc; omega) (fun x y hxy => ?_), C⟩
      rcases ((C.cv x y).1 hxy).or with q | q
      · exact cov_in (rectsFault_0.1 rl).2 q
      · exact cov_in (rectsFault_0.1 rm).2 q
    · rw [if_neg h1] at h; exact absurd h h1
  · rw [if_neg h0] at h; exact absurd h h0
theorem twoF_n {l m : List TRect} {n : Int} (h : (twoF n l m).2 ≠ 0) : (twoF n l m).1 = [] := by
  unfold twoF at h ⊢
  split
  · rename_i h0
    rw [if_pos h0] at h
    split
    · rename_i h1
      rw [if_pos h1] at h
      unfold toldF at h ⊢
      split
      · rfl
      · rename_i h2; rw [if_neg h2] at h; exact absurd rfl h
    · rfl
  · rfl
theorem CombOk.cov {n : Int} {l m : List TRect} (C : CombOk n l m) (x y : Int) : cov (combF n l m) x y ↔ KeepP n (cov l x y) (cov m x y) := by
  unfold combF; rw [cov_rectsOf C.canon, C.cv]
theorem sq_comb {n : Int} {l m : List TRect} (C : CombOk n l m) (p : TPoint) : sqF (combF n l m) p = keepF n (sqF l p) (sqF m p) := by
  rw [Bool.eq_iff_iff, sqF_iff, C.cov, keepF_iff]
  exact keepP_congr sqF_iff.symm sqF_iff.symm
theorem row_SetsByPoints (a0 a1 : List TRect) (a2 : TPoint) (h0 : a0.length < 281474976710656 ∧ ∀ x ∈ a0, okTRect x) (h1 : a1.length < 281474976710656 ∧ ∀ x ∈ a1, okTRect x) (h2 : okTPoint a2) : p_law1_SetsByPoints a0 a1 a2 = some true := by
  have hl := h0.1
  have hm := h1.1
  have t1 := twoF_len 1 a0 a1
  have t2 := twoF_len 2 a0 a1
  have t3 := twoF_len 3 a0 a1
  apply ok_val
  unfold p_law1_SetsByPoints
  refine ok_then (o_shape_Union hl hm ?_)
  refine ok_then (o_shape_Both hl hm ?_)
  refine ok_then (o_shape_Minus hl hm ?_)
  by_cases hc : (twoF 1 a0 a1).2 = 0 ∧ (twoF 2 a0 a1).2 = 0 ∧ (twoF 3 a0 a1).2 = 0
  · rw [if_neg (by simp [hc])]
    obtain ⟨c1, c2, c3⟩ := hc
    obtain ⟨f0, f1, e1, r1, C1⟩ := twoF_0 c1
    obtain ⟨-, -, e2, r2, C2⟩ := twoF_0 c2
    obtain ⟨-, -, e3, r3, C3⟩ := twoF_0 c3
    rw [e1] at t1 ⊢; rw [e2] at t2 ⊢; rw [e3] at t3 ⊢
    refine ok_then (o_law1_has hl ?_)
    refine ok_then (o_law1_has hm ?_)
    refine ok_then (o_law1_has (by omega) ?_)
    rw [f0, f1, r1, sq_comb C1]
    have k1 : ∀ a b : Bool, keepF 1 a b = (a || b) := fun a b => by cases a <;> cases b <;> rfl
    have k2 : ∀ a b : Bool, keepF 2 a b = (a && b) := fun a b => by cases a <;> cases b <;> rfl
    have k3 : ∀ a b : Bool, keepF 3 a b = (a && !b) := fun a b => by cases a <;> cases b <;> rfl
    rw [k1]
    simp only [decide_true, Bool.true_and]
    have i1 : (isPointF a2 && (sqF a0 a2 || sqF a1 a2)) = ((isPointF a2 && sqF a0 a2) || (isPointF a2 && sqF a1 a2)) := by cases isPointF a2 <;> cases sqF a0 a2 <;> cases sqF a1 a2 <;> rfl
    have i2 : (isPointF a2 && (sqF a0 a2 && sqF a1 a2)) = ((isPointF a2 && sqF a0 a2) && (isPointF a2 && sqF a1 a2)) := by cases isPointF a2 <;> cases sqF a0 a2 <;> cases sqF a1 a2 <;> rfl
    have i3 : (isPointF a2 && (sqF a0 a2 && !sqF a1 a2)) = ((isPointF a2 && sqF a0 a2) && !(isPointF a2 && sqF a1 a2)) := by cases isPointF a2 <;> cases sqF a0 a2 <;> cases sqF a1 a2 <;> rfl
    rw [i1]
    obtain ⟨u, hu⟩ : ∃ u, u = (isPointF a2 && sqF a0 a2) := ⟨_, rfl⟩
    obtain ⟨v, hv⟩ : ∃ v, v = (isPointF a2 && sqF a1 a2) := ⟨_, rfl⟩
    rw [if_pos (by simp)]
    refine ok_then (o_law1_has (by omega) ?_)
    rw [r2, sq_comb C2, k2]
    simp only [decide_true, Bool.true_and]
    rw [i2, ← hu, ← hv, if_pos (by intro h1 h2; simp [h2]), if_pos (by simp)]
    refine ok_then (o_law1_has (by omega) ?_)
    rw [r3, sq_comb C3, k3]
    simp only [decide_true, Bool.true_and]
    rw [i3, ← hu, ← hv, if_pos (by intro h1 h2; simp [h2]), if_pos (by simp)]
    exact ok_then (o_law1_awake (ok_some (by simp)))
  · rw [if_pos (by simp only [Bool.or_eq_true, Bool.not_eq_true', decide_eq_false_iff_not]; simp only [Classical.not_and_iff_not_or_not] at hc; rcases hc with h | h | h; exact .inl (.inl h); exact .inl (.inr h); exact .inr h)]
    have hy : (decide ((twoF 1 a0 a1).2 = 0) || decide (((twoF 1 a0 a1).1.length : Int) = 0)) = true := by
      by_cases c : (twoF 1 a0 a1).2 = 0
      · simp [c]
      · simp [twoF_n c]
    rw [if_pos hy]
    exact ok_then (o_law1_awake (ok_some (by rw [hy]; rfl)))
end Go.Nw
