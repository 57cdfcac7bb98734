/- NqS8: a part of the proof. -/
import Derived.Test.YtjjnepcdiajppaaNqS7
set_option linter.unusedVariables false
set_option linter.unusedSimpArgs false
set_option maxRecDepth 100000
namespace Go.Nw
def rectFault (r : TRect) : Int := if isRectF r = false then 1 else if r.X1 ≤ r.X0 ∨ r.Y1 ≤ r.Y0 then 13 else 0
noncomputable def rectsFault (l : List TRect) : Int := if 2000 < (l.length : Int) then 2 else faultF l.length fun i => rectFault (l.getD i default)
theorem isRectF_iff {r : TRect} : isRectF r = true ↔ (-1000000 ≤ r.X0 ∧ r.X0 ≤ 1000000) ∧ (-1000000 ≤ r.Y0 ∧ r.Y0 ≤ 1000000) ∧ (-1000000 ≤ r.X1 ∧ r.X1 ≤ 1000000) ∧ -1000000 ≤ r.Y1 ∧ r.Y1 ≤ 1000000 := by
  simp only [isRectF, isAtF, Bool.and_eq_true, decide_eq_true_eq]; omega
/-- a rectangle within the range, not empty -/
structure RIn (r : TRect) : Prop where
  x0 : -1000000 ≤ r.X0
  xx : r.X0 < r.X1
  x1 : r.X1 ≤ 1000000
  y0 : -1000000 ≤ r.Y0
  yy : r.Y0 < r.Y1
  y1 : r.Y1 ≤ 1000000
theorem RIn.ok {r : TRect} (h : RIn r) : ROk r := by obtain ⟨h1, h2, h3, h4, h5, h6⟩ := h; exact ⟨by omega, h2, by omega, by omega, h5, by omega⟩
theorem rectFault_0 {r : TRect} : rectFault r = 0 ↔ RIn r := by
  unfold rectFault
  by_cases c : isRectF r = false
  · rw [if_pos c]
    constructor
    · intro h; cases h
    · rintro ⟨h1, h2, h3, h4, h5, h6⟩
      have := (isRectF_iff (r := r)).2 (by omega)
      rw [c] at this; cases this
  · rw [if_neg c]
    have c' := (isRectF_iff (r := r)).1 (by simpa using c)
    by_cases d : r.X1 ≤ r.X0 ∨ r.Y1 ≤ r.Y0
    · rw [if_pos d]
      constructor
      · intro h; cases h
      · rintro ⟨h1, h2, h3, h4, h5, h6⟩; omega
    · rw [if_neg d]; exact ⟨fun _ => ⟨by omega, by omega, by omega, by omega, by omega, by omega⟩, fun _ => rfl⟩
theorem rectsFault_0 {l : List TRect} : rectsFault l = 0 ↔ l.length ≤ 2000 ∧ ∀ r ∈ l, RIn r := by
  unfold rectsFault
  by_cases c : 2000 < (l.length : Int)
  · rw [if_pos c]
    constructor
    · intro h; cases h
    · intro h; omega
  · rw [if_neg c, faultF_eq0]
    constructor
    · intro h
      refine ⟨by omega, fun r hr => ?_⟩
      obtain ⟨i, hi, rfl⟩ := List.getElem_of_mem hr
      have := h i hi
      rw [getD_in hi] at this
      exact rectFault_0.1 this
    · rintro ⟨_, h⟩ j hj
      exact rectFault_0.2 (h _ (mem_getD hj))
theorem t_shape_CheckRects {l : List TRect} (hl : l.length < 281474976710656) : p_shape_CheckRects l = some (rectsFault l) := by
  apply ok_val
  unfold p_shape_CheckRects
  (try dsimp only); (repeat' (first | (with_reducible apply ok_guard; case h => (first | assumption | omega | (simp; done) | (simp; omega) | (and_intros <;> first | omega | (intro _; omega)) | (simp only [Bool.or_eq_true, Bool.and_eq_true, Bool.not_eq_true', Bool.not_eq_true, Bool.not_eq_false', Bool.not_eq_false, Bool.or_eq_false_iff, Bool.and_eq_false_iff, decide_eq_true_eq, decide_eq_false_iff_not, Bool.not_not, beq_iff_eq, bne_iff_ne] at *; omega))) | (with_reducible apply ok_guard) | (with_reducible apply ok_if <;> intro _) | (with_reducible apply ok_some) | (with_reducible apply ok_esc) | (with_reducible apply ok_then))); (all_goals try dsimp only); (all_goals try (exfalso; omega))
  · rw [rectsFault, if_pos ‹_›]
  rename_i c0
  refine ok_for l.length (fun i _ => ∀ j < i, rectFault (l.getD j default) = 0) (by intro j h; omega) ?_ ?_
  · intro i x hi hI
    simp only [Int.toNat_natCast]
    (try dsimp only); (repeat' (first | (with_reducible apply s_shape_isRect; case hd => (intro hc; simp only [Bool.not_not, Bool.not_eq_true, Bool.not_eq_false'] at hc; simp only [hc, Bool.true_or, Bool.false_and, Bool.not_true, Bool.not_false, Bool.or_true, Bool.and_false])) | (with_reducible apply o_shape_isRect <;> try first | assumption | omega) | (with_reducible apply ok_guard; case h => (first | assumption | omega | (simp; done) | (simp; omega) | (and_intros <;> first | omega | (intro _; omega)) | (simp only [Bool.or_eq_true, Bool.and_eq_true, Bool.not_eq_true', Bool.not_eq_true, Bool.not_eq_false', Bool.not_eq_false, Bool.or_eq_false_iff, Bool.and_eq_false_iff, decide_eq_true_eq, decide_eq_false_iff_not, Bool.not_not, beq_iff_eq, bne_iff_ne] at *; omega))) | (with_reducible apply ok_guard) | (with_reducible apply ok_if <;> intro _) | (with_reducible apply ok_some) | (with_reducible apply ok_esc) | (with_reducible apply ok_then))); (all_goals try dsimp only); (all_goals try (exfalso; omega))
    · rename_i h
      have e : rectFault (l.getD i default) = 1 := by rw [rectFault, if_pos (by simpa using h)]
      rw [rectsFault, if_neg c0, faultF_at hi (by rw [e]; decide) hI, e]
    · rename_i h1 h2
      have e : rectFault (l.getD i default) = 13 := by rw [rectFault, if_neg (by simpa using h1), if_pos (by simpa using h2)]
      rw [rectsFault, if_neg c0, faultF_at hi (by rw [e]; decide) hI, e]
    · rename_i h1 h2
      exact ⟨rfl, all_lt hI (by rw [rectFault, if_neg (by simpa using h1), if_neg (by simpa using h2)])⟩
  · intro x hI
    (try dsimp only); (repeat' (first | (with_reducible apply ok_guard; case h => (first | assumption | omega | (simp; done) | (simp; omega) | (and_intros <;> first | omega | (intro _; omega)) | (simp only [Bool.or_eq_true, Bool.and_eq_true, Bool.not_eq_true', Bool.not_eq_true, Bool.not_eq_false', Bool.not_eq_false, Bool.or_eq_false_iff, Bool.and_eq_false_iff, decide_eq_true_eq, decide_eq_false_iff_not, Bool.not_not, beq_iff_eq, bne_iff_ne] at *; omega))) | (with_reducible apply ok_guard) | (with_reducible apply ok_if <;> intro _) | (with_reducible apply ok_some) | (with_reducible apply ok_esc) | (with_reducible apply ok_then))); (all_goals try dsimp only); (all_goals try (exfalso; omega))
    rw [rectsFault, if_neg c0, faultF_0 hI]
theorem o_shape_CheckRects {l : List TRect} (hl : l.length < 281474976710656) {Q_ : _ → Prop} (k_ : Q_ (rectsFault l)) : Ok (p_shape_CheckRects l) Q_ := ok_of (t_shape_CheckRects hl) k_
theorem s_shape_CheckRects {β : Type} {cc_ : Prop} {d_ : Decidable cc_} {l : List TRect} (hl : cc_ → (l.length < 281474976710656)) {e_ : _} {f_ : _ → Option β} {Q_ : β → Prop} (hd : ¬ cc_ → f_ e_ = f_ (rectsFault l)) (k_ : Ok (f_ (rectsFault l)) Q_) : Ok (Option.bind (@ite _ cc_ d_ (p_shape_CheckRects l) (some e_)) f_) Q_ := ok_short (fun hc__ => t_shape_CheckRects (hl hc__)) hd k_
theorem notRect (r : TRect) : (!isAtF r.X0 || !isAtF r.Y0 || !isAtF r.X1 || !isAtF r.Y1) = !isRectF r := by simp [isRectF, Bool.not_and]
theorem t_ref1_CheckRects {l : List TRect} (hl : l.length < 281474976710656) : p_ref1_CheckRects l = some (rectsFault l) := by
  apply ok_val
  unfold p_ref1_CheckRects
  (try dsimp only); (repeat' (first | (with_reducible apply ok_guard; case h => (first | assumption | omega | (simp; done) | (simp; omega) | (and_intros <;> first | omega | (intro _; omega)) | (simp only [Bool.or_eq_true, Bool.and_eq_true, Bool.not_eq_true', Bool.not_eq_true, Bool.not_eq_false', Bool.not_eq_false, Bool.or_eq_false_iff, Bool.and_eq_false_iff, decide_eq_true_eq, decide_eq_false_iff_not, Bool.not_not, beq_iff_eq, bne_iff_ne] at *; omega))) | (with_reducible apply ok_guard) | (with_reducible apply ok_if <;> intro _) | (with_reducible apply ok_some) | (with_reducible apply ok_esc) | (with_reducible apply ok_then))); (all_goals try dsimp only); (all_goals try (exfalso; omega))
  · rw [rectsFault, if_pos ‹_›]
  rename_i c0
  refine ok_for l.length (fun i _ => ∀ j < i, rectFault (l.getD j default) = 0) (by intro j h; omega) ?_ ?_
  · intro i x hi hI
    simp only [Int.toNat_natCast]
    (try dsimp only); (repeat' (first | (with_reducible apply s_ref1_At; case hd => (intro hc; simp only [Bool.not_not, Bool.not_eq_true, Bool.not_eq_false'] at hc; simp only [hc, Bool.true_or, Bool.false_and, Bool.not_true, Bool.not_false, Bool.or_true, Bool.and_false])) | (with_reducible apply o_ref1_At <;> try first | assumption | omega) | (with_reducible apply ok_guard; case h => (first | assumption | omega | (simp; done) | (simp; omega) | (and_intros <;> first | omega | (intro _; omega)) | (simp only [Bool.or_eq_true, Bool.and_eq_true, Bool.not_eq_true', Bool.not_eq_true, Bool.not_eq_false', Bool.not_eq_false, Bool.or_eq_false_iff, Bool.and_eq_false_iff, decide_eq_true_eq, decide_eq_false_iff_not, Bool.not_not, beq_iff_eq, bne_iff_ne] at *; omega))) | (with_reducible apply ok_guard) | (with_reducible apply ok_if <;> intro _) | (with_reducible apply ok_some) | (with_reducible apply ok_esc) | (with_reducible apply ok_then))); (all_goals try dsimp only); (all_goals try (exfalso; omega))
    all_goals simp only [notRect] at *
    · rename_i h
      have e : rectFault (l.getD i default) = 1 := by rw [rectFault, if_pos (by simpa using h)]
      rw [rectsFault, if_neg c0, faultF_at hi (by rw [e]; decide) hI, e]
    · rename_i h2 h1
      have e : rectFault (l.getD i default) = 13 := by rw [rectFault, if_neg (by simpa using h1), if_pos (by simpa using h2)]
      rw [rectsFault, if_neg c0, faultF_at hi (by rw [e]; decide) hI, e]
    · rename_i h2 h1
      exact ⟨by trivial, all_lt hI (by rw [rectFault, if_neg (by simpa using h1), if_neg (by simpa using h2)])⟩
  · intro x hI
    (try dsimp only); (repeat' (first | (with_reducible apply ok_guard; case h => (first | assumption | omega | (simp; done) | (simp; omega) | (and_intros <;> first | omega | (intro _; omega)) | (simp only [Bool.or_eq_true, Bool.and_eq_true, Bool.not_eq_true', Bool.not_eq_true, Bool.not_eq_false', Bool.not_eq_false, Bool.or_eq_false_iff, Bool.and_eq_false_iff, decide_eq_true_eq, decide_eq_false_iff_not, Bool.not_not, beq_iff_eq, bne_iff_ne] at *; omega))) | (with_reducible apply ok_guard) | (with_reducible apply ok_if <;> intro _) | (with_reducible apply ok_some) | (with_reducible apply ok_esc) | (with_reducible apply ok_then))); (all_goals try dsimp only); (all_goals try (exfalso; omega))
    rw [rectsFault, if_neg c0, faultF_0 hI]
theorem o_ref1_CheckRects {l : List TRect} (hl : l.length < 281474976710656) {Q_ : _ → Prop} (k_ : Q_ (rectsFault l)) : Ok (p_ref1_CheckRects l) Q_ := ok_of (t_ref1_CheckRects hl) k_
theorem s_ref1_CheckRects {β : Type} {cc_ : Prop} {d_ : Decidable cc_} {l : List TRect} (hl : cc_ → (l.length < 281474976710656)) {e_ : _} {f_ : _ → Option β} {Q_ : β → Prop} (hd : ¬ cc_ → f_ e_ = f_ (rectsFault l)) (k_ : Ok (f_ (rectsFault l)) Q_) : Ok (Option.bind (@ite _ cc_ d_ (p_ref1_CheckRects l) (some e_)) f_) Q_ := ok_short (fun hc__ => t_ref1_CheckRects (hl hc__)) hd k_
/-! The bands of rectangles. -/
theorem hts_of : ∀ (m : List Int), ∃ ys, Up ys ∧ (∀ a, a ∈ ys ↔ a ∈ m) ∧ ys.length ≤ m.length
  | [] => ⟨[], List.Pairwise.nil, fun _ => Iff.rfl, Nat.le_refl _⟩
  | a :: m => by
    obtain ⟨ys, h1, h2, h3⟩ := hts_of m
    refine ⟨putF ys a, putF_up h1 a, fun b => by rw [mem_putF, h2]; simp, ?_⟩
    have := putF_len ys a
    simp only [List.length_cons]; omega
theorem exists_hts (l : List TRect) : ∃ ys, Hts l ys ∧ ys.length ≤ 2 * l.length := by
  obtain ⟨ys, h1, h2, h3⟩ := hts_of (hts l)
  exact ⟨ys, ⟨h1, fun a => by rw [h2, mem_hts]⟩, by rw [hts_len] at h3; exact h3⟩
theorem stripsB_ys {f : Int → List Int} {P : Int → Prop} : ∀ (l : List Int) (s : List Bd), (∀ c ∈ s, P c.y0 ∧ P c.y1) → (∀ a ∈ l, P a) → ∀ c ∈ stripsB f s l, P c.y0 ∧ P c.y1
  | [], s, h, _ => h
  | [a], s, h, _ => h
  | a :: b :: l, s, h, hf => by
    refine stripsB_ys (b :: l) (pushB s ⟨a, b, f a⟩) (fun c hc => ?_) fun d hd => hf d (List.mem_cons_of_mem _ hd)
    have ha := hf a (by simp)
    have hb := hf b (by simp)
    unfold pushB at hc
    split at hc
    · exact h c hc
    · split at hc
      · simp at hc; subst hc; exact ⟨ha, hb⟩
      · rename_i d hg
        split at hc
        · rcases List.mem_append.1 hc with hc | hc
          · exact h c ((List.dropLast_sublist s).subset hc)
          · simp at hc; subst hc; exact ⟨(h d (List.mem_of_getLast? hg)).1, hb⟩
        · rcases List.mem_append.1 hc with hc | hc
          · exact h c hc
          · simp at hc; subst hc; exact ⟨ha, hb⟩
theorem sum_len {α β : Type} (f : α → List β) (n : Nat) : ∀ (l : List α), (∀ a ∈ l, (f a).length ≤ n) → (l.flatMap f).length ≤ l.length * n
  | [], _ => by simp
  | a :: l, h => by
    have h1 := h a (by simp)
    have h2 := sum_len f n l fun b hb => h b (by simp [hb])
    simp only [List.flatMap_cons, List.length_append, List.length_cons, Nat.add_mul, Nat.one_mul]; omega
/-- what the bands of rectangles are -/
structure SetOk (l : List TRect) (s : List Bd) : Prop where
  canon : Canon s
  cv : ∀ x y, inB s x y = true ↔ cov l x y
  len : s.length ≤ 2 * l.length
  xl : ∀ b ∈ s, b.xs.length ≤ 2 * l.length
  many : (rectsOf s).length ≤ 2 * l.length * l.length
  xm : ∀ b ∈ s, ∀ e ∈ b.xs, ∃ r ∈ l, e = r.X0 ∨ e = r.X1
  ym : ∀ b ∈ s, (∃ r ∈ l, b.y0 = r.Y0 ∨ b.y0 = r.Y1) ∧ ∃ r ∈ l, b.y1 = r.Y0 ∨ b.y1 = r.Y1
theorem setB_ok {l : List TRect} (hx : ∀ r ∈ l, r.X0 < r.X1) (hy : ∀ r ∈ l, r.Y0 < r.Y1) : SetOk l (setB (cov l)) := by
  obtain ⟨ys, H, hl⟩ := exists_hts l
  rw [H.setB hx hy]
  obtain ⟨h1, h2⟩ := H.strips hx hy
  have h3 := stripsB_len (rowF l) ys []
  have h4 := stripsB_xs (f := rowF l) (P := fun xs => xs.length ≤ 2 * l.length ∧ ∀ e ∈ xs, ∃ r ∈ l, e = r.X0 ∨ e = r.X1) ys [] (fun _ h => nomatch h) (fun a _ => ⟨(rowF_all hx a).2.1, fun e he => by obtain ⟨r, h, -, h'⟩ := (rowF_all hx a).2.2 e he; exact ⟨r, h, h'⟩⟩)
  have h5 := stripsB_ys (f := rowF l) (P := fun a => ∃ r ∈ l, a = r.Y0 ∨ a = r.Y1) ys [] (fun _ h => nomatch h) fun a ha => (H.mem a).1 ha
  simp only [List.length_nil] at h3
  refine ⟨h1, h2, by omega, fun b hb => (h4 b hb).1, ?_, fun b hb => (h4 b hb).2, h5⟩
  have := sum_len rectsB l.length (stripsB (rowF l) [] ys) fun b hb => by rw [rectsB_len]; have := (h4 b hb).1; omega
  refine Nat.le_trans this (Nat.mul_le_mul_right _ (by omega))
/-- the canonical form -/
noncomputable def canonF (l : List TRect) : List TRect := rectsOf (setB (cov l))
def befF (a b : TRect) : Bool := decide (a.Y0 < b.Y0) || decide (a.Y0 = b.Y0) && decide (a.X0 < b.X0)
open Classical in
noncomputable def regionFault (l : List TRect) : Int :=
  if rectsFault l = 0 then (if ∃ i, 1 ≤ i ∧ i < l.length ∧ befF (l.getD (i - 1) default) (l.getD i default) = false then 8 else if canonF l = l then 0 else 3) else rectsFault l
theorem canonF_len {l : List TRect} (h : rectsFault l = 0) : (canonF l).length < 100000000 ∧ (setB (cov l)).length < 100000 ∧ Canon (setB (cov l)) ∧ ∀ b ∈ setB (cov l), b.xs.length % 2 = 0 := by
  obtain ⟨h1, h2⟩ := rectsFault_0.1 h
  have := setB_ok (fun r hr => (h2 r hr).xx) (fun r hr => (h2 r hr).yy)
  refine ⟨?_, by have := this.len; omega, this.canon, fun b hb => (this.canon.ok b hb).ev⟩
  have h3 := this.many
  have h4 : 2 * l.length * l.length ≤ 4000 * 2000 := Nat.mul_le_mul (by omega) h1
  unfold canonF; omega
theorem notBef (a b : TRect) : (decide (b.Y0 < a.Y0) || decide (b.Y0 = a.Y0) && decide (b.X0 ≤ a.X0)) = !befF a b := by
  rw [Bool.eq_iff_iff]; simp [befF]; omega
theorem regionFault_8 {l : List TRect} (h0 : rectsFault l = 0) {i : Nat} (h1 : 1 ≤ i) (h2 : i < l.length) (h3 : befF (l.getD (i - 1) default) (l.getD i default) = false) : regionFault l = 8 := by
  rw [regionFault, if_pos h0, if_pos ⟨i, h1, h2, h3⟩]
theorem regionFault_c {l : List TRect} (h0 : rectsFault l = 0) (h : ∀ j, 1 ≤ j → j ≤ l.length - 1 → befF (l.getD (j - 1) default) (l.getD j default) = true) : regionFault l = if canonF l = l then 0 else 3 := by
  rw [regionFault, if_pos h0, if_neg]
  rintro ⟨i, h1, h2, h3⟩
  rw [h i h1 (by omega)] at h3; cases h3
theorem regionFault_n {l : List TRect} (h0 : ¬ rectsFault l = 0) : regionFault l = rectsFault l := by rw [regionFault, if_neg h0]
theorem t_shape_CheckRegion {l : List TRect} (hl : l.length < 281474976710656) : p_shape_CheckRegion l = some (regionFault l) := by
  apply ok_val
  unfold p_shape_CheckRegion
  refine ok_then (o_shape_CheckRects hl ?_)
  by_cases h0 : rectsFault l = 0
  · rw [if_pos h0]
    obtain ⟨k1, k2, k3, k4⟩ := canonF_len h0
    obtain ⟨h1, h2⟩ := rectsFault_0.1 h0
    (try dsimp only); (repeat' (first | (with_reducible apply ok_guard; case h => (first | assumption | omega | (simp; done) | (simp; omega) | (and_intros <;> first | omega | (intro _; omega)) | (simp only [Bool.or_eq_true, Bool.and_eq_true, Bool.not_eq_true', Bool.not_eq_true, Bool.not_eq_false', Bool.not_eq_false, Bool.or_eq_false_iff, Bool.and_eq_false_iff, decide_eq_true_eq, decide_eq_false_iff_not, Bool.not_not, beq_iff_eq, bne_iff_ne] at *; omega))) | (with_reducible apply ok_guard) | (with_reducible apply ok_if <;> intro _) | (with_reducible apply ok_some) | (with_reducible apply ok_esc) | (with_reducible apply ok_then))); (all_goals try dsimp only); (all_goals try (exfalso; omega))
    refine ok_for1 (l.length - 1) (fun i _ => ∀ j, 1 ≤ j → j ≤ i → befF (l.getD (j - 1) default) (l.getD j default) = true) (by intro j h; omega) ?_ ?_
    · intro i x hi hI
      have e1 : ((i : Int) + 1).toNat = i + 1 := by omega
      have e2 : ((i : Int) + 1 - 1).toNat = i := by omega
      simp only [e1, e2, notBef]
      (try dsimp only); (repeat' (first | (with_reducible apply ok_guard; case h => (first | assumption | omega | (simp; done) | (simp; omega) | (and_intros <;> first | omega | (intro _; omega)) | (simp only [Bool.or_eq_true, Bool.and_eq_true, Bool.not_eq_true', Bool.not_eq_true, Bool.not_eq_false', Bool.not_eq_false, Bool.or_eq_false_iff, Bool.and_eq_false_iff, decide_eq_true_eq, decide_eq_false_iff_not, Bool.not_not, beq_iff_eq, bne_iff_ne] at *; omega))) | (with_reducible apply ok_guard) | (with_reducible apply ok_if <;> intro _) | (with_reducible apply ok_some) | (with_reducible apply ok_esc) | (with_reducible apply ok_then))); (all_goals try dsimp only); (all_goals try (exfalso; omega))
      · rename_i h
        exact (regionFault_8 h0 (i := i + 1) (by omega) (by omega) (by simpa using h)).symm
      · rename_i h
        refine ⟨rfl, fun j h3 h4 => ?_⟩
        by_cases e : j = i + 1
        · subst e; simpa using h
        · exact hI j h3 (by omega)
    · intro x hI
      refine ok_if (fun h => by exfalso; omega) (fun _ => ?_)
      refine ok_some ?_
      rw [regionFault_c h0 hI]
      refine ok_then (o_shape_SetOf (by omega) (fun r hr => (h2 r hr).ok) ?_)
      refine ok_then (o_shape_Set_Rects (by omega) k4 (by unfold canonF at k1; omega) ?_)
      refine ok_then (o_slices_Equal_Rect (by unfold canonF at k1; omega) ?_)
      by_cases c : canonF l = l
      · rw [if_pos c, if_neg (by rw [show rectsOf (setB (cov l)) = l from c]; simp)]; exact ok_some rfl
      · rw [if_neg c, if_pos (by rw [decide_eq_false (show ¬ rectsOf (setB (cov l)) = l from c)]; rfl)]; exact ok_some rfl
  · rw [if_neg h0, regionFault_n h0]
    (try dsimp only); (repeat' (first | (with_reducible apply ok_guard; case h => (first | assumption | omega | (simp; done) | (simp; omega) | (and_intros <;> first | omega | (intro _; omega)) | (simp only [Bool.or_eq_true, Bool.and_eq_true, Bool.not_eq_true', Bool.not_eq_true, Bool.not_eq_false', Bool.not_eq_false, Bool.or_eq_false_iff, Bool.and_eq_false_iff, decide_eq_true_eq, decide_eq_false_iff_not, Bool.not_not, beq_iff_eq, bne_iff_ne] at *; omega))) | (with_reducible apply ok_guard) | (with_reducible apply ok_if <;> intro _) | (with_reducible apply ok_some) | (with_reducible apply ok_esc) | (with_reducible apply ok_then))); (all_goals try dsimp only); (all_goals try (exfalso; omega))
theorem o_shape_CheckRegion {l : List TRect} (hl : l.length < 281474976710656) {Q_ : _ → Prop} (k_ : Q_ (regionFault l)) : Ok (p_shape_CheckRegion l) Q_ := ok_of (t_shape_CheckRegion hl) k_
theorem s_shape_CheckRegion {β : Type} {cc_ : Prop} {d_ : Decidable cc_} {l : List TRect} (hl : cc_ → (l.length < 281474976710656)) {e_ : _} {f_ : _ → Option β} {Q_ : β → Prop} (hd : ¬ cc_ → f_ e_ = f_ (regionFault l)) (k_ : Ok (f_ (regionFault l)) Q_) : Ok (Option.bind (@ite _ cc_ d_ (p_shape_CheckRegion l) (some e_)) f_) Q_ := ok_short (fun hc__ => t_shape_CheckRegion (hl hc__)) hd k_
/-- a right region -/
structure Reg (l : List TRect) : Prop where
  n : l.length ≤ 2000
  ok : ∀ r ∈ l, RIn r
  canon : canonF l = l
theorem regionFault_0 {l : List TRect} : regionFault l = 0 ↔ Reg l ∧ ∀ j, 1 ≤ j → j ≤ l.length - 1 → befF (l.getD (j - 1) default) (l.getD j default) = true := by
  constructor
  · intro h
    by_cases h0 : rectsFault l = 0
    · have h1 := rectsFault_0.1 h0
      have hb : ∀ j, 1 ≤ j → j ≤ l.length - 1 → befF (l.getD (j - 1) default) (l.getD j default) = true := fun j h2 h3 => by
        cases hf : befF (l.getD (j - 1) default) (l.getD j default) with
        | true => rfl
        | false => rw [regionFault_8 h0 h2 (by omega) hf] at h; cases h
      rw [regionFault_c h0 hb] at h
      refine ⟨⟨h1.1, h1.2, ?_⟩, hb⟩
      apply Classical.byContradiction
      intro hc
      rw [if_neg hc] at h; cases h
    · rw [regionFault_n h0] at h; exact absurd h h0
  · rintro ⟨⟨h1, h2, h3⟩, h4⟩
    rw [regionFault_c (rectsFault_0.2 ⟨h1, h2⟩) h4, if_pos h3]
end Go.Nw
