/- NqTurn: a part of the proof. -/
import Derived.Test.YtjjnepcdiajppaaNqS8
set_option linter.unusedVariables false
set_option linter.unusedSimpArgs false
set_option maxRecDepth 100000
namespace Go.Nw
/-! Areas. -/
def areaR (r : TRect) : Int := (r.X1 - r.X0) * (r.Y1 - r.Y0)
def areaF (l : List TRect) : Int := (l.map areaR).sum
theorem areaR_in {r : TRect} (h : RIn r) : (0 ≤ r.X1 - r.X0 ∧ r.X1 - r.X0 ≤ 2000000) ∧ (0 ≤ r.Y1 - r.Y0 ∧ r.Y1 - r.Y0 ≤ 2000000) ∧ 0 ≤ areaR r ∧ areaR r ≤ 4000000000000 := by
  obtain ⟨h1, h2, h3, h4, h5, h6⟩ := h
  refine ⟨by omega, by omega, Int.mul_nonneg (by omega) (by omega), ?_⟩
  have := Int.mul_le_mul (a := r.X1 - r.X0) (b := r.Y1 - r.Y0) (c := 2000000) (d := 2000000) (by omega) (by omega) (by omega) (by omega)
  exact this
theorem areaF_in : ∀ {l : List TRect}, (∀ r ∈ l, RIn r) → 0 ≤ areaF l ∧ areaF l ≤ 4000000000000 * l.length
  | [], _ => by simp [areaF]
  | r :: l, h => by
    have h1 := areaR_in (h r (by simp))
    have h2 := areaF_in (l := l) fun q hq => h q (by simp [hq])
    simp only [areaF, List.map_cons, List.sum_cons, List.length_cons] at h2 ⊢; omega
theorem areaF_snoc (l : List TRect) (r : TRect) : areaF (l ++ [r]) = areaF l + areaR r := by simp [areaF]
theorem t_shape_AreaOf {l : List TRect} (hl : l.length ≤ 2000) (hr : ∀ r ∈ l, RIn r) : p_shape_AreaOf l = some (areaF l) := by
  apply ok_val
  unfold p_shape_AreaOf
  (try dsimp only); (repeat' (first | (with_reducible apply ok_guard; case h => (first | assumption | omega | (simp; done) | (simp; omega) | (and_intros <;> first | omega | (intro _; omega)) | (simp only [Bool.or_eq_true, Bool.and_eq_true, Bool.not_eq_true', Bool.not_eq_true, Bool.not_eq_false', Bool.not_eq_false, Bool.or_eq_false_iff, Bool.and_eq_false_iff, decide_eq_true_eq, decide_eq_false_iff_not, Bool.not_not, beq_iff_eq, bne_iff_ne] at *; omega))) | (with_reducible apply ok_guard) | (with_reducible apply ok_if <;> intro _) | (with_reducible apply ok_some) | (with_reducible apply ok_esc) | (with_reducible apply ok_then))); (all_goals try dsimp only); (all_goals try (exfalso; omega))
  refine ok_for l.length (fun i n => n = areaF (l.take i)) (by simp [areaF]) ?_ ?_
  · rintro i n hi rfl
    have h1 := areaR_in (hr _ (mem_getD (d := default) hi))
    have h2 := areaF_in (l := l.take i) fun q hq => hr q (List.mem_of_mem_take hq)
    have h3 : (l.take i).length ≤ 2000 := by rw [List.length_take]; omega
    have e : (((l.getD i default).X1 - (l.getD i default).X0) * ((l.getD i default).Y1 - (l.getD i default).Y0)) = areaR (l.getD i default) := rfl
    simp only [Int.toNat_natCast, e]
    obtain ⟨⟨g1, g2⟩, ⟨g3, g4⟩, g5, g6⟩ := h1
    (try dsimp only); (repeat' (first | (with_reducible apply ok_guard; case h => (first | assumption | omega | (simp; done) | (simp; omega) | (and_intros <;> first | omega | (intro _; omega)) | (simp only [Bool.or_eq_true, Bool.and_eq_true, Bool.not_eq_true', Bool.not_eq_true, Bool.not_eq_false', Bool.not_eq_false, Bool.or_eq_false_iff, Bool.and_eq_false_iff, decide_eq_true_eq, decide_eq_false_iff_not, Bool.not_not, beq_iff_eq, bne_iff_ne] at *; omega))) | (with_reducible apply ok_guard) | (with_reducible apply ok_if <;> intro _) | (with_reducible apply ok_some) | (with_reducible apply ok_esc) | (with_reducible apply ok_then))); (all_goals try dsimp only); (all_goals try (exfalso; omega))
    exact ⟨by simp, by rw [take_snoc (d := default) hi, areaF_snoc]⟩
  · rintro n rfl
    (try dsimp only); (repeat' (first | (with_reducible apply ok_guard; case h => (first | assumption | omega | (simp; done) | (simp; omega) | (and_intros <;> first | omega | (intro _; omega)) | (simp only [Bool.or_eq_true, Bool.and_eq_true, Bool.not_eq_true', Bool.not_eq_true, Bool.not_eq_false', Bool.not_eq_false, Bool.or_eq_false_iff, Bool.and_eq_false_iff, decide_eq_true_eq, decide_eq_false_iff_not, Bool.not_not, beq_iff_eq, bne_iff_ne] at *; omega))) | (with_reducible apply ok_guard) | (with_reducible apply ok_if <;> intro _) | (with_reducible apply ok_some) | (with_reducible apply ok_esc) | (with_reducible apply ok_then))); (all_goals try dsimp only); (all_goals try (exfalso; omega))
    simp
theorem o_shape_AreaOf {l : List TRect} (hl : l.length ≤ 2000) (hr : ∀ r ∈ l, RIn r) {Q_ : _ → Prop} (k_ : Q_ (areaF l)) : Ok (p_shape_AreaOf l) Q_ := ok_of (t_shape_AreaOf hl hr) k_
theorem s_shape_AreaOf {β : Type} {cc_ : Prop} {d_ : Decidable cc_} {l : List TRect} (hl : cc_ → (l.length ≤ 2000)) (hr : cc_ → (∀ r ∈ l, RIn r)) {e_ : _} {f_ : _ → Option β} {Q_ : β → Prop} (hd : ¬ cc_ → f_ e_ = f_ (areaF l)) (k_ : Ok (f_ (areaF l)) Q_) : Ok (Option.bind (@ite _ cc_ d_ (p_shape_AreaOf l) (some e_)) f_) Q_ := ok_short (fun hc__ => t_shape_AreaOf (hl hc__) (hr hc__)) hd k_
theorem t_ref1_AreaOf {l : List TRect} (hl : l.length ≤ 2000) (hr : ∀ r ∈ l, RIn r) : p_ref1_AreaOf l = some (areaF l) := by
  apply ok_val
  unfold p_ref1_AreaOf
  (try dsimp only); (repeat' (first | (with_reducible apply ok_guard; case h => (first | assumption | omega | (simp; done) | (simp; omega) | (and_intros <;> first | omega | (intro _; omega)) | (simp only [Bool.or_eq_true, Bool.and_eq_true, Bool.not_eq_true', Bool.not_eq_true, Bool.not_eq_false', Bool.not_eq_false, Bool.or_eq_false_iff, Bool.and_eq_false_iff, decide_eq_true_eq, decide_eq_false_iff_not, Bool.not_not, beq_iff_eq, bne_iff_ne] at *; omega))) | (with_reducible apply ok_guard) | (with_reducible apply ok_if <;> intro _) | (with_reducible apply ok_some) | (with_reducible apply ok_esc) | (with_reducible apply ok_then))); (all_goals try dsimp only); (all_goals try (exfalso; omega))
  refine ok_for l.length (fun i n => n = areaF (l.take i)) (by simp [areaF]) ?_ ?_
  · rintro i n hi rfl
    have h1 := areaR_in (hr _ (mem_getD (d := default) hi))
    have h2 := areaF_in (l := l.take i) fun q hq => hr q (List.mem_of_mem_take hq)
    have h3 : (l.take i).length ≤ 2000 := by rw [List.length_take]; omega
    have e : (((l.getD i default).X1 - (l.getD i default).X0) * ((l.getD i default).Y1 - (l.getD i default).Y0)) = areaR (l.getD i default) := rfl
    simp only [Int.toNat_natCast, e]
    obtain ⟨⟨g1, g2⟩, ⟨g3, g4⟩, g5, g6⟩ := h1
    (try dsimp only); (repeat' (first | (with_reducible apply ok_guard; case h => (first | assumption | omega | (simp; done) | (simp; omega) | (and_intros <;> first | omega | (intro _; omega)) | (simp only [Bool.or_eq_true, Bool.and_eq_true, Bool.not_eq_true', Bool.not_eq_true, Bool.not_eq_false', Bool.not_eq_false, Bool.or_eq_false_iff, Bool.and_eq_false_iff, decide_eq_true_eq, decide_eq_false_iff_not, Bool.not_not, beq_iff_eq, bne_iff_ne] at *; omega))) | (with_reducible apply ok_guard) | (with_reducible apply ok_if <;> intro _) | (with_reducible apply ok_some) | (with_reducible apply ok_esc) | (with_reducible apply ok_then))); (all_goals try dsimp only); (all_goals try (exfalso; omega))
    exact ⟨by simp, by rw [take_snoc (d := default) hi, areaF_snoc]⟩
  · rintro n rfl
    (try dsimp only); (repeat' (first | (with_reducible apply ok_guard; case h => (first | assumption | omega | (simp; done) | (simp; omega) | (and_intros <;> first | omega | (intro _; omega)) | (simp only [Bool.or_eq_true, Bool.and_eq_true, Bool.not_eq_true', Bool.not_eq_true, Bool.not_eq_false', Bool.not_eq_false, Bool.or_eq_false_iff, Bool.and_eq_false_iff, decide_eq_true_eq, decide_eq_false_iff_not, Bool.not_not, beq_iff_eq, bne_iff_ne] at *; omega))) | (with_reducible apply ok_guard) | (with_reducible apply ok_if <;> intro _) | (with_reducible apply ok_some) | (with_reducible apply ok_esc) | (with_reducible apply ok_then))); (all_goals try dsimp only); (all_goals try (exfalso; omega))
    simp
theorem o_ref1_AreaOf {l : List TRect} (hl : l.length ≤ 2000) (hr : ∀ r ∈ l, RIn r) {Q_ : _ → Prop} (k_ : Q_ (areaF l)) : Ok (p_ref1_AreaOf l) Q_ := ok_of (t_ref1_AreaOf hl hr) k_
theorem s_ref1_AreaOf {β : Type} {cc_ : Prop} {d_ : Decidable cc_} {l : List TRect} (hl : cc_ → (l.length ≤ 2000)) (hr : cc_ → (∀ r ∈ l, RIn r)) {e_ : _} {f_ : _ → Option β} {Q_ : β → Prop} (hd : ¬ cc_ → f_ e_ = f_ (areaF l)) (k_ : Ok (f_ (areaF l)) Q_) : Ok (Option.bind (@ite _ cc_ d_ (p_ref1_AreaOf l) (some e_)) f_) Q_ := ok_short (fun hc__ => t_ref1_AreaOf (hl hc__) (hr hc__)) hd k_
noncomputable def areaOfF (l : List TRect) : Int × Int := if regionFault l = 0 then (areaF l, 0) else (0, regionFault l)
theorem t_shape_Area {l : List TRect} (hl : l.length < 281474976710656) : p_shape_Area l = some (areaOfF l) := by
  apply ok_val
  unfold p_shape_Area
  refine ok_then (o_shape_CheckRegion hl ?_)
  unfold areaOfF
  by_cases h : regionFault l = 0
  · rw [if_pos h, if_pos h]
    obtain ⟨⟨h1, h2, h3⟩, -⟩ := regionFault_0.1 h
    refine ok_then (o_shape_AreaOf h1 h2 (ok_some rfl))
  · rw [if_neg h, if_neg h]; exact ok_some rfl
theorem o_shape_Area {l : List TRect} (hl : l.length < 281474976710656) {Q_ : _ → Prop} (k_ : Q_ (areaOfF l)) : Ok (p_shape_Area l) Q_ := ok_of (t_shape_Area hl) k_
theorem s_shape_Area {β : Type} {cc_ : Prop} {d_ : Decidable cc_} {l : List TRect} (hl : cc_ → (l.length < 281474976710656)) {e_ : _} {f_ : _ → Option β} {Q_ : β → Prop} (hd : ¬ cc_ → f_ e_ = f_ (areaOfF l)) (k_ : Ok (f_ (areaOfF l)) Q_) : Ok (Option.bind (@ite _ cc_ d_ (p_shape_Area l) (some e_)) f_) Q_ := ok_short (fun hc__ => t_shape_Area (hl hc__)) hd k_
theorem canon_one {r : TRect} (h1 : r.X0 < r.X1) (h2 : r.Y0 < r.Y1) : Canon [⟨r.Y0, r.Y1, [r.X0, r.X1]⟩] :=
  ⟨fun b hb => by simp at hb; subst hb; exact ⟨h2, by simp, by simpa using h1, by simp⟩, by simp⟩
theorem canonF_one {r : TRect} (h1 : r.X0 < r.X1) (h2 : r.Y0 < r.Y1) : setB (cov [r]) = [⟨r.Y0, r.Y1, [r.X0, r.X1]⟩] := by
  refine setB_eq (canon_one h1 h2) fun x y => ?_
  simp only [inB, sec, cov, List.mem_singleton, exists_eq_left, inR]
  by_cases c : r.Y0 ≤ y ∧ y < r.Y1
  · rw [if_pos c, inX_two (by omega)]; simp [c]
  · rw [if_neg c]; simp [inX, c]
theorem region_one {r : TRect} (h : RIn r) : regionFault [r] = 0 := by
  refine regionFault_0.2 ⟨⟨by simp, fun q hq => by simp at hq; subst hq; exact h, ?_⟩, fun j h1 h2 => by simp at h2; omega⟩
  unfold canonF
  rw [canonF_one h.xx h.yy]
  rfl
theorem awake_t : p_law1_awake = some true := by
  apply ok_val
  unfold p_law1_awake
  refine ok_then (o_shape_Area (by decide) ?_)
  rw [areaOfF, if_pos (region_one ⟨by decide, by decide, by decide, by decide, by decide, by decide⟩)]
  refine ok_some ?_
  decide
theorem s_law1_awake {β : Type} {c : Prop} {d : Decidable c} {e : Bool} {f : Bool → Option β} {Q : β → Prop} (hd : ¬ c → f e = f true) (k : Ok (f true) Q) : Ok (Option.bind (@ite _ c d p_law1_awake (some e)) f) Q := ok_short (fun _ => awake_t) hd k
theorem o_law1_awake {Q : Bool → Prop} (k : Q true) : Ok p_law1_awake Q := ok_of awake_t k
/-! Turns. -/
noncomputable def turnFault (t : TTurn) : Int := if (!(decide (0 ≤ t.Quarters) && decide (t.Quarters ≤ 3)) || !isPointF t.At) = true then 1 else 0
theorem t_shape_CheckTurn {t : TTurn} : p_shape_CheckTurn t = some (turnFault t) := by
  apply ok_val
  unfold p_shape_CheckTurn
  (try dsimp only); (repeat' (first | (with_reducible apply s_shape_within; case hd => (intro hc; simp only [Bool.not_not, Bool.not_eq_true, Bool.not_eq_false'] at hc; simp only [hc, Bool.true_or, Bool.false_and, Bool.not_true, Bool.not_false, Bool.or_true, Bool.and_false])) | (with_reducible apply s_shape_IsPoint; case hd => (intro hc; simp only [Bool.not_not, Bool.not_eq_true, Bool.not_eq_false'] at hc; simp only [hc, Bool.true_or, Bool.false_and, Bool.not_true, Bool.not_false, Bool.or_true, Bool.and_false])) | (with_reducible apply o_shape_within <;> try first | assumption | omega) | (with_reducible apply o_shape_IsPoint <;> try first | assumption | omega) | (with_reducible apply ok_guard; case h => (first | assumption | omega | (simp; done) | (simp; omega) | (and_intros <;> first | omega | (intro _; omega)) | (simp only [Bool.or_eq_true, Bool.and_eq_true, Bool.not_eq_true', Bool.not_eq_true, Bool.not_eq_false', Bool.not_eq_false, Bool.or_eq_false_iff, Bool.and_eq_false_iff, decide_eq_true_eq, decide_eq_false_iff_not, Bool.not_not, beq_iff_eq, bne_iff_ne] at *; omega))) | (with_reducible apply ok_guard) | (with_reducible apply ok_if <;> intro _) | (with_reducible apply ok_some) | (with_reducible apply ok_esc) | (with_reducible apply ok_then))); (all_goals try dsimp only); (all_goals try (exfalso; omega))
  · rw [turnFault, if_pos ‹_›]
  · rw [turnFault, if_neg ‹_›]
theorem o_shape_CheckTurn {t : TTurn} {Q_ : _ → Prop} (k_ : Q_ (turnFault t)) : Ok (p_shape_CheckTurn t) Q_ := ok_of (t_shape_CheckTurn ) k_
theorem s_shape_CheckTurn {β : Type} {cc_ : Prop} {d_ : Decidable cc_} {t : TTurn} {e_ : _} {f_ : _ → Option β} {Q_ : β → Prop} (hd : ¬ cc_ → f_ e_ = f_ (turnFault t)) (k_ : Ok (f_ (turnFault t)) Q_) : Ok (Option.bind (@ite _ cc_ d_ (p_shape_CheckTurn t) (some e_)) f_) Q_ := ok_short (fun hc__ => t_shape_CheckTurn ) hd k_
theorem t_ref1_CheckTurn {t : TTurn} : p_ref1_CheckTurn t = some (turnFault t) := by
  apply ok_val
  unfold p_ref1_CheckTurn
  (try dsimp only); (repeat' (first | (with_reducible apply s_ref1_within; case hd => (intro hc; simp only [Bool.not_not, Bool.not_eq_true, Bool.not_eq_false'] at hc; simp only [hc, Bool.true_or, Bool.false_and, Bool.not_true, Bool.not_false, Bool.or_true, Bool.and_false])) | (with_reducible apply s_ref1_IsPoint; case hd => (intro hc; simp only [Bool.not_not, Bool.not_eq_true, Bool.not_eq_false'] at hc; simp only [hc, Bool.true_or, Bool.false_and, Bool.not_true, Bool.not_false, Bool.or_true, Bool.and_false])) | (with_reducible apply o_ref1_within <;> try first | assumption | omega) | (with_reducible apply o_ref1_IsPoint <;> try first | assumption | omega) | (with_reducible apply ok_guard; case h => (first | assumption | omega | (simp; done) | (simp; omega) | (and_intros <;> first | omega | (intro _; omega)) | (simp only [Bool.or_eq_true, Bool.and_eq_true, Bool.not_eq_true', Bool.not_eq_true, Bool.not_eq_false', Bool.not_eq_false, Bool.or_eq_false_iff, Bool.and_eq_false_iff, decide_eq_true_eq, decide_eq_false_iff_not, Bool.not_not, beq_iff_eq, bne_iff_ne] at *; omega))) | (with_reducible apply ok_guard) | (with_reducible apply ok_if <;> intro _) | (with_reducible apply ok_some) | (with_reducible apply ok_esc) | (with_reducible apply ok_then))); (all_goals try dsimp only); (all_goals try (exfalso; omega))
  · rw [turnFault, if_pos ‹_›]
  · rw [turnFault, if_neg ‹_›]
theorem o_ref1_CheckTurn {t : TTurn} {Q_ : _ → Prop} (k_ : Q_ (turnFault t)) : Ok (p_ref1_CheckTurn t) Q_ := ok_of (t_ref1_CheckTurn ) k_
theorem s_ref1_CheckTurn {β : Type} {cc_ : Prop} {d_ : Decidable cc_} {t : TTurn} {e_ : _} {f_ : _ → Option β} {Q_ : β → Prop} (hd : ¬ cc_ → f_ e_ = f_ (turnFault t)) (k_ : Ok (f_ (turnFault t)) Q_) : Ok (Option.bind (@ite _ cc_ d_ (p_ref1_CheckTurn t) (some e_)) f_) Q_ := ok_short (fun hc__ => t_ref1_CheckTurn ) hd k_
theorem isPointF_iff {p : TPoint} : isPointF p = true ↔ (-1000000 ≤ p.X ∧ p.X ≤ 1000000) ∧ -1000000 ≤ p.Y ∧ p.Y ≤ 1000000 := by
  simp only [isPointF, isAtF, Bool.and_eq_true, decide_eq_true_eq]
theorem turnFault_0 {t : TTurn} : turnFault t = 0 ↔ (0 ≤ t.Quarters ∧ t.Quarters ≤ 3) ∧ isPointF t.At = true := by
  unfold turnFault
  split
  · rename_i h
    constructor
    · intro h'; cases h'
    · rintro ⟨h1, h2⟩
      simp [h1, h2] at h
  · rename_i h
    simp only [Bool.or_eq_true, Bool.not_eq_true', Bool.and_eq_false_iff, decide_eq_false_iff_not, not_or] at h
    exact ⟨fun _ => ⟨by omega, by simpa using h.2⟩, fun _ => rfl⟩
/-- a quarter turn -/
def rot (q : TPoint) : TPoint := { X := 0 - q.Y, Y := q.X }
def rotN : Nat → TPoint → TPoint
  | 0, q => q
  | n + 1, q => rot (rotN n q)
def flipF (b : Bool) (q : TPoint) : TPoint := if b = true then { X := 0 - q.X, Y := q.Y } else q
def turnF (q : TPoint) (t : TTurn) : TPoint := { X := (rotN t.Quarters.toNat (flipF t.Flip q)).X + t.At.X, Y := (rotN t.Quarters.toNat (flipF t.Flip q)).Y + t.At.Y }
/-- a point that is not far away -/
def Near (q : TPoint) : Prop := (-1000000000 ≤ q.X ∧ q.X ≤ 1000000000) ∧ -1000000000 ≤ q.Y ∧ q.Y ≤ 1000000000
theorem near_rot {q : TPoint} (h : Near q) : Near (rot q) := by obtain ⟨⟨h1, h2⟩, h3, h4⟩ := h; simp only [Near, rot]; omega
theorem near_rotN {q : TPoint} (h : Near q) : ∀ n, Near (rotN n q)
  | 0 => h
  | n + 1 => near_rot (near_rotN h n)
theorem near_flip {q : TPoint} {b : Bool} (h : Near q) : Near (flipF b q) := by
  obtain ⟨⟨h1, h2⟩, h3, h4⟩ := h
  cases b
  · simp only [flipF, if_neg Bool.false_ne_true, Near]; omega
  · simp only [flipF, if_true, Near]; omega
theorem near_of {q : TPoint} (h : isPointF q = true) : Near q := by have := isPointF_iff.1 h; exact ⟨by omega, by omega, by omega⟩
theorem near_turn {q : TPoint} {t : TTurn} (h : isPointF q = true) (ht : isPointF t.At = true) (hq : t.Quarters ≤ 3) : (-2000000 ≤ (turnF q t).X ∧ (turnF q t).X ≤ 2000000) ∧ -2000000 ≤ (turnF q t).Y ∧ (turnF q t).Y ≤ 2000000 := by
  have key : ∀ n (q : TPoint), isPointF q = true → isPointF (rotN n q) = true := by
    intro n
    induction n with
    | zero => intro q h; exact h
    | succ n ih => intro q h; have := isPointF_iff.1 (ih q h); exact isPointF_iff.2 (by simp only [rotN, rot]; omega)
  have hf : isPointF (flipF t.Flip q) = true := by
    have := isPointF_iff.1 h
    refine isPointF_iff.2 ?_
    cases t.Flip <;> simp only [flipF, if_true, if_neg Bool.false_ne_true] <;> omega
  have h1 := isPointF_iff.1 (key t.Quarters.toNat _ hf)
  have h2 := isPointF_iff.1 ht
  simp only [turnF]; omega
theorem t_shape_TurnPoint {q : TPoint} {t : TTurn} (h : Near q) (ht : Near t.At) (hq : t.Quarters ≤ 3) : p_shape_TurnPoint q t = some (turnF q t) := by
  apply ok_val
  unfold p_shape_TurnPoint
  have hf := near_flip (b := t.Flip) h
  have : Ok (if t.Flip = true then if -9223372036854775808 ≤ 0 - q.X ∧ 0 - q.X ≤ 9223372036854775807 then some ({ X := 0 - q.X, Y := q.Y } : TPoint) else none else some q) (fun z => z = flipF t.Flip q) := by
    obtain ⟨⟨h1, h2⟩, h3, h4⟩ := h
    (try dsimp only); (repeat' (first | (with_reducible apply ok_guard; case h => (first | assumption | omega | (simp; done) | (simp; omega) | (and_intros <;> first | omega | (intro _; omega)) | (simp only [Bool.or_eq_true, Bool.and_eq_true, Bool.not_eq_true', Bool.not_eq_true, Bool.not_eq_false', Bool.not_eq_false, Bool.or_eq_false_iff, Bool.and_eq_false_iff, decide_eq_true_eq, decide_eq_false_iff_not, Bool.not_not, beq_iff_eq, bne_iff_ne] at *; omega))) | (with_reducible apply ok_guard) | (with_reducible apply ok_if <;> intro _) | (with_reducible apply ok_some) | (with_reducible apply ok_esc) | (with_reducible apply ok_then))); (all_goals try dsimp only); (all_goals try (exfalso; omega))
    · simp only [flipF, if_pos ‹t.Flip = true›]
    · simp only [flipF, if_neg ‹¬ t.Flip = true›]
  refine ok_bind this ?_
  rintro _ rfl
  refine ok_then ?_
  refine ok_for t.Quarters.toNat (fun i x => x = rotN i (flipF t.Flip q)) rfl ?_ ?_
  · rintro i r hi rfl
    obtain ⟨⟨h1, h2⟩, h3, h4⟩ := near_rotN hf i
    (try dsimp only); (repeat' (first | (with_reducible apply ok_guard; case h => (first | assumption | omega | (simp; done) | (simp; omega) | (and_intros <;> first | omega | (intro _; omega)) | (simp only [Bool.or_eq_true, Bool.and_eq_true, Bool.not_eq_true', Bool.not_eq_true, Bool.not_eq_false', Bool.not_eq_false, Bool.or_eq_false_iff, Bool.and_eq_false_iff, decide_eq_true_eq, decide_eq_false_iff_not, Bool.not_not, beq_iff_eq, bne_iff_ne] at *; omega))) | (with_reducible apply ok_guard) | (with_reducible apply ok_if <;> intro _) | (with_reducible apply ok_some) | (with_reducible apply ok_esc) | (with_reducible apply ok_then))); (all_goals try dsimp only); (all_goals try (exfalso; omega))
    exact ⟨rfl, rfl⟩
  · rintro r rfl
    obtain ⟨⟨h1, h2⟩, h3, h4⟩ := near_rotN hf t.Quarters.toNat
    obtain ⟨⟨h5, h6⟩, h7, h8⟩ := ht
    (try dsimp only); (repeat' (first | (with_reducible apply ok_guard; case h => (first | assumption | omega | (simp; done) | (simp; omega) | (and_intros <;> first | omega | (intro _; omega)) | (simp only [Bool.or_eq_true, Bool.and_eq_true, Bool.not_eq_true', Bool.not_eq_true, Bool.not_eq_false', Bool.not_eq_false, Bool.or_eq_false_iff, Bool.and_eq_false_iff, decide_eq_true_eq, decide_eq_false_iff_not, Bool.not_not, beq_iff_eq, bne_iff_ne] at *; omega))) | (with_reducible apply ok_guard) | (with_reducible apply ok_if <;> intro _) | (with_reducible apply ok_some) | (with_reducible apply ok_esc) | (with_reducible apply ok_then))); (all_goals try dsimp only); (all_goals try (exfalso; omega))
    rfl
theorem o_shape_TurnPoint {q : TPoint} {t : TTurn} (h : Near q) (ht : Near t.At) (hq : t.Quarters ≤ 3) {Q_ : _ → Prop} (k_ : Q_ (turnF q t)) : Ok (p_shape_TurnPoint q t) Q_ := ok_of (t_shape_TurnPoint h ht hq) k_
theorem s_shape_TurnPoint {β : Type} {cc_ : Prop} {d_ : Decidable cc_} {q : TPoint} {t : TTurn} (h : cc_ → (Near q)) (ht : cc_ → (Near t.At)) (hq : cc_ → (t.Quarters ≤ 3)) {e_ : _} {f_ : _ → Option β} {Q_ : β → Prop} (hd : ¬ cc_ → f_ e_ = f_ (turnF q t)) (k_ : Ok (f_ (turnF q t)) Q_) : Ok (Option.bind (@ite _ cc_ d_ (p_shape_TurnPoint q t) (some e_)) f_) Q_ := ok_short (fun hc__ => t_shape_TurnPoint (h hc__) (ht hc__) (hq hc__)) hd k_
theorem t_ref1_around {q : TPoint} {t : TTurn} (h : Near q) (hq : t.Quarters ≤ 3) : p_ref1_around q t = some (rotN t.Quarters.toNat (flipF t.Flip q)) := by
  apply ok_val
  unfold p_ref1_around
  have hf := near_flip (b := t.Flip) h
  have : Ok (if t.Flip = true then if -9223372036854775808 ≤ 0 - q.X ∧ 0 - q.X ≤ 9223372036854775807 then some ({ X := 0 - q.X, Y := q.Y } : TPoint) else none else some q) (fun z => z = flipF t.Flip q) := by
    obtain ⟨⟨h1, h2⟩, h3, h4⟩ := h
    (try dsimp only); (repeat' (first | (with_reducible apply ok_guard; case h => (first | assumption | omega | (simp; done) | (simp; omega) | (and_intros <;> first | omega | (intro _; omega)) | (simp only [Bool.or_eq_true, Bool.and_eq_true, Bool.not_eq_true', Bool.not_eq_true, Bool.not_eq_false', Bool.not_eq_false, Bool.or_eq_false_iff, Bool.and_eq_false_iff, decide_eq_true_eq, decide_eq_false_iff_not, Bool.not_not, beq_iff_eq, bne_iff_ne] at *; omega))) | (with_reducible apply ok_guard) | (with_reducible apply ok_if <;> intro _) | (with_reducible apply ok_some) | (with_reducible apply ok_esc) | (with_reducible apply ok_then))); (all_goals try dsimp only); (all_goals try (exfalso; omega))
    · simp only [flipF, if_pos ‹t.Flip = true›]
    · simp only [flipF, if_neg ‹¬ t.Flip = true›]
  refine ok_bind this ?_
  rintro _ rfl
  refine ok_then ?_
  refine ok_for t.Quarters.toNat (fun i x => x = rotN i (flipF t.Flip q)) rfl ?_ ?_
  · rintro i r hi rfl
    obtain ⟨⟨h1, h2⟩, h3, h4⟩ := near_rotN hf i
    (try dsimp only); (repeat' (first | (with_reducible apply ok_guard; case h => (first | assumption | omega | (simp; done) | (simp; omega) | (and_intros <;> first | omega | (intro _; omega)) | (simp only [Bool.or_eq_true, Bool.and_eq_true, Bool.not_eq_true', Bool.not_eq_true, Bool.not_eq_false', Bool.not_eq_false, Bool.or_eq_false_iff, Bool.and_eq_false_iff, decide_eq_true_eq, decide_eq_false_iff_not, Bool.not_not, beq_iff_eq, bne_iff_ne] at *; omega))) | (with_reducible apply ok_guard) | (with_reducible apply ok_if <;> intro _) | (with_reducible apply ok_some) | (with_reducible apply ok_esc) | (with_reducible apply ok_then))); (all_goals try dsimp only); (all_goals try (exfalso; omega))
    exact ⟨rfl, rfl⟩
  · rintro r rfl
    (try dsimp only); (repeat' (first | (with_reducible apply ok_guard; case h => (first | assumption | omega | (simp; done) | (simp; omega) | (and_intros <;> first | omega | (intro _; omega)) | (simp only [Bool.or_eq_true, Bool.and_eq_true, Bool.not_eq_true', Bool.not_eq_true, Bool.not_eq_false', Bool.not_eq_false, Bool.or_eq_false_iff, Bool.and_eq_false_iff, decide_eq_true_eq, decide_eq_false_iff_not, Bool.not_not, beq_iff_eq, bne_iff_ne] at *; omega))) | (with_reducible apply ok_guard) | (with_reducible apply ok_if <;> intro _) | (with_reducible apply ok_some) | (with_reducible apply ok_esc) | (with_reducible apply ok_then))); (all_goals try dsimp only); (all_goals try (exfalso; omega))
theorem o_ref1_around {q : TPoint} {t : TTurn} (h : Near q) (hq : t.Quarters ≤ 3) {Q_ : _ → Prop} (k_ : Q_ (rotN t.Quarters.toNat (flipF t.Flip q))) : Ok (p_ref1_around q t) Q_ := ok_of (t_ref1_around h hq) k_
theorem s_ref1_around {β : Type} {cc_ : Prop} {d_ : Decidable cc_} {q : TPoint} {t : TTurn} (h : cc_ → (Near q)) (hq : cc_ → (t.Quarters ≤ 3)) {e_ : _} {f_ : _ → Option β} {Q_ : β → Prop} (hd : ¬ cc_ → f_ e_ = f_ (rotN t.Quarters.toNat (flipF t.Flip q))) (k_ : Ok (f_ (rotN t.Quarters.toNat (flipF t.Flip q))) Q_) : Ok (Option.bind (@ite _ cc_ d_ (p_ref1_around q t) (some e_)) f_) Q_ := ok_short (fun hc__ => t_ref1_around (h hc__) (hq hc__)) hd k_
theorem t_ref1_TurnPoint {q : TPoint} {t : TTurn} (h : Near q) (ht : Near t.At) (hq : t.Quarters ≤ 3) : p_ref1_TurnPoint q t = some (turnF q t) := by
  apply ok_val
  unfold p_ref1_TurnPoint
  obtain ⟨⟨h1, h2⟩, h3, h4⟩ := near_rotN (near_flip (b := t.Flip) h) t.Quarters.toNat
  obtain ⟨⟨h5, h6⟩, h7, h8⟩ := ht
  (try dsimp only); (repeat' (first | (with_reducible apply s_ref1_around; case hd => (intro hc; simp only [Bool.not_not, Bool.not_eq_true, Bool.not_eq_false'] at hc; simp only [hc, Bool.true_or, Bool.false_and, Bool.not_true, Bool.not_false, Bool.or_true, Bool.and_false])) | (with_reducible apply o_ref1_around <;> try first | assumption | omega) | (with_reducible apply ok_guard; case h => (first | assumption | omega | (simp; done) | (simp; omega) | (and_intros <;> first | omega | (intro _; omega)) | (simp only [Bool.or_eq_true, Bool.and_eq_true, Bool.not_eq_true', Bool.not_eq_true, Bool.not_eq_false', Bool.not_eq_false, Bool.or_eq_false_iff, Bool.and_eq_false_iff, decide_eq_true_eq, decide_eq_false_iff_not, Bool.not_not, beq_iff_eq, bne_iff_ne] at *; omega))) | (with_reducible apply ok_guard) | (with_reducible apply ok_if <;> intro _) | (with_reducible apply ok_some) | (with_reducible apply ok_esc) | (with_reducible apply ok_then))); (all_goals try dsimp only); (all_goals try (exfalso; omega))
  rfl
theorem o_ref1_TurnPoint {q : TPoint} {t : TTurn} (h : Near q) (ht : Near t.At) (hq : t.Quarters ≤ 3) {Q_ : _ → Prop} (k_ : Q_ (turnF q t)) : Ok (p_ref1_TurnPoint q t) Q_ := ok_of (t_ref1_TurnPoint h ht hq) k_
theorem s_ref1_TurnPoint {β : Type} {cc_ : Prop} {d_ : Decidable cc_} {q : TPoint} {t : TTurn} (h : cc_ → (Near q)) (ht : cc_ → (Near t.At)) (hq : cc_ → (t.Quarters ≤ 3)) {e_ : _} {f_ : _ → Option β} {Q_ : β → Prop} (hd : ¬ cc_ → f_ e_ = f_ (turnF q t)) (k_ : Ok (f_ (turnF q t)) Q_) : Ok (Option.bind (@ite _ cc_ d_ (p_ref1_TurnPoint q t) (some e_)) f_) Q_ := ok_short (fun hc__ => t_ref1_TurnPoint (h hc__) (ht hc__) (hq hc__)) hd k_
noncomputable def turnedF (p : TPoint) (t : TTurn) : TPoint × Int :=
  if turnFault t = 0 then (if isPointF p = true then (if isPointF (turnF p t) = true then (turnF p t, 0) else ({}, 1)) else ({}, 1)) else ({}, turnFault t)
theorem t_shape_Turned {p : TPoint} {t : TTurn} : p_shape_Turned p t = some (turnedF p t) := by
  apply ok_val
  unfold p_shape_Turned
  refine ok_then (o_shape_CheckTurn ?_)
  unfold turnedF
  by_cases h0 : turnFault t = 0
  · rw [if_pos h0, if_pos h0]
    obtain ⟨⟨h1, h2⟩, h3⟩ := turnFault_0.1 h0
    refine ok_then (o_shape_IsPoint ?_)
    by_cases h4 : isPointF p = true
    · rw [if_pos h4, if_neg (by simp [h4])]
      refine ok_then (o_shape_TurnPoint (near_of h4) (near_of h3) h2 ?_)
      refine ok_then (o_shape_IsPoint ?_)
      by_cases h5 : isPointF (turnF p t) = true
      · rw [if_pos h5, if_neg (by simp [h5])]; exact ok_some rfl
      · rw [if_neg h5, if_pos (by simp [h5])]; exact ok_some rfl
    · rw [if_neg h4, if_pos (by simp [h4])]; exact ok_some rfl
  · rw [if_neg h0, if_neg h0]; exact ok_some rfl
theorem o_shape_Turned {p : TPoint} {t : TTurn} {Q_ : _ → Prop} (k_ : Q_ (turnedF p t)) : Ok (p_shape_Turned p t) Q_ := ok_of (t_shape_Turned ) k_
theorem s_shape_Turned {β : Type} {cc_ : Prop} {d_ : Decidable cc_} {p : TPoint} {t : TTurn} {e_ : _} {f_ : _ → Option β} {Q_ : β → Prop} (hd : ¬ cc_ → f_ e_ = f_ (turnedF p t)) (k_ : Ok (f_ (turnedF p t)) Q_) : Ok (Option.bind (@ite _ cc_ d_ (p_shape_Turned p t) (some e_)) f_) Q_ := ok_short (fun hc__ => t_shape_Turned ) hd k_
theorem t_ref1_Turned {p : TPoint} {t : TTurn} : p_ref1_Turned p t = some (turnedF p t) := by
  apply ok_val
  unfold p_ref1_Turned
  refine ok_then (o_ref1_CheckTurn ?_)
  unfold turnedF
  by_cases h0 : turnFault t = 0
  · rw [if_pos h0, if_pos h0]
    obtain ⟨⟨h1, h2⟩, h3⟩ := turnFault_0.1 h0
    refine ok_then (o_ref1_IsPoint ?_)
    by_cases h4 : isPointF p = true
    · rw [if_pos h4, if_neg (by simp [h4])]
      refine ok_then (o_ref1_TurnPoint (near_of h4) (near_of h3) h2 ?_)
      refine ok_then (o_ref1_IsPoint ?_)
      by_cases h5 : isPointF (turnF p t) = true
      · rw [if_pos h5, if_neg (by simp [h5])]; exact ok_some rfl
      · rw [if_neg h5, if_pos (by simp [h5])]; exact ok_some rfl
    · rw [if_neg h4, if_pos (by simp [h4])]; exact ok_some rfl
  · rw [if_neg h0, if_neg h0]; exact ok_some rfl
theorem o_ref1_Turned {p : TPoint} {t : TTurn} {Q_ : _ → Prop} (k_ : Q_ (turnedF p t)) : Ok (p_ref1_Turned p t) Q_ := ok_of (t_ref1_Turned ) k_
theorem s_ref1_Turned {β : Type} {cc_ : Prop} {d_ : Decidable cc_} {p : TPoint} {t : TTurn} {e_ : _} {f_ : _ → Option β} {Q_ : β → Prop} (hd : ¬ cc_ → f_ e_ = f_ (turnedF p t)) (k_ : Ok (f_ (turnedF p t)) Q_) : Ok (Option.bind (@ite _ cc_ d_ (p_ref1_Turned p t) (some e_)) f_) Q_ := ok_short (fun hc__ => t_ref1_Turned ) hd k_
def thenT (t u : TTurn) : TTurn := { Flip := !(t.Flip == u.Flip), Quarters := Int.tmod ((if u.Flip = true then 4 - t.Quarters else t.Quarters) + u.Quarters) 4, At := turnF t.At u }
noncomputable def thenF (t u : TTurn) : TTurn × Int :=
  if turnFault t = 0 then (if turnFault u = 0 then (if isPointF (turnF t.At u) = true then (thenT t u, 0) else ({}, 1)) else ({}, turnFault u)) else ({}, turnFault t)
theorem t_ref1_ThenOf {t u : TTurn} (ht : turnFault t = 0) (hu : turnFault u = 0) : p_ref1_ThenOf t u = some (thenT t u) := by
  apply ok_val
  unfold p_ref1_ThenOf
  obtain ⟨⟨h1, h2⟩, h3⟩ := turnFault_0.1 ht
  obtain ⟨⟨h4, h5⟩, h6⟩ := turnFault_0.1 hu
  refine ok_then ?_
  have e : ∀ q : Int, Int.tmod (u.Quarters + q) 4 = Int.tmod (q + u.Quarters) 4 := fun q => by rw [Int.add_comm]
  refine ok_if (fun hf => ?_) (fun hf => ?_)
  · refine ok_guard (by omega) (ok_some ?_)
    refine ok_then (o_ref1_TurnPoint (near_of h3) (near_of h6) h5 ?_)
    refine ok_guard (by omega) (ok_some ?_)
    rw [thenT, if_pos hf, e]
  · refine ok_some ?_
    refine ok_then (o_ref1_TurnPoint (near_of h3) (near_of h6) h5 ?_)
    refine ok_guard (by omega) (ok_some ?_)
    rw [thenT, if_neg hf, e]
theorem o_ref1_ThenOf {t u : TTurn} (ht : turnFault t = 0) (hu : turnFault u = 0) {Q_ : _ → Prop} (k_ : Q_ (thenT t u)) : Ok (p_ref1_ThenOf t u) Q_ := ok_of (t_ref1_ThenOf ht hu) k_
theorem s_ref1_ThenOf {β : Type} {cc_ : Prop} {d_ : Decidable cc_} {t u : TTurn} (ht : cc_ → (turnFault t = 0)) (hu : cc_ → (turnFault u = 0)) {e_ : _} {f_ : _ → Option β} {Q_ : β → Prop} (hd : ¬ cc_ → f_ e_ = f_ (thenT t u)) (k_ : Ok (f_ (thenT t u)) Q_) : Ok (Option.bind (@ite _ cc_ d_ (p_ref1_ThenOf t u) (some e_)) f_) Q_ := ok_short (fun hc__ => t_ref1_ThenOf (ht hc__) (hu hc__)) hd k_
theorem t_ref1_Then {t u : TTurn} : p_ref1_Then t u = some (thenF t u) := by
  apply ok_val
  unfold p_ref1_Then
  refine ok_then (o_ref1_CheckTurn ?_)
  unfold thenF
  by_cases h0 : turnFault t = 0
  · rw [if_pos h0, if_pos h0]
    refine ok_then (o_ref1_CheckTurn ?_)
    by_cases h1 : turnFault u = 0
    · rw [if_pos h1, if_pos h1]
      refine ok_then (o_ref1_ThenOf h0 h1 ?_)
      refine ok_then (o_ref1_IsPoint ?_)
      rw [show (thenT t u).At = turnF t.At u from rfl]
      by_cases h5 : isPointF (turnF t.At u) = true
      · rw [if_pos h5, if_neg (by simp [h5])]; exact ok_some rfl
      · rw [if_neg h5, if_pos (by simp [h5])]; exact ok_some rfl
    · rw [if_neg h1, if_neg h1]; exact ok_some rfl
  · rw [if_neg h0, if_neg h0]; exact ok_some rfl
theorem o_ref1_Then {t u : TTurn} {Q_ : _ → Prop} (k_ : Q_ (thenF t u)) : Ok (p_ref1_Then t u) Q_ := ok_of (t_ref1_Then ) k_
theorem s_ref1_Then {β : Type} {cc_ : Prop} {d_ : Decidable cc_} {t u : TTurn} {e_ : _} {f_ : _ → Option β} {Q_ : β → Prop} (hd : ¬ cc_ → f_ e_ = f_ (thenF t u)) (k_ : Ok (f_ (thenF t u)) Q_) : Ok (Option.bind (@ite _ cc_ d_ (p_ref1_Then t u) (some e_)) f_) Q_ := ok_short (fun hc__ => t_ref1_Then ) hd k_
theorem t_shape_Then {t u : TTurn} : p_shape_Then t u = some (thenF t u) := by
  apply ok_val
  unfold p_shape_Then
  refine ok_then (o_shape_CheckTurn ?_)
  unfold thenF
  by_cases h0 : turnFault t = 0
  · rw [if_pos h0, if_pos h0]
    refine ok_then (o_shape_CheckTurn ?_)
    by_cases h1 : turnFault u = 0
    · rw [if_pos h1, if_pos h1]
      obtain ⟨⟨g1, g2⟩, g3⟩ := turnFault_0.1 h0
      obtain ⟨⟨g4, g5⟩, g6⟩ := turnFault_0.1 h1
      have key : Ok (if u.Flip = true then if -9223372036854775808 ≤ 4 - t.Quarters ∧ 4 - t.Quarters ≤ 9223372036854775807 then some (4 - t.Quarters) else none else some t.Quarters) (fun z => z = if u.Flip = true then 4 - t.Quarters else t.Quarters) := by
        refine ok_if (fun hf => ?_) (fun hf => ?_)
        · rw [if_pos hf]; exact ok_guard (by omega) (ok_some rfl)
        · rw [if_neg hf]; exact ok_some rfl
      refine ok_bind key ?_
      rintro e he
      have he' : 0 ≤ e ∧ e ≤ 4 := by rw [he]; split <;> omega
      refine ok_then (o_shape_TurnPoint (near_of g3) (near_of g6) g5 ?_)
      refine ok_then (o_shape_IsPoint ?_)
      refine ok_guard (by omega) ?_
      by_cases h5 : isPointF (turnF t.At u) = true
      · rw [if_pos h5, if_neg (by simp [h5])]; refine ok_some ?_; rw [thenT, ← he]
      · rw [if_neg h5, if_pos (by simp [h5])]; exact ok_some rfl
    · rw [if_neg h1, if_neg h1]; exact ok_some rfl
  · rw [if_neg h0, if_neg h0]; exact ok_some rfl
theorem o_shape_Then {t u : TTurn} {Q_ : _ → Prop} (k_ : Q_ (thenF t u)) : Ok (p_shape_Then t u) Q_ := ok_of (t_shape_Then ) k_
theorem s_shape_Then {β : Type} {cc_ : Prop} {d_ : Decidable cc_} {t u : TTurn} {e_ : _} {f_ : _ → Option β} {Q_ : β → Prop} (hd : ¬ cc_ → f_ e_ = f_ (thenF t u)) (k_ : Ok (f_ (thenF t u)) Q_) : Ok (Option.bind (@ite _ cc_ d_ (p_shape_Then t u) (some e_)) f_) Q_ := ok_short (fun hc__ => t_shape_Then ) hd k_
/-- the turn back, without its place -/
def backQ (t : TTurn) : TTurn := { Flip := t.Flip, Quarters := if t.Flip = true then t.Quarters else Int.tmod (4 - t.Quarters) 4 }
def backT (t : TTurn) : TTurn := { Flip := t.Flip, Quarters := (backQ t).Quarters, At := { X := 0 - (rotN (backQ t).Quarters.toNat (flipF t.Flip t.At)).X, Y := 0 - (rotN (backQ t).Quarters.toNat (flipF t.Flip t.At)).Y } }
noncomputable def backF (t : TTurn) : TTurn × Int := if turnFault t = 0 then (backT t, 0) else ({}, turnFault t)
theorem backQ_3 {t : TTurn} (h1 : 0 ≤ t.Quarters) (h2 : t.Quarters ≤ 3) : 0 ≤ (backQ t).Quarters ∧ (backQ t).Quarters ≤ 3 := by
  simp only [backQ]
  split
  · omega
  · rw [Int.tmod_eq_emod_of_nonneg (by omega)]; omega
theorem near_0 : Near {} := ⟨⟨by decide, by decide⟩, by decide, by decide⟩
theorem t_shape_Back {t : TTurn} : p_shape_Back t = some (backF t) := by
  apply ok_val
  unfold p_shape_Back
  refine ok_then (o_shape_CheckTurn ?_)
  unfold backF
  by_cases h0 : turnFault t = 0
  · rw [if_pos h0, if_pos h0]
    obtain ⟨⟨g1, g2⟩, g3⟩ := turnFault_0.1 h0
    have hb := backQ_3 g1 g2
    have key : Ok (if (!t.Flip) = true then if -9223372036854775808 ≤ 4 - t.Quarters ∧ 4 - t.Quarters ≤ 9223372036854775807 then some ({ Flip := t.Flip, Quarters := Int.tmod (4 - t.Quarters) 4 } : TTurn) else none else some { Flip := t.Flip, Quarters := t.Quarters }) (fun z => z = backQ t) := by
      refine ok_if (fun hf => ?_) (fun hf => ?_)
      · refine ok_guard (by omega) (ok_some ?_); rw [backQ, if_neg (by simpa using hf)]
      · refine ok_some ?_; rw [backQ, if_pos (by simpa using hf)]
    refine ok_bind key ?_
    rintro _ rfl
    refine ok_then (o_shape_TurnPoint (near_of g3) near_0 hb.2 ?_)
    obtain ⟨⟨k1, k2⟩, k3, k4⟩ := near_rotN (near_flip (b := t.Flip) (near_of g3)) (backQ t).Quarters.toNat
    have e1 : (turnF t.At (backQ t)).X = (rotN (backQ t).Quarters.toNat (flipF t.Flip t.At)).X := by simp only [turnF, backQ]; simp
    have e2 : (turnF t.At (backQ t)).Y = (rotN (backQ t).Quarters.toNat (flipF t.Flip t.At)).Y := by simp only [turnF, backQ]; simp
    rw [e1, e2]
    refine ok_guard (by omega) (ok_guard (by omega) (ok_some ?_))
    rfl
  · rw [if_neg h0, if_neg h0]; exact ok_some rfl
theorem o_shape_Back {t : TTurn} {Q_ : _ → Prop} (k_ : Q_ (backF t)) : Ok (p_shape_Back t) Q_ := ok_of (t_shape_Back ) k_
theorem s_shape_Back {β : Type} {cc_ : Prop} {d_ : Decidable cc_} {t : TTurn} {e_ : _} {f_ : _ → Option β} {Q_ : β → Prop} (hd : ¬ cc_ → f_ e_ = f_ (backF t)) (k_ : Ok (f_ (backF t)) Q_) : Ok (Option.bind (@ite _ cc_ d_ (p_shape_Back t) (some e_)) f_) Q_ := ok_short (fun hc__ => t_shape_Back ) hd k_
theorem t_ref1_Back {t : TTurn} : p_ref1_Back t = some (backF t) := by
  apply ok_val
  unfold p_ref1_Back
  refine ok_then (o_ref1_CheckTurn ?_)
  unfold backF
  by_cases h0 : turnFault t = 0
  · rw [if_pos h0, if_pos h0]
    obtain ⟨⟨g1, g2⟩, g3⟩ := turnFault_0.1 h0
    have hb := backQ_3 g1 g2
    refine ok_guard (by omega) ?_
    have key : Ok (if t.Flip = true then some ({ Flip := t.Flip, Quarters := t.Quarters } : TTurn) else some { Flip := t.Flip, Quarters := Int.tmod (4 - t.Quarters) 4 }) (fun z => z = backQ t) := by
      refine ok_if (fun hf => ?_) (fun hf => ?_)
      · rw [backQ, if_pos hf]; exact ok_some rfl
      · rw [backQ, if_neg hf]; exact ok_some rfl
    refine ok_bind key ?_
    rintro _ rfl
    refine ok_then (o_ref1_around (near_of g3) hb.2 ?_)
    obtain ⟨⟨k1, k2⟩, k3, k4⟩ := near_rotN (near_flip (b := t.Flip) (near_of g3)) (backQ t).Quarters.toNat
    rw [show (backQ t).Flip = t.Flip from rfl]
    refine ok_guard (by omega) (ok_guard (by omega) (ok_some ?_))
    rfl
  · rw [if_neg h0, if_neg h0]; exact ok_some rfl
theorem o_ref1_Back {t : TTurn} {Q_ : _ → Prop} (k_ : Q_ (backF t)) : Ok (p_ref1_Back t) Q_ := ok_of (t_ref1_Back ) k_
theorem s_ref1_Back {β : Type} {cc_ : Prop} {d_ : Decidable cc_} {t : TTurn} {e_ : _} {f_ : _ → Option β} {Q_ : β → Prop} (hd : ¬ cc_ → f_ e_ = f_ (backF t)) (k_ : Ok (f_ (backF t)) Q_) : Ok (Option.bind (@ite _ cc_ d_ (p_ref1_Back t) (some e_)) f_) Q_ := ok_short (fun hc__ => t_ref1_Back ) hd k_
theorem row_TurnsMatchSpec (a0 a1 : TTurn) (a2 : TPoint) (h0 : okTTurn a0) (h1 : okTTurn a1) (h2 : okTPoint a2) : p_law1_TurnsMatchSpec a0 a1 a2 = some true := by
  apply ok_val
  unfold p_law1_TurnsMatchSpec
  (try dsimp only); (repeat' (first | (with_reducible apply s_shape_Turned; case hd => (intro hc; simp only [Bool.not_not, Bool.not_eq_true, Bool.not_eq_false'] at hc; simp only [hc, Bool.true_or, Bool.false_and, Bool.not_true, Bool.not_false, Bool.or_true, Bool.and_false])) | (with_reducible apply s_ref1_Turned; case hd => (intro hc; simp only [Bool.not_not, Bool.not_eq_true, Bool.not_eq_false'] at hc; simp only [hc, Bool.true_or, Bool.false_and, Bool.not_true, Bool.not_false, Bool.or_true, Bool.and_false])) | (with_reducible apply s_shape_CheckTurn; case hd => (intro hc; simp only [Bool.not_not, Bool.not_eq_true, Bool.not_eq_false'] at hc; simp only [hc, Bool.true_or, Bool.false_and, Bool.not_true, Bool.not_false, Bool.or_true, Bool.and_false])) | (with_reducible apply s_ref1_CheckTurn; case hd => (intro hc; simp only [Bool.not_not, Bool.not_eq_true, Bool.not_eq_false'] at hc; simp only [hc, Bool.true_or, Bool.false_and, Bool.not_true, Bool.not_false, Bool.or_true, Bool.and_false])) | (with_reducible apply s_shape_Then; case hd => (intro hc; simp only [Bool.not_not, Bool.not_eq_true, Bool.not_eq_false'] at hc; simp only [hc, Bool.true_or, Bool.false_and, Bool.not_true, Bool.not_false, Bool.or_true, Bool.and_false])) | (with_reducible apply s_ref1_Then; case hd => (intro hc; simp only [Bool.not_not, Bool.not_eq_true, Bool.not_eq_false'] at hc; simp only [hc, Bool.true_or, Bool.false_and, Bool.not_true, Bool.not_false, Bool.or_true, Bool.and_false])) | (with_reducible apply s_shape_Back; case hd => (intro hc; simp only [Bool.not_not, Bool.not_eq_true, Bool.not_eq_false'] at hc; simp only [hc, Bool.true_or, Bool.false_and, Bool.not_true, Bool.not_false, Bool.or_true, Bool.and_false])) | (with_reducible apply s_ref1_Back; case hd => (intro hc; simp only [Bool.not_not, Bool.not_eq_true, Bool.not_eq_false'] at hc; simp only [hc, Bool.true_or, Bool.false_and, Bool.not_true, Bool.not_false, Bool.or_true, Bool.and_false])) | (with_reducible apply s_law1_awake; case hd => (intro hc; simp only [Bool.not_not, Bool.not_eq_true, Bool.not_eq_false'] at hc; simp only [hc, Bool.true_or, Bool.false_and, Bool.not_true, Bool.not_false, Bool.or_true, Bool.and_false])) | (with_reducible apply o_shape_Turned <;> try first | assumption | omega) | (with_reducible apply o_ref1_Turned <;> try first | assumption | omega) | (with_reducible apply o_shape_CheckTurn <;> try first | assumption | omega) | (with_reducible apply o_ref1_CheckTurn <;> try first | assumption | omega) | (with_reducible apply o_shape_Then <;> try first | assumption | omega) | (with_reducible apply o_ref1_Then <;> try first | assumption | omega) | (with_reducible apply o_shape_Back <;> try first | assumption | omega) | (with_reducible apply o_ref1_Back <;> try first | assumption | omega) | (with_reducible apply o_law1_awake <;> try first | assumption | omega) | (with_reducible apply ok_guard; case h => (first | assumption | omega | (simp; done) | (simp; omega) | (and_intros <;> first | omega | (intro _; omega)) | (simp only [Bool.or_eq_true, Bool.and_eq_true, Bool.not_eq_true', Bool.not_eq_true, Bool.not_eq_false', Bool.not_eq_false, Bool.or_eq_false_iff, Bool.and_eq_false_iff, decide_eq_true_eq, decide_eq_false_iff_not, Bool.not_not, beq_iff_eq, bne_iff_ne] at *; omega))) | (with_reducible apply ok_guard) | (with_reducible apply ok_if <;> intro _) | (with_reducible apply ok_some) | (with_reducible apply ok_esc) | (with_reducible apply ok_then))); (all_goals try dsimp only); (all_goals try (exfalso; omega))
  · rename_i h; simp at h
  · simp
theorem q4 {q : Int} (h1 : 0 ≤ q) (h2 : q ≤ 3) : q = 0 ∨ q = 1 ∨ q = 2 ∨ q = 3 := by omega
theorem turn_back {p : TPoint} {t : TTurn} (h1 : 0 ≤ t.Quarters) (h2 : t.Quarters ≤ 3) : turnF (turnF p t) (backT t) = p := by
  obtain ⟨f, q, at_⟩ := t
  simp only at h1 h2
  rcases q4 h1 h2 with rfl | rfl | rfl | rfl <;> cases f <;> (simp [turnF, backT, backQ, rotN, rot, flipF]; try (ext <;> simp <;> omega))
theorem turn_then {p : TPoint} {t u : TTurn} (h1 : 0 ≤ t.Quarters) (h2 : t.Quarters ≤ 3) (h3 : 0 ≤ u.Quarters) (h4 : u.Quarters ≤ 3) : turnF p (thenT t u) = turnF (turnF p t) u := by
  obtain ⟨f, q, at_⟩ := t
  obtain ⟨f', q', at'⟩ := u
  simp only at h1 h2 h3 h4
  rcases q4 h1 h2 with rfl | rfl | rfl | rfl <;> rcases q4 h3 h4 with rfl | rfl | rfl | rfl <;> cases f <;> cases f' <;> (simp [turnF, thenT, rotN, rot, flipF]; try omega)
theorem turnedF_ok {p : TPoint} {t : TTurn} (h : (turnedF p t).2 = 0) : turnFault t = 0 ∧ isPointF p = true ∧ isPointF (turnF p t) = true ∧ (turnedF p t).1 = turnF p t := by
  unfold turnedF at h ⊢
  by_cases h0 : turnFault t = 0
  · rw [if_pos h0] at h ⊢
    by_cases h1 : isPointF p = true
    · rw [if_pos h1] at h ⊢
      by_cases h2 : isPointF (turnF p t) = true
      · rw [if_pos h2]; exact ⟨h0, h1, h2, rfl⟩
      · rw [if_neg h2] at h; cases h
    · rw [if_neg h1] at h; cases h
  · rw [if_neg h0] at h; exact absurd h h0
theorem turnedF_no {p : TPoint} {t : TTurn} (h : ¬ (turnedF p t).2 = 0) : (turnedF p t).1 = {} := by
  unfold turnedF at h ⊢
  split
  · split
    · split
      · rename_i h0 h1 h2; rw [if_pos h0, if_pos h1, if_pos h2] at h; exact absurd rfl h
      · rfl
    · rfl
  · rfl
theorem backT_ok {t : TTurn} (h : turnFault t = 0) : turnFault (backT t) = 0 := by
  obtain ⟨⟨g1, g2⟩, g3⟩ := turnFault_0.1 h
  refine turnFault_0.2 ⟨backQ_3 g1 g2, ?_⟩
  have g4 := isPointF_iff.1 g3
  obtain ⟨f, q, at_⟩ := t
  simp only at g1 g2 g4
  refine isPointF_iff.2 ?_
  rcases q4 g1 g2 with rfl | rfl | rfl | rfl <;> cases f <;> (simp [backT, backQ, rotN, rot, flipF]; omega)
theorem turnedF_eq {p : TPoint} {t : TTurn} (h0 : turnFault t = 0) (h1 : isPointF p = true) (h2 : isPointF (turnF p t) = true) : turnedF p t = (turnF p t, 0) := by
  rw [turnedF, if_pos h0, if_pos h1, if_pos h2]
theorem thenF_ok {t u : TTurn} (h : (thenF t u).2 = 0) : turnFault t = 0 ∧ turnFault u = 0 ∧ turnFault (thenT t u) = 0 ∧ (thenF t u).1 = thenT t u := by
  unfold thenF at h ⊢
  by_cases h0 : turnFault t = 0
  · rw [if_pos h0] at h ⊢
    by_cases h1 : turnFault u = 0
    · rw [if_pos h1] at h ⊢
      by_cases h2 : isPointF (turnF t.At u) = true
      · rw [if_pos h2]
        obtain ⟨⟨g1, g2⟩, g3⟩ := turnFault_0.1 h0
        obtain ⟨⟨g4, g5⟩, g6⟩ := turnFault_0.1 h1
        refine ⟨h0, h1, turnFault_0.2 ⟨?_, h2⟩, rfl⟩
        simp only [thenT]
        rw [Int.tmod_eq_emod_of_nonneg (by split <;> omega)]
        omega
      · rw [if_neg h2] at h; cases h
    · rw [if_neg h1] at h; exact absurd h h1
  · rw [if_neg h0] at h; exact absurd h h0
theorem row_TurnsGoBack (a0 a1 : TTurn) (a2 : TPoint) (h0 : okTTurn a0) (h1 : okTTurn a1) (h2 : okTPoint a2) : p_law1_TurnsGoBack a0 a1 a2 = some true := by
  apply ok_val
  unfold p_law1_TurnsGoBack
  refine ok_then (o_shape_Turned ?_)
  refine ok_if (fun e0 => ?_) (fun e0 => ?_)
  · obtain ⟨k1, k2, k3, k4⟩ := turnedF_ok e0
    obtain ⟨⟨g1, g2⟩, g3⟩ := turnFault_0.1 k1
    rw [k4]
    refine ok_then (o_shape_Back ?_)
    rw [show backF a0 = (backT a0, 0) from if_pos k1]
    refine ok_if (fun _ => ?_) (fun h => absurd rfl h)
    refine ok_then (o_shape_Turned ?_)
    have e1 : turnedF (turnF a2 a0) (backT a0) = (a2, 0) := by
      rw [turnedF_eq (backT_ok k1) k3 (by rw [turn_back g1 g2]; exact k2), turn_back g1 g2]
    rw [show (backT a0, (0 : Int)).1 = backT a0 from rfl, e1]
    refine ok_if (fun h => by simp at h) (fun _ => ?_)
    refine ok_then (o_shape_Then ?_)
    refine ok_then (o_shape_Turned ?_)
    refine ok_if (fun h => ?_) (fun h => ?_)
    · refine ok_then (o_law1_awake (ok_some rfl))
    · simp only [Bool.or_eq_true, Bool.not_eq_true', decide_eq_false_iff_not, not_or, Decidable.not_not] at h
      obtain ⟨m1, m2, m3, m4⟩ := thenF_ok h.1
      obtain ⟨n1, n2, n3, n4⟩ := turnedF_ok h.2
      obtain ⟨⟨g4, g5⟩, g6⟩ := turnFault_0.1 n1
      rw [m4, n4]
      have e2 : turnedF a2 (thenT a0 a1) = (turnF (turnF a2 a0) a1, 0) := by
        rw [turnedF_eq m3 k2 (by rw [turn_then g1 g2 g4 g5]; exact n3), turn_then g1 g2 g4 g5]
      refine ok_then (o_shape_Turned ?_)
      rw [e2]
      (try dsimp only); (repeat' (first | (with_reducible apply s_law1_awake; case hd => (intro hc; simp only [Bool.not_not, Bool.not_eq_true, Bool.not_eq_false'] at hc; simp only [hc, Bool.true_or, Bool.false_and, Bool.not_true, Bool.not_false, Bool.or_true, Bool.and_false])) | (with_reducible apply o_law1_awake <;> try first | assumption | omega) | (with_reducible apply ok_guard; case h => (first | assumption | omega | (simp; done) | (simp; omega) | (and_intros <;> first | omega | (intro _; omega)) | (simp only [Bool.or_eq_true, Bool.and_eq_true, Bool.not_eq_true', Bool.not_eq_true, Bool.not_eq_false', Bool.not_eq_false, Bool.or_eq_false_iff, Bool.and_eq_false_iff, decide_eq_true_eq, decide_eq_false_iff_not, Bool.not_not, beq_iff_eq, bne_iff_ne] at *; omega))) | (with_reducible apply ok_guard) | (with_reducible apply ok_if <;> intro _) | (with_reducible apply ok_some) | (with_reducible apply ok_esc) | (with_reducible apply ok_then))); (all_goals try dsimp only); (all_goals try (exfalso; omega))
      simp
  · rw [turnedF_no e0]
    (try dsimp only); (repeat' (first | (with_reducible apply s_law1_awake; case hd => (intro hc; simp only [Bool.not_not, Bool.not_eq_true, Bool.not_eq_false'] at hc; simp only [hc, Bool.true_or, Bool.false_and, Bool.not_true, Bool.not_false, Bool.or_true, Bool.and_false])) | (with_reducible apply o_law1_awake <;> try first | assumption | omega) | (with_reducible apply ok_guard; case h => (first | assumption | omega | (simp; done) | (simp; omega) | (and_intros <;> first | omega | (intro _; omega)) | (simp only [Bool.or_eq_true, Bool.and_eq_true, Bool.not_eq_true', Bool.not_eq_true, Bool.not_eq_false', Bool.not_eq_false, Bool.or_eq_false_iff, Bool.and_eq_false_iff, decide_eq_true_eq, decide_eq_false_iff_not, Bool.not_not, beq_iff_eq, bne_iff_ne] at *; omega))) | (with_reducible apply ok_guard) | (with_reducible apply ok_if <;> intro _) | (with_reducible apply ok_some) | (with_reducible apply ok_esc) | (with_reducible apply ok_then))); (all_goals try dsimp only); (all_goals try (exfalso; omega))
    simp
end Go.Nw
