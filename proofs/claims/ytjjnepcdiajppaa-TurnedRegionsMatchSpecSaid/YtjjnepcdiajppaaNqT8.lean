/- NqT8: a part of the proof. -/
import Derived.Test.YtjjnepcdiajppaaNqT6
set_option linter.unusedVariables false
set_option linter.unusedSimpArgs false
set_option maxRecDepth 100000
namespace Go.Nw
/-! Turned regions. -/
def rectP (p q : TPoint) : TRect := { X0 := if q.X < p.X then q.X else p.X, Y0 := if q.Y < p.Y then q.Y else p.Y, X1 := if q.X > p.X then q.X else p.X, Y1 := if q.Y > p.Y then q.Y else p.Y }
def turnR (t : TTurn) (r : TRect) : TRect := rectP (turnF { X := r.X0, Y := r.Y0 } t) (turnF { X := r.X1, Y := r.Y1 } t)
theorem corners {r : TRect} (h : RIn r) : isPointF { X := r.X0, Y := r.Y0 } = true ∧ isPointF { X := r.X1, Y := r.Y1 } = true := by
  have h1 := h.x0; have h2 := h.xx; have h3 := h.x1; have h4 := h.y0; have h5 := h.yy; have h6 := h.y1
  exact ⟨isPointF_iff.2 (by simp only; omega), isPointF_iff.2 (by simp only; omega)⟩
theorem rotN_ne {p q : TPoint} (h : p.X ≠ q.X ∧ p.Y ≠ q.Y) : ∀ n, (rotN n p).X ≠ (rotN n q).X ∧ (rotN n p).Y ≠ (rotN n q).Y
  | 0 => h
  | n + 1 => by
    have := rotN_ne h n
    simp only [rotN, rot]
    exact ⟨by omega, by omega⟩
theorem flip_ne {p q : TPoint} (b : Bool) (h : p.X ≠ q.X ∧ p.Y ≠ q.Y) : (flipF b p).X ≠ (flipF b q).X ∧ (flipF b p).Y ≠ (flipF b q).Y := by
  cases b
  · simpa [flipF] using h
  · simp only [flipF, if_true]; exact ⟨by omega, h.2⟩
theorem turnR_ok {r : TRect} {t : TTurn} (h : RIn r) (ht : turnFault t = 0) : ROk (turnR t r) := by
  obtain ⟨⟨t1, t2⟩, t3⟩ := turnFault_0.1 ht
  obtain ⟨c1, c2⟩ := corners h
  have n1 := near_turn c1 t3 t2
  have n2 := near_turn c2 t3 t2
  have h2 := h.xx; have h5 := h.yy
  have ne := rotN_ne (flip_ne t.Flip (p := { X := r.X0, Y := r.Y0 }) (q := { X := r.X1, Y := r.Y1 }) ⟨by simp only; omega, by simp only; omega⟩) t.Quarters.toNat
  have ne1 : (turnF { X := r.X0, Y := r.Y0 } t).X ≠ (turnF { X := r.X1, Y := r.Y1 } t).X := by simp only [turnF]; omega
  have ne2 : (turnF { X := r.X0, Y := r.Y0 } t).Y ≠ (turnF { X := r.X1, Y := r.Y1 } t).Y := by simp only [turnF]; omega
  clear ne
  unfold turnR rectP
  generalize (turnF { X := r.X0, Y := r.Y0 } t) = p at *
  generalize (turnF { X := r.X1, Y := r.Y1 } t) = q at *
  refine ⟨?_, ?_, ?_, ?_, ?_, ?_⟩ <;> simp only <;> (repeat' split) <;> omega
theorem t_shape_TurnRect {r : TRect} {t : TTurn} (h : RIn r) (ht : turnFault t = 0) : p_shape_TurnRect r t = some (turnR t r) := by
  apply ok_val
  unfold p_shape_TurnRect
  obtain ⟨⟨t1, t2⟩, t3⟩ := turnFault_0.1 ht
  obtain ⟨c1, c2⟩ := corners h
  refine ok_then (o_shape_TurnPoint (near_of c1) (near_of t3) t2 ?_)
  refine ok_then (o_shape_TurnPoint (near_of c2) (near_of t3) t2 ?_)
  exact ok_some rfl
theorem o_shape_TurnRect {r : TRect} {t : TTurn} (h : RIn r) (ht : turnFault t = 0) {Q_ : _ → Prop} (k_ : Q_ (turnR t r)) : Ok (p_shape_TurnRect r t) Q_ := ok_of (t_shape_TurnRect h ht) k_
theorem s_shape_TurnRect {β : Type} {cc_ : Prop} {d_ : Decidable cc_} {r : TRect} {t : TTurn} (h : cc_ → (RIn r)) (ht : cc_ → (turnFault t = 0)) {e_ : _} {f_ : _ → Option β} {Q_ : β → Prop} (hd : ¬ cc_ → f_ e_ = f_ (turnR t r)) (k_ : Ok (f_ (turnR t r)) Q_) : Ok (Option.bind (@ite _ cc_ d_ (p_shape_TurnRect r t) (some e_)) f_) Q_ := ok_short (fun hc__ => t_shape_TurnRect (h hc__) (ht hc__)) hd k_
theorem t_ref1_TurnRect {r : TRect} {t : TTurn} (h : RIn r) (ht : turnFault t = 0) : p_ref1_TurnRect r t = some (turnR t r) := by
  apply ok_val
  unfold p_ref1_TurnRect
  obtain ⟨⟨t1, t2⟩, t3⟩ := turnFault_0.1 ht
  obtain ⟨c1, c2⟩ := corners h
  refine ok_then (o_ref1_TurnPoint (near_of c1) (near_of t3) t2 ?_)
  refine ok_then (o_ref1_TurnPoint (near_of c2) (near_of t3) t2 ?_)
  exact ok_some rfl
theorem o_ref1_TurnRect {r : TRect} {t : TTurn} (h : RIn r) (ht : turnFault t = 0) {Q_ : _ → Prop} (k_ : Q_ (turnR t r)) : Ok (p_ref1_TurnRect r t) Q_ := ok_of (t_ref1_TurnRect h ht) k_
theorem s_ref1_TurnRect {β : Type} {cc_ : Prop} {d_ : Decidable cc_} {r : TRect} {t : TTurn} (h : cc_ → (RIn r)) (ht : cc_ → (turnFault t = 0)) {e_ : _} {f_ : _ → Option β} {Q_ : β → Prop} (hd : ¬ cc_ → f_ e_ = f_ (turnR t r)) (k_ : Ok (f_ (turnR t r)) Q_) : Ok (Option.bind (@ite _ cc_ d_ (p_ref1_TurnRect r t) (some e_)) f_) Q_ := ok_short (fun hc__ => t_ref1_TurnRect (h hc__) (ht hc__)) hd k_
theorem rects_in {m : List TRect} (h : ∀ r ∈ m, ROk r) : (∀ r ∈ m, isRectF r = true) ↔ ∀ x y, cov m x y → (-1000000 ≤ x ∧ x < 1000000) ∧ -1000000 ≤ y ∧ y < 1000000 := by
  constructor
  · rintro g x y ⟨r, hr, ⟨h1, h2⟩, h3, h4⟩
    have := isRectF_iff.1 (g r hr); omega
  · intro g r hr
    have hx := (h r hr).xx; have hy := (h r hr).yy
    have c1 := g r.X0 r.Y0 ⟨r, hr, ⟨by omega, by omega⟩, by omega, by omega⟩
    have c2 := g (r.X1 - 1) (r.Y1 - 1) ⟨r, hr, ⟨by omega, by omega⟩, by omega, by omega⟩
    exact isRectF_iff.2 (by omega)
theorem box_rect {m : List TRect} {b : TRect} (h : Box m b) (hm : ∀ r ∈ m, r.X0 < r.X1 ∧ r.Y0 < r.Y1) : isRectF b = true ↔ ∀ r ∈ m, isRectF r = true := by
  constructor
  · intro g r hr
    have g := isRectF_iff.1 g
    have := h.le r hr
    have := hm r hr
    exact isRectF_iff.2 (by omega)
  · intro g
    obtain ⟨a, a1, a2⟩ := h.x0; obtain ⟨c, c1, c2⟩ := h.y0; obtain ⟨d, d1, d2⟩ := h.x1; obtain ⟨e, e1, e2⟩ := h.y1
    have g1 := isRectF_iff.1 (g a a1); have g2 := isRectF_iff.1 (g c c1); have g3 := isRectF_iff.1 (g d d1); have g4 := isRectF_iff.1 (g e e1)
    exact isRectF_iff.2 (by omega)
open Classical in
noncomputable def fitsF (m : List TRect) : Bool := decide (∀ r ∈ m, isRectF r = true)
theorem o_shape_Set_Fits {m : List TRect} (h : ∀ r ∈ m, ROk r) (hn : m.length ≤ 2000) {Q : Bool → Prop} (k : Q (fitsF m)) : Ok (p_shape_Set_Fits ((setB (cov m)).map ofBd)) Q := by
  have S := setB_ok (fun r hr => (h r hr).xx) (fun r hr => (h r hr).yy)
  have key : fitsF m = true ↔ ∀ r ∈ rectsOf (setB (cov m)), isRectF r = true := by
    rw [fitsF, decide_eq_true_eq, rects_in h]
    have hc : ∀ x y, cov m x y ↔ cov (rectsOf (setB (cov m))) x y := fun x y => by rw [cov_rectsOf S.canon, S.cv]
    constructor
    · intro g r hr
      obtain ⟨hx, hy⟩ := rectsOf_lt S.canon hr
      have c1 := g r.X0 r.Y0 ((hc _ _).2 ⟨r, hr, ⟨by omega, by omega⟩, by omega, by omega⟩)
      have c2 := g (r.X1 - 1) (r.Y1 - 1) ((hc _ _).2 ⟨r, hr, ⟨by omega, by omega⟩, by omega, by omega⟩)
      exact isRectF_iff.2 (by omega)
    · intro g x y hxy
      obtain ⟨r, hr, ⟨h1, h2⟩, h3, h4⟩ := (hc x y).1 hxy
      have := isRectF_iff.1 (g r hr); omega
  unfold p_shape_Set_Fits
  have hlm : ((setB (cov m)).map ofBd).length = (setB (cov m)).length := List.length_map ..
  simp only [hlm]
  by_cases h0 : ((setB (cov m)).length : Int) = 0
  · have e : setB (cov m) = [] := List.eq_nil_of_length_eq_zero (by omega)
    have hf : fitsF m = true := key.2 (by rw [e]; simp [rectsOf])
    have hd : decide (((setB (cov m)).length : Int) = 0) = true := decide_eq_true h0
    simp only [hd, Bool.not_true, Bool.false_eq_true, if_false, Bool.true_or]
    refine ok_then (ok_some (ok_then (ok_some (ok_some ?_))))
    rw [hf] at k
    exact k
  · have hd : decide (((setB (cov m)).length : Int) = 0) = false := decide_eq_false h0
    simp only [hd, Bool.not_false, if_true, Bool.false_or]
    refine ok_then (o_shape_Set_Around S.canon (by have := S.len; omega) (fun b hb => by have := S.xl b hb; omega) (by omega) fun r hr => ?_)
    refine ok_then (o_shape_isRect (ok_some ?_))
    have : isRectF r = fitsF m := by rw [Bool.eq_iff_iff, key]; exact box_rect hr fun q hq => rectsOf_lt S.canon hq
    rw [this]
    exact k
noncomputable def turnedRF (l : List TRect) (t : TTurn) : List TRect × Int :=
  if regionFault l = 0 then (if turnFault t = 0 then (if fitsF (l.map (turnR t)) = true then toldF (canonF (l.map (turnR t))) else ([], 1)) else ([], turnFault t)) else ([], regionFault l)
theorem turnedRF_len (l : List TRect) (t : TTurn) : (turnedRF l t).1.length ≤ 2000 := by
  unfold turnedRF
  split
  · split
    · split
      · exact toldF_len _
      · simp
    · simp
  · simp
theorem o_shape_Set_TurnSet {l : List TRect} {t : TTurn} (hl : regionFault l = 0) (ht : turnFault t = 0) {Q : List TShapeBand → Prop} (k : Q ((setB (cov (l.map (turnR t)))).map ofBd)) : Ok (p_shape_Set_TurnSet ((setB (cov l)).map ofBd) t) Q := by
  have R := (regionFault_0.1 hl).1
  obtain ⟨T, -⟩ := set_tame (regionFault_r hl)
  have hn := R.n
  have hc : rectsOf (setB (cov l)) = l := R.canon
  unfold p_shape_Set_TurnSet
  refine ok_then (o_shape_Set_Rects_o (by have := T.len; omega) (fun b hb => (T.canon.ok b hb).ev) (by rw [hc]; omega) ?_)
  rw [hc]
  refine ok_then ?_
  refine ok_for l.length (fun i m => m.length = l.length ∧ m.take i = (l.map (turnR t)).take i ∧ m.drop i = l.drop i) ⟨rfl, by simp, rfl⟩ ?_ ?_
  · rintro i m hi ⟨h1, h2, h3⟩
    have e : m.getD i default = l.getD i default := by
      have := congrArg (fun l => l.getD 0 default) h3
      simpa using this
    simp only [Int.toNat_natCast, e]
    rw [if_pos (by omega), if_pos ⟨by omega, by omega⟩]
    refine ok_then (o_shape_TurnRect (R.ok _ (mem_getD hi)) ht ?_)
    rw [if_pos (by omega), if_pos (by rw [List.length_set]; omega)]
    refine ok_some ⟨rfl, by simp only [List.length_set]; exact h1, ?_, ?_⟩
    · simp only
      rw [take_set_succ (by omega), h2, take_snoc (d := default) (show i < (l.map (turnR t)).length by simpa using hi)]
      congr 2
      rw [getD_in hi, getD_in (by simpa using hi)]; simp
    · simp only
      rw [List.drop_set_of_lt (by omega)]
      have := congrArg List.tail h3
      simpa using this
  · rintro m ⟨h1, h2, h3⟩
    rw [if_neg (by omega), if_pos h1.symm]
    refine ok_some ?_
    simp only
    have hm : m = l.map (turnR t) := by
      rw [List.take_of_length_le (by omega), List.take_of_length_le (by simp)] at h2; exact h2
    rw [if_pos (by omega), List.drop_zero, List.take_of_length_le (by omega), hm]
    refine ok_then (o_shape_SetOf (by rw [List.length_map]; omega) (fun r hr => ?_) (ok_some k))
    obtain ⟨q, hq, rfl⟩ := List.mem_map.1 hr
    exact turnR_ok (R.ok q hq) ht
theorem t_shape_TurnedRegion {l : List TRect} {t : TTurn} (hl : l.length < 281474976710656) : p_shape_TurnedRegion l t = some (turnedRF l t) := by
  apply ok_val
  unfold p_shape_TurnedRegion
  unfold turnedRF
  refine ok_then (o_shape_CheckRegion hl ?_)
  by_cases h0 : regionFault l = 0
  · rw [if_pos h0, if_pos h0]
    refine ok_then (o_shape_CheckTurn ?_)
    by_cases h1 : turnFault t = 0
    · rw [if_pos h1, if_pos h1]
      have R := (regionFault_0.1 h0).1
      have hn := R.n
      have ok : ∀ r ∈ l.map (turnR t), ROk r := fun r hr => by
        obtain ⟨q, hq, rfl⟩ := List.mem_map.1 hr
        exact turnR_ok (R.ok q hq) h1
      have hml : (l.map (turnR t)).length ≤ 2000 := by rw [List.length_map]; exact hn
      have S := setB_ok (fun r hr => (ok r hr).xx) (fun r hr => (ok r hr).yy)
      have hmany : (rectsOf (setB (cov (l.map (turnR t))))).length < 1000000000000 := by
        have h3 := S.many
        have h4 : 2 * (l.map (turnR t)).length * (l.map (turnR t)).length ≤ 4000 * 2000 := Nat.mul_le_mul (by omega) hml
        omega
      refine ok_then (o_shape_SetOf (by omega) (fun r hr => (R.ok r hr).ok) ?_)
      refine ok_then (o_shape_Set_TurnSet h0 h1 ?_)
      refine ok_then (o_shape_Set_Fits ok hml ?_)
      by_cases h2 : fitsF (l.map (turnR t)) = true
      · rw [if_neg (by simp [h2]), if_pos h2]
        exact ok_then (o_shape_Set_Told (by have := S.len; omega) (fun b hb => (S.canon.ok b hb).ev) hmany (ok_some rfl))
      · rw [if_pos (by simp [h2]), if_neg h2]; exact ok_some rfl
    · rw [if_neg h1, if_neg h1]; exact ok_some rfl
  · rw [if_neg h0, if_neg h0]; exact ok_some rfl
theorem o_shape_TurnedRegion {l : List TRect} {t : TTurn} (hl : l.length < 281474976710656) {Q_ : _ → Prop} (k_ : Q_ (turnedRF l t)) : Ok (p_shape_TurnedRegion l t) Q_ := ok_of (t_shape_TurnedRegion hl) k_
theorem s_shape_TurnedRegion {β : Type} {cc_ : Prop} {d_ : Decidable cc_} {l : List TRect} {t : TTurn} (hl : cc_ → (l.length < 281474976710656)) {e_ : _} {f_ : _ → Option β} {Q_ : β → Prop} (hd : ¬ cc_ → f_ e_ = f_ (turnedRF l t)) (k_ : Ok (f_ (turnedRF l t)) Q_) : Ok (Option.bind (@ite _ cc_ d_ (p_shape_TurnedRegion l t) (some e_)) f_) Q_ := ok_short (fun hc__ => t_shape_TurnedRegion (hl hc__)) hd k_
theorem t_ref1_TurnedRegion {l : List TRect} {t : TTurn} (hl : l.length < 281474976710656) : p_ref1_TurnedRegion l t = some (turnedRF l t) := by
  apply ok_val
  unfold p_ref1_TurnedRegion
  unfold turnedRF
  refine ok_then (o_ref1_CheckRegion hl ?_)
  by_cases h0 : regionFault l = 0
  · rw [if_pos h0, if_pos h0]
    refine ok_then (o_ref1_CheckTurn ?_)
    by_cases h1 : turnFault t = 0
    · rw [if_pos h1, if_pos h1]
      have R := (regionFault_0.1 h0).1
      have hn := R.n
      have ok : ∀ r ∈ l.map (turnR t), ROk r := fun r hr => by
        obtain ⟨q, hq, rfl⟩ := List.mem_map.1 hr
        exact turnR_ok (R.ok q hq) h1
      have hml : (l.map (turnR t)).length ≤ 2000 := by rw [List.length_map]; exact hn
      refine ok_esc ?_
      refine ok_for l.length (fun i (s : List TRect × Int × List TRect) => s.1 = (l.take i).map (turnR t) ∧ ∀ j < i, isRectF (turnR t (l.getD j default)) = true) ⟨by simp, by intro j h; omega⟩ ?_ ?_
      · rintro i ⟨out, s2, s3⟩ hi ⟨e, hI⟩
        simp only at e
        subst e
        simp only [Int.toNat_natCast]
        have hlo : ((l.take i).map (turnR t)).length = i := by rw [List.length_map, List.length_take]; omega
        rw [if_pos (by omega), if_pos (by omega)]
        refine ok_then (o_ref1_TurnRect (R.ok _ (mem_getD hi)) h1 ?_)
        obtain ⟨q, hq⟩ : ∃ q, q = turnR t (l.getD i default) := ⟨_, rfl⟩
        rw [← hq]
        have hm : q ∈ l.map (turnR t) := by rw [hq]; exact List.mem_map.2 ⟨_, mem_getD hi, rfl⟩
        (try dsimp only); (repeat' (first | (with_reducible apply s_ref1_At; case hd => (intro hc; simp only [Bool.not_not, Bool.not_eq_true, Bool.not_eq_false'] at hc; simp only [hc, Bool.true_or, Bool.false_and, Bool.not_true, Bool.not_false, Bool.or_true, Bool.and_false])) | (with_reducible apply o_ref1_At <;> try first | assumption | omega) | (with_reducible apply ok_guard; case h => (first | assumption | omega | (simp; done) | (simp; omega) | (and_intros <;> first | omega | (intro _; omega)) | (simp only [Bool.or_eq_true, Bool.and_eq_true, Bool.not_eq_true', Bool.not_eq_true, Bool.not_eq_false', Bool.not_eq_false, Bool.or_eq_false_iff, Bool.and_eq_false_iff, decide_eq_true_eq, decide_eq_false_iff_not, Bool.not_not, beq_iff_eq, bne_iff_ne] at *; omega))) | (with_reducible apply ok_guard) | (with_reducible apply ok_if <;> intro _) | (with_reducible apply ok_some) | (with_reducible apply ok_esc) | (with_reducible apply ok_then))); (all_goals try dsimp only); (all_goals try (exfalso; omega))
        all_goals simp only [notRect] at *
        · rename_i hb
          have : ¬ fitsF (l.map (turnR t)) = true := fun h => by
            have := of_decide_eq_true h q hm
            rw [this] at hb; cases hb
          rw [if_neg this]
        · rename_i hb
          refine ⟨by simp, ?_, all_lt hI ?_⟩
          · rw [take_snoc (d := default) hi, List.map_append, hq]; rfl
          · rw [← hq]; simpa using hb
      · rintro ⟨out, s2, s3⟩ ⟨e, hI⟩
        simp only at e
        subst e
        rw [if_neg (by omega)]
        refine ok_some ?_
        simp only [List.take_length]
        have hf : fitsF (l.map (turnR t)) = true := by
          refine decide_eq_true fun r hr => ?_
          obtain ⟨q, hq, rfl⟩ := List.mem_map.1 hr
          obtain ⟨j, hj, rfl⟩ := List.getElem_of_mem hq
          have := hI j hj
          rw [getD_in hj] at this; exact this
        rw [if_pos hf]
        refine ok_then (o_ref1_Canonical (by omega) ok ?_)
        exact ok_then (o_ref1_limited (ok_some rfl))
    · rw [if_neg h1, if_neg h1]; exact ok_some rfl
  · rw [if_neg h0, if_neg h0]; exact ok_some rfl
theorem o_ref1_TurnedRegion {l : List TRect} {t : TTurn} (hl : l.length < 281474976710656) {Q_ : _ → Prop} (k_ : Q_ (turnedRF l t)) : Ok (p_ref1_TurnedRegion l t) Q_ := ok_of (t_ref1_TurnedRegion hl) k_
theorem s_ref1_TurnedRegion {β : Type} {cc_ : Prop} {d_ : Decidable cc_} {l : List TRect} {t : TTurn} (hl : cc_ → (l.length < 281474976710656)) {e_ : _} {f_ : _ → Option β} {Q_ : β → Prop} (hd : ¬ cc_ → f_ e_ = f_ (turnedRF l t)) (k_ : Ok (f_ (turnedRF l t)) Q_) : Ok (Option.bind (@ite _ cc_ d_ (p_ref1_TurnedRegion l t) (some e_)) f_) Q_ := ok_short (fun hc__ => t_ref1_TurnedRegion (hl hc__)) hd k_
theorem row_TurnedRegionsMatchSpec (a0 : List TRect) (a1 : TTurn) (h0 : a0.length < 281474976710656 ∧ ∀ x ∈ a0, okTRect x) (h1 : okTTurn a1) : p_law1_TurnedRegionsMatchSpec a0 a1 = some true := by
  have hl := h0.1
  have hn := turnedRF_len a0 a1
  apply ok_val
  unfold p_law1_TurnedRegionsMatchSpec
  refine ok_then (o_shape_TurnedRegion hl ?_)
  refine ok_then (o_ref1_TurnedRegion hl ?_)
  refine ok_then (o_slices_Equal_Rect (by omega) ?_)
  rw [if_pos (by simp)]
  exact ok_then (o_law1_awake (ok_some (by simp)))
end Go.Nw
