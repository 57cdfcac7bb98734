/- NqMk0: a part of the proof. -/
import Derived.Test.YtngdglmimlfefaaNqPan
set_option linter.unusedVariables false
set_option linter.unusedSimpArgs false
set_option maxRecDepth 100000
namespace Go.Nw
theorem t_shape_within {a b c : Int} : p_shape_within a b c = some (decide (b ≤ a) && decide (a ≤ c)) := rfl
theorem o_shape_within {a b c : Int} {Q_ : _ → Prop} (k_ : Q_ (decide (b ≤ a) && decide (a ≤ c))) : Ok (p_shape_within a b c) Q_ := ok_of (t_shape_within ) k_
theorem s_shape_within {β : Type} {cc_ : Prop} {d_ : Decidable cc_} {a b c : Int} {e_ : _} {f_ : _ → Option β} {Q_ : β → Prop} (hd : ¬ cc_ → f_ e_ = f_ (decide (b ≤ a) && decide (a ≤ c))) (k_ : Ok (f_ (decide (b ≤ a) && decide (a ≤ c))) Q_) : Ok (Option.bind (@ite _ cc_ d_ (p_shape_within a b c) (some e_)) f_) Q_ := ok_short (fun hc__ => t_shape_within ) hd k_
theorem t_shape_IsAt {a : Int} : p_shape_IsAt a = some (decide (-1000000 ≤ a) && decide (a ≤ 1000000)) := rfl
theorem o_shape_IsAt {a : Int} {Q_ : _ → Prop} (k_ : Q_ (decide (-1000000 ≤ a) && decide (a ≤ 1000000))) : Ok (p_shape_IsAt a) Q_ := ok_of (t_shape_IsAt ) k_
theorem s_shape_IsAt {β : Type} {cc_ : Prop} {d_ : Decidable cc_} {a : Int} {e_ : _} {f_ : _ → Option β} {Q_ : β → Prop} (hd : ¬ cc_ → f_ e_ = f_ (decide (-1000000 ≤ a) && decide (a ≤ 1000000))) (k_ : Ok (f_ (decide (-1000000 ≤ a) && decide (a ≤ 1000000))) Q_) : Ok (Option.bind (@ite _ cc_ d_ (p_shape_IsAt a) (some e_)) f_) Q_ := ok_short (fun hc__ => t_shape_IsAt ) hd k_
theorem t_shape_IsPoint {q : TPoint} : p_shape_IsPoint q = some ((decide (-1000000 ≤ q.X) && decide (q.X ≤ 1000000)) && (decide (-1000000 ≤ q.Y) && decide (q.Y ≤ 1000000))) := by
  apply ok_val
  unfold p_shape_IsPoint
  (try dsimp only); (repeat' (first | (with_reducible apply s_shape_IsAt; case hd => (intro hc; simp only [Bool.not_not, Bool.not_eq_true, Bool.not_eq_false'] at hc; simp only [hc, Bool.true_or, Bool.false_and, Bool.not_true, Bool.not_false, Bool.or_true, Bool.and_false])) | (with_reducible apply o_shape_IsAt <;> try first | assumption | omega) | (with_reducible apply ok_guard; case h => (first | assumption | omega | (simp; done) | (simp; omega) | (and_intros <;> first | omega | (intro _; omega)) | (simp only [Bool.or_eq_true, Bool.and_eq_true, Bool.not_eq_true', Bool.not_eq_true, Bool.not_eq_false', Bool.not_eq_false, Bool.or_eq_false_iff, Bool.and_eq_false_iff, decide_eq_true_eq, decide_eq_false_iff_not, Bool.not_not, beq_iff_eq, bne_iff_ne] at *; omega))) | (with_reducible apply ok_guard) | (with_reducible apply ok_if <;> intro _) | (with_reducible apply ok_some) | (with_reducible apply ok_esc) | (with_reducible apply ok_then))); (all_goals try dsimp only); (all_goals try (exfalso; omega))
theorem o_shape_IsPoint {q : TPoint} {Q_ : _ → Prop} (k_ : Q_ ((decide (-1000000 ≤ q.X) && decide (q.X ≤ 1000000)) && (decide (-1000000 ≤ q.Y) && decide (q.Y ≤ 1000000)))) : Ok (p_shape_IsPoint q) Q_ := ok_of (t_shape_IsPoint ) k_
theorem s_shape_IsPoint {β : Type} {cc_ : Prop} {d_ : Decidable cc_} {q : TPoint} {e_ : _} {f_ : _ → Option β} {Q_ : β → Prop} (hd : ¬ cc_ → f_ e_ = f_ ((decide (-1000000 ≤ q.X) && decide (q.X ≤ 1000000)) && (decide (-1000000 ≤ q.Y) && decide (q.Y ≤ 1000000)))) (k_ : Ok (f_ ((decide (-1000000 ≤ q.X) && decide (q.X ≤ 1000000)) && (decide (-1000000 ≤ q.Y) && decide (q.Y ≤ 1000000)))) Q_) : Ok (Option.bind (@ite _ cc_ d_ (p_shape_IsPoint q) (some e_)) f_) Q_ := ok_short (fun hc__ => t_shape_IsPoint ) hd k_
noncomputable def turnFault (t : TTurn) : Int := if (!(decide (0 ≤ t.Quarters) && decide (t.Quarters ≤ 3)) || !((decide (-1000000 ≤ t.At.X) && decide (t.At.X ≤ 1000000)) && (decide (-1000000 ≤ t.At.Y) && decide (t.At.Y ≤ 1000000)))) = true then 1 else 0
theorem t_shape_CheckTurn {t : TTurn} : p_shape_CheckTurn t = some (turnFault t) := by
  apply ok_val
  unfold p_shape_CheckTurn
  (try dsimp only); (repeat' (first | (with_reducible apply s_shape_within; case hd => (intro hc; simp only [Bool.not_not, Bool.not_eq_true, Bool.not_eq_false'] at hc; simp only [hc, Bool.true_or, Bool.false_and, Bool.not_true, Bool.not_false, Bool.or_true, Bool.and_false])) | (with_reducible apply s_shape_IsPoint; case hd => (intro hc; simp only [Bool.not_not, Bool.not_eq_true, Bool.not_eq_false'] at hc; simp only [hc, Bool.true_or, Bool.false_and, Bool.not_true, Bool.not_false, Bool.or_true, Bool.and_false])) | (with_reducible apply o_shape_within <;> try first | assumption | omega) | (with_reducible apply o_shape_IsPoint <;> try first | assumption | omega) | (with_reducible apply ok_guard; case h => (first | assumption | omega | (simp; done) | (simp; omega) | (and_intros <;> first | omega | (intro _; omega)) | (simp only [Bool.or_eq_true, Bool.and_eq_true, Bool.not_eq_true', Bool.not_eq_true, Bool.not_eq_false', Bool.not_eq_false, Bool.or_eq_false_iff, Bool.and_eq_false_iff, decide_eq_true_eq, decide_eq_false_iff_not, Bool.not_not, beq_iff_eq, bne_iff_ne] at *; omega))) | (with_reducible apply ok_guard) | (with_reducible apply ok_if <;> intro _) | (with_reducible apply ok_some) | (with_reducible apply ok_esc) | (with_reducible apply ok_then))); (all_goals try dsimp only); (all_goals try (exfalso; omega))
  · rw [turnFault, if_pos ‹_›]
  · rw [turnFault, if_neg ‹_›]
theorem o_shape_CheckTurn {t : TTurn} {Q_ : _ → Prop} (k_ : Q_ (turnFault t)) : Ok (p_shape_CheckTurn t) Q_ := ok_of (t_shape_CheckTurn ) k_
theorem s_shape_CheckTurn {β : Type} {cc_ : Prop} {d_ : Decidable cc_} {t : TTurn} {e_ : _} {f_ : _ → Option β} {Q_ : β → Prop} (hd : ¬ cc_ → f_ e_ = f_ (turnFault t)) (k_ : Ok (f_ (turnFault t)) Q_) : Ok (Option.bind (@ite _ cc_ d_ (p_shape_CheckTurn t) (some e_)) f_) Q_ := ok_short (fun hc__ => t_shape_CheckTurn ) hd k_
/-- a quarter turn -/
def rot (q : TPoint) : TPoint := { X := 0 - q.Y, Y := q.X }
def rotN : Nat → TPoint → TPoint
  | 0, q => q
  | n + 1, q => rot (rotN n q)
def flipF (b : Bool) (q : TPoint) : TPoint := if b = true then { X := 0 - q.X, Y := q.Y } else q
def turnF (q : TPoint) (t : TTurn) : TPoint := { X := (rotN t.Quarters.toNat (flipF t.Flip q)).X + t.At.X, Y := (rotN t.Quarters.toNat (flipF t.Flip q)).Y + t.At.Y }
/-- a point that is not far away -/
def Near (q : TPoint) : Prop := (-1000000000 ≤ q.X ∧ q.X ≤ 1000000000) ∧ -1000000000 ≤ q.Y ∧ q.Y ≤ 1000000000
theorem near_rot {q : TPoint} (h : Near q) : Near (rot q) := by obtain ⟨⟨h1, h2⟩, h3, h4⟩ := h; simp only [Near, rot]; omega
theorem near_rotN {q : TPoint} (h : Near q) : ∀ n, Near (rotN n q)
  | 0 => h
  | n + 1 => near_rot (near_rotN h n)
theorem near_flip {q : TPoint} {b : Bool} (h : Near q) : Near (flipF b q) := by
  obtain ⟨⟨h1, h2⟩, h3, h4⟩ := h
  cases b
  · simp only [flipF, if_neg Bool.false_ne_true, Near]; omega
  · simp only [flipF, if_true, Near]; omega
theorem t_shape_TurnPoint {q : TPoint} {t : TTurn} (h : Near q) (ht : Near t.At) (hq : t.Quarters ≤ 3) : p_shape_TurnPoint q t = some (turnF q t) := by
  apply ok_val
  unfold p_shape_TurnPoint
  have hf := near_flip (b := t.Flip) h
  have : Ok (if t.Flip = true then if -9223372036854775808 ≤ 0 - q.X ∧ 0 - q.X ≤ 9223372036854775807 then some ({ X := 0 - q.X, Y := q.Y } : TPoint) else none else some q) (fun z => z = flipF t.Flip q) := by
    obtain ⟨⟨h1, h2⟩, h3, h4⟩ := h
    (try dsimp only); (repeat' (first | (with_reducible apply ok_guard; case h => (first | assumption | omega | (simp; done) | (simp; omega) | (and_intros <;> first | omega | (intro _; omega)) | (simp only [Bool.or_eq_true, Bool.and_eq_true, Bool.not_eq_true', Bool.not_eq_true, Bool.not_eq_false', Bool.not_eq_false, Bool.or_eq_false_iff, Bool.and_eq_false_iff, decide_eq_true_eq, decide_eq_false_iff_not, Bool.not_not, beq_iff_eq, bne_iff_ne] at *; omega))) | (with_reducible apply ok_guard) | (with_reducible apply ok_if <;> intro _) | (with_reducible apply ok_some) | (with_reducible apply ok_esc) | (with_reducible apply ok_then))); (all_goals try dsimp only); (all_goals try (exfalso; omega))
    · simp only [flipF, if_pos ‹t.Flip = true›]
    · simp only [flipF, if_neg ‹¬ t.Flip = true›]
  refine ok_bind this ?_
  rintro _ rfl
  refine ok_then ?_
  refine ok_for t.Quarters.toNat (fun i x => x = rotN i (flipF t.Flip q)) rfl ?_ ?_
  · rintro i r hi rfl
    obtain ⟨⟨h1, h2⟩, h3, h4⟩ := near_rotN hf i
    (try dsimp only); (repeat' (first | (with_reducible apply ok_guard; case h => (first | assumption | omega | (simp; done) | (simp; omega) | (and_intros <;> first | omega | (intro _; omega)) | (simp only [Bool.or_eq_true, Bool.and_eq_true, Bool.not_eq_true', Bool.not_eq_true, Bool.not_eq_false', Bool.not_eq_false, Bool.or_eq_false_iff, Bool.and_eq_false_iff, decide_eq_true_eq, decide_eq_false_iff_not, Bool.not_not, beq_iff_eq, bne_iff_ne] at *; omega))) | (with_reducible apply ok_guard) | (with_reducible apply ok_if <;> intro _) | (with_reducible apply ok_some) | (with_reducible apply ok_esc) | (with_reducible apply ok_then))); (all_goals try dsimp only); (all_goals try (exfalso; omega))
    exact ⟨rfl, rfl⟩
  · rintro r rfl
    obtain ⟨⟨h1, h2⟩, h3, h4⟩ := near_rotN hf t.Quarters.toNat
    obtain ⟨⟨h5, h6⟩, h7, h8⟩ := ht
    (try dsimp only); (repeat' (first | (with_reducible apply ok_guard; case h => (first | assumption | omega | (simp; done) | (simp; omega) | (and_intros <;> first | omega | (intro _; omega)) | (simp only [Bool.or_eq_true, Bool.and_eq_true, Bool.not_eq_true', Bool.not_eq_true, Bool.not_eq_false', Bool.not_eq_false, Bool.or_eq_false_iff, Bool.and_eq_false_iff, decide_eq_true_eq, decide_eq_false_iff_not, Bool.not_not, beq_iff_eq, bne_iff_ne] at *; omega))) | (with_reducible apply ok_guard) | (with_reducible apply ok_if <;> intro _) | (with_reducible apply ok_some) | (with_reducible apply ok_esc) | (with_reducible apply ok_then))); (all_goals try dsimp only); (all_goals try (exfalso; omega))
    rfl
theorem o_shape_TurnPoint {q : TPoint} {t : TTurn} (h : Near q) (ht : Near t.At) (hq : t.Quarters ≤ 3) {Q_ : _ → Prop} (k_ : Q_ (turnF q t)) : Ok (p_shape_TurnPoint q t) Q_ := ok_of (t_shape_TurnPoint h ht hq) k_
theorem s_shape_TurnPoint {β : Type} {cc_ : Prop} {d_ : Decidable cc_} {q : TPoint} {t : TTurn} (h : cc_ → (Near q)) (ht : cc_ → (Near t.At)) (hq : cc_ → (t.Quarters ≤ 3)) {e_ : _} {f_ : _ → Option β} {Q_ : β → Prop} (hd : ¬ cc_ → f_ e_ = f_ (turnF q t)) (k_ : Ok (f_ (turnF q t)) Q_) : Ok (Option.bind (@ite _ cc_ d_ (p_shape_TurnPoint q t) (some e_)) f_) Q_ := ok_short (fun hc__ => t_shape_TurnPoint (h hc__) (ht hc__) (hq hc__)) hd k_
theorem t_ref1_around {q : TPoint} {t : TTurn} (h : Near q) (hq : t.Quarters ≤ 3) : p_ref1_around q t = some (rotN t.Quarters.toNat (flipF t.Flip q)) := by
  apply ok_val
  unfold p_ref1_around
  have hf := near_flip (b := t.Flip) h
  have : Ok (if t.Flip = true then if -9223372036854775808 ≤ 0 - q.X ∧ 0 - q.X ≤ 9223372036854775807 then some ({ X := 0 - q.X, Y := q.Y } : TPoint) else none else some q) (fun z => z = flipF t.Flip q) := by
    obtain ⟨⟨h1, h2⟩, h3, h4⟩ := h
    (try dsimp only); (repeat' (first | (with_reducible apply ok_guard; case h => (first | assumption | omega | (simp; done) | (simp; omega) | (and_intros <;> first | omega | (intro _; omega)) | (simp only [Bool.or_eq_true, Bool.and_eq_true, Bool.not_eq_true', Bool.not_eq_true, Bool.not_eq_false', Bool.not_eq_false, Bool.or_eq_false_iff, Bool.and_eq_false_iff, decide_eq_true_eq, decide_eq_false_iff_not, Bool.not_not, beq_iff_eq, bne_iff_ne] at *; omega))) | (with_reducible apply ok_guard) | (with_reducible apply ok_if <;> intro _) | (with_reducible apply ok_some) | (with_reducible apply ok_esc) | (with_reducible apply ok_then))); (all_goals try dsimp only); (all_goals try (exfalso; omega))
    · simp only [flipF, if_pos ‹t.Flip = true›]
    · simp only [flipF, if_neg ‹¬ t.Flip = true›]
  refine ok_bind this ?_
  rintro _ rfl
  refine ok_then ?_
  refine ok_for t.Quarters.toNat (fun i x => x = rotN i (flipF t.Flip q)) rfl ?_ ?_
  · rintro i r hi rfl
    obtain ⟨⟨h1, h2⟩, h3, h4⟩ := near_rotN hf i
    (try dsimp only); (repeat' (first | (with_reducible apply ok_guard; case h => (first | assumption | omega | (simp; done) | (simp; omega) | (and_intros <;> first | omega | (intro _; omega)) | (simp only [Bool.or_eq_true, Bool.and_eq_true, Bool.not_eq_true', Bool.not_eq_true, Bool.not_eq_false', Bool.not_eq_false, Bool.or_eq_false_iff, Bool.and_eq_false_iff, decide_eq_true_eq, decide_eq_false_iff_not, Bool.not_not, beq_iff_eq, bne_iff_ne] at *; omega))) | (with_reducible apply ok_guard) | (with_reducible apply ok_if <;> intro _) | (with_reducible apply ok_some) | (with_reducible apply ok_esc) | (with_reducible apply ok_then))); (all_goals try dsimp only); (all_goals try (exfalso; omega))
    exact ⟨rfl, rfl⟩
  · rintro r rfl
    (try dsimp only); (repeat' (first | (with_reducible apply ok_guard; case h => (first | assumption | omega | (simp; done) | (simp; omega) | (and_intros <;> first | omega | (intro _; omega)) | (simp only [Bool.or_eq_true, Bool.and_eq_true, Bool.not_eq_true', Bool.not_eq_true, Bool.not_eq_false', Bool.not_eq_false, Bool.or_eq_false_iff, Bool.and_eq_false_iff, decide_eq_true_eq, decide_eq_false_iff_not, Bool.not_not, beq_iff_eq, bne_iff_ne] at *; omega))) | (with_reducible apply ok_guard) | (with_reducible apply ok_if <;> intro _) | (with_reducible apply ok_some) | (with_reducible apply ok_esc) | (with_reducible apply ok_then))); (all_goals try dsimp only); (all_goals try (exfalso; omega))
theorem o_ref1_around {q : TPoint} {t : TTurn} (h : Near q) (hq : t.Quarters ≤ 3) {Q_ : _ → Prop} (k_ : Q_ (rotN t.Quarters.toNat (flipF t.Flip q))) : Ok (p_ref1_around q t) Q_ := ok_of (t_ref1_around h hq) k_
theorem s_ref1_around {β : Type} {cc_ : Prop} {d_ : Decidable cc_} {q : TPoint} {t : TTurn} (h : cc_ → (Near q)) (hq : cc_ → (t.Quarters ≤ 3)) {e_ : _} {f_ : _ → Option β} {Q_ : β → Prop} (hd : ¬ cc_ → f_ e_ = f_ (rotN t.Quarters.toNat (flipF t.Flip q))) (k_ : Ok (f_ (rotN t.Quarters.toNat (flipF t.Flip q))) Q_) : Ok (Option.bind (@ite _ cc_ d_ (p_ref1_around q t) (some e_)) f_) Q_ := ok_short (fun hc__ => t_ref1_around (h hc__) (hq hc__)) hd k_
theorem t_ref1_TurnPoint {q : TPoint} {t : TTurn} (h : Near q) (ht : Near t.At) (hq : t.Quarters ≤ 3) : p_ref1_TurnPoint q t = some (turnF q t) := by
  apply ok_val
  unfold p_ref1_TurnPoint
  obtain ⟨⟨h1, h2⟩, h3, h4⟩ := near_rotN (near_flip (b := t.Flip) h) t.Quarters.toNat
  obtain ⟨⟨h5, h6⟩, h7, h8⟩ := ht
  (try dsimp only); (repeat' (first | (with_reducible apply s_ref1_around; case hd => (intro hc; simp only [Bool.not_not, Bool.not_eq_true, Bool.not_eq_false'] at hc; simp only [hc, Bool.true_or, Bool.false_and, Bool.not_true, Bool.not_false, Bool.or_true, Bool.and_false])) | (with_reducible apply o_ref1_around <;> try first | assumption | omega) | (with_reducible apply ok_guard; case h => (first | assumption | omega | (simp; done) | (simp; omega) | (and_intros <;> first | omega | (intro _; omega)) | (simp only [Bool.or_eq_true, Bool.and_eq_true, Bool.not_eq_true', Bool.not_eq_true, Bool.not_eq_false', Bool.not_eq_false, Bool.or_eq_false_iff, Bool.and_eq_false_iff, decide_eq_true_eq, decide_eq_false_iff_not, Bool.not_not, beq_iff_eq, bne_iff_ne] at *; omega))) | (with_reducible apply ok_guard) | (with_reducible apply ok_if <;> intro _) | (with_reducible apply ok_some) | (with_reducible apply ok_esc) | (with_reducible apply ok_then))); (all_goals try dsimp only); (all_goals try (exfalso; omega))
  rfl
theorem o_ref1_TurnPoint {q : TPoint} {t : TTurn} (h : Near q) (ht : Near t.At) (hq : t.Quarters ≤ 3) {Q_ : _ → Prop} (k_ : Q_ (turnF q t)) : Ok (p_ref1_TurnPoint q t) Q_ := ok_of (t_ref1_TurnPoint h ht hq) k_
theorem s_ref1_TurnPoint {β : Type} {cc_ : Prop} {d_ : Decidable cc_} {q : TPoint} {t : TTurn} (h : cc_ → (Near q)) (ht : cc_ → (Near t.At)) (hq : cc_ → (t.Quarters ≤ 3)) {e_ : _} {f_ : _ → Option β} {Q_ : β → Prop} (hd : ¬ cc_ → f_ e_ = f_ (turnF q t)) (k_ : Ok (f_ (turnF q t)) Q_) : Ok (Option.bind (@ite _ cc_ d_ (p_ref1_TurnPoint q t) (some e_)) f_) Q_ := ok_short (fun hc__ => t_ref1_TurnPoint (h hc__) (ht hc__) (hq hc__)) hd k_
noncomputable def turnAt (p : TPanel) (s : TSlot) : TPoint :=
  if s.Quarters = 1 then { X := s.At.X + (boardF p s.Board).H, Y := s.At.Y }
  else if s.Quarters = 2 then { X := s.At.X + (boardF p s.Board).W, Y := s.At.Y + (boardF p s.Board).H }
  else if s.Quarters = 3 then { X := s.At.X, Y := s.At.Y + (boardF p s.Board).W } else s.At
noncomputable def turnOfF (p : TPanel) (s : TSlot) : TTurn := { Quarters := s.Quarters, At := turnAt p s }
theorem check_one : checkF { W := 1, H := 1 } = 0 := by
  rw [checkF, if_neg (by decide), if_neg, if_neg, marksF, if_neg (by decide), faultF_0]
  · intro j hj; exact absurd hj (Nat.not_lt_zero _)
  · rw [slotsF, if_neg (by decide), faultF_0]
    · exact not_not_intro rfl
    · intro j hj; exact absurd hj (Nat.not_lt_zero _)
  · rw [kindsF, if_neg (by decide), faultF_0]
    · exact not_not_intro rfl
    · intro j hj; exact absurd hj (Nat.not_lt_zero _)
theorem fits_one : Fits { W := 1, H := 1 } := ⟨by decide, by decide, by decide, fun i hi => absurd hi (Nat.not_lt_zero _)⟩
theorem area_nil : p_shape_AreaOf [] = some 0 := by
  apply ok_val
  unfold p_shape_AreaOf
  apply ok_then
  refine ok_for 0 (fun i x => x = 0) rfl ?_ ?_
  · intro i x hi; exact absurd hi (Nat.not_lt_zero _)
  · rintro x rfl
    refine ok_if (fun h => absurd h (by decide)) (fun _ => ok_some (ok_some rfl))
theorem lowest_01 : p_panel_Lowest 0 1 = some { Num := 0, Den := 1 } := by
  apply ok_val
  unfold p_panel_Lowest
  rw [loopO_inl (s' := (0, 1)) (by simp), loopO_inr (e := 1) (by simp)]
  refine ok_then ?_
  (try dsimp only); (repeat' (first | (with_reducible apply ok_guard; case h => (first | assumption | omega | (simp; done) | (simp; omega) | (and_intros <;> first | omega | (intro _; omega)) | (simp only [Bool.or_eq_true, Bool.and_eq_true, Bool.not_eq_true', Bool.not_eq_true, Bool.not_eq_false', Bool.not_eq_false, Bool.or_eq_false_iff, Bool.and_eq_false_iff, decide_eq_true_eq, decide_eq_false_iff_not, Bool.not_not, beq_iff_eq, bne_iff_ne] at *; omega))) | (with_reducible apply ok_guard) | (with_reducible apply ok_if <;> intro _) | (with_reducible apply ok_some) | (with_reducible apply ok_esc) | (with_reducible apply ok_then))); (all_goals try dsimp only); (all_goals try (exfalso; omega))
  rfl
theorem awake_t : p_law9_awake = some true := by
  apply ok_val
  unfold p_law9_awake p_panel_Use
  apply ok_then
  apply ok_then
  refine o_panel_open fits_one ?_
  rw [show openF { W := 1, H := 1 } = ([], 0) from by rw [openF, check_one]; rfl]
  refine ok_if (fun _ => ?_) (fun h => absurd rfl h)
  apply ok_then
  refine ok_of area_nil ?_
  (try dsimp only); (repeat' (first | (with_reducible apply ok_guard; case h => (first | assumption | omega | (simp; done) | (simp; omega) | (and_intros <;> first | omega | (intro _; omega)) | (simp only [Bool.or_eq_true, Bool.and_eq_true, Bool.not_eq_true', Bool.not_eq_true, Bool.not_eq_false', Bool.not_eq_false, Bool.or_eq_false_iff, Bool.and_eq_false_iff, decide_eq_true_eq, decide_eq_false_iff_not, Bool.not_not, beq_iff_eq, bne_iff_ne] at *; omega))) | (with_reducible apply ok_guard) | (with_reducible apply ok_if <;> intro _) | (with_reducible apply ok_some) | (with_reducible apply ok_esc) | (with_reducible apply ok_then))); (all_goals try dsimp only); (all_goals try (exfalso; omega))
  refine ok_of lowest_01 ?_
  (try dsimp only); (repeat' (first | (with_reducible apply ok_guard; case h => (first | assumption | omega | (simp; done) | (simp; omega) | (and_intros <;> first | omega | (intro _; omega)) | (simp only [Bool.or_eq_true, Bool.and_eq_true, Bool.not_eq_true', Bool.not_eq_true, Bool.not_eq_false', Bool.not_eq_false, Bool.or_eq_false_iff, Bool.and_eq_false_iff, decide_eq_true_eq, decide_eq_false_iff_not, Bool.not_not, beq_iff_eq, bne_iff_ne] at *; omega))) | (with_reducible apply ok_guard) | (with_reducible apply ok_if <;> intro _) | (with_reducible apply ok_some) | (with_reducible apply ok_esc) | (with_reducible apply ok_then))); (all_goals try dsimp only); (all_goals try (exfalso; omega))
  rfl
theorem s_law9_awake {β : Type} {c : Prop} {d : Decidable c} {e : Bool} {f : Bool → Option β} {Q : β → Prop} (hd : ¬ c → f e = f true) (k : Ok (f true) Q) : Ok (Option.bind (@ite _ c d p_law9_awake (some e)) f) Q := ok_short (fun _ => awake_t) hd k
theorem o_law9_awake {Q : Bool → Prop} (k : Q true) : Ok p_law9_awake Q := ok_of awake_t k
theorem getD_mem {α : Type} {l : List α} {i : Nat} {d : α} (h : i < l.length) : l.getD i d ∈ l := by simp [List.getD, List.getElem?_eq_getElem h]
theorem fits_of {p : TPanel} (h : okTPanel p) : Fits p := by
  obtain ⟨_, _, _, _, ⟨h1, h2⟩, ⟨h3, _⟩, h4, _⟩ := h
  exact ⟨h1, h3, h4, fun i hi => (h2 _ (getD_mem hi)).1⟩
end Go.Nw
