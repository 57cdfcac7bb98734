/- NqPts: a part of the proof. -/
import Derived.Test.YtngdglmimlfefaaNqPan
set_option linter.unusedVariables false
set_option linter.unusedSimpArgs false
set_option maxRecDepth 100000
namespace Go.Nw
theorem t_shape_within {a b c : Int} : p_shape_within a b c = some (decide (b ≤ a) && decide (a ≤ c)) := rfl
theorem o_shape_within {a b c : Int} {Q_ : _ → Prop} (k_ : Q_ (decide (b ≤ a) && decide (a ≤ c))) : Ok (p_shape_within a b c) Q_ := ok_of (t_shape_within ) k_
theorem s_shape_within {β : Type} {cc_ : Prop} {d_ : Decidable cc_} {a b c : Int} {e_ : _} {f_ : _ → Option β} {Q_ : β → Prop} (hd : ¬ cc_ → f_ e_ = f_ (decide (b ≤ a) && decide (a ≤ c))) (k_ : Ok (f_ (decide (b ≤ a) && decide (a ≤ c))) Q_) : Ok (Option.bind (@ite _ cc_ d_ (p_shape_within a b c) (some e_)) f_) Q_ := ok_short (fun hc__ => t_shape_within ) hd k_
theorem t_shape_IsAt {a : Int} : p_shape_IsAt a = some (decide (-1000000 ≤ a) && decide (a ≤ 1000000)) := rfl
theorem o_shape_IsAt {a : Int} {Q_ : _ → Prop} (k_ : Q_ (decide (-1000000 ≤ a) && decide (a ≤ 1000000))) : Ok (p_shape_IsAt a) Q_ := ok_of (t_shape_IsAt ) k_
theorem s_shape_IsAt {β : Type} {cc_ : Prop} {d_ : Decidable cc_} {a : Int} {e_ : _} {f_ : _ → Option β} {Q_ : β → Prop} (hd : ¬ cc_ → f_ e_ = f_ (decide (-1000000 ≤ a) && decide (a ≤ 1000000))) (k_ : Ok (f_ (decide (-1000000 ≤ a) && decide (a ≤ 1000000))) Q_) : Ok (Option.bind (@ite _ cc_ d_ (p_shape_IsAt a) (some e_)) f_) Q_ := ok_short (fun hc__ => t_shape_IsAt ) hd k_
theorem t_shape_IsPoint {q : TPoint} : p_shape_IsPoint q = some ((decide (-1000000 ≤ q.X) && decide (q.X ≤ 1000000)) && (decide (-1000000 ≤ q.Y) && decide (q.Y ≤ 1000000))) := by
  apply ok_val
  unfold p_shape_IsPoint
  (try dsimp only); (repeat' (first | (with_reducible apply s_shape_IsAt; case hd => (intro hc; simp only [Bool.not_not, Bool.not_eq_true, Bool.not_eq_false'] at hc; simp only [hc, Bool.true_or, Bool.false_and, Bool.not_true, Bool.not_false, Bool.or_true, Bool.and_false])) | (with_reducible apply o_shape_IsAt <;> try first | assumption | omega) | (with_reducible apply ok_guard; case h => (first | assumption | omega | (simp; done) | (simp; omega) | (and_intros <;> first | omega | (intro _; omega)) | (simp only [Bool.or_eq_true, Bool.and_eq_true, Bool.not_eq_true', Bool.not_eq_true, Bool.not_eq_false', Bool.not_eq_false, Bool.or_eq_false_iff, Bool.and_eq_false_iff, decide_eq_true_eq, decide_eq_false_iff_not, Bool.not_not, beq_iff_eq, bne_iff_ne] at *; omega))) | (with_reducible apply ok_guard) | (with_reducible apply ok_if <;> intro _) | (with_reducible apply ok_some) | (with_reducible apply ok_esc) | (with_reducible apply ok_then))); (all_goals try dsimp only); (all_goals try (exfalso; omega))
theorem o_shape_IsPoint {q : TPoint} {Q_ : _ → Prop} (k_ : Q_ ((decide (-1000000 ≤ q.X) && decide (q.X ≤ 1000000)) && (decide (-1000000 ≤ q.Y) && decide (q.Y ≤ 1000000)))) : Ok (p_shape_IsPoint q) Q_ := ok_of (t_shape_IsPoint ) k_
theorem s_shape_IsPoint {β : Type} {cc_ : Prop} {d_ : Decidable cc_} {q : TPoint} {e_ : _} {f_ : _ → Option β} {Q_ : β → Prop} (hd : ¬ cc_ → f_ e_ = f_ ((decide (-1000000 ≤ q.X) && decide (q.X ≤ 1000000)) && (decide (-1000000 ≤ q.Y) && decide (q.Y ≤ 1000000)))) (k_ : Ok (f_ ((decide (-1000000 ≤ q.X) && decide (q.X ≤ 1000000)) && (decide (-1000000 ≤ q.Y) && decide (q.Y ≤ 1000000)))) Q_) : Ok (Option.bind (@ite _ cc_ d_ (p_shape_IsPoint q) (some e_)) f_) Q_ := ok_short (fun hc__ => t_shape_IsPoint ) hd k_
noncomputable def turnFault (t : TTurn) : Int := if (!(decide (0 ≤ t.Quarters) && decide (t.Quarters ≤ 3)) || !((decide (-1000000 ≤ t.At.X) && decide (t.At.X ≤ 1000000)) && (decide (-1000000 ≤ t.At.Y) && decide (t.At.Y ≤ 1000000)))) = true then 1 else 0
theorem t_shape_CheckTurn {t : TTurn} : p_shape_CheckTurn t = some (turnFault t) := by
  apply ok_val
  unfold p_shape_CheckTurn
  (try dsimp only); (repeat' (first | (with_reducible apply s_shape_within; case hd => (intro hc; simp only [Bool.not_not, Bool.not_eq_true, Bool.not_eq_false'] at hc; simp only [hc, Bool.true_or, Bool.false_and, Bool.not_true, Bool.not_false, Bool.or_true, Bool.and_false])) | (with_reducible apply s_shape_IsPoint; case hd => (intro hc; simp only [Bool.not_not, Bool.not_eq_true, Bool.not_eq_false'] at hc; simp only [hc, Bool.true_or, Bool.false_and, Bool.not_true, Bool.not_false, Bool.or_true, Bool.and_false])) | (with_reducible apply o_shape_within <;> try first | assumption | omega) | (with_reducible apply o_shape_IsPoint <;> try first | assumption | omega) | (with_reducible apply ok_guard; case h => (first | assumption | omega | (simp; done) | (simp; omega) | (and_intros <;> first | omega | (intro _; omega)) | (simp only [Bool.or_eq_true, Bool.and_eq_true, Bool.not_eq_true', Bool.not_eq_true, Bool.not_eq_false', Bool.not_eq_false, Bool.or_eq_false_iff, Bool.and_eq_false_iff, decide_eq_true_eq, decide_eq_false_iff_not, Bool.not_not, beq_iff_eq, bne_iff_ne] at *; omega))) | (with_reducible apply ok_guard) | (with_reducible apply ok_if <;> intro _) | (with_reducible apply ok_some) | (with_reducible apply ok_esc) | (with_reducible apply ok_then))); (all_goals try dsimp only); (all_goals try (exfalso; omega))
  · rw [turnFault, if_pos ‹_›]
  · rw [turnFault, if_neg ‹_›]
theorem o_shape_CheckTurn {t : TTurn} {Q_ : _ → Prop} (k_ : Q_ (turnFault t)) : Ok (p_shape_CheckTurn t) Q_ := ok_of (t_shape_CheckTurn ) k_
theorem s_shape_CheckTurn {β : Type} {cc_ : Prop} {d_ : Decidable cc_} {t : TTurn} {e_ : _} {f_ : _ → Option β} {Q_ : β → Prop} (hd : ¬ cc_ → f_ e_ = f_ (turnFault t)) (k_ : Ok (f_ (turnFault t)) Q_) : Ok (Option.bind (@ite _ cc_ d_ (p_shape_CheckTurn t) (some e_)) f_) Q_ := ok_short (fun hc__ => t_shape_CheckTurn ) hd k_
/-- a quarter turn -/
def rot (q : TPoint) : TPoint := { X := 0 - q.Y, Y := q.X }
def rotN : Nat → TPoint → TPoint
  | 0, q => q
  | n + 1, q => rot (rotN n q)
def flipF (b : Bool) (q : TPoint) : TPoint := if b = true then { X := 0 - q.X, Y := q.Y } else q
def turnF (q : TPoint) (t : TTurn) : TPoint := { X := (rotN t.Quarters.toNat (flipF t.Flip q)).X + t.At.X, Y := (rotN t.Quarters.toNat (flipF t.Flip q)).Y + t.At.Y }
/-- a point that is not far away -/
def Near (q : TPoint) : Prop := (-1000000000 ≤ q.X ∧ q.X ≤ 1000000000) ∧ -1000000000 ≤ q.Y ∧ q.Y ≤ 1000000000
theorem near_rot {q : TPoint} (h : Near q) : Near (rot q) := by obtain ⟨⟨h1, h2⟩, h3, h4⟩ := h; simp only [Near, rot]; omega
theorem near_rotN {q : TPoint} (h : Near q) : ∀ n, Near (rotN n q)
  | 0 => h
  | n + 1 => near_rot (near_rotN h n)
theorem near_flip {q : TPoint} {b : Bool} (h : Near q) : Near (flipF b q) := by
  obtain ⟨⟨h1, h2⟩, h3, h4⟩ := h
  cases b
  · simp only [flipF, if_neg Bool.false_ne_true, Near]; omega
  · simp only [flipF, if_true, Near]; omega
theorem t_shape_TurnPoint {q : TPoint} {t : TTurn} (h : Near q) (ht : Near t.At) (hq : t.Quarters ≤ 3) : p_shape_TurnPoint q t = some (turnF q t) := by
  apply ok_val
  unfold p_shape_TurnPoint
  have hf := near_flip (b := t.Flip) h
  have : Ok (if t.Flip = true then if -9223372036854775808 ≤ 0 - q.X ∧ 0 - q.X ≤ 9223372036854775807 then some (({} : TPoint), t, ({ X := 0 - q.X, Y := q.Y } : TPoint)) else none else some ({}, t, q)) (fun z => z = (({} : TPoint), t, flipF t.Flip q)) := by
    obtain ⟨⟨h1, h2⟩, h3, h4⟩ := h
    (try dsimp only); (repeat' (first | (with_reducible apply ok_guard; case h => (first | assumption | omega | (simp; done) | (simp; omega) | (and_intros <;> first | omega | (intro _; omega)) | (simp only [Bool.or_eq_true, Bool.and_eq_true, Bool.not_eq_true', Bool.not_eq_true, Bool.not_eq_false', Bool.not_eq_false, Bool.or_eq_false_iff, Bool.and_eq_false_iff, decide_eq_true_eq, decide_eq_false_iff_not, Bool.not_not, beq_iff_eq, bne_iff_ne] at *; omega))) | (with_reducible apply ok_guard) | (with_reducible apply ok_if <;> intro _) | (with_reducible apply ok_some) | (with_reducible apply ok_esc) | (with_reducible apply ok_then))); (all_goals try dsimp only); (all_goals try (exfalso; omega))
    · simp only [flipF, if_pos ‹t.Flip = true›]
    · simp only [flipF, if_neg ‹¬ t.Flip = true›]
  refine ok_bind this ?_
  rintro _ rfl
  dsimp only
  refine ok_then ?_
  refine ok_for t.Quarters.toNat (fun i x => t = x.2.1 ∧ x.2.2 = rotN i (flipF t.Flip q)) ⟨rfl, rfl⟩ ?_ ?_
  · rintro i ⟨a, t', r⟩ hi ⟨hp, hr⟩; dsimp only at hp hr; subst hp; subst hr
    obtain ⟨⟨h1, h2⟩, h3, h4⟩ := near_rotN hf i
    (try dsimp only); (repeat' (first | (with_reducible apply ok_guard; case h => (first | assumption | omega | (simp; done) | (simp; omega) | (and_intros <;> first | omega | (intro _; omega)) | (simp only [Bool.or_eq_true, Bool.and_eq_true, Bool.not_eq_true', Bool.not_eq_true, Bool.not_eq_false', Bool.not_eq_false, Bool.or_eq_false_iff, Bool.and_eq_false_iff, decide_eq_true_eq, decide_eq_false_iff_not, Bool.not_not, beq_iff_eq, bne_iff_ne] at *; omega))) | (with_reducible apply ok_guard) | (with_reducible apply ok_if <;> intro _) | (with_reducible apply ok_some) | (with_reducible apply ok_esc) | (with_reducible apply ok_then))); (all_goals try dsimp only); (all_goals try (exfalso; omega))
    exact ⟨rfl, rfl, rfl⟩
  · rintro ⟨a, t', r⟩ ⟨hp, hr⟩; dsimp only at hp hr; subst hp; subst hr
    obtain ⟨⟨h1, h2⟩, h3, h4⟩ := near_rotN hf t.Quarters.toNat
    obtain ⟨⟨h5, h6⟩, h7, h8⟩ := ht
    (try dsimp only); (repeat' (first | (with_reducible apply ok_guard; case h => (first | assumption | omega | (simp; done) | (simp; omega) | (and_intros <;> first | omega | (intro _; omega)) | (simp only [Bool.or_eq_true, Bool.and_eq_true, Bool.not_eq_true', Bool.not_eq_true, Bool.not_eq_false', Bool.not_eq_false, Bool.or_eq_false_iff, Bool.and_eq_false_iff, decide_eq_true_eq, decide_eq_false_iff_not, Bool.not_not, beq_iff_eq, bne_iff_ne] at *; omega))) | (with_reducible apply ok_guard) | (with_reducible apply ok_if <;> intro _) | (with_reducible apply ok_some) | (with_reducible apply ok_esc) | (with_reducible apply ok_then))); (all_goals try dsimp only); (all_goals try (exfalso; omega))
    rfl
theorem o_shape_TurnPoint {q : TPoint} {t : TTurn} (h : Near q) (ht : Near t.At) (hq : t.Quarters ≤ 3) {Q_ : _ → Prop} (k_ : Q_ (turnF q t)) : Ok (p_shape_TurnPoint q t) Q_ := ok_of (t_shape_TurnPoint h ht hq) k_
theorem s_shape_TurnPoint {β : Type} {cc_ : Prop} {d_ : Decidable cc_} {q : TPoint} {t : TTurn} (h : cc_ → (Near q)) (ht : cc_ → (Near t.At)) (hq : cc_ → (t.Quarters ≤ 3)) {e_ : _} {f_ : _ → Option β} {Q_ : β → Prop} (hd : ¬ cc_ → f_ e_ = f_ (turnF q t)) (k_ : Ok (f_ (turnF q t)) Q_) : Ok (Option.bind (@ite _ cc_ d_ (p_shape_TurnPoint q t) (some e_)) f_) Q_ := ok_short (fun hc__ => t_shape_TurnPoint (h hc__) (ht hc__) (hq hc__)) hd k_
theorem t_ref1_around {q : TPoint} {t : TTurn} (h : Near q) (hq : t.Quarters ≤ 3) : p_ref1_around q t = some (rotN t.Quarters.toNat (flipF t.Flip q)) := by
  apply ok_val
  unfold p_ref1_around
  have hf := near_flip (b := t.Flip) h
  have : Ok (if t.Flip = true then if -9223372036854775808 ≤ 0 - q.X ∧ 0 - q.X ≤ 9223372036854775807 then some (({} : TPoint), t, ({ X := 0 - q.X, Y := q.Y } : TPoint)) else none else some ({}, t, q)) (fun z => z = (({} : TPoint), t, flipF t.Flip q)) := by
    obtain ⟨⟨h1, h2⟩, h3, h4⟩ := h
    (try dsimp only); (repeat' (first | (with_reducible apply ok_guard; case h => (first | assumption | omega | (simp; done) | (simp; omega) | (and_intros <;> first | omega | (intro _; omega)) | (simp only [Bool.or_eq_true, Bool.and_eq_true, Bool.not_eq_true', Bool.not_eq_true, Bool.not_eq_false', Bool.not_eq_false, Bool.or_eq_false_iff, Bool.and_eq_false_iff, decide_eq_true_eq, decide_eq_false_iff_not, Bool.not_not, beq_iff_eq, bne_iff_ne] at *; omega))) | (with_reducible apply ok_guard) | (with_reducible apply ok_if <;> intro _) | (with_reducible apply ok_some) | (with_reducible apply ok_esc) | (with_reducible apply ok_then))); (all_goals try dsimp only); (all_goals try (exfalso; omega))
    · simp only [flipF, if_pos ‹t.Flip = true›]
    · simp only [flipF, if_neg ‹¬ t.Flip = true›]
  refine ok_bind this ?_
  rintro _ rfl
  dsimp only
  refine ok_then ?_
  refine ok_for t.Quarters.toNat (fun i x => x.2 = rotN i (flipF t.Flip q)) rfl ?_ ?_
  · rintro i ⟨a, r⟩ hi hr; dsimp only at hr; subst hr
    obtain ⟨⟨h1, h2⟩, h3, h4⟩ := near_rotN hf i
    (try dsimp only); (repeat' (first | (with_reducible apply ok_guard; case h => (first | assumption | omega | (simp; done) | (simp; omega) | (and_intros <;> first | omega | (intro _; omega)) | (simp only [Bool.or_eq_true, Bool.and_eq_true, Bool.not_eq_true', Bool.not_eq_true, Bool.not_eq_false', Bool.not_eq_false, Bool.or_eq_false_iff, Bool.and_eq_false_iff, decide_eq_true_eq, decide_eq_false_iff_not, Bool.not_not, beq_iff_eq, bne_iff_ne] at *; omega))) | (with_reducible apply ok_guard) | (with_reducible apply ok_if <;> intro _) | (with_reducible apply ok_some) | (with_reducible apply ok_esc) | (with_reducible apply ok_then))); (all_goals try dsimp only); (all_goals try (exfalso; omega))
    exact ⟨rfl, rfl⟩
  · rintro ⟨a, r⟩ hr; dsimp only at hr; subst hr
    (try dsimp only); (repeat' (first | (with_reducible apply ok_guard; case h => (first | assumption | omega | (simp; done) | (simp; omega) | (and_intros <;> first | omega | (intro _; omega)) | (simp only [Bool.or_eq_true, Bool.and_eq_true, Bool.not_eq_true', Bool.not_eq_true, Bool.not_eq_false', Bool.not_eq_false, Bool.or_eq_false_iff, Bool.and_eq_false_iff, decide_eq_true_eq, decide_eq_false_iff_not, Bool.not_not, beq_iff_eq, bne_iff_ne] at *; omega))) | (with_reducible apply ok_guard) | (with_reducible apply ok_if <;> intro _) | (with_reducible apply ok_some) | (with_reducible apply ok_esc) | (with_reducible apply ok_then))); (all_goals try dsimp only); (all_goals try (exfalso; omega))
theorem o_ref1_around {q : TPoint} {t : TTurn} (h : Near q) (hq : t.Quarters ≤ 3) {Q_ : _ → Prop} (k_ : Q_ (rotN t.Quarters.toNat (flipF t.Flip q))) : Ok (p_ref1_around q t) Q_ := ok_of (t_ref1_around h hq) k_
theorem s_ref1_around {β : Type} {cc_ : Prop} {d_ : Decidable cc_} {q : TPoint} {t : TTurn} (h : cc_ → (Near q)) (hq : cc_ → (t.Quarters ≤ 3)) {e_ : _} {f_ : _ → Option β} {Q_ : β → Prop} (hd : ¬ cc_ → f_ e_ = f_ (rotN t.Quarters.toNat (flipF t.Flip q))) (k_ : Ok (f_ (rotN t.Quarters.toNat (flipF t.Flip q))) Q_) : Ok (Option.bind (@ite _ cc_ d_ (p_ref1_around q t) (some e_)) f_) Q_ := ok_short (fun hc__ => t_ref1_around (h hc__) (hq hc__)) hd k_
theorem t_ref1_TurnPoint {q : TPoint} {t : TTurn} (h : Near q) (ht : Near t.At) (hq : t.Quarters ≤ 3) : p_ref1_TurnPoint q t = some (turnF q t) := by
  apply ok_val
  unfold p_ref1_TurnPoint
  obtain ⟨⟨h1, h2⟩, h3, h4⟩ := near_rotN (near_flip (b := t.Flip) h) t.Quarters.toNat
  obtain ⟨⟨h5, h6⟩, h7, h8⟩ := ht
  (try dsimp only); (repeat' (first | (with_reducible apply s_ref1_around; case hd => (intro hc; simp only [Bool.not_not, Bool.not_eq_true, Bool.not_eq_false'] at hc; simp only [hc, Bool.true_or, Bool.false_and, Bool.not_true, Bool.not_false, Bool.or_true, Bool.and_false])) | (with_reducible apply o_ref1_around <;> try first | assumption | omega) | (with_reducible apply ok_guard; case h => (first | assumption | omega | (simp; done) | (simp; omega) | (and_intros <;> first | omega | (intro _; omega)) | (simp only [Bool.or_eq_true, Bool.and_eq_true, Bool.not_eq_true', Bool.not_eq_true, Bool.not_eq_false', Bool.not_eq_false, Bool.or_eq_false_iff, Bool.and_eq_false_iff, decide_eq_true_eq, decide_eq_false_iff_not, Bool.not_not, beq_iff_eq, bne_iff_ne] at *; omega))) | (with_reducible apply ok_guard) | (with_reducible apply ok_if <;> intro _) | (with_reducible apply ok_some) | (with_reducible apply ok_esc) | (with_reducible apply ok_then))); (all_goals try dsimp only); (all_goals try (exfalso; omega))
  rfl
theorem o_ref1_TurnPoint {q : TPoint} {t : TTurn} (h : Near q) (ht : Near t.At) (hq : t.Quarters ≤ 3) {Q_ : _ → Prop} (k_ : Q_ (turnF q t)) : Ok (p_ref1_TurnPoint q t) Q_ := ok_of (t_ref1_TurnPoint h ht hq) k_
theorem s_ref1_TurnPoint {β : Type} {cc_ : Prop} {d_ : Decidable cc_} {q : TPoint} {t : TTurn} (h : cc_ → (Near q)) (ht : cc_ → (Near t.At)) (hq : cc_ → (t.Quarters ≤ 3)) {e_ : _} {f_ : _ → Option β} {Q_ : β → Prop} (hd : ¬ cc_ → f_ e_ = f_ (turnF q t)) (k_ : Ok (f_ (turnF q t)) Q_) : Ok (Option.bind (@ite _ cc_ d_ (p_ref1_TurnPoint q t) (some e_)) f_) Q_ := ok_short (fun hc__ => t_ref1_TurnPoint (h hc__) (ht hc__) (hq hc__)) hd k_
noncomputable def turnAt (p : TPanel) (s : TSlot) : TPoint :=
  if s.Quarters = 1 then { X := s.At.X + (boardF p s.Board).H, Y := s.At.Y }
  else if s.Quarters = 2 then { X := s.At.X + (boardF p s.Board).W, Y := s.At.Y + (boardF p s.Board).H }
  else if s.Quarters = 3 then { X := s.At.X, Y := s.At.Y + (boardF p s.Board).W } else s.At
noncomputable def turnOfF (p : TPanel) (s : TSlot) : TTurn := { Quarters := s.Quarters, At := turnAt p s }
theorem t_panel_turnOf {p : TPanel} {s : TSlot} (o : Opn p) (h : 0 ≤ kindF p s.Board) (hs : Plc s) : p_panel_turnOf p s = some (turnOfF p s) := by
  apply ok_val
  unfold p_panel_turnOf
  have h1 := kindF_lt p s.Board
  have h2 := o.board h
  obtain ⟨⟨h3, h4⟩, h5, h6⟩ := hs
  have h7 := o.kn
  have hh : p.Kinds.length < 281474976710656 := by omega
  simp only [boardF] at h2
  (try dsimp only); (repeat' (first | (with_reducible apply s_panel_kindAt; case hd => (intro hc; simp only [Bool.not_not, Bool.not_eq_true, Bool.not_eq_false'] at hc; simp only [hc, Bool.true_or, Bool.false_and, Bool.not_true, Bool.not_false, Bool.or_true, Bool.and_false])) | (with_reducible apply s_ref9_kind; case hd => (intro hc; simp only [Bool.not_not, Bool.not_eq_true, Bool.not_eq_false'] at hc; simp only [hc, Bool.true_or, Bool.false_and, Bool.not_true, Bool.not_false, Bool.or_true, Bool.and_false])) | (with_reducible apply o_panel_kindAt <;> try first | assumption | omega) | (with_reducible apply o_ref9_kind <;> try first | assumption | omega) | (with_reducible apply ok_guard; case h => (first | assumption | omega | (simp; done) | (simp; omega) | (and_intros <;> first | omega | (intro _; omega)) | (simp only [Bool.or_eq_true, Bool.and_eq_true, Bool.not_eq_true', Bool.not_eq_true, Bool.not_eq_false', Bool.not_eq_false, Bool.or_eq_false_iff, Bool.and_eq_false_iff, decide_eq_true_eq, decide_eq_false_iff_not, Bool.not_not, beq_iff_eq, bne_iff_ne] at *; omega))) | (with_reducible apply ok_guard) | (with_reducible apply ok_if <;> intro _) | (with_reducible apply ok_some) | (with_reducible apply ok_esc) | (with_reducible apply ok_then))); (all_goals try dsimp only); (all_goals try (exfalso; omega))
  all_goals (simp only [turnOfF, turnAt, boardF, *, if_true, if_false]; try simp)
theorem o_panel_turnOf {p : TPanel} {s : TSlot} (o : Opn p) (h : 0 ≤ kindF p s.Board) (hs : Plc s) {Q_ : _ → Prop} (k_ : Q_ (turnOfF p s)) : Ok (p_panel_turnOf p s) Q_ := ok_of (t_panel_turnOf o h hs) k_
theorem s_panel_turnOf {β : Type} {cc_ : Prop} {d_ : Decidable cc_} {p : TPanel} {s : TSlot} (o : cc_ → (Opn p)) (h : cc_ → (0 ≤ kindF p s.Board)) (hs : cc_ → (Plc s)) {e_ : _} {f_ : _ → Option β} {Q_ : β → Prop} (hd : ¬ cc_ → f_ e_ = f_ (turnOfF p s)) (k_ : Ok (f_ (turnOfF p s)) Q_) : Ok (Option.bind (@ite _ cc_ d_ (p_panel_turnOf p s) (some e_)) f_) Q_ := ok_short (fun hc__ => t_panel_turnOf (o hc__) (h hc__) (hs hc__)) hd k_
theorem t_ref9_turnOf {p : TPanel} {s : TSlot} (o : Opn p) (h : 0 ≤ kindF p s.Board) (hs : Plc s) : p_ref9_turnOf p s = some (turnOfF p s) := by
  apply ok_val
  unfold p_ref9_turnOf
  have h1 := kindF_lt p s.Board
  have h2 := o.board h
  obtain ⟨⟨h3, h4⟩, h5, h6⟩ := hs
  have h7 := o.kn
  have hh : p.Kinds.length < 281474976710656 := by omega
  simp only [boardF] at h2
  (try dsimp only); (repeat' (first | (with_reducible apply s_panel_kindAt; case hd => (intro hc; simp only [Bool.not_not, Bool.not_eq_true, Bool.not_eq_false'] at hc; simp only [hc, Bool.true_or, Bool.false_and, Bool.not_true, Bool.not_false, Bool.or_true, Bool.and_false])) | (with_reducible apply s_ref9_kind; case hd => (intro hc; simp only [Bool.not_not, Bool.not_eq_true, Bool.not_eq_false'] at hc; simp only [hc, Bool.true_or, Bool.false_and, Bool.not_true, Bool.not_false, Bool.or_true, Bool.and_false])) | (with_reducible apply o_panel_kindAt <;> try first | assumption | omega) | (with_reducible apply o_ref9_kind <;> try first | assumption | omega) | (with_reducible apply ok_guard; case h => (first | assumption | omega | (simp; done) | (simp; omega) | (and_intros <;> first | omega | (intro _; omega)) | (simp only [Bool.or_eq_true, Bool.and_eq_true, Bool.not_eq_true', Bool.not_eq_true, Bool.not_eq_false', Bool.not_eq_false, Bool.or_eq_false_iff, Bool.and_eq_false_iff, decide_eq_true_eq, decide_eq_false_iff_not, Bool.not_not, beq_iff_eq, bne_iff_ne] at *; omega))) | (with_reducible apply ok_guard) | (with_reducible apply ok_if <;> intro _) | (with_reducible apply ok_some) | (with_reducible apply ok_esc) | (with_reducible apply ok_then))); (all_goals try dsimp only); (all_goals try (exfalso; omega))
  all_goals (simp only [turnOfF, turnAt, boardF, *, if_true, if_false]; try simp)
theorem o_ref9_turnOf {p : TPanel} {s : TSlot} (o : Opn p) (h : 0 ≤ kindF p s.Board) (hs : Plc s) {Q_ : _ → Prop} (k_ : Q_ (turnOfF p s)) : Ok (p_ref9_turnOf p s) Q_ := ok_of (t_ref9_turnOf o h hs) k_
theorem s_ref9_turnOf {β : Type} {cc_ : Prop} {d_ : Decidable cc_} {p : TPanel} {s : TSlot} (o : cc_ → (Opn p)) (h : cc_ → (0 ≤ kindF p s.Board)) (hs : cc_ → (Plc s)) {e_ : _} {f_ : _ → Option β} {Q_ : β → Prop} (hd : ¬ cc_ → f_ e_ = f_ (turnOfF p s)) (k_ : Ok (f_ (turnOfF p s)) Q_) : Ok (Option.bind (@ite _ cc_ d_ (p_ref9_turnOf p s) (some e_)) f_) Q_ := ok_short (fun hc__ => t_ref9_turnOf (o hc__) (h hc__) (hs hc__)) hd k_
noncomputable def slotTurnF (p : TPanel) (i : Int) : TTurn × Int :=
  if checkF p = 0 then if (!(decide (0 ≤ i) && decide (i ≤ (p.Slots.length : Int) - 1))) = true then ({}, 9) else (turnOfF p (p.Slots.getD i.toNat default), 0) else ({}, checkF p)
theorem Good.at {p : TPanel} (g : Good p) {i : Int} (h0 : 0 ≤ i) (h : i < p.Slots.length) : 0 ≤ kindF p (p.Slots.getD i.toNat default).Board ∧ Plc (p.Slots.getD i.toNat default) ∧ Small (cellF p (p.Slots.getD i.toNat default)) :=
  g.toOpn.slot (g.ss i.toNat (by omega))
theorem t_panel_SlotTurn {p : TPanel} {i : Int} (f : Fits p) : p_panel_SlotTurn p i = some (slotTurnF p i) := by
  apply ok_val
  unfold p_panel_SlotTurn
  have hl := f.2.1
  (try dsimp only); (repeat' (first | (with_reducible apply s_panel_CheckPanel; case hd => (intro hc; simp only [Bool.not_not, Bool.not_eq_true, Bool.not_eq_false'] at hc; simp only [hc, Bool.true_or, Bool.false_and, Bool.not_true, Bool.not_false, Bool.or_true, Bool.and_false])) | (with_reducible apply s_panel_within; case hd => (intro hc; simp only [Bool.not_not, Bool.not_eq_true, Bool.not_eq_false'] at hc; simp only [hc, Bool.true_or, Bool.false_and, Bool.not_true, Bool.not_false, Bool.or_true, Bool.and_false])) | (with_reducible apply o_panel_CheckPanel <;> try first | assumption | omega) | (with_reducible apply o_panel_within <;> try first | assumption | omega) | (with_reducible apply ok_guard; case h => (first | assumption | omega | (simp; done) | (simp; omega) | (and_intros <;> first | omega | (intro _; omega)) | (simp only [Bool.or_eq_true, Bool.and_eq_true, Bool.not_eq_true', Bool.not_eq_true, Bool.not_eq_false', Bool.not_eq_false, Bool.or_eq_false_iff, Bool.and_eq_false_iff, decide_eq_true_eq, decide_eq_false_iff_not, Bool.not_not, beq_iff_eq, bne_iff_ne] at *; omega))) | (with_reducible apply ok_guard) | (with_reducible apply ok_if <;> intro _) | (with_reducible apply ok_some) | (with_reducible apply ok_esc) | (with_reducible apply ok_then))); (all_goals try dsimp only); (all_goals try (exfalso; omega))
  · rename_i c c2
    rw [slotTurnF, if_pos c, if_pos c2]
  · rename_i c c2
    have c3 : 0 ≤ i ∧ i < (p.Slots.length : Int) := by (simp only [Bool.or_eq_true, Bool.and_eq_true, Bool.not_eq_true', Bool.not_eq_true, Bool.not_eq_false', Bool.not_eq_false, Bool.or_eq_false_iff, Bool.and_eq_false_iff, decide_eq_true_eq, decide_eq_false_iff_not, Bool.not_not, beq_iff_eq, bne_iff_ne] at c2); omega
    obtain ⟨h1, h2, _⟩ := (good_of c).at c3.1 c3.2
    (try dsimp only); (repeat' (first | (with_reducible apply ok_guard; case h => (first | assumption | omega | (simp; done) | (simp; omega) | (and_intros <;> first | omega | (intro _; omega)) | (simp only [Bool.or_eq_true, Bool.and_eq_true, Bool.not_eq_true', Bool.not_eq_true, Bool.not_eq_false', Bool.not_eq_false, Bool.or_eq_false_iff, Bool.and_eq_false_iff, decide_eq_true_eq, decide_eq_false_iff_not, Bool.not_not, beq_iff_eq, bne_iff_ne] at *; omega))) | (with_reducible apply ok_guard) | (with_reducible apply ok_if <;> intro _) | (with_reducible apply ok_some) | (with_reducible apply ok_esc) | (with_reducible apply ok_then))); (all_goals try dsimp only); (all_goals try (exfalso; omega))
    refine o_panel_turnOf (good_of c).toOpn h1 h2 ?_
    (try dsimp only); (repeat' (first | (with_reducible apply ok_guard; case h => (first | assumption | omega | (simp; done) | (simp; omega) | (and_intros <;> first | omega | (intro _; omega)) | (simp only [Bool.or_eq_true, Bool.and_eq_true, Bool.not_eq_true', Bool.not_eq_true, Bool.not_eq_false', Bool.not_eq_false, Bool.or_eq_false_iff, Bool.and_eq_false_iff, decide_eq_true_eq, decide_eq_false_iff_not, Bool.not_not, beq_iff_eq, bne_iff_ne] at *; omega))) | (with_reducible apply ok_guard) | (with_reducible apply ok_if <;> intro _) | (with_reducible apply ok_some) | (with_reducible apply ok_esc) | (with_reducible apply ok_then))); (all_goals try dsimp only); (all_goals try (exfalso; omega))
    rw [slotTurnF, if_pos c, if_neg c2]
  · rename_i c
    rw [slotTurnF, if_neg c]
theorem o_panel_SlotTurn {p : TPanel} {i : Int} (f : Fits p) {Q_ : _ → Prop} (k_ : Q_ (slotTurnF p i)) : Ok (p_panel_SlotTurn p i) Q_ := ok_of (t_panel_SlotTurn f) k_
theorem s_panel_SlotTurn {β : Type} {cc_ : Prop} {d_ : Decidable cc_} {p : TPanel} {i : Int} (f : cc_ → (Fits p)) {e_ : _} {f_ : _ → Option β} {Q_ : β → Prop} (hd : ¬ cc_ → f_ e_ = f_ (slotTurnF p i)) (k_ : Ok (f_ (slotTurnF p i)) Q_) : Ok (Option.bind (@ite _ cc_ d_ (p_panel_SlotTurn p i) (some e_)) f_) Q_ := ok_short (fun hc__ => t_panel_SlotTurn (f hc__)) hd k_
theorem t_ref9_SlotTurn {p : TPanel} {i : Int} (f : Fits p) : p_ref9_SlotTurn p i = some (slotTurnF p i) := by
  apply ok_val
  unfold p_ref9_SlotTurn
  have hl := f.2.1
  (try dsimp only); (repeat' (first | (with_reducible apply s_ref9_CheckPanel; case hd => (intro hc; simp only [Bool.not_not, Bool.not_eq_true, Bool.not_eq_false'] at hc; simp only [hc, Bool.true_or, Bool.false_and, Bool.not_true, Bool.not_false, Bool.or_true, Bool.and_false])) | (with_reducible apply s_ref9_within; case hd => (intro hc; simp only [Bool.not_not, Bool.not_eq_true, Bool.not_eq_false'] at hc; simp only [hc, Bool.true_or, Bool.false_and, Bool.not_true, Bool.not_false, Bool.or_true, Bool.and_false])) | (with_reducible apply o_ref9_CheckPanel <;> try first | assumption | omega) | (with_reducible apply o_ref9_within <;> try first | assumption | omega) | (with_reducible apply ok_guard; case h => (first | assumption | omega | (simp; done) | (simp; omega) | (and_intros <;> first | omega | (intro _; omega)) | (simp only [Bool.or_eq_true, Bool.and_eq_true, Bool.not_eq_true', Bool.not_eq_true, Bool.not_eq_false', Bool.not_eq_false, Bool.or_eq_false_iff, Bool.and_eq_false_iff, decide_eq_true_eq, decide_eq_false_iff_not, Bool.not_not, beq_iff_eq, bne_iff_ne] at *; omega))) | (with_reducible apply ok_guard) | (with_reducible apply ok_if <;> intro _) | (with_reducible apply ok_some) | (with_reducible apply ok_esc) | (with_reducible apply ok_then))); (all_goals try dsimp only); (all_goals try (exfalso; omega))
  · rename_i c c2
    rw [slotTurnF, if_pos c, if_pos c2]
  · rename_i c c2
    have c3 : 0 ≤ i ∧ i < (p.Slots.length : Int) := by (simp only [Bool.or_eq_true, Bool.and_eq_true, Bool.not_eq_true', Bool.not_eq_true, Bool.not_eq_false', Bool.not_eq_false, Bool.or_eq_false_iff, Bool.and_eq_false_iff, decide_eq_true_eq, decide_eq_false_iff_not, Bool.not_not, beq_iff_eq, bne_iff_ne] at c2); omega
    obtain ⟨h1, h2, _⟩ := (good_of c).at c3.1 c3.2
    (try dsimp only); (repeat' (first | (with_reducible apply ok_guard; case h => (first | assumption | omega | (simp; done) | (simp; omega) | (and_intros <;> first | omega | (intro _; omega)) | (simp only [Bool.or_eq_true, Bool.and_eq_true, Bool.not_eq_true', Bool.not_eq_true, Bool.not_eq_false', Bool.not_eq_false, Bool.or_eq_false_iff, Bool.and_eq_false_iff, decide_eq_true_eq, decide_eq_false_iff_not, Bool.not_not, beq_iff_eq, bne_iff_ne] at *; omega))) | (with_reducible apply ok_guard) | (with_reducible apply ok_if <;> intro _) | (with_reducible apply ok_some) | (with_reducible apply ok_esc) | (with_reducible apply ok_then))); (all_goals try dsimp only); (all_goals try (exfalso; omega))
    refine o_ref9_turnOf (good_of c).toOpn h1 h2 ?_
    (try dsimp only); (repeat' (first | (with_reducible apply ok_guard; case h => (first | assumption | omega | (simp; done) | (simp; omega) | (and_intros <;> first | omega | (intro _; omega)) | (simp only [Bool.or_eq_true, Bool.and_eq_true, Bool.not_eq_true', Bool.not_eq_true, Bool.not_eq_false', Bool.not_eq_false, Bool.or_eq_false_iff, Bool.and_eq_false_iff, decide_eq_true_eq, decide_eq_false_iff_not, Bool.not_not, beq_iff_eq, bne_iff_ne] at *; omega))) | (with_reducible apply ok_guard) | (with_reducible apply ok_if <;> intro _) | (with_reducible apply ok_some) | (with_reducible apply ok_esc) | (with_reducible apply ok_then))); (all_goals try dsimp only); (all_goals try (exfalso; omega))
    rw [slotTurnF, if_pos c, if_neg c2]
  · rename_i c
    rw [slotTurnF, if_neg c]
theorem o_ref9_SlotTurn {p : TPanel} {i : Int} (f : Fits p) {Q_ : _ → Prop} (k_ : Q_ (slotTurnF p i)) : Ok (p_ref9_SlotTurn p i) Q_ := ok_of (t_ref9_SlotTurn f) k_
theorem s_ref9_SlotTurn {β : Type} {cc_ : Prop} {d_ : Decidable cc_} {p : TPanel} {i : Int} (f : cc_ → (Fits p)) {e_ : _} {f_ : _ → Option β} {Q_ : β → Prop} (hd : ¬ cc_ → f_ e_ = f_ (slotTurnF p i)) (k_ : Ok (f_ (slotTurnF p i)) Q_) : Ok (Option.bind (@ite _ cc_ d_ (p_ref9_SlotTurn p i) (some e_)) f_) Q_ := ok_short (fun hc__ => t_ref9_SlotTurn (f hc__)) hd k_
noncomputable def toPanelF (p : TPanel) (i : Int) (q : TPoint) : TPoint × Int :=
  if (slotTurnF p i).2 = 0 then
    if (!(decide (0 ≤ q.X) && decide (q.X ≤ (boardF p (p.Slots.getD i.toNat default).Board).W)) || !(decide (0 ≤ q.Y) && decide (q.Y ≤ (boardF p (p.Slots.getD i.toNat default).Board).H))) = true then ({}, 1)
    else (turnF q (turnOfF p (p.Slots.getD i.toNat default)), 0)
  else ({}, (slotTurnF p i).2)
theorem slotTurn_ok {p : TPanel} {i : Int} (h : (slotTurnF p i).2 = 0) : checkF p = 0 ∧ 0 ≤ i ∧ i < p.Slots.length ∧ (slotTurnF p i).1 = turnOfF p (p.Slots.getD i.toNat default) := by
  rw [slotTurnF] at h ⊢
  by_cases c : checkF p = 0
  · rw [if_pos c] at h ⊢
    by_cases c2 : (!(decide (0 ≤ i) && decide (i ≤ (p.Slots.length : Int) - 1))) = true
    · rw [if_pos c2] at h; cases h
    · rw [if_neg c2] at h ⊢
      (simp only [Bool.or_eq_true, Bool.and_eq_true, Bool.not_eq_true', Bool.not_eq_true, Bool.not_eq_false', Bool.not_eq_false, Bool.or_eq_false_iff, Bool.and_eq_false_iff, decide_eq_true_eq, decide_eq_false_iff_not, Bool.not_not, beq_iff_eq, bne_iff_ne] at c2)
      exact ⟨c, by omega, by omega, rfl⟩
  · rw [if_neg c] at h; exact (c h).elim
theorem near_turnAt {p : TPanel} {s : TSlot} (o : Opn p) (h : 0 ≤ kindF p s.Board) (hs : Plc s) : Near (turnOfF p s).At := by
  have h2 := o.board h
  obtain ⟨⟨h3, h4⟩, h5, h6⟩ := hs
  simp only [turnOfF, turnAt, Near]
  split
  · dsimp only; omega
  · split
    · dsimp only; omega
    · split
      · dsimp only; omega
      · omega
theorem Good.q {p : TPanel} (g : Good p) {i : Int} (h0 : 0 ≤ i) (h : i < p.Slots.length) : 0 ≤ (p.Slots.getD i.toNat default).Quarters ∧ (p.Slots.getD i.toNat default).Quarters ≤ 3 :=
  (slot_ok (g.ss i.toNat (by omega))).2.1.1
theorem t_panel_ToPanel {p : TPanel} {i : Int} {q : TPoint} (f : Fits p) : p_panel_ToPanel p i q = some (toPanelF p i q) := by
  apply ok_val
  unfold p_panel_ToPanel
  have hl := f.2.1
  have hk := f.1
  (try dsimp only); (repeat' (first | (with_reducible apply s_panel_SlotTurn; case hd => (intro hc; simp only [Bool.not_not, Bool.not_eq_true, Bool.not_eq_false'] at hc; simp only [hc, Bool.true_or, Bool.false_and, Bool.not_true, Bool.not_false, Bool.or_true, Bool.and_false])) | (with_reducible apply o_panel_SlotTurn <;> try first | assumption | omega) | (with_reducible apply ok_guard; case h => (first | assumption | omega | (simp; done) | (simp; omega) | (and_intros <;> first | omega | (intro _; omega)) | (simp only [Bool.or_eq_true, Bool.and_eq_true, Bool.not_eq_true', Bool.not_eq_true, Bool.not_eq_false', Bool.not_eq_false, Bool.or_eq_false_iff, Bool.and_eq_false_iff, decide_eq_true_eq, decide_eq_false_iff_not, Bool.not_not, beq_iff_eq, bne_iff_ne] at *; omega))) | (with_reducible apply ok_guard) | (with_reducible apply ok_if <;> intro _) | (with_reducible apply ok_some) | (with_reducible apply ok_esc) | (with_reducible apply ok_then))); (all_goals try dsimp only); (all_goals try (exfalso; omega))
  · have h := slotTurn_ok ‹_›
    exact ⟨h.2.1, h.2.2.1⟩
  · rename_i c
    obtain ⟨c1, c2, c3, c4⟩ := slotTurn_ok c
    obtain ⟨h1, h2, _⟩ := (good_of c1).at c2 c3
    have h3 := kindF_lt p (p.Slots.getD i.toNat default).Board
    have h4 := (good_of c1).toOpn.board h1
    · refine o_panel_kindAt hk ?_
      (try dsimp only); (repeat' (first | (with_reducible apply s_panel_within; case hd => (intro hc; simp only [Bool.not_not, Bool.not_eq_true, Bool.not_eq_false'] at hc; simp only [hc, Bool.true_or, Bool.false_and, Bool.not_true, Bool.not_false, Bool.or_true, Bool.and_false])) | (with_reducible apply o_panel_within <;> try first | assumption | omega) | (with_reducible apply ok_guard; case h => (first | assumption | omega | (simp; done) | (simp; omega) | (and_intros <;> first | omega | (intro _; omega)) | (simp only [Bool.or_eq_true, Bool.and_eq_true, Bool.not_eq_true', Bool.not_eq_true, Bool.not_eq_false', Bool.not_eq_false, Bool.or_eq_false_iff, Bool.and_eq_false_iff, decide_eq_true_eq, decide_eq_false_iff_not, Bool.not_not, beq_iff_eq, bne_iff_ne] at *; omega))) | (with_reducible apply ok_guard) | (with_reducible apply ok_if <;> intro _) | (with_reducible apply ok_some) | (with_reducible apply ok_esc) | (with_reducible apply ok_then))); (all_goals try dsimp only); (all_goals try (exfalso; omega))
      · rename_i c5
        rw [toPanelF, if_pos c, boardF, if_pos c5]
      · rename_i c5
        rw [c4]
        refine o_shape_TurnPoint ?_ (near_turnAt (good_of c1).toOpn h1 h2) ((good_of c1).q c2 c3).2 ?_
        · simp only [boardF] at h4
          (simp only [Bool.or_eq_true, Bool.and_eq_true, Bool.not_eq_true', Bool.not_eq_true, Bool.not_eq_false', Bool.not_eq_false, Bool.or_eq_false_iff, Bool.and_eq_false_iff, decide_eq_true_eq, decide_eq_false_iff_not, Bool.not_not, beq_iff_eq, bne_iff_ne] at c5)
          simp only [Near]; omega
        · (try dsimp only); (repeat' (first | (with_reducible apply ok_guard; case h => (first | assumption | omega | (simp; done) | (simp; omega) | (and_intros <;> first | omega | (intro _; omega)) | (simp only [Bool.or_eq_true, Bool.and_eq_true, Bool.not_eq_true', Bool.not_eq_true, Bool.not_eq_false', Bool.not_eq_false, Bool.or_eq_false_iff, Bool.and_eq_false_iff, decide_eq_true_eq, decide_eq_false_iff_not, Bool.not_not, beq_iff_eq, bne_iff_ne] at *; omega))) | (with_reducible apply ok_guard) | (with_reducible apply ok_if <;> intro _) | (with_reducible apply ok_some) | (with_reducible apply ok_esc) | (with_reducible apply ok_then))); (all_goals try dsimp only); (all_goals try (exfalso; omega))
          rw [toPanelF, if_pos c, boardF, if_neg c5]
  · rename_i c
    rw [toPanelF, if_neg c]
theorem o_panel_ToPanel {p : TPanel} {i : Int} {q : TPoint} (f : Fits p) {Q_ : _ → Prop} (k_ : Q_ (toPanelF p i q)) : Ok (p_panel_ToPanel p i q) Q_ := ok_of (t_panel_ToPanel f) k_
theorem s_panel_ToPanel {β : Type} {cc_ : Prop} {d_ : Decidable cc_} {p : TPanel} {i : Int} {q : TPoint} (f : cc_ → (Fits p)) {e_ : _} {f_ : _ → Option β} {Q_ : β → Prop} (hd : ¬ cc_ → f_ e_ = f_ (toPanelF p i q)) (k_ : Ok (f_ (toPanelF p i q)) Q_) : Ok (Option.bind (@ite _ cc_ d_ (p_panel_ToPanel p i q) (some e_)) f_) Q_ := ok_short (fun hc__ => t_panel_ToPanel (f hc__)) hd k_
theorem t_ref9_ToPanel {p : TPanel} {i : Int} {q : TPoint} (f : Fits p) : p_ref9_ToPanel p i q = some (toPanelF p i q) := by
  apply ok_val
  unfold p_ref9_ToPanel
  have hl := f.2.1
  have hk := f.1
  (try dsimp only); (repeat' (first | (with_reducible apply s_ref9_SlotTurn; case hd => (intro hc; simp only [Bool.not_not, Bool.not_eq_true, Bool.not_eq_false'] at hc; simp only [hc, Bool.true_or, Bool.false_and, Bool.not_true, Bool.not_false, Bool.or_true, Bool.and_false])) | (with_reducible apply o_ref9_SlotTurn <;> try first | assumption | omega) | (with_reducible apply ok_guard; case h => (first | assumption | omega | (simp; done) | (simp; omega) | (and_intros <;> first | omega | (intro _; omega)) | (simp only [Bool.or_eq_true, Bool.and_eq_true, Bool.not_eq_true', Bool.not_eq_true, Bool.not_eq_false', Bool.not_eq_false, Bool.or_eq_false_iff, Bool.and_eq_false_iff, decide_eq_true_eq, decide_eq_false_iff_not, Bool.not_not, beq_iff_eq, bne_iff_ne] at *; omega))) | (with_reducible apply ok_guard) | (with_reducible apply ok_if <;> intro _) | (with_reducible apply ok_some) | (with_reducible apply ok_esc) | (with_reducible apply ok_then))); (all_goals try dsimp only); (all_goals try (exfalso; omega))
  · have h := slotTurn_ok ‹_›
    exact ⟨h.2.1, h.2.2.1⟩
  · rename_i c
    obtain ⟨c1, c2, c3, c4⟩ := slotTurn_ok c
    obtain ⟨h1, h2, _⟩ := (good_of c1).at c2 c3
    have h3 := kindF_lt p (p.Slots.getD i.toNat default).Board
    have h4 := (good_of c1).toOpn.board h1
    · refine o_ref9_kind hk ?_
      (try dsimp only); (repeat' (first | (with_reducible apply s_ref9_within; case hd => (intro hc; simp only [Bool.not_not, Bool.not_eq_true, Bool.not_eq_false'] at hc; simp only [hc, Bool.true_or, Bool.false_and, Bool.not_true, Bool.not_false, Bool.or_true, Bool.and_false])) | (with_reducible apply o_ref9_within <;> try first | assumption | omega) | (with_reducible apply ok_guard; case h => (first | assumption | omega | (simp; done) | (simp; omega) | (and_intros <;> first | omega | (intro _; omega)) | (simp only [Bool.or_eq_true, Bool.and_eq_true, Bool.not_eq_true', Bool.not_eq_true, Bool.not_eq_false', Bool.not_eq_false, Bool.or_eq_false_iff, Bool.and_eq_false_iff, decide_eq_true_eq, decide_eq_false_iff_not, Bool.not_not, beq_iff_eq, bne_iff_ne] at *; omega))) | (with_reducible apply ok_guard) | (with_reducible apply ok_if <;> intro _) | (with_reducible apply ok_some) | (with_reducible apply ok_esc) | (with_reducible apply ok_then))); (all_goals try dsimp only); (all_goals try (exfalso; omega))
      · rename_i c5
        rw [toPanelF, if_pos c, boardF, if_pos c5]
      · rename_i c5
        rw [c4]
        refine o_ref1_TurnPoint ?_ (near_turnAt (good_of c1).toOpn h1 h2) ((good_of c1).q c2 c3).2 ?_
        · simp only [boardF] at h4
          (simp only [Bool.or_eq_true, Bool.and_eq_true, Bool.not_eq_true', Bool.not_eq_true, Bool.not_eq_false', Bool.not_eq_false, Bool.or_eq_false_iff, Bool.and_eq_false_iff, decide_eq_true_eq, decide_eq_false_iff_not, Bool.not_not, beq_iff_eq, bne_iff_ne] at c5)
          simp only [Near]; omega
        · (try dsimp only); (repeat' (first | (with_reducible apply ok_guard; case h => (first | assumption | omega | (simp; done) | (simp; omega) | (and_intros <;> first | omega | (intro _; omega)) | (simp only [Bool.or_eq_true, Bool.and_eq_true, Bool.not_eq_true', Bool.not_eq_true, Bool.not_eq_false', Bool.not_eq_false, Bool.or_eq_false_iff, Bool.and_eq_false_iff, decide_eq_true_eq, decide_eq_false_iff_not, Bool.not_not, beq_iff_eq, bne_iff_ne] at *; omega))) | (with_reducible apply ok_guard) | (with_reducible apply ok_if <;> intro _) | (with_reducible apply ok_some) | (with_reducible apply ok_esc) | (with_reducible apply ok_then))); (all_goals try dsimp only); (all_goals try (exfalso; omega))
          rw [toPanelF, if_pos c, boardF, if_neg c5]
  · rename_i c
    rw [toPanelF, if_neg c]
theorem o_ref9_ToPanel {p : TPanel} {i : Int} {q : TPoint} (f : Fits p) {Q_ : _ → Prop} (k_ : Q_ (toPanelF p i q)) : Ok (p_ref9_ToPanel p i q) Q_ := ok_of (t_ref9_ToPanel f) k_
theorem s_ref9_ToPanel {β : Type} {cc_ : Prop} {d_ : Decidable cc_} {p : TPanel} {i : Int} {q : TPoint} (f : cc_ → (Fits p)) {e_ : _} {f_ : _ → Option β} {Q_ : β → Prop} (hd : ¬ cc_ → f_ e_ = f_ (toPanelF p i q)) (k_ : Ok (f_ (toPanelF p i q)) Q_) : Ok (Option.bind (@ite _ cc_ d_ (p_ref9_ToPanel p i q) (some e_)) f_) Q_ := ok_short (fun hc__ => t_ref9_ToPanel (f hc__)) hd k_
def backQ (t : TTurn) : TTurn := { Flip := t.Flip, Quarters := if (!t.Flip) = true then Int.tmod (4 - t.Quarters) 4 else t.Quarters }
noncomputable def backF (t : TTurn) : TTurn × Int :=
  if turnFault t = 0 then ({ Flip := t.Flip, Quarters := (backQ t).Quarters, At := { X := 0 - (turnF t.At (backQ t)).X, Y := 0 - (turnF t.At (backQ t)).Y } }, 0) else ({}, turnFault t)
theorem turn_ok {t : TTurn} (h : turnFault t = 0) : 0 ≤ t.Quarters ∧ t.Quarters ≤ 3 ∧ -1000000 ≤ t.At.X ∧ t.At.X ≤ 1000000 ∧ -1000000 ≤ t.At.Y ∧ t.At.Y ≤ 1000000 := by
  rw [turnFault] at h
  split at h
  · cases h
  · rename_i c; (simp only [Bool.or_eq_true, Bool.and_eq_true, Bool.not_eq_true', Bool.not_eq_true, Bool.not_eq_false', Bool.not_eq_false, Bool.or_eq_false_iff, Bool.and_eq_false_iff, decide_eq_true_eq, decide_eq_false_iff_not, Bool.not_not, beq_iff_eq, bne_iff_ne] at c); omega
theorem turnFault_0 {t : TTurn} (h : 0 ≤ t.Quarters ∧ t.Quarters ≤ 3 ∧ -1000000 ≤ t.At.X ∧ t.At.X ≤ 1000000 ∧ -1000000 ≤ t.At.Y ∧ t.At.Y ≤ 1000000) : turnFault t = 0 := by
  rw [turnFault, if_neg]; intro c; (simp only [Bool.or_eq_true, Bool.and_eq_true, Bool.not_eq_true', Bool.not_eq_true, Bool.not_eq_false', Bool.not_eq_false, Bool.or_eq_false_iff, Bool.and_eq_false_iff, decide_eq_true_eq, decide_eq_false_iff_not, Bool.not_not, beq_iff_eq, bne_iff_ne] at c); omega
theorem tmod4 {q : Int} (h0 : 0 ≤ q) (h : q ≤ 3) : 0 ≤ Int.tmod (4 - q) 4 ∧ Int.tmod (4 - q) 4 ≤ 3 := by
  rcases (by omega : q = 0 ∨ q = 1 ∨ q = 2 ∨ q = 3) with rfl | rfl | rfl | rfl <;> decide
theorem backQ_3 {t : TTurn} (h : turnFault t = 0) : 0 ≤ (backQ t).Quarters ∧ (backQ t).Quarters ≤ 3 := by
  obtain ⟨h1, h2, _⟩ := turn_ok h
  have := tmod4 h1 h2
  simp only [backQ]; split <;> omega
theorem near_0 : Near ({} : TPoint) := by simp [Near]
theorem near_sm {q : TPoint} (h : Near q) (hq : -1000000 ≤ q.X ∧ q.X ≤ 1000000 ∧ -1000000 ≤ q.Y ∧ q.Y ≤ 1000000) (b : Bool) (n : Nat) : -1000000 ≤ (rotN n (flipF b q)).X ∧ (rotN n (flipF b q)).X ≤ 1000000 ∧ -1000000 ≤ (rotN n (flipF b q)).Y ∧ (rotN n (flipF b q)).Y ≤ 1000000 := by
  induction n with
  | zero => cases b <;> simp only [rotN, flipF, if_true, if_neg Bool.false_ne_true] <;> omega
  | succ n ih => simp only [rotN, rot]; omega
theorem back_X (q : TPoint) (t : TTurn) : (turnF q (backQ t)).X = (rotN (backQ t).Quarters.toNat (flipF (backQ t).Flip q)).X := by simp only [turnF, backQ]; simp
theorem back_Y (q : TPoint) (t : TTurn) : (turnF q (backQ t)).Y = (rotN (backQ t).Quarters.toNat (flipF (backQ t).Flip q)).Y := by simp only [turnF, backQ]; simp
theorem t_shape_Back {t : TTurn} : p_shape_Back t = some (backF t) := by
  apply ok_val
  unfold p_shape_Back
  refine ok_then (o_shape_CheckTurn (ok_if (fun c => ?_) (fun c => ?_)))
  · obtain ⟨h1, h2, h3⟩ := turn_ok c
    have hn : Near t.At := by simp only [Near]; omega
    have : Ok (if (!t.Flip) = true then if -9223372036854775808 ≤ 4 - t.Quarters ∧ 4 - t.Quarters ≤ 9223372036854775807 then some (({ Flip := t.Flip, Quarters := Int.tmod (4 - t.Quarters) 4 } : TTurn), ({} : TTurn), t) else none else some ({ Flip := t.Flip, Quarters := t.Quarters }, {}, t)) (fun z => z = (backQ t, {}, t)) := by
      (try dsimp only); (repeat' (first | (with_reducible apply ok_guard; case h => (first | assumption | omega | (simp; done) | (simp; omega) | (and_intros <;> first | omega | (intro _; omega)) | (simp only [Bool.or_eq_true, Bool.and_eq_true, Bool.not_eq_true', Bool.not_eq_true, Bool.not_eq_false', Bool.not_eq_false, Bool.or_eq_false_iff, Bool.and_eq_false_iff, decide_eq_true_eq, decide_eq_false_iff_not, Bool.not_not, beq_iff_eq, bne_iff_ne] at *; omega))) | (with_reducible apply ok_guard) | (with_reducible apply ok_if <;> intro _) | (with_reducible apply ok_some) | (with_reducible apply ok_esc) | (with_reducible apply ok_then))); (all_goals try dsimp only); (all_goals try (exfalso; omega))
      · simp only [backQ, if_pos ‹(!t.Flip) = true›]
      · simp only [backQ, if_neg ‹¬ (!t.Flip) = true›]
    refine ok_bind this ?_
    rintro _ rfl
    dsimp only
    refine ok_then ?_
    refine o_shape_TurnPoint hn near_0 (backQ_3 c).2 ?_
    have hs := near_sm hn h3 (backQ t).Flip (backQ t).Quarters.toNat
    rw [← back_X, ← back_Y] at hs
    (try dsimp only); (repeat' (first | (with_reducible apply ok_guard; case h => (first | assumption | omega | (simp; done) | (simp; omega) | (and_intros <;> first | omega | (intro _; omega)) | (simp only [Bool.or_eq_true, Bool.and_eq_true, Bool.not_eq_true', Bool.not_eq_true, Bool.not_eq_false', Bool.not_eq_false, Bool.or_eq_false_iff, Bool.and_eq_false_iff, decide_eq_true_eq, decide_eq_false_iff_not, Bool.not_not, beq_iff_eq, bne_iff_ne] at *; omega))) | (with_reducible apply ok_guard) | (with_reducible apply ok_if <;> intro _) | (with_reducible apply ok_some) | (with_reducible apply ok_esc) | (with_reducible apply ok_then))); (all_goals try dsimp only); (all_goals try (exfalso; omega))
    rw [backF, if_pos c]; rfl
  · refine ok_some ?_
    rw [backF, if_neg c]
theorem o_shape_Back {t : TTurn} {Q_ : _ → Prop} (k_ : Q_ (backF t)) : Ok (p_shape_Back t) Q_ := ok_of (t_shape_Back ) k_
theorem s_shape_Back {β : Type} {cc_ : Prop} {d_ : Decidable cc_} {t : TTurn} {e_ : _} {f_ : _ → Option β} {Q_ : β → Prop} (hd : ¬ cc_ → f_ e_ = f_ (backF t)) (k_ : Ok (f_ (backF t)) Q_) : Ok (Option.bind (@ite _ cc_ d_ (p_shape_Back t) (some e_)) f_) Q_ := ok_short (fun hc__ => t_shape_Back ) hd k_
def hitF (c : TRect) (q : TPoint) : Bool := decide (c.X0 ≤ q.X) && decide (q.X ≤ c.X1) && (decide (c.Y0 ≤ q.Y) && decide (q.Y ≤ c.Y1))
/-- the place on its board of a point -/
noncomputable def homeF (p : TPanel) (s : TSlot) (q : TPoint) : TPoint := turnF { X := q.X - (turnAt p s).X, Y := q.Y - (turnAt p s).Y } { Quarters := Int.tmod (4 - s.Quarters) 4 }
theorem turnAt_on {p : TPanel} (g : Good p) {i : Nat} (hi : i < p.Slots.length) : turnFault (turnOfF p (slotD p i)) = 0 ∧ 0 ≤ (turnAt p (slotD p i)).X ∧ (turnAt p (slotD p i)).X ≤ 1000000 ∧ 0 ≤ (turnAt p (slotD p i)).Y ∧ (turnAt p (slotD p i)).Y ≤ 1000000 := by
  obtain ⟨h1, ⟨⟨h2, h3⟩, l1, l2, l3, l4⟩, _⟩ := slot_ok (g.ss i hi)
  have hb := g.toOpn.board h1
  obtain ⟨o1, o2, o3, o4, o5, o6, _, _⟩ := g.toOpn.toRgs
  have : 0 ≤ (turnAt p (slotD p i)).X ∧ (turnAt p (slotD p i)).X ≤ 1000000 ∧ 0 ≤ (turnAt p (slotD p i)).Y ∧ (turnAt p (slotD p i)).Y ≤ 1000000 := by
    generalize slotD p i = s at *
    rcases (by omega : s.Quarters = 0 ∨ s.Quarters = 1 ∨ s.Quarters = 2 ∨ s.Quarters = 3) with e | e | e | e <;> simp [turnAt, sizeF, e] at l2 l4 ⊢ <;> omega
  refine ⟨turnFault_0 ?_, this⟩
  simp only [turnOfF]; omega
theorem home_back {p : TPanel} (g : Good p) {i : Nat} (hi : i < p.Slots.length) (q : TPoint) : turnF q (backF (turnOfF p (slotD p i))).1 = homeF p (slotD p i) q := by
  obtain ⟨h0, _⟩ := turnAt_on g hi
  obtain ⟨_, ⟨⟨h2, h3⟩, _⟩, _⟩ := slot_ok (g.ss i hi)
  rw [backF, if_pos h0]
  generalize slotD p i = s at *
  rcases (by omega : s.Quarters = 0 ∨ s.Quarters = 1 ∨ s.Quarters = 2 ∨ s.Quarters = 3) with e | e | e | e <;>
    (have e2 : Int.tmod (4 - s.Quarters) 4 = if s.Quarters = 0 then 0 else 4 - s.Quarters := by rw [e]; decide
     rw [e] at e2
     simp only [homeF, turnF, backQ, turnOfF, e, e2]
     simp [rotN, rot, flipF, turnAt, e]
     try omega)
noncomputable def toBoardF (p : TPanel) (q : TPoint) : Int × TPoint × Bool × Int :=
  if checkF p = 0 then
    if onPanelF p q = false then (0, {}, false, 1)
    else if firstF p.Slots.length (fun i => hitF (cellF p (slotD p i)) q) = -1 then (0, {}, false, 0)
    else (firstF p.Slots.length (fun i => hitF (cellF p (slotD p i)) q), homeF p (slotD p (firstF p.Slots.length (fun i => hitF (cellF p (slotD p i)) q)).toNat) q, true, 0)
  else (0, {}, false, checkF p)
theorem toBoard_at {p : TPanel} {q : TPoint} (c : checkF p = 0) (h : ¬ onPanelF p q = false) {i : Nat} (hi : i < p.Slots.length) (h2 : hitF (cellF p (slotD p i)) q = true) (hI : ∀ j < i, hitF (cellF p (slotD p j)) q = false) : toBoardF p q = ((i : Int), homeF p (slotD p i) q, true, 0) := by
  rw [toBoardF, if_pos c, if_neg h, firstF_at hi h2 hI, if_neg (by omega), Int.toNat_natCast]
theorem toBoard_no {p : TPanel} {q : TPoint} (c : checkF p = 0) (h : ¬ onPanelF p q = false) (hI : ∀ j < p.Slots.length, hitF (cellF p (slotD p j)) q = false) : toBoardF p q = (0, {}, false, 0) := by
  rw [toBoardF, if_pos c, if_neg h, firstF_none hI, if_pos rfl]
theorem near_home {p : TPanel} (g : Good p) {i : Nat} (hi : i < p.Slots.length) {q : TPoint} (hq : onPanelF p q = true) : Near q ∧ Near { X := q.X - (turnAt p (slotD p i)).X, Y := q.Y - (turnAt p (slotD p i)).Y } := by
  obtain ⟨_, h⟩ := turnAt_on g hi
  obtain ⟨o1, o2, o3, o4, o5, o6, _, _⟩ := g.toOpn.toRgs
  simp only [onPanelF] at hq
  (simp only [Bool.or_eq_true, Bool.and_eq_true, Bool.not_eq_true', Bool.not_eq_true, Bool.not_eq_false', Bool.not_eq_false, Bool.or_eq_false_iff, Bool.and_eq_false_iff, decide_eq_true_eq, decide_eq_false_iff_not, Bool.not_not, beq_iff_eq, bne_iff_ne] at hq)
  simp only [Near]; omega
theorem t_panel_ToBoard {p : TPanel} {q : TPoint} (f : Fits p) : p_panel_ToBoard p q = some (toBoardF p q) := by
  apply ok_val
  unfold p_panel_ToBoard
  have hl := f.2.1
  (try dsimp only); (repeat' (first | (with_reducible apply s_panel_open; case hd => (intro hc; simp only [Bool.not_not, Bool.not_eq_true, Bool.not_eq_false'] at hc; simp only [hc, Bool.true_or, Bool.false_and, Bool.not_true, Bool.not_false, Bool.or_true, Bool.and_false])) | (with_reducible apply o_panel_open <;> try first | assumption | omega) | (with_reducible apply ok_guard; case h => (first | assumption | omega | (simp; done) | (simp; omega) | (and_intros <;> first | omega | (intro _; omega)) | (simp only [Bool.or_eq_true, Bool.and_eq_true, Bool.not_eq_true', Bool.not_eq_true, Bool.not_eq_false', Bool.not_eq_false, Bool.or_eq_false_iff, Bool.and_eq_false_iff, decide_eq_true_eq, decide_eq_false_iff_not, Bool.not_not, beq_iff_eq, bne_iff_ne] at *; omega))) | (with_reducible apply ok_guard) | (with_reducible apply ok_if <;> intro _) | (with_reducible apply ok_some) | (with_reducible apply ok_esc) | (with_reducible apply ok_then))); (all_goals try dsimp only); (all_goals try (exfalso; omega))
  · rename_i c
    change checkF p = 0 at c
    have g := good_of c
    (try dsimp only); (repeat' (first | (with_reducible apply s_panel_isOnPanel; case hd => (intro hc; simp only [Bool.not_not, Bool.not_eq_true, Bool.not_eq_false'] at hc; simp only [hc, Bool.true_or, Bool.false_and, Bool.not_true, Bool.not_false, Bool.or_true, Bool.and_false])) | (with_reducible apply o_panel_isOnPanel <;> try first | assumption | omega) | (with_reducible apply ok_guard; case h => (first | assumption | omega | (simp; done) | (simp; omega) | (and_intros <;> first | omega | (intro _; omega)) | (simp only [Bool.or_eq_true, Bool.and_eq_true, Bool.not_eq_true', Bool.not_eq_true, Bool.not_eq_false', Bool.not_eq_false, Bool.or_eq_false_iff, Bool.and_eq_false_iff, decide_eq_true_eq, decide_eq_false_iff_not, Bool.not_not, beq_iff_eq, bne_iff_ne] at *; omega))) | (with_reducible apply ok_guard) | (with_reducible apply ok_if <;> intro _) | (with_reducible apply ok_some) | (with_reducible apply ok_esc) | (with_reducible apply ok_then))); (all_goals try dsimp only); (all_goals try (exfalso; omega))
    · rename_i h
      (simp only [Bool.or_eq_true, Bool.and_eq_true, Bool.not_eq_true', Bool.not_eq_true, Bool.not_eq_false', Bool.not_eq_false, Bool.or_eq_false_iff, Bool.and_eq_false_iff, decide_eq_true_eq, decide_eq_false_iff_not, Bool.not_not, beq_iff_eq, bne_iff_ne] at h)
      rw [toBoardF, if_pos c, if_pos h]
    · rename_i h
      (simp only [Bool.or_eq_true, Bool.and_eq_true, Bool.not_eq_true', Bool.not_eq_true, Bool.not_eq_false', Bool.not_eq_false, Bool.or_eq_false_iff, Bool.and_eq_false_iff, decide_eq_true_eq, decide_eq_false_iff_not, Bool.not_not, beq_iff_eq, bne_iff_ne] at h)
      have h' : ¬ onPanelF p q = false := by rw [h]; exact Bool.noConfusion
      have e : (openF p).1 = p.Slots.map (cellF p) := by rw [openF, if_pos c]
      rw [e]
      have hc : ∀ j < p.Slots.length, (p.Slots.map (cellF p)).getD j default = cellF p (slotD p j) := fun j hj => getD_map (cellF p) _ _ default default hj
      refine ok_for p.Slots.length (fun i x => q = x.2.2.2.2.1 ∧ p = x.2.2.2.2.2 ∧ ∀ j < i, hitF (cellF p (slotD p j)) q = false) ⟨rfl, rfl, by intro j h; omega⟩ ?_ ?_
      · rintro i ⟨x1, x2, x3, x4, q', p'⟩ hi ⟨hq, hp, hI⟩; dsimp only at hq hp; subst hq; subst hp
        have ha := g.at (i := (i : Int)) (by omega) (by omega)
        simp only [Int.toNat_natCast] at ha ⊢
        rw [hc i hi]
        rw [List.length_map]
        (try dsimp only); (repeat' (first | (with_reducible apply s_panel_within; case hd => (intro hc; simp only [Bool.not_not, Bool.not_eq_true, Bool.not_eq_false'] at hc; simp only [hc, Bool.true_or, Bool.false_and, Bool.not_true, Bool.not_false, Bool.or_true, Bool.and_false])) | (with_reducible apply o_panel_within <;> try first | assumption | omega) | (with_reducible apply ok_guard; case h => (first | assumption | omega | (simp; done) | (simp; omega) | (and_intros <;> first | omega | (intro _; omega)) | (simp only [Bool.or_eq_true, Bool.and_eq_true, Bool.not_eq_true', Bool.not_eq_true, Bool.not_eq_false', Bool.not_eq_false, Bool.or_eq_false_iff, Bool.and_eq_false_iff, decide_eq_true_eq, decide_eq_false_iff_not, Bool.not_not, beq_iff_eq, bne_iff_ne] at *; omega))) | (with_reducible apply ok_guard) | (with_reducible apply ok_if <;> intro _) | (with_reducible apply ok_some) | (with_reducible apply ok_esc) | (with_reducible apply ok_then))); (all_goals try dsimp only); (all_goals try (exfalso; omega))
        · rename_i h2
          refine o_panel_turnOf g.toOpn ha.1 ha.2.1 ?_
          (try dsimp only); (repeat' (first | (with_reducible apply s_shape_Back; case hd => (intro hc; simp only [Bool.not_not, Bool.not_eq_true, Bool.not_eq_false'] at hc; simp only [hc, Bool.true_or, Bool.false_and, Bool.not_true, Bool.not_false, Bool.or_true, Bool.and_false])) | (with_reducible apply o_shape_Back <;> try first | assumption | omega) | (with_reducible apply ok_guard; case h => (first | assumption | omega | (simp; done) | (simp; omega) | (and_intros <;> first | omega | (intro _; omega)) | (simp only [Bool.or_eq_true, Bool.and_eq_true, Bool.not_eq_true', Bool.not_eq_true, Bool.not_eq_false', Bool.not_eq_false, Bool.or_eq_false_iff, Bool.and_eq_false_iff, decide_eq_true_eq, decide_eq_false_iff_not, Bool.not_not, beq_iff_eq, bne_iff_ne] at *; omega))) | (with_reducible apply ok_guard) | (with_reducible apply ok_if <;> intro _) | (with_reducible apply ok_some) | (with_reducible apply ok_esc) | (with_reducible apply ok_then))); (all_goals try dsimp only); (all_goals try (exfalso; omega))
          obtain ⟨hn, _⟩ := near_home g hi h
          have hb := turnAt_on g hi
          have hbt := turn_ok hb.1
          refine o_shape_TurnPoint hn ?_ ?_ ?_
          · change Near (backF (turnOfF p (slotD p i))).1.At
            rw [backF, if_pos hb.1]
            have hs := near_sm (q := (turnOfF p (slotD p i)).At) (by simp only [Near]; omega) hbt.2.2 (backQ (turnOfF p (slotD p i))).Flip (backQ (turnOfF p (slotD p i))).Quarters.toNat
            rw [← back_X, ← back_Y] at hs
            simp only [Near]; omega
          · change (backF (turnOfF p (slotD p i))).1.Quarters ≤ 3
            rw [backF, if_pos hb.1]
            exact (backQ_3 hb.1).2
          · (try dsimp only); (repeat' (first | (with_reducible apply ok_guard; case h => (first | assumption | omega | (simp; done) | (simp; omega) | (and_intros <;> first | omega | (intro _; omega)) | (simp only [Bool.or_eq_true, Bool.and_eq_true, Bool.not_eq_true', Bool.not_eq_true, Bool.not_eq_false', Bool.not_eq_false, Bool.or_eq_false_iff, Bool.and_eq_false_iff, decide_eq_true_eq, decide_eq_false_iff_not, Bool.not_not, beq_iff_eq, bne_iff_ne] at *; omega))) | (with_reducible apply ok_guard) | (with_reducible apply ok_if <;> intro _) | (with_reducible apply ok_some) | (with_reducible apply ok_esc) | (with_reducible apply ok_then))); (all_goals try dsimp only); (all_goals try (exfalso; omega))
            rw [toBoard_at c h' hi h2 hI]
            change (_, turnF q (backF (turnOfF p (slotD p i))).1, _, _) = _
            rw [home_back g hi q]
        · rename_i h2
          exact ⟨rfl, rfl, rfl, all_lt hI (by rw [← Bool.not_eq_true]; exact h2)⟩
      · rintro ⟨x1, x2, x3, x4, q', p'⟩ ⟨hq, hp, hI⟩; dsimp only at hq hp; subst hq; subst hp
        rw [List.length_map]
        (try dsimp only); (repeat' (first | (with_reducible apply ok_guard; case h => (first | assumption | omega | (simp; done) | (simp; omega) | (and_intros <;> first | omega | (intro _; omega)) | (simp only [Bool.or_eq_true, Bool.and_eq_true, Bool.not_eq_true', Bool.not_eq_true, Bool.not_eq_false', Bool.not_eq_false, Bool.or_eq_false_iff, Bool.and_eq_false_iff, decide_eq_true_eq, decide_eq_false_iff_not, Bool.not_not, beq_iff_eq, bne_iff_ne] at *; omega))) | (with_reducible apply ok_guard) | (with_reducible apply ok_if <;> intro _) | (with_reducible apply ok_some) | (with_reducible apply ok_esc) | (with_reducible apply ok_then))); (all_goals try dsimp only); (all_goals try (exfalso; omega))
        rw [toBoard_no c h' hI]
  · rename_i c
    change ¬ checkF p = 0 at c
    rw [toBoardF, if_neg c]; rfl
theorem o_panel_ToBoard {p : TPanel} {q : TPoint} (f : Fits p) {Q_ : _ → Prop} (k_ : Q_ (toBoardF p q)) : Ok (p_panel_ToBoard p q) Q_ := ok_of (t_panel_ToBoard f) k_
theorem s_panel_ToBoard {β : Type} {cc_ : Prop} {d_ : Decidable cc_} {p : TPanel} {q : TPoint} (f : cc_ → (Fits p)) {e_ : _} {f_ : _ → Option β} {Q_ : β → Prop} (hd : ¬ cc_ → f_ e_ = f_ (toBoardF p q)) (k_ : Ok (f_ (toBoardF p q)) Q_) : Ok (Option.bind (@ite _ cc_ d_ (p_panel_ToBoard p q) (some e_)) f_) Q_ := ok_short (fun hc__ => t_panel_ToBoard (f hc__)) hd k_
theorem t_ref9_ToBoard {p : TPanel} {q : TPoint} (f : Fits p) : p_ref9_ToBoard p q = some (toBoardF p q) := by
  apply ok_val
  unfold p_ref9_ToBoard
  have hl := f.2.1
  (try dsimp only); (repeat' (first | (with_reducible apply s_ref9_CheckPanel; case hd => (intro hc; simp only [Bool.not_not, Bool.not_eq_true, Bool.not_eq_false'] at hc; simp only [hc, Bool.true_or, Bool.false_and, Bool.not_true, Bool.not_false, Bool.or_true, Bool.and_false])) | (with_reducible apply s_ref9_within; case hd => (intro hc; simp only [Bool.not_not, Bool.not_eq_true, Bool.not_eq_false'] at hc; simp only [hc, Bool.true_or, Bool.false_and, Bool.not_true, Bool.not_false, Bool.or_true, Bool.and_false])) | (with_reducible apply o_ref9_CheckPanel <;> try first | assumption | omega) | (with_reducible apply o_ref9_within <;> try first | assumption | omega) | (with_reducible apply ok_guard; case h => (first | assumption | omega | (simp; done) | (simp; omega) | (and_intros <;> first | omega | (intro _; omega)) | (simp only [Bool.or_eq_true, Bool.and_eq_true, Bool.not_eq_true', Bool.not_eq_true, Bool.not_eq_false', Bool.not_eq_false, Bool.or_eq_false_iff, Bool.and_eq_false_iff, decide_eq_true_eq, decide_eq_false_iff_not, Bool.not_not, beq_iff_eq, bne_iff_ne] at *; omega))) | (with_reducible apply ok_guard) | (with_reducible apply ok_if <;> intro _) | (with_reducible apply ok_some) | (with_reducible apply ok_esc) | (with_reducible apply ok_then))); (all_goals try dsimp only); (all_goals try (exfalso; omega))
  · rename_i c h
    rw [toBoardF, if_pos c, if_pos]; simp only [onPanelF]; (simp only [Bool.or_eq_true, Bool.and_eq_true, Bool.not_eq_true', Bool.not_eq_true, Bool.not_eq_false', Bool.not_eq_false, Bool.or_eq_false_iff, Bool.and_eq_false_iff, decide_eq_true_eq, decide_eq_false_iff_not, Bool.not_not, beq_iff_eq, bne_iff_ne] at h ⊢); omega
  · rename_i c h1
    have g := good_of c
    have h : onPanelF p q = true := by simp only [onPanelF]; (simp only [Bool.or_eq_true, Bool.and_eq_true, Bool.not_eq_true', Bool.not_eq_true, Bool.not_eq_false', Bool.not_eq_false, Bool.or_eq_false_iff, Bool.and_eq_false_iff, decide_eq_true_eq, decide_eq_false_iff_not, Bool.not_not, beq_iff_eq, bne_iff_ne] at h1 ⊢); omega
    have h' : ¬ onPanelF p q = false := by rw [h]; exact Bool.noConfusion
    refine ok_for p.Slots.length (fun i x => q = x.2.2.2.2.1 ∧ p = x.2.2.2.2.2 ∧ ∀ j < i, hitF (cellF p (slotD p j)) q = false) ⟨rfl, rfl, by intro j h; omega⟩ ?_ ?_
    · rintro i ⟨x1, x2, x3, x4, q', p'⟩ hi ⟨hq, hp, hI⟩; dsimp only at hq hp; subst hq; subst hp
      have ha := g.at (i := (i : Int)) (by omega) (by omega)
      simp only [Int.toNat_natCast] at ha ⊢
      have hb := turnAt_on g hi
      have hbt := turn_ok hb.1
      obtain ⟨_, hn⟩ := near_home g hi h
      have hn' := hn
      simp only [Near] at hn'
      (try dsimp only); (repeat' (first | (with_reducible apply ok_guard; case h => (first | assumption | omega | (simp; done) | (simp; omega) | (and_intros <;> first | omega | (intro _; omega)) | (simp only [Bool.or_eq_true, Bool.and_eq_true, Bool.not_eq_true', Bool.not_eq_true, Bool.not_eq_false', Bool.not_eq_false, Bool.or_eq_false_iff, Bool.and_eq_false_iff, decide_eq_true_eq, decide_eq_false_iff_not, Bool.not_not, beq_iff_eq, bne_iff_ne] at *; omega))) | (with_reducible apply ok_guard) | (with_reducible apply ok_if <;> intro _) | (with_reducible apply ok_some) | (with_reducible apply ok_esc) | (with_reducible apply ok_then))); (all_goals try dsimp only); (all_goals try (exfalso; omega))
      refine o_ref9_cellOf g.toOpn ha.1 ha.2.1 ?_
      (try dsimp only); (repeat' (first | (with_reducible apply s_ref9_within; case hd => (intro hc; simp only [Bool.not_not, Bool.not_eq_true, Bool.not_eq_false'] at hc; simp only [hc, Bool.true_or, Bool.false_and, Bool.not_true, Bool.not_false, Bool.or_true, Bool.and_false])) | (with_reducible apply o_ref9_within <;> try first | assumption | omega) | (with_reducible apply ok_guard; case h => (first | assumption | omega | (simp; done) | (simp; omega) | (and_intros <;> first | omega | (intro _; omega)) | (simp only [Bool.or_eq_true, Bool.and_eq_true, Bool.not_eq_true', Bool.not_eq_true, Bool.not_eq_false', Bool.not_eq_false, Bool.or_eq_false_iff, Bool.and_eq_false_iff, decide_eq_true_eq, decide_eq_false_iff_not, Bool.not_not, beq_iff_eq, bne_iff_ne] at *; omega))) | (with_reducible apply ok_guard) | (with_reducible apply ok_if <;> intro _) | (with_reducible apply ok_some) | (with_reducible apply ok_esc) | (with_reducible apply ok_then))); (all_goals try dsimp only); (all_goals try (exfalso; omega))
      · rename_i h2
        refine o_ref9_turnOf g.toOpn ha.1 ha.2.1 ?_
        change (-1000000000 ≤ q.X - (turnOfF p (p.Slots.getD i default)).At.X ∧ q.X - (turnOfF p (p.Slots.getD i default)).At.X ≤ 1000000000) ∧ -1000000000 ≤ q.Y - (turnOfF p (p.Slots.getD i default)).At.Y ∧ q.Y - (turnOfF p (p.Slots.getD i default)).At.Y ≤ 1000000000 at hn'
        simp only [slotD] at hbt
        (try dsimp only); (repeat' (first | (with_reducible apply ok_guard; case h => (first | assumption | omega | (simp; done) | (simp; omega) | (and_intros <;> first | omega | (intro _; omega)) | (simp only [Bool.or_eq_true, Bool.and_eq_true, Bool.not_eq_true', Bool.not_eq_true, Bool.not_eq_false', Bool.not_eq_false, Bool.or_eq_false_iff, Bool.and_eq_false_iff, decide_eq_true_eq, decide_eq_false_iff_not, Bool.not_not, beq_iff_eq, bne_iff_ne] at *; omega))) | (with_reducible apply ok_guard) | (with_reducible apply ok_if <;> intro _) | (with_reducible apply ok_some) | (with_reducible apply ok_esc) | (with_reducible apply ok_then))); (all_goals try dsimp only); (all_goals try (exfalso; omega))
        refine o_ref1_TurnPoint hn near_0 (tmod4 hbt.1 hbt.2.1).2 ?_
        (try dsimp only); (repeat' (first | (with_reducible apply ok_guard; case h => (first | assumption | omega | (simp; done) | (simp; omega) | (and_intros <;> first | omega | (intro _; omega)) | (simp only [Bool.or_eq_true, Bool.and_eq_true, Bool.not_eq_true', Bool.not_eq_true, Bool.not_eq_false', Bool.not_eq_false, Bool.or_eq_false_iff, Bool.and_eq_false_iff, decide_eq_true_eq, decide_eq_false_iff_not, Bool.not_not, beq_iff_eq, bne_iff_ne] at *; omega))) | (with_reducible apply ok_guard) | (with_reducible apply ok_if <;> intro _) | (with_reducible apply ok_some) | (with_reducible apply ok_esc) | (with_reducible apply ok_then))); (all_goals try dsimp only); (all_goals try (exfalso; omega))
        rw [toBoard_at c h' hi h2 hI]; rfl
      · rename_i h2
        exact ⟨rfl, rfl, rfl, all_lt hI (by rw [← Bool.not_eq_true]; exact h2)⟩
    · rintro ⟨x1, x2, x3, x4, q', p'⟩ ⟨hq, hp, hI⟩; dsimp only at hq hp; subst hq; subst hp
      (try dsimp only); (repeat' (first | (with_reducible apply ok_guard; case h => (first | assumption | omega | (simp; done) | (simp; omega) | (and_intros <;> first | omega | (intro _; omega)) | (simp only [Bool.or_eq_true, Bool.and_eq_true, Bool.not_eq_true', Bool.not_eq_true, Bool.not_eq_false', Bool.not_eq_false, Bool.or_eq_false_iff, Bool.and_eq_false_iff, decide_eq_true_eq, decide_eq_false_iff_not, Bool.not_not, beq_iff_eq, bne_iff_ne] at *; omega))) | (with_reducible apply ok_guard) | (with_reducible apply ok_if <;> intro _) | (with_reducible apply ok_some) | (with_reducible apply ok_esc) | (with_reducible apply ok_then))); (all_goals try dsimp only); (all_goals try (exfalso; omega))
      rw [toBoard_no c h' hI]
  · rename_i c
    rw [toBoardF, if_neg c]
theorem o_ref9_ToBoard {p : TPanel} {q : TPoint} (f : Fits p) {Q_ : _ → Prop} (k_ : Q_ (toBoardF p q)) : Ok (p_ref9_ToBoard p q) Q_ := ok_of (t_ref9_ToBoard f) k_
theorem s_ref9_ToBoard {β : Type} {cc_ : Prop} {d_ : Decidable cc_} {p : TPanel} {q : TPoint} (f : cc_ → (Fits p)) {e_ : _} {f_ : _ → Option β} {Q_ : β → Prop} (hd : ¬ cc_ → f_ e_ = f_ (toBoardF p q)) (k_ : Ok (f_ (toBoardF p q)) Q_) : Ok (Option.bind (@ite _ cc_ d_ (p_ref9_ToBoard p q) (some e_)) f_) Q_ := ok_short (fun hc__ => t_ref9_ToBoard (f hc__)) hd k_
end Go.Nw
