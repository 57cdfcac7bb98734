/- NqPan: a part of the proof. -/
import Derived.Test.YtngdglmimlfefaaNqLib
import Derived.Test.YtngdglmimlfefaaNwDA
set_option linter.unusedVariables false
set_option linter.unusedSimpArgs false
set_option maxRecDepth 100000
namespace Go.Nw
/-- the sign at a place of a name is one that may stand there -/
def nameCh (s : ByteArray) (i : Nat) : Bool :=
  let c : Int := (UInt8.toNat (Array.getD (ByteArray.data s) i 0) : Int)
  (decide (97 ≤ c) && decide (c ≤ 122) || decide (65 ≤ c) && decide (c ≤ 90)) || (!decide (i = 0) && (decide (48 ≤ c) && decide (c ≤ 57) || decide (c = 95) || decide (c = 45)))
theorem t_panel_within {a b c : Int} : p_panel_within a b c = some (decide (b ≤ a) && decide (a ≤ c)) := rfl
theorem o_panel_within {a b c : Int} {Q_ : _ → Prop} (k_ : Q_ (decide (b ≤ a) && decide (a ≤ c))) : Ok (p_panel_within a b c) Q_ := ok_of (t_panel_within ) k_
theorem s_panel_within {β : Type} {cc_ : Prop} {d_ : Decidable cc_} {a b c : Int} {e_ : _} {f_ : _ → Option β} {Q_ : β → Prop} (hd : ¬ cc_ → f_ e_ = f_ (decide (b ≤ a) && decide (a ≤ c))) (k_ : Ok (f_ (decide (b ≤ a) && decide (a ≤ c))) Q_) : Ok (Option.bind (@ite _ cc_ d_ (p_panel_within a b c) (some e_)) f_) Q_ := ok_short (fun hc__ => t_panel_within ) hd k_
theorem t_ref9_within {a b c : Int} : p_ref9_within a b c = some (decide (b ≤ a) && decide (a ≤ c)) := rfl
theorem o_ref9_within {a b c : Int} {Q_ : _ → Prop} (k_ : Q_ (decide (b ≤ a) && decide (a ≤ c))) : Ok (p_ref9_within a b c) Q_ := ok_of (t_ref9_within ) k_
theorem s_ref9_within {β : Type} {cc_ : Prop} {d_ : Decidable cc_} {a b c : Int} {e_ : _} {f_ : _ → Option β} {Q_ : β → Prop} (hd : ¬ cc_ → f_ e_ = f_ (decide (b ≤ a) && decide (a ≤ c))) (k_ : Ok (f_ (decide (b ≤ a) && decide (a ≤ c))) Q_) : Ok (Option.bind (@ite _ cc_ d_ (p_ref9_within a b c) (some e_)) f_) Q_ := ok_short (fun hc__ => t_ref9_within ) hd k_
theorem t_ref3_within {a b c : Int} : p_ref3_within a b c = some (decide (b ≤ a) && decide (a ≤ c)) := rfl
theorem o_ref3_within {a b c : Int} {Q_ : _ → Prop} (k_ : Q_ (decide (b ≤ a) && decide (a ≤ c))) : Ok (p_ref3_within a b c) Q_ := ok_of (t_ref3_within ) k_
theorem s_ref3_within {β : Type} {cc_ : Prop} {d_ : Decidable cc_} {a b c : Int} {e_ : _} {f_ : _ → Option β} {Q_ : β → Prop} (hd : ¬ cc_ → f_ e_ = f_ (decide (b ≤ a) && decide (a ≤ c))) (k_ : Ok (f_ (decide (b ≤ a) && decide (a ≤ c))) Q_) : Ok (Option.bind (@ite _ cc_ d_ (p_ref3_within a b c) (some e_)) f_) Q_ := ok_short (fun hc__ => t_ref3_within ) hd k_
noncomputable def isNameF (s : ByteArray) : Bool := decide (∀ j < s.size, nameCh s j = true) && (decide (1 ≤ (s.size : Int)) && decide ((s.size : Int) ≤ 40))
theorem isNameF_no {s : ByteArray} {i : Nat} (hi : i < s.size) (h : nameCh s i = false) : isNameF s = false := by
  have : ¬ ∀ j < s.size, nameCh s j = true := fun k => by rw [k i hi] at h; cases h
  simp [isNameF, this]
theorem t_plot_IsName {s : ByteArray} (hs : s.size < 281474976710656) : p_plot_IsName s = some (isNameF s) := by
  apply ok_val
  unfold p_plot_IsName
  apply ok_esc
  refine ok_for s.size (fun i _ => ∀ j < i, nameCh s j = true) (by intro j h; omega) ?_ ?_
  · intro i x hi hI
    (try dsimp only); (repeat' (first | (with_reducible apply ok_guard; case h => (first | assumption | omega | (simp; done) | (simp; omega) | (and_intros <;> first | omega | (intro _; omega)) | (simp only [Bool.or_eq_true, Bool.and_eq_true, Bool.not_eq_true', Bool.not_eq_true, Bool.not_eq_false', Bool.not_eq_false, Bool.or_eq_false_iff, Bool.and_eq_false_iff, decide_eq_true_eq, decide_eq_false_iff_not, Bool.not_not, beq_iff_eq, bne_iff_ne] at *; omega))) | (with_reducible apply ok_guard) | (with_reducible apply ok_if <;> intro _) | (with_reducible apply ok_some) | (with_reducible apply ok_esc) | (with_reducible apply ok_then))); (all_goals try dsimp only); (all_goals try (exfalso; omega))
    · rename_i h1 h2
      exact (isNameF_no hi (by simp [nameCh] at h2 ⊢; omega)).symm
    · rename_i h1 h2
      exact ⟨rfl, all_lt hI (by simp [nameCh] at h2 ⊢; omega)⟩
  · intro x hI
    (try dsimp only); (repeat' (first | (with_reducible apply ok_guard; case h => (first | assumption | omega | (simp; done) | (simp; omega) | (and_intros <;> first | omega | (intro _; omega)) | (simp only [Bool.or_eq_true, Bool.and_eq_true, Bool.not_eq_true', Bool.not_eq_true, Bool.not_eq_false', Bool.not_eq_false, Bool.or_eq_false_iff, Bool.and_eq_false_iff, decide_eq_true_eq, decide_eq_false_iff_not, Bool.not_not, beq_iff_eq, bne_iff_ne] at *; omega))) | (with_reducible apply ok_guard) | (with_reducible apply ok_if <;> intro _) | (with_reducible apply ok_some) | (with_reducible apply ok_esc) | (with_reducible apply ok_then))); (all_goals try dsimp only); (all_goals try (exfalso; omega))
    rw [isNameF, decide_eq_true hI, Bool.true_and]
theorem o_plot_IsName {s : ByteArray} (hs : s.size < 281474976710656) {Q_ : _ → Prop} (k_ : Q_ (isNameF s)) : Ok (p_plot_IsName s) Q_ := ok_of (t_plot_IsName hs) k_
theorem s_plot_IsName {β : Type} {cc_ : Prop} {d_ : Decidable cc_} {s : ByteArray} (hs : cc_ → (s.size < 281474976710656)) {e_ : _} {f_ : _ → Option β} {Q_ : β → Prop} (hd : ¬ cc_ → f_ e_ = f_ (isNameF s)) (k_ : Ok (f_ (isNameF s)) Q_) : Ok (Option.bind (@ite _ cc_ d_ (p_plot_IsName s) (some e_)) f_) Q_ := ok_short (fun hc__ => t_plot_IsName (hs hc__)) hd k_
theorem t_ref3_IsName {s : ByteArray} (hs : s.size < 281474976710656) : p_ref3_IsName s = some (isNameF s) := by
  apply ok_val
  unfold p_ref3_IsName
  apply ok_esc
  refine ok_for s.size (fun i _ => ∀ j < i, nameCh s j = true) (by intro j h; omega) ?_ ?_
  · intro i x hi hI
    (try dsimp only); (repeat' (first | (with_reducible apply ok_guard; case h => (first | assumption | omega | (simp; done) | (simp; omega) | (and_intros <;> first | omega | (intro _; omega)) | (simp only [Bool.or_eq_true, Bool.and_eq_true, Bool.not_eq_true', Bool.not_eq_true, Bool.not_eq_false', Bool.not_eq_false, Bool.or_eq_false_iff, Bool.and_eq_false_iff, decide_eq_true_eq, decide_eq_false_iff_not, Bool.not_not, beq_iff_eq, bne_iff_ne] at *; omega))) | (with_reducible apply ok_guard) | (with_reducible apply ok_if <;> intro _) | (with_reducible apply ok_some) | (with_reducible apply ok_esc) | (with_reducible apply ok_then))); (all_goals try dsimp only); (all_goals try (exfalso; omega))
    · rename_i h1 h2
      exact (isNameF_no hi (by simp [nameCh] at h2 ⊢; omega)).symm
    · rename_i h1 h2
      exact ⟨rfl, all_lt hI (by simp [nameCh] at h2 ⊢; omega)⟩
  · intro x hI
    (try dsimp only); (repeat' (first | (with_reducible apply s_ref3_within; case hd => (intro hc; simp only [Bool.not_not, Bool.not_eq_true, Bool.not_eq_false'] at hc; simp only [hc, Bool.true_or, Bool.false_and, Bool.not_true, Bool.not_false, Bool.or_true, Bool.and_false])) | (with_reducible apply o_ref3_within <;> try first | assumption | omega) | (with_reducible apply ok_guard; case h => (first | assumption | omega | (simp; done) | (simp; omega) | (and_intros <;> first | omega | (intro _; omega)) | (simp only [Bool.or_eq_true, Bool.and_eq_true, Bool.not_eq_true', Bool.not_eq_true, Bool.not_eq_false', Bool.not_eq_false, Bool.or_eq_false_iff, Bool.and_eq_false_iff, decide_eq_true_eq, decide_eq_false_iff_not, Bool.not_not, beq_iff_eq, bne_iff_ne] at *; omega))) | (with_reducible apply ok_guard) | (with_reducible apply ok_if <;> intro _) | (with_reducible apply ok_some) | (with_reducible apply ok_esc) | (with_reducible apply ok_then))); (all_goals try dsimp only); (all_goals try (exfalso; omega))
    rw [isNameF, decide_eq_true hI, Bool.true_and]
theorem o_ref3_IsName {s : ByteArray} (hs : s.size < 281474976710656) {Q_ : _ → Prop} (k_ : Q_ (isNameF s)) : Ok (p_ref3_IsName s) Q_ := ok_of (t_ref3_IsName hs) k_
theorem s_ref3_IsName {β : Type} {cc_ : Prop} {d_ : Decidable cc_} {s : ByteArray} (hs : cc_ → (s.size < 281474976710656)) {e_ : _} {f_ : _ → Option β} {Q_ : β → Prop} (hd : ¬ cc_ → f_ e_ = f_ (isNameF s)) (k_ : Ok (f_ (isNameF s)) Q_) : Ok (Option.bind (@ite _ cc_ d_ (p_ref3_IsName s) (some e_)) f_) Q_ := ok_short (fun hc__ => t_ref3_IsName (hs hc__)) hd k_
/-- the panel's memory is that of a value -/
def Fits (p : TPanel) : Prop := p.Kinds.length < 281474976710656 ∧ p.Slots.length < 281474976710656 ∧ p.Marks.length < 281474976710656 ∧ ∀ i < p.Kinds.length, (p.Kinds.getD i default).Name.size < 281474976710656
noncomputable def kindFault (l : List TBoardKind) (i : Nat) : Int :=
  let k := l.getD i default
  if (!isNameF k.Name) = true then 5
  else if (!(decide (1 ≤ k.W) && decide (k.W ≤ 1000000)) || !(decide (1 ≤ k.H) && decide (k.H ≤ 1000000))) = true then 1
  else if (decide (0 < (i : Int)) && (Op.bytesLess k.Name.toList (l.getD ((i : Int) - 1).toNat default).Name.toList || decide (k.Name = (l.getD ((i : Int) - 1).toNat default).Name))) = true then 8 else 0
noncomputable def kindsF (l : List TBoardKind) : Int := if 50 < (l.length : Int) then 2 else faultF l.length (kindFault l)
theorem kindsF_0 {l : List TBoardKind} (h : kindsF l = 0) : l.length ≤ 50 ∧ ∀ i < l.length, 1 ≤ (l.getD i default).W ∧ (l.getD i default).W ≤ 1000000 ∧ 1 ≤ (l.getD i default).H ∧ (l.getD i default).H ≤ 1000000 := by
  rw [kindsF] at h
  by_cases c : 50 < (l.length : Int)
  · rw [if_pos c] at h; cases h
  · rw [if_neg c, faultF_eq0] at h
    refine ⟨by omega, fun i hi => ?_⟩
    have := h i hi
    simp only [kindFault] at this
    by_cases c1 : (!isNameF (l.getD i default).Name) = true
    · rw [if_pos c1] at this; cases this
    · rw [if_neg c1] at this
      by_cases c2 : (!(decide (1 ≤ (l.getD i default).W) && decide ((l.getD i default).W ≤ 1000000)) || !(decide (1 ≤ (l.getD i default).H) && decide ((l.getD i default).H ≤ 1000000))) = true
      · rw [if_pos c2] at this; cases this
      · simp at c2; simp; omega
theorem kindsF_at {l : List TBoardKind} {i : Nat} {v : Int} (c : ¬ 50 < (l.length : Int)) (hi : i < l.length) (hI : ∀ j < i, kindFault l j = 0) (h : kindFault l i = v) (hv : v ≠ 0) : v = kindsF l := by
  rw [kindsF, if_neg c, faultF_at hi (by rw [h]; exact hv) hI, h]
noncomputable def kindF (p : TPanel) (s : ByteArray) : Int := firstF p.Kinds.length fun i => decide ((p.Kinds.getD i default).Name = s)
def sizeF (k : TBoardKind) (q : Int) : Int × Int := if q.tmod 2 = 1 then (k.H, k.W) else (k.W, k.H)
noncomputable def boardF (p : TPanel) (s : ByteArray) : TBoardKind := p.Kinds.getD (kindF p s).toNat default
noncomputable def cellF (p : TPanel) (s : TSlot) : TRect :=
  { X0 := s.At.X, Y0 := s.At.Y, X1 := s.At.X + (sizeF (boardF p s.Board) s.Quarters).1, Y1 := s.At.Y + (sizeF (boardF p s.Board) s.Quarters).2 }
def apartF (a b : TRect) (gap : Int) : Bool := decide (a.X1 + gap ≤ b.X0) || decide (b.X1 + gap ≤ a.X0) || decide (a.Y1 + gap ≤ b.Y0) || decide (b.Y1 + gap ≤ a.Y0)
theorem t_panel_checkKinds {l : List TBoardKind} (h : ∀ i < l.length, (l.getD i default).Name.size < 281474976710656) : p_panel_checkKinds l = some (kindsF l) := by
  apply ok_val
  unfold p_panel_checkKinds
  (try dsimp only); (repeat' (first | (with_reducible apply ok_guard; case h => (first | assumption | omega | (simp; done) | (simp; omega) | (and_intros <;> first | omega | (intro _; omega)) | (simp only [Bool.or_eq_true, Bool.and_eq_true, Bool.not_eq_true', Bool.not_eq_true, Bool.not_eq_false', Bool.not_eq_false, Bool.or_eq_false_iff, Bool.and_eq_false_iff, decide_eq_true_eq, decide_eq_false_iff_not, Bool.not_not, beq_iff_eq, bne_iff_ne] at *; omega))) | (with_reducible apply ok_guard) | (with_reducible apply ok_if <;> intro _) | (with_reducible apply ok_some) | (with_reducible apply ok_esc) | (with_reducible apply ok_then))); (all_goals try dsimp only); (all_goals try (exfalso; omega))
  · rw [kindsF, if_pos ‹_›]
  rename_i c0
  refine ok_for l.length (fun i _ => ∀ j < i, kindFault l j = 0) (by intro j h; omega) ?_ ?_
  · intro i x hi hI
    have hs := h i hi
    simp only [Int.toNat_natCast]
    (try dsimp only); (repeat' (first | (with_reducible apply s_plot_IsName; case hd => (intro hc; simp only [Bool.not_not, Bool.not_eq_true, Bool.not_eq_false'] at hc; simp only [hc, Bool.true_or, Bool.false_and, Bool.not_true, Bool.not_false, Bool.or_true, Bool.and_false])) | (with_reducible apply s_panel_within; case hd => (intro hc; simp only [Bool.not_not, Bool.not_eq_true, Bool.not_eq_false'] at hc; simp only [hc, Bool.true_or, Bool.false_and, Bool.not_true, Bool.not_false, Bool.or_true, Bool.and_false])) | (with_reducible apply o_plot_IsName <;> try first | assumption | omega) | (with_reducible apply o_panel_within <;> try first | assumption | omega) | (with_reducible apply ok_guard; case h => (first | assumption | omega | (simp; done) | (simp; omega) | (and_intros <;> first | omega | (intro _; omega)) | (simp only [Bool.or_eq_true, Bool.and_eq_true, Bool.not_eq_true', Bool.not_eq_true, Bool.not_eq_false', Bool.not_eq_false, Bool.or_eq_false_iff, Bool.and_eq_false_iff, decide_eq_true_eq, decide_eq_false_iff_not, Bool.not_not, beq_iff_eq, bne_iff_ne] at *; omega))) | (with_reducible apply ok_guard) | (with_reducible apply ok_if <;> intro _) | (with_reducible apply ok_some) | (with_reducible apply ok_esc) | (with_reducible apply ok_then))); (all_goals try dsimp only); (all_goals try (exfalso; omega))
    all_goals first | (with_reducible apply kindsF_at c0 hi hI _ (by decide)); simp only [kindFault, *, if_true, if_false] | (refine ⟨rfl, all_lt hI ?_⟩; simp only [kindFault, *, if_true, if_false]) | trace_state
  · intro x hI
    (try dsimp only); (repeat' (first | (with_reducible apply ok_guard; case h => (first | assumption | omega | (simp; done) | (simp; omega) | (and_intros <;> first | omega | (intro _; omega)) | (simp only [Bool.or_eq_true, Bool.and_eq_true, Bool.not_eq_true', Bool.not_eq_true, Bool.not_eq_false', Bool.not_eq_false, Bool.or_eq_false_iff, Bool.and_eq_false_iff, decide_eq_true_eq, decide_eq_false_iff_not, Bool.not_not, beq_iff_eq, bne_iff_ne] at *; omega))) | (with_reducible apply ok_guard) | (with_reducible apply ok_if <;> intro _) | (with_reducible apply ok_some) | (with_reducible apply ok_esc) | (with_reducible apply ok_then))); (all_goals try dsimp only); (all_goals try (exfalso; omega))
    rw [kindsF, if_neg c0, faultF_0 hI]
theorem o_panel_checkKinds {l : List TBoardKind} (h : ∀ i < l.length, (l.getD i default).Name.size < 281474976710656) {Q_ : _ → Prop} (k_ : Q_ (kindsF l)) : Ok (p_panel_checkKinds l) Q_ := ok_of (t_panel_checkKinds h) k_
theorem s_panel_checkKinds {β : Type} {cc_ : Prop} {d_ : Decidable cc_} {l : List TBoardKind} (h : cc_ → (∀ i < l.length, (l.getD i default).Name.size < 281474976710656)) {e_ : _} {f_ : _ → Option β} {Q_ : β → Prop} (hd : ¬ cc_ → f_ e_ = f_ (kindsF l)) (k_ : Ok (f_ (kindsF l)) Q_) : Ok (Option.bind (@ite _ cc_ d_ (p_panel_checkKinds l) (some e_)) f_) Q_ := ok_short (fun hc__ => t_panel_checkKinds (h hc__)) hd k_
theorem t_slices_IndexFunc_Rect {l : List TRect} {f : TRect → Option Bool} {g : Nat → Bool} (hl : l.length < 281474976710656) (hf : ∀ i < l.length, f (l.getD i default) = some (g i)) : p_slices_IndexFunc_Rect l f = some (firstF l.length g) := by
  apply ok_val
  unfold p_slices_IndexFunc_Rect
  (try dsimp only); (repeat' (first | (with_reducible apply ok_guard; case h => (first | assumption | omega | (simp; done) | (simp; omega) | (and_intros <;> first | omega | (intro _; omega)) | (simp only [Bool.or_eq_true, Bool.and_eq_true, Bool.not_eq_true', Bool.not_eq_true, Bool.not_eq_false', Bool.not_eq_false, Bool.or_eq_false_iff, Bool.and_eq_false_iff, decide_eq_true_eq, decide_eq_false_iff_not, Bool.not_not, beq_iff_eq, bne_iff_ne] at *; omega))) | (with_reducible apply ok_guard) | (with_reducible apply ok_if <;> intro _) | (with_reducible apply ok_some) | (with_reducible apply ok_esc) | (with_reducible apply ok_then))); (all_goals try dsimp only); (all_goals try (exfalso; omega))
  refine ok_for l.length (fun i _ => ∀ j < i, g j = false) (by intro j h; omega) ?_ ?_
  · intro i x hi hI
    simp only [Int.toNat_natCast]
    (try dsimp only); (repeat' (first | (with_reducible apply ok_guard; case h => (first | assumption | omega | (simp; done) | (simp; omega) | (and_intros <;> first | omega | (intro _; omega)) | (simp only [Bool.or_eq_true, Bool.and_eq_true, Bool.not_eq_true', Bool.not_eq_true, Bool.not_eq_false', Bool.not_eq_false, Bool.or_eq_false_iff, Bool.and_eq_false_iff, decide_eq_true_eq, decide_eq_false_iff_not, Bool.not_not, beq_iff_eq, bne_iff_ne] at *; omega))) | (with_reducible apply ok_guard) | (with_reducible apply ok_if <;> intro _) | (with_reducible apply ok_some) | (with_reducible apply ok_esc) | (with_reducible apply ok_then))); (all_goals try dsimp only); (all_goals try (exfalso; omega))
    refine ok_of (hf i hi) ?_
    (try dsimp only); (repeat' (first | (with_reducible apply ok_guard; case h => (first | assumption | omega | (simp; done) | (simp; omega) | (and_intros <;> first | omega | (intro _; omega)) | (simp only [Bool.or_eq_true, Bool.and_eq_true, Bool.not_eq_true', Bool.not_eq_true, Bool.not_eq_false', Bool.not_eq_false, Bool.or_eq_false_iff, Bool.and_eq_false_iff, decide_eq_true_eq, decide_eq_false_iff_not, Bool.not_not, beq_iff_eq, bne_iff_ne] at *; omega))) | (with_reducible apply ok_guard) | (with_reducible apply ok_if <;> intro _) | (with_reducible apply ok_some) | (with_reducible apply ok_esc) | (with_reducible apply ok_then))); (all_goals try dsimp only); (all_goals try (exfalso; omega))
    · rw [firstF_at hi ‹_› hI]
    · exact ⟨rfl, all_lt hI (by simpa using ‹¬ g i = true›)⟩
  · intro x hI
    (try dsimp only); (repeat' (first | (with_reducible apply ok_guard; case h => (first | assumption | omega | (simp; done) | (simp; omega) | (and_intros <;> first | omega | (intro _; omega)) | (simp only [Bool.or_eq_true, Bool.and_eq_true, Bool.not_eq_true', Bool.not_eq_true, Bool.not_eq_false', Bool.not_eq_false, Bool.or_eq_false_iff, Bool.and_eq_false_iff, decide_eq_true_eq, decide_eq_false_iff_not, Bool.not_not, beq_iff_eq, bne_iff_ne] at *; omega))) | (with_reducible apply ok_guard) | (with_reducible apply ok_if <;> intro _) | (with_reducible apply ok_some) | (with_reducible apply ok_esc) | (with_reducible apply ok_then))); (all_goals try dsimp only); (all_goals try (exfalso; omega))
    rw [firstF_none hI]
theorem o_slices_IndexFunc_Rect {l : List TRect} {f : TRect → Option Bool} {g : Nat → Bool} (hl : l.length < 281474976710656) (hf : ∀ i < l.length, f (l.getD i default) = some (g i)) {Q_ : _ → Prop} (k_ : Q_ (firstF l.length g)) : Ok (p_slices_IndexFunc_Rect l f) Q_ := ok_of (t_slices_IndexFunc_Rect hl hf) k_
theorem s_slices_IndexFunc_Rect {β : Type} {cc_ : Prop} {d_ : Decidable cc_} {l : List TRect} {f : TRect → Option Bool} {g : Nat → Bool} (hl : cc_ → (l.length < 281474976710656)) (hf : cc_ → (∀ i < l.length, f (l.getD i default) = some (g i))) {e_ : _} {f_ : _ → Option β} {Q_ : β → Prop} (hd : ¬ cc_ → f_ e_ = f_ (firstF l.length g)) (k_ : Ok (f_ (firstF l.length g)) Q_) : Ok (Option.bind (@ite _ cc_ d_ (p_slices_IndexFunc_Rect l f) (some e_)) f_) Q_ := ok_short (fun hc__ => t_slices_IndexFunc_Rect (hl hc__) (hf hc__)) hd k_
theorem t_slices_IndexFunc_Point {l : List TPoint} {f : TPoint → Option Bool} {g : Nat → Bool} (hl : l.length < 281474976710656) (hf : ∀ i < l.length, f (l.getD i default) = some (g i)) : p_slices_IndexFunc_Point l f = some (firstF l.length g) := by
  apply ok_val
  unfold p_slices_IndexFunc_Point
  (try dsimp only); (repeat' (first | (with_reducible apply ok_guard; case h => (first | assumption | omega | (simp; done) | (simp; omega) | (and_intros <;> first | omega | (intro _; omega)) | (simp only [Bool.or_eq_true, Bool.and_eq_true, Bool.not_eq_true', Bool.not_eq_true, Bool.not_eq_false', Bool.not_eq_false, Bool.or_eq_false_iff, Bool.and_eq_false_iff, decide_eq_true_eq, decide_eq_false_iff_not, Bool.not_not, beq_iff_eq, bne_iff_ne] at *; omega))) | (with_reducible apply ok_guard) | (with_reducible apply ok_if <;> intro _) | (with_reducible apply ok_some) | (with_reducible apply ok_esc) | (with_reducible apply ok_then))); (all_goals try dsimp only); (all_goals try (exfalso; omega))
  refine ok_for l.length (fun i _ => ∀ j < i, g j = false) (by intro j h; omega) ?_ ?_
  · intro i x hi hI
    simp only [Int.toNat_natCast]
    (try dsimp only); (repeat' (first | (with_reducible apply ok_guard; case h => (first | assumption | omega | (simp; done) | (simp; omega) | (and_intros <;> first | omega | (intro _; omega)) | (simp only [Bool.or_eq_true, Bool.and_eq_true, Bool.not_eq_true', Bool.not_eq_true, Bool.not_eq_false', Bool.not_eq_false, Bool.or_eq_false_iff, Bool.and_eq_false_iff, decide_eq_true_eq, decide_eq_false_iff_not, Bool.not_not, beq_iff_eq, bne_iff_ne] at *; omega))) | (with_reducible apply ok_guard) | (with_reducible apply ok_if <;> intro _) | (with_reducible apply ok_some) | (with_reducible apply ok_esc) | (with_reducible apply ok_then))); (all_goals try dsimp only); (all_goals try (exfalso; omega))
    refine ok_of (hf i hi) ?_
    (try dsimp only); (repeat' (first | (with_reducible apply ok_guard; case h => (first | assumption | omega | (simp; done) | (simp; omega) | (and_intros <;> first | omega | (intro _; omega)) | (simp only [Bool.or_eq_true, Bool.and_eq_true, Bool.not_eq_true', Bool.not_eq_true, Bool.not_eq_false', Bool.not_eq_false, Bool.or_eq_false_iff, Bool.and_eq_false_iff, decide_eq_true_eq, decide_eq_false_iff_not, Bool.not_not, beq_iff_eq, bne_iff_ne] at *; omega))) | (with_reducible apply ok_guard) | (with_reducible apply ok_if <;> intro _) | (with_reducible apply ok_some) | (with_reducible apply ok_esc) | (with_reducible apply ok_then))); (all_goals try dsimp only); (all_goals try (exfalso; omega))
    · rw [firstF_at hi ‹_› hI]
    · exact ⟨rfl, all_lt hI (by simpa using ‹¬ g i = true›)⟩
  · intro x hI
    (try dsimp only); (repeat' (first | (with_reducible apply ok_guard; case h => (first | assumption | omega | (simp; done) | (simp; omega) | (and_intros <;> first | omega | (intro _; omega)) | (simp only [Bool.or_eq_true, Bool.and_eq_true, Bool.not_eq_true', Bool.not_eq_true, Bool.not_eq_false', Bool.not_eq_false, Bool.or_eq_false_iff, Bool.and_eq_false_iff, decide_eq_true_eq, decide_eq_false_iff_not, Bool.not_not, beq_iff_eq, bne_iff_ne] at *; omega))) | (with_reducible apply ok_guard) | (with_reducible apply ok_if <;> intro _) | (with_reducible apply ok_some) | (with_reducible apply ok_esc) | (with_reducible apply ok_then))); (all_goals try dsimp only); (all_goals try (exfalso; omega))
    rw [firstF_none hI]
theorem o_slices_IndexFunc_Point {l : List TPoint} {f : TPoint → Option Bool} {g : Nat → Bool} (hl : l.length < 281474976710656) (hf : ∀ i < l.length, f (l.getD i default) = some (g i)) {Q_ : _ → Prop} (k_ : Q_ (firstF l.length g)) : Ok (p_slices_IndexFunc_Point l f) Q_ := ok_of (t_slices_IndexFunc_Point hl hf) k_
theorem s_slices_IndexFunc_Point {β : Type} {cc_ : Prop} {d_ : Decidable cc_} {l : List TPoint} {f : TPoint → Option Bool} {g : Nat → Bool} (hl : cc_ → (l.length < 281474976710656)) (hf : cc_ → (∀ i < l.length, f (l.getD i default) = some (g i))) {e_ : _} {f_ : _ → Option β} {Q_ : β → Prop} (hd : ¬ cc_ → f_ e_ = f_ (firstF l.length g)) (k_ : Ok (f_ (firstF l.length g)) Q_) : Ok (Option.bind (@ite _ cc_ d_ (p_slices_IndexFunc_Point l f) (some e_)) f_) Q_ := ok_short (fun hc__ => t_slices_IndexFunc_Point (hl hc__) (hf hc__)) hd k_
theorem t_slices_IndexFunc_BoardKind {l : List TBoardKind} {f : TBoardKind → Option Bool} {g : Nat → Bool} (hl : l.length < 281474976710656) (hf : ∀ i < l.length, f (l.getD i default) = some (g i)) : p_slices_IndexFunc_BoardKind l f = some (firstF l.length g) := by
  apply ok_val
  unfold p_slices_IndexFunc_BoardKind
  (try dsimp only); (repeat' (first | (with_reducible apply ok_guard; case h => (first | assumption | omega | (simp; done) | (simp; omega) | (and_intros <;> first | omega | (intro _; omega)) | (simp only [Bool.or_eq_true, Bool.and_eq_true, Bool.not_eq_true', Bool.not_eq_true, Bool.not_eq_false', Bool.not_eq_false, Bool.or_eq_false_iff, Bool.and_eq_false_iff, decide_eq_true_eq, decide_eq_false_iff_not, Bool.not_not, beq_iff_eq, bne_iff_ne] at *; omega))) | (with_reducible apply ok_guard) | (with_reducible apply ok_if <;> intro _) | (with_reducible apply ok_some) | (with_reducible apply ok_esc) | (with_reducible apply ok_then))); (all_goals try dsimp only); (all_goals try (exfalso; omega))
  refine ok_for l.length (fun i _ => ∀ j < i, g j = false) (by intro j h; omega) ?_ ?_
  · intro i x hi hI
    simp only [Int.toNat_natCast]
    (try dsimp only); (repeat' (first | (with_reducible apply ok_guard; case h => (first | assumption | omega | (simp; done) | (simp; omega) | (and_intros <;> first | omega | (intro _; omega)) | (simp only [Bool.or_eq_true, Bool.and_eq_true, Bool.not_eq_true', Bool.not_eq_true, Bool.not_eq_false', Bool.not_eq_false, Bool.or_eq_false_iff, Bool.and_eq_false_iff, decide_eq_true_eq, decide_eq_false_iff_not, Bool.not_not, beq_iff_eq, bne_iff_ne] at *; omega))) | (with_reducible apply ok_guard) | (with_reducible apply ok_if <;> intro _) | (with_reducible apply ok_some) | (with_reducible apply ok_esc) | (with_reducible apply ok_then))); (all_goals try dsimp only); (all_goals try (exfalso; omega))
    refine ok_of (hf i hi) ?_
    (try dsimp only); (repeat' (first | (with_reducible apply ok_guard; case h => (first | assumption | omega | (simp; done) | (simp; omega) | (and_intros <;> first | omega | (intro _; omega)) | (simp only [Bool.or_eq_true, Bool.and_eq_true, Bool.not_eq_true', Bool.not_eq_true, Bool.not_eq_false', Bool.not_eq_false, Bool.or_eq_false_iff, Bool.and_eq_false_iff, decide_eq_true_eq, decide_eq_false_iff_not, Bool.not_not, beq_iff_eq, bne_iff_ne] at *; omega))) | (with_reducible apply ok_guard) | (with_reducible apply ok_if <;> intro _) | (with_reducible apply ok_some) | (with_reducible apply ok_esc) | (with_reducible apply ok_then))); (all_goals try dsimp only); (all_goals try (exfalso; omega))
    · rw [firstF_at hi ‹_› hI]
    · exact ⟨rfl, all_lt hI (by simpa using ‹¬ g i = true›)⟩
  · intro x hI
    (try dsimp only); (repeat' (first | (with_reducible apply ok_guard; case h => (first | assumption | omega | (simp; done) | (simp; omega) | (and_intros <;> first | omega | (intro _; omega)) | (simp only [Bool.or_eq_true, Bool.and_eq_true, Bool.not_eq_true', Bool.not_eq_true, Bool.not_eq_false', Bool.not_eq_false, Bool.or_eq_false_iff, Bool.and_eq_false_iff, decide_eq_true_eq, decide_eq_false_iff_not, Bool.not_not, beq_iff_eq, bne_iff_ne] at *; omega))) | (with_reducible apply ok_guard) | (with_reducible apply ok_if <;> intro _) | (with_reducible apply ok_some) | (with_reducible apply ok_esc) | (with_reducible apply ok_then))); (all_goals try dsimp only); (all_goals try (exfalso; omega))
    rw [firstF_none hI]
theorem o_slices_IndexFunc_BoardKind {l : List TBoardKind} {f : TBoardKind → Option Bool} {g : Nat → Bool} (hl : l.length < 281474976710656) (hf : ∀ i < l.length, f (l.getD i default) = some (g i)) {Q_ : _ → Prop} (k_ : Q_ (firstF l.length g)) : Ok (p_slices_IndexFunc_BoardKind l f) Q_ := ok_of (t_slices_IndexFunc_BoardKind hl hf) k_
theorem s_slices_IndexFunc_BoardKind {β : Type} {cc_ : Prop} {d_ : Decidable cc_} {l : List TBoardKind} {f : TBoardKind → Option Bool} {g : Nat → Bool} (hl : cc_ → (l.length < 281474976710656)) (hf : cc_ → (∀ i < l.length, f (l.getD i default) = some (g i))) {e_ : _} {f_ : _ → Option β} {Q_ : β → Prop} (hd : ¬ cc_ → f_ e_ = f_ (firstF l.length g)) (k_ : Ok (f_ (firstF l.length g)) Q_) : Ok (Option.bind (@ite _ cc_ d_ (p_slices_IndexFunc_BoardKind l f) (some e_)) f_) Q_ := ok_short (fun hc__ => t_slices_IndexFunc_BoardKind (hl hc__) (hf hc__)) hd k_
theorem t_slices_ContainsFunc_Rect {l : List TRect} {f : TRect → Option Bool} {g : Nat → Bool} (hl : l.length < 281474976710656) (hf : ∀ i < l.length, f (l.getD i default) = some (g i)) : p_slices_ContainsFunc_Rect l f = some (decide (0 ≤ firstF l.length g)) := by
  apply ok_val
  unfold p_slices_ContainsFunc_Rect
  (try dsimp only); (repeat' (first | (with_reducible apply ok_guard; case h => (first | assumption | omega | (simp; done) | (simp; omega) | (and_intros <;> first | omega | (intro _; omega)) | (simp only [Bool.or_eq_true, Bool.and_eq_true, Bool.not_eq_true', Bool.not_eq_true, Bool.not_eq_false', Bool.not_eq_false, Bool.or_eq_false_iff, Bool.and_eq_false_iff, decide_eq_true_eq, decide_eq_false_iff_not, Bool.not_not, beq_iff_eq, bne_iff_ne] at *; omega))) | (with_reducible apply ok_guard) | (with_reducible apply ok_if <;> intro _) | (with_reducible apply ok_some) | (with_reducible apply ok_esc) | (with_reducible apply ok_then))); (all_goals try dsimp only); (all_goals try (exfalso; omega))
  refine o_slices_IndexFunc_Rect hl hf ?_
  (try dsimp only); (repeat' (first | (with_reducible apply ok_guard; case h => (first | assumption | omega | (simp; done) | (simp; omega) | (and_intros <;> first | omega | (intro _; omega)) | (simp only [Bool.or_eq_true, Bool.and_eq_true, Bool.not_eq_true', Bool.not_eq_true, Bool.not_eq_false', Bool.not_eq_false, Bool.or_eq_false_iff, Bool.and_eq_false_iff, decide_eq_true_eq, decide_eq_false_iff_not, Bool.not_not, beq_iff_eq, bne_iff_ne] at *; omega))) | (with_reducible apply ok_guard) | (with_reducible apply ok_if <;> intro _) | (with_reducible apply ok_some) | (with_reducible apply ok_esc) | (with_reducible apply ok_then))); (all_goals try dsimp only); (all_goals try (exfalso; omega))
theorem o_slices_ContainsFunc_Rect {l : List TRect} {f : TRect → Option Bool} {g : Nat → Bool} (hl : l.length < 281474976710656) (hf : ∀ i < l.length, f (l.getD i default) = some (g i)) {Q_ : _ → Prop} (k_ : Q_ (decide (0 ≤ firstF l.length g))) : Ok (p_slices_ContainsFunc_Rect l f) Q_ := ok_of (t_slices_ContainsFunc_Rect hl hf) k_
theorem s_slices_ContainsFunc_Rect {β : Type} {cc_ : Prop} {d_ : Decidable cc_} {l : List TRect} {f : TRect → Option Bool} {g : Nat → Bool} (hl : cc_ → (l.length < 281474976710656)) (hf : cc_ → (∀ i < l.length, f (l.getD i default) = some (g i))) {e_ : _} {f_ : _ → Option β} {Q_ : β → Prop} (hd : ¬ cc_ → f_ e_ = f_ (decide (0 ≤ firstF l.length g))) (k_ : Ok (f_ (decide (0 ≤ firstF l.length g))) Q_) : Ok (Option.bind (@ite _ cc_ d_ (p_slices_ContainsFunc_Rect l f) (some e_)) f_) Q_ := ok_short (fun hc__ => t_slices_ContainsFunc_Rect (hl hc__) (hf hc__)) hd k_
theorem t_slices_Index_Point {l : List TPoint} {q : TPoint} (hl : l.length < 281474976710656) : p_slices_Index_Point l q = some (firstF l.length fun i => decide (l.getD i default = q)) := by
  apply ok_val
  unfold p_slices_Index_Point
  (try dsimp only); (repeat' (first | (with_reducible apply ok_guard; case h => (first | assumption | omega | (simp; done) | (simp; omega) | (and_intros <;> first | omega | (intro _; omega)) | (simp only [Bool.or_eq_true, Bool.and_eq_true, Bool.not_eq_true', Bool.not_eq_true, Bool.not_eq_false', Bool.not_eq_false, Bool.or_eq_false_iff, Bool.and_eq_false_iff, decide_eq_true_eq, decide_eq_false_iff_not, Bool.not_not, beq_iff_eq, bne_iff_ne] at *; omega))) | (with_reducible apply ok_guard) | (with_reducible apply ok_if <;> intro _) | (with_reducible apply ok_some) | (with_reducible apply ok_esc) | (with_reducible apply ok_then))); (all_goals try dsimp only); (all_goals try (exfalso; omega))
  refine ok_for l.length (fun i _ => ∀ j < i, decide (l.getD j default = q) = false) (by intro j h; omega) ?_ ?_
  · intro i x hi hI
    simp only [Int.toNat_natCast]
    (try dsimp only); (repeat' (first | (with_reducible apply ok_guard; case h => (first | assumption | omega | (simp; done) | (simp; omega) | (and_intros <;> first | omega | (intro _; omega)) | (simp only [Bool.or_eq_true, Bool.and_eq_true, Bool.not_eq_true', Bool.not_eq_true, Bool.not_eq_false', Bool.not_eq_false, Bool.or_eq_false_iff, Bool.and_eq_false_iff, decide_eq_true_eq, decide_eq_false_iff_not, Bool.not_not, beq_iff_eq, bne_iff_ne] at *; omega))) | (with_reducible apply ok_guard) | (with_reducible apply ok_if <;> intro _) | (with_reducible apply ok_some) | (with_reducible apply ok_esc) | (with_reducible apply ok_then))); (all_goals try dsimp only); (all_goals try (exfalso; omega))
    · rw [firstF_at hi (by simp [‹q = _›]) hI]
    · exact ⟨rfl, all_lt hI (by have := ‹¬ q = _›; exact decide_eq_false fun h => this h.symm)⟩
  · intro x hI
    (try dsimp only); (repeat' (first | (with_reducible apply ok_guard; case h => (first | assumption | omega | (simp; done) | (simp; omega) | (and_intros <;> first | omega | (intro _; omega)) | (simp only [Bool.or_eq_true, Bool.and_eq_true, Bool.not_eq_true', Bool.not_eq_true, Bool.not_eq_false', Bool.not_eq_false, Bool.or_eq_false_iff, Bool.and_eq_false_iff, decide_eq_true_eq, decide_eq_false_iff_not, Bool.not_not, beq_iff_eq, bne_iff_ne] at *; omega))) | (with_reducible apply ok_guard) | (with_reducible apply ok_if <;> intro _) | (with_reducible apply ok_some) | (with_reducible apply ok_esc) | (with_reducible apply ok_then))); (all_goals try dsimp only); (all_goals try (exfalso; omega))
    rw [firstF_none hI]
theorem o_slices_Index_Point {l : List TPoint} {q : TPoint} (hl : l.length < 281474976710656) {Q_ : _ → Prop} (k_ : Q_ (firstF l.length fun i => decide (l.getD i default = q))) : Ok (p_slices_Index_Point l q) Q_ := ok_of (t_slices_Index_Point hl) k_
theorem s_slices_Index_Point {β : Type} {cc_ : Prop} {d_ : Decidable cc_} {l : List TPoint} {q : TPoint} (hl : cc_ → (l.length < 281474976710656)) {e_ : _} {f_ : _ → Option β} {Q_ : β → Prop} (hd : ¬ cc_ → f_ e_ = f_ (firstF l.length fun i => decide (l.getD i default = q))) (k_ : Ok (f_ (firstF l.length fun i => decide (l.getD i default = q))) Q_) : Ok (Option.bind (@ite _ cc_ d_ (p_slices_Index_Point l q) (some e_)) f_) Q_ := ok_short (fun hc__ => t_slices_Index_Point (hl hc__)) hd k_
theorem t_slices_Contains_Point {l : List TPoint} {q : TPoint} (hl : l.length < 281474976710656) : p_slices_Contains_Point l q = some (decide (0 ≤ firstF l.length fun i => decide (l.getD i default = q))) := by
  apply ok_val
  unfold p_slices_Contains_Point
  (try dsimp only); (repeat' (first | (with_reducible apply s_slices_Index_Point; case hd => (intro hc; simp only [Bool.not_not, Bool.not_eq_true, Bool.not_eq_false'] at hc; simp only [hc, Bool.true_or, Bool.false_and, Bool.not_true, Bool.not_false, Bool.or_true, Bool.and_false])) | (with_reducible apply o_slices_Index_Point <;> try first | assumption | omega) | (with_reducible apply ok_guard; case h => (first | assumption | omega | (simp; done) | (simp; omega) | (and_intros <;> first | omega | (intro _; omega)) | (simp only [Bool.or_eq_true, Bool.and_eq_true, Bool.not_eq_true', Bool.not_eq_true, Bool.not_eq_false', Bool.not_eq_false, Bool.or_eq_false_iff, Bool.and_eq_false_iff, decide_eq_true_eq, decide_eq_false_iff_not, Bool.not_not, beq_iff_eq, bne_iff_ne] at *; omega))) | (with_reducible apply ok_guard) | (with_reducible apply ok_if <;> intro _) | (with_reducible apply ok_some) | (with_reducible apply ok_esc) | (with_reducible apply ok_then))); (all_goals try dsimp only); (all_goals try (exfalso; omega))
theorem o_slices_Contains_Point {l : List TPoint} {q : TPoint} (hl : l.length < 281474976710656) {Q_ : _ → Prop} (k_ : Q_ (decide (0 ≤ firstF l.length fun i => decide (l.getD i default = q)))) : Ok (p_slices_Contains_Point l q) Q_ := ok_of (t_slices_Contains_Point hl) k_
theorem s_slices_Contains_Point {β : Type} {cc_ : Prop} {d_ : Decidable cc_} {l : List TPoint} {q : TPoint} (hl : cc_ → (l.length < 281474976710656)) {e_ : _} {f_ : _ → Option β} {Q_ : β → Prop} (hd : ¬ cc_ → f_ e_ = f_ (decide (0 ≤ firstF l.length fun i => decide (l.getD i default = q)))) (k_ : Ok (f_ (decide (0 ≤ firstF l.length fun i => decide (l.getD i default = q)))) Q_) : Ok (Option.bind (@ite _ cc_ d_ (p_slices_Contains_Point l q) (some e_)) f_) Q_ := ok_short (fun hc__ => t_slices_Contains_Point (hl hc__)) hd k_
theorem t_panel_kindAt {p : TPanel} {s : ByteArray} (h : p.Kinds.length < 281474976710656) : p_panel_kindAt p s = some (kindF p s) := by
  apply ok_val
  unfold p_panel_kindAt
  (try dsimp only); (repeat' (first | (with_reducible apply ok_guard; case h => (first | assumption | omega | (simp; done) | (simp; omega) | (and_intros <;> first | omega | (intro _; omega)) | (simp only [Bool.or_eq_true, Bool.and_eq_true, Bool.not_eq_true', Bool.not_eq_true, Bool.not_eq_false', Bool.not_eq_false, Bool.or_eq_false_iff, Bool.and_eq_false_iff, decide_eq_true_eq, decide_eq_false_iff_not, Bool.not_not, beq_iff_eq, bne_iff_ne] at *; omega))) | (with_reducible apply ok_guard) | (with_reducible apply ok_if <;> intro _) | (with_reducible apply ok_some) | (with_reducible apply ok_esc) | (with_reducible apply ok_then))); (all_goals try dsimp only); (all_goals try (exfalso; omega))
  refine o_slices_IndexFunc_BoardKind h (fun i hi => rfl) ?_
  (try dsimp only); (repeat' (first | (with_reducible apply ok_guard; case h => (first | assumption | omega | (simp; done) | (simp; omega) | (and_intros <;> first | omega | (intro _; omega)) | (simp only [Bool.or_eq_true, Bool.and_eq_true, Bool.not_eq_true', Bool.not_eq_true, Bool.not_eq_false', Bool.not_eq_false, Bool.or_eq_false_iff, Bool.and_eq_false_iff, decide_eq_true_eq, decide_eq_false_iff_not, Bool.not_not, beq_iff_eq, bne_iff_ne] at *; omega))) | (with_reducible apply ok_guard) | (with_reducible apply ok_if <;> intro _) | (with_reducible apply ok_some) | (with_reducible apply ok_esc) | (with_reducible apply ok_then))); (all_goals try dsimp only); (all_goals try (exfalso; omega))
  rfl
theorem o_panel_kindAt {p : TPanel} {s : ByteArray} (h : p.Kinds.length < 281474976710656) {Q_ : _ → Prop} (k_ : Q_ (kindF p s)) : Ok (p_panel_kindAt p s) Q_ := ok_of (t_panel_kindAt h) k_
theorem s_panel_kindAt {β : Type} {cc_ : Prop} {d_ : Decidable cc_} {p : TPanel} {s : ByteArray} (h : cc_ → (p.Kinds.length < 281474976710656)) {e_ : _} {f_ : _ → Option β} {Q_ : β → Prop} (hd : ¬ cc_ → f_ e_ = f_ (kindF p s)) (k_ : Ok (f_ (kindF p s)) Q_) : Ok (Option.bind (@ite _ cc_ d_ (p_panel_kindAt p s) (some e_)) f_) Q_ := ok_short (fun hc__ => t_panel_kindAt (h hc__)) hd k_
theorem t_ref9_kind {p : TPanel} {s : ByteArray} (h : p.Kinds.length < 281474976710656) : p_ref9_kind p s = some (kindF p s) := by
  apply ok_val
  unfold p_ref9_kind
  (try dsimp only); (repeat' (first | (with_reducible apply ok_guard; case h => (first | assumption | omega | (simp; done) | (simp; omega) | (and_intros <;> first | omega | (intro _; omega)) | (simp only [Bool.or_eq_true, Bool.and_eq_true, Bool.not_eq_true', Bool.not_eq_true, Bool.not_eq_false', Bool.not_eq_false, Bool.or_eq_false_iff, Bool.and_eq_false_iff, decide_eq_true_eq, decide_eq_false_iff_not, Bool.not_not, beq_iff_eq, bne_iff_ne] at *; omega))) | (with_reducible apply ok_guard) | (with_reducible apply ok_if <;> intro _) | (with_reducible apply ok_some) | (with_reducible apply ok_esc) | (with_reducible apply ok_then))); (all_goals try dsimp only); (all_goals try (exfalso; omega))
  refine ok_for p.Kinds.length (fun i _ => ∀ j < i, decide ((p.Kinds.getD j default).Name = s) = false) (by intro j h; omega) ?_ ?_
  · intro i x hi hI
    simp only [Int.toNat_natCast]
    (try dsimp only); (repeat' (first | (with_reducible apply ok_guard; case h => (first | assumption | omega | (simp; done) | (simp; omega) | (and_intros <;> first | omega | (intro _; omega)) | (simp only [Bool.or_eq_true, Bool.and_eq_true, Bool.not_eq_true', Bool.not_eq_true, Bool.not_eq_false', Bool.not_eq_false, Bool.or_eq_false_iff, Bool.and_eq_false_iff, decide_eq_true_eq, decide_eq_false_iff_not, Bool.not_not, beq_iff_eq, bne_iff_ne] at *; omega))) | (with_reducible apply ok_guard) | (with_reducible apply ok_if <;> intro _) | (with_reducible apply ok_some) | (with_reducible apply ok_esc) | (with_reducible apply ok_then))); (all_goals try dsimp only); (all_goals try (exfalso; omega))
    · rw [kindF, firstF_at hi (by simpa using ‹_ = s›) hI]
    · exact ⟨rfl, all_lt hI (by simpa using ‹¬ _ = s›)⟩
  · intro x hI
    (try dsimp only); (repeat' (first | (with_reducible apply ok_guard; case h => (first | assumption | omega | (simp; done) | (simp; omega) | (and_intros <;> first | omega | (intro _; omega)) | (simp only [Bool.or_eq_true, Bool.and_eq_true, Bool.not_eq_true', Bool.not_eq_true, Bool.not_eq_false', Bool.not_eq_false, Bool.or_eq_false_iff, Bool.and_eq_false_iff, decide_eq_true_eq, decide_eq_false_iff_not, Bool.not_not, beq_iff_eq, bne_iff_ne] at *; omega))) | (with_reducible apply ok_guard) | (with_reducible apply ok_if <;> intro _) | (with_reducible apply ok_some) | (with_reducible apply ok_esc) | (with_reducible apply ok_then))); (all_goals try dsimp only); (all_goals try (exfalso; omega))
    rw [kindF, firstF_none hI]
theorem o_ref9_kind {p : TPanel} {s : ByteArray} (h : p.Kinds.length < 281474976710656) {Q_ : _ → Prop} (k_ : Q_ (kindF p s)) : Ok (p_ref9_kind p s) Q_ := ok_of (t_ref9_kind h) k_
theorem s_ref9_kind {β : Type} {cc_ : Prop} {d_ : Decidable cc_} {p : TPanel} {s : ByteArray} (h : cc_ → (p.Kinds.length < 281474976710656)) {e_ : _} {f_ : _ → Option β} {Q_ : β → Prop} (hd : ¬ cc_ → f_ e_ = f_ (kindF p s)) (k_ : Ok (f_ (kindF p s)) Q_) : Ok (Option.bind (@ite _ cc_ d_ (p_ref9_kind p s) (some e_)) f_) Q_ := ok_short (fun hc__ => t_ref9_kind (h hc__)) hd k_
theorem t_panel_sizeOf {k : TBoardKind} {q : Int} : p_panel_sizeOf k q = some (sizeF k q) := by
  apply ok_val
  unfold p_panel_sizeOf
  (try dsimp only); (repeat' (first | (with_reducible apply ok_guard; case h => (first | assumption | omega | (simp; done) | (simp; omega) | (and_intros <;> first | omega | (intro _; omega)) | (simp only [Bool.or_eq_true, Bool.and_eq_true, Bool.not_eq_true', Bool.not_eq_true, Bool.not_eq_false', Bool.not_eq_false, Bool.or_eq_false_iff, Bool.and_eq_false_iff, decide_eq_true_eq, decide_eq_false_iff_not, Bool.not_not, beq_iff_eq, bne_iff_ne] at *; omega))) | (with_reducible apply ok_guard) | (with_reducible apply ok_if <;> intro _) | (with_reducible apply ok_some) | (with_reducible apply ok_esc) | (with_reducible apply ok_then))); (all_goals try dsimp only); (all_goals try (exfalso; omega))
  · rw [sizeF, if_pos ‹_›]
  · rw [sizeF, if_neg ‹_›]
theorem o_panel_sizeOf {k : TBoardKind} {q : Int} {Q_ : _ → Prop} (k_ : Q_ (sizeF k q)) : Ok (p_panel_sizeOf k q) Q_ := ok_of (t_panel_sizeOf ) k_
theorem s_panel_sizeOf {β : Type} {cc_ : Prop} {d_ : Decidable cc_} {k : TBoardKind} {q : Int} {e_ : _} {f_ : _ → Option β} {Q_ : β → Prop} (hd : ¬ cc_ → f_ e_ = f_ (sizeF k q)) (k_ : Ok (f_ (sizeF k q)) Q_) : Ok (Option.bind (@ite _ cc_ d_ (p_panel_sizeOf k q) (some e_)) f_) Q_ := ok_short (fun hc__ => t_panel_sizeOf ) hd k_
theorem t_ref9_sizeOf {k : TBoardKind} {q : Int} : p_ref9_sizeOf k q = some (sizeF k q) := by
  apply ok_val
  unfold p_ref9_sizeOf
  (try dsimp only); (repeat' (first | (with_reducible apply ok_guard; case h => (first | assumption | omega | (simp; done) | (simp; omega) | (and_intros <;> first | omega | (intro _; omega)) | (simp only [Bool.or_eq_true, Bool.and_eq_true, Bool.not_eq_true', Bool.not_eq_true, Bool.not_eq_false', Bool.not_eq_false, Bool.or_eq_false_iff, Bool.and_eq_false_iff, decide_eq_true_eq, decide_eq_false_iff_not, Bool.not_not, beq_iff_eq, bne_iff_ne] at *; omega))) | (with_reducible apply ok_guard) | (with_reducible apply ok_if <;> intro _) | (with_reducible apply ok_some) | (with_reducible apply ok_esc) | (with_reducible apply ok_then))); (all_goals try dsimp only); (all_goals try (exfalso; omega))
  · rw [sizeF, if_pos ‹_›]
  · rw [sizeF, if_neg ‹_›]
theorem o_ref9_sizeOf {k : TBoardKind} {q : Int} {Q_ : _ → Prop} (k_ : Q_ (sizeF k q)) : Ok (p_ref9_sizeOf k q) Q_ := ok_of (t_ref9_sizeOf ) k_
theorem s_ref9_sizeOf {β : Type} {cc_ : Prop} {d_ : Decidable cc_} {k : TBoardKind} {q : Int} {e_ : _} {f_ : _ → Option β} {Q_ : β → Prop} (hd : ¬ cc_ → f_ e_ = f_ (sizeF k q)) (k_ : Ok (f_ (sizeF k q)) Q_) : Ok (Option.bind (@ite _ cc_ d_ (p_ref9_sizeOf k q) (some e_)) f_) Q_ := ok_short (fun hc__ => t_ref9_sizeOf ) hd k_
theorem kindF_lt (p : TPanel) (s : ByteArray) : -1 ≤ kindF p s ∧ kindF p s < p.Kinds.length := firstF_range _ _
/-- what was checked of a panel before its slots are looked at -/
structure Rgs (p : TPanel) : Prop where
  w1 : 1 ≤ p.W
  w2 : p.W ≤ 1000000
  h1 : 1 ≤ p.H
  h2 : p.H ≤ 1000000
  r1 : 0 ≤ p.Rail
  r2 : p.Rail ≤ 1000000
  g1 : 0 ≤ p.Gap
  g2 : p.Gap ≤ 1000000
structure Opn (p : TPanel) : Prop extends Rgs p where
  kn : p.Kinds.length ≤ 50
  ks : ∀ i < p.Kinds.length, 1 ≤ (p.Kinds.getD i default).W ∧ (p.Kinds.getD i default).W ≤ 1000000 ∧ 1 ≤ (p.Kinds.getD i default).H ∧ (p.Kinds.getD i default).H ≤ 1000000
theorem Opn.board {p : TPanel} (o : Opn p) {s : ByteArray} (h : 0 ≤ kindF p s) : 1 ≤ (boardF p s).W ∧ (boardF p s).W ≤ 1000000 ∧ 1 ≤ (boardF p s).H ∧ (boardF p s).H ≤ 1000000 :=
  o.ks _ (by have := kindF_lt p s; omega)
theorem Opn.size {p : TPanel} (o : Opn p) {s : ByteArray} (h : 0 ≤ kindF p s) (q : Int) : 1 ≤ (sizeF (boardF p s) q).1 ∧ (sizeF (boardF p s) q).1 ≤ 1000000 ∧ 1 ≤ (sizeF (boardF p s) q).2 ∧ (sizeF (boardF p s) q).2 ≤ 1000000 := by
  have := o.board h
  by_cases c : q.tmod 2 = 1
  · simp only [sizeF, if_pos c]; omega
  · simp only [sizeF, if_neg c]; omega
def Plc (s : TSlot) : Prop := (0 ≤ s.At.X ∧ s.At.X ≤ 1000000) ∧ 0 ≤ s.At.Y ∧ s.At.Y ≤ 1000000
theorem t_panel_cellOf {p : TPanel} {s : TSlot} (o : Opn p) (h : 0 ≤ kindF p s.Board) (hs : Plc s) : p_panel_cellOf p s = some (cellF p s) := by
  apply ok_val
  unfold p_panel_cellOf
  have h1 := kindF_lt p s.Board
  have h2 := o.size h s.Quarters
  obtain ⟨⟨h3, h4⟩, h5, h6⟩ := hs
  have h7 := o.kn
  have hh : p.Kinds.length < 281474976710656 := by omega
  simp only [boardF] at h2
  (try dsimp only); (repeat' (first | (with_reducible apply s_panel_kindAt; case hd => (intro hc; simp only [Bool.not_not, Bool.not_eq_true, Bool.not_eq_false'] at hc; simp only [hc, Bool.true_or, Bool.false_and, Bool.not_true, Bool.not_false, Bool.or_true, Bool.and_false])) | (with_reducible apply s_ref9_kind; case hd => (intro hc; simp only [Bool.not_not, Bool.not_eq_true, Bool.not_eq_false'] at hc; simp only [hc, Bool.true_or, Bool.false_and, Bool.not_true, Bool.not_false, Bool.or_true, Bool.and_false])) | (with_reducible apply s_panel_sizeOf; case hd => (intro hc; simp only [Bool.not_not, Bool.not_eq_true, Bool.not_eq_false'] at hc; simp only [hc, Bool.true_or, Bool.false_and, Bool.not_true, Bool.not_false, Bool.or_true, Bool.and_false])) | (with_reducible apply s_ref9_sizeOf; case hd => (intro hc; simp only [Bool.not_not, Bool.not_eq_true, Bool.not_eq_false'] at hc; simp only [hc, Bool.true_or, Bool.false_and, Bool.not_true, Bool.not_false, Bool.or_true, Bool.and_false])) | (with_reducible apply o_panel_kindAt <;> try first | assumption | omega) | (with_reducible apply o_ref9_kind <;> try first | assumption | omega) | (with_reducible apply o_panel_sizeOf <;> try first | assumption | omega) | (with_reducible apply o_ref9_sizeOf <;> try first | assumption | omega) | (with_reducible apply ok_guard; case h => (first | assumption | omega | (simp; done) | (simp; omega) | (and_intros <;> first | omega | (intro _; omega)) | (simp only [Bool.or_eq_true, Bool.and_eq_true, Bool.not_eq_true', Bool.not_eq_true, Bool.not_eq_false', Bool.not_eq_false, Bool.or_eq_false_iff, Bool.and_eq_false_iff, decide_eq_true_eq, decide_eq_false_iff_not, Bool.not_not, beq_iff_eq, bne_iff_ne] at *; omega))) | (with_reducible apply ok_guard) | (with_reducible apply ok_if <;> intro _) | (with_reducible apply ok_some) | (with_reducible apply ok_esc) | (with_reducible apply ok_then))); (all_goals try dsimp only); (all_goals try (exfalso; omega))
  rfl
theorem o_panel_cellOf {p : TPanel} {s : TSlot} (o : Opn p) (h : 0 ≤ kindF p s.Board) (hs : Plc s) {Q_ : _ → Prop} (k_ : Q_ (cellF p s)) : Ok (p_panel_cellOf p s) Q_ := ok_of (t_panel_cellOf o h hs) k_
theorem s_panel_cellOf {β : Type} {cc_ : Prop} {d_ : Decidable cc_} {p : TPanel} {s : TSlot} (o : cc_ → (Opn p)) (h : cc_ → (0 ≤ kindF p s.Board)) (hs : cc_ → (Plc s)) {e_ : _} {f_ : _ → Option β} {Q_ : β → Prop} (hd : ¬ cc_ → f_ e_ = f_ (cellF p s)) (k_ : Ok (f_ (cellF p s)) Q_) : Ok (Option.bind (@ite _ cc_ d_ (p_panel_cellOf p s) (some e_)) f_) Q_ := ok_short (fun hc__ => t_panel_cellOf (o hc__) (h hc__) (hs hc__)) hd k_
theorem t_ref9_cellOf {p : TPanel} {s : TSlot} (o : Opn p) (h : 0 ≤ kindF p s.Board) (hs : Plc s) : p_ref9_cellOf p s = some (cellF p s) := by
  apply ok_val
  unfold p_ref9_cellOf
  have h1 := kindF_lt p s.Board
  have h2 := o.size h s.Quarters
  obtain ⟨⟨h3, h4⟩, h5, h6⟩ := hs
  have h7 := o.kn
  have hh : p.Kinds.length < 281474976710656 := by omega
  simp only [boardF] at h2
  (try dsimp only); (repeat' (first | (with_reducible apply s_panel_kindAt; case hd => (intro hc; simp only [Bool.not_not, Bool.not_eq_true, Bool.not_eq_false'] at hc; simp only [hc, Bool.true_or, Bool.false_and, Bool.not_true, Bool.not_false, Bool.or_true, Bool.and_false])) | (with_reducible apply s_ref9_kind; case hd => (intro hc; simp only [Bool.not_not, Bool.not_eq_true, Bool.not_eq_false'] at hc; simp only [hc, Bool.true_or, Bool.false_and, Bool.not_true, Bool.not_false, Bool.or_true, Bool.and_false])) | (with_reducible apply s_panel_sizeOf; case hd => (intro hc; simp only [Bool.not_not, Bool.not_eq_true, Bool.not_eq_false'] at hc; simp only [hc, Bool.true_or, Bool.false_and, Bool.not_true, Bool.not_false, Bool.or_true, Bool.and_false])) | (with_reducible apply s_ref9_sizeOf; case hd => (intro hc; simp only [Bool.not_not, Bool.not_eq_true, Bool.not_eq_false'] at hc; simp only [hc, Bool.true_or, Bool.false_and, Bool.not_true, Bool.not_false, Bool.or_true, Bool.and_false])) | (with_reducible apply o_panel_kindAt <;> try first | assumption | omega) | (with_reducible apply o_ref9_kind <;> try first | assumption | omega) | (with_reducible apply o_panel_sizeOf <;> try first | assumption | omega) | (with_reducible apply o_ref9_sizeOf <;> try first | assumption | omega) | (with_reducible apply ok_guard; case h => (first | assumption | omega | (simp; done) | (simp; omega) | (and_intros <;> first | omega | (intro _; omega)) | (simp only [Bool.or_eq_true, Bool.and_eq_true, Bool.not_eq_true', Bool.not_eq_true, Bool.not_eq_false', Bool.not_eq_false, Bool.or_eq_false_iff, Bool.and_eq_false_iff, decide_eq_true_eq, decide_eq_false_iff_not, Bool.not_not, beq_iff_eq, bne_iff_ne] at *; omega))) | (with_reducible apply ok_guard) | (with_reducible apply ok_if <;> intro _) | (with_reducible apply ok_some) | (with_reducible apply ok_esc) | (with_reducible apply ok_then))); (all_goals try dsimp only); (all_goals try (exfalso; omega))
  rfl
theorem o_ref9_cellOf {p : TPanel} {s : TSlot} (o : Opn p) (h : 0 ≤ kindF p s.Board) (hs : Plc s) {Q_ : _ → Prop} (k_ : Q_ (cellF p s)) : Ok (p_ref9_cellOf p s) Q_ := ok_of (t_ref9_cellOf o h hs) k_
theorem s_ref9_cellOf {β : Type} {cc_ : Prop} {d_ : Decidable cc_} {p : TPanel} {s : TSlot} (o : cc_ → (Opn p)) (h : cc_ → (0 ≤ kindF p s.Board)) (hs : cc_ → (Plc s)) {e_ : _} {f_ : _ → Option β} {Q_ : β → Prop} (hd : ¬ cc_ → f_ e_ = f_ (cellF p s)) (k_ : Ok (f_ (cellF p s)) Q_) : Ok (Option.bind (@ite _ cc_ d_ (p_ref9_cellOf p s) (some e_)) f_) Q_ := ok_short (fun hc__ => t_ref9_cellOf (o hc__) (h hc__) (hs hc__)) hd k_
def Small (c : TRect) : Prop := (0 ≤ c.X0 ∧ c.X0 ≤ 2000000) ∧ (0 ≤ c.X1 ∧ c.X1 ≤ 2000000) ∧ (0 ≤ c.Y0 ∧ c.Y0 ≤ 2000000) ∧ 0 ≤ c.Y1 ∧ c.Y1 ≤ 2000000
theorem Opn.small {p : TPanel} (o : Opn p) {s : TSlot} (h : 0 ≤ kindF p s.Board) (hs : Plc s) : Small (cellF p s) := by
  have h2 := o.size h s.Quarters
  obtain ⟨⟨h3, h4⟩, h5, h6⟩ := hs
  simp only [Small, cellF]; omega
theorem t_panel_isApart {a b : TRect} {g : Int} (ha : Small a) (hb : Small b) (h1 : 0 ≤ g) (h2 : g ≤ 1000000) : p_panel_isApart a b g = some (apartF a b g) := by
  apply ok_val
  unfold p_panel_isApart
  obtain ⟨⟨a1, a2⟩, ⟨a3, a4⟩, ⟨a5, a6⟩, a7, a8⟩ := ha
  obtain ⟨⟨b1, b2⟩, ⟨b3, b4⟩, ⟨b5, b6⟩, b7, b8⟩ := hb
  (try dsimp only); (repeat' (first | (with_reducible apply ok_guard; case h => (first | assumption | omega | (simp; done) | (simp; omega) | (and_intros <;> first | omega | (intro _; omega)) | (simp only [Bool.or_eq_true, Bool.and_eq_true, Bool.not_eq_true', Bool.not_eq_true, Bool.not_eq_false', Bool.not_eq_false, Bool.or_eq_false_iff, Bool.and_eq_false_iff, decide_eq_true_eq, decide_eq_false_iff_not, Bool.not_not, beq_iff_eq, bne_iff_ne] at *; omega))) | (with_reducible apply ok_guard) | (with_reducible apply ok_if <;> intro _) | (with_reducible apply ok_some) | (with_reducible apply ok_esc) | (with_reducible apply ok_then))); (all_goals try dsimp only); (all_goals try (exfalso; omega))
  rfl
theorem o_panel_isApart {a b : TRect} {g : Int} (ha : Small a) (hb : Small b) (h1 : 0 ≤ g) (h2 : g ≤ 1000000) {Q_ : _ → Prop} (k_ : Q_ (apartF a b g)) : Ok (p_panel_isApart a b g) Q_ := ok_of (t_panel_isApart ha hb h1 h2) k_
theorem s_panel_isApart {β : Type} {cc_ : Prop} {d_ : Decidable cc_} {a b : TRect} {g : Int} (ha : cc_ → (Small a)) (hb : cc_ → (Small b)) (h1 : cc_ → (0 ≤ g)) (h2 : cc_ → (g ≤ 1000000)) {e_ : _} {f_ : _ → Option β} {Q_ : β → Prop} (hd : ¬ cc_ → f_ e_ = f_ (apartF a b g)) (k_ : Ok (f_ (apartF a b g)) Q_) : Ok (Option.bind (@ite _ cc_ d_ (p_panel_isApart a b g) (some e_)) f_) Q_ := ok_short (fun hc__ => t_panel_isApart (ha hc__) (hb hc__) (h1 hc__) (h2 hc__)) hd k_
theorem t_ref9_apart {a b : TRect} {g : Int} (ha : Small a) (hb : Small b) (h1 : 0 ≤ g) (h2 : g ≤ 1000000) : p_ref9_apart a b g = some (apartF a b g) := by
  apply ok_val
  unfold p_ref9_apart
  obtain ⟨⟨a1, a2⟩, ⟨a3, a4⟩, ⟨a5, a6⟩, a7, a8⟩ := ha
  obtain ⟨⟨b1, b2⟩, ⟨b3, b4⟩, ⟨b5, b6⟩, b7, b8⟩ := hb
  (try dsimp only); (repeat' (first | (with_reducible apply ok_guard; case h => (first | assumption | omega | (simp; done) | (simp; omega) | (and_intros <;> first | omega | (intro _; omega)) | (simp only [Bool.or_eq_true, Bool.and_eq_true, Bool.not_eq_true', Bool.not_eq_true, Bool.not_eq_false', Bool.not_eq_false, Bool.or_eq_false_iff, Bool.and_eq_false_iff, decide_eq_true_eq, decide_eq_false_iff_not, Bool.not_not, beq_iff_eq, bne_iff_ne] at *; omega))) | (with_reducible apply ok_guard) | (with_reducible apply ok_if <;> intro _) | (with_reducible apply ok_some) | (with_reducible apply ok_esc) | (with_reducible apply ok_then))); (all_goals try dsimp only); (all_goals try (exfalso; omega))
  rfl
theorem o_ref9_apart {a b : TRect} {g : Int} (ha : Small a) (hb : Small b) (h1 : 0 ≤ g) (h2 : g ≤ 1000000) {Q_ : _ → Prop} (k_ : Q_ (apartF a b g)) : Ok (p_ref9_apart a b g) Q_ := ok_of (t_ref9_apart ha hb h1 h2) k_
theorem s_ref9_apart {β : Type} {cc_ : Prop} {d_ : Decidable cc_} {a b : TRect} {g : Int} (ha : cc_ → (Small a)) (hb : cc_ → (Small b)) (h1 : cc_ → (0 ≤ g)) (h2 : cc_ → (g ≤ 1000000)) {e_ : _} {f_ : _ → Option β} {Q_ : β → Prop} (hd : ¬ cc_ → f_ e_ = f_ (apartF a b g)) (k_ : Ok (f_ (apartF a b g)) Q_) : Ok (Option.bind (@ite _ cc_ d_ (p_ref9_apart a b g) (some e_)) f_) Q_ := ok_short (fun hc__ => t_ref9_apart (ha hc__) (hb hc__) (h1 hc__) (h2 hc__)) hd k_
def onF (p : TPanel) (c : TRect) : Bool := decide (p.Rail ≤ c.X0) && decide (p.Rail ≤ c.Y0) && decide (c.X0 ≤ p.W) && decide (c.Y0 ≤ p.H) && decide (c.X1 ≤ p.W - p.Rail) && decide (c.Y1 ≤ p.H - p.Rail)
def inF (c : TRect) (q : TPoint) : Bool := decide (c.X0 < q.X) && decide (q.X < c.X1) && decide (c.Y0 < q.Y) && decide (q.Y < c.Y1)
def onPanelF (p : TPanel) (q : TPoint) : Bool := decide (0 ≤ q.X) && decide (q.X ≤ p.W) && (decide (0 ≤ q.Y) && decide (q.Y ≤ p.H))
theorem t_panel_isOn {p : TPanel} {c : TRect} (o : Rgs p) : p_panel_isOn p c = some (onF p c) := by
  apply ok_val
  unfold p_panel_isOn
  obtain ⟨o1, o2, o3, o4, o5, o6, _, _⟩ := o
  (try dsimp only); (repeat' (first | (with_reducible apply ok_guard; case h => (first | assumption | omega | (simp; done) | (simp; omega) | (and_intros <;> first | omega | (intro _; omega)) | (simp only [Bool.or_eq_true, Bool.and_eq_true, Bool.not_eq_true', Bool.not_eq_true, Bool.not_eq_false', Bool.not_eq_false, Bool.or_eq_false_iff, Bool.and_eq_false_iff, decide_eq_true_eq, decide_eq_false_iff_not, Bool.not_not, beq_iff_eq, bne_iff_ne] at *; omega))) | (with_reducible apply ok_guard) | (with_reducible apply ok_if <;> intro _) | (with_reducible apply ok_some) | (with_reducible apply ok_esc) | (with_reducible apply ok_then))); (all_goals try dsimp only); (all_goals try (exfalso; omega))
  rfl
theorem o_panel_isOn {p : TPanel} {c : TRect} (o : Rgs p) {Q_ : _ → Prop} (k_ : Q_ (onF p c)) : Ok (p_panel_isOn p c) Q_ := ok_of (t_panel_isOn o) k_
theorem s_panel_isOn {β : Type} {cc_ : Prop} {d_ : Decidable cc_} {p : TPanel} {c : TRect} (o : cc_ → (Rgs p)) {e_ : _} {f_ : _ → Option β} {Q_ : β → Prop} (hd : ¬ cc_ → f_ e_ = f_ (onF p c)) (k_ : Ok (f_ (onF p c)) Q_) : Ok (Option.bind (@ite _ cc_ d_ (p_panel_isOn p c) (some e_)) f_) Q_ := ok_short (fun hc__ => t_panel_isOn (o hc__)) hd k_
theorem t_panel_isInside {c : TRect} {q : TPoint} : p_panel_isInside c q = some (inF c q) := rfl
theorem o_panel_isInside {c : TRect} {q : TPoint} {Q_ : _ → Prop} (k_ : Q_ (inF c q)) : Ok (p_panel_isInside c q) Q_ := ok_of (t_panel_isInside ) k_
theorem s_panel_isInside {β : Type} {cc_ : Prop} {d_ : Decidable cc_} {c : TRect} {q : TPoint} {e_ : _} {f_ : _ → Option β} {Q_ : β → Prop} (hd : ¬ cc_ → f_ e_ = f_ (inF c q)) (k_ : Ok (f_ (inF c q)) Q_) : Ok (Option.bind (@ite _ cc_ d_ (p_panel_isInside c q) (some e_)) f_) Q_ := ok_short (fun hc__ => t_panel_isInside ) hd k_
theorem t_panel_open_1 {c : TRect} {q : TPoint} : p_panel_open_1 c q = some (inF c q) := by
  apply ok_val
  unfold p_panel_open_1
  (try dsimp only); (repeat' (first | (with_reducible apply s_panel_isInside; case hd => (intro hc; simp only [Bool.not_not, Bool.not_eq_true, Bool.not_eq_false'] at hc; simp only [hc, Bool.true_or, Bool.false_and, Bool.not_true, Bool.not_false, Bool.or_true, Bool.and_false])) | (with_reducible apply o_panel_isInside <;> try first | assumption | omega) | (with_reducible apply ok_guard; case h => (first | assumption | omega | (simp; done) | (simp; omega) | (and_intros <;> first | omega | (intro _; omega)) | (simp only [Bool.or_eq_true, Bool.and_eq_true, Bool.not_eq_true', Bool.not_eq_true, Bool.not_eq_false', Bool.not_eq_false, Bool.or_eq_false_iff, Bool.and_eq_false_iff, decide_eq_true_eq, decide_eq_false_iff_not, Bool.not_not, beq_iff_eq, bne_iff_ne] at *; omega))) | (with_reducible apply ok_guard) | (with_reducible apply ok_if <;> intro _) | (with_reducible apply ok_some) | (with_reducible apply ok_esc) | (with_reducible apply ok_then))); (all_goals try dsimp only); (all_goals try (exfalso; omega))
theorem o_panel_open_1 {c : TRect} {q : TPoint} {Q_ : _ → Prop} (k_ : Q_ (inF c q)) : Ok (p_panel_open_1 c q) Q_ := ok_of (t_panel_open_1 ) k_
theorem s_panel_open_1 {β : Type} {cc_ : Prop} {d_ : Decidable cc_} {c : TRect} {q : TPoint} {e_ : _} {f_ : _ → Option β} {Q_ : β → Prop} (hd : ¬ cc_ → f_ e_ = f_ (inF c q)) (k_ : Ok (f_ (inF c q)) Q_) : Ok (Option.bind (@ite _ cc_ d_ (p_panel_open_1 c q) (some e_)) f_) Q_ := ok_short (fun hc__ => t_panel_open_1 ) hd k_
theorem t_panel_cells_1 {d c : TRect} {p : TPanel} (ha : Small c) (hb : Small d) (o : Rgs p) : p_panel_cells_1 d c p = some (!apartF c d p.Gap) := by
  apply ok_val
  unfold p_panel_cells_1
  obtain ⟨o1, o2, o3, o4, o5, o6, _, _⟩ := o
  (try dsimp only); (repeat' (first | (with_reducible apply s_panel_isApart; case hd => (intro hc; simp only [Bool.not_not, Bool.not_eq_true, Bool.not_eq_false'] at hc; simp only [hc, Bool.true_or, Bool.false_and, Bool.not_true, Bool.not_false, Bool.or_true, Bool.and_false])) | (with_reducible apply o_panel_isApart <;> try first | assumption | omega) | (with_reducible apply ok_guard; case h => (first | assumption | omega | (simp; done) | (simp; omega) | (and_intros <;> first | omega | (intro _; omega)) | (simp only [Bool.or_eq_true, Bool.and_eq_true, Bool.not_eq_true', Bool.not_eq_true, Bool.not_eq_false', Bool.not_eq_false, Bool.or_eq_false_iff, Bool.and_eq_false_iff, decide_eq_true_eq, decide_eq_false_iff_not, Bool.not_not, beq_iff_eq, bne_iff_ne] at *; omega))) | (with_reducible apply ok_guard) | (with_reducible apply ok_if <;> intro _) | (with_reducible apply ok_some) | (with_reducible apply ok_esc) | (with_reducible apply ok_then))); (all_goals try dsimp only); (all_goals try (exfalso; omega))
theorem o_panel_cells_1 {d c : TRect} {p : TPanel} (ha : Small c) (hb : Small d) (o : Rgs p) {Q_ : _ → Prop} (k_ : Q_ (!apartF c d p.Gap)) : Ok (p_panel_cells_1 d c p) Q_ := ok_of (t_panel_cells_1 ha hb o) k_
theorem s_panel_cells_1 {β : Type} {cc_ : Prop} {d_ : Decidable cc_} {d c : TRect} {p : TPanel} (ha : cc_ → (Small c)) (hb : cc_ → (Small d)) (o : cc_ → (Rgs p)) {e_ : _} {f_ : _ → Option β} {Q_ : β → Prop} (hd : ¬ cc_ → f_ e_ = f_ (!apartF c d p.Gap)) (k_ : Ok (f_ (!apartF c d p.Gap)) Q_) : Ok (Option.bind (@ite _ cc_ d_ (p_panel_cells_1 d c p) (some e_)) f_) Q_ := ok_short (fun hc__ => t_panel_cells_1 (ha hc__) (hb hc__) (o hc__)) hd k_
theorem t_panel_isOnPanel {p : TPanel} {q : TPoint} : p_panel_isOnPanel p q = some (onPanelF p q) := by
  apply ok_val
  unfold p_panel_isOnPanel
  (try dsimp only); (repeat' (first | (with_reducible apply s_panel_within; case hd => (intro hc; simp only [Bool.not_not, Bool.not_eq_true, Bool.not_eq_false'] at hc; simp only [hc, Bool.true_or, Bool.false_and, Bool.not_true, Bool.not_false, Bool.or_true, Bool.and_false])) | (with_reducible apply o_panel_within <;> try first | assumption | omega) | (with_reducible apply ok_guard; case h => (first | assumption | omega | (simp; done) | (simp; omega) | (and_intros <;> first | omega | (intro _; omega)) | (simp only [Bool.or_eq_true, Bool.and_eq_true, Bool.not_eq_true', Bool.not_eq_true, Bool.not_eq_false', Bool.not_eq_false, Bool.or_eq_false_iff, Bool.and_eq_false_iff, decide_eq_true_eq, decide_eq_false_iff_not, Bool.not_not, beq_iff_eq, bne_iff_ne] at *; omega))) | (with_reducible apply ok_guard) | (with_reducible apply ok_if <;> intro _) | (with_reducible apply ok_some) | (with_reducible apply ok_esc) | (with_reducible apply ok_then))); (all_goals try dsimp only); (all_goals try (exfalso; omega))
  rfl
theorem o_panel_isOnPanel {p : TPanel} {q : TPoint} {Q_ : _ → Prop} (k_ : Q_ (onPanelF p q)) : Ok (p_panel_isOnPanel p q) Q_ := ok_of (t_panel_isOnPanel ) k_
theorem s_panel_isOnPanel {β : Type} {cc_ : Prop} {d_ : Decidable cc_} {p : TPanel} {q : TPoint} {e_ : _} {f_ : _ → Option β} {Q_ : β → Prop} (hd : ¬ cc_ → f_ e_ = f_ (onPanelF p q)) (k_ : Ok (f_ (onPanelF p q)) Q_) : Ok (Option.bind (@ite _ cc_ d_ (p_panel_isOnPanel p q) (some e_)) f_) Q_ := ok_short (fun hc__ => t_panel_isOnPanel ) hd k_
def Lies (p : TPanel) (s : TSlot) : Prop :=
  p.Rail ≤ s.At.X ∧ s.At.X + (sizeF (boardF p s.Board) s.Quarters).1 ≤ p.W - p.Rail ∧ p.Rail ≤ s.At.Y ∧ s.At.Y + (sizeF (boardF p s.Board) s.Quarters).2 ≤ p.H - p.Rail
theorem t_ref9_lies {p : TPanel} {q : TPoint} {w h : Int} (o : Rgs p) (hw : 1 ≤ w ∧ w ≤ 1000000) (hh : 1 ≤ h ∧ h ≤ 1000000) : p_ref9_lies p q w h = some ((decide (p.Rail ≤ q.X) && decide (q.X ≤ p.W - p.Rail - w)) && (decide (p.Rail ≤ q.Y) && decide (q.Y ≤ p.H - p.Rail - h))) := by
  apply ok_val
  unfold p_ref9_lies
  obtain ⟨o1, o2, o3, o4, o5, o6, _, _⟩ := o
  (try dsimp only); (repeat' (first | (with_reducible apply s_ref9_within; case hd => (intro hc; simp only [Bool.not_not, Bool.not_eq_true, Bool.not_eq_false'] at hc; simp only [hc, Bool.true_or, Bool.false_and, Bool.not_true, Bool.not_false, Bool.or_true, Bool.and_false])) | (with_reducible apply o_ref9_within <;> try first | assumption | omega) | (with_reducible apply ok_guard; case h => (first | assumption | omega | (simp; done) | (simp; omega) | (and_intros <;> first | omega | (intro _; omega)) | (simp only [Bool.or_eq_true, Bool.and_eq_true, Bool.not_eq_true', Bool.not_eq_true, Bool.not_eq_false', Bool.not_eq_false, Bool.or_eq_false_iff, Bool.and_eq_false_iff, decide_eq_true_eq, decide_eq_false_iff_not, Bool.not_not, beq_iff_eq, bne_iff_ne] at *; omega))) | (with_reducible apply ok_guard) | (with_reducible apply ok_if <;> intro _) | (with_reducible apply ok_some) | (with_reducible apply ok_esc) | (with_reducible apply ok_then))); (all_goals try dsimp only); (all_goals try (exfalso; omega))
theorem o_ref9_lies {p : TPanel} {q : TPoint} {w h : Int} (o : Rgs p) (hw : 1 ≤ w ∧ w ≤ 1000000) (hh : 1 ≤ h ∧ h ≤ 1000000) {Q_ : _ → Prop} (k_ : Q_ ((decide (p.Rail ≤ q.X) && decide (q.X ≤ p.W - p.Rail - w)) && (decide (p.Rail ≤ q.Y) && decide (q.Y ≤ p.H - p.Rail - h)))) : Ok (p_ref9_lies p q w h) Q_ := ok_of (t_ref9_lies o hw hh) k_
theorem s_ref9_lies {β : Type} {cc_ : Prop} {d_ : Decidable cc_} {p : TPanel} {q : TPoint} {w h : Int} (o : cc_ → (Rgs p)) (hw : cc_ → (1 ≤ w ∧ w ≤ 1000000)) (hh : cc_ → (1 ≤ h ∧ h ≤ 1000000)) {e_ : _} {f_ : _ → Option β} {Q_ : β → Prop} (hd : ¬ cc_ → f_ e_ = f_ ((decide (p.Rail ≤ q.X) && decide (q.X ≤ p.W - p.Rail - w)) && (decide (p.Rail ≤ q.Y) && decide (q.Y ≤ p.H - p.Rail - h)))) (k_ : Ok (f_ ((decide (p.Rail ≤ q.X) && decide (q.X ≤ p.W - p.Rail - w)) && (decide (p.Rail ≤ q.Y) && decide (q.Y ≤ p.H - p.Rail - h)))) Q_) : Ok (Option.bind (@ite _ cc_ d_ (p_ref9_lies p q w h) (some e_)) f_) Q_ := ok_short (fun hc__ => t_ref9_lies (o hc__) (hw hc__) (hh hc__)) hd k_
def slotD (p : TPanel) (i : Nat) : TSlot := p.Slots.getD i default
open Classical in
noncomputable def slotFault (p : TPanel) (i : Nat) : Int :=
  if kindF p (slotD p i).Board < 0 then 5
  else if ¬ ((0 ≤ (slotD p i).Quarters ∧ (slotD p i).Quarters ≤ 3) ∧ Lies p (slotD p i)) then 1
  else if ∃ j, j < i ∧ apartF (cellF p (slotD p i)) (cellF p (slotD p j)) p.Gap = false then 12 else 0
theorem slotFault_5 {p : TPanel} {i : Nat} (h : kindF p (slotD p i).Board < 0) : slotFault p i = 5 := by rw [slotFault, if_pos h]
theorem slotFault_1 {p : TPanel} {i : Nat} (h : ¬ kindF p (slotD p i).Board < 0) (k : ¬ ((0 ≤ (slotD p i).Quarters ∧ (slotD p i).Quarters ≤ 3) ∧ Lies p (slotD p i))) : slotFault p i = 1 := by rw [slotFault, if_neg h, if_pos k]
theorem slotFault_12 {p : TPanel} {i : Nat} (h : ¬ kindF p (slotD p i).Board < 0) (k : (0 ≤ (slotD p i).Quarters ∧ (slotD p i).Quarters ≤ 3) ∧ Lies p (slotD p i)) (e : ∃ j, j < i ∧ apartF (cellF p (slotD p i)) (cellF p (slotD p j)) p.Gap = false) : slotFault p i = 12 := by
  rw [slotFault, if_neg h, if_neg (not_not_intro k), if_pos e]
theorem slotFault_0 {p : TPanel} {i : Nat} (h : ¬ kindF p (slotD p i).Board < 0) (k : (0 ≤ (slotD p i).Quarters ∧ (slotD p i).Quarters ≤ 3) ∧ Lies p (slotD p i)) (e : ¬ ∃ j, j < i ∧ apartF (cellF p (slotD p i)) (cellF p (slotD p j)) p.Gap = false) : slotFault p i = 0 := by
  rw [slotFault, if_neg h, if_neg (not_not_intro k), if_neg e]
/-- a slot that has no fault -/
theorem slot_ok {p : TPanel} {i : Nat} (h : slotFault p i = 0) : 0 ≤ kindF p (slotD p i).Board ∧ ((0 ≤ (slotD p i).Quarters ∧ (slotD p i).Quarters ≤ 3) ∧ Lies p (slotD p i)) ∧ ∀ j < i, apartF (cellF p (slotD p i)) (cellF p (slotD p j)) p.Gap = true := by
  by_cases c : kindF p (slotD p i).Board < 0
  · rw [slotFault_5 c] at h; cases h
  · by_cases k : (0 ≤ (slotD p i).Quarters ∧ (slotD p i).Quarters ≤ 3) ∧ Lies p (slotD p i)
    · refine ⟨by omega, k, fun j hj => ?_⟩
      cases e : apartF (cellF p (slotD p i)) (cellF p (slotD p j)) p.Gap
      · rw [slotFault_12 c k ⟨j, hj, e⟩] at h; cases h
      · rfl
    · rw [slotFault_1 c k] at h; cases h
theorem Opn.plc {p : TPanel} (o : Opn p) {s : TSlot} (h : 0 ≤ kindF p s.Board) (k : Lies p s) : Plc s := by
  have := o.size h s.Quarters
  obtain ⟨k1, k2, k3, k4⟩ := k
  have := o.toRgs
  obtain ⟨o1, o2, o3, o4, o5, o6, _, _⟩ := this
  simp only [Plc]; omega
theorem Opn.slot {p : TPanel} (o : Opn p) {i : Nat} (h : slotFault p i = 0) : 0 ≤ kindF p (slotD p i).Board ∧ Plc (slotD p i) ∧ Small (cellF p (slotD p i)) := by
  obtain ⟨h1, h2, _⟩ := slot_ok h
  exact ⟨h1, o.plc h1 h2.2, o.small h1 (o.plc h1 h2.2)⟩
noncomputable def slotsF (p : TPanel) : Int := if 500 < (p.Slots.length : Int) then 2 else faultF p.Slots.length (slotFault p)
theorem slotsF_at {p : TPanel} {i : Nat} {v : Int} (c : ¬ 500 < (p.Slots.length : Int)) (hi : i < p.Slots.length) (hI : ∀ j < i, slotFault p j = 0) (h : slotFault p i = v) (hv : v ≠ 0) : slotsF p = v := by
  rw [slotsF, if_neg c, faultF_at hi (by rw [h]; exact hv) hI, h]
theorem slotsF_0 {p : TPanel} (h : slotsF p = 0) : p.Slots.length ≤ 500 ∧ ∀ i < p.Slots.length, slotFault p i = 0 := by
  rw [slotsF] at h
  by_cases c : 500 < (p.Slots.length : Int)
  · rw [if_pos c] at h; cases h
  · rw [if_neg c, faultF_eq0] at h; exact ⟨by omega, h⟩
theorem onF_lies {p : TPanel} {s : TSlot} : onF p (cellF p s) = true ↔ (p.Rail ≤ s.At.X ∧ p.Rail ≤ s.At.Y ∧ s.At.X ≤ p.W ∧ s.At.Y ≤ p.H ∧ s.At.X + (sizeF (boardF p s.Board) s.Quarters).1 ≤ p.W - p.Rail ∧ s.At.Y + (sizeF (boardF p s.Board) s.Quarters).2 ≤ p.H - p.Rail) := by
  simp only [onF, Bool.and_eq_true, decide_eq_true_eq, and_assoc]; exact Iff.rfl
theorem getD_map {α β : Type} (f : α → β) (l : List α) (i : Nat) (d : α) (e : β) (h : i < l.length) : (l.map f).getD i e = f (l.getD i d) := by
  simp [List.getD, List.getElem?_map, List.getElem?_eq_getElem h]
theorem getD_take {α : Type} (l : List α) (i n : Nat) (d : α) (h : i < n) : (l.take n).getD i d = l.getD i d := by
  simp [List.getD, List.getElem?_take, h]
theorem take_succ_getD {α : Type} (l : List α) (i : Nat) (d : α) (h : i < l.length) : l.take (i + 1) = l.take i ++ [l.getD i d] := by
  rw [List.take_add_one, List.getElem?_eq_getElem h]; simp [List.getD, List.getElem?_eq_getElem h]
theorem t_panel_cells {p : TPanel} (o : Opn p) : p_panel_cells p = some ((if slotsF p = 0 then p.Slots.map (cellF p) else [], slotsF p)) := by
  apply ok_val
  unfold p_panel_cells
  have org := o.toRgs
  have hk : p.Kinds.length < 281474976710656 := by have := o.kn; omega
  (try dsimp only); (repeat' (first | (with_reducible apply ok_guard; case h => (first | assumption | omega | (simp; done) | (simp; omega) | (and_intros <;> first | omega | (intro _; omega)) | (simp only [Bool.or_eq_true, Bool.and_eq_true, Bool.not_eq_true', Bool.not_eq_true, Bool.not_eq_false', Bool.not_eq_false, Bool.or_eq_false_iff, Bool.and_eq_false_iff, decide_eq_true_eq, decide_eq_false_iff_not, Bool.not_not, beq_iff_eq, bne_iff_ne] at *; omega))) | (with_reducible apply ok_guard) | (with_reducible apply ok_if <;> intro _) | (with_reducible apply ok_some) | (with_reducible apply ok_esc) | (with_reducible apply ok_then))); (all_goals try dsimp only); (all_goals try (exfalso; omega))
  · rename_i c0
    have : slotsF p = 2 := by rw [slotsF, if_pos c0]
    rw [this]; rfl
  rename_i c0
  refine ok_for p.Slots.length (fun i x => x.1 = (p.Slots.take i).map (cellF p) ∧ (∀ j < i, slotFault p j = 0)) ⟨rfl, by intro j h; omega⟩ ?_ ?_
  · rintro i ⟨out, a⟩ hi ⟨ho, hI⟩; dsimp only at ho; subst ho
    simp only [Int.toNat_natCast]
    (try dsimp only); (repeat' (first | (with_reducible apply s_panel_kindAt; case hd => (intro hc; simp only [Bool.not_not, Bool.not_eq_true, Bool.not_eq_false'] at hc; simp only [hc, Bool.true_or, Bool.false_and, Bool.not_true, Bool.not_false, Bool.or_true, Bool.and_false])) | (with_reducible apply s_panel_within; case hd => (intro hc; simp only [Bool.not_not, Bool.not_eq_true, Bool.not_eq_false'] at hc; simp only [hc, Bool.true_or, Bool.false_and, Bool.not_true, Bool.not_false, Bool.or_true, Bool.and_false])) | (with_reducible apply o_panel_kindAt <;> try first | assumption | omega) | (with_reducible apply o_panel_within <;> try first | assumption | omega) | (with_reducible apply ok_guard; case h => (first | assumption | omega | (simp; done) | (simp; omega) | (and_intros <;> first | omega | (intro _; omega)) | (simp only [Bool.or_eq_true, Bool.and_eq_true, Bool.not_eq_true', Bool.not_eq_true, Bool.not_eq_false', Bool.not_eq_false, Bool.or_eq_false_iff, Bool.and_eq_false_iff, decide_eq_true_eq, decide_eq_false_iff_not, Bool.not_not, beq_iff_eq, bne_iff_ne] at *; omega))) | (with_reducible apply ok_guard) | (with_reducible apply ok_if <;> intro _) | (with_reducible apply ok_some) | (with_reducible apply ok_esc) | (with_reducible apply ok_then))); (all_goals try dsimp only); (all_goals try (exfalso; omega))
    · rw [slotsF_at c0 hi hI (slotFault_5 ‹_›) (by decide)]; rfl
    · rw [slotsF_at c0 hi hI (slotFault_1 ‹_› ?_) (by decide)]
      · rfl
      · rename_i h1 h2
        intro h3; have h4 := o.size (Int.not_lt.1 h1) (slotD p i).Quarters; have := o.toRgs; obtain ⟨o1, o2, o3, o4, o5, o6, _, _⟩ := this; simp only [Lies, slotD] at *; (simp only [Bool.or_eq_true, Bool.and_eq_true, Bool.not_eq_true', Bool.not_eq_true, Bool.not_eq_false', Bool.not_eq_false, Bool.or_eq_false_iff, Bool.and_eq_false_iff, decide_eq_true_eq, decide_eq_false_iff_not, Bool.not_not, beq_iff_eq, bne_iff_ne] at h2); omega
    · rename_i h1 h2
      have hk0 := Int.not_lt.1 h1
      have hp : Plc (slotD p i) := by have := o.toRgs; obtain ⟨o1, o2, o3, o4, o5, o6, _, _⟩ := this; simp only [Plc, slotD]; (simp only [Bool.or_eq_true, Bool.and_eq_true, Bool.not_eq_true', Bool.not_eq_true, Bool.not_eq_false', Bool.not_eq_false, Bool.or_eq_false_iff, Bool.and_eq_false_iff, decide_eq_true_eq, decide_eq_false_iff_not, Bool.not_not, beq_iff_eq, bne_iff_ne] at h2); omega
      refine o_panel_cellOf o hk0 hp ?_
      (try dsimp only); (repeat' (first | (with_reducible apply s_panel_isOn; case hd => (intro hc; simp only [Bool.not_not, Bool.not_eq_true, Bool.not_eq_false'] at hc; simp only [hc, Bool.true_or, Bool.false_and, Bool.not_true, Bool.not_false, Bool.or_true, Bool.and_false])) | (with_reducible apply o_panel_isOn <;> try first | assumption | omega) | (with_reducible apply ok_guard; case h => (first | assumption | omega | (simp; done) | (simp; omega) | (and_intros <;> first | omega | (intro _; omega)) | (simp only [Bool.or_eq_true, Bool.and_eq_true, Bool.not_eq_true', Bool.not_eq_true, Bool.not_eq_false', Bool.not_eq_false, Bool.or_eq_false_iff, Bool.and_eq_false_iff, decide_eq_true_eq, decide_eq_false_iff_not, Bool.not_not, beq_iff_eq, bne_iff_ne] at *; omega))) | (with_reducible apply ok_guard) | (with_reducible apply ok_if <;> intro _) | (with_reducible apply ok_some) | (with_reducible apply ok_esc) | (with_reducible apply ok_then))); (all_goals try dsimp only); (all_goals try (exfalso; omega))
      · rename_i h5
        rw [slotsF_at c0 hi hI (slotFault_1 ‹_› ?_) (by decide)]
        · rfl
        · intro h3; rw [Bool.not_eq_true', ← Bool.not_eq_true, onF_lies] at h5; have h4 := o.size hk0 (slotD p i).Quarters;  simp only [Lies, slotD] at *; (simp only [Bool.or_eq_true, Bool.and_eq_true, Bool.not_eq_true', Bool.not_eq_true, Bool.not_eq_false', Bool.not_eq_false, Bool.or_eq_false_iff, Bool.and_eq_false_iff, decide_eq_true_eq, decide_eq_false_iff_not, Bool.not_not, beq_iff_eq, bne_iff_ne] at h2); omega
      · rename_i h5
        have hl : (0 ≤ (slotD p i).Quarters ∧ (slotD p i).Quarters ≤ 3) ∧ Lies p (slotD p i) := by
          rw [Bool.not_eq_true', Bool.not_eq_false, onF_lies] at h5; simp only [Lies, slotD] at *; (simp only [Bool.or_eq_true, Bool.and_eq_true, Bool.not_eq_true', Bool.not_eq_true, Bool.not_eq_false', Bool.not_eq_false, Bool.or_eq_false_iff, Bool.and_eq_false_iff, decide_eq_true_eq, decide_eq_false_iff_not, Bool.not_not, beq_iff_eq, bne_iff_ne] at h2); omega
        have hc : ∀ j < i, ((p.Slots.take i).map (cellF p)).getD j default = cellF p (slotD p j) := fun j hj => by
          rw [getD_map (cellF p) _ _ default default (by rw [List.length_take]; omega), getD_take _ _ _ _ hj]; rfl
        have hn : ((p.Slots.take i).map (cellF p)).length = i := by rw [List.length_map, List.length_take]; omega
        refine o_slices_ContainsFunc_Rect (g := fun j => !apartF (cellF p (slotD p i)) (cellF p (slotD p j)) p.Gap) (by rw [hn]; omega) (fun j hj => ?_) ?_
        · rw [hn] at hj; rw [hc j hj]
          exact t_panel_cells_1 (o.small hk0 hp) (o.slot (hI j hj)).2.2 o.toRgs
        · rw [hn]
          (try dsimp only); (repeat' (first | (with_reducible apply ok_guard; case h => (first | assumption | omega | (simp; done) | (simp; omega) | (and_intros <;> first | omega | (intro _; omega)) | (simp only [Bool.or_eq_true, Bool.and_eq_true, Bool.not_eq_true', Bool.not_eq_true, Bool.not_eq_false', Bool.not_eq_false, Bool.or_eq_false_iff, Bool.and_eq_false_iff, decide_eq_true_eq, decide_eq_false_iff_not, Bool.not_not, beq_iff_eq, bne_iff_ne] at *; omega))) | (with_reducible apply ok_guard) | (with_reducible apply ok_if <;> intro _) | (with_reducible apply ok_some) | (with_reducible apply ok_esc) | (with_reducible apply ok_then))); (all_goals try dsimp only); (all_goals try (exfalso; omega))
          · rename_i h6
            simp only [decide_eq_true_eq, firstF_any, Bool.not_eq_true'] at h6
            rw [slotsF_at c0 hi hI (slotFault_12 ‹_› hl h6) (by decide)]; rfl
          · rename_i h6
            simp only [decide_eq_true_eq, firstF_any, Bool.not_eq_true'] at h6
            refine ⟨rfl, ?_, all_lt hI (slotFault_0 ‹_› hl h6)⟩
            rw [take_succ_getD _ _ default hi, List.map_append]; rfl
  · rintro ⟨out, a⟩ ⟨ho, hI⟩; dsimp only at ho; subst ho
    (try dsimp only); (repeat' (first | (with_reducible apply ok_guard; case h => (first | assumption | omega | (simp; done) | (simp; omega) | (and_intros <;> first | omega | (intro _; omega)) | (simp only [Bool.or_eq_true, Bool.and_eq_true, Bool.not_eq_true', Bool.not_eq_true, Bool.not_eq_false', Bool.not_eq_false, Bool.or_eq_false_iff, Bool.and_eq_false_iff, decide_eq_true_eq, decide_eq_false_iff_not, Bool.not_not, beq_iff_eq, bne_iff_ne] at *; omega))) | (with_reducible apply ok_guard) | (with_reducible apply ok_if <;> intro _) | (with_reducible apply ok_some) | (with_reducible apply ok_esc) | (with_reducible apply ok_then))); (all_goals try dsimp only); (all_goals try (exfalso; omega))
    have : slotsF p = 0 := by rw [slotsF, if_neg c0, faultF_0 hI]
    rw [if_pos this, this, List.take_length]
theorem o_panel_cells {p : TPanel} (o : Opn p) {Q_ : _ → Prop} (k_ : Q_ ((if slotsF p = 0 then p.Slots.map (cellF p) else [], slotsF p))) : Ok (p_panel_cells p) Q_ := ok_of (t_panel_cells o) k_
theorem s_panel_cells {β : Type} {cc_ : Prop} {d_ : Decidable cc_} {p : TPanel} (o : cc_ → (Opn p)) {e_ : _} {f_ : _ → Option β} {Q_ : β → Prop} (hd : ¬ cc_ → f_ e_ = f_ ((if slotsF p = 0 then p.Slots.map (cellF p) else [], slotsF p))) (k_ : Ok (f_ ((if slotsF p = 0 then p.Slots.map (cellF p) else [], slotsF p))) Q_) : Ok (Option.bind (@ite _ cc_ d_ (p_panel_cells p) (some e_)) f_) Q_ := ok_short (fun hc__ => t_panel_cells (o hc__)) hd k_
def markD (p : TPanel) (i : Nat) : TPoint := p.Marks.getD i default
open Classical in
noncomputable def markFault (p : TPanel) (i : Nat) : Int :=
  if onPanelF p (markD p i) = false then 1
  else if ∃ j, j < p.Slots.length ∧ inF (cellF p (slotD p j)) (markD p i) = true then 12
  else if ∃ j, j < i ∧ markD p j = markD p i then 7 else 0
theorem markFault_1 {p : TPanel} {i : Nat} (h : onPanelF p (markD p i) = false) : markFault p i = 1 := by rw [markFault, if_pos h]
theorem markFault_12 {p : TPanel} {i : Nat} (h : ¬ onPanelF p (markD p i) = false) (k : ∃ j, j < p.Slots.length ∧ inF (cellF p (slotD p j)) (markD p i) = true) : markFault p i = 12 := by rw [markFault, if_neg h, if_pos k]
theorem markFault_7 {p : TPanel} {i : Nat} (h : ¬ onPanelF p (markD p i) = false) (k : ¬ ∃ j, j < p.Slots.length ∧ inF (cellF p (slotD p j)) (markD p i) = true) (e : ∃ j, j < i ∧ markD p j = markD p i) : markFault p i = 7 := by rw [markFault, if_neg h, if_neg k, if_pos e]
theorem markFault_0 {p : TPanel} {i : Nat} (h : ¬ onPanelF p (markD p i) = false) (k : ¬ ∃ j, j < p.Slots.length ∧ inF (cellF p (slotD p j)) (markD p i) = true) (e : ¬ ∃ j, j < i ∧ markD p j = markD p i) : markFault p i = 0 := by rw [markFault, if_neg h, if_neg k, if_neg e]
noncomputable def marksF (p : TPanel) : Int := if 10 < (p.Marks.length : Int) then 2 else faultF p.Marks.length (markFault p)
theorem marksF_at {p : TPanel} {i : Nat} {v : Int} (c : ¬ 10 < (p.Marks.length : Int)) (hi : i < p.Marks.length) (hI : ∀ j < i, markFault p j = 0) (h : markFault p i = v) (hv : v ≠ 0) : marksF p = v := by
  rw [marksF, if_neg c, faultF_at hi (by rw [h]; exact hv) hI, h]
def rgsF (p : TPanel) : Bool := (!(decide (1 ≤ p.W) && decide (p.W ≤ 1000000)) || !(decide (1 ≤ p.H) && decide (p.H ≤ 1000000)) || !(decide (0 ≤ p.Rail) && decide (p.Rail ≤ 1000000)) || !(decide (0 ≤ p.Gap) && decide (p.Gap ≤ 1000000)))
theorem rgs_of {p : TPanel} (h : ¬ rgsF p = true) : Rgs p := by
  simp only [rgsF] at h; simp only [Bool.or_eq_true, Bool.and_eq_true, Bool.not_eq_true', Bool.not_eq_true, Bool.not_eq_false', Bool.not_eq_false, Bool.or_eq_false_iff, Bool.and_eq_false_iff, decide_eq_true_eq, decide_eq_false_iff_not, Bool.not_not, beq_iff_eq, bne_iff_ne] at h
  constructor <;> omega
/-- the fault of a panel -/
noncomputable def checkF (p : TPanel) : Int :=
  if rgsF p = true then 1 else if kindsF p.Kinds ≠ 0 then kindsF p.Kinds else if slotsF p ≠ 0 then slotsF p else marksF p
theorem opn_of {p : TPanel} (h : ¬ rgsF p = true) (k : kindsF p.Kinds = 0) : Opn p := { rgs_of h with kn := (kindsF_0 k).1, ks := (kindsF_0 k).2 }
/-- what holds of a panel that has no fault -/
structure Good (p : TPanel) : Prop extends Opn p where
  sn : p.Slots.length ≤ 500
  ss : ∀ i < p.Slots.length, slotFault p i = 0
  mn : p.Marks.length ≤ 10
  ms : ∀ i < p.Marks.length, markFault p i = 0
theorem good_of {p : TPanel} (h : checkF p = 0) : Good p := by
  rw [checkF] at h
  by_cases c1 : rgsF p = true
  · rw [if_pos c1] at h; cases h
  · rw [if_neg c1] at h
    by_cases c2 : kindsF p.Kinds = 0
    · rw [if_neg (not_not_intro c2)] at h
      by_cases c3 : slotsF p = 0
      · rw [if_neg (not_not_intro c3), marksF] at h
        by_cases c4 : 10 < (p.Marks.length : Int)
        · rw [if_pos c4] at h; cases h
        · rw [if_neg c4, faultF_eq0] at h
          exact { opn_of c1 c2 with sn := (slotsF_0 c3).1, ss := (slotsF_0 c3).2, mn := by omega, ms := h }
      · rw [if_pos c3] at h; exact (c3 h).elim
    · rw [if_pos c2] at h; exact (c2 h).elim
noncomputable def openF (p : TPanel) : List TRect × Int := (if checkF p = 0 then p.Slots.map (cellF p) else [], checkF p)
theorem openF_no {p : TPanel} {v : Int} (h : checkF p = v) (hv : v ≠ 0) : ([], v) = openF p := by rw [openF, h, if_neg hv]
theorem t_panel_open {p : TPanel} (f : Fits p) : p_panel_open p = some (openF p) := by
  apply ok_val
  unfold p_panel_open
  obtain ⟨f1, f2, f3, f4⟩ := f
  (try dsimp only); (repeat' (first | (with_reducible apply s_panel_within; case hd => (intro hc; simp only [Bool.not_not, Bool.not_eq_true, Bool.not_eq_false'] at hc; simp only [hc, Bool.true_or, Bool.false_and, Bool.not_true, Bool.not_false, Bool.or_true, Bool.and_false])) | (with_reducible apply s_panel_checkKinds; case hd => (intro hc; simp only [Bool.not_not, Bool.not_eq_true, Bool.not_eq_false'] at hc; simp only [hc, Bool.true_or, Bool.false_and, Bool.not_true, Bool.not_false, Bool.or_true, Bool.and_false])) | (with_reducible apply o_panel_within <;> try first | assumption | omega) | (with_reducible apply o_panel_checkKinds <;> try first | assumption | omega) | (with_reducible apply ok_guard; case h => (first | assumption | omega | (simp; done) | (simp; omega) | (and_intros <;> first | omega | (intro _; omega)) | (simp only [Bool.or_eq_true, Bool.and_eq_true, Bool.not_eq_true', Bool.not_eq_true, Bool.not_eq_false', Bool.not_eq_false, Bool.or_eq_false_iff, Bool.and_eq_false_iff, decide_eq_true_eq, decide_eq_false_iff_not, Bool.not_not, beq_iff_eq, bne_iff_ne] at *; omega))) | (with_reducible apply ok_guard) | (with_reducible apply ok_if <;> intro _) | (with_reducible apply ok_some) | (with_reducible apply ok_esc) | (with_reducible apply ok_then))); (all_goals try dsimp only); (all_goals try (exfalso; omega))
  · rename_i c
    change rgsF p = true at c
    exact openF_no (by rw [checkF, if_pos c]) (by decide)
  · rename_i c c2
    change ¬ rgsF p = true at c
    have o := opn_of c c2
    (try dsimp only); (repeat' (first | (with_reducible apply s_panel_cells; case hd => (intro hc; simp only [Bool.not_not, Bool.not_eq_true, Bool.not_eq_false'] at hc; simp only [hc, Bool.true_or, Bool.false_and, Bool.not_true, Bool.not_false, Bool.or_true, Bool.and_false])) | (with_reducible apply o_panel_cells <;> try first | assumption | omega) | (with_reducible apply ok_guard; case h => (first | assumption | omega | (simp; done) | (simp; omega) | (and_intros <;> first | omega | (intro _; omega)) | (simp only [Bool.or_eq_true, Bool.and_eq_true, Bool.not_eq_true', Bool.not_eq_true, Bool.not_eq_false', Bool.not_eq_false, Bool.or_eq_false_iff, Bool.and_eq_false_iff, decide_eq_true_eq, decide_eq_false_iff_not, Bool.not_not, beq_iff_eq, bne_iff_ne] at *; omega))) | (with_reducible apply ok_guard) | (with_reducible apply ok_if <;> intro _) | (with_reducible apply ok_some) | (with_reducible apply ok_esc) | (with_reducible apply ok_then))); (all_goals try dsimp only); (all_goals try (exfalso; omega))
    · rename_i c3 c4
      change slotsF p = 0 at c3
      refine openF_no ?_ (by decide)
      rw [checkF, if_neg c, if_neg (not_not_intro c2), if_neg (not_not_intro c3), marksF, if_pos c4]
    · rename_i c3 c4
      change slotsF p = 0 at c3
      have ck : checkF p = marksF p := by rw [checkF, if_neg c, if_neg (not_not_intro c2), if_neg (not_not_intro c3)]
      obtain ⟨sn, ss⟩ := slotsF_0 c3
      refine ok_for p.Marks.length (fun i x => ∀ j < i, markFault p j = 0) (by intro j h; omega) ?_ ?_
      · rintro i ⟨a, b⟩ hi hI
        simp only [Int.toNat_natCast]
        (try dsimp only); (repeat' (first | (with_reducible apply s_panel_isOnPanel; case hd => (intro hc; simp only [Bool.not_not, Bool.not_eq_true, Bool.not_eq_false'] at hc; simp only [hc, Bool.true_or, Bool.false_and, Bool.not_true, Bool.not_false, Bool.or_true, Bool.and_false])) | (with_reducible apply o_panel_isOnPanel <;> try first | assumption | omega) | (with_reducible apply ok_guard; case h => (first | assumption | omega | (simp; done) | (simp; omega) | (and_intros <;> first | omega | (intro _; omega)) | (simp only [Bool.or_eq_true, Bool.and_eq_true, Bool.not_eq_true', Bool.not_eq_true, Bool.not_eq_false', Bool.not_eq_false, Bool.or_eq_false_iff, Bool.and_eq_false_iff, decide_eq_true_eq, decide_eq_false_iff_not, Bool.not_not, beq_iff_eq, bne_iff_ne] at *; omega))) | (with_reducible apply ok_guard) | (with_reducible apply ok_if <;> intro _) | (with_reducible apply ok_some) | (with_reducible apply ok_esc) | (with_reducible apply ok_then))); (all_goals try dsimp only); (all_goals try (exfalso; omega))
        · rename_i h1
          simp only [Bool.or_eq_true, Bool.and_eq_true, Bool.not_eq_true', Bool.not_eq_true, Bool.not_eq_false', Bool.not_eq_false, Bool.or_eq_false_iff, Bool.and_eq_false_iff, decide_eq_true_eq, decide_eq_false_iff_not, Bool.not_not, beq_iff_eq, bne_iff_ne] at h1
          exact openF_no (by rw [ck, marksF_at c4 hi hI (markFault_1 h1) (by decide)]) (by decide)
        · rename_i h1
          simp only [Bool.or_eq_true, Bool.and_eq_true, Bool.not_eq_true', Bool.not_eq_true, Bool.not_eq_false', Bool.not_eq_false, Bool.or_eq_false_iff, Bool.and_eq_false_iff, decide_eq_true_eq, decide_eq_false_iff_not, Bool.not_not, beq_iff_eq, bne_iff_ne] at h1
          have h1' : ¬ onPanelF p (markD p i) = false := by rw [Bool.not_eq_false]; exact h1
          rw [if_pos c3]
          refine o_slices_ContainsFunc_Rect (g := fun j => inF (cellF p (slotD p j)) (markD p i)) (by rw [List.length_map]; omega) (fun j hj => ?_) ?_
          · rw [List.length_map] at hj
            rw [getD_map (cellF p) _ _ default default hj]; exact t_panel_open_1
          · rw [List.length_map]
            (try dsimp only); (repeat' (first | (with_reducible apply ok_guard; case h => (first | assumption | omega | (simp; done) | (simp; omega) | (and_intros <;> first | omega | (intro _; omega)) | (simp only [Bool.or_eq_true, Bool.and_eq_true, Bool.not_eq_true', Bool.not_eq_true, Bool.not_eq_false', Bool.not_eq_false, Bool.or_eq_false_iff, Bool.and_eq_false_iff, decide_eq_true_eq, decide_eq_false_iff_not, Bool.not_not, beq_iff_eq, bne_iff_ne] at *; omega))) | (with_reducible apply ok_guard) | (with_reducible apply ok_if <;> intro _) | (with_reducible apply ok_some) | (with_reducible apply ok_esc) | (with_reducible apply ok_then))); (all_goals try dsimp only); (all_goals try (exfalso; omega))
            · rename_i h2
              rw [decide_eq_true_eq, firstF_any] at h2
              exact openF_no (by rw [ck, marksF_at c4 hi hI (markFault_12 h1' h2) (by decide)]) (by decide)
            · rename_i h2
              rw [decide_eq_true_eq, firstF_any] at h2
              have hn : (p.Marks.take i).length = i := by rw [List.length_take]; omega
              have hg : ∀ j < i, (p.Marks.take i).getD j default = markD p j := fun j hj => getD_take _ _ _ _ hj
              (try dsimp only); (repeat' (first | (with_reducible apply ok_guard; case h => (first | assumption | omega | (simp; done) | (simp; omega) | (and_intros <;> first | omega | (intro _; omega)) | (simp only [Bool.or_eq_true, Bool.and_eq_true, Bool.not_eq_true', Bool.not_eq_true, Bool.not_eq_false', Bool.not_eq_false, Bool.or_eq_false_iff, Bool.and_eq_false_iff, decide_eq_true_eq, decide_eq_false_iff_not, Bool.not_not, beq_iff_eq, bne_iff_ne] at *; omega))) | (with_reducible apply ok_guard) | (with_reducible apply ok_if <;> intro _) | (with_reducible apply ok_some) | (with_reducible apply ok_esc) | (with_reducible apply ok_then))); (all_goals try dsimp only); (all_goals try (exfalso; omega))
              refine o_slices_Contains_Point (by omega) ?_
              (try dsimp only); (repeat' (first | (with_reducible apply ok_guard; case h => (first | assumption | omega | (simp; done) | (simp; omega) | (and_intros <;> first | omega | (intro _; omega)) | (simp only [Bool.or_eq_true, Bool.and_eq_true, Bool.not_eq_true', Bool.not_eq_true, Bool.not_eq_false', Bool.not_eq_false, Bool.or_eq_false_iff, Bool.and_eq_false_iff, decide_eq_true_eq, decide_eq_false_iff_not, Bool.not_not, beq_iff_eq, bne_iff_ne] at *; omega))) | (with_reducible apply ok_guard) | (with_reducible apply ok_if <;> intro _) | (with_reducible apply ok_some) | (with_reducible apply ok_esc) | (with_reducible apply ok_then))); (all_goals try dsimp only); (all_goals try (exfalso; omega))
              · rename_i h3
                rw [decide_eq_true_eq, firstF_any, hn] at h3
                obtain ⟨j, hj, h4⟩ := h3
                rw [hg j hj, decide_eq_true_eq] at h4
                exact openF_no (by rw [ck, marksF_at c4 hi hI (markFault_7 h1' h2 ⟨j, hj, h4⟩) (by decide)]) (by decide)
              · rename_i h3
                rw [decide_eq_true_eq, firstF_any, hn] at h3
                refine ⟨rfl, all_lt hI (markFault_0 h1' h2 ?_)⟩
                rintro ⟨j, hj, h4⟩
                exact h3 ⟨j, hj, by rw [hg j hj, h4]; simp [markD]⟩
      · rintro ⟨a, b⟩ hI
        (try dsimp only); (repeat' (first | (with_reducible apply ok_guard; case h => (first | assumption | omega | (simp; done) | (simp; omega) | (and_intros <;> first | omega | (intro _; omega)) | (simp only [Bool.or_eq_true, Bool.and_eq_true, Bool.not_eq_true', Bool.not_eq_true, Bool.not_eq_false', Bool.not_eq_false, Bool.or_eq_false_iff, Bool.and_eq_false_iff, decide_eq_true_eq, decide_eq_false_iff_not, Bool.not_not, beq_iff_eq, bne_iff_ne] at *; omega))) | (with_reducible apply ok_guard) | (with_reducible apply ok_if <;> intro _) | (with_reducible apply ok_some) | (with_reducible apply ok_esc) | (with_reducible apply ok_then))); (all_goals try dsimp only); (all_goals try (exfalso; omega))
        have : checkF p = 0 := by rw [ck, marksF, if_neg c4, faultF_0 hI]
        rw [openF, this, if_pos rfl, if_pos c3]
    · rename_i c3
      change ¬ slotsF p = 0 at c3
      exact openF_no (by rw [checkF, if_neg c, if_neg (not_not_intro c2), if_pos c3]) c3
  · rename_i c c2
    change ¬ rgsF p = true at c
    exact openF_no (by rw [checkF, if_neg c, if_pos c2]) c2
theorem o_panel_open {p : TPanel} (f : Fits p) {Q_ : _ → Prop} (k_ : Q_ (openF p)) : Ok (p_panel_open p) Q_ := ok_of (t_panel_open f) k_
theorem s_panel_open {β : Type} {cc_ : Prop} {d_ : Decidable cc_} {p : TPanel} (f : cc_ → (Fits p)) {e_ : _} {f_ : _ → Option β} {Q_ : β → Prop} (hd : ¬ cc_ → f_ e_ = f_ (openF p)) (k_ : Ok (f_ (openF p)) Q_) : Ok (Option.bind (@ite _ cc_ d_ (p_panel_open p) (some e_)) f_) Q_ := ok_short (fun hc__ => t_panel_open (f hc__)) hd k_
theorem t_panel_CheckPanel {p : TPanel} (f : Fits p) : p_panel_CheckPanel p = some (checkF p) := by
  apply ok_val
  unfold p_panel_CheckPanel
  (try dsimp only); (repeat' (first | (with_reducible apply s_panel_open; case hd => (intro hc; simp only [Bool.not_not, Bool.not_eq_true, Bool.not_eq_false'] at hc; simp only [hc, Bool.true_or, Bool.false_and, Bool.not_true, Bool.not_false, Bool.or_true, Bool.and_false])) | (with_reducible apply o_panel_open <;> try first | assumption | omega) | (with_reducible apply ok_guard; case h => (first | assumption | omega | (simp; done) | (simp; omega) | (and_intros <;> first | omega | (intro _; omega)) | (simp only [Bool.or_eq_true, Bool.and_eq_true, Bool.not_eq_true', Bool.not_eq_true, Bool.not_eq_false', Bool.not_eq_false, Bool.or_eq_false_iff, Bool.and_eq_false_iff, decide_eq_true_eq, decide_eq_false_iff_not, Bool.not_not, beq_iff_eq, bne_iff_ne] at *; omega))) | (with_reducible apply ok_guard) | (with_reducible apply ok_if <;> intro _) | (with_reducible apply ok_some) | (with_reducible apply ok_esc) | (with_reducible apply ok_then))); (all_goals try dsimp only); (all_goals try (exfalso; omega))
  rfl
theorem o_panel_CheckPanel {p : TPanel} (f : Fits p) {Q_ : _ → Prop} (k_ : Q_ (checkF p)) : Ok (p_panel_CheckPanel p) Q_ := ok_of (t_panel_CheckPanel f) k_
theorem s_panel_CheckPanel {β : Type} {cc_ : Prop} {d_ : Decidable cc_} {p : TPanel} (f : cc_ → (Fits p)) {e_ : _} {f_ : _ → Option β} {Q_ : β → Prop} (hd : ¬ cc_ → f_ e_ = f_ (checkF p)) (k_ : Ok (f_ (checkF p)) Q_) : Ok (Option.bind (@ite _ cc_ d_ (p_panel_CheckPanel p) (some e_)) f_) Q_ := ok_short (fun hc__ => t_panel_CheckPanel (f hc__)) hd k_
theorem t_panel_Cells {p : TPanel} (f : Fits p) : p_panel_Cells p = some (openF p) := by
  apply ok_val
  unfold p_panel_Cells
  (try dsimp only); (repeat' (first | (with_reducible apply s_panel_open; case hd => (intro hc; simp only [Bool.not_not, Bool.not_eq_true, Bool.not_eq_false'] at hc; simp only [hc, Bool.true_or, Bool.false_and, Bool.not_true, Bool.not_false, Bool.or_true, Bool.and_false])) | (with_reducible apply o_panel_open <;> try first | assumption | omega) | (with_reducible apply ok_guard; case h => (first | assumption | omega | (simp; done) | (simp; omega) | (and_intros <;> first | omega | (intro _; omega)) | (simp only [Bool.or_eq_true, Bool.and_eq_true, Bool.not_eq_true', Bool.not_eq_true, Bool.not_eq_false', Bool.not_eq_false, Bool.or_eq_false_iff, Bool.and_eq_false_iff, decide_eq_true_eq, decide_eq_false_iff_not, Bool.not_not, beq_iff_eq, bne_iff_ne] at *; omega))) | (with_reducible apply ok_guard) | (with_reducible apply ok_if <;> intro _) | (with_reducible apply ok_some) | (with_reducible apply ok_esc) | (with_reducible apply ok_then))); (all_goals try dsimp only); (all_goals try (exfalso; omega))
theorem o_panel_Cells {p : TPanel} (f : Fits p) {Q_ : _ → Prop} (k_ : Q_ (openF p)) : Ok (p_panel_Cells p) Q_ := ok_of (t_panel_Cells f) k_
theorem s_panel_Cells {β : Type} {cc_ : Prop} {d_ : Decidable cc_} {p : TPanel} (f : cc_ → (Fits p)) {e_ : _} {f_ : _ → Option β} {Q_ : β → Prop} (hd : ¬ cc_ → f_ e_ = f_ (openF p)) (k_ : Ok (f_ (openF p)) Q_) : Ok (Option.bind (@ite _ cc_ d_ (p_panel_Cells p) (some e_)) f_) Q_ := ok_short (fun hc__ => t_panel_Cells (f hc__)) hd k_
theorem t_ref9_checkSlot {p : TPanel} {i : Nat} (o : Opn p) (hs : p.Slots.length ≤ 500) (hi : i < p.Slots.length) (hI : ∀ j < i, slotFault p j = 0) : p_ref9_checkSlot p (i : Int) = some (slotFault p i) := by
  apply ok_val
  unfold p_ref9_checkSlot
  have org := o.toRgs
  have hk : p.Kinds.length < 281474976710656 := by have := o.kn; omega
  have hkl := kindF_lt p (p.Slots.getD i default).Board
  simp only [Int.toNat_natCast]
  (try dsimp only); (repeat' (first | (with_reducible apply s_ref9_kind; case hd => (intro hc; simp only [Bool.not_not, Bool.not_eq_true, Bool.not_eq_false'] at hc; simp only [hc, Bool.true_or, Bool.false_and, Bool.not_true, Bool.not_false, Bool.or_true, Bool.and_false])) | (with_reducible apply s_ref9_within; case hd => (intro hc; simp only [Bool.not_not, Bool.not_eq_true, Bool.not_eq_false'] at hc; simp only [hc, Bool.true_or, Bool.false_and, Bool.not_true, Bool.not_false, Bool.or_true, Bool.and_false])) | (with_reducible apply s_ref9_sizeOf; case hd => (intro hc; simp only [Bool.not_not, Bool.not_eq_true, Bool.not_eq_false'] at hc; simp only [hc, Bool.true_or, Bool.false_and, Bool.not_true, Bool.not_false, Bool.or_true, Bool.and_false])) | (with_reducible apply o_ref9_kind <;> try first | assumption | omega) | (with_reducible apply o_ref9_within <;> try first | assumption | omega) | (with_reducible apply o_ref9_sizeOf <;> try first | assumption | omega) | (with_reducible apply ok_guard; case h => (first | assumption | omega | (simp; done) | (simp; omega) | (and_intros <;> first | omega | (intro _; omega)) | (simp only [Bool.or_eq_true, Bool.and_eq_true, Bool.not_eq_true', Bool.not_eq_true, Bool.not_eq_false', Bool.not_eq_false, Bool.or_eq_false_iff, Bool.and_eq_false_iff, decide_eq_true_eq, decide_eq_false_iff_not, Bool.not_not, beq_iff_eq, bne_iff_ne] at *; omega))) | (with_reducible apply ok_guard) | (with_reducible apply ok_if <;> intro _) | (with_reducible apply ok_some) | (with_reducible apply ok_esc) | (with_reducible apply ok_then))); (all_goals try dsimp only); (all_goals try (exfalso; omega))
  · rename_i h; exact (slotFault_5 h).symm
  · rename_i h h1
    rw [slotFault_1 h]; rintro ⟨h2, _⟩; simp only [slotD] at h2; (simp only [Bool.or_eq_true, Bool.and_eq_true, Bool.not_eq_true', Bool.not_eq_true, Bool.not_eq_false', Bool.not_eq_false, Bool.or_eq_false_iff, Bool.and_eq_false_iff, decide_eq_true_eq, decide_eq_false_iff_not, Bool.not_not, beq_iff_eq, bne_iff_ne] at h1); omega
  · rename_i h h1
    have hk0 := Int.not_lt.1 h
    have hz := o.size hk0 (slotD p i).Quarters
    simp only [boardF, slotD] at hz
    refine o_ref9_lies org ⟨hz.1, hz.2.1⟩ ⟨hz.2.2.1, hz.2.2.2⟩ ?_
    (try dsimp only); (repeat' (first | (with_reducible apply ok_guard; case h => (first | assumption | omega | (simp; done) | (simp; omega) | (and_intros <;> first | omega | (intro _; omega)) | (simp only [Bool.or_eq_true, Bool.and_eq_true, Bool.not_eq_true', Bool.not_eq_true, Bool.not_eq_false', Bool.not_eq_false, Bool.or_eq_false_iff, Bool.and_eq_false_iff, decide_eq_true_eq, decide_eq_false_iff_not, Bool.not_not, beq_iff_eq, bne_iff_ne] at *; omega))) | (with_reducible apply ok_guard) | (with_reducible apply ok_if <;> intro _) | (with_reducible apply ok_some) | (with_reducible apply ok_esc) | (with_reducible apply ok_then))); (all_goals try dsimp only); (all_goals try (exfalso; omega))
    · rename_i h2
      rw [slotFault_1 h]; rintro ⟨h3, h4⟩; simp only [slotD, Lies, boardF] at h3 h4; (simp only [Bool.or_eq_true, Bool.and_eq_true, Bool.not_eq_true', Bool.not_eq_true, Bool.not_eq_false', Bool.not_eq_false, Bool.or_eq_false_iff, Bool.and_eq_false_iff, decide_eq_true_eq, decide_eq_false_iff_not, Bool.not_not, beq_iff_eq, bne_iff_ne] at h2); omega
    · rename_i h2
      have hl : (0 ≤ (slotD p i).Quarters ∧ (slotD p i).Quarters ≤ 3) ∧ Lies p (slotD p i) := by
        simp only [slotD, Lies, boardF]; (simp only [Bool.or_eq_true, Bool.and_eq_true, Bool.not_eq_true', Bool.not_eq_true, Bool.not_eq_false', Bool.not_eq_false, Bool.or_eq_false_iff, Bool.and_eq_false_iff, decide_eq_true_eq, decide_eq_false_iff_not, Bool.not_not, beq_iff_eq, bne_iff_ne] at h1 h2); omega
      have hp := o.plc hk0 hl.2
      refine ok_for i (fun j _ => ∀ m < j, apartF (cellF p (slotD p i)) (cellF p (slotD p m)) p.Gap = true) (by intro j h; omega) ?_ ?_
      · intro j x hj hJ
        obtain ⟨hj1, hj2, hj3⟩ := o.slot (hI j hj)
        simp only [Int.toNat_natCast]
        (try dsimp only); (repeat' (first | (with_reducible apply ok_guard; case h => (first | assumption | omega | (simp; done) | (simp; omega) | (and_intros <;> first | omega | (intro _; omega)) | (simp only [Bool.or_eq_true, Bool.and_eq_true, Bool.not_eq_true', Bool.not_eq_true, Bool.not_eq_false', Bool.not_eq_false, Bool.or_eq_false_iff, Bool.and_eq_false_iff, decide_eq_true_eq, decide_eq_false_iff_not, Bool.not_not, beq_iff_eq, bne_iff_ne] at *; omega))) | (with_reducible apply ok_guard) | (with_reducible apply ok_if <;> intro _) | (with_reducible apply ok_some) | (with_reducible apply ok_esc) | (with_reducible apply ok_then))); (all_goals try dsimp only); (all_goals try (exfalso; omega))
        refine o_ref9_cellOf o hk0 hp ?_
        (try dsimp only); (repeat' (first | (with_reducible apply ok_guard; case h => (first | assumption | omega | (simp; done) | (simp; omega) | (and_intros <;> first | omega | (intro _; omega)) | (simp only [Bool.or_eq_true, Bool.and_eq_true, Bool.not_eq_true', Bool.not_eq_true, Bool.not_eq_false', Bool.not_eq_false, Bool.or_eq_false_iff, Bool.and_eq_false_iff, decide_eq_true_eq, decide_eq_false_iff_not, Bool.not_not, beq_iff_eq, bne_iff_ne] at *; omega))) | (with_reducible apply ok_guard) | (with_reducible apply ok_if <;> intro _) | (with_reducible apply ok_some) | (with_reducible apply ok_esc) | (with_reducible apply ok_then))); (all_goals try dsimp only); (all_goals try (exfalso; omega))
        refine o_ref9_cellOf o hj1 hj2 ?_
        (try dsimp only); (repeat' (first | (with_reducible apply ok_guard; case h => (first | assumption | omega | (simp; done) | (simp; omega) | (and_intros <;> first | omega | (intro _; omega)) | (simp only [Bool.or_eq_true, Bool.and_eq_true, Bool.not_eq_true', Bool.not_eq_true, Bool.not_eq_false', Bool.not_eq_false, Bool.or_eq_false_iff, Bool.and_eq_false_iff, decide_eq_true_eq, decide_eq_false_iff_not, Bool.not_not, beq_iff_eq, bne_iff_ne] at *; omega))) | (with_reducible apply ok_guard) | (with_reducible apply ok_if <;> intro _) | (with_reducible apply ok_some) | (with_reducible apply ok_esc) | (with_reducible apply ok_then))); (all_goals try dsimp only); (all_goals try (exfalso; omega))
        refine o_ref9_apart (o.small hk0 hp) hj3 org.g1 org.g2 ?_
        (try dsimp only); (repeat' (first | (with_reducible apply ok_guard; case h => (first | assumption | omega | (simp; done) | (simp; omega) | (and_intros <;> first | omega | (intro _; omega)) | (simp only [Bool.or_eq_true, Bool.and_eq_true, Bool.not_eq_true', Bool.not_eq_true, Bool.not_eq_false', Bool.not_eq_false, Bool.or_eq_false_iff, Bool.and_eq_false_iff, decide_eq_true_eq, decide_eq_false_iff_not, Bool.not_not, beq_iff_eq, bne_iff_ne] at *; omega))) | (with_reducible apply ok_guard) | (with_reducible apply ok_if <;> intro _) | (with_reducible apply ok_some) | (with_reducible apply ok_esc) | (with_reducible apply ok_then))); (all_goals try dsimp only); (all_goals try (exfalso; omega))
        · rename_i h5
          (simp only [Bool.or_eq_true, Bool.and_eq_true, Bool.not_eq_true', Bool.not_eq_true, Bool.not_eq_false', Bool.not_eq_false, Bool.or_eq_false_iff, Bool.and_eq_false_iff, decide_eq_true_eq, decide_eq_false_iff_not, Bool.not_not, beq_iff_eq, bne_iff_ne] at h5)
          exact (slotFault_12 h hl ⟨j, hj, h5⟩).symm
        · rename_i h5
          (simp only [Bool.or_eq_true, Bool.and_eq_true, Bool.not_eq_true', Bool.not_eq_true, Bool.not_eq_false', Bool.not_eq_false, Bool.or_eq_false_iff, Bool.and_eq_false_iff, decide_eq_true_eq, decide_eq_false_iff_not, Bool.not_not, beq_iff_eq, bne_iff_ne] at h5)
          exact ⟨rfl, all_lt hJ h5⟩
      · intro x hJ
        (try dsimp only); (repeat' (first | (with_reducible apply ok_guard; case h => (first | assumption | omega | (simp; done) | (simp; omega) | (and_intros <;> first | omega | (intro _; omega)) | (simp only [Bool.or_eq_true, Bool.and_eq_true, Bool.not_eq_true', Bool.not_eq_true, Bool.not_eq_false', Bool.not_eq_false, Bool.or_eq_false_iff, Bool.and_eq_false_iff, decide_eq_true_eq, decide_eq_false_iff_not, Bool.not_not, beq_iff_eq, bne_iff_ne] at *; omega))) | (with_reducible apply ok_guard) | (with_reducible apply ok_if <;> intro _) | (with_reducible apply ok_some) | (with_reducible apply ok_esc) | (with_reducible apply ok_then))); (all_goals try dsimp only); (all_goals try (exfalso; omega))
        exact (slotFault_0 h hl (by rintro ⟨j, hj, h5⟩; rw [hJ j hj] at h5; cases h5)).symm
theorem o_ref9_checkSlot {p : TPanel} {i : Nat} (o : Opn p) (hs : p.Slots.length ≤ 500) (hi : i < p.Slots.length) (hI : ∀ j < i, slotFault p j = 0) {Q_ : _ → Prop} (k_ : Q_ (slotFault p i)) : Ok (p_ref9_checkSlot p (i : Int)) Q_ := ok_of (t_ref9_checkSlot o hs hi hI) k_
theorem s_ref9_checkSlot {β : Type} {cc_ : Prop} {d_ : Decidable cc_} {p : TPanel} {i : Nat} (o : cc_ → (Opn p)) (hs : cc_ → (p.Slots.length ≤ 500)) (hi : cc_ → (i < p.Slots.length)) (hI : cc_ → (∀ j < i, slotFault p j = 0)) {e_ : _} {f_ : _ → Option β} {Q_ : β → Prop} (hd : ¬ cc_ → f_ e_ = f_ (slotFault p i)) (k_ : Ok (f_ (slotFault p i)) Q_) : Ok (Option.bind (@ite _ cc_ d_ (p_ref9_checkSlot p (i : Int)) (some e_)) f_) Q_ := ok_short (fun hc__ => t_ref9_checkSlot (o hc__) (hs hc__) (hi hc__) (hI hc__)) hd k_
theorem t_ref9_checkMark {p : TPanel} {i : Nat} (o : Opn p) (hs : p.Slots.length ≤ 500) (hss : ∀ j < p.Slots.length, slotFault p j = 0) (hm : p.Marks.length ≤ 10) (hi : i < p.Marks.length) : p_ref9_checkMark p (i : Int) = some (markFault p i) := by
  apply ok_val
  unfold p_ref9_checkMark
  have org := o.toRgs
  simp only [Int.toNat_natCast]
  (try dsimp only); (repeat' (first | (with_reducible apply s_ref9_within; case hd => (intro hc; simp only [Bool.not_not, Bool.not_eq_true, Bool.not_eq_false'] at hc; simp only [hc, Bool.true_or, Bool.false_and, Bool.not_true, Bool.not_false, Bool.or_true, Bool.and_false])) | (with_reducible apply o_ref9_within <;> try first | assumption | omega) | (with_reducible apply ok_guard; case h => (first | assumption | omega | (simp; done) | (simp; omega) | (and_intros <;> first | omega | (intro _; omega)) | (simp only [Bool.or_eq_true, Bool.and_eq_true, Bool.not_eq_true', Bool.not_eq_true, Bool.not_eq_false', Bool.not_eq_false, Bool.or_eq_false_iff, Bool.and_eq_false_iff, decide_eq_true_eq, decide_eq_false_iff_not, Bool.not_not, beq_iff_eq, bne_iff_ne] at *; omega))) | (with_reducible apply ok_guard) | (with_reducible apply ok_if <;> intro _) | (with_reducible apply ok_some) | (with_reducible apply ok_esc) | (with_reducible apply ok_then))); (all_goals try dsimp only); (all_goals try (exfalso; omega))
  · rename_i h; rw [markFault_1]; change onPanelF p (p.Marks.getD i default) = false; simp only [onPanelF]; (simp only [Bool.or_eq_true, Bool.and_eq_true, Bool.not_eq_true', Bool.not_eq_true, Bool.not_eq_false', Bool.not_eq_false, Bool.or_eq_false_iff, Bool.and_eq_false_iff, decide_eq_true_eq, decide_eq_false_iff_not, Bool.not_not, beq_iff_eq, bne_iff_ne] at h ⊢); omega
  · rename_i h
    have h1 : ¬ onPanelF p (markD p i) = false := by change ¬ onPanelF p (p.Marks.getD i default) = false; simp only [onPanelF]; (simp only [Bool.or_eq_true, Bool.and_eq_true, Bool.not_eq_true', Bool.not_eq_true, Bool.not_eq_false', Bool.not_eq_false, Bool.or_eq_false_iff, Bool.and_eq_false_iff, decide_eq_true_eq, decide_eq_false_iff_not, Bool.not_not, beq_iff_eq, bne_iff_ne] at h ⊢); omega
    refine ok_for p.Slots.length (fun j x => ∀ m < j, inF (cellF p (slotD p m)) (markD p i) = false) (by intro j h; omega) ?_ ?_
    · rintro j x hj hJ
      obtain ⟨hj1, hj2, hj3⟩ := o.slot (hss j hj)
      simp only [Int.toNat_natCast]
      (try dsimp only); (repeat' (first | (with_reducible apply ok_guard; case h => (first | assumption | omega | (simp; done) | (simp; omega) | (and_intros <;> first | omega | (intro _; omega)) | (simp only [Bool.or_eq_true, Bool.and_eq_true, Bool.not_eq_true', Bool.not_eq_true, Bool.not_eq_false', Bool.not_eq_false, Bool.or_eq_false_iff, Bool.and_eq_false_iff, decide_eq_true_eq, decide_eq_false_iff_not, Bool.not_not, beq_iff_eq, bne_iff_ne] at *; omega))) | (with_reducible apply ok_guard) | (with_reducible apply ok_if <;> intro _) | (with_reducible apply ok_some) | (with_reducible apply ok_esc) | (with_reducible apply ok_then))); (all_goals try dsimp only); (all_goals try (exfalso; omega))
      refine o_ref9_cellOf o hj1 hj2 ?_
      (try dsimp only); (repeat' (first | (with_reducible apply ok_guard; case h => (first | assumption | omega | (simp; done) | (simp; omega) | (and_intros <;> first | omega | (intro _; omega)) | (simp only [Bool.or_eq_true, Bool.and_eq_true, Bool.not_eq_true', Bool.not_eq_true, Bool.not_eq_false', Bool.not_eq_false, Bool.or_eq_false_iff, Bool.and_eq_false_iff, decide_eq_true_eq, decide_eq_false_iff_not, Bool.not_not, beq_iff_eq, bne_iff_ne] at *; omega))) | (with_reducible apply ok_guard) | (with_reducible apply ok_if <;> intro _) | (with_reducible apply ok_some) | (with_reducible apply ok_esc) | (with_reducible apply ok_then))); (all_goals try dsimp only); (all_goals try (exfalso; omega))
      · rename_i h2
        exact (markFault_12 h1 ⟨j, hj, h2⟩).symm
      · rename_i h2
        refine ⟨rfl, all_lt hJ ?_⟩
        rw [← Bool.not_eq_true]; exact h2
    · rintro x hJ
      have h2 : ¬ ∃ j, j < p.Slots.length ∧ inF (cellF p (slotD p j)) (markD p i) = true := by rintro ⟨j, hj, h5⟩; rw [hJ j hj] at h5; cases h5
      (try dsimp only); (repeat' (first | (with_reducible apply ok_guard; case h => (first | assumption | omega | (simp; done) | (simp; omega) | (and_intros <;> first | omega | (intro _; omega)) | (simp only [Bool.or_eq_true, Bool.and_eq_true, Bool.not_eq_true', Bool.not_eq_true, Bool.not_eq_false', Bool.not_eq_false, Bool.or_eq_false_iff, Bool.and_eq_false_iff, decide_eq_true_eq, decide_eq_false_iff_not, Bool.not_not, beq_iff_eq, bne_iff_ne] at *; omega))) | (with_reducible apply ok_guard) | (with_reducible apply ok_if <;> intro _) | (with_reducible apply ok_some) | (with_reducible apply ok_esc) | (with_reducible apply ok_then))); (all_goals try dsimp only); (all_goals try (exfalso; omega))
      refine ok_for i (fun j _ => ∀ m < j, ¬ markD p m = markD p i) (by intro j h; omega) ?_ ?_
      · intro j x hj hK
        simp only [Int.toNat_natCast]
        (try dsimp only); (repeat' (first | (with_reducible apply ok_guard; case h => (first | assumption | omega | (simp; done) | (simp; omega) | (and_intros <;> first | omega | (intro _; omega)) | (simp only [Bool.or_eq_true, Bool.and_eq_true, Bool.not_eq_true', Bool.not_eq_true, Bool.not_eq_false', Bool.not_eq_false, Bool.or_eq_false_iff, Bool.and_eq_false_iff, decide_eq_true_eq, decide_eq_false_iff_not, Bool.not_not, beq_iff_eq, bne_iff_ne] at *; omega))) | (with_reducible apply ok_guard) | (with_reducible apply ok_if <;> intro _) | (with_reducible apply ok_some) | (with_reducible apply ok_esc) | (with_reducible apply ok_then))); (all_goals try dsimp only); (all_goals try (exfalso; omega))
        · rename_i h3; exact (markFault_7 h1 h2 ⟨j, hj, h3⟩).symm
        · rename_i h3; exact ⟨rfl, all_lt hK h3⟩
      · intro x hK
        (try dsimp only); (repeat' (first | (with_reducible apply ok_guard; case h => (first | assumption | omega | (simp; done) | (simp; omega) | (and_intros <;> first | omega | (intro _; omega)) | (simp only [Bool.or_eq_true, Bool.and_eq_true, Bool.not_eq_true', Bool.not_eq_true, Bool.not_eq_false', Bool.not_eq_false, Bool.or_eq_false_iff, Bool.and_eq_false_iff, decide_eq_true_eq, decide_eq_false_iff_not, Bool.not_not, beq_iff_eq, bne_iff_ne] at *; omega))) | (with_reducible apply ok_guard) | (with_reducible apply ok_if <;> intro _) | (with_reducible apply ok_some) | (with_reducible apply ok_esc) | (with_reducible apply ok_then))); (all_goals try dsimp only); (all_goals try (exfalso; omega))
        exact (markFault_0 h1 h2 (by rintro ⟨j, hj, h5⟩; exact hK j hj h5)).symm
theorem o_ref9_checkMark {p : TPanel} {i : Nat} (o : Opn p) (hs : p.Slots.length ≤ 500) (hss : ∀ j < p.Slots.length, slotFault p j = 0) (hm : p.Marks.length ≤ 10) (hi : i < p.Marks.length) {Q_ : _ → Prop} (k_ : Q_ (markFault p i)) : Ok (p_ref9_checkMark p (i : Int)) Q_ := ok_of (t_ref9_checkMark o hs hss hm hi) k_
theorem s_ref9_checkMark {β : Type} {cc_ : Prop} {d_ : Decidable cc_} {p : TPanel} {i : Nat} (o : cc_ → (Opn p)) (hs : cc_ → (p.Slots.length ≤ 500)) (hss : cc_ → (∀ j < p.Slots.length, slotFault p j = 0)) (hm : cc_ → (p.Marks.length ≤ 10)) (hi : cc_ → (i < p.Marks.length)) {e_ : _} {f_ : _ → Option β} {Q_ : β → Prop} (hd : ¬ cc_ → f_ e_ = f_ (markFault p i)) (k_ : Ok (f_ (markFault p i)) Q_) : Ok (Option.bind (@ite _ cc_ d_ (p_ref9_checkMark p (i : Int)) (some e_)) f_) Q_ := ok_short (fun hc__ => t_ref9_checkMark (o hc__) (hs hc__) (hss hc__) (hm hc__) (hi hc__)) hd k_
theorem checkF_3 {p : TPanel} {v : Int} (c : ¬ rgsF p = true) (c2 : kindsF p.Kinds = 0) (c3 : slotsF p = 0) (h : marksF p = v) : v = checkF p := by
  rw [checkF, if_neg c, if_neg (not_not_intro c2), if_neg (not_not_intro c3), h]
theorem checkF_2 {p : TPanel} {v : Int} (c : ¬ rgsF p = true) (c2 : kindsF p.Kinds = 0) (h : slotsF p = v) (hv : v ≠ 0) : v = checkF p := by
  rw [checkF, if_neg c, if_neg (not_not_intro c2), if_pos (by rw [h]; exact hv), h]
theorem checkF_1 {p : TPanel} {v : Int} (c : ¬ rgsF p = true) (h : kindsF p.Kinds = v) (hv : v ≠ 0) : v = checkF p := by
  rw [checkF, if_neg c, if_pos (by rw [h]; exact hv), h]
theorem t_ref9_CheckPanel {p : TPanel} (f : Fits p) : p_ref9_CheckPanel p = some (checkF p) := by
  apply ok_val
  unfold p_ref9_CheckPanel
  obtain ⟨f1, f2, f3, f4⟩ := f
  (try dsimp only); (repeat' (first | (with_reducible apply s_ref9_within; case hd => (intro hc; simp only [Bool.not_not, Bool.not_eq_true, Bool.not_eq_false'] at hc; simp only [hc, Bool.true_or, Bool.false_and, Bool.not_true, Bool.not_false, Bool.or_true, Bool.and_false])) | (with_reducible apply o_ref9_within <;> try first | assumption | omega) | (with_reducible apply ok_guard; case h => (first | assumption | omega | (simp; done) | (simp; omega) | (and_intros <;> first | omega | (intro _; omega)) | (simp only [Bool.or_eq_true, Bool.and_eq_true, Bool.not_eq_true', Bool.not_eq_true, Bool.not_eq_false', Bool.not_eq_false, Bool.or_eq_false_iff, Bool.and_eq_false_iff, decide_eq_true_eq, decide_eq_false_iff_not, Bool.not_not, beq_iff_eq, bne_iff_ne] at *; omega))) | (with_reducible apply ok_guard) | (with_reducible apply ok_if <;> intro _) | (with_reducible apply ok_some) | (with_reducible apply ok_esc) | (with_reducible apply ok_then))); (all_goals try dsimp only); (all_goals try (exfalso; omega))
  · rename_i c
    change rgsF p = true at c
    rw [checkF, if_pos c]
  · rename_i c c0
    change ¬ rgsF p = true at c
    exact checkF_1 c (by rw [kindsF, if_pos c0]) (by decide)
  · rename_i c c0
    change ¬ rgsF p = true at c
    refine ok_for p.Kinds.length (fun i x => ∀ j < i, kindFault p.Kinds j = 0) (by intro j h; omega) ?_ ?_
    · rintro i x hi hI
      have hs := f4 i hi
      simp only [Int.toNat_natCast]
      (try dsimp only); (repeat' (first | (with_reducible apply s_ref3_IsName; case hd => (intro hc; simp only [Bool.not_not, Bool.not_eq_true, Bool.not_eq_false'] at hc; simp only [hc, Bool.true_or, Bool.false_and, Bool.not_true, Bool.not_false, Bool.or_true, Bool.and_false])) | (with_reducible apply s_ref9_within; case hd => (intro hc; simp only [Bool.not_not, Bool.not_eq_true, Bool.not_eq_false'] at hc; simp only [hc, Bool.true_or, Bool.false_and, Bool.not_true, Bool.not_false, Bool.or_true, Bool.and_false])) | (with_reducible apply o_ref3_IsName <;> try first | assumption | omega) | (with_reducible apply o_ref9_within <;> try first | assumption | omega) | (with_reducible apply ok_guard; case h => (first | assumption | omega | (simp; done) | (simp; omega) | (and_intros <;> first | omega | (intro _; omega)) | (simp only [Bool.or_eq_true, Bool.and_eq_true, Bool.not_eq_true', Bool.not_eq_true, Bool.not_eq_false', Bool.not_eq_false, Bool.or_eq_false_iff, Bool.and_eq_false_iff, decide_eq_true_eq, decide_eq_false_iff_not, Bool.not_not, beq_iff_eq, bne_iff_ne] at *; omega))) | (with_reducible apply ok_guard) | (with_reducible apply ok_if <;> intro _) | (with_reducible apply ok_some) | (with_reducible apply ok_esc) | (with_reducible apply ok_then))); (all_goals try dsimp only); (all_goals try (exfalso; omega))
      all_goals first | ((with_reducible apply checkF_1 c _ (by decide)); symm; apply kindsF_at c0 hi hI _ (by decide); simp only [kindFault, *, if_true, if_false]) | (refine ⟨rfl, all_lt hI ?_⟩; simp only [kindFault, *, if_true, if_false]) | trace_state
    · rintro x hI
      have c2 : kindsF p.Kinds = 0 := by rw [kindsF, if_neg c0, faultF_0 hI]
      have o := opn_of c c2
      (try dsimp only); (repeat' (first | (with_reducible apply ok_guard; case h => (first | assumption | omega | (simp; done) | (simp; omega) | (and_intros <;> first | omega | (intro _; omega)) | (simp only [Bool.or_eq_true, Bool.and_eq_true, Bool.not_eq_true', Bool.not_eq_true, Bool.not_eq_false', Bool.not_eq_false, Bool.or_eq_false_iff, Bool.and_eq_false_iff, decide_eq_true_eq, decide_eq_false_iff_not, Bool.not_not, beq_iff_eq, bne_iff_ne] at *; omega))) | (with_reducible apply ok_guard) | (with_reducible apply ok_if <;> intro _) | (with_reducible apply ok_some) | (with_reducible apply ok_esc) | (with_reducible apply ok_then))); (all_goals try dsimp only); (all_goals try (exfalso; omega))
      · exact checkF_2 c c2 (by rw [slotsF, if_pos ‹_›]) (by decide)
      · rename_i c3
        change ¬ 500 < (p.Slots.length : Int) at c3
        refine ok_for p.Slots.length (fun i x => ∀ j < i, slotFault p j = 0) (by intro j h; omega) ?_ ?_
        · intro i x hi hI
          (try dsimp only); (repeat' (first | (with_reducible apply ok_guard; case h => (first | assumption | omega | (simp; done) | (simp; omega) | (and_intros <;> first | omega | (intro _; omega)) | (simp only [Bool.or_eq_true, Bool.and_eq_true, Bool.not_eq_true', Bool.not_eq_true, Bool.not_eq_false', Bool.not_eq_false, Bool.or_eq_false_iff, Bool.and_eq_false_iff, decide_eq_true_eq, decide_eq_false_iff_not, Bool.not_not, beq_iff_eq, bne_iff_ne] at *; omega))) | (with_reducible apply ok_guard) | (with_reducible apply ok_if <;> intro _) | (with_reducible apply ok_some) | (with_reducible apply ok_esc) | (with_reducible apply ok_then))); (all_goals try dsimp only); (all_goals try (exfalso; omega))
          refine o_ref9_checkSlot o (by omega) hi hI ?_
          (try dsimp only); (repeat' (first | (with_reducible apply ok_guard; case h => (first | assumption | omega | (simp; done) | (simp; omega) | (and_intros <;> first | omega | (intro _; omega)) | (simp only [Bool.or_eq_true, Bool.and_eq_true, Bool.not_eq_true', Bool.not_eq_true, Bool.not_eq_false', Bool.not_eq_false, Bool.or_eq_false_iff, Bool.and_eq_false_iff, decide_eq_true_eq, decide_eq_false_iff_not, Bool.not_not, beq_iff_eq, bne_iff_ne] at *; omega))) | (with_reducible apply ok_guard) | (with_reducible apply ok_if <;> intro _) | (with_reducible apply ok_some) | (with_reducible apply ok_esc) | (with_reducible apply ok_then))); (all_goals try dsimp only); (all_goals try (exfalso; omega))
          · exact ⟨rfl, all_lt hI ‹_›⟩
          · exact checkF_2 c c2 (slotsF_at c3 hi hI rfl ‹_›) ‹_›
        · intro x hss
          have c4 : slotsF p = 0 := by rw [slotsF, if_neg c3, faultF_0 hss]
          (try dsimp only); (repeat' (first | (with_reducible apply ok_guard; case h => (first | assumption | omega | (simp; done) | (simp; omega) | (and_intros <;> first | omega | (intro _; omega)) | (simp only [Bool.or_eq_true, Bool.and_eq_true, Bool.not_eq_true', Bool.not_eq_true, Bool.not_eq_false', Bool.not_eq_false, Bool.or_eq_false_iff, Bool.and_eq_false_iff, decide_eq_true_eq, decide_eq_false_iff_not, Bool.not_not, beq_iff_eq, bne_iff_ne] at *; omega))) | (with_reducible apply ok_guard) | (with_reducible apply ok_if <;> intro _) | (with_reducible apply ok_some) | (with_reducible apply ok_esc) | (with_reducible apply ok_then))); (all_goals try dsimp only); (all_goals try (exfalso; omega))
          · exact checkF_3 c c2 c4 (by rw [marksF, if_pos ‹_›])
          · rename_i c5
            change ¬ 10 < (p.Marks.length : Int) at c5
            refine ok_for p.Marks.length (fun i x => ∀ j < i, markFault p j = 0) (by intro j h; omega) ?_ ?_
            · intro i x hi hI
              (try dsimp only); (repeat' (first | (with_reducible apply ok_guard; case h => (first | assumption | omega | (simp; done) | (simp; omega) | (and_intros <;> first | omega | (intro _; omega)) | (simp only [Bool.or_eq_true, Bool.and_eq_true, Bool.not_eq_true', Bool.not_eq_true, Bool.not_eq_false', Bool.not_eq_false, Bool.or_eq_false_iff, Bool.and_eq_false_iff, decide_eq_true_eq, decide_eq_false_iff_not, Bool.not_not, beq_iff_eq, bne_iff_ne] at *; omega))) | (with_reducible apply ok_guard) | (with_reducible apply ok_if <;> intro _) | (with_reducible apply ok_some) | (with_reducible apply ok_esc) | (with_reducible apply ok_then))); (all_goals try dsimp only); (all_goals try (exfalso; omega))
              refine o_ref9_checkMark o (by omega) hss (by omega) hi ?_
              (try dsimp only); (repeat' (first | (with_reducible apply ok_guard; case h => (first | assumption | omega | (simp; done) | (simp; omega) | (and_intros <;> first | omega | (intro _; omega)) | (simp only [Bool.or_eq_true, Bool.and_eq_true, Bool.not_eq_true', Bool.not_eq_true, Bool.not_eq_false', Bool.not_eq_false, Bool.or_eq_false_iff, Bool.and_eq_false_iff, decide_eq_true_eq, decide_eq_false_iff_not, Bool.not_not, beq_iff_eq, bne_iff_ne] at *; omega))) | (with_reducible apply ok_guard) | (with_reducible apply ok_if <;> intro _) | (with_reducible apply ok_some) | (with_reducible apply ok_esc) | (with_reducible apply ok_then))); (all_goals try dsimp only); (all_goals try (exfalso; omega))
              · exact ⟨rfl, all_lt hI ‹_›⟩
              · exact checkF_3 c c2 c4 (marksF_at c5 hi hI rfl ‹_›)
            · intro x hI
              (try dsimp only); (repeat' (first | (with_reducible apply ok_guard; case h => (first | assumption | omega | (simp; done) | (simp; omega) | (and_intros <;> first | omega | (intro _; omega)) | (simp only [Bool.or_eq_true, Bool.and_eq_true, Bool.not_eq_true', Bool.not_eq_true, Bool.not_eq_false', Bool.not_eq_false, Bool.or_eq_false_iff, Bool.and_eq_false_iff, decide_eq_true_eq, decide_eq_false_iff_not, Bool.not_not, beq_iff_eq, bne_iff_ne] at *; omega))) | (with_reducible apply ok_guard) | (with_reducible apply ok_if <;> intro _) | (with_reducible apply ok_some) | (with_reducible apply ok_esc) | (with_reducible apply ok_then))); (all_goals try dsimp only); (all_goals try (exfalso; omega))
              exact checkF_3 c c2 c4 (by rw [marksF, if_neg c5, faultF_0 hI])
theorem o_ref9_CheckPanel {p : TPanel} (f : Fits p) {Q_ : _ → Prop} (k_ : Q_ (checkF p)) : Ok (p_ref9_CheckPanel p) Q_ := ok_of (t_ref9_CheckPanel f) k_
theorem s_ref9_CheckPanel {β : Type} {cc_ : Prop} {d_ : Decidable cc_} {p : TPanel} (f : cc_ → (Fits p)) {e_ : _} {f_ : _ → Option β} {Q_ : β → Prop} (hd : ¬ cc_ → f_ e_ = f_ (checkF p)) (k_ : Ok (f_ (checkF p)) Q_) : Ok (Option.bind (@ite _ cc_ d_ (p_ref9_CheckPanel p) (some e_)) f_) Q_ := ok_short (fun hc__ => t_ref9_CheckPanel (f hc__)) hd k_
end Go.Nw
