/- NqGrid: a part of the proof. -/
import Derived.Test.YtngdglmimlfefaaNqLaw3
set_option linter.unusedVariables false
set_option linter.unusedSimpArgs false
set_option maxRecDepth 100000
namespace Go.Nw
theorem mulB {a b A B : Int} (h1 : 0 ≤ a) (h2 : a ≤ A) (h3 : 0 ≤ b) (h4 : b ≤ B) : 0 ≤ a * b ∧ a * b ≤ A * B :=
  ⟨Int.mul_nonneg h1 h3, Int.mul_le_mul h2 h4 h3 (by omega)⟩
def manyF (room size gap : Int) : Int := if room < size then 0 else (room + gap).tdiv (size + gap)
theorem manyF_b {room size gap : Int} (h1 : room ≤ 1000000) (h2 : 1 ≤ size) (h3 : 0 ≤ gap) (h4 : gap ≤ 1000000) : 0 ≤ manyF room size gap ∧ manyF room size gap ≤ 2000000 := by
  simp only [manyF]
  split
  · omega
  · have := tdiv_b (a := room + gap) (b := size + gap) (by omega) (by omega); omega
theorem t_panel_many {room size gap : Int} (h1 : -3000000000000000000 ≤ room ∧ room ≤ 1000000) (h2 : 1 ≤ size ∧ size ≤ 1000000) (h3 : 0 ≤ gap ∧ gap ≤ 1000000) : p_panel_many room size gap = some (manyF room size gap) := by
  apply ok_val
  unfold p_panel_many
  (try dsimp only); (repeat' (first | (with_reducible apply ok_guard; case h => (first | assumption | omega | (simp; done) | (simp; omega) | (and_intros <;> first | omega | (intro _; omega)) | (simp only [Bool.or_eq_true, Bool.and_eq_true, Bool.not_eq_true', Bool.not_eq_true, Bool.not_eq_false', Bool.not_eq_false, Bool.or_eq_false_iff, Bool.and_eq_false_iff, decide_eq_true_eq, decide_eq_false_iff_not, Bool.not_not, beq_iff_eq, bne_iff_ne] at *; omega))) | (with_reducible apply ok_guard) | (with_reducible apply ok_if <;> intro _) | (with_reducible apply ok_some) | (with_reducible apply ok_esc) | (with_reducible apply ok_then))); (all_goals try dsimp only); (all_goals try (exfalso; omega))
  · rw [manyF, if_pos ‹_›]
  · rename_i h
    have := tdiv_b (a := room + gap) (b := size + gap) (by omega) (by omega)
    omega
  · rw [manyF, if_neg ‹_›]
theorem o_panel_many {room size gap : Int} (h1 : -3000000000000000000 ≤ room ∧ room ≤ 1000000) (h2 : 1 ≤ size ∧ size ≤ 1000000) (h3 : 0 ≤ gap ∧ gap ≤ 1000000) {Q_ : _ → Prop} (k_ : Q_ (manyF room size gap)) : Ok (p_panel_many room size gap) Q_ := ok_of (t_panel_many h1 h2 h3) k_
theorem s_panel_many {β : Type} {cc_ : Prop} {d_ : Decidable cc_} {room size gap : Int} (h1 : cc_ → (-3000000000000000000 ≤ room ∧ room ≤ 1000000)) (h2 : cc_ → (1 ≤ size ∧ size ≤ 1000000)) (h3 : cc_ → (0 ≤ gap ∧ gap ≤ 1000000)) {e_ : _} {f_ : _ → Option β} {Q_ : β → Prop} (hd : ¬ cc_ → f_ e_ = f_ (manyF room size gap)) (k_ : Ok (f_ (manyF room size gap)) Q_) : Ok (Option.bind (@ite _ cc_ d_ (p_panel_many room size gap) (some e_)) f_) Q_ := ok_short (fun hc__ => t_panel_many (h1 hc__) (h2 hc__) (h3 hc__)) hd k_
theorem t_ref9_fit {room size gap : Int} (h1 : -3000000000000000000 ≤ room ∧ room ≤ 1000000) (h2 : 1 ≤ size ∧ size ≤ 1000000) (h3 : 0 ≤ gap ∧ gap ≤ 1000000) : p_ref9_fit room size gap = some (manyF room size gap) := by
  apply ok_val
  unfold p_ref9_fit
  (try dsimp only); (repeat' (first | (with_reducible apply ok_guard; case h => (first | assumption | omega | (simp; done) | (simp; omega) | (and_intros <;> first | omega | (intro _; omega)) | (simp only [Bool.or_eq_true, Bool.and_eq_true, Bool.not_eq_true', Bool.not_eq_true, Bool.not_eq_false', Bool.not_eq_false, Bool.or_eq_false_iff, Bool.and_eq_false_iff, decide_eq_true_eq, decide_eq_false_iff_not, Bool.not_not, beq_iff_eq, bne_iff_ne] at *; omega))) | (with_reducible apply ok_guard) | (with_reducible apply ok_if <;> intro _) | (with_reducible apply ok_some) | (with_reducible apply ok_esc) | (with_reducible apply ok_then))); (all_goals try dsimp only); (all_goals try (exfalso; omega))
  · rw [manyF, if_pos ‹_›]
  · rename_i h
    have := tdiv_b (a := room + gap) (b := size + gap) (by omega) (by omega)
    omega
  · rw [manyF, if_neg ‹_›]
theorem o_ref9_fit {room size gap : Int} (h1 : -3000000000000000000 ≤ room ∧ room ≤ 1000000) (h2 : 1 ≤ size ∧ size ≤ 1000000) (h3 : 0 ≤ gap ∧ gap ≤ 1000000) {Q_ : _ → Prop} (k_ : Q_ (manyF room size gap)) : Ok (p_ref9_fit room size gap) Q_ := ok_of (t_ref9_fit h1 h2 h3) k_
theorem s_ref9_fit {β : Type} {cc_ : Prop} {d_ : Decidable cc_} {room size gap : Int} (h1 : cc_ → (-3000000000000000000 ≤ room ∧ room ≤ 1000000)) (h2 : cc_ → (1 ≤ size ∧ size ≤ 1000000)) (h3 : cc_ → (0 ≤ gap ∧ gap ≤ 1000000)) {e_ : _} {f_ : _ → Option β} {Q_ : β → Prop} (hd : ¬ cc_ → f_ e_ = f_ (manyF room size gap)) (k_ : Ok (f_ (manyF room size gap)) Q_) : Ok (Option.bind (@ite _ cc_ d_ (p_ref9_fit room size gap) (some e_)) f_) Q_ := ok_short (fun hc__ => t_ref9_fit (h1 hc__) (h2 hc__) (h3 hc__)) hd k_
def rowF (p : TPanel) (b : ByteArray) (q w y n : Int) : List TSlot := (List.range n.toNat).map fun (i : Nat) => { Board := b, Quarters := q, At := { X := p.Rail + (i : Int) * (w + p.Gap), Y := y } }
theorem rowF_len {p : TPanel} {b : ByteArray} {q w y n : Int} : (rowF p b q w y n).length = n.toNat := by simp [rowF]
theorem t_panel_row {p : TPanel} {b : ByteArray} {q n y : Int} (o : Opn p) (h : 0 ≤ kindF p b) (hn : 0 ≤ n ∧ n ≤ 2000000) : p_panel_row p b q n y = some (rowF p b q (sizeF (boardF p b) q).1 y n) := by
  apply ok_val
  unfold p_panel_row
  have h1 := kindF_lt p b
  have h2 := o.size h q
  have h7 := o.kn
  have org := o.toRgs
  obtain ⟨o1, o2, o3, o4, o5, o6, o7, o8⟩ := id org
  have hh : p.Kinds.length < 281474976710656 := by omega
  (try dsimp only); (repeat' (first | (with_reducible apply s_panel_kindAt; case hd => (intro hc; simp only [Bool.not_not, Bool.not_eq_true, Bool.not_eq_false'] at hc; simp only [hc, Bool.true_or, Bool.false_and, Bool.not_true, Bool.not_false, Bool.or_true, Bool.and_false])) | (with_reducible apply s_panel_sizeOf; case hd => (intro hc; simp only [Bool.not_not, Bool.not_eq_true, Bool.not_eq_false'] at hc; simp only [hc, Bool.true_or, Bool.false_and, Bool.not_true, Bool.not_false, Bool.or_true, Bool.and_false])) | (with_reducible apply o_panel_kindAt <;> try first | assumption | omega) | (with_reducible apply o_panel_sizeOf <;> try first | assumption | omega) | (with_reducible apply ok_guard; case h => (first | assumption | omega | (simp; done) | (simp; omega) | (and_intros <;> first | omega | (intro _; omega)) | (simp only [Bool.or_eq_true, Bool.and_eq_true, Bool.not_eq_true', Bool.not_eq_true, Bool.not_eq_false', Bool.not_eq_false, Bool.or_eq_false_iff, Bool.and_eq_false_iff, decide_eq_true_eq, decide_eq_false_iff_not, Bool.not_not, beq_iff_eq, bne_iff_ne] at *; omega))) | (with_reducible apply ok_guard) | (with_reducible apply ok_if <;> intro _) | (with_reducible apply ok_some) | (with_reducible apply ok_esc) | (with_reducible apply ok_then))); (all_goals try dsimp only); (all_goals try (exfalso; omega))
  change Ok (loopO _ _) _
  refine ok_for n.toNat (fun i x => x = (List.range i).map fun (i : Nat) => ({ Board := b, Quarters := q, At := { X := p.Rail + (i : Int) * ((sizeF (boardF p b) q).1 + p.Gap), Y := y } } : TSlot)) rfl ?_ ?_
  · intro i x hi hx
    subst hx
    have hm := mulB (a := (i : Int)) (b := (sizeF (boardF p b) q).1 + p.Gap) (A := 2000000) (B := 2000000) (by omega) (by omega) (by omega) (by omega)
    simp only [boardF] at hm h2
    rw [range_map_succ]
    have hl : ((List.range i).map fun (i : Nat) => ({ Board := b, Quarters := q, At := { X := p.Rail + (i : Int) * ((sizeF (boardF p b) q).1 + p.Gap), Y := y } } : TSlot)).length = i := by simp
    (try dsimp only); (repeat' (first | (with_reducible apply ok_guard; case h => (first | assumption | omega | (simp; done) | (simp; omega) | (and_intros <;> first | omega | (intro _; omega)) | (simp only [Bool.or_eq_true, Bool.and_eq_true, Bool.not_eq_true', Bool.not_eq_true, Bool.not_eq_false', Bool.not_eq_false, Bool.or_eq_false_iff, Bool.and_eq_false_iff, decide_eq_true_eq, decide_eq_false_iff_not, Bool.not_not, beq_iff_eq, bne_iff_ne] at *; omega))) | (with_reducible apply ok_guard) | (with_reducible apply ok_if <;> intro _) | (with_reducible apply ok_some) | (with_reducible apply ok_esc) | (with_reducible apply ok_then))); (all_goals try dsimp only); (all_goals try (exfalso; omega))
    exact ⟨rfl, rfl⟩
  · intro x hx
    subst hx
    (try dsimp only); (repeat' (first | (with_reducible apply ok_guard; case h => (first | assumption | omega | (simp; done) | (simp; omega) | (and_intros <;> first | omega | (intro _; omega)) | (simp only [Bool.or_eq_true, Bool.and_eq_true, Bool.not_eq_true', Bool.not_eq_true, Bool.not_eq_false', Bool.not_eq_false, Bool.or_eq_false_iff, Bool.and_eq_false_iff, decide_eq_true_eq, decide_eq_false_iff_not, Bool.not_not, beq_iff_eq, bne_iff_ne] at *; omega))) | (with_reducible apply ok_guard) | (with_reducible apply ok_if <;> intro _) | (with_reducible apply ok_some) | (with_reducible apply ok_esc) | (with_reducible apply ok_then))); (all_goals try dsimp only); (all_goals try (exfalso; omega))
    rfl
theorem o_panel_row {p : TPanel} {b : ByteArray} {q n y : Int} (o : Opn p) (h : 0 ≤ kindF p b) (hn : 0 ≤ n ∧ n ≤ 2000000) {Q_ : _ → Prop} (k_ : Q_ (rowF p b q (sizeF (boardF p b) q).1 y n)) : Ok (p_panel_row p b q n y) Q_ := ok_of (t_panel_row o h hn) k_
theorem s_panel_row {β : Type} {cc_ : Prop} {d_ : Decidable cc_} {p : TPanel} {b : ByteArray} {q n y : Int} (o : cc_ → (Opn p)) (h : cc_ → (0 ≤ kindF p b)) (hn : cc_ → (0 ≤ n ∧ n ≤ 2000000)) {e_ : _} {f_ : _ → Option β} {Q_ : β → Prop} (hd : ¬ cc_ → f_ e_ = f_ (rowF p b q (sizeF (boardF p b) q).1 y n)) (k_ : Ok (f_ (rowF p b q (sizeF (boardF p b) q).1 y n)) Q_) : Ok (Option.bind (@ite _ cc_ d_ (p_panel_row p b q n y) (some e_)) f_) Q_ := ok_short (fun hc__ => t_panel_row (o hc__) (h hc__) (hn hc__)) hd k_
theorem t_ref9_row_o {p : TPanel} {l : List TSlot} {b : ByteArray} {q w y n : Int} (o : Rgs p) (hw : 1 ≤ w ∧ w ≤ 1000000) (hl : l.length ≤ 2000000000) (hn : n ≤ 2000000) : p_ref9_row_o p l b q w y n = some (l ++ rowF p b q w y n) := by
  apply ok_val
  unfold p_ref9_row_o
  obtain ⟨o1, o2, o3, o4, o5, o6, o7, o8⟩ := id o
  (try dsimp only); (repeat' (first | (with_reducible apply ok_guard; case h => (first | assumption | omega | (simp; done) | (simp; omega) | (and_intros <;> first | omega | (intro _; omega)) | (simp only [Bool.or_eq_true, Bool.and_eq_true, Bool.not_eq_true', Bool.not_eq_true, Bool.not_eq_false', Bool.not_eq_false, Bool.or_eq_false_iff, Bool.and_eq_false_iff, decide_eq_true_eq, decide_eq_false_iff_not, Bool.not_not, beq_iff_eq, bne_iff_ne] at *; omega))) | (with_reducible apply ok_guard) | (with_reducible apply ok_if <;> intro _) | (with_reducible apply ok_some) | (with_reducible apply ok_esc) | (with_reducible apply ok_then))); (all_goals try dsimp only); (all_goals try (exfalso; omega))
  refine ok_for n.toNat (fun i x => x = l ++ (List.range i).map fun (i : Nat) => ({ Board := b, Quarters := q, At := { X := p.Rail + (i : Int) * (w + p.Gap), Y := y } } : TSlot)) (by simp) ?_ ?_
  · intro i x hi hx
    subst hx
    have hm := mulB (a := (i : Int)) (b := w + p.Gap) (A := 2000000) (B := 2000000) (by omega) (by omega) (by omega) (by omega)
    rw [range_map_succ]
    have hl : (l ++ (List.range i).map fun (i : Nat) => ({ Board := b, Quarters := q, At := { X := p.Rail + (i : Int) * (w + p.Gap), Y := y } } : TSlot)).length = l.length + i := by simp
    (try dsimp only); (repeat' (first | (with_reducible apply ok_guard; case h => (first | assumption | omega | (simp; done) | (simp; omega) | (and_intros <;> first | omega | (intro _; omega)) | (simp only [Bool.or_eq_true, Bool.and_eq_true, Bool.not_eq_true', Bool.not_eq_true, Bool.not_eq_false', Bool.not_eq_false, Bool.or_eq_false_iff, Bool.and_eq_false_iff, decide_eq_true_eq, decide_eq_false_iff_not, Bool.not_not, beq_iff_eq, bne_iff_ne] at *; omega))) | (with_reducible apply ok_guard) | (with_reducible apply ok_if <;> intro _) | (with_reducible apply ok_some) | (with_reducible apply ok_esc) | (with_reducible apply ok_then))); (all_goals try dsimp only); (all_goals try (exfalso; omega))
    exact ⟨rfl, by simp⟩
  · intro x hx
    subst hx
    (try dsimp only); (repeat' (first | (with_reducible apply ok_guard; case h => (first | assumption | omega | (simp; done) | (simp; omega) | (and_intros <;> first | omega | (intro _; omega)) | (simp only [Bool.or_eq_true, Bool.and_eq_true, Bool.not_eq_true', Bool.not_eq_true, Bool.not_eq_false', Bool.not_eq_false, Bool.or_eq_false_iff, Bool.and_eq_false_iff, decide_eq_true_eq, decide_eq_false_iff_not, Bool.not_not, beq_iff_eq, bne_iff_ne] at *; omega))) | (with_reducible apply ok_guard) | (with_reducible apply ok_if <;> intro _) | (with_reducible apply ok_some) | (with_reducible apply ok_esc) | (with_reducible apply ok_then))); (all_goals try dsimp only); (all_goals try (exfalso; omega))
    rfl
theorem o_ref9_row_o {p : TPanel} {l : List TSlot} {b : ByteArray} {q w y n : Int} (o : Rgs p) (hw : 1 ≤ w ∧ w ≤ 1000000) (hl : l.length ≤ 2000000000) (hn : n ≤ 2000000) {Q_ : _ → Prop} (k_ : Q_ (l ++ rowF p b q w y n)) : Ok (p_ref9_row_o p l b q w y n) Q_ := ok_of (t_ref9_row_o o hw hl hn) k_
theorem s_ref9_row_o {β : Type} {cc_ : Prop} {d_ : Decidable cc_} {p : TPanel} {l : List TSlot} {b : ByteArray} {q w y n : Int} (o : cc_ → (Rgs p)) (hw : cc_ → (1 ≤ w ∧ w ≤ 1000000)) (hl : cc_ → (l.length ≤ 2000000000)) (hn : cc_ → (n ≤ 2000000)) {e_ : _} {f_ : _ → Option β} {Q_ : β → Prop} (hd : ¬ cc_ → f_ e_ = f_ (l ++ rowF p b q w y n)) (k_ : Ok (f_ (l ++ rowF p b q w y n)) Q_) : Ok (Option.bind (@ite _ cc_ d_ (p_ref9_row_o p l b q w y n) (some e_)) f_) Q_ := ok_short (fun hc__ => t_ref9_row_o (o hc__) (hw hc__) (hl hc__) (hn hc__)) hd k_
theorem t_slices_Clone_Point {l : List TPoint} (hl : l.length < 1000000) : p_slices_Clone_Point l = some (l) := by
  apply ok_val
  unfold p_slices_Clone_Point
  (try dsimp only); (repeat' (first | (with_reducible apply ok_guard; case h => (first | assumption | omega | (simp; done) | (simp; omega) | (and_intros <;> first | omega | (intro _; omega)) | (simp only [Bool.or_eq_true, Bool.and_eq_true, Bool.not_eq_true', Bool.not_eq_true, Bool.not_eq_false', Bool.not_eq_false, Bool.or_eq_false_iff, Bool.and_eq_false_iff, decide_eq_true_eq, decide_eq_false_iff_not, Bool.not_not, beq_iff_eq, bne_iff_ne] at *; omega))) | (with_reducible apply ok_guard) | (with_reducible apply ok_if <;> intro _) | (with_reducible apply ok_some) | (with_reducible apply ok_esc) | (with_reducible apply ok_then))); (all_goals try dsimp only); (all_goals try (exfalso; omega))
  all_goals exact (List.length_eq_zero_iff.1 ‹_›).symm
theorem o_slices_Clone_Point {l : List TPoint} (hl : l.length < 1000000) {Q_ : _ → Prop} (k_ : Q_ (l)) : Ok (p_slices_Clone_Point l) Q_ := ok_of (t_slices_Clone_Point hl) k_
theorem s_slices_Clone_Point {β : Type} {cc_ : Prop} {d_ : Decidable cc_} {l : List TPoint} (hl : cc_ → (l.length < 1000000)) {e_ : _} {f_ : _ → Option β} {Q_ : β → Prop} (hd : ¬ cc_ → f_ e_ = f_ (l)) (k_ : Ok (f_ (l)) Q_) : Ok (Option.bind (@ite _ cc_ d_ (p_slices_Clone_Point l) (some e_)) f_) Q_ := ok_short (fun hc__ => t_slices_Clone_Point (hl hc__)) hd k_
theorem t_slices_Clone_BoardKind {l : List TBoardKind} (hl : l.length < 1000000) : p_slices_Clone_BoardKind l = some (l) := by
  apply ok_val
  unfold p_slices_Clone_BoardKind
  (try dsimp only); (repeat' (first | (with_reducible apply ok_guard; case h => (first | assumption | omega | (simp; done) | (simp; omega) | (and_intros <;> first | omega | (intro _; omega)) | (simp only [Bool.or_eq_true, Bool.and_eq_true, Bool.not_eq_true', Bool.not_eq_true, Bool.not_eq_false', Bool.not_eq_false, Bool.or_eq_false_iff, Bool.and_eq_false_iff, decide_eq_true_eq, decide_eq_false_iff_not, Bool.not_not, beq_iff_eq, bne_iff_ne] at *; omega))) | (with_reducible apply ok_guard) | (with_reducible apply ok_if <;> intro _) | (with_reducible apply ok_some) | (with_reducible apply ok_esc) | (with_reducible apply ok_then))); (all_goals try dsimp only); (all_goals try (exfalso; omega))
  all_goals exact (List.length_eq_zero_iff.1 ‹_›).symm
theorem o_slices_Clone_BoardKind {l : List TBoardKind} (hl : l.length < 1000000) {Q_ : _ → Prop} (k_ : Q_ (l)) : Ok (p_slices_Clone_BoardKind l) Q_ := ok_of (t_slices_Clone_BoardKind hl) k_
theorem s_slices_Clone_BoardKind {β : Type} {cc_ : Prop} {d_ : Decidable cc_} {l : List TBoardKind} (hl : cc_ → (l.length < 1000000)) {e_ : _} {f_ : _ → Option β} {Q_ : β → Prop} (hd : ¬ cc_ → f_ e_ = f_ (l)) (k_ : Ok (f_ (l)) Q_) : Ok (Option.bind (@ite _ cc_ d_ (p_slices_Clone_BoardKind l) (some e_)) f_) Q_ := ok_short (fun hc__ => t_slices_Clone_BoardKind (hl hc__)) hd k_
noncomputable def toldF (p : TPanel) : TPanel × Int := if checkF p = 0 then (p, 0) else ({}, checkF p)
theorem t_panel_told {p : TPanel} (f : Fits p) : p_panel_told p = some (toldF p) := by
  apply ok_val
  unfold p_panel_told
  (try dsimp only); (repeat' (first | (with_reducible apply s_panel_CheckPanel; case hd => (intro hc; simp only [Bool.not_not, Bool.not_eq_true, Bool.not_eq_false'] at hc; simp only [hc, Bool.true_or, Bool.false_and, Bool.not_true, Bool.not_false, Bool.or_true, Bool.and_false])) | (with_reducible apply o_panel_CheckPanel <;> try first | assumption | omega) | (with_reducible apply ok_guard; case h => (first | assumption | omega | (simp; done) | (simp; omega) | (and_intros <;> first | omega | (intro _; omega)) | (simp only [Bool.or_eq_true, Bool.and_eq_true, Bool.not_eq_true', Bool.not_eq_true, Bool.not_eq_false', Bool.not_eq_false, Bool.or_eq_false_iff, Bool.and_eq_false_iff, decide_eq_true_eq, decide_eq_false_iff_not, Bool.not_not, beq_iff_eq, bne_iff_ne] at *; omega))) | (with_reducible apply ok_guard) | (with_reducible apply ok_if <;> intro _) | (with_reducible apply ok_some) | (with_reducible apply ok_esc) | (with_reducible apply ok_then))); (all_goals try dsimp only); (all_goals try (exfalso; omega))
  · rw [toldF, if_pos ‹_›]
  · rw [toldF, if_neg ‹_›]
theorem o_panel_told {p : TPanel} (f : Fits p) {Q_ : _ → Prop} (k_ : Q_ (toldF p)) : Ok (p_panel_told p) Q_ := ok_of (t_panel_told f) k_
theorem s_panel_told {β : Type} {cc_ : Prop} {d_ : Decidable cc_} {p : TPanel} (f : cc_ → (Fits p)) {e_ : _} {f_ : _ → Option β} {Q_ : β → Prop} (hd : ¬ cc_ → f_ e_ = f_ (toldF p)) (k_ : Ok (f_ (toldF p)) Q_) : Ok (Option.bind (@ite _ cc_ d_ (p_panel_told p) (some e_)) f_) Q_ := ok_short (fun hc__ => t_panel_told (f hc__)) hd k_
def withS (p : TPanel) (l : List TSlot) : TPanel := { W := p.W, H := p.H, Rail := p.Rail, Gap := p.Gap, Kinds := p.Kinds, Slots := l, Marks := p.Marks }
theorem fits_with {p : TPanel} {l : List TSlot} (f : Fits p) (h : l.length < 281474976710656) : Fits (withS p l) := ⟨f.1, h, f.2.2.1, f.2.2.2⟩
theorem t_ref9_laid {p : TPanel} {l : List TSlot} (f : Fits p) (h : l.length < 281474976710656) : p_ref9_laid p l = some (toldF (withS p l)) := by
  apply ok_val
  unfold p_ref9_laid
  refine ok_then (o_ref9_CheckPanel (fits_with f h) ?_)
  change Ok (if checkF (withS p l) = 0 then some (withS p l, 0) else some ({}, checkF (withS p l))) _
  (try dsimp only); (repeat' (first | (with_reducible apply ok_guard; case h => (first | assumption | omega | (simp; done) | (simp; omega) | (and_intros <;> first | omega | (intro _; omega)) | (simp only [Bool.or_eq_true, Bool.and_eq_true, Bool.not_eq_true', Bool.not_eq_true, Bool.not_eq_false', Bool.not_eq_false, Bool.or_eq_false_iff, Bool.and_eq_false_iff, decide_eq_true_eq, decide_eq_false_iff_not, Bool.not_not, beq_iff_eq, bne_iff_ne] at *; omega))) | (with_reducible apply ok_guard) | (with_reducible apply ok_if <;> intro _) | (with_reducible apply ok_some) | (with_reducible apply ok_esc) | (with_reducible apply ok_then))); (all_goals try dsimp only); (all_goals try (exfalso; omega))
  · rw [toldF, if_pos ‹_›]
  · rw [toldF, if_neg ‹_›]
theorem o_ref9_laid {p : TPanel} {l : List TSlot} (f : Fits p) (h : l.length < 281474976710656) {Q_ : _ → Prop} (k_ : Q_ (toldF (withS p l))) : Ok (p_ref9_laid p l) Q_ := ok_of (t_ref9_laid f h) k_
theorem s_ref9_laid {β : Type} {cc_ : Prop} {d_ : Decidable cc_} {p : TPanel} {l : List TSlot} (f : cc_ → (Fits p)) (h : cc_ → (l.length < 281474976710656)) {e_ : _} {f_ : _ → Option β} {Q_ : β → Prop} (hd : ¬ cc_ → f_ e_ = f_ (toldF (withS p l))) (k_ : Ok (f_ (toldF (withS p l))) Q_) : Ok (Option.bind (@ite _ cc_ d_ (p_ref9_laid p l) (some e_)) f_) Q_ := ok_short (fun hc__ => t_ref9_laid (f hc__) (h hc__)) hd k_
theorem t_panel_own {p : TPanel} {l : List TSlot} (g : Good p) : p_panel_own p l = some (withS p l) := by
  apply ok_val
  unfold p_panel_own
  have := g.mn
  have := g.kn
  (try dsimp only); (repeat' (first | (with_reducible apply s_slices_Clone_BoardKind; case hd => (intro hc; simp only [Bool.not_not, Bool.not_eq_true, Bool.not_eq_false'] at hc; simp only [hc, Bool.true_or, Bool.false_and, Bool.not_true, Bool.not_false, Bool.or_true, Bool.and_false])) | (with_reducible apply s_slices_Clone_Point; case hd => (intro hc; simp only [Bool.not_not, Bool.not_eq_true, Bool.not_eq_false'] at hc; simp only [hc, Bool.true_or, Bool.false_and, Bool.not_true, Bool.not_false, Bool.or_true, Bool.and_false])) | (with_reducible apply o_slices_Clone_BoardKind <;> try first | assumption | omega) | (with_reducible apply o_slices_Clone_Point <;> try first | assumption | omega) | (with_reducible apply ok_guard; case h => (first | assumption | omega | (simp; done) | (simp; omega) | (and_intros <;> first | omega | (intro _; omega)) | (simp only [Bool.or_eq_true, Bool.and_eq_true, Bool.not_eq_true', Bool.not_eq_true, Bool.not_eq_false', Bool.not_eq_false, Bool.or_eq_false_iff, Bool.and_eq_false_iff, decide_eq_true_eq, decide_eq_false_iff_not, Bool.not_not, beq_iff_eq, bne_iff_ne] at *; omega))) | (with_reducible apply ok_guard) | (with_reducible apply ok_if <;> intro _) | (with_reducible apply ok_some) | (with_reducible apply ok_esc) | (with_reducible apply ok_then))); (all_goals try dsimp only); (all_goals try (exfalso; omega))
  rfl
theorem o_panel_own {p : TPanel} {l : List TSlot} (g : Good p) {Q_ : _ → Prop} (k_ : Q_ (withS p l)) : Ok (p_panel_own p l) Q_ := ok_of (t_panel_own g) k_
theorem s_panel_own {β : Type} {cc_ : Prop} {d_ : Decidable cc_} {p : TPanel} {l : List TSlot} (g : cc_ → (Good p)) {e_ : _} {f_ : _ → Option β} {Q_ : β → Prop} (hd : ¬ cc_ → f_ e_ = f_ (withS p l)) (k_ : Ok (f_ (withS p l)) Q_) : Ok (Option.bind (@ite _ cc_ d_ (p_panel_own p l) (some e_)) f_) Q_ := ok_short (fun hc__ => t_panel_own (g hc__)) hd k_
def rowsUp (p : TPanel) (b : ByteArray) (k : TBoardKind) (q c n t : Int) : Nat → Int × List TSlot
  | 0 => (p.Rail, [])
  | i + 1 => ((rowsUp p b k q c n t i).1 + ((sizeF k (if n ≤ i then q + 1 else q)).2 + p.Gap),
      (rowsUp p b k q c n t i).2 ++ rowF p b (if n ≤ i then q + 1 else q) (sizeF k (if n ≤ i then q + 1 else q)).1 (rowsUp p b k q c n t i).1 (if n ≤ i then t else c))
theorem rowsUp_b {p : TPanel} {b : ByteArray} (o : Opn p) (hk : 0 ≤ kindF p b) {q c n t : Int} (hc : 0 ≤ c ∧ c ≤ 2000000) (ht : 0 ≤ t ∧ t ≤ 2000000) (i : Nat) :
    (0 ≤ (rowsUp p b (boardF p b) q c n t i).1 ∧ (rowsUp p b (boardF p b) q c n t i).1 ≤ 1000000 + i * 2000000) ∧ (rowsUp p b (boardF p b) q c n t i).2.length ≤ i * 2000000 := by
  obtain ⟨o1, o2, o3, o4, o5, o6, o7, o8⟩ := id o.toRgs
  induction i with
  | zero => simp [rowsUp]; omega
  | succ i ih =>
    have := o.size hk (if n ≤ i then q + 1 else q)
    have hcc : (if n ≤ i then t else c).toNat ≤ 2000000 := by split <;> omega
    simp only [rowsUp, List.length_append, rowF_len]
    omega
noncomputable def rowsAll (p : TPanel) (b : ByteArray) (q c n t m : Int) : TPanel × Int :=
  if 500 < n * c + m * t then ({}, 2) else toldF (withS p (rowsUp p b (boardF p b) q c n t (n + m).toNat).2)
theorem few {n c : Int} (h0 : 0 ≤ n) (hc : 0 ≤ c) (hz : c = 0 → n = 0) : n ≤ n * c := by
  by_cases e : c = 0
  · rw [hz e]; simp
  · have := Int.mul_le_mul_of_nonneg_left (show (1 : Int) ≤ c by omega) h0
    omega
theorem t_panel_rows {p : TPanel} {b : ByteArray} {q c n t m : Int} (g : Good p) (f : Fits p) (hk : 0 ≤ kindF p b) (hq : 0 ≤ q ∧ q ≤ 3) (hc : 0 ≤ c ∧ c ≤ 2000000) (ht : 0 ≤ t ∧ t ≤ 2000000) (hn : 0 ≤ n ∧ n ≤ 2000000) (hm : 0 ≤ m ∧ m ≤ 2000000) (zn : c = 0 → n = 0) (zm : t = 0 → m = 0) : p_panel_rows p b q c n t m = some (rowsAll p b q c n t m) := by
  apply ok_val
  unfold p_panel_rows
  have o := g.toOpn
  obtain ⟨o1, o2, o3, o4, o5, o6, o7, o8⟩ := id o.toRgs
  have hkn := o.kn
  have hh : p.Kinds.length < 281474976710656 := by omega
  have hlt := kindF_lt p b
  have m1 := mulB hn.1 hn.2 hc.1 hc.2
  have m2 := mulB hm.1 hm.2 ht.1 ht.2
  have f1 := few hn.1 hc.1 zn
  have f2 := few hm.1 ht.1 zm
  (try dsimp only); (repeat' (first | (with_reducible apply s_panel_kindAt; case hd => (intro hc; simp only [Bool.not_not, Bool.not_eq_true, Bool.not_eq_false'] at hc; simp only [hc, Bool.true_or, Bool.false_and, Bool.not_true, Bool.not_false, Bool.or_true, Bool.and_false])) | (with_reducible apply o_panel_kindAt <;> try first | assumption | omega) | (with_reducible apply ok_guard; case h => (first | assumption | omega | (simp; done) | (simp; omega) | (and_intros <;> first | omega | (intro _; omega)) | (simp only [Bool.or_eq_true, Bool.and_eq_true, Bool.not_eq_true', Bool.not_eq_true, Bool.not_eq_false', Bool.not_eq_false, Bool.or_eq_false_iff, Bool.and_eq_false_iff, decide_eq_true_eq, decide_eq_false_iff_not, Bool.not_not, beq_iff_eq, bne_iff_ne] at *; omega))) | (with_reducible apply ok_guard) | (with_reducible apply ok_if <;> intro _) | (with_reducible apply ok_some) | (with_reducible apply ok_esc) | (with_reducible apply ok_then))); (all_goals try dsimp only); (all_goals try (exfalso; omega))
  · rw [rowsAll, if_pos ‹_›]
  · rename_i h5
    rw [rowsAll, if_neg h5]
    have hup := fun i => rowsUp_b (q := q) (n := n) o hk hc ht i
    refine ok_mono (P := fun e => e = (rowsUp p b (boardF p b) q c n t (n + m).toNat).2) (ok_for (n + m).toNat (fun i x => x = rowsUp p b (boardF p b) q c n t i) rfl ?_ ?_) ?_
    · intro i x hi hx
      subst hx
      obtain ⟨u1, u2⟩ := hup i
      have hz := o.size hk (if n ≤ i then q + 1 else q)
      have e1 : Ok (if n ≤ (i : Int) then if -9223372036854775808 ≤ q + 1 ∧ q + 1 ≤ 9223372036854775807 then some (t, q + 1) else none else some (c, q)) (fun z => z = ((if n ≤ i then t else c), (if n ≤ i then q + 1 else q))) := by
        (try dsimp only); (repeat' (first | (with_reducible apply ok_guard; case h => (first | assumption | omega | (simp; done) | (simp; omega) | (and_intros <;> first | omega | (intro _; omega)) | (simp only [Bool.or_eq_true, Bool.and_eq_true, Bool.not_eq_true', Bool.not_eq_true, Bool.not_eq_false', Bool.not_eq_false, Bool.or_eq_false_iff, Bool.and_eq_false_iff, decide_eq_true_eq, decide_eq_false_iff_not, Bool.not_not, beq_iff_eq, bne_iff_ne] at *; omega))) | (with_reducible apply ok_guard) | (with_reducible apply ok_if <;> intro _) | (with_reducible apply ok_some) | (with_reducible apply ok_esc) | (with_reducible apply ok_then))); (all_goals try dsimp only); (all_goals try (exfalso; omega))
        · rw [if_pos ‹_›, if_pos ‹_›]
        · rw [if_neg ‹_›, if_neg ‹_›]
      refine ok_if (fun _ => ?_) (fun h => by exfalso; omega)
      refine ok_then (ok_then (ok_mono e1 ?_))
      rintro _ rfl
      dsimp only
      refine ok_then (o_panel_sizeOf (ok_then (o_panel_row o hk (by split <;> omega) ?_)))
      have hrl := rowF_len (p := p) (b := b) (q := if n ≤ i then q + 1 else q) (w := (sizeF (boardF p b) (if n ≤ i then q + 1 else q)).1) (y := (rowsUp p b (boardF p b) q c n t i).1) (n := if n ≤ i then t else c)
      have hcc : (if n ≤ i then t else c).toNat ≤ 2000000 := by split <;> omega
      simp only [boardF] at hz
      (try dsimp only); (repeat' (first | (with_reducible apply ok_guard; case h => (first | assumption | omega | (simp; done) | (simp; omega) | (and_intros <;> first | omega | (intro _; omega)) | (simp only [Bool.or_eq_true, Bool.and_eq_true, Bool.not_eq_true', Bool.not_eq_true, Bool.not_eq_false', Bool.not_eq_false, Bool.or_eq_false_iff, Bool.and_eq_false_iff, decide_eq_true_eq, decide_eq_false_iff_not, Bool.not_not, beq_iff_eq, bne_iff_ne] at *; omega))) | (with_reducible apply ok_guard) | (with_reducible apply ok_if <;> intro _) | (with_reducible apply ok_some) | (with_reducible apply ok_esc) | (with_reducible apply ok_then))); (all_goals try dsimp only); (all_goals try (exfalso; omega))
      exact ⟨rfl, rfl⟩
    · intro x hx
      subst hx
      (try dsimp only); (repeat' (first | (with_reducible apply ok_guard; case h => (first | assumption | omega | (simp; done) | (simp; omega) | (and_intros <;> first | omega | (intro _; omega)) | (simp only [Bool.or_eq_true, Bool.and_eq_true, Bool.not_eq_true', Bool.not_eq_true, Bool.not_eq_false', Bool.not_eq_false, Bool.or_eq_false_iff, Bool.and_eq_false_iff, decide_eq_true_eq, decide_eq_false_iff_not, Bool.not_not, beq_iff_eq, bne_iff_ne] at *; omega))) | (with_reducible apply ok_guard) | (with_reducible apply ok_if <;> intro _) | (with_reducible apply ok_some) | (with_reducible apply ok_esc) | (with_reducible apply ok_then))); (all_goals try dsimp only); (all_goals try (exfalso; omega))
    · rintro _ rfl
      obtain ⟨u1, u2⟩ := hup (n + m).toNat
      (try dsimp only); (repeat' (first | (with_reducible apply ok_guard; case h => (first | assumption | omega | (simp; done) | (simp; omega) | (and_intros <;> first | omega | (intro _; omega)) | (simp only [Bool.or_eq_true, Bool.and_eq_true, Bool.not_eq_true', Bool.not_eq_true, Bool.not_eq_false', Bool.not_eq_false, Bool.or_eq_false_iff, Bool.and_eq_false_iff, decide_eq_true_eq, decide_eq_false_iff_not, Bool.not_not, beq_iff_eq, bne_iff_ne] at *; omega))) | (with_reducible apply ok_guard) | (with_reducible apply ok_if <;> intro _) | (with_reducible apply ok_some) | (with_reducible apply ok_esc) | (with_reducible apply ok_then))); (all_goals try dsimp only); (all_goals try (exfalso; omega))
      refine o_panel_own g ?_
      (try dsimp only); (repeat' (first | (with_reducible apply ok_guard; case h => (first | assumption | omega | (simp; done) | (simp; omega) | (and_intros <;> first | omega | (intro _; omega)) | (simp only [Bool.or_eq_true, Bool.and_eq_true, Bool.not_eq_true', Bool.not_eq_true, Bool.not_eq_false', Bool.not_eq_false, Bool.or_eq_false_iff, Bool.and_eq_false_iff, decide_eq_true_eq, decide_eq_false_iff_not, Bool.not_not, beq_iff_eq, bne_iff_ne] at *; omega))) | (with_reducible apply ok_guard) | (with_reducible apply ok_if <;> intro _) | (with_reducible apply ok_some) | (with_reducible apply ok_esc) | (with_reducible apply ok_then))); (all_goals try dsimp only); (all_goals try (exfalso; omega))
      refine o_panel_told (fits_with f (by omega)) ?_
      (try dsimp only); (repeat' (first | (with_reducible apply ok_guard; case h => (first | assumption | omega | (simp; done) | (simp; omega) | (and_intros <;> first | omega | (intro _; omega)) | (simp only [Bool.or_eq_true, Bool.and_eq_true, Bool.not_eq_true', Bool.not_eq_true, Bool.not_eq_false', Bool.not_eq_false, Bool.or_eq_false_iff, Bool.and_eq_false_iff, decide_eq_true_eq, decide_eq_false_iff_not, Bool.not_not, beq_iff_eq, bne_iff_ne] at *; omega))) | (with_reducible apply ok_guard) | (with_reducible apply ok_if <;> intro _) | (with_reducible apply ok_some) | (with_reducible apply ok_esc) | (with_reducible apply ok_then))); (all_goals try dsimp only); (all_goals try (exfalso; omega))
theorem o_panel_rows {p : TPanel} {b : ByteArray} {q c n t m : Int} (g : Good p) (f : Fits p) (hk : 0 ≤ kindF p b) (hq : 0 ≤ q ∧ q ≤ 3) (hc : 0 ≤ c ∧ c ≤ 2000000) (ht : 0 ≤ t ∧ t ≤ 2000000) (hn : 0 ≤ n ∧ n ≤ 2000000) (hm : 0 ≤ m ∧ m ≤ 2000000) (zn : c = 0 → n = 0) (zm : t = 0 → m = 0) {Q_ : _ → Prop} (k_ : Q_ (rowsAll p b q c n t m)) : Ok (p_panel_rows p b q c n t m) Q_ := ok_of (t_panel_rows g f hk hq hc ht hn hm zn zm) k_
theorem s_panel_rows {β : Type} {cc_ : Prop} {d_ : Decidable cc_} {p : TPanel} {b : ByteArray} {q c n t m : Int} (g : cc_ → (Good p)) (f : cc_ → (Fits p)) (hk : cc_ → (0 ≤ kindF p b)) (hq : cc_ → (0 ≤ q ∧ q ≤ 3)) (hc : cc_ → (0 ≤ c ∧ c ≤ 2000000)) (ht : cc_ → (0 ≤ t ∧ t ≤ 2000000)) (hn : cc_ → (0 ≤ n ∧ n ≤ 2000000)) (hm : cc_ → (0 ≤ m ∧ m ≤ 2000000)) (zn : cc_ → (c = 0 → n = 0)) (zm : cc_ → (t = 0 → m = 0)) {e_ : _} {f_ : _ → Option β} {Q_ : β → Prop} (hd : ¬ cc_ → f_ e_ = f_ (rowsAll p b q c n t m)) (k_ : Ok (f_ (rowsAll p b q c n t m)) Q_) : Ok (Option.bind (@ite _ cc_ d_ (p_panel_rows p b q c n t m) (some e_)) f_) Q_ := ok_short (fun hc__ => t_panel_rows (g hc__) (f hc__) (hk hc__) (hq hc__) (hc hc__) (ht hc__) (hn hc__) (hm hc__) (zn hc__) (zm hc__)) hd k_
theorem rowsUp_lt {p : TPanel} {b : ByteArray} {k : TBoardKind} {q c n t : Int} {i : Nat} (h : (i : Int) < n) : rowsUp p b k q c n t (i + 1) = ((rowsUp p b k q c n t i).1 + ((sizeF k q).2 + p.Gap), (rowsUp p b k q c n t i).2 ++ rowF p b q (sizeF k q).1 (rowsUp p b k q c n t i).1 c) := by
  have : ¬ n ≤ (i : Int) := by omega
  simp only [rowsUp, if_neg this]
theorem rowsUp_ge {p : TPanel} {b : ByteArray} {k : TBoardKind} {q c n t : Int} {i : Nat} (h : n ≤ (i : Int)) : rowsUp p b k q c n t (i + 1) = ((rowsUp p b k q c n t i).1 + ((sizeF k (q + 1)).2 + p.Gap), (rowsUp p b k q c n t i).2 ++ rowF p b (q + 1) (sizeF k (q + 1)).1 (rowsUp p b k q c n t i).1 t) := by
  simp only [rowsUp, if_pos h]
theorem rowsUp_y {p : TPanel} {b : ByteArray} {k : TBoardKind} {q c n t : Int} : ∀ i : Nat, (i : Int) ≤ n → (rowsUp p b k q c n t i).1 = p.Rail + i * ((sizeF k q).2 + p.Gap)
  | 0, _ => by simp [rowsUp]
  | i + 1, h => by
    rw [rowsUp_lt (by omega), rowsUp_y i (by omega)]
    have : ((i + 1 : Nat) : Int) * ((sizeF k q).2 + p.Gap) = (i : Int) * ((sizeF k q).2 + p.Gap) + ((sizeF k q).2 + p.Gap) := by
      rw [Int.natCast_add, Int.add_mul]; simp
    rw [this]; dsimp only; omega
noncomputable def colsF (p : TPanel) (b : ByteArray) (q : Int) : Int := manyF (p.W - 2 * p.Rail) (sizeF (boardF p b) q).1 p.Gap
noncomputable def linesF (p : TPanel) (b : ByteArray) (q : Int) : Int := if colsF p b q = 0 then 0 else manyF (p.H - 2 * p.Rail) (sizeF (boardF p b) q).2 p.Gap
noncomputable def gridF (p : TPanel) (b : ByteArray) (q : Int) : TPanel × Int :=
  if checkF p = 0 then
    if kindF p b < 0 then ({}, 9)
    else if (!(decide (0 ≤ q) && decide (q ≤ 3))) = true then ({}, 1)
    else rowsAll p b q (colsF p b q) (linesF p b q) 0 0
  else ({}, checkF p)
theorem cols_b {p : TPanel} {b : ByteArray} {q : Int} (o : Opn p) (h : 0 ≤ kindF p b) : 0 ≤ colsF p b q ∧ colsF p b q ≤ 2000000 := by
  have hz := o.size h q
  obtain ⟨o1, o2, o3, o4, o5, o6, o7, o8⟩ := id o.toRgs
  exact manyF_b (by omega) hz.1 o7 o8
theorem lines_b {p : TPanel} {b : ByteArray} {q : Int} (o : Opn p) (h : 0 ≤ kindF p b) : 0 ≤ linesF p b q ∧ linesF p b q ≤ 2000000 := by
  have hz := o.size h q
  obtain ⟨o1, o2, o3, o4, o5, o6, o7, o8⟩ := id o.toRgs
  have := manyF_b (room := p.H - 2 * p.Rail) (by omega) hz.2.2.1 o7 o8
  simp only [linesF]; split <;> omega
theorem t_panel_Grid {p : TPanel} {b : ByteArray} {q : Int} (f : Fits p) : p_panel_Grid p b q = some (gridF p b q) := by
  apply ok_val
  unfold p_panel_Grid
  have hkk := f.1
  refine ok_then (o_panel_CheckPanel f (ok_if (fun c => ?_) (fun c => ?_)))
  · have g := good_of c
    have o := g.toOpn
    have hlt := kindF_lt p b
    obtain ⟨o1, o2, o3, o4, o5, o6, o7, o8⟩ := id o.toRgs
    (try dsimp only); (repeat' (first | (with_reducible apply s_panel_kindAt; case hd => (intro hc; simp only [Bool.not_not, Bool.not_eq_true, Bool.not_eq_false'] at hc; simp only [hc, Bool.true_or, Bool.false_and, Bool.not_true, Bool.not_false, Bool.or_true, Bool.and_false])) | (with_reducible apply s_panel_within; case hd => (intro hc; simp only [Bool.not_not, Bool.not_eq_true, Bool.not_eq_false'] at hc; simp only [hc, Bool.true_or, Bool.false_and, Bool.not_true, Bool.not_false, Bool.or_true, Bool.and_false])) | (with_reducible apply o_panel_kindAt <;> try first | assumption | omega) | (with_reducible apply o_panel_within <;> try first | assumption | omega) | (with_reducible apply ok_guard; case h => (first | assumption | omega | (simp; done) | (simp; omega) | (and_intros <;> first | omega | (intro _; omega)) | (simp only [Bool.or_eq_true, Bool.and_eq_true, Bool.not_eq_true', Bool.not_eq_true, Bool.not_eq_false', Bool.not_eq_false, Bool.or_eq_false_iff, Bool.and_eq_false_iff, decide_eq_true_eq, decide_eq_false_iff_not, Bool.not_not, beq_iff_eq, bne_iff_ne] at *; omega))) | (with_reducible apply ok_guard) | (with_reducible apply ok_if <;> intro _) | (with_reducible apply ok_some) | (with_reducible apply ok_esc) | (with_reducible apply ok_then))); (all_goals try dsimp only); (all_goals try (exfalso; omega))
    · rw [gridF, if_pos c, if_pos ‹_›]
    · rename_i c2 c3; rw [gridF, if_pos c, if_neg c2, if_pos c3]
    · rename_i c2 c3
      have hk := Int.not_lt.1 c2
      have hz := o.size hk q
      have hg : gridF p b q = rowsAll p b q (colsF p b q) (linesF p b q) 0 0 := by rw [gridF, if_pos c, if_neg c2, if_neg c3]
      have b1 := cols_b (q := q) o hk
      have b2 := lines_b (q := q) o hk
      have hl : linesF p b q = if colsF p b q = 0 then 0 else manyF (p.H - 2 * p.Rail) (sizeF (boardF p b) q).2 p.Gap := rfl
      refine o_panel_sizeOf ?_
      (try dsimp only); (repeat' (first | (with_reducible apply ok_guard; case h => (first | assumption | omega | (simp; done) | (simp; omega) | (and_intros <;> first | omega | (intro _; omega)) | (simp only [Bool.or_eq_true, Bool.and_eq_true, Bool.not_eq_true', Bool.not_eq_true, Bool.not_eq_false', Bool.not_eq_false, Bool.or_eq_false_iff, Bool.and_eq_false_iff, decide_eq_true_eq, decide_eq_false_iff_not, Bool.not_not, beq_iff_eq, bne_iff_ne] at *; omega))) | (with_reducible apply ok_guard) | (with_reducible apply ok_if <;> intro _) | (with_reducible apply ok_some) | (with_reducible apply ok_esc) | (with_reducible apply ok_then))); (all_goals try dsimp only); (all_goals try (exfalso; omega))
      refine o_panel_many (by omega) ⟨hz.1, hz.2.1⟩ ⟨o7, o8⟩ ?_
      (try dsimp only); (repeat' (first | (with_reducible apply ok_guard; case h => (first | assumption | omega | (simp; done) | (simp; omega) | (and_intros <;> first | omega | (intro _; omega)) | (simp only [Bool.or_eq_true, Bool.and_eq_true, Bool.not_eq_true', Bool.not_eq_true, Bool.not_eq_false', Bool.not_eq_false, Bool.or_eq_false_iff, Bool.and_eq_false_iff, decide_eq_true_eq, decide_eq_false_iff_not, Bool.not_not, beq_iff_eq, bne_iff_ne] at *; omega))) | (with_reducible apply ok_guard) | (with_reducible apply ok_if <;> intro _) | (with_reducible apply ok_some) | (with_reducible apply ok_esc) | (with_reducible apply ok_then))); (all_goals try dsimp only); (all_goals try (exfalso; omega))
      refine o_panel_many (by omega) ⟨hz.2.2.1, hz.2.2.2⟩ ⟨o7, o8⟩ ?_
      refine ok_then (ok_mono (P := fun e => e = linesF p b q) ?_ ?_)
      · change Ok (if colsF p b q = 0 then some 0 else some (manyF (p.H - 2 * p.Rail) (sizeF (boardF p b) q).2 p.Gap)) _
        rw [hl]
        (try dsimp only); (repeat' (first | (with_reducible apply ok_guard; case h => (first | assumption | omega | (simp; done) | (simp; omega) | (and_intros <;> first | omega | (intro _; omega)) | (simp only [Bool.or_eq_true, Bool.and_eq_true, Bool.not_eq_true', Bool.not_eq_true, Bool.not_eq_false', Bool.not_eq_false, Bool.or_eq_false_iff, Bool.and_eq_false_iff, decide_eq_true_eq, decide_eq_false_iff_not, Bool.not_not, beq_iff_eq, bne_iff_ne] at *; omega))) | (with_reducible apply ok_guard) | (with_reducible apply ok_if <;> intro _) | (with_reducible apply ok_some) | (with_reducible apply ok_esc) | (with_reducible apply ok_then))); (all_goals try dsimp only); (all_goals try (exfalso; omega))
        · rw [if_pos ‹_›]
        · rw [if_neg ‹_›]
      · rintro _ rfl
        (simp only [Bool.or_eq_true, Bool.and_eq_true, Bool.not_eq_true', Bool.not_eq_true, Bool.not_eq_false', Bool.not_eq_false, Bool.or_eq_false_iff, Bool.and_eq_false_iff, decide_eq_true_eq, decide_eq_false_iff_not, Bool.not_not, beq_iff_eq, bne_iff_ne] at c3)
        refine ok_then (o_panel_rows g f hk (by omega) b1 (by omega) b2 (by omega) (fun e => by rw [hl]; exact if_pos e) (fun _ => rfl) ?_)
        (try dsimp only); (repeat' (first | (with_reducible apply ok_guard; case h => (first | assumption | omega | (simp; done) | (simp; omega) | (and_intros <;> first | omega | (intro _; omega)) | (simp only [Bool.or_eq_true, Bool.and_eq_true, Bool.not_eq_true', Bool.not_eq_true, Bool.not_eq_false', Bool.not_eq_false, Bool.or_eq_false_iff, Bool.and_eq_false_iff, decide_eq_true_eq, decide_eq_false_iff_not, Bool.not_not, beq_iff_eq, bne_iff_ne] at *; omega))) | (with_reducible apply ok_guard) | (with_reducible apply ok_if <;> intro _) | (with_reducible apply ok_some) | (with_reducible apply ok_esc) | (with_reducible apply ok_then))); (all_goals try dsimp only); (all_goals try (exfalso; omega))
        rw [hg]
  · refine ok_some ?_
    rw [gridF, if_neg c]
theorem o_panel_Grid {p : TPanel} {b : ByteArray} {q : Int} (f : Fits p) {Q_ : _ → Prop} (k_ : Q_ (gridF p b q)) : Ok (p_panel_Grid p b q) Q_ := ok_of (t_panel_Grid f) k_
theorem s_panel_Grid {β : Type} {cc_ : Prop} {d_ : Decidable cc_} {p : TPanel} {b : ByteArray} {q : Int} (f : cc_ → (Fits p)) {e_ : _} {f_ : _ → Option β} {Q_ : β → Prop} (hd : ¬ cc_ → f_ e_ = f_ (gridF p b q)) (k_ : Ok (f_ (gridF p b q)) Q_) : Ok (Option.bind (@ite _ cc_ d_ (p_panel_Grid p b q) (some e_)) f_) Q_ := ok_short (fun hc__ => t_panel_Grid (f hc__)) hd k_
theorem t_ref9_Grid {p : TPanel} {b : ByteArray} {q : Int} (f : Fits p) : p_ref9_Grid p b q = some (gridF p b q) := by
  apply ok_val
  unfold p_ref9_Grid
  have hkk := f.1
  refine ok_then (o_ref9_CheckPanel f (ok_if (fun c => ?_) (fun c => ?_)))
  · have g := good_of c
    have o := g.toOpn
    have hlt := kindF_lt p b
    obtain ⟨o1, o2, o3, o4, o5, o6, o7, o8⟩ := id o.toRgs
    (try dsimp only); (repeat' (first | (with_reducible apply s_ref9_kind; case hd => (intro hc; simp only [Bool.not_not, Bool.not_eq_true, Bool.not_eq_false'] at hc; simp only [hc, Bool.true_or, Bool.false_and, Bool.not_true, Bool.not_false, Bool.or_true, Bool.and_false])) | (with_reducible apply s_ref9_within; case hd => (intro hc; simp only [Bool.not_not, Bool.not_eq_true, Bool.not_eq_false'] at hc; simp only [hc, Bool.true_or, Bool.false_and, Bool.not_true, Bool.not_false, Bool.or_true, Bool.and_false])) | (with_reducible apply o_ref9_kind <;> try first | assumption | omega) | (with_reducible apply o_ref9_within <;> try first | assumption | omega) | (with_reducible apply ok_guard; case h => (first | assumption | omega | (simp; done) | (simp; omega) | (and_intros <;> first | omega | (intro _; omega)) | (simp only [Bool.or_eq_true, Bool.and_eq_true, Bool.not_eq_true', Bool.not_eq_true, Bool.not_eq_false', Bool.not_eq_false, Bool.or_eq_false_iff, Bool.and_eq_false_iff, decide_eq_true_eq, decide_eq_false_iff_not, Bool.not_not, beq_iff_eq, bne_iff_ne] at *; omega))) | (with_reducible apply ok_guard) | (with_reducible apply ok_if <;> intro _) | (with_reducible apply ok_some) | (with_reducible apply ok_esc) | (with_reducible apply ok_then))); (all_goals try dsimp only); (all_goals try (exfalso; omega))
    · rw [gridF, if_pos c, if_pos ‹_›]
    · rename_i c2 c3; rw [gridF, if_pos c, if_neg c2, if_pos c3]
    · rename_i c2 c3
      have hk := Int.not_lt.1 c2
      have hz := o.size hk q
      have hg : gridF p b q = rowsAll p b q (colsF p b q) (linesF p b q) 0 0 := by rw [gridF, if_pos c, if_neg c2, if_neg c3]
      have b1 := cols_b (q := q) o hk
      have b2 := lines_b (q := q) o hk
      have hl : linesF p b q = if colsF p b q = 0 then 0 else manyF (p.H - 2 * p.Rail) (sizeF (boardF p b) q).2 p.Gap := rfl
      have bm := manyF_b (room := p.H - 2 * p.Rail) (by omega) hz.2.2.1 o7 o8
      refine o_ref9_sizeOf ?_
      (try dsimp only); (repeat' (first | (with_reducible apply ok_guard; case h => (first | assumption | omega | (simp; done) | (simp; omega) | (and_intros <;> first | omega | (intro _; omega)) | (simp only [Bool.or_eq_true, Bool.and_eq_true, Bool.not_eq_true', Bool.not_eq_true, Bool.not_eq_false', Bool.not_eq_false, Bool.or_eq_false_iff, Bool.and_eq_false_iff, decide_eq_true_eq, decide_eq_false_iff_not, Bool.not_not, beq_iff_eq, bne_iff_ne] at *; omega))) | (with_reducible apply ok_guard) | (with_reducible apply ok_if <;> intro _) | (with_reducible apply ok_some) | (with_reducible apply ok_esc) | (with_reducible apply ok_then))); (all_goals try dsimp only); (all_goals try (exfalso; omega))
      refine o_ref9_fit (by omega) ⟨hz.1, hz.2.1⟩ ⟨o7, o8⟩ ?_
      (try dsimp only); (repeat' (first | (with_reducible apply ok_guard; case h => (first | assumption | omega | (simp; done) | (simp; omega) | (and_intros <;> first | omega | (intro _; omega)) | (simp only [Bool.or_eq_true, Bool.and_eq_true, Bool.not_eq_true', Bool.not_eq_true, Bool.not_eq_false', Bool.not_eq_false, Bool.or_eq_false_iff, Bool.and_eq_false_iff, decide_eq_true_eq, decide_eq_false_iff_not, Bool.not_not, beq_iff_eq, bne_iff_ne] at *; omega))) | (with_reducible apply ok_guard) | (with_reducible apply ok_if <;> intro _) | (with_reducible apply ok_some) | (with_reducible apply ok_esc) | (with_reducible apply ok_then))); (all_goals try dsimp only); (all_goals try (exfalso; omega))
      refine o_ref9_fit (by omega) ⟨hz.2.2.1, hz.2.2.2⟩ ⟨o7, o8⟩ ?_
      rw [hg]
      change Ok (if _ then if _ then if (decide (0 < colsF p b q) && decide (Int.tdiv 500 (colsF p b q) < manyF (p.H - 2 * p.Rail) (sizeF (boardF p b) q).2 p.Gap)) = true then _ else _ else _ else _) _
      have hdiv : 0 ≤ Int.tdiv 500 (colsF p b q) ∧ Int.tdiv 500 (colsF p b q) ≤ 500 := by
        by_cases e : colsF p b q = 0
        · rw [e]; decide
        · exact tdiv_b (by omega) (by omega)
      have h500 : 0 < colsF p b q → (Int.tdiv 500 (colsF p b q) < linesF p b q ↔ 500 < linesF p b q * colsF p b q + 0 * 0) := fun h => by
        rw [Int.tdiv_eq_ediv_of_nonneg (by omega), Int.ediv_lt_iff_lt_mul h]; omega
      refine ok_guard (fun h e => by rw [decide_eq_true_eq] at h; omega) (ok_guard (by have := hdiv; simp only [colsF] at this; omega) (ok_if (fun c4 => ?_) (fun c4 => ?_)))
      · simp only [Bool.and_eq_true, decide_eq_true_eq] at c4
        have e : linesF p b q = manyF (p.H - 2 * p.Rail) (sizeF (boardF p b) q).2 p.Gap := by rw [hl, if_neg (by omega)]
        rw [← e] at c4
        refine ok_some ?_
        rw [rowsAll, if_pos ((h500 c4.1).1 c4.2)]
      · simp only [Bool.and_eq_true, decide_eq_true_eq] at c4
        have hle : ¬ 500 < linesF p b q * colsF p b q + 0 * 0 := fun h => by
          by_cases e : colsF p b q = 0
          · rw [e] at h; simp at h
          · have e2 : linesF p b q = manyF (p.H - 2 * p.Rail) (sizeF (boardF p b) q).2 p.Gap := by rw [hl, if_neg e]
            rw [← e2] at c4
            exact c4 ⟨by omega, (h500 (by omega)).2 h⟩
        have hfew := few b2.1 b1.1 (fun e => by rw [hl]; exact if_pos e)
        have hup := fun i => rowsUp_b (q := q) (n := linesF p b q) (c := colsF p b q) (t := 0) o hk b1 (by omega) i
        refine ok_then (ok_mono (P := fun e => e = (rowsUp p b (boardF p b) q (colsF p b q) (linesF p b q) 0 (linesF p b q).toNat).2) (ok_for (linesF p b q).toNat (fun i x => x = (rowsUp p b (boardF p b) q (colsF p b q) (linesF p b q) 0 i).2) rfl ?_ ?_) ?_)
        · intro i x hi hx
          subst hx
          obtain ⟨u1, u2⟩ := hup i
          have hc0 : colsF p b q ≠ 0 := fun e => by rw [hl, if_pos e] at hi; simp at hi
          have e2 : linesF p b q = manyF (p.H - 2 * p.Rail) (sizeF (boardF p b) q).2 p.Gap := by rw [hl, if_neg hc0]
          have hy := rowsUp_y (p := p) (b := b) (k := boardF p b) (q := q) (c := colsF p b q) (n := linesF p b q) (t := 0) i (by omega)
          have hmm := mulB (a := (i : Int)) (b := (sizeF (boardF p b) q).2 + p.Gap) (A := 500) (B := 2000000) (by omega) (by omega) (by omega) (by omega)
          rw [rowsUp_lt (by omega)]
          change Ok (if (decide ((i : Int) < manyF (p.H - 2 * p.Rail) (sizeF (boardF p b) q).2 p.Gap) && decide (0 < colsF p b q)) = true then _ else _) _
          rw [← e2]
          refine ok_if (fun _ => ?_) (fun h => by exfalso; simp at h; omega)
          simp only [boardF] at hz hmm
          (try dsimp only); (repeat' (first | (with_reducible apply ok_guard; case h => (first | assumption | omega | (simp; done) | (simp; omega) | (and_intros <;> first | omega | (intro _; omega)) | (simp only [Bool.or_eq_true, Bool.and_eq_true, Bool.not_eq_true', Bool.not_eq_true, Bool.not_eq_false', Bool.not_eq_false, Bool.or_eq_false_iff, Bool.and_eq_false_iff, decide_eq_true_eq, decide_eq_false_iff_not, Bool.not_not, beq_iff_eq, bne_iff_ne] at *; omega))) | (with_reducible apply ok_guard) | (with_reducible apply ok_if <;> intro _) | (with_reducible apply ok_some) | (with_reducible apply ok_esc) | (with_reducible apply ok_then))); (all_goals try dsimp only); (all_goals try (exfalso; omega))
          refine o_ref9_row_o o.toRgs ⟨hz.1, hz.2.1⟩ (by omega) b1.2 ?_
          (try dsimp only); (repeat' (first | (with_reducible apply ok_guard; case h => (first | assumption | omega | (simp; done) | (simp; omega) | (and_intros <;> first | omega | (intro _; omega)) | (simp only [Bool.or_eq_true, Bool.and_eq_true, Bool.not_eq_true', Bool.not_eq_true, Bool.not_eq_false', Bool.not_eq_false, Bool.or_eq_false_iff, Bool.and_eq_false_iff, decide_eq_true_eq, decide_eq_false_iff_not, Bool.not_not, beq_iff_eq, bne_iff_ne] at *; omega))) | (with_reducible apply ok_guard) | (with_reducible apply ok_if <;> intro _) | (with_reducible apply ok_some) | (with_reducible apply ok_esc) | (with_reducible apply ok_then))); (all_goals try dsimp only); (all_goals try (exfalso; omega))
          refine ⟨rfl, ?_⟩
          rw [hy]; rfl
        · intro x hx
          subst hx
          change Ok (if (decide (((linesF p b q).toNat : Int) < manyF (p.H - 2 * p.Rail) (sizeF (boardF p b) q).2 p.Gap) && decide (0 < colsF p b q)) = true then _ else _) _
          refine ok_if (fun h => ?_) (fun _ => ok_some rfl)
          exfalso
          simp only [Bool.and_eq_true, decide_eq_true_eq] at h
          have e2 : linesF p b q = manyF (p.H - 2 * p.Rail) (sizeF (boardF p b) q).2 p.Gap := by rw [hl, if_neg (by omega)]
          omega
        · rintro _ rfl
          obtain ⟨u1, u2⟩ := hup (linesF p b q).toNat
          refine ok_then (o_ref9_laid f (by omega) ?_)
          (try dsimp only); (repeat' (first | (with_reducible apply ok_guard; case h => (first | assumption | omega | (simp; done) | (simp; omega) | (and_intros <;> first | omega | (intro _; omega)) | (simp only [Bool.or_eq_true, Bool.and_eq_true, Bool.not_eq_true', Bool.not_eq_true, Bool.not_eq_false', Bool.not_eq_false, Bool.or_eq_false_iff, Bool.and_eq_false_iff, decide_eq_true_eq, decide_eq_false_iff_not, Bool.not_not, beq_iff_eq, bne_iff_ne] at *; omega))) | (with_reducible apply ok_guard) | (with_reducible apply ok_if <;> intro _) | (with_reducible apply ok_some) | (with_reducible apply ok_esc) | (with_reducible apply ok_then))); (all_goals try dsimp only); (all_goals try (exfalso; omega))
          rw [rowsAll, if_neg hle]; simp
  · refine ok_some ?_
    rw [gridF, if_neg c]
theorem o_ref9_Grid {p : TPanel} {b : ByteArray} {q : Int} (f : Fits p) {Q_ : _ → Prop} (k_ : Q_ (gridF p b q)) : Ok (p_ref9_Grid p b q) Q_ := ok_of (t_ref9_Grid f) k_
theorem s_ref9_Grid {β : Type} {cc_ : Prop} {d_ : Decidable cc_} {p : TPanel} {b : ByteArray} {q : Int} (f : cc_ → (Fits p)) {e_ : _} {f_ : _ → Option β} {Q_ : β → Prop} (hd : ¬ cc_ → f_ e_ = f_ (gridF p b q)) (k_ : Ok (f_ (gridF p b q)) Q_) : Ok (Option.bind (@ite _ cc_ d_ (p_ref9_Grid p b q) (some e_)) f_) Q_ := ok_short (fun hc__ => t_ref9_Grid (f hc__)) hd k_
end Go.Nw
