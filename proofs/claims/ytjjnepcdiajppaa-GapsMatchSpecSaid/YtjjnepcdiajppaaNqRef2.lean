/- NqRef2: a part of the proof. -/
import Derived.Test.YtjjnepcdiajppaaNqRef1
set_option linter.unusedVariables false
set_option linter.unusedSimpArgs false
set_option maxRecDepth 100000
namespace Go.Nw
theorem o_ref1_heights {l : List TRect} (hl : l.length < 1000000) {Q : List Int → Prop} (k : ∀ ys, Hts l ys → ys.length ≤ 2 * l.length → Q ys) : Ok (p_ref1_heights l) Q := by
  unfold p_ref1_heights
  (try dsimp only); (repeat' (first | (with_reducible apply ok_guard; case h => (first | assumption | omega | (simp; done) | (simp; omega) | (and_intros <;> first | omega | (intro _; omega)) | (simp only [Bool.or_eq_true, Bool.and_eq_true, Bool.not_eq_true', Bool.not_eq_true, Bool.not_eq_false', Bool.not_eq_false, Bool.or_eq_false_iff, Bool.and_eq_false_iff, decide_eq_true_eq, decide_eq_false_iff_not, Bool.not_not, beq_iff_eq, bne_iff_ne] at *; omega))) | (with_reducible apply ok_guard) | (with_reducible apply ok_if <;> intro _) | (with_reducible apply ok_some) | (with_reducible apply ok_esc) | (with_reducible apply ok_then))); (all_goals try dsimp only); (all_goals try (exfalso; omega))
  refine ok_for l.length (fun i out => Up out ∧ (∀ a, a ∈ out ↔ ∃ r ∈ l.take i, a = r.Y0 ∨ a = r.Y1) ∧ out.length ≤ 2 * i) ⟨List.Pairwise.nil, fun a => by simp, by simp⟩ ?_ ?_
  · rintro i out hi ⟨h1, h2, h3⟩
    simp only [Int.toNat_natCast]
    have g1 := putF_len out (l.getD i default).Y0
    have g2 := putF_len (putF out (l.getD i default).Y0) (l.getD i default).Y1
    (try dsimp only); (repeat' (first | (with_reducible apply ok_guard; case h => (first | assumption | omega | (simp; done) | (simp; omega) | (and_intros <;> first | omega | (intro _; omega)) | (simp only [Bool.or_eq_true, Bool.and_eq_true, Bool.not_eq_true', Bool.not_eq_true, Bool.not_eq_false', Bool.not_eq_false, Bool.or_eq_false_iff, Bool.and_eq_false_iff, decide_eq_true_eq, decide_eq_false_iff_not, Bool.not_not, beq_iff_eq, bne_iff_ne] at *; omega))) | (with_reducible apply ok_guard) | (with_reducible apply ok_if <;> intro _) | (with_reducible apply ok_some) | (with_reducible apply ok_esc) | (with_reducible apply ok_then))); (all_goals try dsimp only); (all_goals try (exfalso; omega))
    refine o_ref1_put (by omega) h1 ?_
    (try dsimp only); (repeat' (first | (with_reducible apply ok_guard; case h => (first | assumption | omega | (simp; done) | (simp; omega) | (and_intros <;> first | omega | (intro _; omega)) | (simp only [Bool.or_eq_true, Bool.and_eq_true, Bool.not_eq_true', Bool.not_eq_true, Bool.not_eq_false', Bool.not_eq_false, Bool.or_eq_false_iff, Bool.and_eq_false_iff, decide_eq_true_eq, decide_eq_false_iff_not, Bool.not_not, beq_iff_eq, bne_iff_ne] at *; omega))) | (with_reducible apply ok_guard) | (with_reducible apply ok_if <;> intro _) | (with_reducible apply ok_some) | (with_reducible apply ok_esc) | (with_reducible apply ok_then))); (all_goals try dsimp only); (all_goals try (exfalso; omega))
    refine o_ref1_put (by omega) (putF_up h1 _) ?_
    (try dsimp only); (repeat' (first | (with_reducible apply ok_guard; case h => (first | assumption | omega | (simp; done) | (simp; omega) | (and_intros <;> first | omega | (intro _; omega)) | (simp only [Bool.or_eq_true, Bool.and_eq_true, Bool.not_eq_true', Bool.not_eq_true, Bool.not_eq_false', Bool.not_eq_false, Bool.or_eq_false_iff, Bool.and_eq_false_iff, decide_eq_true_eq, decide_eq_false_iff_not, Bool.not_not, beq_iff_eq, bne_iff_ne] at *; omega))) | (with_reducible apply ok_guard) | (with_reducible apply ok_if <;> intro _) | (with_reducible apply ok_some) | (with_reducible apply ok_esc) | (with_reducible apply ok_then))); (all_goals try dsimp only); (all_goals try (exfalso; omega))
    refine ⟨by simp, putF_up (putF_up h1 _) _, fun a => ?_, by omega⟩
    rw [mem_putF, mem_putF, h2, take_snoc (d := default) hi]
    simp only [List.mem_append, List.mem_singleton]
    constructor
    · rintro (h | h | ⟨r, h, h'⟩)
      · exact ⟨_, .inr rfl, .inr h⟩
      · exact ⟨_, .inr rfl, .inl h⟩
      · exact ⟨r, .inl h, h'⟩
    · rintro ⟨r, h | rfl, h'⟩
      · exact .inr (.inr ⟨r, h, h'⟩)
      · rcases h' with h | h
        · exact .inr (.inl h)
        · exact .inl h
  · rintro out ⟨h1, h2, h3⟩
    (try dsimp only); (repeat' (first | (with_reducible apply ok_guard; case h => (first | assumption | omega | (simp; done) | (simp; omega) | (and_intros <;> first | omega | (intro _; omega)) | (simp only [Bool.or_eq_true, Bool.and_eq_true, Bool.not_eq_true', Bool.not_eq_true, Bool.not_eq_false', Bool.not_eq_false, Bool.or_eq_false_iff, Bool.and_eq_false_iff, decide_eq_true_eq, decide_eq_false_iff_not, Bool.not_not, beq_iff_eq, bne_iff_ne] at *; omega))) | (with_reducible apply ok_guard) | (with_reducible apply ok_if <;> intro _) | (with_reducible apply ok_some) | (with_reducible apply ok_esc) | (with_reducible apply ok_then))); (all_goals try dsimp only); (all_goals try (exfalso; omega))
    rw [List.take_length] at h2
    exact k out ⟨h1, h2⟩ h3
def rb (b : Bd) : TEtchhouseref1band := { from_ := b.y0, to_ := b.y1, spans := (pairsX b.xs).map sp }
theorem t_ref1_sameSpans {l m : List TEtchhouseref1span} (hl : l.length < 281474976710656) : p_ref1_sameSpans l m = some (decide (l = m)) := by
  apply ok_val
  unfold p_ref1_sameSpans
  (try dsimp only); (repeat' (first | (with_reducible apply ok_guard; case h => (first | assumption | omega | (simp; done) | (simp; omega) | (and_intros <;> first | omega | (intro _; omega)) | (simp only [Bool.or_eq_true, Bool.and_eq_true, Bool.not_eq_true', Bool.not_eq_true, Bool.not_eq_false', Bool.not_eq_false, Bool.or_eq_false_iff, Bool.and_eq_false_iff, decide_eq_true_eq, decide_eq_false_iff_not, Bool.not_not, beq_iff_eq, bne_iff_ne] at *; omega))) | (with_reducible apply ok_guard) | (with_reducible apply ok_if <;> intro _) | (with_reducible apply ok_some) | (with_reducible apply ok_esc) | (with_reducible apply ok_then))); (all_goals try dsimp only); (all_goals try (exfalso; omega))
  · refine ok_for l.length (fun i _ => ∀ j < i, l.getD j default = m.getD j default) (by intro j h; omega) ?_ ?_
    · intro i x hi hI
      simp only [Int.toNat_natCast]
      (try dsimp only); (repeat' (first | (with_reducible apply ok_guard; case h => (first | assumption | omega | (simp; done) | (simp; omega) | (and_intros <;> first | omega | (intro _; omega)) | (simp only [Bool.or_eq_true, Bool.and_eq_true, Bool.not_eq_true', Bool.not_eq_true, Bool.not_eq_false', Bool.not_eq_false, Bool.or_eq_false_iff, Bool.and_eq_false_iff, decide_eq_true_eq, decide_eq_false_iff_not, Bool.not_not, beq_iff_eq, bne_iff_ne] at *; omega))) | (with_reducible apply ok_guard) | (with_reducible apply ok_if <;> intro _) | (with_reducible apply ok_some) | (with_reducible apply ok_esc) | (with_reducible apply ok_then))); (all_goals try dsimp only); (all_goals try (exfalso; omega))
      · rename_i h1 h2
        exact ⟨rfl, all_lt hI h2⟩
      · rename_i h1 h2
        exact (decide_eq_false fun e => h2 (by rw [e])).symm
    · intro x hI
      (try dsimp only); (repeat' (first | (with_reducible apply ok_guard; case h => (first | assumption | omega | (simp; done) | (simp; omega) | (and_intros <;> first | omega | (intro _; omega)) | (simp only [Bool.or_eq_true, Bool.and_eq_true, Bool.not_eq_true', Bool.not_eq_true, Bool.not_eq_false', Bool.not_eq_false, Bool.or_eq_false_iff, Bool.and_eq_false_iff, decide_eq_true_eq, decide_eq_false_iff_not, Bool.not_not, beq_iff_eq, bne_iff_ne] at *; omega))) | (with_reducible apply ok_guard) | (with_reducible apply ok_if <;> intro _) | (with_reducible apply ok_some) | (with_reducible apply ok_esc) | (with_reducible apply ok_then))); (all_goals try dsimp only); (all_goals try (exfalso; omega))
      rename_i h1 h2
      exact (decide_eq_true (eq_of_getD (by omega) hI)).symm
  · rename_i h1
    exact (decide_eq_false fun e => h1 (by rw [e])).symm
theorem o_ref1_sameSpans {l m : List TEtchhouseref1span} (hl : l.length < 281474976710656) {Q_ : _ → Prop} (k_ : Q_ (decide (l = m))) : Ok (p_ref1_sameSpans l m) Q_ := ok_of (t_ref1_sameSpans hl) k_
theorem s_ref1_sameSpans {β : Type} {cc_ : Prop} {d_ : Decidable cc_} {l m : List TEtchhouseref1span} (hl : cc_ → (l.length < 281474976710656)) {e_ : _} {f_ : _ → Option β} {Q_ : β → Prop} (hd : ¬ cc_ → f_ e_ = f_ (decide (l = m))) (k_ : Ok (f_ (decide (l = m))) Q_) : Ok (Option.bind (@ite _ cc_ d_ (p_ref1_sameSpans l m) (some e_)) f_) Q_ := ok_short (fun hc__ => t_ref1_sameSpans (hl hc__)) hd k_
theorem t_ref1_SameRects {l m : List TRect} (hl : l.length < 281474976710656) : p_ref1_SameRects l m = some (decide (l = m)) := by
  apply ok_val
  unfold p_ref1_SameRects
  (try dsimp only); (repeat' (first | (with_reducible apply ok_guard; case h => (first | assumption | omega | (simp; done) | (simp; omega) | (and_intros <;> first | omega | (intro _; omega)) | (simp only [Bool.or_eq_true, Bool.and_eq_true, Bool.not_eq_true', Bool.not_eq_true, Bool.not_eq_false', Bool.not_eq_false, Bool.or_eq_false_iff, Bool.and_eq_false_iff, decide_eq_true_eq, decide_eq_false_iff_not, Bool.not_not, beq_iff_eq, bne_iff_ne] at *; omega))) | (with_reducible apply ok_guard) | (with_reducible apply ok_if <;> intro _) | (with_reducible apply ok_some) | (with_reducible apply ok_esc) | (with_reducible apply ok_then))); (all_goals try dsimp only); (all_goals try (exfalso; omega))
  · refine ok_for l.length (fun i _ => ∀ j < i, l.getD j default = m.getD j default) (by intro j h; omega) ?_ ?_
    · intro i x hi hI
      simp only [Int.toNat_natCast]
      (try dsimp only); (repeat' (first | (with_reducible apply ok_guard; case h => (first | assumption | omega | (simp; done) | (simp; omega) | (and_intros <;> first | omega | (intro _; omega)) | (simp only [Bool.or_eq_true, Bool.and_eq_true, Bool.not_eq_true', Bool.not_eq_true, Bool.not_eq_false', Bool.not_eq_false, Bool.or_eq_false_iff, Bool.and_eq_false_iff, decide_eq_true_eq, decide_eq_false_iff_not, Bool.not_not, beq_iff_eq, bne_iff_ne] at *; omega))) | (with_reducible apply ok_guard) | (with_reducible apply ok_if <;> intro _) | (with_reducible apply ok_some) | (with_reducible apply ok_esc) | (with_reducible apply ok_then))); (all_goals try dsimp only); (all_goals try (exfalso; omega))
      · rename_i h1 h2
        exact ⟨rfl, all_lt hI h2⟩
      · rename_i h1 h2
        exact (decide_eq_false fun e => h2 (by rw [e])).symm
    · intro x hI
      (try dsimp only); (repeat' (first | (with_reducible apply ok_guard; case h => (first | assumption | omega | (simp; done) | (simp; omega) | (and_intros <;> first | omega | (intro _; omega)) | (simp only [Bool.or_eq_true, Bool.and_eq_true, Bool.not_eq_true', Bool.not_eq_true, Bool.not_eq_false', Bool.not_eq_false, Bool.or_eq_false_iff, Bool.and_eq_false_iff, decide_eq_true_eq, decide_eq_false_iff_not, Bool.not_not, beq_iff_eq, bne_iff_ne] at *; omega))) | (with_reducible apply ok_guard) | (with_reducible apply ok_if <;> intro _) | (with_reducible apply ok_some) | (with_reducible apply ok_esc) | (with_reducible apply ok_then))); (all_goals try dsimp only); (all_goals try (exfalso; omega))
      rename_i h1 h2
      exact (decide_eq_true (eq_of_getD (by omega) hI)).symm
  · rename_i h1
    exact (decide_eq_false fun e => h1 (by rw [e])).symm
theorem o_ref1_SameRects {l m : List TRect} (hl : l.length < 281474976710656) {Q_ : _ → Prop} (k_ : Q_ (decide (l = m))) : Ok (p_ref1_SameRects l m) Q_ := ok_of (t_ref1_SameRects hl) k_
theorem s_ref1_SameRects {β : Type} {cc_ : Prop} {d_ : Decidable cc_} {l m : List TRect} (hl : cc_ → (l.length < 281474976710656)) {e_ : _} {f_ : _ → Option β} {Q_ : β → Prop} (hd : ¬ cc_ → f_ e_ = f_ (decide (l = m))) (k_ : Ok (f_ (decide (l = m))) Q_) : Ok (Option.bind (@ite _ cc_ d_ (p_ref1_SameRects l m) (some e_)) f_) Q_ := ok_short (fun hc__ => t_ref1_SameRects (hl hc__)) hd k_
theorem spans_eq {a b : List Int} (ha : a.length % 2 = 0) (hb : b.length % 2 = 0) : (pairsX a).map sp = (pairsX b).map sp ↔ a = b := by
  rw [sp_inj]
  constructor
  · intro h; rw [← fl_pairsX ha, h, fl_pairsX hb]
  · rintro rfl; rfl
theorem t_ref1_stacked_o {s : List Bd} {b : Bd} (hl : s.length < 1000000000000) (hx : ∀ c ∈ s, c.xs.length < 1000000000000 ∧ c.xs.length % 2 = 0) (hb : b.xs.length % 2 = 0) (hy : b.y0 < b.y1) : p_ref1_stacked_o (s.map rb) (rb b) = some ((pushB s b).map rb) := by
  apply ok_val
  unfold p_ref1_stacked_o
  have hbl : (rb b).spans.length = b.xs.length / 2 := by simp [rb, pairsX_len]
  have h0 : (rb b).from_ = b.y0 := rfl
  have h1 : (rb b).to_ = b.y1 := rfl
  have hbs : (rb b).spans = (pairsX b.xs).map sp := rfl
  simp only [List.length_map, hbl, h0, h1]
  by_cases hc : b.xs = []
  · rw [if_pos (by rw [hc]; rfl), pushB, if_pos (.inl hc)]
    exact ok_some rfl
  have hc' : ¬ (b.xs = [] ∨ b.y1 ≤ b.y0) := by rintro (h | h); exact hc h; omega
  have hne : b.xs.length ≠ 0 := fun h => hc (List.eq_nil_of_length_eq_zero h)
  rw [if_neg (by omega), pushB, if_neg hc']
  rcases List.eq_nil_or_concat s with rfl | ⟨s', c, rfl⟩
  · (try dsimp only); (repeat' (first | (with_reducible apply ok_guard; case h => (first | assumption | omega | (simp; done) | (simp; omega) | (and_intros <;> first | omega | (intro _; omega)) | (simp only [Bool.or_eq_true, Bool.and_eq_true, Bool.not_eq_true', Bool.not_eq_true, Bool.not_eq_false', Bool.not_eq_false, Bool.or_eq_false_iff, Bool.and_eq_false_iff, decide_eq_true_eq, decide_eq_false_iff_not, Bool.not_not, beq_iff_eq, bne_iff_ne] at *; omega))) | (with_reducible apply ok_guard) | (with_reducible apply ok_if <;> intro _) | (with_reducible apply ok_some) | (with_reducible apply ok_esc) | (with_reducible apply ok_then))); (all_goals try dsimp only); (all_goals try (exfalso; omega))
    · rename_i h; simp at h
    · rename_i h; simp at h
    · rfl
  · rw [List.concat_eq_append] at *
    have e0 : ((s' ++ [c]).length : Int) - 1 = (s'.length : Int) := by simp
    have e2 : (List.map rb (s' ++ [c])).getD s'.length default = rb c := by simp
    have e3 : (s' ++ [c]).getLast? = some c := by simp
    have e4 : (s' ++ [c]).dropLast = s' := by simp
    have e5 : (s' ++ [c]).length = s'.length + 1 := by simp
    have c1 : (rb c).to_ = c.y1 := rfl
    have c0 : (rb c).from_ = c.y0 := rfl
    have cx : (rb c).spans = (pairsX c.xs).map sp := rfl
    have e6 : ∀ v, (List.map rb (s' ++ [c])).set s'.length v = List.map rb s' ++ [v] := fun v => by
      rw [List.map_append, List.set_append_right _ _ (by simp)]; simp
    obtain ⟨hcx, hce⟩ := hx c (by simp)
    have hcl : ((pairsX c.xs).map sp).length < 281474976710656 := by rw [List.length_map, pairsX_len]; omega
    have e7 : decide ((0 : Int) < ((s' ++ [c]).length : Int)) = true := decide_eq_true (by rw [e5]; omega)
    simp only [e0, Int.toNat_natCast, e2, e3, e4, c1, c0, cx, e6, e7, Bool.true_and]
    simp only [e5] at hl ⊢
    rw [if_pos ⟨by omega, by omega⟩, if_pos ⟨fun _ => ⟨by omega, by omega⟩, fun _ => by omega, fun _ => ⟨by omega, by omega⟩, fun _ => by omega⟩]
    by_cases h : c.y1 = b.y0
    · rw [if_pos (decide_eq_true h)]
      refine ok_then (o_ref1_sameSpans hcl ?_)
      by_cases hq : c.xs = b.xs
      · rw [if_pos (by simp [h, hbs, hq]), if_pos (by simp), if_pos ⟨h, hq⟩]
        refine ok_some ?_
        rw [List.take_of_length_le (by simp)]
        simp [rb]
      · rw [if_neg (by simp only [Bool.and_eq_true, decide_eq_true_eq, hbs, spans_eq hce hb]; exact fun e => hq e.2), if_pos (by omega), if_neg (fun e => hq e.2)]
        refine ok_some ?_
        simp
    · rw [if_neg (by simp [h])]
      refine ok_then (ok_some ?_)
      rw [if_neg (by simp [h]), if_pos (by omega), if_neg (fun e => h e.1)]
      refine ok_some ?_
      simp
theorem o_ref1_stacked_o {s : List Bd} {b : Bd} (hl : s.length < 1000000000000) (hx : ∀ c ∈ s, c.xs.length < 1000000000000 ∧ c.xs.length % 2 = 0) (hb : b.xs.length % 2 = 0) (hy : b.y0 < b.y1) {Q_ : _ → Prop} (k_ : Q_ ((pushB s b).map rb)) : Ok (p_ref1_stacked_o (s.map rb) (rb b)) Q_ := ok_of (t_ref1_stacked_o hl hx hb hy) k_
theorem s_ref1_stacked_o {β : Type} {cc_ : Prop} {d_ : Decidable cc_} {s : List Bd} {b : Bd} (hl : cc_ → (s.length < 1000000000000)) (hx : cc_ → (∀ c ∈ s, c.xs.length < 1000000000000 ∧ c.xs.length % 2 = 0)) (hb : cc_ → (b.xs.length % 2 = 0)) (hy : cc_ → (b.y0 < b.y1)) {e_ : _} {f_ : _ → Option β} {Q_ : β → Prop} (hd : ¬ cc_ → f_ e_ = f_ ((pushB s b).map rb)) (k_ : Ok (f_ ((pushB s b).map rb)) Q_) : Ok (Option.bind (@ite _ cc_ d_ (p_ref1_stacked_o (s.map rb) (rb b)) (some e_)) f_) Q_ := ok_short (fun hc__ => t_ref1_stacked_o (hl hc__) (hx hc__) (hb hc__) (hy hc__)) hd k_
theorem t_ref1_told {s : List Bd} (hl : s.length < 1000000000000) (he : ∀ b ∈ s, b.xs.length % 2 = 0) (hn : (rectsOf s).length < 1000000000000) : p_ref1_told (s.map rb) = some (rectsOf s) := by
  apply ok_val
  unfold p_ref1_told
  simp only [List.length_map]
  (try dsimp only); (repeat' (first | (with_reducible apply ok_guard; case h => (first | assumption | omega | (simp; done) | (simp; omega) | (and_intros <;> first | omega | (intro _; omega)) | (simp only [Bool.or_eq_true, Bool.and_eq_true, Bool.not_eq_true', Bool.not_eq_true, Bool.not_eq_false', Bool.not_eq_false, Bool.or_eq_false_iff, Bool.and_eq_false_iff, decide_eq_true_eq, decide_eq_false_iff_not, Bool.not_not, beq_iff_eq, bne_iff_ne] at *; omega))) | (with_reducible apply ok_guard) | (with_reducible apply ok_if <;> intro _) | (with_reducible apply ok_some) | (with_reducible apply ok_esc) | (with_reducible apply ok_then))); (all_goals try dsimp only); (all_goals try (exfalso; omega))
  refine ok_for s.length (fun i out => out = rectsOf (s.take i)) (by simp [rectsOf]) ?_ ?_
  · rintro i out hi rfl
    have h1 := rectsOf_le (s := s) (i + 1)
    rw [rectsOf_take hi, List.length_append, rectsB_len] at h1
    have e1 : (List.map rb s).getD i default = rb s[i] := by simp [hi]
    have e2 : (rb s[i]).spans = (pairsX s[i].xs).map sp := rfl
    have e3 : (rb s[i]).from_ = s[i].y0 := rfl
    have e4 : (rb s[i]).to_ = s[i].y1 := rfl
    simp only [Int.toNat_natCast, e1, e2, e3, e4, List.length_map]
    (try dsimp only); (repeat' (first | (with_reducible apply ok_guard; case h => (first | assumption | omega | (simp; done) | (simp; omega) | (and_intros <;> first | omega | (intro _; omega)) | (simp only [Bool.or_eq_true, Bool.and_eq_true, Bool.not_eq_true', Bool.not_eq_true, Bool.not_eq_false', Bool.not_eq_false, Bool.or_eq_false_iff, Bool.and_eq_false_iff, decide_eq_true_eq, decide_eq_false_iff_not, Bool.not_not, beq_iff_eq, bne_iff_ne] at *; omega))) | (with_reducible apply ok_guard) | (with_reducible apply ok_if <;> intro _) | (with_reducible apply ok_some) | (with_reducible apply ok_esc) | (with_reducible apply ok_then))); (all_goals try dsimp only); (all_goals try (exfalso; omega))
    refine ok_for (pairsX s[i].xs).length (fun q out => out = rectsOf (s.take i) ++ ((pairsX s[i].xs).take q).map fun p => { X0 := p.1, Y0 := s[i].y0, X1 := p.2, Y1 := s[i].y1 }) (by simp) ?_ ?_
    · rintro q out hq rfl
      rw [getD_sp (by simpa using hq)] 
      have hlen : (rectsOf (s.take i) ++ ((pairsX s[i].xs).take q).map fun p => ({ X0 := p.1, Y0 := s[i].y0, X1 := p.2, Y1 := s[i].y1 } : TRect)).length ≤ (rectsOf (s.take i)).length + q := by simp; omega
      have hq' := hq
      rw [pairsX_len] at hq'
      simp only [Int.toNat_natCast]
      (try dsimp only); (repeat' (first | (with_reducible apply ok_guard; case h => (first | assumption | omega | (simp; done) | (simp; omega) | (and_intros <;> first | omega | (intro _; omega)) | (simp only [Bool.or_eq_true, Bool.and_eq_true, Bool.not_eq_true', Bool.not_eq_true, Bool.not_eq_false', Bool.not_eq_false, Bool.or_eq_false_iff, Bool.and_eq_false_iff, decide_eq_true_eq, decide_eq_false_iff_not, Bool.not_not, beq_iff_eq, bne_iff_ne] at *; omega))) | (with_reducible apply ok_guard) | (with_reducible apply ok_if <;> intro _) | (with_reducible apply ok_some) | (with_reducible apply ok_esc) | (with_reducible apply ok_then))); (all_goals try dsimp only); (all_goals try (exfalso; omega))
      refine ⟨by simp, ?_⟩
      rw [take_snoc (d := default) hq, List.map_append, ← List.append_assoc]; rfl
    · rintro out rfl
      (try dsimp only); (repeat' (first | (with_reducible apply ok_guard; case h => (first | assumption | omega | (simp; done) | (simp; omega) | (and_intros <;> first | omega | (intro _; omega)) | (simp only [Bool.or_eq_true, Bool.and_eq_true, Bool.not_eq_true', Bool.not_eq_true, Bool.not_eq_false', Bool.not_eq_false, Bool.or_eq_false_iff, Bool.and_eq_false_iff, decide_eq_true_eq, decide_eq_false_iff_not, Bool.not_not, beq_iff_eq, bne_iff_ne] at *; omega))) | (with_reducible apply ok_guard) | (with_reducible apply ok_if <;> intro _) | (with_reducible apply ok_some) | (with_reducible apply ok_esc) | (with_reducible apply ok_then))); (all_goals try dsimp only); (all_goals try (exfalso; omega))
      refine ⟨by simp, ?_⟩
      rw [rectsOf_take hi, List.take_length]; rfl
  · rintro out rfl
    (try dsimp only); (repeat' (first | (with_reducible apply ok_guard; case h => (first | assumption | omega | (simp; done) | (simp; omega) | (and_intros <;> first | omega | (intro _; omega)) | (simp only [Bool.or_eq_true, Bool.and_eq_true, Bool.not_eq_true', Bool.not_eq_true, Bool.not_eq_false', Bool.not_eq_false, Bool.or_eq_false_iff, Bool.and_eq_false_iff, decide_eq_true_eq, decide_eq_false_iff_not, Bool.not_not, beq_iff_eq, bne_iff_ne] at *; omega))) | (with_reducible apply ok_guard) | (with_reducible apply ok_if <;> intro _) | (with_reducible apply ok_some) | (with_reducible apply ok_esc) | (with_reducible apply ok_then))); (all_goals try dsimp only); (all_goals try (exfalso; omega))
    simp
theorem o_ref1_told {s : List Bd} (hl : s.length < 1000000000000) (he : ∀ b ∈ s, b.xs.length % 2 = 0) (hn : (rectsOf s).length < 1000000000000) {Q_ : _ → Prop} (k_ : Q_ (rectsOf s)) : Ok (p_ref1_told (s.map rb)) Q_ := ok_of (t_ref1_told hl he hn) k_
theorem s_ref1_told {β : Type} {cc_ : Prop} {d_ : Decidable cc_} {s : List Bd} (hl : cc_ → (s.length < 1000000000000)) (he : cc_ → (∀ b ∈ s, b.xs.length % 2 = 0)) (hn : cc_ → ((rectsOf s).length < 1000000000000)) {e_ : _} {f_ : _ → Option β} {Q_ : β → Prop} (hd : ¬ cc_ → f_ e_ = f_ (rectsOf s)) (k_ : Ok (f_ (rectsOf s)) Q_) : Ok (Option.bind (@ite _ cc_ d_ (p_ref1_told (s.map rb)) (some e_)) f_) Q_ := ok_short (fun hc__ => t_ref1_told (hl hc__) (he hc__) (hn hc__)) hd k_
theorem t_ref1_Canonical {l : List TRect} (hl : l.length < 100000) (hr : ∀ r ∈ l, ROk r) : p_ref1_Canonical l = some (canonF l) := by
  apply ok_val
  unfold p_ref1_Canonical
  refine ok_then (o_ref1_heights (by omega) fun ys H hyl => ?_)
  have hxx := fun r h => (hr r h).xx
  have hyy := fun r h => (hr r h).yy
  have hS := setB_ok hxx hyy
  unfold canonF
  rw [H.setB hxx hyy] at hS ⊢
  have hm : (rectsOf (stripsB (rowF l) [] ys)).length < 1000000000000 := by
    have h1 := hS.many
    have : 2 * l.length * l.length ≤ 200000 * 100000 := Nat.mul_le_mul (by omega) (by omega)
    omega
  (try dsimp only); (repeat' (first | (with_reducible apply ok_guard; case h => (first | assumption | omega | (simp; done) | (simp; omega) | (and_intros <;> first | omega | (intro _; omega)) | (simp only [Bool.or_eq_true, Bool.and_eq_true, Bool.not_eq_true', Bool.not_eq_true, Bool.not_eq_false', Bool.not_eq_false, Bool.or_eq_false_iff, Bool.and_eq_false_iff, decide_eq_true_eq, decide_eq_false_iff_not, Bool.not_not, beq_iff_eq, bne_iff_ne] at *; omega))) | (with_reducible apply ok_guard) | (with_reducible apply ok_if <;> intro _) | (with_reducible apply ok_some) | (with_reducible apply ok_esc) | (with_reducible apply ok_then))); (all_goals try dsimp only); (all_goals try (exfalso; omega))
  refine ok_for1 (ys.length - 1) (fun i out => out = (stripsB (rowF l) [] (ys.take (i + 1))).map rb) ?_ ?_ ?_
  · match ys with
    | [] => rfl
    | [a] => rfl
    | a :: b :: m => rfl
  · rintro i out hi rfl
    have e1 : ((i : Int) + 1).toNat = i + 1 := by omega
    have e2 : ((i : Int) + 1 - 1).toNat = i := by omega
    simp only [e1, e2]
    have hs1 := stripsB_len (rowF l) (ys.take (i + 1)) []
    have hs2 := stripsB_xs (f := rowF l) (P := fun xs => xs.length < 1000000000000 ∧ xs.length % 2 = 0) (ys.take (i + 1)) [] (fun _ h => nomatch h) (fun a _ => ⟨by have := (rowF_all hxx a).2.1; omega, (rowF_ok hxx a).2.1⟩)
    rw [List.length_take] at hs1
    simp only [List.length_nil] at hs1
    have hlt : ys.getD i 0 < ys.getD (i + 1) 0 := by
      rw [getD_in (show i < ys.length by omega), getD_in (show i + 1 < ys.length by omega)]
      exact List.pairwise_iff_getElem.1 H.up i (i + 1) _ _ (by omega)
    (try dsimp only); (repeat' (first | (with_reducible apply ok_guard; case h => (first | assumption | omega | (simp; done) | (simp; omega) | (and_intros <;> first | omega | (intro _; omega)) | (simp only [Bool.or_eq_true, Bool.and_eq_true, Bool.not_eq_true', Bool.not_eq_true, Bool.not_eq_false', Bool.not_eq_false, Bool.or_eq_false_iff, Bool.and_eq_false_iff, decide_eq_true_eq, decide_eq_false_iff_not, Bool.not_not, beq_iff_eq, bne_iff_ne] at *; omega))) | (with_reducible apply ok_guard) | (with_reducible apply ok_if <;> intro _) | (with_reducible apply ok_some) | (with_reducible apply ok_esc) | (with_reducible apply ok_then))); (all_goals try dsimp only); (all_goals try (exfalso; omega))
    refine o_ref1_row (by omega) hxx ?_
    (try dsimp only); (repeat' (first | (with_reducible apply ok_guard; case h => (first | assumption | omega | (simp; done) | (simp; omega) | (and_intros <;> first | omega | (intro _; omega)) | (simp only [Bool.or_eq_true, Bool.and_eq_true, Bool.not_eq_true', Bool.not_eq_true, Bool.not_eq_false', Bool.not_eq_false, Bool.or_eq_false_iff, Bool.and_eq_false_iff, decide_eq_true_eq, decide_eq_false_iff_not, Bool.not_not, beq_iff_eq, bne_iff_ne] at *; omega))) | (with_reducible apply ok_guard) | (with_reducible apply ok_if <;> intro _) | (with_reducible apply ok_some) | (with_reducible apply ok_esc) | (with_reducible apply ok_then))); (all_goals try dsimp only); (all_goals try (exfalso; omega))
    refine o_ref1_stacked_o (s := stripsB (rowF l) [] (ys.take (i + 1))) (b := ⟨ys.getD i 0, ys.getD (i + 1) 0, rowF l (ys.getD i 0)⟩) (by omega) hs2 (rowF_ok hxx _).2.1 hlt ?_
    (try dsimp only); (repeat' (first | (with_reducible apply ok_guard; case h => (first | assumption | omega | (simp; done) | (simp; omega) | (and_intros <;> first | omega | (intro _; omega)) | (simp only [Bool.or_eq_true, Bool.and_eq_true, Bool.not_eq_true', Bool.not_eq_true, Bool.not_eq_false', Bool.not_eq_false, Bool.or_eq_false_iff, Bool.and_eq_false_iff, decide_eq_true_eq, decide_eq_false_iff_not, Bool.not_not, beq_iff_eq, bne_iff_ne] at *; omega))) | (with_reducible apply ok_guard) | (with_reducible apply ok_if <;> intro _) | (with_reducible apply ok_some) | (with_reducible apply ok_esc) | (with_reducible apply ok_then))); (all_goals try dsimp only); (all_goals try (exfalso; omega))
    refine ⟨by simp, ?_⟩
    have t1 : ys.take (i + 1) = ys.take i ++ [ys.getD i 0] := take_snoc (by omega)
    have t2 : ys.take (i + 1 + 1) = ys.take i ++ [ys.getD i 0, ys.getD (i + 1) 0] := by rw [take_snoc (d := 0) (show i + 1 < ys.length by omega), t1]; simp
    rw [t2, stripsB_snoc, t1]
  · rintro out rfl
    refine ok_if (fun h => by exfalso; omega) (fun _ => ?_)
    refine ok_some ?_
    rw [List.take_of_length_le (by omega)]
    refine ok_then (o_ref1_told (by have := hS.len; omega) (fun b hb => (hS.canon.ok b hb).ev) hm (ok_some rfl))
theorem o_ref1_Canonical {l : List TRect} (hl : l.length < 100000) (hr : ∀ r ∈ l, ROk r) {Q_ : _ → Prop} (k_ : Q_ (canonF l)) : Ok (p_ref1_Canonical l) Q_ := ok_of (t_ref1_Canonical hl hr) k_
theorem s_ref1_Canonical {β : Type} {cc_ : Prop} {d_ : Decidable cc_} {l : List TRect} (hl : cc_ → (l.length < 100000)) (hr : cc_ → (∀ r ∈ l, ROk r)) {e_ : _} {f_ : _ → Option β} {Q_ : β → Prop} (hd : ¬ cc_ → f_ e_ = f_ (canonF l)) (k_ : Ok (f_ (canonF l)) Q_) : Ok (Option.bind (@ite _ cc_ d_ (p_ref1_Canonical l) (some e_)) f_) Q_ := ok_short (fun hc__ => t_ref1_Canonical (hl hc__) (hr hc__)) hd k_
theorem t_ref1_before {a b : TRect} : p_ref1_before a b = some (befF a b) := rfl
theorem o_ref1_before {a b : TRect} {Q_ : _ → Prop} (k_ : Q_ (befF a b)) : Ok (p_ref1_before a b) Q_ := ok_of (t_ref1_before ) k_
theorem s_ref1_before {β : Type} {cc_ : Prop} {d_ : Decidable cc_} {a b : TRect} {e_ : _} {f_ : _ → Option β} {Q_ : β → Prop} (hd : ¬ cc_ → f_ e_ = f_ (befF a b)) (k_ : Ok (f_ (befF a b)) Q_) : Ok (Option.bind (@ite _ cc_ d_ (p_ref1_before a b) (some e_)) f_) Q_ := ok_short (fun hc__ => t_ref1_before ) hd k_
theorem t_ref1_CheckRegion {l : List TRect} (hl : l.length < 281474976710656) : p_ref1_CheckRegion l = some (regionFault l) := by
  apply ok_val
  unfold p_ref1_CheckRegion
  refine ok_then (o_ref1_CheckRects hl ?_)
  by_cases h0 : rectsFault l = 0
  · rw [if_pos h0]
    obtain ⟨k1, k2, k3, k4⟩ := canonF_len h0
    obtain ⟨h1, h2⟩ := rectsFault_0.1 h0
    (try dsimp only); (repeat' (first | (with_reducible apply ok_guard; case h => (first | assumption | omega | (simp; done) | (simp; omega) | (and_intros <;> first | omega | (intro _; omega)) | (simp only [Bool.or_eq_true, Bool.and_eq_true, Bool.not_eq_true', Bool.not_eq_true, Bool.not_eq_false', Bool.not_eq_false, Bool.or_eq_false_iff, Bool.and_eq_false_iff, decide_eq_true_eq, decide_eq_false_iff_not, Bool.not_not, beq_iff_eq, bne_iff_ne] at *; omega))) | (with_reducible apply ok_guard) | (with_reducible apply ok_if <;> intro _) | (with_reducible apply ok_some) | (with_reducible apply ok_esc) | (with_reducible apply ok_then))); (all_goals try dsimp only); (all_goals try (exfalso; omega))
    refine ok_for1 (l.length - 1) (fun i _ => ∀ j, 1 ≤ j → j ≤ i → befF (l.getD (j - 1) default) (l.getD j default) = true) (by intro j h; omega) ?_ ?_
    · intro i x hi hI
      have e1 : ((i : Int) + 1).toNat = i + 1 := by omega
      have e2 : ((i : Int) + 1 - 1).toNat = i := by omega
      simp only [e1, e2]
      (try dsimp only); (repeat' (first | (with_reducible apply s_ref1_before; case hd => (intro hc; simp only [Bool.not_not, Bool.not_eq_true, Bool.not_eq_false'] at hc; simp only [hc, Bool.true_or, Bool.false_and, Bool.not_true, Bool.not_false, Bool.or_true, Bool.and_false])) | (with_reducible apply o_ref1_before <;> try first | assumption | omega) | (with_reducible apply ok_guard; case h => (first | assumption | omega | (simp; done) | (simp; omega) | (and_intros <;> first | omega | (intro _; omega)) | (simp only [Bool.or_eq_true, Bool.and_eq_true, Bool.not_eq_true', Bool.not_eq_true, Bool.not_eq_false', Bool.not_eq_false, Bool.or_eq_false_iff, Bool.and_eq_false_iff, decide_eq_true_eq, decide_eq_false_iff_not, Bool.not_not, beq_iff_eq, bne_iff_ne] at *; omega))) | (with_reducible apply ok_guard) | (with_reducible apply ok_if <;> intro _) | (with_reducible apply ok_some) | (with_reducible apply ok_esc) | (with_reducible apply ok_then))); (all_goals try dsimp only); (all_goals try (exfalso; omega))
      · rename_i h
        exact (regionFault_8 h0 (i := i + 1) (by omega) (by omega) (by simpa using h)).symm
      · rename_i h
        refine ⟨rfl, fun j h3 h4 => ?_⟩
        by_cases e : j = i + 1
        · subst e; simpa using h
        · exact hI j h3 (by omega)
    · intro x hI
      refine ok_if (fun h => by exfalso; omega) (fun _ => ?_)
      refine ok_some ?_
      rw [regionFault_c h0 hI]
      refine ok_then (o_ref1_Canonical (by omega) (fun r hr => (h2 r hr).ok) ?_)
      refine ok_then (o_ref1_SameRects hl ?_)
      by_cases c : canonF l = l
      · rw [if_pos c, if_neg (by rw [c]; simp)]; exact ok_some rfl
      · rw [if_neg c, if_pos (by rw [decide_eq_false (fun e => c e.symm)]; rfl)]; exact ok_some rfl
  · rw [if_neg h0, regionFault_n h0]
    (try dsimp only); (repeat' (first | (with_reducible apply ok_guard; case h => (first | assumption | omega | (simp; done) | (simp; omega) | (and_intros <;> first | omega | (intro _; omega)) | (simp only [Bool.or_eq_true, Bool.and_eq_true, Bool.not_eq_true', Bool.not_eq_true, Bool.not_eq_false', Bool.not_eq_false, Bool.or_eq_false_iff, Bool.and_eq_false_iff, decide_eq_true_eq, decide_eq_false_iff_not, Bool.not_not, beq_iff_eq, bne_iff_ne] at *; omega))) | (with_reducible apply ok_guard) | (with_reducible apply ok_if <;> intro _) | (with_reducible apply ok_some) | (with_reducible apply ok_esc) | (with_reducible apply ok_then))); (all_goals try dsimp only); (all_goals try (exfalso; omega))
theorem o_ref1_CheckRegion {l : List TRect} (hl : l.length < 281474976710656) {Q_ : _ → Prop} (k_ : Q_ (regionFault l)) : Ok (p_ref1_CheckRegion l) Q_ := ok_of (t_ref1_CheckRegion hl) k_
theorem s_ref1_CheckRegion {β : Type} {cc_ : Prop} {d_ : Decidable cc_} {l : List TRect} (hl : cc_ → (l.length < 281474976710656)) {e_ : _} {f_ : _ → Option β} {Q_ : β → Prop} (hd : ¬ cc_ → f_ e_ = f_ (regionFault l)) (k_ : Ok (f_ (regionFault l)) Q_) : Ok (Option.bind (@ite _ cc_ d_ (p_ref1_CheckRegion l) (some e_)) f_) Q_ := ok_short (fun hc__ => t_ref1_CheckRegion (hl hc__)) hd k_
/-- the canonical form, if it is not too large -/
noncomputable def toldF (l : List TRect) : List TRect × Int := if 2000 < (l.length : Int) then ([], 2) else (l, 0)
theorem t_ref1_limited {l : List TRect} : p_ref1_limited l = some (toldF l) := by
  apply ok_val
  unfold p_ref1_limited
  unfold toldF
  (try dsimp only); (repeat' (first | (with_reducible apply ok_guard; case h => (first | assumption | omega | (simp; done) | (simp; omega) | (and_intros <;> first | omega | (intro _; omega)) | (simp only [Bool.or_eq_true, Bool.and_eq_true, Bool.not_eq_true', Bool.not_eq_true, Bool.not_eq_false', Bool.not_eq_false, Bool.or_eq_false_iff, Bool.and_eq_false_iff, decide_eq_true_eq, decide_eq_false_iff_not, Bool.not_not, beq_iff_eq, bne_iff_ne] at *; omega))) | (with_reducible apply ok_guard) | (with_reducible apply ok_if <;> intro _) | (with_reducible apply ok_some) | (with_reducible apply ok_esc) | (with_reducible apply ok_then))); (all_goals try dsimp only); (all_goals try (exfalso; omega))
  · rw [if_pos ‹_›]
  · rw [if_neg ‹_›]
theorem o_ref1_limited {l : List TRect} {Q_ : _ → Prop} (k_ : Q_ (toldF l)) : Ok (p_ref1_limited l) Q_ := ok_of (t_ref1_limited ) k_
theorem s_ref1_limited {β : Type} {cc_ : Prop} {d_ : Decidable cc_} {l : List TRect} {e_ : _} {f_ : _ → Option β} {Q_ : β → Prop} (hd : ¬ cc_ → f_ e_ = f_ (toldF l)) (k_ : Ok (f_ (toldF l)) Q_) : Ok (Option.bind (@ite _ cc_ d_ (p_ref1_limited l) (some e_)) f_) Q_ := ok_short (fun hc__ => t_ref1_limited ) hd k_
theorem t_shape_Set_Told {s : List Bd} (hl : s.length < 1000000000000) (he : ∀ b ∈ s, b.xs.length % 2 = 0) (hn : (rectsOf s).length < 1000000000000) : p_shape_Set_Told (s.map ofBd) = some (toldF (rectsOf s)) := by
  apply ok_val
  unfold p_shape_Set_Told
  refine ok_then (o_shape_Set_Many hl he hn ?_)
  unfold toldF
  by_cases h : 2000 < ((rectsOf s).length : Int)
  · rw [if_pos h, if_pos h]; exact ok_some rfl
  · rw [if_neg h, if_neg h]
    exact ok_then (o_shape_Set_Rects hl he hn (ok_some rfl))
theorem o_shape_Set_Told {s : List Bd} (hl : s.length < 1000000000000) (he : ∀ b ∈ s, b.xs.length % 2 = 0) (hn : (rectsOf s).length < 1000000000000) {Q_ : _ → Prop} (k_ : Q_ (toldF (rectsOf s))) : Ok (p_shape_Set_Told (s.map ofBd)) Q_ := ok_of (t_shape_Set_Told hl he hn) k_
theorem s_shape_Set_Told {β : Type} {cc_ : Prop} {d_ : Decidable cc_} {s : List Bd} (hl : cc_ → (s.length < 1000000000000)) (he : cc_ → (∀ b ∈ s, b.xs.length % 2 = 0)) (hn : cc_ → ((rectsOf s).length < 1000000000000)) {e_ : _} {f_ : _ → Option β} {Q_ : β → Prop} (hd : ¬ cc_ → f_ e_ = f_ (toldF (rectsOf s))) (k_ : Ok (f_ (toldF (rectsOf s))) Q_) : Ok (Option.bind (@ite _ cc_ d_ (p_shape_Set_Told (s.map ofBd)) (some e_)) f_) Q_ := ok_short (fun hc__ => t_shape_Set_Told (hl hc__) (he hc__) (hn hc__)) hd k_
noncomputable def regionF (l : List TRect) : List TRect × Int := if rectsFault l = 0 then toldF (canonF l) else ([], rectsFault l)
theorem t_shape_Region {l : List TRect} (hl : l.length < 281474976710656) : p_shape_Region l = some (regionF l) := by
  apply ok_val
  unfold p_shape_Region
  refine ok_then (o_shape_CheckRects hl ?_)
  unfold regionF
  by_cases h0 : rectsFault l = 0
  · rw [if_pos h0, if_pos h0]
    obtain ⟨k1, k2, k3, k4⟩ := canonF_len h0
    obtain ⟨h1, h2⟩ := rectsFault_0.1 h0
    refine ok_then (o_shape_SetOf (by omega) (fun r hr => (h2 r hr).ok) ?_)
    refine ok_then (o_shape_Set_Told (by omega) k4 (by unfold canonF at k1; omega) (ok_some rfl))
  · rw [if_neg h0, if_neg h0]; exact ok_some rfl
theorem o_shape_Region {l : List TRect} (hl : l.length < 281474976710656) {Q_ : _ → Prop} (k_ : Q_ (regionF l)) : Ok (p_shape_Region l) Q_ := ok_of (t_shape_Region hl) k_
theorem s_shape_Region {β : Type} {cc_ : Prop} {d_ : Decidable cc_} {l : List TRect} (hl : cc_ → (l.length < 281474976710656)) {e_ : _} {f_ : _ → Option β} {Q_ : β → Prop} (hd : ¬ cc_ → f_ e_ = f_ (regionF l)) (k_ : Ok (f_ (regionF l)) Q_) : Ok (Option.bind (@ite _ cc_ d_ (p_shape_Region l) (some e_)) f_) Q_ := ok_short (fun hc__ => t_shape_Region (hl hc__)) hd k_
theorem t_ref1_Region {l : List TRect} (hl : l.length < 281474976710656) : p_ref1_Region l = some (regionF l) := by
  apply ok_val
  unfold p_ref1_Region
  refine ok_then (o_ref1_CheckRects hl ?_)
  unfold regionF
  by_cases h0 : rectsFault l = 0
  · rw [if_pos h0, if_pos h0]
    obtain ⟨h1, h2⟩ := rectsFault_0.1 h0
    refine ok_then (o_ref1_Canonical (by omega) (fun r hr => (h2 r hr).ok) ?_)
    refine ok_then (o_ref1_limited (ok_some rfl))
  · rw [if_neg h0, if_neg h0]; exact ok_some rfl
theorem o_ref1_Region {l : List TRect} (hl : l.length < 281474976710656) {Q_ : _ → Prop} (k_ : Q_ (regionF l)) : Ok (p_ref1_Region l) Q_ := ok_of (t_ref1_Region hl) k_
theorem s_ref1_Region {β : Type} {cc_ : Prop} {d_ : Decidable cc_} {l : List TRect} (hl : cc_ → (l.length < 281474976710656)) {e_ : _} {f_ : _ → Option β} {Q_ : β → Prop} (hd : ¬ cc_ → f_ e_ = f_ (regionF l)) (k_ : Ok (f_ (regionF l)) Q_) : Ok (Option.bind (@ite _ cc_ d_ (p_ref1_Region l) (some e_)) f_) Q_ := ok_short (fun hc__ => t_ref1_Region (hl hc__)) hd k_
theorem toldF_len (l : List TRect) : (toldF l).1.length ≤ 2000 := by
  unfold toldF
  split
  · simp
  · simp only; omega
theorem regionF_len (l : List TRect) : (regionF l).1.length ≤ 2000 := by
  unfold regionF
  split
  · exact toldF_len _
  · simp
theorem row_RegionsMatchSpec (a0 : List TRect) (h0 : a0.length < 281474976710656 ∧ ∀ x ∈ a0, okTRect x) : p_law1_RegionsMatchSpec a0 = some true := by
  have hl := h0.1
  have h1 := regionF_len a0
  apply ok_val
  unfold p_law1_RegionsMatchSpec
  refine ok_then (o_shape_Region hl ?_)
  refine ok_then (o_ref1_Region hl ?_)
  refine ok_then (o_shape_CheckRects hl ?_)
  refine ok_then (o_ref1_CheckRects hl ?_)
  rw [if_pos (by simp), if_pos (by simp)]
  refine ok_then (o_shape_CheckRegion hl ?_)
  refine ok_then (o_ref1_CheckRegion hl ?_)
  rw [if_pos (by simp)]
  refine ok_then (o_slices_Equal_Rect (by omega) ?_)
  rw [if_pos (by simp)]
  refine ok_then (o_law1_awake (ok_some ?_))
  simp
end Go.Nw
