/- NqS3: a part of the proof. -/
import Derived.Test.YtjjnepcdiajppaaNqS2
set_option linter.unusedVariables false
set_option linter.unusedSimpArgs false
set_option maxRecDepth 100000
namespace Go.Nw
open Go.Proofs Go.Sort
/-- a rectangle that is not empty, of numbers that are not too great -/
structure ROk (r : TRect) : Prop where
  x0 : -1000000000 ≤ r.X0
  xx : r.X0 < r.X1
  x1 : r.X1 ≤ 1000000000
  y0 : -1000000000 ≤ r.Y0
  yy : r.Y0 < r.Y1
  y1 : r.Y1 ≤ 1000000000
theorem ROk.bdd {r : TRect} (h : ROk r) : Bdd_TRect r := by
  obtain ⟨h1, h2, h3, h4, h5, h6⟩ := h
  simp only [Bdd_TRect]; omega
theorem sortBy {l : List TRect} {f : TRect → TRect → Option Int} (key : TRect → Int) (hf : ∀ x y, Bdd_TRect x → Bdd_TRect y → f x y = some (key x - key y)) (hb : ∀ x ∈ l, Bdd_TRect x) (hl : l.length < 1000000000000) {Q : List TRect → Prop}
    (k : ∀ r, r.Perm l → r.Pairwise (fun a b => key a ≤ key b) → Q r) : Ok (p_slices_SortFunc_Rect_o l f) Q := by
  have hc : ∀ x y, cfP clamp_TRect f x y = key (clamp_TRect x) - key (clamp_TRect y) := fun x y => by
    rw [cfP, hf _ _ (clamp_bdd_TRect x) (clamp_bdd_TRect y)]; rfl
  have hlt : ∀ x y, ltOf (cfP clamp_TRect f) x y = decide (key (clamp_TRect x) < key (clamp_TRect y)) := fun x y => by
    unfold ltOf; rw [hc]
    exact decide_eq_decide.2 (by omega)
  have hswo : SWO (ltOf (cfP clamp_TRect f)) := by
    refine ⟨fun x => ?_, fun x y z => ?_, fun x y z => ?_⟩
    · rw [hlt]; simp
    · rw [hlt, hlt, hlt]; simp only [decide_eq_true_eq]; omega
    · rw [hlt, hlt, hlt]; simp only [decide_eq_false_iff_not]; omega
  obtain ⟨r, h1, h2, h3⟩ := sortP_ok (B := Bdd_TRect) (cl := clamp_TRect) (f1 := f) clamp_id_TRect hb (fun x y hx hy => by rw [hf x y hx hy]; rfl) hswo (by omega)
  refine ⟨r, h1, k r h2 (h3.imp_of_mem fun {a b} ha hb' h => ?_)⟩
  rw [hlt, clamp_id_TRect a (hb a (h2.mem_iff.1 ha)), clamp_id_TRect b (hb b (h2.mem_iff.1 hb'))] at h
  simp only [decide_eq_false_iff_not] at h; omega
/-- what some rectangles cover along X, so far; a: where the last stretch begins -/
def StrI (m : List TRect) (out : List Int) : Prop :=
  (out = [] ∧ m = []) ∨ ∃ o a b, out = o ++ [a, b] ∧ Up out ∧ out.length % 2 = 0 ∧ (∀ x, inX out x = true ↔ ∃ r ∈ m, r.X0 ≤ x ∧ x < r.X1) ∧ (∃ r ∈ m, r.X0 = a) ∧ (∀ e ∈ out, ∃ r ∈ m, e = r.X0 ∨ e = r.X1) ∧ out.length ≤ 2 * m.length
theorem strI_new {m : List TRect} {out : List Int} {r : TRect} (h : StrI m out) (hr : r.X0 < r.X1) (hb : ∀ e ∈ out, e < r.X0) : StrI (m ++ [r]) (out ++ [r.X0, r.X1]) := by
  right
  refine ⟨out, r.X0, r.X1, rfl, ?_⟩
  have hu : Up out ∧ out.length % 2 = 0 ∧ (∀ x, inX out x = true ↔ ∃ r ∈ m, r.X0 ≤ x ∧ x < r.X1) ∧ (∀ e ∈ out, ∃ r ∈ m, e = r.X0 ∨ e = r.X1) ∧ out.length ≤ 2 * m.length := by
    rcases h with ⟨rfl, rfl⟩ | ⟨o, a, b, -, h1, h2, h3, -, h4, h5⟩
    · exact ⟨List.Pairwise.nil, rfl, fun x => by simp [inX], (fun _ h => nomatch h), Nat.zero_le _⟩
    · exact ⟨h1, h2, h3, h4, h5⟩
  obtain ⟨h1, h2, h3, h4, h5⟩ := hu
  refine ⟨List.pairwise_append.2 ⟨h1, by simpa using hr, fun x hx y hy => ?_⟩, by simp; omega, fun x => ?_, ⟨r, by simp, rfl⟩, fun e he => ?_, by simp; omega⟩
  · have := hb x hx
    simp at hy; rcases hy with rfl | rfl <;> omega
  · rw [inX_append (fun x hx y hy => by have := hb x hx; simp at hy; rcases hy with rfl | rfl <;> omega), inX_two (by omega)]
    simp only [List.mem_append, List.mem_singleton]
    have h6 := h3 x
    by_cases c : r.X0 ≤ x ∧ x < r.X1
    · have hf : inX out x = false := by
        rw [inX_ge fun e he => by have := hb e he; omega, decide_eq_false (by omega)]
      rw [hf]; simp only [c, decide_true, Bool.and_true]
      exact ⟨fun _ => ⟨r, .inr rfl, c⟩, fun _ => rfl⟩
    · have hf : (decide (r.X0 ≤ x) && decide (x < r.X1)) = false := by simp; omega
      rw [hf, Bool.bne_false, h6]
      constructor
      · rintro ⟨q, hq, h⟩; exact ⟨q, .inl hq, h⟩
      · rintro ⟨q, hq | rfl, h⟩
        · exact ⟨q, hq, h⟩
        · exact absurd h c
  · rcases List.mem_append.1 he with he | he
    · obtain ⟨q, hq, h⟩ := h4 e he; exact ⟨q, by simp [hq], h⟩
    · simp at he; exact ⟨r, by simp, he⟩
theorem strI_join {m : List TRect} {o : List Int} {a b : Int} {r : TRect} (h : StrI m (o ++ [a, b])) (hr : r.X0 < r.X1) (hm : ∀ q ∈ m, q.X0 ≤ r.X0) (hb : r.X0 ≤ b) : StrI (m ++ [r]) (o ++ [a, if r.X1 > b then r.X1 else b]) := by
  rcases h with ⟨h, -⟩ | ⟨o', a', b', e, h1, h2, h3, ⟨q0, hq0, hqa⟩, h4, h5⟩
  · simp at h
  have e' : o = o' ∧ a = a' ∧ b = b' := by
    have := List.append_inj' e rfl
    simpa using this
  obtain ⟨rfl, rfl, rfl⟩ := e'
  obtain ⟨p1, p2, p3⟩ := List.pairwise_append.1 h1
  have hab : a < b := by simpa using p2
  have har : a ≤ r.X0 := by rw [← hqa]; exact hm q0 hq0
  obtain ⟨v, hv⟩ : ∃ v, v = if r.X1 > b then r.X1 else b := ⟨_, rfl⟩
  have hv1 : b ≤ v ∧ r.X1 ≤ v ∧ (v = b ∨ v = r.X1) := by
    rw [hv]; split <;> omega
  rw [← hv]
  clear hv
  have hoa : ∀ x ∈ o, x < a := fun x hx => p3 x hx a (by simp)
  right
  refine ⟨o, a, v, rfl, List.pairwise_append.2 ⟨p1, by simp; omega, fun x hx y hy => ?_⟩, by simpa using h2, fun x => ?_, ⟨q0, by simp [hq0], hqa⟩, fun z hz => ?_, by simp at h5 ⊢; omega⟩
  · have := hoa x hx
    simp at hy; rcases hy with rfl | rfl <;> omega
  · have h6 := h3 x
    rw [inX_append (fun x hx y hy => by have := hoa x hx; simp at hy; rcases hy with rfl | rfl <;> omega), inX_two (by omega)] at h6 ⊢
    simp only [List.mem_append, List.mem_singleton]
    have key : (∃ q, (q ∈ m ∨ q = r) ∧ q.X0 ≤ x ∧ x < q.X1) ↔ (∃ q ∈ m, q.X0 ≤ x ∧ x < q.X1) ∨ (r.X0 ≤ x ∧ x < r.X1) := by
      constructor
      · rintro ⟨q, hq | rfl, h⟩
        · exact .inl ⟨q, hq, h⟩
        · exact .inr h
      · rintro (⟨q, hq, h⟩ | h)
        · exact ⟨q, .inl hq, h⟩
        · exact ⟨r, .inr rfl, h⟩
    rw [key, ← h6]
    by_cases c : a ≤ x
    · have hf : inX o x = false := by
        have : o.length % 2 = 0 := by simpa using h2
        rw [inX_ge fun e he => by have := hoa e he; omega, decide_eq_false (by omega)]
      rw [hf]
      simp only [c, decide_true, Bool.true_and, Bool.false_bne, decide_eq_true_eq]
      obtain ⟨v1, v2, v3⟩ := hv1
      clear h6 key h3 h4 h1 h2 hm hoa p1 p2 p3 hf
      constructor
      · intro h; rcases v3 with h' | h' <;> omega
      · intro h; rcases h with h | h <;> omega
    · have e1 : decide (a ≤ x) = false := decide_eq_false c
      simp only [e1, Bool.false_and, Bool.bne_false]
      constructor
      · exact .inl
      · rintro (h | h)
        · exact h
        · omega
  · rcases List.mem_append.1 hz with hz | hz
    · obtain ⟨q, hq, h⟩ := h4 z (by simp [hz]); exact ⟨q, by simp [hq], h⟩
    · simp at hz
      rcases hz with hz | hz
      · obtain ⟨q, hq, h⟩ := h4 z (by simp [hz]); exact ⟨q, by simp [hq], h⟩
      · rcases hv1.2.2 with h | h
        · obtain ⟨q, hq, h'⟩ := h4 b (by simp); exact ⟨q, by simp [hq], by rw [hz, h]; exact h'⟩
        · exact ⟨r, by simp, .inr (hz.trans h)⟩
theorem set_last (o : List Int) (a b v : Int) : (o ++ [a, b]).set (o.length + 1) v = o ++ [a, v] := by
  rw [List.set_append_right _ _ (by omega)]
  simp
/-- 'stretches': what the rectangles cover along X; the row is in another order -/
theorem o_shape_stretches_o {l : List TRect} (hl : l.length < 1000000) (hr : ∀ x ∈ l, ROk x) {Q : List Int × List TRect → Prop}
    (k : ∀ xs l', l'.Perm l → Up xs → xs.length % 2 = 0 → (∀ x, inX xs x = true ↔ ∃ r ∈ l, r.X0 ≤ x ∧ x < r.X1) → xs.length ≤ 2 * l.length → (∀ e ∈ xs, ∃ r ∈ l, e = r.X0 ∨ e = r.X1) → Q (xs, l')) : Ok (p_shape_stretches_o l) Q := by
  unfold p_shape_stretches_o
  refine ok_then (sortBy (fun r => r.X0) (fun x y hx hy => ?_) (fun x hx => (hr x hx).bdd) (by omega) fun r hp hs => ?_)
  · unfold p_shape_stretches_1
    simp only [Bdd_TRect] at hx hy
    rw [if_pos (by omega)]
  have hlen := hp.length_eq
  have hrr : ∀ x ∈ r, ROk x := fun x hx => hr x (hp.mem_iff.1 hx)
  (try dsimp only); (repeat' (first | (with_reducible apply ok_guard; case h => (first | assumption | omega | (simp; done) | (simp; omega) | (and_intros <;> first | omega | (intro _; omega)) | (simp only [Bool.or_eq_true, Bool.and_eq_true, Bool.not_eq_true', Bool.not_eq_true, Bool.not_eq_false', Bool.not_eq_false, Bool.or_eq_false_iff, Bool.and_eq_false_iff, decide_eq_true_eq, decide_eq_false_iff_not, Bool.not_not, beq_iff_eq, bne_iff_ne] at *; omega))) | (with_reducible apply ok_guard) | (with_reducible apply ok_if <;> intro _) | (with_reducible apply ok_some) | (with_reducible apply ok_esc) | (with_reducible apply ok_then))); (all_goals try dsimp only); (all_goals try (exfalso; omega))
  refine ok_for l.length (fun i out => StrI (r.take i) out) (.inl ⟨rfl, by simp⟩) ?_ ?_
  · intro i out hi hI
    have hi' : i < r.length := by omega
    simp only [Int.toNat_natCast]
    have hri := hrr _ (mem_getD (d := default) hi')
    have hle : ∀ q ∈ r.take i, q.X0 ≤ (r.getD i default).X0 := fun q hq => by
      obtain ⟨j, hj, rfl⟩ := List.getElem_of_mem hq
      have hj' : j < i := by simp at hj; omega
      have := List.pairwise_iff_getElem.1 hs j i (by omega) hi' hj'
      rw [getD_in hi']
      simpa using this
    have hlo : out.length ≤ 2 * i := by
      rcases hI with ⟨rfl, -⟩ | ⟨o, a, b, -, -, -, -, -, -, h⟩
      · simp
      · rw [List.length_take] at h; omega
    rw [take_snoc (d := default) hi']
    by_cases he : out = []
    · subst he
      (try dsimp only); (repeat' (first | (with_reducible apply ok_guard; case h => (first | assumption | omega | (simp; done) | (simp; omega) | (and_intros <;> first | omega | (intro _; omega)) | (simp only [Bool.or_eq_true, Bool.and_eq_true, Bool.not_eq_true', Bool.not_eq_true, Bool.not_eq_false', Bool.not_eq_false, Bool.or_eq_false_iff, Bool.and_eq_false_iff, decide_eq_true_eq, decide_eq_false_iff_not, Bool.not_not, beq_iff_eq, bne_iff_ne] at *; omega))) | (with_reducible apply ok_guard) | (with_reducible apply ok_if <;> intro _) | (with_reducible apply ok_some) | (with_reducible apply ok_esc) | (with_reducible apply ok_then))); (all_goals try dsimp only); (all_goals try (exfalso; omega))
      · exfalso; rename_i hc; simp at hc
      refine ⟨by simp, ?_⟩
      exact strI_new hI hri.xx (fun e he => by cases he)
    · obtain ⟨o, a, b, rfl⟩ : ∃ o a b, out = o ++ [a, b] := by
        rcases hI with ⟨h, -⟩ | ⟨o, a, b, h, -⟩
        · exact absurd h he
        · exact ⟨o, a, b, h⟩
      have e1 : (((o ++ [a, b]).length : Int) - 1).toNat = o.length + 1 := by simp; omega
      have e2 : (o ++ [a, b]).getD (o.length + 1) 0 = b := by simp
      simp only [e1, e2, set_last]
      have hb : ∀ e ∈ o ++ [a, b], e ≤ b := by
        rcases hI with ⟨h, -⟩ | ⟨o', a', b', h, h1, -⟩
        · exact absurd h he
        · obtain ⟨p1, p2, p3⟩ := List.pairwise_append.1 h1
          intro e hem
          rcases List.mem_append.1 hem with h | h
          · exact Int.le_of_lt (p3 e h b (by simp))
          · have : a < b := by simpa using p2
            simp at h; rcases h with rfl | rfl <;> omega
      have hlo2 : (o ++ [a, b]).length = o.length + 2 := by simp
      (try dsimp only); (repeat' (first | (with_reducible apply ok_guard; case h => (first | assumption | omega | (simp; done) | (simp; omega) | (and_intros <;> first | omega | (intro _; omega)) | (simp only [Bool.or_eq_true, Bool.and_eq_true, Bool.not_eq_true', Bool.not_eq_true, Bool.not_eq_false', Bool.not_eq_false, Bool.or_eq_false_iff, Bool.and_eq_false_iff, decide_eq_true_eq, decide_eq_false_iff_not, Bool.not_not, beq_iff_eq, bne_iff_ne] at *; omega))) | (with_reducible apply ok_guard) | (with_reducible apply ok_if <;> intro _) | (with_reducible apply ok_some) | (with_reducible apply ok_esc) | (with_reducible apply ok_then))); (all_goals try dsimp only); (all_goals try (exfalso; omega))
      · refine ⟨by simp, strI_join hI hri.xx hle ?_⟩
        rename_i hc
        simp only [Bool.and_eq_true, decide_eq_true_eq] at hc
        exact hc.2
      · refine ⟨by simp, ?_⟩
        rename_i hc
        simp only [Bool.and_eq_true, decide_eq_true_eq, not_and] at hc
        have := hc (by simp only [hlo2]; omega)
        exact strI_new hI hri.xx fun e he => by have := hb e he; omega
  · intro out hI
    (try dsimp only); (repeat' (first | (with_reducible apply ok_guard; case h => (first | assumption | omega | (simp; done) | (simp; omega) | (and_intros <;> first | omega | (intro _; omega)) | (simp only [Bool.or_eq_true, Bool.and_eq_true, Bool.not_eq_true', Bool.not_eq_true, Bool.not_eq_false', Bool.not_eq_false, Bool.or_eq_false_iff, Bool.and_eq_false_iff, decide_eq_true_eq, decide_eq_false_iff_not, Bool.not_not, beq_iff_eq, bne_iff_ne] at *; omega))) | (with_reducible apply ok_guard) | (with_reducible apply ok_if <;> intro _) | (with_reducible apply ok_some) | (with_reducible apply ok_esc) | (with_reducible apply ok_then))); (all_goals try dsimp only); (all_goals try (exfalso; omega))
    rw [← hlen, List.take_length] at hI
    have hmem : ∀ q, q ∈ r ↔ q ∈ l := fun q => hp.mem_iff
    rcases hI with ⟨rfl, h⟩ | ⟨o, a, b, -, h1, h2, h3, -, h4, h5⟩
    · subst h
      refine k [] [] hp List.Pairwise.nil rfl (fun x => ?_) (by simp) (fun _ h => nomatch h)
      have : l = [] := hp.nil_eq.symm
      subst this
      simp [inX]
    · refine k out r hp h1 h2 (fun x => ?_) (by omega) fun e he => ?_
      · rw [h3]
        constructor
        · rintro ⟨q, hq, h⟩; exact ⟨q, (hmem q).1 hq, h⟩
        · rintro ⟨q, hq, h⟩; exact ⟨q, (hmem q).2 hq, h⟩
      · obtain ⟨q, hq, h⟩ := h4 e he
        exact ⟨q, (hmem q).1 hq, h⟩
end Go.Nw
