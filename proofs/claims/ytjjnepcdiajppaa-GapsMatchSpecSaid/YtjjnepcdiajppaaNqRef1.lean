/- NqRef1: a part of the proof. -/
import Derived.Test.YtjjnepcdiajppaaNqTurn
set_option linter.unusedVariables false
set_option linter.unusedSimpArgs false
set_option maxRecDepth 100000
namespace Go.Nw
theorem tdiv2 (a b : Nat) : Int.tdiv ((a : Int) + (b : Int)) 2 = (((a + b) / 2 : Nat) : Int) := by rw [Int.tdiv_eq_ediv_of_nonneg (by omega)]; omega
theorem t_ref1_put {l : List Int} {n : Int} (hl : l.length < 1000000000000) (hu : Up l) : p_ref1_put l n = some (putF l n) := by
  apply ok_val
  unfold p_ref1_put
  have hlt : ∀ i j, i < j → j < l.length → l.getD i 0 < l.getD j 0 := fun i j h1 h2 => by
    rw [getD_in (show i < l.length by omega), getD_in h2]; exact List.pairwise_iff_getElem.1 hu i j _ h2 h1
  refine ok_then ?_
  refine ok_loop (fun s : Int × Int => ∃ hi lo : Nat, s.1 = hi ∧ s.2 = lo ∧ lo ≤ hi ∧ hi ≤ l.length ∧ (∀ j < lo, l.getD j 0 < n) ∧ ∀ j, hi ≤ j → j < l.length → n ≤ l.getD j 0) (fun s => s.1.toNat - s.2.toNat)
    ⟨l.length, 0, rfl, rfl, by omega, by omega, by intro j h; omega, by intro j h; omega⟩ ?_
  rintro ⟨hi', lo'⟩ ⟨hi, lo, e1, e2, h1, h2, h3, h4⟩
  simp only at e1 e2
  subst e1 e2
  simp only [tdiv2, Int.toNat_natCast]
  have e3 : Int.tdiv ((lo : Int) + (hi : Int)) 2 = (((lo + hi) / 2 : Nat) : Int) := tdiv2 lo hi
  (try dsimp only); (repeat' (first | (with_reducible apply ok_guard; case h => (first | assumption | omega | (simp; done) | (simp; omega) | (and_intros <;> first | omega | (intro _; omega)) | (simp only [Bool.or_eq_true, Bool.and_eq_true, Bool.not_eq_true', Bool.not_eq_true, Bool.not_eq_false', Bool.not_eq_false, Bool.or_eq_false_iff, Bool.and_eq_false_iff, decide_eq_true_eq, decide_eq_false_iff_not, Bool.not_not, beq_iff_eq, bne_iff_ne] at *; omega))) | (with_reducible apply ok_guard) | (with_reducible apply ok_if <;> intro _) | (with_reducible apply ok_some) | (with_reducible apply ok_esc) | (with_reducible apply ok_then))); (all_goals try dsimp only); (all_goals try (exfalso; omega))
  · rename_i c1 c2
    refine ⟨⟨hi, (lo + hi) / 2 + 1, rfl, by simp, by omega, h2, fun j hj => ?_, h4⟩, by simp; omega⟩
    by_cases e : j = (lo + hi) / 2
    · subst e; exact c2
    · have := hlt j ((lo + hi) / 2) (by omega) (by omega)
      have c2' : l.getD ((lo + hi) / 2) 0 < n := c2
      omega
  · rename_i c1 c2
    refine ⟨⟨(lo + hi) / 2, lo, rfl, rfl, by omega, by omega, h3, fun j hj hj2 => ?_⟩, by simp; omega⟩
    have c2' : ¬ l.getD ((lo + hi) / 2) 0 < n := c2
    by_cases e : j = (lo + hi) / 2
    · subst e; omega
    · have := hlt ((lo + hi) / 2) j (by omega) hj2
      omega
  · rename_i c1 hc
    have e : lo = hi := by omega
    subst e
    simp only [Bool.and_eq_true, decide_eq_true_eq, Int.toNat_natCast] at hc
    exact (putF_in hu (by omega) hc.2).symm
  · rename_i c1 hc
    have e : lo = hi := by omega
    subst e
    simp only [Bool.and_eq_true, decide_eq_true_eq, not_and, Int.toNat_natCast] at hc
    simp only [Int.toNat_natCast]
    rw [putF_split (k := lo) h2 (fun a ha => ?_) (fun a ha => ?_)]
    · simp
    · obtain ⟨j, hj, rfl⟩ := List.getElem_of_mem ha
      have hj' : j < lo ∧ j < l.length := by simp at hj; omega
      have := h3 j hj'.1
      rw [getD_in hj'.2] at this
      simpa using this
    · obtain ⟨j, hj, rfl⟩ := List.getElem_of_mem ha
      have hj' : lo + j < l.length := by simp at hj; omega
      have h5 := h4 (lo + j) (by omega) hj'
      have h6 : l.getD lo 0 ≠ n := hc (by omega)
      rw [getD_in hj'] at h5
      simp only [List.getElem_drop]
      by_cases e : j = 0
      · subst e; rw [getD_in (show lo < l.length by omega)] at h6; simp only [Nat.add_zero] at h5 ⊢; omega
      · have h7 := hlt lo (lo + j) (by omega) hj'
        have h8 := h4 lo (Nat.le_refl _) (by omega)
        rw [getD_in hj'] at h7; omega
theorem o_ref1_put {l : List Int} {n : Int} (hl : l.length < 1000000000000) (hu : Up l) {Q_ : _ → Prop} (k_ : Q_ (putF l n)) : Ok (p_ref1_put l n) Q_ := ok_of (t_ref1_put hl hu) k_
theorem s_ref1_put {β : Type} {cc_ : Prop} {d_ : Decidable cc_} {l : List Int} {n : Int} (hl : cc_ → (l.length < 1000000000000)) (hu : cc_ → (Up l)) {e_ : _} {f_ : _ → Option β} {Q_ : β → Prop} (hd : ¬ cc_ → f_ e_ = f_ (putF l n)) (k_ : Ok (f_ (putF l n)) Q_) : Ok (Option.bind (@ite _ cc_ d_ (p_ref1_put l n) (some e_)) f_) Q_ := ok_short (fun hc__ => t_ref1_put (hl hc__) (hu hc__)) hd k_
def sp (p : Int × Int) : TEtchhouseref1span := { from_ := p.1, to_ := p.2 }
theorem sp_inj {l m : List (Int × Int)} : l.map sp = m.map sp ↔ l = m := by
  constructor
  · intro h
    have : (l.map sp).map (fun s => (s.from_, s.to_)) = (m.map sp).map (fun s => (s.from_, s.to_)) := by rw [h]
    simpa [List.map_map, Function.comp_def, sp] using this
  · rintro rfl; rfl
theorem getD_sp {l : List (Int × Int)} {i : Nat} (h : i < l.length) : (l.map sp).getD i default = sp (l.getD i default) := by simp [h]
theorem o_ref1_joined {l : List (Int × Int)} {s : Int × Int} (hl : l.length < 1000000000000) (hg : Gaps l) (hs : s.1 < s.2) {Q : List TEtchhouseref1span → Prop}
    (k : ∀ r, Gaps r → (∀ x, covX r x ↔ covX l x ∨ (s.1 ≤ x ∧ x < s.2)) → r.length ≤ l.length + 1 → Q (r.map sp)) : Ok (p_ref1_joined (l.map sp) (sp s)) Q := by
  unfold p_ref1_joined
  have hgap : ∀ i j, i < j → j < l.length → (l.getD i default).2 < (l.getD j default).1 := fun i j h1 h2 => by
    rw [getD_in (show i < l.length by omega), getD_in h2]; exact List.pairwise_iff_getElem.1 hg.ap i j _ h2 h1
  have hlt : ∀ i, i < l.length → (l.getD i default).1 < (l.getD i default).2 := fun i h => hg.lt _ (mem_getD h)
  simp only [List.length_map]
  refine ok_then ?_
  refine ok_loop (fun st : Int × List TEtchhouseref1span => ∃ i : Nat, st.1 = i ∧ i ≤ l.length ∧ st.2 = (l.take i).map sp ∧ ∀ j < i, (l.getD j default).2 < s.1) (fun st => l.length - st.1.toNat)
    ⟨0, rfl, by omega, by simp, by intro j h; omega⟩ ?_
  rintro ⟨i', out⟩ ⟨i, e1, hi, e2, h1⟩
  simp only at e1 e2
  subst e1 e2
  simp only [Int.toNat_natCast]
  have hlo : ((l.take i).map sp).length = i := by simp; omega
  simp only [hlo]
  (try dsimp only); (repeat' (first | (with_reducible apply ok_guard; case h => (first | assumption | omega | (simp; done) | (simp; omega) | (and_intros <;> first | omega | (intro _; omega)) | (simp only [Bool.or_eq_true, Bool.and_eq_true, Bool.not_eq_true', Bool.not_eq_true, Bool.not_eq_false', Bool.not_eq_false, Bool.or_eq_false_iff, Bool.and_eq_false_iff, decide_eq_true_eq, decide_eq_false_iff_not, Bool.not_not, beq_iff_eq, bne_iff_ne] at *; omega))) | (with_reducible apply ok_guard) | (with_reducible apply ok_if <;> intro _) | (with_reducible apply ok_some) | (with_reducible apply ok_esc) | (with_reducible apply ok_then))); (all_goals try dsimp only); (all_goals try (exfalso; omega))
  · rename_i hc
    simp only [Bool.and_eq_true, decide_eq_true_eq] at hc
    have hil : i < l.length := by omega
    have hc2 := hc.2
    rw [getD_sp hil] at hc2
    refine ⟨⟨i + 1, by simp, by omega, ?_, all_lt h1 hc2⟩, by simp; omega⟩
    rw [getD_sp hil, take_snoc (d := default) hil]; simp
  · rename_i hc
    have hge : ∀ j, i ≤ j → j < l.length → s.1 ≤ (l.getD j default).2 := fun j h2 h3 => by
      have h4 : ¬ (l.getD i default).2 < s.1 := fun h => hc (by
        simp only [Bool.and_eq_true, decide_eq_true_eq]
        exact ⟨by omega, by rw [getD_sp (show i < l.length by omega)]; exact h⟩)
      by_cases e : i = j
      · subst e; omega
      · have := hgap i j (by omega) h3
        have := hlt j h3; omega
    (try dsimp only); (repeat' (first | (with_reducible apply ok_guard; case h => (first | assumption | omega | (simp; done) | (simp; omega) | (and_intros <;> first | omega | (intro _; omega)) | (simp only [Bool.or_eq_true, Bool.and_eq_true, Bool.not_eq_true', Bool.not_eq_true, Bool.not_eq_false', Bool.not_eq_false, Bool.or_eq_false_iff, Bool.and_eq_false_iff, decide_eq_true_eq, decide_eq_false_iff_not, Bool.not_not, beq_iff_eq, bne_iff_ne] at *; omega))) | (with_reducible apply ok_guard) | (with_reducible apply ok_if <;> intro _) | (with_reducible apply ok_some) | (with_reducible apply ok_esc) | (with_reducible apply ok_then))); (all_goals try dsimp only); (all_goals try (exfalso; omega))
    refine ok_loop (fun st : Int × TEtchhouseref1span => ∃ (q : Nat) (t : Int × Int), st.1 = q ∧ st.2 = sp t ∧ i ≤ q ∧ q ≤ l.length ∧ t.1 ≤ s.1 ∧ s.2 ≤ t.2 ∧ (∀ j < i, (l.getD j default).2 < t.1) ∧
        (∀ x, (t.1 ≤ x ∧ x < t.2) ↔ (s.1 ≤ x ∧ x < s.2) ∨ covX ((l.take q).drop i) x)) (fun st => l.length - st.1.toNat)
      ⟨i, s, rfl, rfl, Nat.le_refl _, hi, Int.le_refl _, Int.le_refl _, h1, fun x => by rw [List.drop_of_length_le (by simp; omega), covX_nil]; simp⟩ ?_
    rintro ⟨q', t'⟩ ⟨q, t, e3, e4, hiq, hq, h2, h3, h4, h5⟩
    simp only at e3 e4
    subst e3 e4
    simp only [Int.toNat_natCast]
    (try dsimp only); (repeat' (first | (with_reducible apply ok_guard; case h => (first | assumption | omega | (simp; done) | (simp; omega) | (and_intros <;> first | omega | (intro _; omega)) | (simp only [Bool.or_eq_true, Bool.and_eq_true, Bool.not_eq_true', Bool.not_eq_true, Bool.not_eq_false', Bool.not_eq_false, Bool.or_eq_false_iff, Bool.and_eq_false_iff, decide_eq_true_eq, decide_eq_false_iff_not, Bool.not_not, beq_iff_eq, bne_iff_ne] at *; omega))) | (with_reducible apply ok_guard) | (with_reducible apply ok_if <;> intro _) | (with_reducible apply ok_some) | (with_reducible apply ok_esc) | (with_reducible apply ok_then))); (all_goals try dsimp only); (all_goals try (exfalso; omega))
    · rename_i hc2
      simp only [Bool.and_eq_true, decide_eq_true_eq] at hc2
      have hql : q < l.length := by omega
      have hc3 := hc2.2
      rw [getD_sp hql] at hc3 ⊢
      have hc4 : (l.getD q default).1 ≤ t.2 := hc3
      have g1 := hge q hiq hql
      have g2 := hlt q hql
      obtain ⟨a, ha⟩ : ∃ a, a = if (l.getD q default).1 < t.1 then (l.getD q default).1 else t.1 := ⟨_, rfl⟩
      obtain ⟨b, hb⟩ : ∃ b, b = if (l.getD q default).2 > t.2 then (l.getD q default).2 else t.2 := ⟨_, rfl⟩
      have ha' : a ≤ t.1 ∧ a ≤ (l.getD q default).1 ∧ (a = t.1 ∨ a = (l.getD q default).1) := by rw [ha]; split <;> omega
      have hb' : t.2 ≤ b ∧ (l.getD q default).2 ≤ b ∧ (b = t.2 ∨ b = (l.getD q default).2) := by rw [hb]; split <;> omega
      refine ⟨⟨q + 1, (a, b), by simp, by rw [ha, hb]; rfl, by omega, by omega, by show a ≤ _; omega, by show _ ≤ b; omega, fun j hj => ?_, fun x => ?_⟩, by simp; omega⟩
      · have := h4 j hj
        have := hgap j q (by omega) hql
        show _ < a; rcases ha'.2.2 with h | h <;> omega
      · have ed : (l.take (q + 1)).drop i = (l.take q).drop i ++ [l.getD q default] := by
          rw [take_snoc (d := default) hql, List.drop_append_of_le_length (by simp; omega)]
        rw [ed, covX_append, ← or_assoc, ← h5 x]
        simp only [covX, List.mem_singleton, exists_eq_left]
        clear ed h5 h4 hge hlt hgap ha hb hc3 hc2 h1
        obtain ⟨a1, a2, a3⟩ := ha'
        obtain ⟨b1, b2, b3⟩ := hb'
        constructor
        · rintro ⟨x1, x2⟩
          by_cases c : t.1 ≤ x ∧ x < t.2
          · exact .inl c
          · right; rcases a3 with h | h <;> rcases b3 with h' | h' <;> omega
        · rintro (⟨x1, x2⟩ | ⟨x1, x2⟩) <;> exact ⟨by omega, by omega⟩
    · rename_i hc2
      have hgt : ∀ p ∈ l.drop q, t.2 < p.1 := fun p hp => by
        obtain ⟨j, hj, rfl⟩ := List.getElem_of_mem hp
        have hj' : q + j < l.length := by simp at hj; omega
        have h6 : ¬ (l.getD q default).1 ≤ t.2 := fun h => hc2 (by
          simp only [Bool.and_eq_true, decide_eq_true_eq]
          exact ⟨by omega, by rw [getD_sp (show q < l.length by omega)]; exact h⟩)
        simp only [List.getElem_drop]
        by_cases e : j = 0
        · subst e; rw [getD_in (show q < l.length by omega)] at h6; simp only [Nat.add_zero]; omega
        · have h7 := hgap q (q + j) (by omega) hj'
          have h8 := hlt q (by omega)
          rw [getD_in hj'] at h7; omega
      have hle : ∀ p ∈ l.take i, p.2 < t.1 := fun p hp => by
        obtain ⟨j, hj, rfl⟩ := List.getElem_of_mem hp
        have hj' : j < i ∧ j < l.length := by simp at hj; omega
        have := h4 j hj'.1
        rw [getD_in hj'.2] at this
        simpa using this
      obtain ⟨r1, r2⟩ := joined_ok hg hiq hq hs hle hgt h2 h3 h5
      have hlen : (l.take i ++ t :: l.drop q).length ≤ l.length + 1 := by simp; omega
      have := k _ r1 r2 hlen
      (try dsimp only); (repeat' (first | (with_reducible apply ok_guard; case h => (first | assumption | omega | (simp; done) | (simp; omega) | (and_intros <;> first | omega | (intro _; omega)) | (simp only [Bool.or_eq_true, Bool.and_eq_true, Bool.not_eq_true', Bool.not_eq_true, Bool.not_eq_false', Bool.not_eq_false, Bool.or_eq_false_iff, Bool.and_eq_false_iff, decide_eq_true_eq, decide_eq_false_iff_not, Bool.not_not, beq_iff_eq, bne_iff_ne] at *; omega))) | (with_reducible apply ok_guard) | (with_reducible apply ok_if <;> intro _) | (with_reducible apply ok_some) | (with_reducible apply ok_esc) | (with_reducible apply ok_then))); (all_goals try dsimp only); (all_goals try (exfalso; omega))
      · simpa using this
theorem t_ref1_row {l : List TRect} {y : Int} (hl : l.length < 1000000) (hr : ∀ r ∈ l, r.X0 < r.X1) : p_ref1_row l y = some ((pairsX (rowF l y)).map sp) := by
  apply ok_val
  unfold p_ref1_row
  (try dsimp only); (repeat' (first | (with_reducible apply ok_guard; case h => (first | assumption | omega | (simp; done) | (simp; omega) | (and_intros <;> first | omega | (intro _; omega)) | (simp only [Bool.or_eq_true, Bool.and_eq_true, Bool.not_eq_true', Bool.not_eq_true, Bool.not_eq_false', Bool.not_eq_false, Bool.or_eq_false_iff, Bool.and_eq_false_iff, decide_eq_true_eq, decide_eq_false_iff_not, Bool.not_not, beq_iff_eq, bne_iff_ne] at *; omega))) | (with_reducible apply ok_guard) | (with_reducible apply ok_if <;> intro _) | (with_reducible apply ok_some) | (with_reducible apply ok_esc) | (with_reducible apply ok_then))); (all_goals try dsimp only); (all_goals try (exfalso; omega))
  refine ok_for l.length (fun i out => ∃ m, out = m.map sp ∧ Gaps m ∧ m.length ≤ i ∧ ∀ x, covX m x ↔ ∃ r ∈ l.take i, inR r x y) ⟨[], rfl, gaps_nil, by simp, fun x => by simp [covX]⟩ ?_ ?_
  · rintro i out hi ⟨m, rfl, h1, h2, h3⟩
    have hri := hr _ (mem_getD (d := default) hi)
    simp only [Int.toNat_natCast]
    have hsn : ∀ x, (∃ r ∈ l.take (i + 1), inR r x y) ↔ (∃ r ∈ l.take i, inR r x y) ∨ inR (l.getD i default) x y := fun x => by
      rw [take_snoc (d := default) hi]
      simp only [List.mem_append, List.mem_singleton]
      constructor
      · rintro ⟨r, h | rfl, h'⟩
        · exact .inl ⟨r, h, h'⟩
        · exact .inr h'
      · rintro (⟨r, h, h'⟩ | h')
        · exact ⟨r, .inl h, h'⟩
        · exact ⟨_, .inr rfl, h'⟩
    (try dsimp only); (repeat' (first | (with_reducible apply ok_guard; case h => (first | assumption | omega | (simp; done) | (simp; omega) | (and_intros <;> first | omega | (intro _; omega)) | (simp only [Bool.or_eq_true, Bool.and_eq_true, Bool.not_eq_true', Bool.not_eq_true, Bool.not_eq_false', Bool.not_eq_false, Bool.or_eq_false_iff, Bool.and_eq_false_iff, decide_eq_true_eq, decide_eq_false_iff_not, Bool.not_not, beq_iff_eq, bne_iff_ne] at *; omega))) | (with_reducible apply ok_guard) | (with_reducible apply ok_if <;> intro _) | (with_reducible apply ok_some) | (with_reducible apply ok_esc) | (with_reducible apply ok_then))); (all_goals try dsimp only); (all_goals try (exfalso; omega))
    · rename_i hc
      simp only [Bool.and_eq_true, decide_eq_true_eq] at hc
      refine o_ref1_joined (s := ((l.getD i default).X0, (l.getD i default).X1)) (by omega) h1 hri fun r g1 g2 g3 => ?_
      (try dsimp only); (repeat' (first | (with_reducible apply ok_guard; case h => (first | assumption | omega | (simp; done) | (simp; omega) | (and_intros <;> first | omega | (intro _; omega)) | (simp only [Bool.or_eq_true, Bool.and_eq_true, Bool.not_eq_true', Bool.not_eq_true, Bool.not_eq_false', Bool.not_eq_false, Bool.or_eq_false_iff, Bool.and_eq_false_iff, decide_eq_true_eq, decide_eq_false_iff_not, Bool.not_not, beq_iff_eq, bne_iff_ne] at *; omega))) | (with_reducible apply ok_guard) | (with_reducible apply ok_if <;> intro _) | (with_reducible apply ok_some) | (with_reducible apply ok_esc) | (with_reducible apply ok_then))); (all_goals try dsimp only); (all_goals try (exfalso; omega))
      refine ⟨by simp, r, rfl, g1, by omega, fun x => ?_⟩
      rw [g2, h3, hsn]
      exact or_congr Iff.rfl ⟨fun h => ⟨h, hc⟩, fun h => h.1⟩
    · rename_i hc
      refine ⟨by simp, m, rfl, h1, by omega, fun x => ?_⟩
      rw [h3, hsn]
      constructor
      · exact .inl
      · rintro (h | h)
        · exact h
        · exact absurd (by simp only [Bool.and_eq_true, decide_eq_true_eq]; exact h.2) hc
  · rintro out ⟨m, rfl, h1, h2, h3⟩
    (try dsimp only); (repeat' (first | (with_reducible apply ok_guard; case h => (first | assumption | omega | (simp; done) | (simp; omega) | (and_intros <;> first | omega | (intro _; omega)) | (simp only [Bool.or_eq_true, Bool.and_eq_true, Bool.not_eq_true', Bool.not_eq_true, Bool.not_eq_false', Bool.not_eq_false, Bool.or_eq_false_iff, Bool.and_eq_false_iff, decide_eq_true_eq, decide_eq_false_iff_not, Bool.not_not, beq_iff_eq, bne_iff_ne] at *; omega))) | (with_reducible apply ok_guard) | (with_reducible apply ok_if <;> intro _) | (with_reducible apply ok_some) | (with_reducible apply ok_esc) | (with_reducible apply ok_then))); (all_goals try dsimp only); (all_goals try (exfalso; omega))
    rw [List.take_length] at h3
    rw [rowF_eq h1.up (by rw [fl_len]; omega) (fun x => (h1.inX x).trans (h3 x)), pairsX_fl]
theorem o_ref1_row {l : List TRect} {y : Int} (hl : l.length < 1000000) (hr : ∀ r ∈ l, r.X0 < r.X1) {Q_ : _ → Prop} (k_ : Q_ ((pairsX (rowF l y)).map sp)) : Ok (p_ref1_row l y) Q_ := ok_of (t_ref1_row hl hr) k_
theorem s_ref1_row {β : Type} {cc_ : Prop} {d_ : Decidable cc_} {l : List TRect} {y : Int} (hl : cc_ → (l.length < 1000000)) (hr : cc_ → (∀ r ∈ l, r.X0 < r.X1)) {e_ : _} {f_ : _ → Option β} {Q_ : β → Prop} (hd : ¬ cc_ → f_ e_ = f_ ((pairsX (rowF l y)).map sp)) (k_ : Ok (f_ ((pairsX (rowF l y)).map sp)) Q_) : Ok (Option.bind (@ite _ cc_ d_ (p_ref1_row l y) (some e_)) f_) Q_ := ok_short (fun hc__ => t_ref1_row (hl hc__) (hr hc__)) hd k_
end Go.Nw
