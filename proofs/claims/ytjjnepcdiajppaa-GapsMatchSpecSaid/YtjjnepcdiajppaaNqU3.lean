/- NqU3: a part of the proof. -/
import Derived.Test.YtjjnepcdiajppaaNqU2
set_option linter.unusedVariables false
set_option linter.unusedSimpArgs false
set_option maxRecDepth 100000
namespace Go.Nw
theorem o_less_if {c : Bool} {p q : TPoint} {β : Type} {f : Bool → Option β} {Q : β → Prop} (k : ∀ d, (c = true → d = lessF p q) → Ok (f d) Q) : Ok (Option.bind (if c = true then p_shape_less p q else some default) f) Q := by
  cases c
  · exact k _ (fun h => nomatch h)
  · exact ok_then (o_shape_less (k _ fun _ => rfl))
/-- one candidate of the loops that look for the nearest square -/
theorem near_one {a b : List TRect} {n : Int} {i j : Nat} {c : Bool} {p : TPoint} (hi : i < a.length) (hj : j < b.length) (h : NearI a b n i j (c, p)) {d : Bool} (hd : (decide (farR (a.getD i default) (b.getD j default) = n) && !!c) = true → d = lessF (nearP (a.getD i default) (b.getD j default) n) p)
    (hm : n ≤ farR (a.getD i default) (b.getD j default)) :
    NearI a b n i (j + 1) (if (decide (farR (a.getD i default) (b.getD j default) = n) && (!c || d)) = true then (true, nearP (a.getD i default) (b.getD j default) n) else (c, p)) := by
  by_cases hf : farR (a.getD i default) (b.getD j default) = n
  · have hf' : farR (a.getD i default) (b.getD j default) ≤ n := by omega
    have h1 := near_take hi hj h hf'
    have h2 := near_keep hi hj h
    simp only at h1 h2
    rw [decide_eq_true hf] at hd ⊢
    simp only [Bool.true_and, Bool.not_not] at hd ⊢
    cases c
    · rw [if_pos (by rfl)]; exact h1 (.inl rfl)
    · have hd := hd rfl
      subst hd
      cases hl : lessF (nearP (a.getD i default) (b.getD j default) n) p
      · rw [if_neg (by simp)]; exact h2 (by rw [hl]; simp)
      · rw [if_pos (by simp)]; exact h1 (.inr hl)
  · rw [decide_eq_false hf, Bool.false_and, if_neg (by simp)]
    exact near_skip hj h (by omega)
theorem o_shape_GapOf {a b : List TRect} (la : a.length ≤ 2000) (lb : b.length ≤ 2000) (ha : ∀ r ∈ a, RIn r) (hb : ∀ r ∈ b, RIn r) (na : 0 < a.length) (nb : 0 < b.length) {Q : TGap → Prop} (k : ∀ g, IsGap a b g → Q g) : Ok (p_shape_GapOf a b) Q := by
  unfold p_shape_GapOf
  refine ok_then ?_
  refine ok_for a.length (fun i n => (n = -1 ∧ i = 0) ∨ (0 ≤ n ∧ MinI a b i 0 n)) (.inl ⟨rfl, rfl⟩) ?_ ?_
  · intro i n hi hI
    simp only [Int.toNat_natCast]
    rw [if_pos (by omega)]
    refine ok_then ?_
    rw [if_pos (by omega)]
    refine ok_for b.length (fun j n => (n = -1 ∧ i = 0 ∧ j = 0) ∨ (0 ≤ n ∧ MinI a b i j n)) (by rcases hI with ⟨h, h'⟩ | h; exact .inl ⟨h, h', rfl⟩; exact .inr h) ?_ ?_
    · intro j n hj hI
      have hx := farR_0 (a.getD i default) (b.getD j default)
      simp only [Int.toNat_natCast]
      rw [if_pos (by omega)]
      refine ok_then ?_
      rw [if_pos (by omega)]
      refine ok_then (o_shape_Far (ha _ (mem_getD hi)) (hb _ (mem_getD hj)) ?_)
      rcases hI with ⟨rfl, rfl, rfl⟩ | ⟨h0, hI⟩
      · rw [if_pos (by simp)]
        refine ok_some ?_
        rw [if_pos (by omega)]
        refine ok_some ⟨rfl, .inr ⟨hx, ?_⟩⟩
        have := minI_step (n := farR (a.getD 0 default) (b.getD 0 default)) hi hj ⟨⟨_, mem_getD hi, _, mem_getD hj, rfl⟩, by simp, by simp⟩
        rw [if_neg (by omega)] at this
        exact this
      · have := minI_step hi hj hI
        by_cases c : farR (a.getD i default) (b.getD j default) < n
        · rw [if_pos c] at this
          rw [if_pos (by simp only [Bool.or_eq_true, decide_eq_true_eq]; exact .inr c)]
          refine ok_some ?_
          rw [if_pos (by omega)]
          exact ok_some ⟨rfl, .inr ⟨hx, this⟩⟩
        · rw [if_neg c] at this
          rw [if_neg (by simp only [Bool.or_eq_true, decide_eq_true_eq]; omega)]
          refine ok_some ?_
          rw [if_pos (by omega)]
          exact ok_some ⟨rfl, .inr ⟨h0, this⟩⟩
    · intro n hI
      simp only
      rw [if_neg (by omega)]
      refine ok_some ?_
      simp only
      rw [if_pos (by omega)]
      refine ok_some ⟨rfl, ?_⟩
      rcases hI with ⟨-, -, h⟩ | ⟨h0, hI⟩
      · omega
      · exact .inr ⟨h0, minI_end hi hI⟩
  · intro n hI
    simp only
    rw [if_neg (by omega)]
    refine ok_some ?_
    have hn : IsMin a b n := by
      rcases hI with ⟨-, h⟩ | ⟨h0, hI⟩
      · omega
      · exact minI_all hI
    clear hI
    have hn0 : 0 ≤ n ∧ n ≤ 3000000 := by
      obtain ⟨-, r, hr, q, hq, rfl⟩ := hn
      exact ⟨farR_0 r q, farR_in (ha r hr) (hb q hq)⟩
    simp only
    rw [if_pos (by omega)]
    refine ok_then ?_
    refine ok_for a.length (fun i (s : Bool × TGap) => ∃ p, s.2 = { A := 0, B := 0, Distance := n - 1, From := p, To := {} } ∧ NearI a b n i 0 (s.1, p)) ⟨{}, rfl, near_i0 a b n _⟩ ?_ ?_
    · rintro i ⟨c, g⟩ hi ⟨p, hg, hI⟩
      simp only at hg hI
      subst hg
      simp only [Int.toNat_natCast]
      rw [if_pos (by omega)]
      refine ok_then ?_
      rw [if_pos (by omega)]
      refine ok_for b.length (fun j (s : Bool × TGap) => ∃ p, s.2 = { A := 0, B := 0, Distance := n - 1, From := p, To := {} } ∧ NearI a b n i j (s.1, p)) ⟨p, rfl, hI⟩ ?_ ?_
      · rintro j ⟨c, g⟩ hj ⟨p, hg, hI⟩
        simp only at hg hI
        subst hg
        have hr := ha _ (mem_getD (d := default) hi)
        have hq := hb _ (mem_getD (d := default) hj)
        simp only [Int.toNat_natCast]
        rw [if_pos (by omega)]
        refine ok_then ?_
        rw [if_pos (by omega)]
        refine ok_then (o_shape_near hq hn0.1 hn0.2 ?_)
        refine ok_then (o_shape_Far hr hq ?_)
        refine o_less_if fun d hd => ?_
        have := near_one hi hj hI hd (hn.1 _ (mem_getD hi) _ (mem_getD hj))
        split
        · rename_i hc
          rw [if_pos hc] at this
          refine ok_some ?_
          rw [if_pos (by omega)]
          exact ok_some ⟨rfl, _, rfl, this⟩
        · rename_i hc
          rw [if_neg hc] at this
          refine ok_some ?_
          rw [if_pos (by omega)]
          exact ok_some ⟨rfl, _, rfl, this⟩
      · rintro ⟨c, g⟩ ⟨p, hg, hI⟩
        simp only at hg hI
        subst hg
        simp only
        rw [if_neg (by omega)]
        refine ok_some ?_
        simp only
        rw [if_pos (by omega)]
        exact ok_some ⟨rfl, p, rfl, near_end hi hI⟩
    · rintro ⟨c, g⟩ ⟨p, hg, hI⟩
      simp only at hg hI
      subst hg
      simp only
      rw [if_neg (by omega)]
      refine ok_some ?_
      simp only
      have hp := (near_all hI (by obtain ⟨-, r, hr, q, hq, e⟩ := hn; exact ⟨r, hr, q, hq, by omega⟩)).2
      simp only at hp
      obtain ⟨s1, s2, s3⟩ := gap_sq ha hb hn hp
      have e1 := s1.x0; have e2 := s1.x1; have e3 := s1.y0; have e4 := s1.y1
      simp only [sqR] at e1 e2 e3 e4
      rw [if_pos (by omega), if_pos (by omega)]
      refine ok_then ?_
      refine ok_for b.length (fun j (s : Bool × TGap) => ∃ q, s.2 = { A := 0, B := 0, Distance := n - 1, From := p, To := q } ∧ NearI b [sqR p] n j 0 (s.1, q)) ⟨{}, rfl, near_i0 b [sqR p] n _⟩ ?_ ?_
      · rintro j ⟨c, g⟩ hj ⟨q, hg, hI⟩
        simp only at hg hI
        subst hg
        have hq := hb _ (mem_getD (d := default) hj)
        simp only [Int.toNat_natCast]
        rw [if_pos (by omega)]
        refine ok_then ?_
        rw [if_pos (by omega)]
        refine ok_then (o_shape_near (q := sqR p) s1 hn0.1 hn0.2 ?_)
        refine ok_then (o_shape_Far (q := sqR p) hq s1 ?_)
        refine o_less_if fun d hd => ?_
        have := near_end hj (near_one (b := [sqR p]) (j := 0) hj (by simp) hI hd (s2 _ (mem_getD hj)))
        simp only [List.getD_cons_zero] at this
        split
        · rename_i hc
          rw [if_pos hc] at this
          refine ok_some ?_
          rw [if_pos (by omega)]
          exact ok_some ⟨rfl, _, rfl, this⟩
        · rename_i hc
          rw [if_neg hc] at this
          refine ok_some ?_
          rw [if_pos (by omega)]
          exact ok_some ⟨rfl, _, rfl, this⟩
      · rintro ⟨c, g⟩ ⟨q, hg, hI⟩
        simp only at hg hI
        subst hg
        simp only
        rw [if_neg (by omega)]
        have hq := (near_all hI s3).2
        exact ok_some (ok_some (k _ ⟨n, p, q, hn, hp, hq, rfl⟩))
end Go.Nw
