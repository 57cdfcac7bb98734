/- NqU2: a part of the proof. -/
import Derived.Test.YtjjnepcdiajppaaNqU1
set_option linter.unusedVariables false
set_option linter.unusedSimpArgs false
set_option maxRecDepth 100000
namespace Go.Nw
def sqR (p : TPoint) : TRect := { X0 := p.X, Y0 := p.Y, X1 := p.X + 1, Y1 := p.Y + 1 }
theorem near_in {r q : TRect} {n : Int} (hr : RIn r) (hq : RIn q) (h : farR r q ≤ n) : RIn (sqR (nearP r q n)) ∧ ∀ s, n ≤ farR s r → n ≤ farR s (sqR (nearP r q n)) := by
  have f := farR_le.1 h
  have h1 := hr.x0; have h2 := hr.xx; have h3 := hr.x1; have h4 := hr.y0; have h5 := hr.yy; have h6 := hr.y1
  have g1 := hq.x0; have g2 := hq.xx; have g3 := hq.x1; have g4 := hq.y0; have g5 := hq.yy; have g6 := hq.y1
  have a1 : r.X0 ≤ (nearP r q n).X ∧ (nearP r q n).X < r.X1 := by unfold nearP; simp only; split <;> omega
  have a2 : r.Y0 ≤ (nearP r q n).Y ∧ (nearP r q n).Y < r.Y1 := by unfold nearP; simp only; split <;> omega
  generalize nearP r q n = p at *
  refine ⟨⟨by simp only [sqR]; omega, by simp only [sqR]; omega, by simp only [sqR]; omega, by simp only [sqR]; omega, by simp only [sqR]; omega, by simp only [sqR]; omega⟩, fun s hs => ?_⟩
  have hm : farR s r ≤ farR s (sqR p) := by
    have := (farR_le (r := s) (q := sqR p)).1 (Int.le_refl _)
    simp only [sqR] at this
    exact farR_le.2 (by simp only [sqR]; omega)
  omega
theorem farR_comm (r q : TRect) : farR r q = farR q r := by
  have h1 := (farR_le (r := r) (q := q) (n := farR q r)).2 (by have := (farR_le (r := q) (q := r)).1 (Int.le_refl _); omega)
  have h2 := (farR_le (r := q) (q := r) (n := farR r q)).2 (by have := (farR_le (r := r) (q := q)).1 (Int.le_refl _); omega)
  omega
theorem o_ref1_nearest {a b : List TRect} {n : Int} (la : a.length ≤ 2000) (lb : b.length ≤ 2000) (ha : ∀ r ∈ a, RIn r) (hb : ∀ r ∈ b, RIn r) (n0 : 0 ≤ n) (n1 : n ≤ 3000000) (hm : ∃ r ∈ a, ∃ q ∈ b, farR r q ≤ n) {Q : TPoint × Bool → Prop} (k : ∀ p, IsNear a b n p → Q (p, true)) : Ok (p_ref1_nearest a b n) Q := by
  unfold p_ref1_nearest
  refine ok_then ?_
  refine ok_for a.length (fun i s => NearI a b n i 0 s) (near_i0 a b n _) ?_ ?_
  · rintro i ⟨c, p⟩ hi hI
    simp only [Int.toNat_natCast]
    rw [if_pos (by omega)]
    refine ok_then ?_
    refine ok_for b.length (fun j s => NearI a b n i j s) hI ?_ ?_
    · rintro j ⟨c, p⟩ hj hI
      have hr := ha _ (mem_getD (d := default) hi)
      have hq := hb _ (mem_getD (d := default) hj)
      have h1 := hr.x0; have h2 := hr.xx; have h3 := hr.x1; have h4 := hr.y0; have h5 := hr.yy; have h6 := hr.y1
      have g1 := hq.x0; have g2 := hq.xx; have g3 := hq.x1; have g4 := hq.y0; have g5 := hq.yy; have g6 := hq.y1
      simp only [Int.toNat_natCast]
      have s1 := near_skip hj hI
      have s2 := near_take hi hj hI
      have s3 := near_keep hi hj hI
      have hle := farR_le (r := a.getD i default) (q := b.getD j default) (n := n)
      simp only at s2 s3
      generalize a.getD i default = r at *
      generalize b.getD j default = q at *
      rw [if_pos (by omega)]
      refine ok_then ?_
      rw [if_pos (by omega)]
      obtain ⟨u, hu⟩ : ∃ u, u = if q.X1 + n < r.X1 then q.X1 + n else r.X1 := ⟨_, rfl⟩
      obtain ⟨v, hv⟩ : ∃ v, v = if q.Y1 + n < r.Y1 then q.Y1 + n else r.Y1 := ⟨_, rfl⟩
      obtain ⟨x, hx⟩ : ∃ x, x = if q.X0 - n > r.X0 then q.X0 - n else r.X0 := ⟨_, rfl⟩
      obtain ⟨y, hy⟩ : ∃ y, y = if q.Y0 - n > r.Y0 then q.Y0 - n else r.Y0 := ⟨_, rfl⟩
      have hnp : nearP r q n = { X := x, Y := y } := by unfold nearP; rw [hx, hy]
      have u1 : u ≤ q.X1 + n ∧ u ≤ r.X1 ∧ (u = q.X1 + n ∨ u = r.X1) := by rw [hu]; split <;> omega
      have v1 : v ≤ q.Y1 + n ∧ v ≤ r.Y1 ∧ (v = q.Y1 + n ∨ v = r.Y1) := by rw [hv]; split <;> omega
      have x1 : q.X0 - n ≤ x ∧ r.X0 ≤ x ∧ (x = q.X0 - n ∨ x = r.X0) := by rw [hx]; split <;> omega
      have y1 : q.Y0 - n ≤ y ∧ r.Y0 ≤ y ∧ (y = q.Y0 - n ∨ y = r.Y0) := by rw [hy]; split <;> omega
      simp only [← hu, ← hv, ← hx, ← hy]
      rw [hnp] at s2 s3
      rw [if_pos (by omega), if_pos (by omega), if_pos (by omega), if_pos (by omega), if_pos (by omega), if_pos (by omega)]
      by_cases hf : farR r q ≤ n
      · have hf' := hle.1 hf
        rw [if_neg (by simp only [Bool.or_eq_true, decide_eq_true_eq]; omega)]
        by_cases hc : c = false ∨ lessF { X := x, Y := y } p = true
        · rw [if_pos (by
            simp only [Bool.or_eq_true, Bool.and_eq_true, Bool.not_eq_true', decide_eq_true_eq, or_assoc]
            rcases hc with h | h
            · exact .inl h
            · exact .inr (lessF_iff.1 h))]
          refine ok_some ?_
          rw [if_pos (by omega)]
          exact ok_some ⟨rfl, s2 hf hc⟩
        · rw [if_neg (fun h => hc (by
            simp only [Bool.or_eq_true, Bool.and_eq_true, Bool.not_eq_true', decide_eq_true_eq, or_assoc] at h
            rcases h with h | h
            · exact .inl h
            · exact .inr (lessF_iff.2 h)))]
          refine ok_some ?_
          rw [if_pos (by omega)]
          exact ok_some ⟨rfl, s3 hc⟩
      · rw [if_pos (by
          simp only [Bool.or_eq_true, decide_eq_true_eq]
          apply Classical.byContradiction
          intro c
          exact hf (hle.2 (by omega)))]
        refine ok_some ?_
        rw [if_pos (by omega)]
        exact ok_some ⟨rfl, s1 hf⟩
    · rintro ⟨c, p⟩ hI
      simp only
      rw [if_neg (by omega)]
      refine ok_some ?_
      simp only
      rw [if_pos (by omega)]
      exact ok_some ⟨rfl, near_end hi hI⟩
  · rintro ⟨c, p⟩ hI
    simp only
    rw [if_neg (by omega)]
    obtain ⟨h1, h2⟩ := near_all hI hm
    simp only at h1 h2
    subst h1
    exact ok_some (ok_some (k p h2))
/-- what lies between two regions -/
def IsGap (a b : List TRect) (g : TGap) : Prop := ∃ n p q, IsMin a b n ∧ IsNear a b n p ∧ IsNear b [sqR p] n q ∧ g = { A := 0, B := 0, Distance := n - 1, From := p, To := q }
theorem isGap_eq {a b : List TRect} {g h : TGap} (hg : IsGap a b g) (hh : IsGap a b h) : g = h := by
  obtain ⟨n, p, q, h1, h2, h3, rfl⟩ := hg
  obtain ⟨n', p', q', h1', h2', h3', rfl⟩ := hh
  obtain rfl := isMin_eq h1 h1'
  obtain rfl := isNear_eq h2 h2'
  obtain rfl := isNear_eq h3 h3'
  rfl
/-- a and b are at most n apart; their nearest square -/
theorem gap_sq {a b : List TRect} {n : Int} {p : TPoint} (ha : ∀ r ∈ a, RIn r) (hb : ∀ r ∈ b, RIn r) (hm : IsMin a b n) (h : IsNear a b n p) : RIn (sqR p) ∧ (∀ q ∈ b, n ≤ farR q (sqR p)) ∧ ∃ q ∈ b, ∃ r ∈ [sqR p], farR q r ≤ n := by
  obtain ⟨⟨r, hr, q, hq, hf, rfl⟩, -⟩ := h
  obtain ⟨k1, k2⟩ := near_in (ha r hr) (hb q hq) hf
  refine ⟨k1, fun s hs => k2 s (by rw [farR_comm]; exact hm.1 r hr s hs), q, hq, _, List.mem_singleton.2 rfl, ?_⟩
  have f := farR_le.1 hf
  have hr' := ha r hr; have hq' := hb q hq
  have h2 := hr'.xx; have h5 := hr'.yy
  have g2 := hq'.xx; have g5 := hq'.yy
  refine farR_le.2 ?_
  simp only [sqR, nearP]
  refine ⟨by omega, ⟨?_, ?_⟩, ?_, ?_⟩ <;> split <;> omega
theorem o_ref1_GapOf {a b : List TRect} (la : a.length ≤ 2000) (lb : b.length ≤ 2000) (ha : ∀ r ∈ a, RIn r) (hb : ∀ r ∈ b, RIn r) (na : 0 < a.length) (nb : 0 < b.length) {Q : TGap → Prop} (k : ∀ g, IsGap a b g → Q g) : Ok (p_ref1_GapOf a b) Q := by
  unfold p_ref1_GapOf
  refine ok_then (o_ref1_farRegions la lb ha hb na nb fun n hn => ?_)
  have hn0 : 0 ≤ n ∧ n ≤ 3000000 := by
    obtain ⟨-, r, hr, q, hq, rfl⟩ := hn
    exact ⟨farR_0 r q, farR_in (ha r hr) (hb q hq)⟩
  refine ok_then (o_ref1_nearest la lb ha hb hn0.1 hn0.2 (by obtain ⟨-, r, hr, q, hq, e⟩ := hn; exact ⟨r, hr, q, hq, by omega⟩) fun p hp => ?_)
  obtain ⟨s1, s2, s3⟩ := gap_sq ha hb hn hp
  have e1 := s1.x0; have e2 := s1.x1; have e3 := s1.y0; have e4 := s1.y1
  simp only [sqR] at e1 e2 e3 e4
  simp only
  rw [W64 (by omega) (by omega), W64 (by omega) (by omega)]
  refine ok_then (o_ref1_nearest (b := [sqR p]) lb (by simp) hb (fun r hr => by obtain rfl := List.mem_singleton.1 hr; exact s1) hn0.1 hn0.2 s3 fun q hq => ?_)
  rw [if_pos (by omega), if_pos (by omega), if_pos (by omega)]
  exact ok_some (k _ ⟨n, p, q, hn, hp, hq, rfl⟩)
end Go.Nw
