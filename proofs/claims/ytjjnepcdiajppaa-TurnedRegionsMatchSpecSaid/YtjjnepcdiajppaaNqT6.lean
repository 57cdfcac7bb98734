/- NqT6: a part of the proof. -/
import Derived.Test.YtjjnepcdiajppaaNqT5
set_option linter.unusedVariables false
set_option linter.unusedSimpArgs false
set_option maxRecDepth 100000
namespace Go.Nw
/-- the least rectangle around others -/
structure Box (l : List TRect) (r : TRect) : Prop where
  le : ∀ q ∈ l, r.X0 ≤ q.X0 ∧ r.Y0 ≤ q.Y0 ∧ q.X1 ≤ r.X1 ∧ q.Y1 ≤ r.Y1
  x0 : ∃ q ∈ l, q.X0 = r.X0
  y0 : ∃ q ∈ l, q.Y0 = r.Y0
  x1 : ∃ q ∈ l, q.X1 = r.X1
  y1 : ∃ q ∈ l, q.Y1 = r.Y1
theorem box_eq {l : List TRect} {r s : TRect} (hr : Box l r) (hs : Box l s) : r = s := by
  obtain ⟨a, ha, ea⟩ := hr.x0; obtain ⟨b, hb, eb⟩ := hr.y0; obtain ⟨c, hc, ec⟩ := hr.x1; obtain ⟨d, hd, ed⟩ := hr.y1
  obtain ⟨a', ha', ea'⟩ := hs.x0; obtain ⟨b', hb', eb'⟩ := hs.y0; obtain ⟨c', hc', ec'⟩ := hs.x1; obtain ⟨d', hd', ed'⟩ := hs.y1
  have h1 := hs.le a ha; have h2 := hs.le b hb; have h3 := hs.le c hc; have h4 := hs.le d hd
  have g1 := hr.le a' ha'; have g2 := hr.le b' hb'; have g3 := hr.le c' hc'; have g4 := hr.le d' hd'
  ext <;> omega
theorem o_ref1_BoundsOf {l : List TRect} (hl : l.length < 281474976710656) (hn : 0 < l.length) {Q : TRect → Prop} (k : ∀ r, Box l r → Q r) : Ok (p_ref1_BoundsOf l) Q := by
  unfold p_ref1_BoundsOf
  refine ok_guard (by omega) ?_
  refine ok_then ?_
  have h00 : l.getD 0 default ∈ l := mem_getD hn
  refine ok_for l.length (fun i r => (∀ q ∈ l.take i, r.X0 ≤ q.X0 ∧ r.Y0 ≤ q.Y0 ∧ q.X1 ≤ r.X1 ∧ q.Y1 ≤ r.Y1) ∧ (∃ q ∈ l, q.X0 = r.X0) ∧ (∃ q ∈ l, q.Y0 = r.Y0) ∧ (∃ q ∈ l, q.X1 = r.X1) ∧ ∃ q ∈ l, q.Y1 = r.Y1)
    ⟨by simp, ⟨_, h00, rfl⟩, ⟨_, h00, rfl⟩, ⟨_, h00, rfl⟩, _, h00, rfl⟩ ?_ ?_
  · rintro i r hi ⟨h1, h2, h3, h4, h5⟩
    obtain ⟨q, hq⟩ : ∃ q, q = l.getD i default := ⟨_, rfl⟩
    have hqm : q ∈ l := by rw [hq]; exact mem_getD hi
    simp only [Int.toNat_natCast, ← hq]
    rw [if_pos (by omega), if_pos (by omega), if_pos (by omega)]
    refine ok_some ⟨rfl, fun s hs => ?_, ?_, ?_, ?_, ?_⟩
    · rw [take_snoc (d := default) hi, ← hq] at hs
      rcases List.mem_append.1 hs with hs | hs
      · have := h1 s hs
        simp only
        refine ⟨?_, ?_, ?_, ?_⟩ <;> split <;> omega
      · simp at hs; subst hs
        simp only
        refine ⟨?_, ?_, ?_, ?_⟩ <;> split <;> omega
    · simp only; split
      · exact ⟨q, hqm, rfl⟩
      · exact h2
    · simp only; split
      · exact ⟨q, hqm, rfl⟩
      · exact h3
    · simp only; split
      · exact ⟨q, hqm, rfl⟩
      · exact h4
    · simp only; split
      · exact ⟨q, hqm, rfl⟩
      · exact h5
  · rintro r ⟨h1, h2, h3, h4, h5⟩
    rw [if_neg (by omega)]
    rw [List.take_length] at h1
    exact ok_some (ok_some (k r ⟨h1, h2, h3, h4, h5⟩))
theorem pairs_last : ∀ {l : List Int}, l.length % 2 = 0 → l ≠ [] → ∃ p ∈ pairsX l, p.2 = l.getD (l.length - 1) 0
  | [], _, h => absurd rfl h
  | [a], h, _ => by simp at h
  | [a, b], _, _ => ⟨(a, b), by simp [pairsX], by simp⟩
  | a :: b :: c :: l, he, _ => by
    obtain ⟨p, h1, h2⟩ := pairs_last (l := c :: l) (by simp only [List.length_cons] at he ⊢; omega) (by simp)
    refine ⟨p, by rw [pairsX]; exact List.mem_cons_of_mem _ h1, ?_⟩
    rw [h2]
    simp only [List.length_cons, Nat.add_sub_cancel]
    rw [show l.length + 1 + 1 = (l.length) + 1 + 1 from rfl, List.getD_cons_succ, List.getD_cons_succ]
theorem up_ends {l : List Int} (hu : Up l) {a : Int} (ha : a ∈ l) : l.getD 0 0 ≤ a ∧ a ≤ l.getD (l.length - 1) 0 := by
  obtain ⟨i, hi, rfl⟩ := List.getElem_of_mem ha
  rw [getD_in (show 0 < l.length by omega), getD_in (show l.length - 1 < l.length by omega)]
  constructor
  · by_cases e : i = 0
    · subst e; exact Int.le_refl _
    · exact Int.le_of_lt (List.pairwise_iff_getElem.1 hu 0 i _ hi (by omega))
  · by_cases e : i = l.length - 1
    · subst e; exact Int.le_refl _
    · exact Int.le_of_lt (List.pairwise_iff_getElem.1 hu i (l.length - 1) hi _ (by omega))
theorem o_shape_Set_Around {S : List Bd} (hS : Canon S) (hl : S.length < 1000000000) (hx : ∀ b ∈ S, b.xs.length < 1000000000) (hn : 0 < S.length) {Q : TRect → Prop} (k : ∀ r, Box (rectsOf S) r → Q r) : Ok (p_shape_Set_Around (S.map ofBd)) Q := by
  unfold p_shape_Set_Around
  have hlm : (S.map ofBd).length = S.length := List.length_map ..
  simp only [hlm]
  obtain ⟨f0, l1, r1, r2, r3, r4, ⟨c0, m0, r5⟩, c1, m1, r6⟩ := ends_ok hS hn
  have ei : ((S.length : Int) - 1).toNat = S.length - 1 := by omega
  have e0 : (S.map ofBd).getD 0 default = ofBd S[0] := by simp [hn]
  have ex : (ofBd S[0]).Xs = S[0].xs := rfl
  have rect : ∀ b ∈ S, ∀ p ∈ pairsX b.xs, ({ X0 := p.1, Y0 := b.y0, X1 := p.2, Y1 := b.y1 } : TRect) ∈ rectsOf S := fun b hb p hp => mem_rectsOf.2 ⟨b, hb, rfl, rfl, hp⟩
  have first : ∀ b ∈ S, ∃ q ∈ rectsOf S, q.X0 = b.xs.getD 0 0 ∧ q.Y0 = b.y0 ∧ q.Y1 = b.y1 ∧ q.X1 = b.xs.getD 1 0 ∧ 1 < b.xs.length := fun b hb => by
    have ok := hS.ok b hb
    obtain ⟨y0, y1, xs⟩ := b
    match xs, ok with
    | [], ok => exact absurd rfl ok.ne
    | [a], ok => exact absurd ok.ev (by simp)
    | a :: c :: m, ok => exact ⟨_, rect _ hb (a, c) (by simp [pairsX]), rfl, rfl, rfl, rfl, by simp⟩
  have last : ∀ b ∈ S, ∃ q ∈ rectsOf S, q.X1 = b.xs.getD (b.xs.length - 1) 0 := fun b hb => by
    have ok := hS.ok b hb
    obtain ⟨p, hp, e⟩ := pairs_last ok.ev ok.ne
    exact ⟨_, rect _ hb p hp, e⟩
  obtain ⟨q0, g1, g2, g3, g4, g5, g6⟩ := first S[0] (List.getElem_mem hn)
  obtain ⟨q0', h1', -, h3', -⟩ := first c0 m0
  obtain ⟨q1', h1'', -, -, h4', -⟩ := first c1 m1
  have hd : (default : Int) = 0 := rfl
  simp only [show Int.toNat 0 = 0 from rfl, show Int.toNat 1 = 1 from rfl, ei, r1, r2, hd]
  simp only [e0, ex]
  refine ok_guard (by omega) (ok_guard (by omega) (ok_then ?_))
  refine ok_for S.length (fun i r => (∀ b ∈ S.take i, r.X0 ≤ b.xs.getD 0 0 ∧ b.xs.getD (b.xs.length - 1) 0 ≤ r.X1) ∧ (∃ q ∈ rectsOf S, q.X0 = r.X0) ∧ (∃ q ∈ rectsOf S, q.X1 = r.X1) ∧ r.Y0 = f0 ∧ r.Y1 = l1)
    ⟨by simp, ⟨q0, g1, g2⟩, ⟨q0, g1, g5⟩, rfl, rfl⟩ ?_ ?_
  · rintro i r hi ⟨h1, h2, h3, h4, h5⟩
    have hb := List.getElem_mem hi
    have e1 : (S.map ofBd).getD i default = ofBd S[i] := by simp [hi]
    have e2 : (ofBd S[i]).Xs = S[i].xs := rfl
    have hxl := hx _ hb
    obtain ⟨qa, a1, a2, -, -, -, a6⟩ := first _ hb
    obtain ⟨qb, b1, b2⟩ := last _ hb
    have e3 : ((S[i].xs.length : Int) - 1).toNat = S[i].xs.length - 1 := by omega
    simp only [Int.toNat_natCast, e1, e2, e3]
    rw [if_pos (by omega), if_pos (by omega), if_pos (by omega), if_pos (by omega), if_pos (by omega)]
    refine ok_some ⟨rfl, fun b hb => ?_, ?_, ?_, h4, h5⟩
    · rw [List.take_succ_eq_append_getElem hi] at hb
      rcases List.mem_append.1 hb with hb | hb
      · have := h1 b hb
        simp only
        refine ⟨?_, ?_⟩ <;> split <;> omega
      · simp at hb; subst hb
        simp only
        refine ⟨?_, ?_⟩ <;> split <;> omega
    · simp only; split
      · exact ⟨qa, a1, a2⟩
      · exact h2
    · simp only; split
      · exact ⟨qb, b1, b2⟩
      · exact h3
  · rintro r ⟨h1, h2, h3, h4, h5⟩
    rw [if_neg (by omega)]
    rw [List.take_length] at h1
    refine ok_some (ok_some (k r ⟨fun q hq => ?_, h2, ⟨q0', h1', by omega⟩, h3, q1', h1'', by omega⟩))
    obtain ⟨b, hb, p1, p2, p3⟩ := mem_rectsOf.1 hq
    have ok := hS.ok b hb
    obtain ⟨-, p4, p5⟩ := pairsX_lt ok.up _ p3
    have u1 := (up_ends ok.up p4).1
    have u2 := (up_ends ok.up p5).2
    have u3 := h1 b hb
    have u4 := r4 b hb
    simp only at u1 u2
    omega
open Classical in
noncomputable def boxF (l : List TRect) : TRect := if h : ∃ r, Box l r then h.choose else {}
theorem boxF_eq {l : List TRect} {r : TRect} (h : Box l r) : boxF l = r := by
  have e : ∃ r, Box l r := ⟨r, h⟩
  rw [boxF, dif_pos e]; exact box_eq e.choose_spec h
noncomputable def boundsF (l : List TRect) : TRect × Bool × Int := if regionFault l = 0 ∧ 0 < l.length then (boxF l, true, 0) else ({}, false, regionFault l)
theorem t_shape_Bounds {l : List TRect} (hl : l.length < 281474976710656) : p_shape_Bounds l = some (boundsF l) := by
  apply ok_val
  unfold p_shape_Bounds
  unfold boundsF
  refine ok_then (o_shape_CheckRegion hl ?_)
  by_cases h0 : regionFault l = 0 ∧ 0 < l.length
  · rw [if_pos h0, if_neg (by simp [h0.1]; intro h; rw [h] at h0; exact absurd h0.2 (by simp))]
    obtain ⟨h0, hn⟩ := h0
    obtain ⟨⟨n1, n2, n3⟩, -⟩ := regionFault_0.1 h0
    obtain ⟨T, -⟩ := set_tame (regionFault_r h0)
    refine ok_then (o_shape_SetOf (by omega) (fun r hr => (n2 r hr).ok) ?_)
    have hS : 0 < (setB (cov l)).length := by
      apply Classical.byContradiction
      intro c
      have : setB (cov l) = [] := List.eq_nil_of_length_eq_zero (by omega)
      unfold canonF at n3
      rw [this] at n3
      rw [← n3] at hn; simp [rectsOf] at hn
    refine ok_then (o_shape_Set_Around T.canon T.len (fun b hb => by have := T.xl b hb; omega) hS fun r hr => ?_)
    refine ok_some ?_
    rw [show rectsOf (setB (cov l)) = l from n3] at hr
    rw [boxF_eq hr]
  · rw [if_neg h0, if_pos (by
      simp only [Bool.or_eq_true, Bool.not_eq_true', decide_eq_false_iff_not, decide_eq_true_eq]
      by_cases c : regionFault l = 0
      · right; have : ¬ 0 < l.length := fun h => h0 ⟨c, h⟩
        omega
      · exact .inl c)]
    exact ok_some rfl
theorem o_shape_Bounds {l : List TRect} (hl : l.length < 281474976710656) {Q_ : _ → Prop} (k_ : Q_ (boundsF l)) : Ok (p_shape_Bounds l) Q_ := ok_of (t_shape_Bounds hl) k_
theorem s_shape_Bounds {β : Type} {cc_ : Prop} {d_ : Decidable cc_} {l : List TRect} (hl : cc_ → (l.length < 281474976710656)) {e_ : _} {f_ : _ → Option β} {Q_ : β → Prop} (hd : ¬ cc_ → f_ e_ = f_ (boundsF l)) (k_ : Ok (f_ (boundsF l)) Q_) : Ok (Option.bind (@ite _ cc_ d_ (p_shape_Bounds l) (some e_)) f_) Q_ := ok_short (fun hc__ => t_shape_Bounds (hl hc__)) hd k_
theorem t_ref1_Bounds {l : List TRect} (hl : l.length < 281474976710656) : p_ref1_Bounds l = some (boundsF l) := by
  apply ok_val
  unfold p_ref1_Bounds
  unfold boundsF
  refine ok_then (o_ref1_CheckRegion hl ?_)
  by_cases h0 : regionFault l = 0
  · rw [if_pos h0]
    by_cases hn : (l.length : Int) = 0
    · rw [if_pos hn, if_neg (by omega), h0]; exact ok_some rfl
    · rw [if_neg hn, if_pos ⟨h0, by omega⟩]
      refine ok_then (o_ref1_BoundsOf hl (by omega) fun r hr => ?_)
      rw [boxF_eq hr]; exact ok_some rfl
  · rw [if_neg h0, if_neg (fun h => h0 h.1)]; exact ok_some rfl
theorem o_ref1_Bounds {l : List TRect} (hl : l.length < 281474976710656) {Q_ : _ → Prop} (k_ : Q_ (boundsF l)) : Ok (p_ref1_Bounds l) Q_ := ok_of (t_ref1_Bounds hl) k_
theorem s_ref1_Bounds {β : Type} {cc_ : Prop} {d_ : Decidable cc_} {l : List TRect} (hl : cc_ → (l.length < 281474976710656)) {e_ : _} {f_ : _ → Option β} {Q_ : β → Prop} (hd : ¬ cc_ → f_ e_ = f_ (boundsF l)) (k_ : Ok (f_ (boundsF l)) Q_) : Ok (Option.bind (@ite _ cc_ d_ (p_ref1_Bounds l) (some e_)) f_) Q_ := ok_short (fun hc__ => t_ref1_Bounds (hl hc__)) hd k_
theorem row_PointsMatchSpec (a0 : List TRect) (a1 : TPoint) (h0 : a0.length < 281474976710656 ∧ ∀ x ∈ a0, okTRect x) (h1 : okTPoint a1) : p_law1_PointsMatchSpec a0 a1 = some true := by
  have hl := h0.1
  apply ok_val
  unfold p_law1_PointsMatchSpec
  refine ok_then (o_shape_Has hl ?_)
  refine ok_then (o_ref1_Has hl ?_)
  refine ok_then (o_shape_Bounds hl ?_)
  refine ok_then (o_ref1_Bounds hl ?_)
  rw [if_pos (by simp)]
  exact ok_then (o_law1_awake (ok_some (by simp)))
end Go.Nw
