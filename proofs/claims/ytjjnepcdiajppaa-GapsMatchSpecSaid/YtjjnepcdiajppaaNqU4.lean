/- NqU4: a part of the proof. -/
import Derived.Test.YtjjnepcdiajppaaNqU3
set_option linter.unusedVariables false
set_option linter.unusedSimpArgs false
set_option maxRecDepth 100000
namespace Go.Nw
open Classical in
noncomputable def gapF (a b : List TRect) : TGap := if h : ∃ g, IsGap a b g then h.choose else {}
theorem gapF_eq {a b : List TRect} {g : TGap} (h : IsGap a b g) : gapF a b = g := by
  have e : ∃ g, IsGap a b g := ⟨g, h⟩
  rw [gapF, dif_pos e]; exact isGap_eq e.choose_spec h
def sumW (a : List (List TRect)) : Nat → Int
  | 0 => 0
  | k + 1 => W .i64 (sumW a k + ((a.getD k default).length : Int))
noncomputable def gapsStep (a : List (List TRect)) (d : Int) (i j : Nat) (s : Option (List TGap)) : Option (List TGap) :=
  s.bind fun out => if (a.getD i default).length = 0 ∨ (a.getD j default).length = 0 then some out else if (gapF (a.getD i default) (a.getD j default)).Distance < 0 then none
    else if (gapF (a.getD i default) (a.getD j default)).Distance < d then some (out ++ [{ A := (i : Int), B := (j : Int), Distance := (gapF (a.getD i default) (a.getD j default)).Distance, From := (gapF (a.getD i default) (a.getD j default)).From, To := (gapF (a.getD i default) (a.getD j default)).To }]) else some out
noncomputable def rowG (a : List (List TRect)) (d : Int) (i : Nat) : Nat → Option (List TGap) → Option (List TGap)
  | 0, s => s
  | k + 1, s => gapsStep a d i (i + 1 + k) (rowG a d i k s)
noncomputable def allG (a : List (List TRect)) (d : Int) (n : Nat) : Nat → Option (List TGap)
  | 0 => some []
  | i + 1 => rowG a d i (n - (i + 1)) (allG a d n i)
theorem rowG_none (a : List (List TRect)) (d : Int) (i : Nat) : ∀ k, rowG a d i k none = none
  | 0 => rfl
  | k + 1 => by rw [rowG, rowG_none a d i k]; rfl
theorem rowG_stop {a : List (List TRect)} {d : Int} {i k : Nat} {s : Option (List TGap)} (h : rowG a d i k s = none) : ∀ m, rowG a d i (k + m) s = none
  | 0 => h
  | m + 1 => by rw [← Nat.add_assoc, rowG, rowG_stop h m]; rfl
theorem allG_stop {a : List (List TRect)} {d : Int} {n i : Nat} (h : allG a d n i = none) : ∀ m, allG a d n (i + m) = none
  | 0 => h
  | m + 1 => by rw [← Nat.add_assoc, allG, allG_stop h m, rowG_none]
noncomputable def endG : Option (List TGap) → List TGap × Int
  | none => ([], 12)
  | some out => (out, 0)
noncomputable def gapsF (a : List (List TRect)) (d : Int) : List TGap × Int :=
  if 2000 < a.length ∨ 2000 < sumW a a.length then ([], 2)
  else if faultF a.length (fun i => regionFault (a.getD i default)) = 0 then (if (decide (0 ≤ d) && decide (d ≤ 100000)) = true then endG (allG a d a.length a.length) else ([], 1))
  else ([], faultF a.length fun i => regionFault (a.getD i default))
theorem rowG_len {a : List (List TRect)} {d : Int} {i : Nat} {s0 : List TGap} : ∀ {k : Nat} {out : List TGap}, rowG a d i k (some s0) = some out → out.length ≤ s0.length + k
  | 0, out, h => by cases h; omega
  | k + 1, out, h => by
    rw [rowG] at h
    cases hr : rowG a d i k (some s0) with
    | none => rw [hr] at h; cases h
    | some o =>
      have := rowG_len hr
      rw [hr] at h
      simp only [gapsStep, Option.bind_some] at h
      split at h
      · cases h; omega
      · split at h
        · cases h
        · split at h
          · cases h; simp; omega
          · cases h; omega
theorem allG_len {a : List (List TRect)} {d : Int} {n : Nat} : ∀ {i : Nat} {out : List TGap}, allG a d n i = some out → out.length ≤ i * n
  | 0, out, h => by cases h; simp
  | i + 1, out, h => by
    rw [allG] at h
    cases hr : allG a d n i with
    | none => rw [hr, rowG_none] at h; cases h
    | some o =>
      have h1 := allG_len hr
      rw [hr] at h
      have h2 := rowG_len h
      rw [Nat.add_mul, Nat.one_mul]; omega
theorem gapsF_len (a : List (List TRect)) (d : Int) : (gapsF a d).1.length ≤ 4000000 := by
  unfold gapsF
  split
  · simp
  · rename_i h
    split
    · split
      · cases hr : allG a d a.length a.length with
        | none => simp [endG]
        | some out =>
          have h1 := allG_len hr
          have h2 : a.length * a.length ≤ 2000 * 2000 := Nat.mul_le_mul (by omega) (by omega)
          simp only [endG]; omega
      · simp
    · simp
theorem ok_ex' {α : Type} {o : Option α} {Q : α → Prop} (h : Ok o Q) : ∃ r, o = some r ∧ Q r := ok_ex h
theorem t_shape_Gaps {a : List (List TRect)} {d : Int} (hl : a.length < 281474976710656) (hr : ∀ l ∈ a, l.length < 281474976710656) : p_shape_Gaps a d = some (gapsF a d) := by
  apply ok_val
  unfold p_shape_Gaps
  refine ok_then ?_
  refine ok_for a.length (fun i s => s = sumW a i) rfl ?_ ?_
  · rintro i s hi rfl
    simp only [Int.toNat_natCast]
    rw [if_pos (by omega), if_pos (by omega), if_pos (by omega)]
    exact ok_some ⟨rfl, rfl⟩
  rintro s rfl
  simp only
  rw [if_neg (by omega)]
  refine ok_some ?_
  simp only
  unfold gapsF
  by_cases hs : 2000 < a.length ∨ 2000 < sumW a a.length
  · rw [if_pos hs, if_pos (by simp only [Bool.or_eq_true, decide_eq_true_eq]; omega)]
    exact ok_some rfl
  rw [if_neg hs, if_neg (by simp only [Bool.or_eq_true, decide_eq_true_eq]; omega)]
  have hn : a.length ≤ 2000 := by omega
  refine ok_esc ?_
  refine ok_for a.length (fun i _ => ∀ j < i, regionFault (a.getD j default) = 0) (by intro j h; omega) ?_ ?_
  · rintro i ⟨s1, s2⟩ hi hI
    simp only [Int.toNat_natCast]
    rw [if_pos (by omega), if_pos (by omega)]
    refine ok_then (o_shape_CheckRegion (hr _ (mem_getD hi)) ?_)
    by_cases h : regionFault (a.getD i default) = 0
    · rw [if_pos h]
      exact ok_some ⟨rfl, all_lt hI h⟩
    · rw [if_neg h]
      refine ok_some ?_
      simp only
      have e : faultF a.length (fun i => regionFault (a.getD i default)) = regionFault (a.getD i default) := faultF_at (f := fun i => regionFault (a.getD i default)) hi h hI
      rw [e, if_neg h]
      exact ok_some rfl
  rintro ⟨t1, t2⟩ hI
  simp only
  rw [if_neg (by omega)]
  refine ok_some ?_
  simp only
  rw [if_pos (faultF_0 hI)]
  have R : ∀ i, i < a.length → (a.getD i default).length ≤ 2000 ∧ ∀ r ∈ a.getD i default, RIn r := fun i hi => by
    have := (regionFault_0.1 (hI i hi)).1; exact ⟨this.n, this.ok⟩
  refine ok_then (o_shape_within ?_)
  by_cases hd : ¬ (decide (0 ≤ d) && decide (d ≤ 100000)) = true
  · rw [if_neg hd, if_pos (by simp only [Bool.not_eq_true] at hd; rw [hd]; rfl)]
    exact ok_some rfl
  replace hd := Classical.not_not.1 hd
  rw [if_pos hd, if_neg (by rw [hd]; simp)]
  refine ok_esc ?_
  refine ok_for a.length (fun i (s : List TGap × Int × List TGap) => allG a d a.length i = some s.1) rfl ?_ ?_
  · rintro i ⟨out0, u1, u2⟩ hi hA
    simp only at hA
    have hlen0 := allG_len hA
    have hlen1 : i * a.length ≤ 2000 * 2000 := Nat.mul_le_mul (by omega) hn
    simp only [Int.toNat_natCast]
    rw [if_pos (by omega)]
    refine ok_esc ?_
    rw [if_pos (by omega)]
    refine ok_loop (fun s : Int × Int × List TGap × List TGap => ∃ k : Nat, s.1 = (i : Int) + 1 + k ∧ i + 1 + k ≤ a.length ∧ rowG a d i k (some out0) = some s.2.2.2) (fun s : Int × Int × List TGap × List TGap => a.length - s.1.toNat)
      ⟨0, by simp, by omega, rfl⟩ ?_
    rintro ⟨j', v1, v2, out⟩ ⟨k, e1, hk, hB⟩
    simp only at e1 hB
    subst e1
    have ej : ((i : Int) + 1 + (k : Int)).toNat = i + 1 + k := by omega
    simp only [ej]
    have hlen2 := rowG_len hB
    by_cases hj : i + 1 + k < a.length
    · rw [if_pos (by omega)]
      have hstep : rowG a d i (k + 1) (some out0) = gapsStep a d i (i + 1 + k) (some out) := by rw [rowG, hB]
      simp only [gapsStep, Option.bind_some] at hstep
      obtain ⟨lx, rx⟩ := R i hi
      obtain ⟨ly, ry⟩ := R (i + 1 + k) hj
      have stop : rowG a d i (k + 1) (some out0) = none → (([], 12) : List TGap × Int) = endG (allG a d a.length a.length) := fun h => by
        have h1 := rowG_stop h (a.length - (i + 1) - (k + 1))
        rw [show k + 1 + (a.length - (i + 1) - (k + 1)) = a.length - (i + 1) by omega] at h1
        have h2 : allG a d a.length (i + 1) = none := by rw [allG, hA]; exact h1
        have h3 := allG_stop h2 (a.length - (i + 1))
        rw [show i + 1 + (a.length - (i + 1)) = a.length by omega] at h3
        rw [h3]; rfl
      have next : ∀ w1 w2 o, rowG a d i (k + 1) (some out0) = some o → (∃ k' : Nat, ((i : Int) + 1 + (k : Int) + 1, w1, w2, o).1 = (i : Int) + 1 + k' ∧ i + 1 + k' ≤ a.length ∧ rowG a d i k' (some out0) = some ((((i : Int) + 1 + (k : Int) + 1, w1, w2, o) : Int × Int × List TGap × List TGap)).2.2.2) ∧ a.length - (((i : Int) + 1 + (k : Int) + 1, w1, w2, o) : Int × Int × List TGap × List TGap).1.toNat < a.length - (i + 1 + k) := fun w1 w2 o h => ⟨⟨k + 1, by simp; omega, by omega, h⟩, by simp only; omega⟩
      refine ok_esc ?_
      rw [if_pos (by first | exact fun _ => ⟨by omega, by omega⟩ | exact ⟨by omega, fun _ => ⟨by omega, by omega⟩⟩)]
      by_cases h0 : (a.getD i default).length = 0 ∨ (a.getD (i + 1 + k) default).length = 0
      · rw [if_pos h0] at hstep
        rw [if_pos (by simp only [Bool.or_eq_true, decide_eq_true_eq]; omega)]
        refine ok_some ?_
        simp only
        rw [if_pos (by omega)]
        exact ok_some (next _ _ _ hstep)
      · rw [if_neg h0] at hstep
        rw [if_neg (by simp only [Bool.or_eq_true, decide_eq_true_eq]; omega), if_pos (by omega)]
        refine ok_then (o_shape_GapOf lx ly rx ry (by omega) (by omega) fun g hg => ?_)
        rw [gapF_eq hg] at hstep
        by_cases h1 : g.Distance < 0
        · rw [if_pos h1] at hstep
          rw [if_pos h1]
          exact ok_some (ok_some (ok_some (ok_some (stop hstep))))
        · rw [if_neg h1] at hstep
          rw [if_neg h1]
          by_cases h2 : g.Distance < d
          · rw [if_pos h2] at hstep
            rw [if_pos h2, if_pos (by omega)]
            refine ok_some ?_
            simp only
            rw [if_pos (by omega)]
            have ec : ((i + 1 + k : Nat) : Int) = (i : Int) + 1 + (k : Int) := by omega
            rw [ec] at hstep
            exact ok_some (next _ _ _ hstep)
          · rw [if_neg h2] at hstep
            rw [if_neg h2]
            refine ok_some ?_
            simp only
            rw [if_pos (by omega)]
            exact ok_some (next _ _ _ hstep)
    · rw [if_neg (by omega)]
      refine ok_some ?_
      simp only
      rw [if_pos (by omega)]
      refine ok_some ⟨rfl, ?_⟩
      simp only
      rw [allG, hA, show a.length - (i + 1) = k by omega]; exact hB
  · rintro ⟨out, u1, u2⟩ hA
    simp only at hA
    simp only
    rw [if_neg (by omega)]
    refine ok_some ?_
    simp only
    refine ok_some ?_
    rw [hA]; rfl
theorem o_shape_Gaps {a : List (List TRect)} {d : Int} (hl : a.length < 281474976710656) (hr : ∀ l ∈ a, l.length < 281474976710656) {Q_ : _ → Prop} (k_ : Q_ (gapsF a d)) : Ok (p_shape_Gaps a d) Q_ := ok_of (t_shape_Gaps hl hr) k_
theorem s_shape_Gaps {β : Type} {cc_ : Prop} {d_ : Decidable cc_} {a : List (List TRect)} {d : Int} (hl : cc_ → (a.length < 281474976710656)) (hr : cc_ → (∀ l ∈ a, l.length < 281474976710656)) {e_ : _} {f_ : _ → Option β} {Q_ : β → Prop} (hd : ¬ cc_ → f_ e_ = f_ (gapsF a d)) (k_ : Ok (f_ (gapsF a d)) Q_) : Ok (Option.bind (@ite _ cc_ d_ (p_shape_Gaps a d) (some e_)) f_) Q_ := ok_short (fun hc__ => t_shape_Gaps (hl hc__) (hr hc__)) hd k_
theorem t_ref1_Gaps {a : List (List TRect)} {d : Int} (hl : a.length < 281474976710656) (hr : ∀ l ∈ a, l.length < 281474976710656) : p_ref1_Gaps a d = some (gapsF a d) := by
  apply ok_val
  unfold p_ref1_Gaps
  refine ok_then ?_
  refine ok_for a.length (fun i s => s = sumW a i) rfl ?_ ?_
  · rintro i s hi rfl
    simp only [Int.toNat_natCast]
    rw [if_pos (by omega), if_pos (by omega), if_pos (by omega)]
    exact ok_some ⟨rfl, rfl⟩
  rintro s rfl
  simp only
  rw [if_neg (by omega)]
  refine ok_some ?_
  simp only
  unfold gapsF
  by_cases hs : 2000 < a.length ∨ 2000 < sumW a a.length
  · rw [if_pos hs, if_pos (by simp only [Bool.or_eq_true, decide_eq_true_eq]; omega)]
    exact ok_some rfl
  rw [if_neg hs, if_neg (by simp only [Bool.or_eq_true, decide_eq_true_eq]; omega)]
  have hn : a.length ≤ 2000 := by omega
  refine ok_esc ?_
  refine ok_for a.length (fun i _ => ∀ j < i, regionFault (a.getD j default) = 0) (by intro j h; omega) ?_ ?_
  · rintro i ⟨s1, s2⟩ hi hI
    simp only [Int.toNat_natCast]
    rw [if_pos (by omega), if_pos (by omega)]
    refine ok_then (o_ref1_CheckRegion (hr _ (mem_getD hi)) ?_)
    by_cases h : regionFault (a.getD i default) = 0
    · rw [if_pos h]
      exact ok_some ⟨rfl, all_lt hI h⟩
    · rw [if_neg h]
      refine ok_some ?_
      simp only
      have e : faultF a.length (fun i => regionFault (a.getD i default)) = regionFault (a.getD i default) := faultF_at (f := fun i => regionFault (a.getD i default)) hi h hI
      rw [e, if_neg h]
      exact ok_some rfl
  rintro ⟨t1, t2⟩ hI
  simp only
  rw [if_neg (by omega)]
  refine ok_some ?_
  simp only
  rw [if_pos (faultF_0 hI)]
  have R : ∀ i, i < a.length → (a.getD i default).length ≤ 2000 ∧ ∀ r ∈ a.getD i default, RIn r := fun i hi => by
    have := (regionFault_0.1 (hI i hi)).1; exact ⟨this.n, this.ok⟩
  refine ok_then (o_ref1_within ?_)
  by_cases hd : ¬ (decide (0 ≤ d) && decide (d ≤ 100000)) = true
  · rw [if_neg hd, if_pos (by simp only [Bool.not_eq_true] at hd; rw [hd]; rfl)]
    exact ok_some rfl
  replace hd := Classical.not_not.1 hd
  rw [if_pos hd, if_neg (by rw [hd]; simp)]
  refine ok_esc ?_
  refine ok_for a.length (fun i (s : List TGap × Int × List TGap) => allG a d a.length i = some s.1) rfl ?_ ?_
  · rintro i ⟨out0, u1, u2⟩ hi hA
    simp only at hA
    have hlen0 := allG_len hA
    have hlen1 : i * a.length ≤ 2000 * 2000 := Nat.mul_le_mul (by omega) hn
    simp only [Int.toNat_natCast]
    rw [if_pos (by omega)]
    refine ok_esc ?_
    rw [if_pos (by omega)]
    refine ok_loop (fun s : Int × Int × List TGap × List TGap => ∃ k : Nat, s.1 = (i : Int) + 1 + k ∧ i + 1 + k ≤ a.length ∧ rowG a d i k (some out0) = some s.2.2.2) (fun s : Int × Int × List TGap × List TGap => a.length - s.1.toNat)
      ⟨0, by simp, by omega, rfl⟩ ?_
    rintro ⟨j', v1, v2, out⟩ ⟨k, e1, hk, hB⟩
    simp only at e1 hB
    subst e1
    have ej : ((i : Int) + 1 + (k : Int)).toNat = i + 1 + k := by omega
    simp only [ej]
    have hlen2 := rowG_len hB
    by_cases hj : i + 1 + k < a.length
    · rw [if_pos (by omega)]
      have hstep : rowG a d i (k + 1) (some out0) = gapsStep a d i (i + 1 + k) (some out) := by rw [rowG, hB]
      simp only [gapsStep, Option.bind_some] at hstep
      obtain ⟨lx, rx⟩ := R i hi
      obtain ⟨ly, ry⟩ := R (i + 1 + k) hj
      have stop : rowG a d i (k + 1) (some out0) = none → (([], 12) : List TGap × Int) = endG (allG a d a.length a.length) := fun h => by
        have h1 := rowG_stop h (a.length - (i + 1) - (k + 1))
        rw [show k + 1 + (a.length - (i + 1) - (k + 1)) = a.length - (i + 1) by omega] at h1
        have h2 : allG a d a.length (i + 1) = none := by rw [allG, hA]; exact h1
        have h3 := allG_stop h2 (a.length - (i + 1))
        rw [show i + 1 + (a.length - (i + 1)) = a.length by omega] at h3
        rw [h3]; rfl
      have next : ∀ w1 w2 o, rowG a d i (k + 1) (some out0) = some o → (∃ k' : Nat, ((i : Int) + 1 + (k : Int) + 1, w1, w2, o).1 = (i : Int) + 1 + k' ∧ i + 1 + k' ≤ a.length ∧ rowG a d i k' (some out0) = some ((((i : Int) + 1 + (k : Int) + 1, w1, w2, o) : Int × Int × List TGap × List TGap)).2.2.2) ∧ a.length - (((i : Int) + 1 + (k : Int) + 1, w1, w2, o) : Int × Int × List TGap × List TGap).1.toNat < a.length - (i + 1 + k) := fun w1 w2 o h => ⟨⟨k + 1, by simp; omega, by omega, h⟩, by simp only; omega⟩
      refine ok_esc ?_
      rw [if_pos (by first | exact fun _ => ⟨by omega, by omega⟩ | exact ⟨by omega, fun _ => ⟨by omega, by omega⟩⟩)]
      by_cases h0 : (a.getD i default).length = 0 ∨ (a.getD (i + 1 + k) default).length = 0
      · rw [if_pos h0] at hstep
        rw [if_pos (by simp only [Bool.or_eq_true, decide_eq_true_eq]; omega)]
        refine ok_some ?_
        simp only
        rw [if_pos (by omega)]
        exact ok_some (next _ _ _ hstep)
      · rw [if_neg h0] at hstep
        rw [if_neg (by simp only [Bool.or_eq_true, decide_eq_true_eq]; omega), if_pos (by omega)]
        refine ok_then (o_ref1_farRegions lx ly rx ry (by omega) (by omega) fun n hn => ?_)
        have hn0 : 0 ≤ n ∧ n ≤ 3000000 := by
          obtain ⟨-, r, hr, q, hq, rfl⟩ := hn
          exact ⟨farR_0 r q, farR_in (rx r hr) (ry q hq)⟩
        obtain ⟨g, -, hg⟩ := ok_ex' (o_ref1_GapOf lx ly rx ry (by omega) (by omega) (Q := fun g => IsGap (a.getD i default) (a.getD (i + 1 + k) default) g) fun g hg => hg)
        rw [gapF_eq hg] at hstep
        have hgd : g.Distance = n - 1 := by
          obtain ⟨n', p, q, h1, h2, h3, rfl⟩ := hg
          rw [isMin_eq hn h1]
        by_cases h1 : n = 0
        · rw [if_pos (by omega)] at hstep
          rw [if_pos h1]
          exact ok_some (ok_some (ok_some (ok_some (stop hstep))))
        · rw [if_neg (by omega)] at hstep
          rw [if_neg h1]
          refine ok_then (o_ref1_farRegions lx ly rx ry (by omega) (by omega) fun n' hn' => ?_)
          obtain rfl := isMin_eq hn hn'
          rw [if_pos (by omega)]
          by_cases h2 : n - 1 < d
          · rw [if_pos (by omega)] at hstep
            rw [if_pos h2]
            refine ok_then (o_ref1_GapOf lx ly rx ry (by omega) (by omega) fun g' hg' => ?_)
            obtain rfl := isGap_eq hg hg'
            rw [if_pos (by omega)]
            refine ok_some ?_
            simp only
            rw [if_pos (by omega)]
            have ec : ((i + 1 + k : Nat) : Int) = (i : Int) + 1 + (k : Int) := by omega
            rw [ec] at hstep
            exact ok_some (next _ _ _ hstep)
          · rw [if_neg (by omega)] at hstep
            rw [if_neg h2]
            refine ok_some ?_
            simp only
            rw [if_pos (by omega)]
            exact ok_some (next _ _ _ hstep)
    · rw [if_neg (by omega)]
      refine ok_some ?_
      simp only
      rw [if_pos (by omega)]
      refine ok_some ⟨rfl, ?_⟩
      simp only
      rw [allG, hA, show a.length - (i + 1) = k by omega]; exact hB
  · rintro ⟨out, u1, u2⟩ hA
    simp only at hA
    simp only
    rw [if_neg (by omega)]
    refine ok_some ?_
    simp only
    refine ok_some ?_
    rw [hA]; rfl
theorem o_ref1_Gaps {a : List (List TRect)} {d : Int} (hl : a.length < 281474976710656) (hr : ∀ l ∈ a, l.length < 281474976710656) {Q_ : _ → Prop} (k_ : Q_ (gapsF a d)) : Ok (p_ref1_Gaps a d) Q_ := ok_of (t_ref1_Gaps hl hr) k_
theorem s_ref1_Gaps {β : Type} {cc_ : Prop} {d_ : Decidable cc_} {a : List (List TRect)} {d : Int} (hl : cc_ → (a.length < 281474976710656)) (hr : cc_ → (∀ l ∈ a, l.length < 281474976710656)) {e_ : _} {f_ : _ → Option β} {Q_ : β → Prop} (hd : ¬ cc_ → f_ e_ = f_ (gapsF a d)) (k_ : Ok (f_ (gapsF a d)) Q_) : Ok (Option.bind (@ite _ cc_ d_ (p_ref1_Gaps a d) (some e_)) f_) Q_ := ok_short (fun hc__ => t_ref1_Gaps (hl hc__) (hr hc__)) hd k_
theorem o_slices_Equal_Gap {l m : List TGap} (hl : l.length < 281474976710656) (h : l = m) {Q : Bool → Prop} (k : Q true) : Ok (p_slices_Equal_Gap l m) Q := by
  subst h
  unfold p_slices_Equal_Gap
  rw [if_pos rfl]
  refine ok_esc ?_
  refine ok_for l.length (fun _ _ => True) trivial ?_ ?_
  · rintro i s hi -
    simp only
    rw [if_pos (by omega), if_pos (by omega), if_pos trivial, if_pos (by omega)]
    exact ok_some ⟨rfl, trivial⟩
  · rintro s -
    simp only
    rw [if_neg (by omega)]
    exact ok_some (ok_some k)
theorem row_GapsMatchSpec (a0 : List (List TRect)) (a1 : Int) (h0 : a0.length < 281474976710656 ∧ ∀ x ∈ a0, x.length < 281474976710656 ∧ ∀ y ∈ x, okTRect y) (h1 : -9223372036854775808 ≤ a1 ∧ a1 ≤ 9223372036854775807) : p_law1_GapsMatchSpec a0 a1 = some true := by
  have hl := h0.1
  have hr := fun l hl => (h0.2 l hl).1
  have hn := gapsF_len a0 a1
  apply ok_val
  unfold p_law1_GapsMatchSpec
  refine ok_then (o_shape_Gaps hl hr ?_)
  refine ok_then (o_ref1_Gaps hl hr ?_)
  refine ok_then (o_slices_Equal_Gap (by omega) rfl ?_)
  rw [if_pos (by simp)]
  exact ok_then (o_law1_awake (ok_some (by simp)))
end Go.Nw
