/- NqT7: a part of the proof. -/
import Derived.Test.YtjjnepcdiajppaaNqT5
set_option linter.unusedVariables false
set_option linter.unusedSimpArgs false
set_option maxRecDepth 100000
namespace Go.Nw
/-! Areas as counts of squares. -/
def sumI (f : Int → Int) (lo : Int) : Nat → Int
  | 0 => 0
  | n + 1 => sumI f lo n + f (lo + n)
theorem sumI_add (f g : Int → Int) (lo : Int) : ∀ n, sumI (fun x => f x + g x) lo n = sumI f lo n + sumI g lo n
  | 0 => rfl
  | n + 1 => by simp only [sumI]; rw [sumI_add f g lo n]; omega
theorem sumI_congr {f g : Int → Int} {lo : Int} : ∀ {n : Nat}, (∀ x, lo ≤ x → x < lo + n → f x = g x) → sumI f lo n = sumI g lo n
  | 0, _ => rfl
  | n + 1, h => by
    simp only [sumI]
    rw [sumI_congr fun x h1 h2 => h x h1 (by omega), h (lo + n) (by omega) (by omega)]
theorem sumI_mul (f : Int → Int) (c lo : Int) : ∀ n, sumI (fun x => f x * c) lo n = sumI f lo n * c
  | 0 => by simp [sumI]
  | n + 1 => by simp only [sumI]; rw [sumI_mul f c lo n, Int.add_mul]
theorem sumI_zero (lo : Int) : ∀ n, sumI (fun _ => 0) lo n = 0
  | 0 => rfl
  | n + 1 => by simp only [sumI]; rw [sumI_zero lo n]; rfl
def ind (b : Bool) : Int := if b then 1 else 0
theorem sum_span {lo a b : Int} (h1 : lo ≤ a) (h2 : a ≤ b) : ∀ n : Nat, sumI (fun x => ind (decide (a ≤ x) && decide (x < b))) lo n = if lo + n ≤ a then 0 else if lo + n ≤ b then lo + n - a else b - a
  | 0 => by rw [sumI, if_pos (by omega)]
  | n + 1 => by
    rw [sumI, sum_span h1 h2 n]
    have hi : ind (decide (a ≤ lo + n) && decide (lo + n < b)) = if a ≤ lo + n ∧ lo + n < b then 1 else 0 := by
      unfold ind
      by_cases c : a ≤ lo + (n : Int) ∧ lo + (n : Int) < b
      · rw [if_pos c, if_pos (by simpa using c)]
      · rw [if_neg c, if_neg (by simpa using c)]
    simp only [hi]
    by_cases c1 : lo + (n : Int) ≤ a
    · rw [if_pos c1]
      by_cases c2 : a ≤ lo + (n : Int) ∧ lo + (n : Int) < b
      · rw [if_pos c2, if_neg (by omega), if_pos (by omega)]; omega
      · rw [if_neg c2]
        by_cases c3 : lo + ((n + 1 : Nat) : Int) ≤ a
        · rw [if_pos c3]; rfl
        · rw [if_neg c3]
          by_cases c4 : lo + ((n + 1 : Nat) : Int) ≤ b
          · omega
          · rw [if_neg c4]; omega
    · rw [if_neg c1]
      by_cases c2 : lo + (n : Int) < b
      · rw [if_pos (by omega), if_pos (by omega), if_neg (by omega), if_pos (by omega)]; omega
      · rw [if_neg (show ¬ (a ≤ lo + (n : Int) ∧ lo + (n : Int) < b) by omega), if_neg (show ¬ lo + ((n + 1 : Nat) : Int) ≤ a by omega), if_neg (show ¬ lo + ((n + 1 : Nat) : Int) ≤ b by omega)]
        by_cases c3 : lo + (n : Int) ≤ b
        · rw [if_pos c3]; omega
        · rw [if_neg c3]; omega
/-- how many squares there are, within a range -/
def cnt (P : Int → Int → Bool) (lo : Int) (n : Nat) : Int := sumI (fun y => sumI (fun x => ind (P x y)) lo n) lo n
def rP (r : TRect) (x y : Int) : Bool := (decide (r.X0 ≤ x) && decide (x < r.X1)) && (decide (r.Y0 ≤ y) && decide (y < r.Y1))
theorem rP_iff {r : TRect} {x y : Int} : rP r x y = true ↔ inR r x y := by simp [rP, inR]
theorem ind_and (a b : Bool) : ind (a && b) = ind a * ind b := by cases a <;> cases b <;> rfl
theorem cnt_rect {r : TRect} {lo : Int} {n : Nat} (h : RIn r) (h1 : lo ≤ -1000000) (h2 : 1000000 ≤ lo + n) : cnt (rP r) lo n = areaR r := by
  have a1 := h.x0; have a2 := h.xx; have a3 := h.x1; have a4 := h.y0; have a5 := h.yy; have a6 := h.y1
  have ex : ∀ y, sumI (fun x => ind (rP r x y)) lo n = ind (decide (r.Y0 ≤ y) && decide (y < r.Y1)) * (r.X1 - r.X0) := fun y => by
    simp only [rP, ind_and _ (decide (r.Y0 ≤ y) && decide (y < r.Y1))]
    rw [sumI_mul, sum_span (by omega) (by omega), if_neg (by omega), Int.mul_comm]
    by_cases c : lo + (n : Int) ≤ r.X1
    · rw [if_pos c, show lo + (n : Int) = r.X1 by omega]
    · rw [if_neg c]
  unfold cnt
  simp only [ex]
  rw [sumI_mul, sum_span (by omega) (by omega), if_neg (by omega), areaR, Int.mul_comm]
  by_cases c : lo + (n : Int) ≤ r.Y1
  · rw [if_pos c, show lo + (n : Int) = r.Y1 by omega]
  · rw [if_neg c]
theorem cnt_add {P Q R T : Int → Int → Bool} {lo : Int} {n : Nat} (h : ∀ x y, ind (P x y) + ind (Q x y) = ind (R x y) + ind (T x y)) : cnt P lo n + cnt Q lo n = cnt R lo n + cnt T lo n := by
  unfold cnt
  rw [← sumI_add, ← sumI_add]
  refine sumI_congr fun y _ _ => ?_
  rw [← sumI_add, ← sumI_add]
  exact sumI_congr fun x _ _ => h x y
theorem cnt_congr {P Q : Int → Int → Bool} {lo : Int} {n : Nat} (h : ∀ x y, P x y = Q x y) : cnt P lo n = cnt Q lo n := by
  have : P = Q := by funext x y; exact h x y
  rw [this]
theorem cnt_false (lo : Int) (n : Nat) : cnt (fun _ _ => false) lo n = 0 := by
  unfold cnt
  have : (fun _ : Int => sumI (fun _ => ind false) lo n) = fun _ => (0 : Int) := by funext y; exact sumI_zero lo n
  rw [this]
  exact sumI_zero lo n
/-- squares of rectangles apart from each other -/
def lP (l : List TRect) (x y : Int) : Bool := l.any fun r => rP r x y
theorem lP_iff {l : List TRect} {x y : Int} : lP l x y = true ↔ cov l x y := by
  simp only [lP, List.any_eq_true, rP_iff, cov]
theorem cnt_list {lo : Int} {n : Nat} (h1 : lo ≤ -1000000) (h2 : 1000000 ≤ lo + n) : ∀ {l : List TRect}, (∀ r ∈ l, RIn r) → l.Pairwise (fun r q => ∀ x y, ¬ (inR r x y ∧ inR q x y)) → cnt (lP l) lo n = areaF l
  | [], _, _ => cnt_false lo n
  | r :: l, hr, hp => by
    obtain ⟨p1, p2⟩ := List.pairwise_cons.1 hp
    have ih := cnt_list h1 h2 (fun q hq => hr q (by simp [hq])) p2
    have : cnt (lP (r :: l)) lo n + cnt (fun _ _ => false) lo n = cnt (rP r) lo n + cnt (lP l) lo n := cnt_add fun x y => by
      have e : lP (r :: l) x y = (rP r x y || lP l x y) := rfl
      rw [e]
      have : ¬ (rP r x y = true ∧ lP l x y = true) := by
        rintro ⟨h3, h4⟩
        obtain ⟨q, hq, h5⟩ := lP_iff.1 h4
        exact p1 q hq x y ⟨rP_iff.1 h3, h5⟩
      cases h3 : rP r x y <;> cases h4 : lP l x y <;> simp_all [ind]
    rw [cnt_false, cnt_rect (hr r (by simp)) h1 h2, ih] at this
    simp only [areaF, List.map_cons, List.sum_cons] at this ⊢
    omega
theorem rectsOf_apart : ∀ {S : List Bd}, Canon S → (rectsOf S).Pairwise fun r q => ∀ x y, ¬ (inR r x y ∧ inR q x y)
  | [], _ => List.Pairwise.nil
  | b :: S, h => by
    have hb := h.ok b (by simp)
    rw [rectsOf, List.flatMap_cons]
    refine List.pairwise_append.2 ⟨?_, rectsOf_apart h.tail, fun r hr q hq => ?_⟩
    · have g := fl_up (l := pairsX b.xs)
      rw [fl_pairsX hb.ev] at g
      refine List.pairwise_map.2 ((g hb.up).ap.imp fun {p q} hpq x y => ?_)
      rintro ⟨⟨⟨h1, h2⟩, -⟩, ⟨h3, h4⟩, -⟩
      simp only at h1 h2 h3 h4; omega
    · obtain ⟨p, hp, rfl⟩ := List.mem_map.1 hr
      obtain ⟨c, hc, h1, h2, -⟩ := mem_rectsOf.1 (show q ∈ rectsOf S from hq)
      have := h.head c hc
      rintro x y ⟨⟨-, h3, h4⟩, -, h5, h6⟩
      simp only at h3 h4; omega
/-- the area of a right region is the number of its squares -/
theorem area_cnt {l : List TRect} (h : regionFault l = 0) {lo : Int} {n : Nat} (h1 : lo ≤ -1000000) (h2 : 1000000 ≤ lo + n) : areaF l = cnt (lP l) lo n := by
  have R := (regionFault_0.1 h).1
  obtain ⟨T, -⟩ := set_tame (regionFault_r h)
  have hp := rectsOf_apart T.canon
  rw [show rectsOf (setB (cov l)) = l from R.canon] at hp
  exact (cnt_list h1 h2 R.ok hp).symm
theorem lP_comb {n : Int} {l m : List TRect} (C : CombOk n l m) (x y : Int) : lP (combF n l m) x y = keepF n (lP l x y) (lP m x y) := by
  rw [Bool.eq_iff_iff, lP_iff, C.cov, keepF_iff]
  exact keepP_congr lP_iff.symm lP_iff.symm
theorem o_law1_area {l : List TRect} (hl : l.length < 281474976710656) (h : regionFault l = 0) {Q : Int → Prop} (k : Q (areaF l)) : Ok (p_law1_area l) Q := by
  unfold p_law1_area
  refine ok_then (o_shape_Area hl ?_)
  unfold areaOfF
  rw [if_pos h, if_pos rfl]
  exact ok_some k
theorem row_SetsAddUp (a0 a1 : List TRect) (h0 : a0.length < 281474976710656 ∧ ∀ x ∈ a0, okTRect x) (h1 : a1.length < 281474976710656 ∧ ∀ x ∈ a1, okTRect x) : p_law1_SetsAddUp a0 a1 = some true := by
  have hl := h0.1
  have hm := h1.1
  have t1 := twoF_len 1 a0 a1
  have t2 := twoF_len 2 a0 a1
  have t3 := twoF_len 3 a0 a1
  apply ok_val
  unfold p_law1_SetsAddUp
  refine ok_then (o_shape_Union hl hm ?_)
  refine ok_then (o_shape_Both hl hm ?_)
  refine ok_then (o_shape_Minus hl hm ?_)
  by_cases hc : (twoF 1 a0 a1).2 = 0 ∧ (twoF 2 a0 a1).2 = 0 ∧ (twoF 3 a0 a1).2 = 0
  · rw [if_neg (by simp [hc])]
    obtain ⟨c1, c2, c3⟩ := hc
    obtain ⟨f0, f1, e1, r1, C1⟩ := twoF_0 c1
    obtain ⟨-, -, e2, r2, C2⟩ := twoF_0 c2
    obtain ⟨-, -, e3, r3, C3⟩ := twoF_0 c3
    rw [e1] at t1 ⊢; rw [e2] at t2 ⊢; rw [e3] at t3 ⊢
    have R0 := (regionFault_0.1 f0).1
    have R1 := (regionFault_0.1 f1).1
    have hz : ∀ l : List TRect, l.length ≤ 2000 → toldF l = (l, 0) := fun l h => by unfold toldF; rw [if_neg (by omega)]
    have u5 : twoF 1 (combF 3 a0 a1) (combF 2 a0 a1) = (a0, 0) := by
      unfold twoF
      rw [if_pos r3, if_pos r2]
      have : combF 1 (combF 3 a0 a1) (combF 2 a0 a1) = a0 := by
        unfold combF combB
        rw [setB_congr (Q := cov a0) fun x y => ?_]
        · exact R0.canon
        · have g3 := C3.cov x y; have g2 := C2.cov x y
          unfold combF combB at g3 g2
          rw [keepP_congr g3 g2]
          simp only [KeepP]
          by_cases ca : cov a0 x y <;> by_cases cb : cov a1 x y <;> simp [ca, cb]
      rw [this]; exact hz _ R0.n
    have u6 : twoF 2 (combF 3 a0 a1) a1 = ([], 0) := by
      unfold twoF
      rw [if_pos r3, if_pos f1]
      have : combF 2 (combF 3 a0 a1) a1 = [] := by
        unfold combF combB
        rw [setB_eq canon_nil fun x y => ?_]
        · rfl
        · have g3 := C3.cov x y
          unfold combF combB at g3
          rw [keepP_congr g3 Iff.rfl]
          simp only [KeepP, inB, sec, inX]
          by_cases ca : cov a0 x y <;> by_cases cb : cov a1 x y <;> simp [ca, cb]
      rw [this]; exact hz _ (by simp)
    refine ok_then (o_shape_Union (by omega) (by omega) ?_)
    refine ok_then (o_shape_Both (by omega) hm ?_)
    rw [u5, u6]
    rw [if_pos (by simp)]
    refine ok_then (o_slices_Equal_Rect hl ?_)
    simp only [decide_true, List.length_nil, Bool.and_true, Bool.true_and, show ((0 : Nat) : Int) = 0 from rfl, if_true]
    refine ok_then (o_law1_area (by omega) r1 ?_)
    refine ok_then (o_law1_area (by omega) r2 ?_)
    refine ok_then (o_law1_area hl f0 ?_)
    refine ok_then (o_law1_area hm f1 ?_)
    obtain ⟨n, hn⟩ : ∃ n : Nat, n = 2000000 := ⟨_, rfl⟩
    have A1 := area_cnt r1 (lo := -1000000) (n := n) (by omega) (by omega)
    have A2 := area_cnt r2 (lo := -1000000) (n := n) (by omega) (by omega)
    have A3 := area_cnt r3 (lo := -1000000) (n := n) (by omega) (by omega)
    have A4 := area_cnt f0 (lo := -1000000) (n := n) (by omega) (by omega)
    have A5 := area_cnt f1 (lo := -1000000) (n := n) (by omega) (by omega)
    have B1 : areaF (combF 1 a0 a1) + areaF (combF 2 a0 a1) = areaF a0 + areaF a1 := by
      rw [A1, A2, A4, A5]
      refine cnt_add fun x y => ?_
      rw [lP_comb C1, lP_comb C2]
      cases lP a0 x y <;> cases lP a1 x y <;> rfl
    have B2 : areaF (combF 3 a0 a1) + areaF (combF 2 a0 a1) = areaF a0 := by
      have : cnt (lP (combF 3 a0 a1)) (-1000000) n + cnt (lP (combF 2 a0 a1)) (-1000000) n = cnt (lP a0) (-1000000) n + cnt (fun _ _ => false) (-1000000) n := by
        refine cnt_add fun x y => ?_
        rw [lP_comb C3, lP_comb C2]
        cases lP a0 x y <;> cases lP a1 x y <;> rfl
      rw [cnt_false] at this
      rw [A3, A2, A4]; omega
    have b1 := areaF_in (regionFault_0.1 r1).1.ok; have b2 := areaF_in (regionFault_0.1 r2).1.ok; have b3 := areaF_in (regionFault_0.1 r3).1.ok
    have b4 := areaF_in R0.ok; have b5 := areaF_in R1.ok
    have n4 := R0.n; have n5 := R1.n
    clear A1 A2 A3 A4 A5
    rw [if_pos (by omega), if_pos (by omega), B1]
    simp only [decide_true, if_true]
    refine ok_then (o_law1_area (by omega) r3 ?_)
    refine ok_then (o_law1_area (by omega) r2 ?_)
    refine ok_then (o_law1_area hl f0 ?_)
    rw [if_pos (by omega), B2]
    simp only [decide_true, if_true]
    exact ok_then (o_law1_awake (ok_some (by simp)))
  · rw [if_pos (by simp only [Bool.or_eq_true, Bool.not_eq_true', decide_eq_false_iff_not]; simp only [Classical.not_and_iff_not_or_not] at hc; rcases hc with h | h | h; exact .inl (.inl h); exact .inl (.inr h); exact .inr h)]
    have hy : (decide ((twoF 1 a0 a1).2 = 0) || decide (((twoF 1 a0 a1).1.length : Int) = 0)) = true := by
      by_cases c : (twoF 1 a0 a1).2 = 0
      · simp [c]
      · simp [twoF_n c]
    rw [if_pos hy]
    exact ok_then (o_law1_awake (ok_some (by rw [hy]; rfl)))
end Go.Nw
