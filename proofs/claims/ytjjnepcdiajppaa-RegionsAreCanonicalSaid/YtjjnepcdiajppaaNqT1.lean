/- NqT1: a part of the proof. -/
import Derived.Test.YtjjnepcdiajppaaNqRef2
set_option linter.unusedVariables false
set_option linter.unusedSimpArgs false
set_option maxRecDepth 100000
namespace Go.Nw
theorem o_shape_line {A B : List Int} {f : Bool → Bool → Option Bool} {keep : Bool → Bool → Bool} (hf : ∀ a b, f a b = some (keep a b)) (h0 : keep false false = false) (hA : Up A) (hB : Up B) (eA : A.length % 2 = 0) (eB : B.length % 2 = 0)
    (lA : A.length < 1000000000) (lB : B.length < 1000000000) {Q : List Int → Prop}
    (k : ∀ out, Up out → out.length % 2 = 0 → (∀ x, inX out x = keep (inX A x) (inX B x)) → (∀ e ∈ out, e ∈ A ∨ e ∈ B) → out.length ≤ A.length + B.length → Q out) : Ok (p_shape_line A B f) Q := by
  unfold p_shape_line
  refine ok_then ?_
  refine ok_loop (fun s : Bool × Bool × Bool × List Int × List Int × List Int => Mrg keep A B s.2.2.2.2.1 s.2.2.2.2.2 s.2.2.1 s.2.1 s.1 s.2.2.2.1) (fun s => s.2.2.2.2.1.length + s.2.2.2.2.2.length) (mrg_0 h0) ?_
  rintro ⟨is, pb, pa, out, a, b⟩ hI
  simp only at hI
  have ua : Up a := by obtain ⟨d, rfl, -⟩ := hI.ha; exact (up_suffix hA).2.2
  have ub : Up b := by obtain ⟨d, rfl, -⟩ := hI.hb; exact (up_suffix hB).2.2
  have hlen := hI.len
  have leaf : ∀ (x : Int) (a1 b1 : List Int) (pa1 pb1 : Bool), (∀ e ∈ a, x ≤ e) → (∀ e ∈ b, x ≤ e) → (x ∈ a ∨ x ∈ b) → Tk x a a1 pa pa1 → Tk x b b1 pb pb1 → a1.length + b1.length < a.length + b.length →
      Ok (Option.bind (f pa1 pb1) fun x10 => if (!x10 == is) = true then if (out.length + 1) * 16 < 281474976710656 then some (Sum.inl (x10, pb1, pa1, out ++ [x], a1, b1)) else none else some (Sum.inl (is, pb1, pa1, out, a1, b1)))
        (fun o : (Bool × Bool × Bool × List Int × List Int × List Int) ⊕ List Int => match o with | .inl s' => Mrg keep A B s'.2.2.2.2.1 s'.2.2.2.2.2 s'.2.2.1 s'.2.1 s'.1 s'.2.2.2.1 ∧ s'.2.2.2.2.1.length + s'.2.2.2.2.2.length < a.length + b.length | .inr e => Ok (some e) Q) := by
    intro x a1 b1 pa1 pb1 g1 g2 g3 g4 g5 g6
    have hm := mrg_step hA hB hI g1 g2 g3 g4 g5
    refine ok_bind_eq (hf pa1 pb1) ?_
    by_cases c : keep pa1 pb1 = is
    · rw [if_neg (by simp [c])]
      rw [if_pos c, c] at hm
      exact ok_some ⟨hm, g6⟩
    · rw [if_pos (by simp [c]), if_pos (by omega)]
      rw [if_neg c] at hm
      exact ok_some ⟨hm, g6⟩
  cases a with
  | nil =>
    cases b with
    | nil =>
      have z : (([] : List Int).length : Int) = 0 := rfl
      simp only [z, decide_true, decide_false, Bool.or_true, Bool.or_false, Bool.true_or, Bool.not_false, Bool.not_true, Bool.true_and, Bool.false_and, Bool.and_true, Bool.false_or, Bool.and_false, Int.toNat_zero, Int.toNat_one, List.getD_cons_zero, List.drop_succ_cons, List.drop_zero, if_true, Option.bind_some, Int.le_refl, and_self, forall_const, Bool.false_eq_true, if_false, decide_eq_true_eq, Int.lt_irrefl, false_implies, show Int.toNat 0 = 0 from rfl, show Int.toNat 1 = 1 from rfl]
      refine ok_some ?_
      obtain ⟨q1, q2, q3, q4, q5⟩ := mrg_end eA eB h0 hI
      exact ok_some (k _ q1 q2 q3 q4 q5)
    | cons y b =>
      have hy := (List.pairwise_cons.1 ub).1
      have := leaf y [] b pa (!pb) (by simp) (fun e he => by rcases List.mem_cons.1 he with rfl | he; exact Int.le_refl _; exact Int.le_of_lt (hy e he)) (.inr (by simp)) (.inr ⟨rfl, rfl, by simp⟩) (.inl ⟨rfl, rfl⟩) (by simp)
      have p : (0 : Int) < ((y :: b).length : Int) := by simp only [List.length_cons]; omega
      have z : (([] : List Int).length : Int) = 0 := rfl
      have p' : ¬ ((y :: b).length : Int) = 0 := by omega
      simp only [z, p, p', decide_true, decide_false, Bool.or_true, Bool.or_false, Bool.true_or, Bool.not_false, Bool.not_true, Bool.true_and, Bool.false_and, Bool.and_true, Bool.false_or, Bool.and_false, Int.toNat_zero, Int.toNat_one, List.getD_cons_zero, List.drop_succ_cons, List.drop_zero, if_true, Option.bind_some, Int.le_refl, and_self, forall_const, Bool.false_eq_true, if_false, decide_eq_true_eq, Int.lt_irrefl, false_implies, show Int.toNat 0 = 0 from rfl, show Int.toNat 1 = 1 from rfl]
      exact ok_mono this fun o h => by cases o <;> exact h
  | cons x a =>
    have hx := (List.pairwise_cons.1 ua).1
    cases b with
    | nil =>
      have := leaf x a [] (!pa) pb (fun e he => by rcases List.mem_cons.1 he with rfl | he; exact Int.le_refl _; exact Int.le_of_lt (hx e he)) (by simp) (.inl (by simp)) (.inl ⟨rfl, rfl⟩) (.inr ⟨rfl, rfl, by simp⟩) (by simp)
      have p : (0 : Int) < ((x :: a).length : Int) := by simp only [List.length_cons]; omega
      have z : (([] : List Int).length : Int) = 0 := rfl
      simp only [z, p, decide_true, decide_false, Bool.or_true, Bool.or_false, Bool.true_or, Bool.not_false, Bool.not_true, Bool.true_and, Bool.false_and, Bool.and_true, Bool.false_or, Bool.and_false, Int.toNat_zero, Int.toNat_one, List.getD_cons_zero, List.drop_succ_cons, List.drop_zero, if_true, Option.bind_some, Int.le_refl, and_self, forall_const, Bool.false_eq_true, if_false, decide_eq_true_eq, Int.lt_irrefl, false_implies, show Int.toNat 0 = 0 from rfl, show Int.toNat 1 = 1 from rfl]
      exact ok_mono this fun o h => by cases o <;> exact h
    | cons y b =>
      have hy := (List.pairwise_cons.1 ub).1
      have p : (0 : Int) < ((x :: a).length : Int) := by simp only [List.length_cons]; omega
      have q : (0 : Int) < ((y :: b).length : Int) := by simp only [List.length_cons]; omega
      have q' : ¬ ((y :: b).length : Int) = 0 := by omega
      rcases Int.lt_trichotomy x y with c | c | c
      · have := leaf x a (y :: b) (!pa) pb (fun e he => by rcases List.mem_cons.1 he with rfl | he; exact Int.le_refl _; exact Int.le_of_lt (hx e he)) (fun e he => by rcases List.mem_cons.1 he with rfl | he; exact Int.le_of_lt c; have := hy e he; omega) (.inl (by simp)) (.inl ⟨rfl, rfl⟩) (.inr ⟨rfl, rfl, fun h => by rcases List.mem_cons.1 h with rfl | h; omega; have := hy _ h; omega⟩) (by simp)
        have c1 : x ≤ y := by omega
        have c2 : ¬ y = x := by omega
        simp only [p, q, q', c1, c2, decide_true, decide_false, Bool.or_true, Bool.or_false, Bool.true_or, Bool.not_false, Bool.not_true, Bool.true_and, Bool.false_and, Bool.and_true, Bool.false_or, Bool.and_false, Int.toNat_zero, Int.toNat_one, List.getD_cons_zero, List.drop_succ_cons, List.drop_zero, if_true, Option.bind_some, Int.le_refl, and_self, forall_const, Bool.false_eq_true, if_false, decide_eq_true_eq, Int.lt_irrefl, false_implies, show Int.toNat 0 = 0 from rfl, show Int.toNat 1 = 1 from rfl]
        exact ok_mono this fun o h => by cases o <;> exact h
      · subst c
        have := leaf x a b (!pa) (!pb) (fun e he => by rcases List.mem_cons.1 he with rfl | he; exact Int.le_refl _; exact Int.le_of_lt (hx e he)) (fun e he => by rcases List.mem_cons.1 he with rfl | he; exact Int.le_refl _; exact Int.le_of_lt (hy e he)) (.inl (by simp)) (.inl ⟨rfl, rfl⟩) (.inl ⟨rfl, rfl⟩) (by simp; omega)
        simp only [p, q, q', decide_true, decide_false, Bool.or_true, Bool.or_false, Bool.true_or, Bool.not_false, Bool.not_true, Bool.true_and, Bool.false_and, Bool.and_true, Bool.false_or, Bool.and_false, Int.toNat_zero, Int.toNat_one, List.getD_cons_zero, List.drop_succ_cons, List.drop_zero, if_true, Option.bind_some, Int.le_refl, and_self, forall_const, Bool.false_eq_true, if_false, decide_eq_true_eq, Int.lt_irrefl, false_implies, show Int.toNat 0 = 0 from rfl, show Int.toNat 1 = 1 from rfl]
        exact ok_mono this fun o h => by cases o <;> exact h
      · have := leaf y (x :: a) b pa (!pb) (fun e he => by rcases List.mem_cons.1 he with rfl | he; exact Int.le_of_lt c; have := hx e he; omega) (fun e he => by rcases List.mem_cons.1 he with rfl | he; exact Int.le_refl _; exact Int.le_of_lt (hy e he)) (.inr (by simp)) (.inr ⟨rfl, rfl, fun h => by rcases List.mem_cons.1 h with rfl | h; omega; have := hx _ h; omega⟩) (.inl ⟨rfl, rfl⟩) (by simp)
        have c1 : ¬ x ≤ y := by omega
        have c2 : ¬ x = y := by omega
        simp only [p, q, q', c1, c2, decide_true, decide_false, Bool.or_true, Bool.or_false, Bool.true_or, Bool.not_false, Bool.not_true, Bool.true_and, Bool.false_and, Bool.and_true, Bool.false_or, Bool.and_false, Int.toNat_zero, Int.toNat_one, List.getD_cons_zero, List.drop_succ_cons, List.drop_zero, if_true, Option.bind_some, Int.le_refl, and_self, forall_const, Bool.false_eq_true, if_false, decide_eq_true_eq, Int.lt_irrefl, false_implies, show Int.toNat 0 = 0 from rfl, show Int.toNat 1 = 1 from rfl]
        exact ok_mono this fun o h => by cases o <;> exact h
/-- what a row of bands has at a height, and up to where -/
def atF (s : List Bd) (y e : Int) : List Int × Int := match s with
  | [] => ([], e)
  | b :: _ => if y < b.y0 then ([], if b.y0 < e then b.y0 else e) else (b.xs, if b.y1 < e then b.y1 else e)
theorem o_shape_Set_at {s : List Bd} {y e : Int} {Q : List Int × Int → Prop} (k : Q (atF s y e)) : Ok (p_shape_Set_at (s.map ofBd) y e) Q := by
  unfold p_shape_Set_at
  cases s with
  | nil => exact ok_some k
  | cons b s =>
    have p : ¬ (((b :: s).map ofBd).length : Int) = 0 := by simp; omega
    rw [if_neg p]
    simp only [List.map_cons, Int.toNat_zero, List.getD_cons_zero, atF] at k ⊢
    have e0 : (ofBd b).Y0 = b.y0 := rfl
    have e1 : (ofBd b).Y1 = b.y1 := rfl
    have e2 : (ofBd b).Xs = b.xs := rfl
    rw [e0, e1, e2]
    by_cases c : y < b.y0
    · rw [if_pos c] at k ⊢; exact ok_some k
    · rw [if_neg c] at k ⊢; exact ok_some k
theorem atF_ok {s : List Bd} {y e : Int} (hs : Canon s) (h1 : ∀ c ∈ s, y < c.y1) (he : y < e) :
    y < (atF s y e).2 ∧ (atF s y e).2 ≤ e ∧ ((atF s y e).1 = [] ∨ ∃ b ∈ s, (atF s y e).1 = b.xs) ∧ ∀ z, y ≤ z → z < (atF s y e).2 → sec s z = (atF s y e).1 := by
  cases s with
  | nil => exact ⟨he, Int.le_refl _, .inl rfl, fun z _ _ => rfl⟩
  | cons b s =>
    have hb := h1 b (by simp)
    have hh := hs.head
    have ob := (hs.ok b (by simp)).lt
    simp only [atF]
    by_cases c : y < b.y0
    · rw [if_pos c]
      simp only
      refine ⟨by split <;> omega, by split <;> omega, .inl trivial, fun z z1 z2 => ?_⟩
      have z3 : z < b.y0 := by split at z2 <;> omega
      refine sec_lt fun d hd => ?_
      rcases List.mem_cons.1 hd with rfl | hd
      · exact z3
      · have := hh d hd; omega
    · rw [if_neg c]
      simp only
      refine ⟨by split <;> omega, by split <;> omega, .inr ⟨b, by simp, rfl⟩, fun z z1 z2 => ?_⟩
      have z3 : z < b.y1 := by split at z2 <;> omega
      rw [sec, if_pos ⟨by omega, z3⟩]
end Go.Nw
