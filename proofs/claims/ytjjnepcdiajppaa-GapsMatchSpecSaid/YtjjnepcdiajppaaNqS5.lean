/- NqS5: a part of the proof. -/
import Derived.Test.YtjjnepcdiajppaaNqS4
set_option linter.unusedVariables false
set_option linter.unusedSimpArgs false
set_option maxRecDepth 100000
namespace Go.Nw
open Classical in
/-- what rectangles cover at a height, as stretches -/
noncomputable def rowF (l : List TRect) (y : Int) : List Int := if h : ∃ xs, Up xs ∧ xs.length % 2 = 0 ∧ ∀ x, inX xs x = true ↔ ∃ r ∈ l, inR r x y then h.choose else []
theorem rowF_eq {l : List TRect} {y : Int} {xs : List Int} (hu : Up xs) (he : xs.length % 2 = 0) (hx : ∀ x, inX xs x = true ↔ ∃ r ∈ l, inR r x y) : rowF l y = xs := by
  have e : ∃ xs, Up xs ∧ xs.length % 2 = 0 ∧ ∀ x, inX xs x = true ↔ ∃ r ∈ l, inR r x y := ⟨xs, hu, he, hx⟩
  rw [rowF, dif_pos e]
  obtain ⟨h1, h2, h3⟩ := e.choose_spec
  exact inX_ext h1 hu fun x => by rw [Bool.eq_iff_iff, h3, hx]
theorem exists_str : ∀ (n : Nat) (m : List TRect), m.length = n → m.Pairwise (fun a b => a.X0 ≤ b.X0) → (∀ r ∈ m, r.X0 < r.X1) → ∃ out, StrI m out
  | 0, m, h, _, _ => ⟨[], .inl ⟨rfl, List.eq_nil_of_length_eq_zero h⟩⟩
  | n + 1, m, h, hs, hr => by
    rcases List.eq_nil_or_concat m with rfl | ⟨m', r, rfl⟩
    · simp at h
    · rw [List.concat_eq_append] at *
      obtain ⟨p1, p2, p3⟩ := List.pairwise_append.1 hs
      obtain ⟨out, ho⟩ := exists_str n m' (by simpa using h) p1 fun q hq => hr q (by simp [hq])
      have hrr := hr r (by simp)
      by_cases he : out = []
      · subst he; exact ⟨_, strI_new ho hrr (fun _ h => nomatch h)⟩
      · obtain ⟨o, a, b, e, h1, h2⟩ : ∃ o a b, out = o ++ [a, b] ∧ Up out ∧ True := by
          rcases ho with ⟨h, -⟩ | ⟨o, a, b, h, h1, -⟩
          · exact absurd h he
          · exact ⟨o, a, b, h, h1, trivial⟩
        subst e
        by_cases c : r.X0 ≤ b
        · exact ⟨_, strI_join ho hrr (fun q hq => p3 q hq r (by simp)) c⟩
        · refine ⟨_, strI_new ho hrr fun e he => ?_⟩
          obtain ⟨q1, q2, q3⟩ := List.pairwise_append.1 h1
          rcases List.mem_append.1 he with he | he
          · have := q3 e he b (by simp); omega
          · have : a < b := by simpa using q2
            simp at he; rcases he with rfl | rfl <;> omega
theorem rowF_all {l : List TRect} (hr : ∀ r ∈ l, r.X0 < r.X1) (y : Int) : (Up (rowF l y) ∧ (rowF l y).length % 2 = 0 ∧ ∀ x, inX (rowF l y) x = true ↔ ∃ r ∈ l, inR r x y) ∧ (rowF l y).length ≤ 2 * l.length ∧ ∀ e ∈ rowF l y, ∃ r ∈ l, (r.Y0 ≤ y ∧ y < r.Y1) ∧ (e = r.X0 ∨ e = r.X1) := by
  obtain ⟨m, hm⟩ : ∃ m, m = (l.filter fun r => decide (r.Y0 ≤ y ∧ y < r.Y1)).mergeSort fun a b => decide (a.X0 ≤ b.X0) := ⟨_, rfl⟩
  have hmem : ∀ r, r ∈ m ↔ r ∈ l ∧ r.Y0 ≤ y ∧ y < r.Y1 := fun r => by rw [hm, List.mem_mergeSort, List.mem_filter]; simp
  have hml : m.length ≤ l.length := by rw [hm, List.length_mergeSort]; exact List.length_filter_le _ _
  have hs : m.Pairwise (fun a b => a.X0 ≤ b.X0) := by
    have := List.pairwise_mergeSort (le := fun a b : TRect => decide (a.X0 ≤ b.X0)) (fun a b c h1 h2 => by simp at *; omega) (fun a b => by simp; omega) (l.filter fun r => decide (r.Y0 ≤ y ∧ y < r.Y1))
    rw [← hm] at this
    exact this.imp fun h => by simpa using h
  obtain ⟨out, ho⟩ := exists_str _ m rfl hs fun r h => hr r ((hmem r).1 h).1
  have key : (∀ x, (∃ r ∈ m, r.X0 ≤ x ∧ x < r.X1) ↔ ∃ r ∈ l, inR r x y) := fun x => by
    constructor
    · rintro ⟨r, h, h'⟩; exact ⟨r, ((hmem r).1 h).1, h', ((hmem r).1 h).2⟩
    · rintro ⟨r, h, h', h''⟩; exact ⟨r, (hmem r).2 ⟨h, h''⟩, h'⟩
  rcases ho with ⟨rfl, h⟩ | ⟨o, a, b, -, h1, h2, h3, -, h4, h5⟩
  · have hx : ∀ x, inX [] x = true ↔ ∃ r ∈ l, inR r x y := fun x => by rw [← key, h]; simp [inX]
    rw [rowF_eq List.Pairwise.nil rfl hx]
    exact ⟨⟨List.Pairwise.nil, rfl, hx⟩, Nat.zero_le _, fun _ h => nomatch h⟩
  · have hx : ∀ x, inX out x = true ↔ ∃ r ∈ l, inR r x y := fun x => (h3 x).trans (key x)
    rw [rowF_eq h1 h2 hx]
    refine ⟨⟨h1, h2, hx⟩, by omega, fun e he => ?_⟩
    obtain ⟨r, h, h'⟩ := h4 e he
    exact ⟨r, ((hmem r).1 h).1, ((hmem r).1 h).2, h'⟩
theorem rowF_ok {l : List TRect} (hr : ∀ r ∈ l, r.X0 < r.X1) (y : Int) : Up (rowF l y) ∧ (rowF l y).length % 2 = 0 ∧ ∀ x, inX (rowF l y) x = true ↔ ∃ r ∈ l, inR r x y := (rowF_all hr y).1
theorem stripsB_snoc {f : Int → List Int} {a b : Int} : ∀ (m : List Int) (s : List Bd), stripsB f s (m ++ [a, b]) = pushB (stripsB f s (m ++ [a])) ⟨a, b, f a⟩
  | [], s => rfl
  | [c], s => rfl
  | c :: d :: m, s => stripsB_snoc (d :: m) _
/-- all heights at which rectangles begin or end -/
structure Hts (l : List TRect) (ys : List Int) : Prop where
  up : Up ys
  mem : ∀ a, a ∈ ys ↔ ∃ r ∈ l, a = r.Y0 ∨ a = r.Y1
theorem Hts.strips {l : List TRect} {ys : List Int} (h : Hts l ys) (hx : ∀ r ∈ l, r.X0 < r.X1) (hy : ∀ r ∈ l, r.Y0 < r.Y1) : Canon (stripsB (rowF l) [] ys) ∧ ∀ x y, inB (stripsB (rowF l) [] ys) x y = true ↔ cov l x y := by
  refine strips_cov (fun a => ⟨(rowF_ok hx a).1, (rowF_ok hx a).2.1⟩) h.up ?_ ?_
  · rintro x y ⟨r, hr, h1, h2⟩
    exact ⟨⟨r.Y0, (h.mem _).2 ⟨r, hr, .inl rfl⟩, h2.1⟩, r.Y1, (h.mem _).2 ⟨r, hr, .inr rfl⟩, h2.2⟩
  · intro a ha x y hay hc
    rw [(rowF_ok hx a).2.2]
    constructor
    · rintro ⟨r, hr, h1, h2, h3⟩
      refine ⟨r, hr, h1, by omega, ?_⟩
      rcases hc r.Y1 ((h.mem _).2 ⟨r, hr, .inr rfl⟩) with h | h <;> omega
    · rintro ⟨r, hr, h1, h2, h3⟩
      refine ⟨r, hr, h1, ?_, by omega⟩
      rcases hc r.Y0 ((h.mem _).2 ⟨r, hr, .inl rfl⟩) with h | h <;> omega
theorem Hts.setB {l : List TRect} {ys : List Int} (h : Hts l ys) (hx : ∀ r ∈ l, r.X0 < r.X1) (hy : ∀ r ∈ l, r.Y0 < r.Y1) : setB (cov l) = stripsB (rowF l) [] ys :=
  setB_eq (h.strips hx hy).1 (h.strips hx hy).2
theorem stripsB_len (f : Int → List Int) : ∀ (l : List Int) (s : List Bd), (stripsB f s l).length ≤ s.length + l.length
  | [], s => by simp [stripsB]
  | [a], s => by simp [stripsB]
  | a :: b :: l, s => by
    have h1 := stripsB_len f (b :: l) (pushB s ⟨a, b, f a⟩)
    have h2 : (pushB s ⟨a, b, f a⟩).length ≤ s.length + 1 := by
      unfold pushB
      split
      · omega
      · split
        · simp
        · split
          · simp; try omega
          · simp
    simp only [List.length_cons] at h1 ⊢
    have : stripsB f s (a :: b :: l) = stripsB f (pushB s ⟨a, b, f a⟩) (b :: l) := rfl
    rw [this]; omega
/-- the stretches of strips are those at the heights -/
theorem stripsB_xs {f : Int → List Int} {P : List Int → Prop} : ∀ (l : List Int) (s : List Bd), (∀ c ∈ s, P c.xs) → (∀ a ∈ l, P (f a)) → ∀ c ∈ stripsB f s l, P c.xs
  | [], s, h, _ => h
  | [a], s, h, _ => h
  | a :: b :: l, s, h, hf => by
    refine stripsB_xs (b :: l) (pushB s ⟨a, b, f a⟩) (fun c hc => ?_) fun d hd => hf d (List.mem_cons_of_mem _ hd)
    have hfa := hf a (by simp)
    unfold pushB at hc
    split at hc
    · exact h c hc
    · split at hc
      · simp at hc; subst hc; exact hfa
      · rename_i d hg
        split at hc
        · rcases List.mem_append.1 hc with hc | hc
          · exact h c ((List.dropLast_sublist s).subset hc)
          · simp at hc; subst hc; exact h d (List.mem_of_getLast? hg)
        · rcases List.mem_append.1 hc with hc | hc
          · exact h c hc
          · simp at hc; subst hc; exact hfa
end Go.Nw
