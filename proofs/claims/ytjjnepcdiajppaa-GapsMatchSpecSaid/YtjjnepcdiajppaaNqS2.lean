/- NqS2: a part of the proof. -/
import Derived.Test.YtjjnepcdiajppaaNqS1
set_option linter.unusedVariables false
set_option linter.unusedSimpArgs false
set_option maxRecDepth 100000
namespace Go.Nw
theorem getD_in {α : Type} {l : List α} {i : Nat} {d : α} (h : i < l.length) : l.getD i d = l[i] := by simp [h]
theorem mem_getD {α : Type} {l : List α} {i : Nat} {d : α} (h : i < l.length) : l.getD i d ∈ l := by rw [getD_in h]; exact List.getElem_mem _
theorem take_snoc {α : Type} {l : List α} {i : Nat} {d : α} (h : i < l.length) : l.take (i + 1) = l.take i ++ [l.getD i d] := by rw [List.take_succ_eq_append_getElem h, getD_in h]
theorem le_sorted {l : List Int} (h : l.Pairwise (· ≤ ·)) {i j : Nat} (hij : i ≤ j) (hj : j < l.length) : l.getD i 0 ≤ l.getD j 0 := by
  rw [getD_in (show i < l.length by omega), getD_in hj]
  by_cases e : i = j
  · subst e; exact Int.le_refl _
  · exact List.pairwise_iff_getElem.1 h i j (by omega) hj (by omega)
/-- the numbers of a sorted row's beginning, each once -/
def Ded (l : List Int) (n : Nat) (r : List Int) : Prop := Up r ∧ ∀ a, a ∈ r ↔ a ∈ l.take n
theorem ded_same {l r : List Int} {n : Nat} (h : Ded l n r) (hn : n < l.length) (hm : l.getD n 0 ∈ r) : Ded l (n + 1) r := by
  refine ⟨h.1, fun a => ?_⟩
  rw [take_snoc (d := 0) hn, List.mem_append, List.mem_singleton, ← h.2 a]
  constructor
  · exact .inl
  · rintro (h | rfl)
    · exact h
    · exact hm
theorem ded_next {l r : List Int} {n : Nat} (hs : l.Pairwise (· ≤ ·)) (h : Ded l n r) (hn : n < l.length) (h0 : 0 < n) (hne : l.getD n 0 ≠ l.getD (n - 1) 0) : Ded l (n + 1) (r ++ [l.getD n 0]) := by
  refine ⟨List.pairwise_append.2 ⟨h.1, by simp, fun a ha b hb => ?_⟩, fun a => ?_⟩
  · simp at hb; subst hb
    have ha := (h.2 a).1 ha
    obtain ⟨i, hi, rfl⟩ := List.getElem_of_mem ha
    have hi' : i < n := by simp at hi; omega
    have h1 := le_sorted hs (show i ≤ n - 1 by omega) (by omega)
    have h2 := le_sorted hs (show n - 1 ≤ n by omega) hn
    rw [getD_in (show i < l.length by omega)] at h1
    simp only [List.getElem_take]
    simp only [List.getD_eq_getElem?_getD] at *
    omega
  · rw [take_snoc (d := 0) hn, List.mem_append, List.mem_append, h.2 a]
theorem up_take {l : List Int} {n : Nat} (hs : l.Pairwise (· ≤ ·)) (h : Up (l.take n)) : Ded l n (l.take n) := ⟨h, fun _ => Iff.rfl⟩
theorem o_slices_Compact_int_o {l : List Int} (hl : l.length < 1000000000000) (hs : l.Pairwise (· ≤ ·)) {Q : List Int → Prop} (k : ∀ r, Up r → (∀ a, a ∈ r ↔ a ∈ l) → r.length ≤ l.length → Q r) : Ok (p_slices_Compact_int_o l) Q := by
  unfold p_slices_Compact_int_o
  (try dsimp only); (repeat' (first | (with_reducible apply ok_guard; case h => (first | assumption | omega | (simp; done) | (simp; omega) | (and_intros <;> first | omega | (intro _; omega)) | (simp only [Bool.or_eq_true, Bool.and_eq_true, Bool.not_eq_true', Bool.not_eq_true, Bool.not_eq_false', Bool.not_eq_false, Bool.or_eq_false_iff, Bool.and_eq_false_iff, decide_eq_true_eq, decide_eq_false_iff_not, Bool.not_not, beq_iff_eq, bne_iff_ne] at *; omega))) | (with_reducible apply ok_guard) | (with_reducible apply ok_if <;> intro _) | (with_reducible apply ok_some) | (with_reducible apply ok_esc) | (with_reducible apply ok_then))); (all_goals try dsimp only); (all_goals try (exfalso; omega))
  · refine k l ?_ (fun _ => Iff.rfl) (Nat.le_refl _)
    match l, (show l.length < 2 by omega) with
    | [], _ => exact List.Pairwise.nil
    | [a], _ => exact List.pairwise_singleton _ _
  · rename_i hlen
    refine ok_for1 (l.length - 1) (fun i x => x.2 = l ∧ Up (l.take (i + 1))) ⟨rfl, ?_⟩ ?_ ?_
    · have : l.take 1 = [l.getD 0 0] := by rw [take_snoc (i := 0) (d := 0) (by omega)]; rfl
      rw [this]; exact List.pairwise_singleton _ _
    · rintro i ⟨x, row⟩ hi ⟨hx, hU⟩
      simp only at hx
      replace hx := hx.symm
      subst hx
      have hi1 : i + 1 < l.length := by omega
      have e1 : ((i : Int) + 1).toNat = i + 1 := by omega
      have e2 : ((i : Int) + 1 - 1).toNat = i := by omega
      simp only [e1, e2]
      (try dsimp only); (repeat' (first | (with_reducible apply ok_guard; case h => (first | assumption | omega | (simp; done) | (simp; omega) | (and_intros <;> first | omega | (intro _; omega)) | (simp only [Bool.or_eq_true, Bool.and_eq_true, Bool.not_eq_true', Bool.not_eq_true, Bool.not_eq_false', Bool.not_eq_false, Bool.or_eq_false_iff, Bool.and_eq_false_iff, decide_eq_true_eq, decide_eq_false_iff_not, Bool.not_not, beq_iff_eq, bne_iff_ne] at *; omega))) | (with_reducible apply ok_guard) | (with_reducible apply ok_if <;> intro _) | (with_reducible apply ok_some) | (with_reducible apply ok_esc) | (with_reducible apply ok_then))); (all_goals try dsimp only); (all_goals try (exfalso; omega))
      · rename_i hq
        refine ok_for1 (l.length - (i + 1) - 1) (fun kk (st : Int × List Int) => ∃ m : Nat, st.1 = m ∧ 0 < m ∧ m ≤ i + 1 + kk ∧ st.2.length = l.length ∧ Ded l (i + 1 + kk + 1) (st.2.take m) ∧ st.2.getD (m - 1) 0 = l.getD (i + 1 + kk) 0 ∧ ∀ q, i + 1 + kk ≤ q → st.2.getD q 0 = l.getD q 0)
          ⟨i + 1, by simp, by omega, by omega, rfl, ?_, ?_, fun _ _ => rfl⟩ ?_ ?_
        · refine ded_same (up_take hs hU) hi1 ?_
          rw [hq, take_snoc (d := 0) (show i < l.length by omega)]; simp
        · rw [show i + 1 - 1 = i by omega]; exact hq.symm
        · rintro kk ⟨m', row'⟩ hk ⟨m, hm, hm0, hm1, hlen', hD, hlast, hrest⟩
          simp only at hm hlen' hD hlast hrest
          subst hm
          have e3 : ((kk : Int) + 1).toNat = kk + 1 := by omega
          have e4 : ((kk : Int) + 1 - 1).toNat = kk := by omega
          simp only [e3, e4, Int.toNat_natCast]
          have h1 := hrest (i + 1 + (kk + 1)) (by omega)
          have h2 := hrest (i + 1 + kk) (by omega)
          (try dsimp only); (repeat' (first | (with_reducible apply ok_guard; case h => (first | assumption | omega | (simp; done) | (simp; omega) | (and_intros <;> first | omega | (intro _; omega)) | (simp only [Bool.or_eq_true, Bool.and_eq_true, Bool.not_eq_true', Bool.not_eq_true, Bool.not_eq_false', Bool.not_eq_false, Bool.or_eq_false_iff, Bool.and_eq_false_iff, decide_eq_true_eq, decide_eq_false_iff_not, Bool.not_not, beq_iff_eq, bne_iff_ne] at *; omega))) | (with_reducible apply ok_guard) | (with_reducible apply ok_if <;> intro _) | (with_reducible apply ok_some) | (with_reducible apply ok_esc) | (with_reducible apply ok_then))); (all_goals try dsimp only); (all_goals try (exfalso; omega))
          · rename_i hc
            refine ⟨by simp, m, rfl, hm0, by omega, hlen', ?_, ?_, fun q hq => hrest q (by omega)⟩
            · refine ded_same hD (by omega) ?_
              rw [← h1, hc, h2, ← hlast, List.getD_eq_getElem?_getD, ← List.getElem?_take_of_lt (show m - 1 < m by omega), ← List.getD_eq_getElem?_getD]
              exact mem_getD (by rw [List.length_take]; omega)
            · rw [hlast, ← h2, ← hc, h1]
          · rename_i hc
            refine ⟨by simp, m + 1, by simp, by omega, by omega, by simp [hlen'], ?_, ?_, fun q hq => ?_⟩
            · rw [take_set_succ (by omega), h1]
              have := ded_next hs hD (show i + 1 + kk + 1 < l.length by omega) (by omega) (by rw [show i + 1 + kk + 1 - 1 = i + 1 + kk by omega, ← h2]; intro e; exact hc (by rw [h1]; exact e))
              exact this
            · rw [show m + 1 - 1 = m by omega, List.getD_eq_getElem?_getD, List.getElem?_set_self (by omega), h1]; rfl
            · rw [getD_set_ne' (by omega)]; exact hrest q (by omega)
        · rintro ⟨m', row'⟩ ⟨m, hm, hm0, hm1, hlen', hD, hlast, hrest⟩
          simp only at hm hlen' hD hlast hrest
          subst hm
          simp only [Int.toNat_natCast]
          (try dsimp only); (repeat' (first | (with_reducible apply ok_guard; case h => (first | assumption | omega | (simp; done) | (simp; omega) | (and_intros <;> first | omega | (intro _; omega)) | (simp only [Bool.or_eq_true, Bool.and_eq_true, Bool.not_eq_true', Bool.not_eq_true, Bool.not_eq_false', Bool.not_eq_false, Bool.or_eq_false_iff, Bool.and_eq_false_iff, decide_eq_true_eq, decide_eq_false_iff_not, Bool.not_not, beq_iff_eq, bne_iff_ne] at *; omega))) | (with_reducible apply ok_guard) | (with_reducible apply ok_if <;> intro _) | (with_reducible apply ok_some) | (with_reducible apply ok_esc) | (with_reducible apply ok_then))); (all_goals try dsimp only); (all_goals try (exfalso; omega))
          have hmm : m ≤ l.length := by omega
          rw [Nat.sub_zero, List.append_assoc, List.take_append_of_le_length (by rw [List.length_take]; omega), List.take_take, Nat.min_self]
          simp only [Int.toNat_natCast]
          refine k _ hD.1 (fun a => ?_) (by rw [List.length_take]; omega)
          rw [hD.2, List.take_of_length_le (by omega)]
      · rename_i hq
        refine ⟨by simp, rfl, ?_⟩
        have := ded_next hs (up_take hs hU) hi1 (by omega) (by rw [show i + 1 - 1 = i by omega]; exact hq)
        rw [take_snoc (d := 0) hi1]; exact this.1
    · rintro ⟨x, row⟩ ⟨hx, hU⟩
      simp only at hx
      replace hx := hx.symm
      subst hx
      (try dsimp only); (repeat' (first | (with_reducible apply ok_guard; case h => (first | assumption | omega | (simp; done) | (simp; omega) | (and_intros <;> first | omega | (intro _; omega)) | (simp only [Bool.or_eq_true, Bool.and_eq_true, Bool.not_eq_true', Bool.not_eq_true, Bool.not_eq_false', Bool.not_eq_false, Bool.or_eq_false_iff, Bool.and_eq_false_iff, decide_eq_true_eq, decide_eq_false_iff_not, Bool.not_not, beq_iff_eq, bne_iff_ne] at *; omega))) | (with_reducible apply ok_guard) | (with_reducible apply ok_if <;> intro _) | (with_reducible apply ok_some) | (with_reducible apply ok_esc) | (with_reducible apply ok_then))); (all_goals try dsimp only); (all_goals try (exfalso; omega))
      rw [List.take_length]
      rw [show l.length - 1 + 1 = l.length by omega, List.take_length] at hU
      exact k l hU (fun _ => Iff.rfl) (Nat.le_refl _)
end Go.Nw
