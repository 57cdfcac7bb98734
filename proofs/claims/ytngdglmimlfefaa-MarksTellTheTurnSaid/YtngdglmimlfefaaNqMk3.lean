/- NqMk3: a part of the proof. -/
import Derived.Test.YtngdglmimlfefaaNqMk2
set_option linter.unusedVariables false
set_option linter.unusedSimpArgs false
set_option maxRecDepth 100000
namespace Go.Nw
def isPt (q : TPoint) : Bool := (decide (-1000000 ≤ q.X) && decide (q.X ≤ 1000000)) && (decide (-1000000 ≤ q.Y) && decide (q.Y ≤ 1000000))
theorem isPt_sm {q : TPoint} : isPt q = true ↔ Sm q := by simp only [isPt, Bool.and_eq_true, decide_eq_true_eq, Sm]
theorem t_ref1_within {a b c : Int} : p_ref1_within a b c = some (decide (b ≤ a) && decide (a ≤ c)) := rfl
theorem o_ref1_within {a b c : Int} {Q_ : _ → Prop} (k_ : Q_ (decide (b ≤ a) && decide (a ≤ c))) : Ok (p_ref1_within a b c) Q_ := ok_of (t_ref1_within ) k_
theorem s_ref1_within {β : Type} {cc_ : Prop} {d_ : Decidable cc_} {a b c : Int} {e_ : _} {f_ : _ → Option β} {Q_ : β → Prop} (hd : ¬ cc_ → f_ e_ = f_ (decide (b ≤ a) && decide (a ≤ c))) (k_ : Ok (f_ (decide (b ≤ a) && decide (a ≤ c))) Q_) : Ok (Option.bind (@ite _ cc_ d_ (p_ref1_within a b c) (some e_)) f_) Q_ := ok_short (fun hc__ => t_ref1_within ) hd k_
theorem t_ref1_At {a : Int} : p_ref1_At a = some (decide (-1000000 ≤ a) && decide (a ≤ 1000000)) := rfl
theorem o_ref1_At {a : Int} {Q_ : _ → Prop} (k_ : Q_ (decide (-1000000 ≤ a) && decide (a ≤ 1000000))) : Ok (p_ref1_At a) Q_ := ok_of (t_ref1_At ) k_
theorem s_ref1_At {β : Type} {cc_ : Prop} {d_ : Decidable cc_} {a : Int} {e_ : _} {f_ : _ → Option β} {Q_ : β → Prop} (hd : ¬ cc_ → f_ e_ = f_ (decide (-1000000 ≤ a) && decide (a ≤ 1000000))) (k_ : Ok (f_ (decide (-1000000 ≤ a) && decide (a ≤ 1000000))) Q_) : Ok (Option.bind (@ite _ cc_ d_ (p_ref1_At a) (some e_)) f_) Q_ := ok_short (fun hc__ => t_ref1_At ) hd k_
theorem t_ref1_IsPoint {q : TPoint} : p_ref1_IsPoint q = some ((decide (-1000000 ≤ q.X) && decide (q.X ≤ 1000000)) && (decide (-1000000 ≤ q.Y) && decide (q.Y ≤ 1000000))) := by
  apply ok_val
  unfold p_ref1_IsPoint
  (try dsimp only); (repeat' (first | (with_reducible apply s_ref1_At; case hd => (intro hc; simp only [Bool.not_not, Bool.not_eq_true, Bool.not_eq_false'] at hc; simp only [hc, Bool.true_or, Bool.false_and, Bool.not_true, Bool.not_false, Bool.or_true, Bool.and_false])) | (with_reducible apply o_ref1_At <;> try first | assumption | omega) | (with_reducible apply ok_guard; case h => (first | assumption | omega | (simp; done) | (simp; omega) | (and_intros <;> first | omega | (intro _; omega)) | (simp only [Bool.or_eq_true, Bool.and_eq_true, Bool.not_eq_true', Bool.not_eq_true, Bool.not_eq_false', Bool.not_eq_false, Bool.or_eq_false_iff, Bool.and_eq_false_iff, decide_eq_true_eq, decide_eq_false_iff_not, Bool.not_not, beq_iff_eq, bne_iff_ne] at *; omega))) | (with_reducible apply ok_guard) | (with_reducible apply ok_if <;> intro _) | (with_reducible apply ok_some) | (with_reducible apply ok_esc) | (with_reducible apply ok_then))); (all_goals try dsimp only); (all_goals try (exfalso; omega))
theorem o_ref1_IsPoint {q : TPoint} {Q_ : _ → Prop} (k_ : Q_ ((decide (-1000000 ≤ q.X) && decide (q.X ≤ 1000000)) && (decide (-1000000 ≤ q.Y) && decide (q.Y ≤ 1000000)))) : Ok (p_ref1_IsPoint q) Q_ := ok_of (t_ref1_IsPoint ) k_
theorem s_ref1_IsPoint {β : Type} {cc_ : Prop} {d_ : Decidable cc_} {q : TPoint} {e_ : _} {f_ : _ → Option β} {Q_ : β → Prop} (hd : ¬ cc_ → f_ e_ = f_ ((decide (-1000000 ≤ q.X) && decide (q.X ≤ 1000000)) && (decide (-1000000 ≤ q.Y) && decide (q.Y ≤ 1000000)))) (k_ : Ok (f_ ((decide (-1000000 ≤ q.X) && decide (q.X ≤ 1000000)) && (decide (-1000000 ≤ q.Y) && decide (q.Y ≤ 1000000)))) Q_) : Ok (Option.bind (@ite _ cc_ d_ (p_ref1_IsPoint q) (some e_)) f_) Q_ := ok_short (fun hc__ => t_ref1_IsPoint ) hd k_
theorem t_ref1_CheckTurn {t : TTurn} : p_ref1_CheckTurn t = some (turnFault t) := by
  apply ok_val
  unfold p_ref1_CheckTurn
  (try dsimp only); (repeat' (first | (with_reducible apply s_ref1_within; case hd => (intro hc; simp only [Bool.not_not, Bool.not_eq_true, Bool.not_eq_false'] at hc; simp only [hc, Bool.true_or, Bool.false_and, Bool.not_true, Bool.not_false, Bool.or_true, Bool.and_false])) | (with_reducible apply s_ref1_IsPoint; case hd => (intro hc; simp only [Bool.not_not, Bool.not_eq_true, Bool.not_eq_false'] at hc; simp only [hc, Bool.true_or, Bool.false_and, Bool.not_true, Bool.not_false, Bool.or_true, Bool.and_false])) | (with_reducible apply o_ref1_within <;> try first | assumption | omega) | (with_reducible apply o_ref1_IsPoint <;> try first | assumption | omega) | (with_reducible apply ok_guard; case h => (first | assumption | omega | (simp; done) | (simp; omega) | (and_intros <;> first | omega | (intro _; omega)) | (simp only [Bool.or_eq_true, Bool.and_eq_true, Bool.not_eq_true', Bool.not_eq_true, Bool.not_eq_false', Bool.not_eq_false, Bool.or_eq_false_iff, Bool.and_eq_false_iff, decide_eq_true_eq, decide_eq_false_iff_not, Bool.not_not, beq_iff_eq, bne_iff_ne] at *; omega))) | (with_reducible apply ok_guard) | (with_reducible apply ok_if <;> intro _) | (with_reducible apply ok_some) | (with_reducible apply ok_esc) | (with_reducible apply ok_then))); (all_goals try dsimp only); (all_goals try (exfalso; omega))
  · rw [turnFault, if_pos ‹_›]
  · rw [turnFault, if_neg ‹_›]
theorem o_ref1_CheckTurn {t : TTurn} {Q_ : _ → Prop} (k_ : Q_ (turnFault t)) : Ok (p_ref1_CheckTurn t) Q_ := ok_of (t_ref1_CheckTurn ) k_
theorem s_ref1_CheckTurn {β : Type} {cc_ : Prop} {d_ : Decidable cc_} {t : TTurn} {e_ : _} {f_ : _ → Option β} {Q_ : β → Prop} (hd : ¬ cc_ → f_ e_ = f_ (turnFault t)) (k_ : Ok (f_ (turnFault t)) Q_) : Ok (Option.bind (@ite _ cc_ d_ (p_ref1_CheckTurn t) (some e_)) f_) Q_ := ok_short (fun hc__ => t_ref1_CheckTurn ) hd k_
open Classical in
noncomputable def seenFault (a : List TPoint) (i : Nat) : Int := if isPt (a.getD i default) = false then 1 else if ∃ j, j < i ∧ a.getD j default = a.getD i default then 7 else 0
open Classical in
noncomputable def headF (R : List TTurn) : TTurn := if h : ∃ t, HeadP R t then h.choose else {}
theorem headF_eq {l m : List TPoint} {k : Nat} {t : TTurn} (h : HeadP (blk l m k) t) : headF (blk l m k) = t := by
  have e : ∃ t, HeadP (blk l m k) t := ⟨t, h⟩
  rw [headF, dif_pos e]; exact head_eq e.choose_spec h
noncomputable def tailF (l a : List TPoint) : TTurn × Bool × Int :=
  if l.length = 0 ∨ ¬ l.length = a.length then ({}, false, 0) else if (blk l a 4).length = 0 then ({}, false, 0) else if turnFault (headF (blk l a 4)) = 0 then (headF (blk l a 4), true, 0) else ({}, false, turnFault (headF (blk l a 4)))
noncomputable def lieF (p : TPanel) (a : List TPoint) : TTurn × Bool × Int :=
  if checkF p = 0 then (if 10 < (a.length : Int) then ({}, false, 2) else if faultF a.length (seenFault a) = 0 then tailF p.Marks a else ({}, false, faultF a.length (seenFault a))) else ({}, false, checkF p)
theorem seen_sm {a : List TPoint} (h : ∀ j < a.length, seenFault a j = 0) : ∀ q ∈ a, Sm q := by
  intro q hq
  obtain ⟨i, hi, rfl⟩ := List.getElem_of_mem hq
  have h1 := h i hi
  unfold seenFault at h1
  have e : a.getD i default = a[i] := by simp [hi]
  rw [e] at h1
  cases hp : isPt a[i] with
  | true => exact isPt_sm.1 hp
  | false => rw [hp, if_pos rfl] at h1; cases h1
theorem o_panel_Lie {p : TPanel} {a : List TPoint} (f : Fits p) (ha : a.length < 281474976710656) {Q : TTurn × Bool × Int → Prop} (k : Q (lieF p a)) : Ok (p_panel_Lie p a) Q := by
  unfold p_panel_Lie
  unfold lieF at k
  refine ok_then (o_panel_CheckPanel f ?_)
  by_cases h : checkF p = 0
  · rw [if_pos h] at k ⊢
    obtain ⟨m1, m2⟩ := marks_ok h
    by_cases c : 10 < (a.length : Int)
    · rw [if_pos c] at k ⊢; exact ok_some k
    rw [if_neg c] at k ⊢
    refine ok_esc ?_
    refine ok_for a.length (fun i _ => ∀ j < i, seenFault a j = 0) (by intro j h; omega) ?_ ?_
    · rintro i ⟨s1, s2, s3⟩ hi hI
      simp only [Int.toNat_natCast]
      rw [if_pos (by omega), if_pos (by omega)]
      refine ok_then (o_shape_IsPoint ?_)
      have stop : ∀ v, seenFault a i = v → v ≠ 0 → faultF a.length (seenFault a) = v := fun v hv h0 => by
        rw [faultF_at hi (by rw [hv]; exact h0) hI, hv]
      by_cases hp : isPt (a.getD i default) = true
      · rw [if_neg (by unfold isPt at hp; rw [hp]; simp)]
        refine ok_then (o_slices_Contains_Point (by rw [List.length_take]; omega) ?_)
        have hm : (decide (0 ≤ firstF (a.take i).length fun j => decide ((a.take i).getD j default = a.getD i default))) = true ↔ ∃ j, j < i ∧ a.getD j default = a.getD i default := by
          rw [decide_eq_true_eq, any_first]
          constructor
          · intro hq
            obtain ⟨j, hj, e⟩ := List.getElem_of_mem hq
            have hj' : j < i ∧ j < a.length := by simp at hj; omega
            refine ⟨j, hj'.1, ?_⟩
            rw [← e]; simp [hj'.2]
          · rintro ⟨j, hj, e⟩
            rw [← e]
            have : a.getD j default = (a.take i)[j]'(by simp; omega) := by simp [show j < a.length by omega]
            rw [this]; exact List.getElem_mem _
        by_cases hd : ∃ j, j < i ∧ a.getD j default = a.getD i default
        · rw [if_pos (hm.2 hd)]
          refine ok_some (ok_some ?_)
          have := stop 7 (by unfold seenFault; rw [if_neg (by rw [hp]; simp), if_pos hd]) (by decide)
          rw [this] at k; exact k
        · rw [if_neg (fun h => hd (hm.1 h))]
          refine ok_some ⟨rfl, all_lt hI ?_⟩
          unfold seenFault; rw [if_neg (by rw [hp]; simp), if_neg hd]
      · have hp' : isPt (a.getD i default) = false := by simpa using hp
        rw [if_pos (by unfold isPt at hp'; rw [hp']; rfl)]
        refine ok_some (ok_some ?_)
        have := stop 1 (by unfold seenFault; rw [if_pos hp']) (by decide)
        rw [this] at k; exact k
    · rintro ⟨s1, s2, s3⟩ hI
      simp only
      rw [if_neg (by omega)]
      refine ok_some ?_
      simp only
      rw [if_pos (faultF_0 hI)] at k
      unfold tailF at k
      by_cases hz : p.Marks.length = 0 ∨ ¬ p.Marks.length = a.length
      · rw [if_pos hz] at k
        rw [if_pos (by simp only [Bool.or_eq_true, Bool.not_eq_true', decide_eq_true_eq, decide_eq_false_iff_not]; omega)]
        exact ok_some k
      · rw [if_neg hz] at k
        rw [if_neg (by simp only [Bool.or_eq_true, Bool.not_eq_true', decide_eq_true_eq, decide_eq_false_iff_not]; omega)]
        refine ok_then (o_panel_turns m1 (by omega) (by omega) m2 (seen_sm hI) fun T hT => ?_)
        have hlen := isT_len hT
        by_cases h0 : (T.length : Int) = 0
        · rw [if_pos (by omega)] at k
          rw [if_pos h0]; exact ok_some k
        · rw [if_neg (by omega)] at k
          rw [if_neg h0]
          have hh := isT_head hT (by omega)
          rw [headF_eq hh] at k
          simp only [show Int.toNat 0 = 0 from rfl]
          refine ok_then (o_shape_CheckTurn ?_)
          by_cases ht : turnFault (T.getD 0 default) = 0
          · rw [if_pos ht] at k ⊢; exact ok_some k
          · rw [if_neg ht] at k ⊢; exact ok_some k
  · rw [if_neg h] at k ⊢; exact ok_some k
theorem o_ref9_Lie {p : TPanel} {a : List TPoint} (f : Fits p) (ha : a.length < 281474976710656) {Q : TTurn × Bool × Int → Prop} (k : Q (lieF p a)) : Ok (p_ref9_Lie p a) Q := by
  unfold p_ref9_Lie
  unfold lieF at k
  refine ok_then (o_ref9_CheckPanel f ?_)
  by_cases h : checkF p = 0
  · rw [if_pos h] at k ⊢
    obtain ⟨m1, m2⟩ := marks_ok h
    by_cases c : 10 < (a.length : Int)
    · rw [if_pos c] at k ⊢; exact ok_some k
    rw [if_neg c] at k ⊢
    refine ok_esc ?_
    refine ok_for a.length (fun i _ => ∀ j < i, seenFault a j = 0) (by intro j h; omega) ?_ ?_
    · rintro i ⟨s1, s2, s3⟩ hi hI
      simp only [Int.toNat_natCast]
      rw [if_pos (by omega)]
      refine ok_esc ?_
      rw [if_pos (by omega)]
      refine ok_then (o_ref1_IsPoint ?_)
      have stop : ∀ v, seenFault a i = v → v ≠ 0 → faultF a.length (seenFault a) = v := fun v hv h0 => by
        rw [faultF_at hi (by rw [hv]; exact h0) hI, hv]
      by_cases hp : isPt (a.getD i default) = true
      · rw [if_neg (by unfold isPt at hp; rw [hp]; simp)]
        refine ok_for i (fun j _ => ∀ j' < j, ¬ a.getD j' default = a.getD i default) (by intro j h; omega) ?_ ?_
        · rintro j ⟨u1, u2, u3⟩ hj hJ
          simp only [Int.toNat_natCast]
          rw [if_pos (by omega), if_pos (by omega)]
          by_cases hd : a.getD j default = a.getD i default
          · rw [if_pos hd]
            refine ok_some (ok_some (ok_some ?_))
            have := stop 7 (by unfold seenFault; rw [if_neg (by rw [hp]; simp), if_pos ⟨j, hj, hd⟩]) (by decide)
            rw [this] at k; exact k
          · rw [if_neg hd]
            exact ok_some ⟨rfl, all_lt hJ hd⟩
        · rintro ⟨u1, u2, u3⟩ hJ
          simp only
          rw [if_neg (by omega)]
          refine ok_some ?_
          simp only
          rw [if_pos (by omega)]
          refine ok_some ⟨rfl, all_lt hI ?_⟩
          unfold seenFault
          rw [if_neg (by rw [hp]; simp), if_neg (by rintro ⟨j, h1, h2⟩; exact hJ j h1 h2)]
      · have hp' : isPt (a.getD i default) = false := by simpa using hp
        rw [if_pos (by unfold isPt at hp'; rw [hp']; rfl)]
        refine ok_some (ok_some (ok_some ?_))
        have := stop 1 (by unfold seenFault; rw [if_pos hp']) (by decide)
        rw [this] at k; exact k
    · rintro ⟨s1, s2, s3⟩ hI
      simp only
      rw [if_neg (by omega)]
      refine ok_some ?_
      simp only
      rw [if_pos (faultF_0 hI)] at k
      unfold tailF at k
      refine ok_then (o_ref9_turns m1 (by omega) m2 (seen_sm hI) ?_)
      by_cases hz : p.Marks.length = 0 ∨ ¬ p.Marks.length = a.length
      · rw [if_pos hz] at k ⊢
        rw [if_pos (by simp)]
        exact ok_some k
      · rw [if_neg hz] at k ⊢
        have hbl := blk_len p.Marks a 4
        obtain ⟨R, hR⟩ : ∃ R, R = blk p.Marks a 4 := ⟨_, rfl⟩
        rw [← hR] at k hbl ⊢
        by_cases h0 : (R.length : Int) = 0
        · rw [if_pos (by omega)] at k
          rw [if_pos h0]; exact ok_some k
        · rw [if_neg (by omega)] at k
          rw [if_neg h0]
          refine ok_then ?_
          refine ok_for R.length (fun i b => b ∈ R ∧ b.Quarters = (R.getD 0 default).Quarters ∧ ∀ j < i, (R.getD j default).Quarters = b.Quarters → leT b (R.getD j default)) ⟨getD_mem (by omega), rfl, by intro j h; omega⟩ ?_ ?_
          · rintro i b hi ⟨b1, b2, b3⟩
            simp only [Int.toNat_natCast]
            rw [if_pos (by omega)]
            refine ok_then ?_
            rw [if_pos (by omega)]
            by_cases hc : (R.getD i default).Quarters = b.Quarters ∧ ((R.getD i default).At.Y < b.At.Y ∨ (R.getD i default).At.Y = b.At.Y ∧ (R.getD i default).At.X < b.At.X)
            · rw [if_pos (by simp only [Bool.and_eq_true, Bool.or_eq_true, decide_eq_true_eq]; exact hc)]
              refine ok_some ?_
              rw [if_pos (by omega)]
              refine ok_some ⟨rfl, getD_mem hi, by show (R.getD i default).Quarters = _; rw [hc.1, b2], all_lt (fun j hj hq => ?_) (fun _ => by show leT (R.getD i default) (R.getD i default); unfold leT; omega)⟩
              have := b3 j hj (by rw [hq]; exact hc.1)
              show leT (R.getD i default) _
              unfold leT at *; omega
            · rw [if_neg (by simp only [Bool.and_eq_true, Bool.or_eq_true, decide_eq_true_eq]; exact hc)]
              refine ok_some ?_
              rw [if_pos (by omega)]
              refine ok_some ⟨rfl, b1, b2, all_lt b3 (fun hq => ?_)⟩
              show leT b (R.getD i default)
              have : (R.getD i default).Quarters = b.Quarters := hq
              unfold leT; omega
          · rintro b ⟨b1, b2, b3⟩
            simp only
            rw [if_neg (by omega)]
            refine ok_some ?_
            simp only
            have hh : HeadP R b := ⟨b1, b2, fun u hu hq => by
              obtain ⟨j, hj, rfl⟩ := List.getElem_of_mem hu
              have := b3 j hj
              simp [hj] at this
              exact this hq⟩
            have he : headF R = b := by rw [hR] at hh ⊢; exact headF_eq hh
            rw [he] at k
            refine ok_then (o_ref1_CheckTurn ?_)
            by_cases ht : turnFault b = 0
            · rw [if_pos ht] at k ⊢; exact ok_some k
            · rw [if_neg ht] at k ⊢; exact ok_some k
  · rw [if_neg h] at k ⊢; exact ok_some k
theorem row_MarksMatchSpec (a0 : TPanel) (a1 : List TPoint) (h0 : okTPanel a0) (h1 : a1.length < 281474976710656 ∧ ∀ x ∈ a1, okTPoint x) : p_law9_MarksMatchSpec a0 a1 = some true := by
  have f := fits_of h0
  apply ok_val
  unfold p_law9_MarksMatchSpec
  refine ok_then (o_panel_GoodMarks f ?_)
  refine ok_then (o_ref9_GoodMarks f ?_)
  refine ok_then (o_panel_Lie f h1.1 ?_)
  refine ok_then (o_ref9_Lie f h1.1 ?_)
  rw [if_pos (by simp)]
  exact ok_then (o_law9_awake (ok_some (by simp)))
end Go.Nw
