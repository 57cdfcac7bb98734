/- NqMk1: a part of the proof. -/
import Derived.Test.YtngdglmimlfefaaNqMk0
set_option linter.unusedVariables false
set_option linter.unusedSimpArgs false
set_option maxRecDepth 100000
namespace Go.Nw
def Sm (q : TPoint) : Prop := (-1000000 ≤ q.X ∧ q.X ≤ 1000000) ∧ -1000000 ≤ q.Y ∧ q.Y ≤ 1000000
theorem Sm.near {q : TPoint} (h : Sm q) : Near q := by unfold Sm at h; unfold Near; omega
theorem sm_rotN {q : TPoint} (h : Sm q) : ∀ n, Sm (rotN n q)
  | 0 => h
  | n + 1 => by have := sm_rotN h n; simp only [Sm, rotN, rot] at *; omega
def y0F (l : List TPoint) (q : Int) : TPoint := turnF (l.getD 0 default) { Quarters := q }
theorem y0_sm {l : List TPoint} {q : Int} (hl : ∀ p ∈ l, Sm p) (hn : 0 < l.length) : Sm (y0F l q) := by
  have h := sm_rotN (hl _ (getD_mem (d := default) hn)) q.toNat
  simp only [y0F, turnF, flipF, Sm] at *
  simp only [Bool.false_eq_true, if_false] at *; omega
def toT (l : List TPoint) (q : Int) (x : TPoint) : TTurn := { Quarters := q, At := { X := x.X - (y0F l q).X, Y := x.Y - (y0F l q).Y } }
open Classical in
noncomputable def takesF (t : TTurn) (l m : List TPoint) : Bool := decide (l.length = m.length ∧ ∀ q ∈ l, turnF q t ∈ m)
structure TOk (t : TTurn) : Prop where
  q0 : 0 ≤ t.Quarters
  q : t.Quarters ≤ 3
  fl : t.Flip = false
  at' : (-2000000 ≤ t.At.X ∧ t.At.X ≤ 2000000) ∧ -2000000 ≤ t.At.Y ∧ t.At.Y ≤ 2000000
theorem TOk.near {t : TTurn} (h : TOk t) : Near t.At := by have := h.at'; unfold Near; omega
theorem toT_ok {l : List TPoint} {q : Int} {x : TPoint} (hl : ∀ p ∈ l, Sm p) (hn : 0 < l.length) (hx : Sm x) (h0 : 0 ≤ q) (h3 : q ≤ 3) : TOk (toT l q x) := by
  have := y0_sm (q := q) hl hn
  unfold Sm at this hx
  exact ⟨h0, h3, rfl, by simp only [toT]; omega⟩
theorem any_first {m : List TPoint} {z : TPoint} : 0 ≤ firstF m.length (fun i => decide (m.getD i default = z)) ↔ z ∈ m := by
  rw [firstF_any]
  constructor
  · rintro ⟨i, hi, h⟩
    rw [← of_decide_eq_true h]; exact getD_mem hi
  · intro h
    obtain ⟨i, hi, rfl⟩ := List.getElem_of_mem h
    exact ⟨i, hi, by simp [hi]⟩
theorem o_panel_takes {t : TTurn} {l m : List TPoint} (hl : l.length ≤ 10) (hm : m.length ≤ 10) (sl : ∀ p ∈ l, Sm p) (ht : TOk t) {Q : Bool → Prop} (k : Q (takesF t l m)) : Ok (p_panel_takes t l m) Q := by
  unfold p_panel_takes
  by_cases he : l.length = m.length
  · rw [if_pos (by simp [he])]
    refine ok_then ?_
    unfold p_slices_ContainsFunc_Point
    refine ok_then (o_slices_IndexFunc_Point (g := fun i => !decide (0 ≤ firstF m.length fun j => decide (m.getD j default = turnF (l.getD i default) t))) (by omega) (fun i hi => ?_) ?_)
    · apply ok_val
      unfold p_panel_takes_1
      refine ok_then (o_shape_TurnPoint (sl _ (getD_mem hi)).near ht.near ht.q ?_)
      refine ok_then (o_slices_Contains_Point (by omega) (ok_some rfl))
    · refine ok_some (ok_some ?_)
      have : (decide ((l.length : Int) = (m.length : Int)) && !decide (0 ≤ firstF l.length fun i => !decide (0 ≤ firstF m.length fun j => decide (m.getD j default = turnF (l.getD i default) t)))) = takesF t l m := by
        rw [Bool.eq_iff_iff]
        simp only [Bool.and_eq_true, decide_eq_true_eq, Bool.not_eq_true', decide_eq_false_iff_not, takesF]
        refine and_congr (by omega) ?_
        rw [firstF_any]
        constructor
        · intro h q hq
          obtain ⟨i, hi, rfl⟩ := List.getElem_of_mem hq
          apply Classical.byContradiction
          intro c
          refine h ⟨i, hi, ?_⟩
          have : ¬ 0 ≤ firstF m.length (fun j => decide (m.getD j default = turnF (l.getD i default) t)) := fun hh => c (by
            have := any_first.1 hh
            simpa [hi] using this)
          rw [decide_eq_false this]; rfl
        · rintro h ⟨i, hi, h'⟩
          simp only [Bool.not_eq_true', decide_eq_false_iff_not] at h'
          exact h' (any_first.2 (h _ (getD_mem hi)))
      rw [this]; exact k
  · rw [if_neg (by simp; omega)]
    refine ok_then (ok_some (ok_some ?_))
    have : takesF t l m = false := by unfold takesF; exact decide_eq_false fun h => he h.1
    rw [this] at k
    rw [decide_eq_false (by omega)]; exact k
theorem o_ref9_takes {t : TTurn} {l m : List TPoint} (hl : l.length ≤ 10) (hm : m.length ≤ 10) (sl : ∀ p ∈ l, Sm p) (ht : TOk t) {Q : Bool → Prop} (k : Q (takesF t l m)) : Ok (p_ref9_takes t l m) Q := by
  unfold p_ref9_takes
  by_cases he : l.length = m.length
  · rw [if_pos (by omega)]
    refine ok_esc ?_
    refine ok_for l.length (fun i _ => ∀ j < i, turnF (l.getD j default) t ∈ m) (by intro j h; omega) ?_ ?_
    · intro i s hi hI
      simp only [Int.toNat_natCast]
      rw [if_pos (by omega)]
      refine ok_esc ?_
      rw [if_pos (by omega)]
      refine ok_then (o_ref1_TurnPoint (sl _ (getD_mem hi)).near ht.near ht.q ?_)
      refine ok_then ?_
      refine ok_for m.length (fun j b => b = true ↔ ∃ j' < j, m.getD j' default = turnF (l.getD i default) t) (by simp) ?_ ?_
      · intro j b hj hb
        simp only [Int.toNat_natCast]
        rw [if_pos (by omega), if_pos (fun _ => ⟨by omega, by omega⟩), if_pos (by omega)]
        refine ok_some ⟨rfl, ?_⟩
        simp only [Bool.or_eq_true, decide_eq_true_eq]
        rw [hb]
        constructor
        · rintro (⟨j', h, h'⟩ | h)
          · exact ⟨j', by omega, h'⟩
          · exact ⟨j, by omega, h⟩
        · rintro ⟨j', h, h'⟩
          by_cases e : j' = j
          · subst e; exact .inr h'
          · exact .inl ⟨j', by omega, h'⟩
      · intro b hb
        simp only
        rw [if_neg (by omega)]
        refine ok_some ?_
        simp only
        by_cases hc : b = true
        · rw [if_neg (by simp [hc])]
          refine ok_some ?_
          simp only
          rw [if_pos (by omega)]
          obtain ⟨j', h, h'⟩ := hb.1 hc
          exact ok_some ⟨rfl, all_lt hI (by rw [← h']; exact getD_mem h)⟩
        · rw [if_pos (by simp [hc])]
          refine ok_some (ok_some (ok_some ?_))
          have : takesF t l m = false := decide_eq_false fun h => hc (hb.2 (by
            obtain ⟨j', h1, h2⟩ := List.getElem_of_mem (h.2 _ (getD_mem (d := default) hi))
            exact ⟨j', h1, by simp [h1, h2]⟩))
          rw [this] at k; exact k
    · intro s hI
      simp only
      rw [if_neg (by omega)]
      refine ok_some (ok_some ?_)
      have : takesF t l m = true := decide_eq_true ⟨he, fun q hq => by
        obtain ⟨i, hi, rfl⟩ := List.getElem_of_mem hq
        have := hI i hi
        simpa [hi] using this⟩
      rw [this] at k; exact k
  · rw [if_neg (by omega)]
    have : takesF t l m = false := decide_eq_false fun h => he h.1
    rw [this] at k
    exact ok_some k
noncomputable def block (l m : List TPoint) (q : Int) (i : Nat) : List TTurn := ((m.take i).map (toT l q)).filter fun t => takesF t l m
noncomputable def blk (l m : List TPoint) : Nat → List TTurn
  | 0 => []
  | k + 1 => blk l m k ++ block l m k m.length
theorem block_step {l m : List TPoint} {q : Int} {i : Nat} (hi : i < m.length) : block l m q (i + 1) = if takesF (toT l q (m.getD i default)) l m = true then block l m q i ++ [toT l q (m.getD i default)] else block l m q i := by
  unfold block
  rw [List.take_succ_eq_append_getElem hi, List.map_append, List.filter_append]
  have e : m.getD i default = m[i] := by simp [hi]
  rw [e]
  by_cases c : takesF (toT l q m[i]) l m = true
  · rw [if_pos c]; simp [c]
  · rw [if_neg c]; simp [c]
theorem block_len (l m : List TPoint) (q : Int) (i : Nat) : (block l m q i).length ≤ m.length := by
  unfold block
  refine Nat.le_trans (List.length_filter_le _ _) ?_
  rw [List.length_map, List.length_take]; omega
theorem block_mem {l m : List TPoint} {q : Int} {i : Nat} {t : TTurn} (h : t ∈ block l m q i) : ∃ x ∈ m, t = toT l q x := by
  obtain ⟨h1, -⟩ := List.mem_filter.1 h
  obtain ⟨x, hx, rfl⟩ := List.mem_map.1 h1
  exact ⟨x, List.mem_of_mem_take hx, rfl⟩
theorem blk_len (l m : List TPoint) : ∀ k, (blk l m k).length ≤ k * m.length
  | 0 => by simp [blk]
  | k + 1 => by have h1 := blk_len l m k; have h2 := block_len l m k m.length; rw [blk, List.length_append, Nat.add_mul, Nat.one_mul]; omega
theorem blk_mem {l m : List TPoint} : ∀ {k : Nat} {t : TTurn}, t ∈ blk l m k → ∃ x ∈ m, ∃ q : Nat, q < k ∧ t = toT l q x
  | 0, t, h => by simp [blk] at h
  | k + 1, t, h => by
    rw [blk] at h
    rcases List.mem_append.1 h with h | h
    · obtain ⟨x, hx, q, hq, e⟩ := blk_mem h; exact ⟨x, hx, q, by omega, e⟩
    · obtain ⟨x, hx, e⟩ := block_mem h; exact ⟨x, hx, k, by omega, e⟩
theorem o_ref9_turns {l m : List TPoint} (hl : l.length ≤ 10) (hm : m.length ≤ 10) (sl : ∀ p ∈ l, Sm p) (sm : ∀ p ∈ m, Sm p) {Q : List TTurn → Prop} (k : Q (if l.length = 0 ∨ ¬ l.length = m.length then [] else blk l m 4)) : Ok (p_ref9_turns l m) Q := by
  unfold p_ref9_turns
  by_cases hc : l.length = 0 ∨ ¬ l.length = m.length
  · rw [if_pos hc] at k
    rw [if_pos (by simp only [Bool.or_eq_true, Bool.not_eq_true', decide_eq_true_eq, decide_eq_false_iff_not]; omega)]
    exact ok_some k
  rw [if_neg hc] at k
  rw [if_neg (by simp only [Bool.or_eq_true, Bool.not_eq_true', decide_eq_true_eq, decide_eq_false_iff_not]; omega)]
  have hn : 0 < l.length := by omega
  refine ok_then ?_
  refine ok_for 4 (fun i out => out = blk l m i) rfl ?_ ?_
  · rintro i out hi rfl
    simp only [show Int.toNat 0 = 0 from rfl, Int.toNat_natCast]
    rw [if_pos (by omega)]
    refine ok_then (ok_then (o_ref1_TurnPoint (sl _ (getD_mem hn)).near (by unfold Near; simp) (by simp only; omega) ?_))
    have hy := y0_sm (q := (i : Int)) sl hn
    obtain ⟨y, hyy⟩ : ∃ y, y = y0F l (i : Int) := ⟨_, rfl⟩
    rw [show turnF (l.getD 0 default) { Quarters := (i : Int) } = y from hyy.symm]
    rw [← hyy] at hy
    refine ok_for m.length (fun j out => out = blk l m i ++ block l m i j) (by simp [block]) ?_ ?_
    · rintro j out hj rfl
      have hx := sm _ (getD_mem (d := default) hj)
      have ht := toT_ok sl hn hx (q := (i : Int)) (by omega) (by omega)
      have hb1 := blk_len l m i
      have hb2 := block_len l m i j
      have hb3 : i * m.length ≤ 4 * 10 := Nat.mul_le_mul (by omega) hm
      have hs := block_step (l := l) (q := (i : Int)) hj
      unfold Sm at hx hy
      simp only [Int.toNat_natCast]
      rw [if_pos (by omega)]
      refine ok_then ?_
      rw [if_pos (by omega), if_pos (by omega), if_pos (by omega)]
      have et : ({ Quarters := (i : Int), At := { X := (m.getD j default).X - y.X, Y := (m.getD j default).Y - y.Y } } : TTurn) = toT l i (m.getD j default) := by rw [hyy]; rfl
      rw [et]
      refine ok_then (o_ref9_takes hl hm sl ht ?_)
      by_cases hk : takesF (toT l i (m.getD j default)) l m = true
      · rw [if_pos hk] at hs
        rw [if_pos hk, if_pos (by rw [List.length_append]; omega)]
        refine ok_some ?_
        rw [if_pos (by omega)]
        exact ok_some ⟨rfl, by rw [hs, List.append_assoc]⟩
      · rw [if_neg hk] at hs
        rw [if_neg hk]
        refine ok_some ?_
        rw [if_pos (by omega)]
        exact ok_some ⟨rfl, by rw [hs]⟩
    · rintro out rfl
      simp only
      rw [if_neg (by omega)]
      refine ok_some ?_
      simp only
      rw [if_pos (by omega)]
      exact ok_some ⟨rfl, rfl⟩
  · rintro out rfl
    simp only
    rw [if_neg (by omega)]
    exact ok_some (ok_some k)
end Go.Nw
