/- NqMk4: a part of the proof. -/
import Derived.Test.YtngdglmimlfefaaNqMk3
set_option linter.unusedVariables false
set_option linter.unusedSimpArgs false
set_option maxRecDepth 100000
namespace Go.Nw
theorem rotN_inj {p q : TPoint} : ∀ n, rotN n p = rotN n q → p = q
  | 0, h => h
  | n + 1, h => by
    refine rotN_inj n ?_
    have h1 := congrArg TPoint.X h
    have h2 := congrArg TPoint.Y h
    simp only [rotN, rot] at h1 h2
    ext <;> omega
theorem turn_inj {p q : TPoint} {t : TTurn} (hf : t.Flip = false) (h : turnF p t = turnF q t) : p = q := by
  have h1 := congrArg TPoint.X h
  have h2 := congrArg TPoint.Y h
  simp only [turnF, flipF, hf, Bool.false_eq_true, if_false] at h1 h2
  refine rotN_inj t.Quarters.toNat ?_
  ext <;> omega
/-- what t makes of what w does is what u does -/
def backW (t u : TTurn) : TTurn := { Quarters := (u.Quarters - t.Quarters + 4) % 4, At := rotN (4 - t.Quarters.toNat) { X := u.At.X - t.At.X, Y := u.At.Y - t.At.Y } }
theorem back_w {t u : TTurn} (ft : t.Flip = false) (fu : u.Flip = false) (t0 : 0 ≤ t.Quarters) (t3 : t.Quarters ≤ 3) (u0 : 0 ≤ u.Quarters) (u3 : u.Quarters ≤ 3) (q : TPoint) : turnF (turnF q (backW t u)) t = turnF q u := by
  obtain ⟨f, tq, ta⟩ := t
  obtain ⟨f', uq, ua⟩ := u
  simp only at ft fu t0 t3 u0 u3
  subst ft fu
  have ht : tq = 0 ∨ tq = 1 ∨ tq = 2 ∨ tq = 3 := by omega
  have hu : uq = 0 ∨ uq = 1 ∨ uq = 2 ∨ uq = 3 := by omega
  rcases ht with rfl | rfl | rfl | rfl <;> rcases hu with rfl | rfl | rfl | rfl <;>
    (ext <;> simp [turnF, backW, flipF, rotN, rot] <;> omega)
theorem turn_id (q : TPoint) : turnF q {} = q := by
  ext <;> simp [turnF, flipF, rotN]
theorem mem_blk {l m : List TPoint} {t : TTurn} (hf : t.Flip = false) (h0 : 0 ≤ t.Quarters) (h3 : t.Quarters ≤ 3) (hx : turnF (l.getD 0 default) t ∈ m) (hk : takesF t l m = true) : t ∈ blk l m 4 := by
  have e : t = toT l t.Quarters (turnF (l.getD 0 default) t) := by
    obtain ⟨f, tq, ta⟩ := t
    simp only at hf
    subst hf
    ext
    · rfl
    · rfl
    · simp only [toT, y0F, turnF, flipF]; simp only [Bool.false_eq_true, if_false]; omega
    · simp only [toT, y0F, turnF, flipF]; simp only [Bool.false_eq_true, if_false]; omega
  have hb : t ∈ block l m t.Quarters m.length := by
    unfold block
    rw [List.take_length]
    exact List.mem_filter.2 ⟨List.mem_map.2 ⟨_, hx, e.symm⟩, hk⟩
  have : ∀ k : Nat, t.Quarters < (k : Int) → t ∈ blk l m k := by
    intro k
    induction k with
    | zero => intro h; omega
    | succ k ih =>
      intro h
      rw [blk]
      by_cases c : t.Quarters = (k : Int)
      · rw [c] at hb; exact List.mem_append_right _ hb
      · exact List.mem_append_left _ (ih (by omega))
  exact this 4 (by omega)
theorem blk_takes {l m : List TPoint} {t : TTurn} : ∀ {k : Nat}, t ∈ blk l m k → takesF t l m = true
  | 0, h => by simp [blk] at h
  | k + 1, h => by
    rw [blk] at h
    rcases List.mem_append.1 h with h | h
    · exact blk_takes h
    · exact (List.mem_filter.1 h).2
theorem takes_iff {t : TTurn} {l m : List TPoint} : takesF t l m = true ↔ l.length = m.length ∧ ∀ q ∈ l, turnF q t ∈ m := by unfold takesF; exact decide_eq_true_iff
/-- with one turn from marks to marks, the turned marks tell the turn -/
theorem only_turn {M S : List TPoint} {t : TTurn} (hn : 0 < M.length) (h1 : (blk M M 4).length = 1) (ft : t.Flip = false) (t0 : 0 ≤ t.Quarters) (t3 : t.Quarters ≤ 3) (hlen : M.length = S.length) (hS : ∀ z, z ∈ S ↔ ∃ q ∈ M, z = turnF q t) :
    t ∈ blk M S 4 ∧ ∀ u ∈ blk M S 4, u = t := by
  have h0 := getD_mem (d := (default : TPoint)) hn
  refine ⟨mem_blk ft t0 t3 ((hS _).2 ⟨_, h0, rfl⟩) (takes_iff.2 ⟨hlen, fun q hq => (hS _).2 ⟨q, hq, rfl⟩⟩), fun u hu => ?_⟩
  obtain ⟨x, -, k, hk, e⟩ := blk_mem hu
  have fu : u.Flip = false := by rw [e]; rfl
  have uq : u.Quarters = (k : Int) := by rw [e]; rfl
  obtain ⟨-, ut⟩ := takes_iff.1 (blk_takes hu)
  have hw := back_w ft fu t0 t3 (by omega) (by omega)
  have wM : ∀ q ∈ M, turnF q (backW t u) ∈ M := fun q hq => by
    obtain ⟨q', hq', e'⟩ := (hS _).1 (ut q hq)
    rw [← hw q] at e'
    rw [turn_inj ft e']; exact hq'
  have w1 : backW t u ∈ blk M M 4 := mem_blk rfl (by simp only [backW]; omega) (by simp only [backW]; omega) (wM _ h0) (takes_iff.2 ⟨rfl, wM⟩)
  have i1 : ({} : TTurn) ∈ blk M M 4 := mem_blk rfl (by decide) (by decide) (by rw [turn_id]; exact h0) (takes_iff.2 ⟨rfl, fun q hq => by rw [turn_id]; exact hq⟩)
  obtain ⟨z, hz⟩ := List.length_eq_one_iff.1 h1
  rw [hz] at w1 i1
  have ew : backW t u = {} := by rw [List.mem_singleton.1 w1, List.mem_singleton.1 i1]
  have hq : ∀ q, turnF q t = turnF q u := fun q => by rw [← hw q, ew, turn_id]
  have e1 : u.Quarters = t.Quarters := by
    have := congrArg TTurn.Quarters ew
    simp only [backW] at this; omega
  have ho := hq { X := 0, Y := 0 }
  have hr : ∀ n, rotN n { X := 0, Y := 0 } = { X := 0, Y := 0 } := by
    intro n
    induction n with
    | zero => rfl
    | succ n ih => rw [rotN, ih]; rfl
  have a1 := congrArg TPoint.X ho
  have a2 := congrArg TPoint.Y ho
  simp only [turnF, flipF, ft, fu, Bool.false_eq_true, if_false, hr] at a1 a2
  ext
  · rw [ft, fu]
  · exact e1
  · omega
  · omega
theorem o_shape_Turned {q : TPoint} {t : TTurn} (hq : Sm q) (ht : turnFault t = 0) (t3 : t.Quarters ≤ 3) (ta : Near t.At) {Q : TPoint × Int → Prop} (k1 : Sm (turnF q t) → Q (turnF q t, 0)) (k2 : Q ({}, 1)) : Ok (p_shape_Turned q t) Q := by
  unfold p_shape_Turned
  refine ok_then (o_shape_CheckTurn ?_)
  rw [if_pos ht]
  refine ok_then (o_shape_IsPoint ?_)
  have h1 := isPt_sm.2 hq
  unfold isPt at h1
  rw [if_neg (by rw [h1]; simp)]
  refine ok_then (o_shape_TurnPoint hq.near ta t3 ?_)
  refine ok_then (o_shape_IsPoint ?_)
  cases h2 : isPt (turnF q t) with
  | true =>
    have h3 := isPt_sm.1 h2
    unfold isPt at h2
    rw [if_neg (by rw [h2]; simp)]
    exact ok_some (k1 h3)
  | false =>
    unfold isPt at h2
    rw [if_pos (by rw [h2]; rfl)]
    exact ok_some k2
end Go.Nw
