/- What is read of the program's types. -/
import Derived.Test.YtjjnepcdiajppaaNwTyR2
import Derived.Test.YtjjnepcdiajppaaNwRow
set_option linter.unusedVariables false
set_option linter.unusedSimpArgs false
set_option maxRecDepth 100000
set_option linter.constructorNameAsVariable false
namespace Go.Nw
open Go.Proofs
theorem take_get {cs : List Value} {n j : Nat} (h : j < n) : (cs.take n)[j]? = cs[j]? := List.getElem?_take_of_lt h
section
variable {H : Type} {enc : TypeId × Value → H} {w : World}
theorem dec_Ii643 : Dec enc Try.prog w 3 Int (fun n _ => .int .i64 n) (fun n => -9223372036854775808 ≤ n ∧ n ≤ 9223372036854775807) 1 := dec_int (by kernel_rfl)
theorem dec_TRect : Dec enc Try.prog w 29 TRect (fun a j => lst [(.int .i64 a.X0), (.int .i64 a.Y0), (.int .i64 a.X1), (.int .i64 a.Y1)] j) okTRect 4 := by
  intro fuel cs d ps h hw
  obtain ⟨hl, hf⟩ := dec_fields (by kernel_rfl) h hw
  obtain ⟨f0, d0, p0, t0, w0⟩ := hf 0 (by kernel_rfl)
  simp only [go_sem] at t0 w0
  obtain ⟨a0, o0, l0, c0⟩ := dec_Ii643 f0 _ _ _ t0 w0
  obtain ⟨f1, d1, p1, t1, w1⟩ := hf 1 (by kernel_rfl)
  simp only [go_sem] at t1 w1
  obtain ⟨a1, o1, l1, c1⟩ := dec_Ii643 f1 _ _ _ t1 w1
  obtain ⟨f2, d2, p2, t2, w2⟩ := hf 2 (by kernel_rfl)
  simp only [go_sem] at t2 w2
  obtain ⟨a2, o2, l2, c2⟩ := dec_Ii643 f2 _ _ _ t2 w2
  obtain ⟨f3, d3, p3, t3, w3⟩ := hf 3 (by kernel_rfl)
  simp only [go_sem] at t3 w3
  obtain ⟨a3, o3, l3, c3⟩ := dec_Ii643 f3 _ _ _ t3 w3
  refine ⟨⟨a0, a1, a2, a3⟩, ⟨o0, o1, o2, o3⟩, by rw [hl]; exact sz_TRect, fun j hj => ?_⟩
  rcases j with _ | _ | _ | _ | j
  · have h := c0 0 (by decide); first | (rw [part_get (by decide)] at h; exact h) | (rw [take_get (by decide)] at h; exact h)
  · have h := c1 0 (by decide); first | (rw [part_get (by decide)] at h; exact h) | (rw [take_get (by decide)] at h; exact h)
  · have h := c2 0 (by decide); first | (rw [part_get (by decide)] at h; exact h) | (rw [take_get (by decide)] at h; exact h)
  · have h := c3 0 (by decide); first | (rw [part_get (by decide)] at h; exact h) | (rw [take_get (by decide)] at h; exact h)
  · omega
theorem dec_L22 : Dec enc Try.prog w 22 (List TRect) (fun l _ => encL 4 encTRect l) (fun l => l.length < 281474976710656 ∧ ∀ x ∈ l, okTRect x) 1 := dec_slice dec_TRect (by kernel_rfl) sz_TRect (by decide) (by rw [by_TRect]; decide) fun a c h => ⟨rfl, h⟩
theorem dec_L52 : Dec enc Try.prog w 52 (List (List TRect)) (fun l _ => encL 1 (encL 4 encTRect) l) (fun l => l.length < 281474976710656 ∧ ∀ x ∈ l, (x.length < 281474976710656 ∧ ∀ xy ∈ x, okTRect xy)) 1 := dec_slice dec_L22 (by kernel_rfl) sz_t22 (by decide) (by rw [by_t22]; decide) fun a c h => (h 0 (by decide)).2
end
end Go.Nw
