/- The walks of the functions. -/
import Derived.Test.YtjjnepcdiajppaaNwSortF
import Derived.Test.YtjjnepcdiajppaaNwDR
import Derived.Test.YtjjnepcdiajppaaNwPR1
set_option linter.unusedVariables false
set_option linter.unusedSimpArgs false
set_option maxRecDepth 100000
namespace Go.Nw
open Go.Proofs
theorem c_law1_SetsMatchSpec {a0 : (List TRect)} {a1 : (List TRect)} {r : Bool} (h : p_law1_SetsMatchSpec a0 a1 = some r)  : PCalls Try.prog 11 [encL 4 encTRect a0, encL 4 encTRect a1] (.bool r) := by
  unfold p_law1_SetsMatchSpec at h
  refine pcalls_of (fun _ => none) (fun _ => []) Try.func11 (by unfold Try.f11; rfl) (by kernel_rfl) (by kernel_rfl) ?_
  simp only [awp_seq]
  simp only [argSlots]
  dsimp only [Try.f11]
  try simp only [go_sem]
  obtain ⟨x0, hx0, h⟩ := of_bind h
  refine call_p false (c_shape_Union hx0) ⟨.same _ trivial, .same _ trivial, trivial⟩ nofun ?_
  try simp only [go_sem]
  obtain ⟨x1, hx1, h⟩ := of_bind h
  refine call_p false (c_ref1_Union hx1) ⟨.same _ trivial, .same _ trivial, trivial⟩ nofun ?_
  try simp only [go_sem]
  obtain ⟨x2, hx2, h⟩ := of_bind h
  refine call_p false (c_slices_Equal_Rect hx2) ⟨.same _ trivial, .same _ trivial, trivial⟩ nofun ?_
  try simp only [go_sem]
  refine ob (by simp) ?_
  refine cut_l ?_
  try simp only [go_sem]
  refine ways (fun c3 => ?_) (fun c3 => ?_)
  ·
    replace h := if_t c3 h
    try simp only [Bool.and_eq_true, Bool.or_eq_true, Bool.not_eq_true', Bool.not_eq_false', Bool.and_eq_false_imp, Bool.or_eq_false_iff, decide_eq_true_eq, decide_eq_false_iff_not] at c3
    obtain rfl := Option.some.inj h
    exact .same _ trivial
  ·
    replace h := if_f c3 h
    try simp only [Bool.and_eq_true, Bool.or_eq_true, Bool.not_eq_true', Bool.not_eq_false', Bool.and_eq_false_imp, Bool.or_eq_false_iff, decide_eq_true_eq, decide_eq_false_iff_not] at c3
    obtain ⟨x4, hx4, h⟩ := of_bind h
    refine call_p false (c_shape_Both hx4) ⟨.same _ trivial, .same _ trivial, trivial⟩ nofun ?_
    try simp only [go_sem]
    obtain ⟨x5, hx5, h⟩ := of_bind h
    refine call_p false (c_ref1_Both hx5) ⟨.same _ trivial, .same _ trivial, trivial⟩ nofun ?_
    try simp only [go_sem]
    obtain ⟨x6, hx6, h⟩ := of_bind h
    refine call_p false (c_slices_Equal_Rect hx6) ⟨.same _ trivial, .same _ trivial, trivial⟩ nofun ?_
    try simp only [go_sem]
    refine ob (by simp) ?_
    refine cut_l ?_
    try simp only [go_sem]
    refine ways (fun c7 => ?_) (fun c7 => ?_)
    ·
      replace h := if_t c7 h
      try simp only [Bool.and_eq_true, Bool.or_eq_true, Bool.not_eq_true', Bool.not_eq_false', Bool.and_eq_false_imp, Bool.or_eq_false_iff, decide_eq_true_eq, decide_eq_false_iff_not] at c7
      obtain rfl := Option.some.inj h
      exact .same _ trivial
    ·
      replace h := if_f c7 h
      try simp only [Bool.and_eq_true, Bool.or_eq_true, Bool.not_eq_true', Bool.not_eq_false', Bool.and_eq_false_imp, Bool.or_eq_false_iff, decide_eq_true_eq, decide_eq_false_iff_not] at c7
      obtain ⟨x8, hx8, h⟩ := of_bind h
      refine call_p false (c_shape_Minus hx8) ⟨.same _ trivial, .same _ trivial, trivial⟩ nofun ?_
      try simp only [go_sem]
      obtain ⟨x9, hx9, h⟩ := of_bind h
      refine call_p false (c_ref1_Minus hx9) ⟨.same _ trivial, .same _ trivial, trivial⟩ nofun ?_
      try simp only [go_sem]
      obtain ⟨x10, hx10, h⟩ := of_bind h
      refine call_p false (c_shape_Area hx10) ⟨.same _ trivial, trivial⟩ nofun ?_
      try simp only [go_sem]
      obtain ⟨x11, hx11, h⟩ := of_bind h
      refine call_p false (c_ref1_Area hx11) ⟨.same _ trivial, trivial⟩ nofun ?_
      try simp only [go_sem]
      obtain ⟨x12, hx12, h⟩ := of_bind h
      refine call_p false (c_slices_Equal_Rect hx12) ⟨.same _ trivial, .same _ trivial, trivial⟩ nofun ?_
      try simp only [go_sem]
      obtain ⟨x13, hx13, h⟩ := of_bind h
      refine qcall_p false (fun hg => c_law1_awake (if_t hg hx13)) (fun _ => trivial) nofun ?_
      try simp only [go_sem]
      obtain rfl := Option.some.inj h
      exact .same _ trivial
end Go.Nw
