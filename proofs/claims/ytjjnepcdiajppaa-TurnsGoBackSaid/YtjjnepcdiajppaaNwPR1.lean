/- The walks of the functions. -/
import Derived.Test.YtjjnepcdiajppaaNwSortF
import Derived.Test.YtjjnepcdiajppaaNwDR
import Derived.Test.YtjjnepcdiajppaaNwPR0
set_option linter.unusedVariables false
set_option linter.unusedSimpArgs false
set_option maxRecDepth 100000
namespace Go.Nw
open Go.Proofs
theorem c_shape_Turned {a0 : TPoint} {a1 : TTurn} {r : TPoint × Int} (h : p_shape_Turned a0 a1 = some r)  : PCalls Try.prog 28 [encTPoint a0, encTTurn a1] (tup [encTPoint r.1, .int .i64 r.2]) := by
  unfold p_shape_Turned at h
  refine pcalls_of (fun _ => none) (fun _ => []) Try.func28 (by unfold Try.f28; rfl) (by kernel_rfl) (by kernel_rfl) ?_
  simp only [awp_seq]
  simp only [argSlots]
  dsimp only [Try.f28]
  try simp only [go_sem]
  obtain ⟨x0, hx0, h⟩ := of_bind h
  refine call_p false (c_shape_CheckTurn hx0) ⟨wkE _, trivial⟩ nofun ?_
  try simp only [go_sem]
  refine cut_l ?_
  try simp only [go_sem]
  refine ways_n (fun c1 => ?_) (fun c1 => ?_)
  ·
    replace h := if_n c1 h
    obtain rfl := Option.some.inj h
    exact wkv_same (by simp only [go_sem]) rfl
  ·
    replace h := if_p c1 h
    obtain ⟨x2, hx2, h⟩ := of_bind h
    refine call_p false (c_shape_IsPoint hx2) ⟨wkE _, trivial⟩ nofun ?_
    try simp only [go_sem]
    refine cut_l ?_
    try simp only [go_sem]
    refine ways (fun c3 => ?_) (fun c3 => ?_)
    ·
      replace h := if_t c3 h
      try simp only [Bool.and_eq_true, Bool.or_eq_true, Bool.not_eq_true', Bool.not_eq_false', Bool.and_eq_false_imp, Bool.or_eq_false_iff, decide_eq_true_eq, decide_eq_false_iff_not] at c3
      obtain rfl := Option.some.inj h
      exact wkv_same (by simp only [go_sem]) rfl
    ·
      replace h := if_f c3 h
      try simp only [Bool.and_eq_true, Bool.or_eq_true, Bool.not_eq_true', Bool.not_eq_false', Bool.and_eq_false_imp, Bool.or_eq_false_iff, decide_eq_true_eq, decide_eq_false_iff_not] at c3
      obtain ⟨x4, hx4, h⟩ := of_bind h
      refine call_p false (c_shape_TurnPoint hx4) ⟨wkE _, wkE _, trivial⟩ nofun ?_
      try simp only [go_sem]
      obtain ⟨x5, hx5, h⟩ := of_bind h
      refine call_p false (c_shape_IsPoint hx5) ⟨wkE _, trivial⟩ nofun ?_
      try simp only [go_sem]
      refine cut_l ?_
      try simp only [go_sem]
      refine ways (fun c6 => ?_) (fun c6 => ?_)
      ·
        replace h := if_t c6 h
        try simp only [Bool.and_eq_true, Bool.or_eq_true, Bool.not_eq_true', Bool.not_eq_false', Bool.and_eq_false_imp, Bool.or_eq_false_iff, decide_eq_true_eq, decide_eq_false_iff_not] at c6
        obtain rfl := Option.some.inj h
        exact wkv_same (by simp only [go_sem]) rfl
      ·
        replace h := if_f c6 h
        try simp only [Bool.and_eq_true, Bool.or_eq_true, Bool.not_eq_true', Bool.not_eq_false', Bool.and_eq_false_imp, Bool.or_eq_false_iff, decide_eq_true_eq, decide_eq_false_iff_not] at c6
        obtain rfl := Option.some.inj h
        exact wkv_same (by simp only [go_sem]) rfl
theorem c_shape_Area {a0 : (List TRect)} {r : Int × Int} (h : p_shape_Area a0 = some r)  : PCalls Try.prog 49 [encL 4 encTRect a0] (tup [.int .i64 r.1, .int .i64 r.2]) := by
  unfold p_shape_Area at h
  refine pcalls_of (fun _ => none) (fun _ => []) Try.func49 (by unfold Try.f49; rfl) (by kernel_rfl) (by kernel_rfl) ?_
  simp only [awp_seq]
  simp only [argSlots]
  dsimp only [Try.f49]
  try simp only [go_sem]
  obtain ⟨x0, hx0, h⟩ := of_bind h
  refine call_p false (c_shape_CheckRegion hx0) ⟨.same _ trivial, trivial⟩ nofun ?_
  try simp only [go_sem]
  refine cut_l ?_
  try simp only [go_sem]
  refine ways_n (fun c1 => ?_) (fun c1 => ?_)
  ·
    replace h := if_n c1 h
    obtain rfl := Option.some.inj h
    exact wkv_same (by simp only [go_sem]) rfl
  ·
    replace h := if_p c1 h
    obtain ⟨x2, hx2, h⟩ := of_bind h
    refine call_p false (c_shape_AreaOf hx2) ⟨.same _ trivial, trivial⟩ nofun ?_
    obtain rfl := Option.some.inj h
    exact wkv_same (by simp only [go_sem]) rfl
theorem c_law1_awake {r : Bool} (h : p_law1_awake  = some r)  : PCalls Try.prog 21 [] (.bool r) := by
  unfold p_law1_awake at h
  refine pcalls_of (fun _ => none) (fun _ => []) Try.func21 (by unfold Try.f21; rfl) (by kernel_rfl) (by kernel_rfl) ?_
  simp only [awp_seq]
  simp only [argSlots]
  dsimp only [Try.f21]
  try simp only [go_sem]
  obtain ⟨x0, hx0, h⟩ := of_bind h
  refine call_p true (c_shape_Area hx0) ⟨wkv_own rfl (R0_ne _) rfl, trivial⟩ (fun _ => by simp only [go_sem]) ?_
  try simp only [go_sem]
  obtain rfl := Option.some.inj h
  exact .same _ trivial
theorem c_law1_TurnsGoBack {a0 : TTurn} {a1 : TTurn} {a2 : TPoint} {r : Bool} (h : p_law1_TurnsGoBack a0 a1 a2 = some r)  : PCalls Try.prog 7 [encTTurn a0, encTTurn a1, encTPoint a2] (.bool r) := by
  unfold p_law1_TurnsGoBack at h
  refine pcalls_of (fun _ => none) (fun _ => []) Try.func7 (by unfold Try.f7; rfl) (by kernel_rfl) (by kernel_rfl) ?_
  simp only [awp_seq]
  simp only [argSlots]
  dsimp only [Try.f7]
  try simp only [go_sem]
  obtain ⟨x0, hx0, h⟩ := of_bind h
  refine call_p false (c_shape_Turned hx0) ⟨wkE _, wkE _, trivial⟩ nofun ?_
  try simp only [go_sem]
  refine cut_l ?_
  try simp only [go_sem]
  refine ways_n (fun c1 => ?_) (fun c1 => ?_)
  ·
    replace h := if_n c1 h
    obtain ⟨x2, hx2, h⟩ := of_bind h
    refine qcall_p false (fun hg => c_law1_awake (if_t hg hx2)) (fun _ => trivial) nofun ?_
    try simp only [go_sem]
    obtain rfl := Option.some.inj h
    exact .same _ trivial
  ·
    replace h := if_p c1 h
    obtain ⟨x3, hx3, h⟩ := of_bind h
    refine call_p false (c_shape_Back hx3) ⟨wkE _, trivial⟩ nofun ?_
    try simp only [go_sem]
    refine cut_l ?_
    try simp only [go_sem]
    refine ways_n (fun c4 => ?_) (fun c4 => ?_)
    ·
      replace h := if_n c4 h
      obtain rfl := Option.some.inj h
      exact .same _ trivial
    ·
      replace h := if_p c4 h
      obtain ⟨x5, hx5, h⟩ := of_bind h
      refine call_p false (c_shape_Turned hx5) ⟨wkE _, wkE _, trivial⟩ nofun ?_
      try simp only [go_sem]
      refine ob (by simp) ?_
      refine cut_l ?_
      try simp only [go_sem]
      refine ways (fun c6 => ?_) (fun c6 => ?_)
      ·
        replace h := if_t c6 h
        try simp only [Bool.and_eq_true, Bool.or_eq_true, Bool.not_eq_true', Bool.not_eq_false', Bool.and_eq_false_imp, Bool.or_eq_false_iff, decide_eq_true_eq, decide_eq_false_iff_not] at c6
        obtain rfl := Option.some.inj h
        exact .same _ trivial
      ·
        replace h := if_f c6 h
        try simp only [Bool.and_eq_true, Bool.or_eq_true, Bool.not_eq_true', Bool.not_eq_false', Bool.and_eq_false_imp, Bool.or_eq_false_iff, decide_eq_true_eq, decide_eq_false_iff_not] at c6
        obtain ⟨x7, hx7, h⟩ := of_bind h
        refine call_p false (c_shape_Then hx7) ⟨wkE _, wkE _, trivial⟩ nofun ?_
        try simp only [go_sem]
        obtain ⟨x8, hx8, h⟩ := of_bind h
        refine call_p false (c_shape_Turned hx8) ⟨wkE _, wkE _, trivial⟩ nofun ?_
        try simp only [go_sem]
        refine ob (by simp) ?_
        refine cut_l ?_
        try simp only [go_sem]
        refine ways (fun c9 => ?_) (fun c9 => ?_)
        ·
          replace h := if_t c9 h
          try simp only [Bool.and_eq_true, Bool.or_eq_true, Bool.not_eq_true', Bool.not_eq_false', Bool.and_eq_false_imp, Bool.or_eq_false_iff, decide_eq_true_eq, decide_eq_false_iff_not] at c9
          obtain ⟨x10, hx10, h⟩ := of_bind h
          refine call_p false (c_law1_awake hx10) trivial nofun ?_
          obtain rfl := Option.some.inj h
          exact .same _ trivial
        ·
          replace h := if_f c9 h
          try simp only [Bool.and_eq_true, Bool.or_eq_true, Bool.not_eq_true', Bool.not_eq_false', Bool.and_eq_false_imp, Bool.or_eq_false_iff, decide_eq_true_eq, decide_eq_false_iff_not] at c9
          obtain ⟨x11, hx11, h⟩ := of_bind h
          refine call_p false (c_shape_Turned hx11) ⟨wkE _, wkE _, trivial⟩ nofun ?_
          try simp only [go_sem]
          obtain ⟨x12, hx12, h⟩ := of_bind h
          refine qcall_p false (fun hg => c_law1_awake (if_t hg hx12)) (fun _ => trivial) nofun ?_
          try simp only [go_sem]
          obtain rfl := Option.some.inj h
          exact .same _ trivial
end Go.Nw
