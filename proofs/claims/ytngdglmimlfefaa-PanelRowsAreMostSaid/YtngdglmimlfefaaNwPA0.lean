/- The walks of the functions. -/
import Derived.Test.YtngdglmimlfefaaNwGlue
import Derived.Test.YtngdglmimlfefaaNwDA
set_option linter.unusedVariables false
set_option linter.unusedSimpArgs false
set_option maxRecDepth 100000
namespace Go.Nw
open Go.Proofs
theorem c_panel_Lowest {a0 : Int} {a1 : Int} {r : TShare} (h : p_panel_Lowest a0 a1 = some r)  : PCalls Try.prog 96 [.int .i64 a0, .int .i64 a1] (encTShare r) := by
  unfold p_panel_Lowest at h
  refine pcalls_of (fun _ => none) (fun _ => []) Try.func96 (by unfold Try.f96; rfl) (by kernel_rfl) (by kernel_rfl) ?_
  simp only [awp_seq]
  simp only [argSlots]
  dsimp only [Try.f96]
  try simp only [go_sem]
  obtain ⟨e0, h0, h⟩ := of_bind h
  refine cut_j ([(5, AVal.int IntKind.i64 e0), (4, AVal.ptr (0, 0) 2 0 0), (0, AVal.int IntKind.i64 a0), (1, AVal.int IntKind.i64 a1)]) ({ nx := 1, rows := [(0, Ent.one { sz := 2, d := encTShare { : TShare }, l := [encTShare { : TShare }] : Row })] : Heap }) ?_ ?_
  ·
    try simp only [go_sem]
    refine loop_w h0 (fun (s : Int × Int) => [(6, AVal.int IntKind.i64 (Prod.fst s)), (5, AVal.int IntKind.i64 (Prod.snd s)), (4, AVal.ptr (0, 0) 2 0 0), (0, AVal.int IntKind.i64 a0), (1, AVal.int IntKind.i64 a1)]) (fun (s : Int × Int) => { nx := 1, rows := [(0, Ent.one { sz := 2, d := encTShare { : TShare }, l := [encTShare { : TShare }] : Row })] : Heap }) ?_ ?_
    ·
      refine wk_of [(0, some 0)] rfl ?_ ?_
      ·
        try simp only [go_sem]
        exact ⟨.same _ trivial, ⟨.same _ trivial, ⟨.ptr _ _ _ _ _ (rn_some rfl), ⟨.same _ trivial, .same _ trivial⟩⟩⟩⟩
      ·
        try simp only [go_sem]
        exact wkR_box (rn_some rfl) rfl (wkE _)
    intro n1 s1 o1 h1 he1 hi1
    try simp only [go_sem]
    refine cut_l ?_
    try simp only [go_sem]
    refine ways_n (fun c2 => ?_) (fun c2 => ?_)
    ·
      replace h1 := if_n c2 h1
      refine cut_l ?_
      try simp only [go_sem]
      refine ob (by assumption) ?_
      obtain rfl := Option.some.inj h1
      refine nextL (hi1 _ rfl) ?_
      refine wk_of [(0, some 0)] rfl ?_ ?_
      ·
        try simp only [go_sem]
        exact ⟨.same _ trivial, ⟨.same _ trivial, ⟨.ptr _ _ _ _ _ (rn_some rfl), ⟨.same _ trivial, .same _ trivial⟩⟩⟩⟩
      ·
        try simp only [go_sem]
        exact wkR_box (rn_some rfl) rfl (wkE _)
    ·
      replace h1 := if_p c2 h1
      obtain rfl := Option.some.inj h1
      obtain rfl := he1 _ rfl
      refine wk_of [(0, some 0)] rfl ?_ ?_
      ·
        try simp only [go_sem]
        exact ⟨.same _ trivial, ⟨.ptr _ _ _ _ _ (rn_some rfl), ⟨.same _ trivial, .same _ trivial⟩⟩⟩
      ·
        try simp only [go_sem]
        exact wkR_box (rn_some rfl) rfl (wkE _)
  try simp only [go_sem]
  obtain ⟨g3, h⟩ := of_guard h
  refine ob (by assumption) ?_
  obtain ⟨⟨g4_0, g4_1⟩, h⟩ := of_guard h
  simp only [W64 g4_0 g4_1]
  obtain ⟨⟨g5_0, g5_1⟩, h⟩ := of_guard h
  simp only [W64 g5_0 g5_1]
  obtain rfl := Option.some.inj h
  exact wkE _
theorem c_panel_isApart {a0 : TRect} {a1 : TRect} {a2 : Int} {r : Bool} (h : p_panel_isApart a0 a1 a2 = some r)  : PCalls Try.prog 80 [encTRect a0, encTRect a1, .int .i64 a2] (.bool r) := by
  unfold p_panel_isApart at h
  refine pcalls_of (fun _ => none) (fun _ => []) Try.func80 (by unfold Try.f80; rfl) (by kernel_rfl) (by kernel_rfl) ?_
  simp only [awp_seq]
  simp only [argSlots]
  dsimp only [Try.f80]
  try simp only [go_sem]
  obtain ⟨⟨g0_0, g0_1⟩, h⟩ := of_guard h
  simp only [W64 g0_0 g0_1]
  obtain ⟨⟨g1_0, g1_1⟩, h⟩ := of_guard h
  simp only [W64 g1_0 g1_1]
  obtain ⟨⟨g2_0, g2_1⟩, h⟩ := of_guard h
  simp only [W64 g2_0 g2_1]
  refine ob ⟨⟨by simp, by simp⟩, by simp⟩ ?_
  obtain ⟨⟨g3_0, g3_1⟩, h⟩ := of_guard h
  simp only [W64 g3_0 g3_1]
  obtain rfl := Option.some.inj h
  exact .same _ trivial
theorem c_panel_isInside {a0 : TRect} {a1 : TPoint} {r : Bool} (h : p_panel_isInside a0 a1 = some r)  : PCalls Try.prog 83 [encTRect a0, encTPoint a1] (.bool r) := by
  unfold p_panel_isInside at h
  refine pcalls_of (fun _ => none) (fun _ => []) Try.func83 (by unfold Try.f83; rfl) (by kernel_rfl) (by kernel_rfl) ?_
  simp only [awp_seq]
  simp only [argSlots]
  dsimp only [Try.f83]
  try simp only [go_sem]
  obtain rfl := Option.some.inj h
  exact .same _ trivial
theorem c_panel_isOn {a0 : TPanel} {a1 : TRect} {r : Bool} (h : p_panel_isOn a0 a1 = some r)  : PCalls Try.prog 77 [encTPanel a0, encTRect a1] (.bool r) := by
  unfold p_panel_isOn at h
  refine pcalls_of (fun _ => none) (fun _ => []) Try.func77 (by unfold Try.f77; rfl) (by kernel_rfl) (by kernel_rfl) ?_
  simp only [awp_seq]
  simp only [argSlots]
  dsimp only [Try.f77]
  try simp only [go_sem]
  obtain ⟨⟨g0_0, g0_1⟩, h⟩ := of_guard h
  simp only [W64 g0_0 g0_1]
  obtain ⟨⟨g1_0, g1_1⟩, h⟩ := of_guard h
  simp only [W64 g1_0 g1_1]
  obtain rfl := Option.some.inj h
  exact .same _ trivial
theorem c_panel_kindAt_1 {a0 : TBoardKind} {a1 : ByteArray} {r : Bool} (h : p_panel_kindAt_1 a0 a1 = some r)  : PCalls Try.prog 95 [encTBoardKind a0, .iptr (.str a1) 0] (.bool r) := by
  unfold p_panel_kindAt_1 at h
  refine pcalls_of (fun _ => none) (fun _ => []) Try.func95 (by unfold Try.f95; rfl) (by kernel_rfl) (by kernel_rfl) ?_
  simp only [awp_seq]
  simp only [argSlots]
  dsimp only [Try.f95]
  try simp only [go_sem]
  obtain rfl := Option.some.inj h
  exact .same _ trivial
theorem c_panel_many {a0 : Int} {a1 : Int} {a2 : Int} {r : Int} (h : p_panel_many a0 a1 a2 = some r)  : PCalls Try.prog 63 [.int .i64 a0, .int .i64 a1, .int .i64 a2] (.int .i64 r) := by
  unfold p_panel_many at h
  refine pcalls_of (fun _ => none) (fun _ => []) Try.func63 (by unfold Try.f63; rfl) (by kernel_rfl) (by kernel_rfl) ?_
  simp only [awp_seq]
  simp only [argSlots]
  dsimp only [Try.f63]
  try simp only [go_sem]
  refine cut_l ?_
  try simp only [go_sem]
  refine ways_d (fun c0 => ?_) (fun c0 => ?_)
  ·
    replace h := if_p c0 h
    obtain rfl := Option.some.inj h
    exact .same _ trivial
  ·
    replace h := if_n c0 h
    obtain ⟨⟨g1_0, g1_1⟩, h⟩ := of_guard h
    simp only [W64 g1_0 g1_1]
    obtain ⟨g2, h⟩ := of_guard h
    refine ob (by assumption) ?_
    obtain ⟨⟨g3_0, g3_1⟩, h⟩ := of_guard h
    simp only [W64 g3_0 g3_1]
    obtain ⟨⟨g4_0, g4_1⟩, h⟩ := of_guard h
    simp only [W64 g4_0 g4_1]
    obtain rfl := Option.some.inj h
    exact .same _ trivial
theorem c_panel_sizeOf {a0 : TBoardKind} {a1 : Int} {r : Int × Int} (h : p_panel_sizeOf a0 a1 = some r)  : PCalls Try.prog 62 [encTBoardKind a0, .int .i64 a1] (tup [.int .i64 r.1, .int .i64 r.2]) := by
  unfold p_panel_sizeOf at h
  refine pcalls_of (ordOf [(2, [0, 2, 1, 4, 3, 5]), (3, [0, 2, 1, 4, 3, 5])]) (fun _ => []) Try.func62 (by unfold Try.f62; rfl) (by kernel_rfl) (by kernel_rfl) ?_
  simp only [awp_seq]
  simp only [argSlots]
  dsimp only [Try.f62]
  try simp only [go_sem]
  refine ob (by omega) ?_
  refine cut_l ?_
  try simp only [go_sem]
  refine ways_d (fun c0 => ?_) (fun c0 => ?_)
  ·
    replace h := if_p c0 h
    obtain rfl := Option.some.inj h
    exact wkv_same (by simp only [go_sem]) rfl
  ·
    replace h := if_n c0 h
    obtain rfl := Option.some.inj h
    exact wkv_same (by simp only [go_sem]) rfl
theorem c_panel_within {a0 : Int} {a1 : Int} {a2 : Int} {r : Bool} (h : p_panel_within a0 a1 a2 = some r)  : PCalls Try.prog 47 [.int .i64 a0, .int .i64 a1, .int .i64 a2] (.bool r) := by
  unfold p_panel_within at h
  refine pcalls_of (fun _ => none) (fun _ => []) Try.func47 (by unfold Try.f47; rfl) (by kernel_rfl) (by kernel_rfl) ?_
  simp only [awp_seq]
  simp only [argSlots]
  dsimp only [Try.f47]
  try simp only [go_sem]
  obtain rfl := Option.some.inj h
  exact .same _ trivial
theorem c_plot_IsName {a0 : ByteArray} {r : Bool} (h : p_plot_IsName a0 = some r)  : PCalls Try.prog 126 [.str a0] (.bool r) := by
  unfold p_plot_IsName at h
  refine pcalls_of (fun _ => none) (fun _ => []) Try.func126 (by unfold Try.f126; rfl) (by kernel_rfl) (by kernel_rfl) ?_
  simp only [awp_seq]
  simp only [argSlots]
  dsimp only [Try.f126]
  try simp only [go_sem]
  obtain ⟨z0, h0, h⟩ := of_bind h
  refine cut_z z0 (fun (s : Bool) => [(2, AVal.bool s), (0, AVal.str a0)]) (fun (s : Bool) => { nx := 0, rows := [] : Heap }) ?_ (fun e0 hz0 => ?_)
  ·
    try simp only [go_sem]
    refine loop_w h0 (fun (s : Int × Bool) => [(8, AVal.int IntKind.i64 (Prod.fst s)), (7, AVal.int IntKind.i64 (↑(ByteArray.size a0) : Int)), (2, AVal.bool (Prod.snd s)), (0, AVal.str a0)]) (fun (s : Int × Bool) => { nx := 0, rows := [] : Heap }) ?_ ?_
    ·
      refine wk_of [] rfl ?_ ?_
      ·
        try simp only [go_sem]
        exact ⟨.same _ trivial, ⟨.same _ trivial, ⟨.same _ trivial, .same _ trivial⟩⟩⟩
      ·
        try simp only [go_sem]
    intro n1 s1 o1 h1 he1 hi1
    try simp only [go_sem]
    refine cut_l ?_
    try simp only [go_sem]
    refine ways_d (fun c2 => ?_) (fun c2 => ?_)
    ·
      replace h1 := if_p c2 h1
      refine cut_l ?_
      try simp only [go_sem]
      obtain ⟨g3, h1⟩ := of_guard h1
      refine ob ⟨by assumption, by assumption⟩ ?_
      refine ob ⟨by intro h1 h2; simp only [h1, h2, Bool.and_self, Bool.not_true, Bool.not_false, Bool.and_true, Bool.true_and], by intro h1; simp only [h1, Bool.and_self, Bool.not_true, Bool.not_false, Bool.and_true, Bool.true_and]⟩ ?_
      refine ob ⟨⟨⟨by intro h1 h2; simp only [h1, h2, Bool.and_self, Bool.not_true, Bool.not_false, Bool.and_true, Bool.true_and], by intro h1 h2; simp only [h1, h2, Bool.and_self, Bool.not_true, Bool.not_false, Bool.and_true, Bool.true_and]⟩, by intro h1 h2; simp only [h1, h2, Bool.and_self, Bool.not_true, Bool.not_false, Bool.and_true, Bool.true_and]⟩, by intro h1 h2; simp only [h1, h2, Bool.and_self, Bool.not_true, Bool.not_false, Bool.and_true, Bool.true_and]⟩ ?_
      refine cut_l ?_
      try simp only [go_sem]
      refine ways (fun c4 => ?_) (fun c4 => ?_)
      ·
        replace h1 := if_t c4 h1
        try simp only [Bool.and_eq_true, Bool.or_eq_true, Bool.not_eq_true', Bool.not_eq_false', Bool.and_eq_false_imp, Bool.or_eq_false_iff, decide_eq_true_eq, decide_eq_false_iff_not] at c4
        obtain rfl := Option.some.inj h1
        obtain rfl := he1 _ rfl
        obtain rfl := Option.some.inj h
        exact .same _ trivial
      ·
        replace h1 := if_f c4 h1
        try simp only [Bool.and_eq_true, Bool.or_eq_true, Bool.not_eq_true', Bool.not_eq_false', Bool.and_eq_false_imp, Bool.or_eq_false_iff, decide_eq_true_eq, decide_eq_false_iff_not] at c4
        obtain ⟨⟨g5_0, g5_1⟩, h1⟩ := of_guard h1
        simp only [W64 g5_0 g5_1]
        obtain rfl := Option.some.inj h1
        refine nextL (hi1 _ rfl) ?_
        refine wk_of [] rfl ?_ ?_
        ·
          try simp only [go_sem]
          exact ⟨.same _ trivial, ⟨.same _ trivial, ⟨.same _ trivial, .same _ trivial⟩⟩⟩
        ·
          try simp only [go_sem]
    ·
      replace h1 := if_n c2 h1
      obtain rfl := Option.some.inj h1
      obtain rfl := he1 _ rfl
      refine zend ?_
      refine wk_of [] rfl ?_ ?_
      ·
        try simp only [go_sem]
        exact ⟨.same _ trivial, .same _ trivial⟩
      ·
        try simp only [go_sem]
  subst hz0
  simp only [Sum.elim_inr] at h
  try simp only [go_sem]
  obtain rfl := Option.some.inj h
  exact .same _ trivial
theorem c_shape_AreaOf {a0 : (List TRect)} {r : Int} (h : p_shape_AreaOf a0 = some r)  : PCalls Try.prog 97 [encL 4 encTRect a0] (.int .i64 r) := by
  unfold p_shape_AreaOf at h
  refine pcalls_of (fun _ => none) (fun _ => []) Try.func97 (by unfold Try.f97; rfl) (by kernel_rfl) (by kernel_rfl) ?_
  simp only [awp_seq]
  simp only [argSlots]
  dsimp only [Try.f97]
  try simp only [go_sem]
  obtain ⟨e0, h0, h⟩ := of_bind h
  refine cut_j ([(3, AVal.int IntKind.i64 e0), (2, AVal.int IntKind.i64 0)]) ({ nx := 0, rows := [] : Heap }) ?_ ?_
  ·
    try simp only [go_sem]
    refine loop_w h0 (fun (s : Int × Int) => [(8, AVal.int IntKind.i64 (Prod.fst s)), (7, AVal.int IntKind.i64 (↑(List.length a0) : Int)), (6, encL 4 encTRect a0), (3, AVal.int IntKind.i64 (Prod.snd s)), (2, AVal.int IntKind.i64 0)]) (fun (s : Int × Int) => { nx := 0, rows := [] : Heap }) ?_ ?_
    ·
      refine wk_of [] rfl ?_ ?_
      ·
        try simp only [go_sem]
        exact ⟨.same _ trivial, ⟨.same _ trivial, ⟨.same _ trivial, .same _ trivial⟩⟩⟩
      ·
        try simp only [go_sem]
    intro n1 s1 o1 h1 he1 hi1
    try simp only [go_sem]
    refine cut_l ?_
    try simp only [go_sem]
    refine ways_d (fun c2 => ?_) (fun c2 => ?_)
    ·
      replace h1 := if_p c2 h1
      refine cut_l ?_
      try simp only [go_sem]
      obtain ⟨g3, h1⟩ := of_guard h1
      refine ob ⟨by assumption, by assumption⟩ ?_
      obtain ⟨⟨g4_0, g4_1⟩, h1⟩ := of_guard h1
      simp only [W64 g4_0 g4_1]
      obtain ⟨⟨g5_0, g5_1⟩, h1⟩ := of_guard h1
      simp only [W64 g5_0 g5_1]
      obtain ⟨⟨g6_0, g6_1⟩, h1⟩ := of_guard h1
      simp only [W64 g6_0 g6_1]
      obtain ⟨⟨g7_0, g7_1⟩, h1⟩ := of_guard h1
      simp only [W64 g7_0 g7_1]
      obtain ⟨⟨g8_0, g8_1⟩, h1⟩ := of_guard h1
      simp only [W64 g8_0 g8_1]
      obtain rfl := Option.some.inj h1
      refine nextL (hi1 _ rfl) ?_
      refine wk_of [] rfl ?_ ?_
      ·
        try simp only [go_sem]
        exact ⟨.same _ trivial, ⟨.same _ trivial, ⟨.same _ trivial, ⟨.same _ trivial, .same _ trivial⟩⟩⟩⟩
      ·
        try simp only [go_sem]
    ·
      replace h1 := if_n c2 h1
      obtain rfl := Option.some.inj h1
      obtain rfl := he1 _ rfl
      refine wk_of [] rfl ?_ ?_
      ·
        try simp only [go_sem]
        exact ⟨.same _ trivial, .same _ trivial⟩
      ·
        try simp only [go_sem]
  try simp only [go_sem]
  obtain rfl := Option.some.inj h
  exact .same _ trivial
theorem c_slices_Clone_BoardKind {a0 : (List TBoardKind)} {r : (List TBoardKind)} (h : p_slices_Clone_BoardKind a0 = some r)  : PCalls Try.prog 119 [encL 3 encTBoardKind a0] (encL 3 encTBoardKind r) := by
  unfold p_slices_Clone_BoardKind at h
  refine pcalls_of (fun _ => none) (fun _ => []) Try.func119 (by unfold Try.f119; rfl) (by kernel_rfl) (by kernel_rfl) ?_
  simp only [awp_seq]
  simp only [argSlots]
  dsimp only [Try.f119]
  try simp only [go_sem]
  refine cut_l ?_
  try simp only [go_sem]
  by_cases c0 : List.length a0 = 0
  ·
    replace h := if_p c0 h
    obtain ⟨u0, ha0, h⟩ := of_bind h
    obtain ⟨w0, hb0, h⟩ := of_bind h
    obtain ⟨hu0, h⟩ := of_guard h
    obtain rfl := (Option.some.inj h).symm
    rw [← hu0] at hb0
    simp only [if_pos c0, go_sem]
    refine ⟨?_, ?_⟩
    ·
      obtain rfl := Option.some.inj ha0
      exact wkv_nilL
    ·
      refine ob (by omega) ?_
      obtain rfl := Option.some.inj hb0
      exact wkv_own rfl (R0_ne _) rfl
  ·
    replace h := if_n c0 h
    simp only [if_neg c0, go_sem]
    obtain ⟨g1, h⟩ := of_guard h
    refine ob (by assumption) ?_
    obtain rfl := Option.some.inj h
    exact wkv_own rfl (R0_ne _) rfl
theorem c_slices_Clone_Point {a0 : (List TPoint)} {r : (List TPoint)} (h : p_slices_Clone_Point a0 = some r)  : PCalls Try.prog 120 [encL 2 encTPoint a0] (encL 2 encTPoint r) := by
  unfold p_slices_Clone_Point at h
  refine pcalls_of (fun _ => none) (fun _ => []) Try.func120 (by unfold Try.f120; rfl) (by kernel_rfl) (by kernel_rfl) ?_
  simp only [awp_seq]
  simp only [argSlots]
  dsimp only [Try.f120]
  try simp only [go_sem]
  refine cut_l ?_
  try simp only [go_sem]
  by_cases c0 : List.length a0 = 0
  ·
    replace h := if_p c0 h
    obtain ⟨u0, ha0, h⟩ := of_bind h
    obtain ⟨w0, hb0, h⟩ := of_bind h
    obtain ⟨hu0, h⟩ := of_guard h
    obtain rfl := (Option.some.inj h).symm
    rw [← hu0] at hb0
    simp only [if_pos c0, go_sem]
    refine ⟨?_, ?_⟩
    ·
      obtain rfl := Option.some.inj ha0
      exact wkv_nilL
    ·
      refine ob (by omega) ?_
      obtain rfl := Option.some.inj hb0
      exact wkv_own rfl (R0_ne _) rfl
  ·
    replace h := if_n c0 h
    simp only [if_neg c0, go_sem]
    obtain ⟨g1, h⟩ := of_guard h
    refine ob (by assumption) ?_
    obtain rfl := Option.some.inj h
    exact wkv_own rfl (R0_ne _) rfl
theorem c_slices_IndexFunc_BoardKind {a0 : (List TBoardKind)} {f1 : (TBoardKind → Option (Bool))} {r : Int} (h : p_slices_IndexFunc_BoardKind a0 f1 = some r) {g1 : Nat} {k1 : List AVal} (hk1 : nmL k1) (hf1 : ∀ (x0 : TBoardKind) (y : Bool), f1 x0 = some y → PCalls Try.prog g1 (encTBoardKind x0 :: k1) (.bool y)) : PCalls Try.prog 94 [encL 3 encTBoardKind a0, fn g1 k1] (.int .i64 r) := by
  unfold p_slices_IndexFunc_BoardKind at h
  refine pcalls_of (fun _ => none) (fun _ => []) Try.func94 (by unfold Try.f94; rfl) (by kernel_rfl) (by kernel_rfl) ?_
  simp only [awp_seq]
  simp only [argSlots]
  dsimp only [Try.f94]
  try simp only [go_sem]
  obtain ⟨z0, h0, h⟩ := of_bind h
  refine cut_z z0 (fun (s : Int) => [(4, AVal.int IntKind.i64 s)]) (fun (s : Int) => { nx := 0, rows := [] : Heap }) ?_ (fun e0 hz0 => ?_)
  ·
    try simp only [go_sem]
    refine loop_w h0 (fun (s : Int × Int) => [(8, AVal.int IntKind.i64 (Prod.fst s)), (7, AVal.int IntKind.i64 (↑(List.length a0) : Int)), (4, AVal.int IntKind.i64 (Prod.snd s)), (0, encL 3 encTBoardKind a0), (1, fn g1 k1)]) (fun (s : Int × Int) => { nx := 0, rows := [] : Heap }) ?_ ?_
    ·
      refine wk_of [] rfl ?_ ?_
      ·
        try simp only [go_sem]
        exact ⟨.same _ trivial, ⟨.same _ trivial, ⟨.same _ trivial, ⟨.same _ trivial, .same _ (by simp only [go_sem]; assumption)⟩⟩⟩⟩
      ·
        try simp only [go_sem]
    intro n1 s1 o1 h1 he1 hi1
    try simp only [go_sem]
    refine cut_l ?_
    try simp only [go_sem]
    refine ways_d (fun c2 => ?_) (fun c2 => ?_)
    ·
      replace h1 := if_p c2 h1
      refine cut_l ?_
      try simp only [go_sem]
      obtain ⟨g3, h1⟩ := of_guard h1
      refine ob ⟨by assumption, by assumption⟩ ?_
      obtain ⟨x4, hx4, h1⟩ := of_bind h1
      refine call_p false (hf1 _ _ hx4) ⟨wkE _, lend_self hk1⟩ nofun ?_
      refine cut_l ?_
      try simp only [go_sem]
      refine ways (fun c5 => ?_) (fun c5 => ?_)
      ·
        replace h1 := if_t c5 h1
        try simp only [Bool.and_eq_true, Bool.or_eq_true, Bool.not_eq_true', Bool.not_eq_false', Bool.and_eq_false_imp, Bool.or_eq_false_iff, decide_eq_true_eq, decide_eq_false_iff_not] at c5
        obtain rfl := Option.some.inj h1
        obtain rfl := he1 _ rfl
        obtain rfl := Option.some.inj h
        exact .same _ trivial
      ·
        replace h1 := if_f c5 h1
        try simp only [Bool.and_eq_true, Bool.or_eq_true, Bool.not_eq_true', Bool.not_eq_false', Bool.and_eq_false_imp, Bool.or_eq_false_iff, decide_eq_true_eq, decide_eq_false_iff_not] at c5
        obtain ⟨⟨g6_0, g6_1⟩, h1⟩ := of_guard h1
        simp only [W64 g6_0 g6_1]
        obtain rfl := Option.some.inj h1
        refine nextL (hi1 _ rfl) ?_
        refine wk_of [] rfl ?_ ?_
        ·
          try simp only [go_sem]
          exact ⟨.same _ trivial, ⟨.same _ trivial, ⟨.same _ trivial, ⟨.same _ trivial, .same _ (by simp only [go_sem]; assumption)⟩⟩⟩⟩
        ·
          try simp only [go_sem]
    ·
      replace h1 := if_n c2 h1
      obtain rfl := Option.some.inj h1
      obtain rfl := he1 _ rfl
      refine zend ?_
      refine wk_of [] rfl ?_ ?_
      ·
        try simp only [go_sem]
        exact .same _ trivial
      ·
        try simp only [go_sem]
  subst hz0
  simp only [Sum.elim_inr] at h
  try simp only [go_sem]
  obtain rfl := Option.some.inj h
  exact .same _ trivial
theorem c_slices_IndexFunc_Rect {a0 : (List TRect)} {f1 : (TRect → Option (Bool))} {r : Int} (h : p_slices_IndexFunc_Rect a0 f1 = some r) {g1 : Nat} {k1 : List AVal} (hk1 : nmL k1) (hf1 : ∀ (x0 : TRect) (y : Bool), f1 x0 = some y → PCalls Try.prog g1 (encTRect x0 :: k1) (.bool y)) : PCalls Try.prog 117 [encL 4 encTRect a0, fn g1 k1] (.int .i64 r) := by
  unfold p_slices_IndexFunc_Rect at h
  refine pcalls_of (fun _ => none) (fun _ => []) Try.func117 (by unfold Try.f117; rfl) (by kernel_rfl) (by kernel_rfl) ?_
  simp only [awp_seq]
  simp only [argSlots]
  dsimp only [Try.f117]
  try simp only [go_sem]
  obtain ⟨z0, h0, h⟩ := of_bind h
  refine cut_z z0 (fun (s : Int) => [(4, AVal.int IntKind.i64 s)]) (fun (s : Int) => { nx := 0, rows := [] : Heap }) ?_ (fun e0 hz0 => ?_)
  ·
    try simp only [go_sem]
    refine loop_w h0 (fun (s : Int × Int) => [(8, AVal.int IntKind.i64 (Prod.fst s)), (7, AVal.int IntKind.i64 (↑(List.length a0) : Int)), (4, AVal.int IntKind.i64 (Prod.snd s)), (0, encL 4 encTRect a0), (1, fn g1 k1)]) (fun (s : Int × Int) => { nx := 0, rows := [] : Heap }) ?_ ?_
    ·
      refine wk_of [] rfl ?_ ?_
      ·
        try simp only [go_sem]
        exact ⟨.same _ trivial, ⟨.same _ trivial, ⟨.same _ trivial, ⟨.same _ trivial, .same _ (by simp only [go_sem]; assumption)⟩⟩⟩⟩
      ·
        try simp only [go_sem]
    intro n1 s1 o1 h1 he1 hi1
    try simp only [go_sem]
    refine cut_l ?_
    try simp only [go_sem]
    refine ways_d (fun c2 => ?_) (fun c2 => ?_)
    ·
      replace h1 := if_p c2 h1
      refine cut_l ?_
      try simp only [go_sem]
      obtain ⟨g3, h1⟩ := of_guard h1
      refine ob ⟨by assumption, by assumption⟩ ?_
      obtain ⟨x4, hx4, h1⟩ := of_bind h1
      refine call_p false (hf1 _ _ hx4) ⟨wkE _, lend_self hk1⟩ nofun ?_
      refine cut_l ?_
      try simp only [go_sem]
      refine ways (fun c5 => ?_) (fun c5 => ?_)
      ·
        replace h1 := if_t c5 h1
        try simp only [Bool.and_eq_true, Bool.or_eq_true, Bool.not_eq_true', Bool.not_eq_false', Bool.and_eq_false_imp, Bool.or_eq_false_iff, decide_eq_true_eq, decide_eq_false_iff_not] at c5
        obtain rfl := Option.some.inj h1
        obtain rfl := he1 _ rfl
        obtain rfl := Option.some.inj h
        exact .same _ trivial
      ·
        replace h1 := if_f c5 h1
        try simp only [Bool.and_eq_true, Bool.or_eq_true, Bool.not_eq_true', Bool.not_eq_false', Bool.and_eq_false_imp, Bool.or_eq_false_iff, decide_eq_true_eq, decide_eq_false_iff_not] at c5
        obtain ⟨⟨g6_0, g6_1⟩, h1⟩ := of_guard h1
        simp only [W64 g6_0 g6_1]
        obtain rfl := Option.some.inj h1
        refine nextL (hi1 _ rfl) ?_
        refine wk_of [] rfl ?_ ?_
        ·
          try simp only [go_sem]
          exact ⟨.same _ trivial, ⟨.same _ trivial, ⟨.same _ trivial, ⟨.same _ trivial, .same _ (by simp only [go_sem]; assumption)⟩⟩⟩⟩
        ·
          try simp only [go_sem]
    ·
      replace h1 := if_n c2 h1
      obtain rfl := Option.some.inj h1
      obtain rfl := he1 _ rfl
      refine zend ?_
      refine wk_of [] rfl ?_ ?_
      ·
        try simp only [go_sem]
        exact .same _ trivial
      ·
        try simp only [go_sem]
  subst hz0
  simp only [Sum.elim_inr] at h
  try simp only [go_sem]
  obtain rfl := Option.some.inj h
  exact .same _ trivial
theorem c_slices_Index_Point {a0 : (List TPoint)} {a1 : TPoint} {r : Int} (h : p_slices_Index_Point a0 a1 = some r)  : PCalls Try.prog 112 [encL 2 encTPoint a0, encTPoint a1] (.int .i64 r) := by
  unfold p_slices_Index_Point at h
  refine pcalls_of (ordOf [(4, [1, 2, 3, 0, 4, 5])]) (fun _ => []) Try.func112 (by unfold Try.f112; rfl) (by kernel_rfl) (by kernel_rfl) ?_
  simp only [awp_seq]
  simp only [argSlots]
  dsimp only [Try.f112]
  try simp only [go_sem]
  obtain ⟨z0, h0, h⟩ := of_bind h
  refine cut_z z0 (fun (s : Int) => [(4, AVal.int IntKind.i64 s)]) (fun (s : Int) => { nx := 1, rows := [] : Heap }) ?_ (fun e0 hz0 => ?_)
  ·
    try simp only [go_sem]
    refine loop_w h0 (fun (s : Int × Int) => [(8, AVal.int IntKind.i64 (Prod.fst s)), (7, AVal.int IntKind.i64 (↑(List.length a0) : Int)), (4, AVal.int IntKind.i64 (Prod.snd s)), (3, AVal.ptr (0, 0) 2 0 0), (0, encL 2 encTPoint a0)]) (fun (s : Int × Int) => { nx := 1, rows := [(0, Ent.one { sz := 2, d := encTPoint a1, l := [encTPoint a1] : Row })] : Heap }) ?_ ?_
    ·
      refine wk_of [(0, some 0)] rfl ?_ ?_
      ·
        try simp only [go_sem]
        exact ⟨.same _ trivial, ⟨.same _ trivial, ⟨.same _ trivial, ⟨.ptr _ _ _ _ _ (rn_some rfl), .same _ trivial⟩⟩⟩⟩
      ·
        try simp only [go_sem]
        exact wkR_box (rn_some rfl) rfl (wkE _)
    intro n1 s1 o1 h1 he1 hi1
    try simp only [go_sem]
    refine cut_l ?_
    try simp only [go_sem]
    refine ways_d (fun c2 => ?_) (fun c2 => ?_)
    ·
      replace h1 := if_p c2 h1
      refine cut_l ?_
      try simp only [go_sem]
      obtain ⟨g3, h1⟩ := of_guard h1
      refine ob ⟨by assumption, by assumption⟩ ?_
      refine cut_l ?_
      try simp only [go_sem]
      refine ways_d (fun c4 => ?_) (fun c4 => ?_)
      ·
        replace h1 := if_p c4 h1
        obtain rfl := Option.some.inj h1
        obtain rfl := he1 _ rfl
        obtain rfl := Option.some.inj h
        exact .same _ trivial
      ·
        replace h1 := if_n c4 h1
        obtain ⟨⟨g5_0, g5_1⟩, h1⟩ := of_guard h1
        simp only [W64 g5_0 g5_1]
        obtain rfl := Option.some.inj h1
        refine nextL (hi1 _ rfl) ?_
        refine wk_of [(0, some 0)] rfl ?_ ?_
        ·
          try simp only [go_sem]
          exact ⟨.same _ trivial, ⟨.same _ trivial, ⟨.same _ trivial, ⟨.ptr _ _ _ _ _ (rn_some rfl), .same _ trivial⟩⟩⟩⟩
        ·
          try simp only [go_sem]
          exact wkR_box (rn_some rfl) rfl (wkE _)
    ·
      replace h1 := if_n c2 h1
      obtain rfl := Option.some.inj h1
      obtain rfl := he1 _ rfl
      refine zend ?_
      refine wk_of [] rfl ?_ ?_
      ·
        try simp only [go_sem]
        exact .same _ trivial
      ·
        try simp only [go_sem]
  subst hz0
  simp only [Sum.elim_inr] at h
  try simp only [go_sem]
  obtain rfl := Option.some.inj h
  exact .same _ trivial
theorem c_panel_cells_1 {a0 : TRect} {a1 : TRect} {a2 : TPanel} {r : Bool} (h : p_panel_cells_1 a0 a1 a2 = some r)  : PCalls Try.prog 128 [encTRect a0, .iptr (encTRect a1) 0, .iptr (encTPanel a2) 0] (.bool r) := by
  unfold p_panel_cells_1 at h
  refine pcalls_of (fun _ => none) (fun _ => []) Try.func128 (by unfold Try.f128; rfl) (by kernel_rfl) (by kernel_rfl) ?_
  simp only [awp_seq]
  simp only [argSlots]
  dsimp only [Try.f128]
  try simp only [go_sem]
  obtain ⟨x0, hx0, h⟩ := of_bind h
  refine call_p false (c_panel_isApart hx0) ⟨wkE _, wkE _, .same _ trivial, trivial⟩ nofun ?_
  try simp only [go_sem]
  obtain rfl := Option.some.inj h
  exact .same _ trivial
theorem c_panel_checkKinds {a0 : (List TBoardKind)} {r : Int} (h : p_panel_checkKinds a0 = some r)  : PCalls Try.prog 98 [encL 3 encTBoardKind a0] (.int .i64 r) := by
  unfold p_panel_checkKinds at h
  refine pcalls_of (ordOf [(10, [0, 1, 2, 3, 5, 6, 7, 8, 9, 4, 10, 11, 12, 13])]) (fun _ => []) Try.func98 (by unfold Try.f98; rfl) (by kernel_rfl) (by kernel_rfl) ?_
  simp only [awp_seq]
  simp only [argSlots]
  dsimp only [Try.f98]
  try simp only [go_sem]
  refine cut_l ?_
  try simp only [go_sem]
  refine ways_d (fun c0 => ?_) (fun c0 => ?_)
  ·
    replace h := if_p c0 h
    obtain rfl := Option.some.inj h
    exact .same _ trivial
  ·
    replace h := if_n c0 h
    obtain ⟨z1, h1, h⟩ := of_bind h
    refine cut_z z1 (fun (s : Int) => [(2, AVal.int IntKind.i64 s)]) (fun (s : Int) => { nx := 0, rows := [] : Heap }) ?_ (fun e1 hz1 => ?_)
    ·
      try simp only [go_sem]
      refine loop_w h1 (fun (s : Int × Int) => [(10, AVal.int IntKind.i64 (Prod.fst s)), (9, AVal.int IntKind.i64 (↑(List.length a0) : Int)), (8, encL 3 encTBoardKind a0), (2, AVal.int IntKind.i64 (Prod.snd s)), (0, encL 3 encTBoardKind a0)]) (fun (s : Int × Int) => { nx := 0, rows := [] : Heap }) ?_ ?_
      ·
        refine wk_of [] rfl ?_ ?_
        ·
          try simp only [go_sem]
          exact ⟨.same _ trivial, ⟨.same _ trivial, ⟨.same _ trivial, ⟨.same _ trivial, .same _ trivial⟩⟩⟩⟩
        ·
          try simp only [go_sem]
      intro n2 s2 o2 h2 he2 hi2
      try simp only [go_sem]
      refine cut_l ?_
      try simp only [go_sem]
      refine ways_d (fun c3 => ?_) (fun c3 => ?_)
      ·
        replace h2 := if_p c3 h2
        refine cut_l ?_
        try simp only [go_sem]
        obtain ⟨g4, h2⟩ := of_guard h2
        refine ob ⟨by assumption, by assumption⟩ ?_
        refine cut_l ?_
        try simp only [go_sem]
        obtain ⟨x5, hx5, h2⟩ := of_bind h2
        refine call_p false (c_plot_IsName hx5) ⟨.same _ trivial, trivial⟩ nofun ?_
        try simp only [go_sem]
        refine cut_l ?_
        try simp only [go_sem]
        refine ways (fun c6 => ?_) (fun c6 => ?_)
        ·
          replace h2 := if_t c6 h2
          try simp only [Bool.and_eq_true, Bool.or_eq_true, Bool.not_eq_true', Bool.not_eq_false', Bool.and_eq_false_imp, Bool.or_eq_false_iff, decide_eq_true_eq, decide_eq_false_iff_not] at c6
          obtain rfl := Option.some.inj h2
          obtain rfl := he2 _ rfl
          obtain rfl := Option.some.inj h
          exact .same _ trivial
        ·
          replace h2 := if_f c6 h2
          try simp only [Bool.and_eq_true, Bool.or_eq_true, Bool.not_eq_true', Bool.not_eq_false', Bool.and_eq_false_imp, Bool.or_eq_false_iff, decide_eq_true_eq, decide_eq_false_iff_not] at c6
          obtain ⟨x7, hx7, h2⟩ := of_bind h2
          refine call_p false (c_panel_within hx7) ⟨.same _ trivial, .same _ trivial, .same _ trivial, trivial⟩ nofun ?_
          try simp only [go_sem]
          obtain ⟨x8, hx8, h2⟩ := of_bind h2
          refine qcall_p false (fun hg => c_panel_within (if_t hg hx8)) (fun _ => ⟨.same _ trivial, .same _ trivial, .same _ trivial, trivial⟩) nofun ?_
          try simp only [go_sem]
          refine ob (by simp) ?_
          refine cut_l ?_
          try simp only [go_sem]
          refine ways (fun c9 => ?_) (fun c9 => ?_)
          ·
            replace h2 := if_t c9 h2
            try simp only [Bool.and_eq_true, Bool.or_eq_true, Bool.not_eq_true', Bool.not_eq_false', Bool.and_eq_false_imp, Bool.or_eq_false_iff, decide_eq_true_eq, decide_eq_false_iff_not] at c9
            obtain rfl := Option.some.inj h2
            obtain rfl := he2 _ rfl
            obtain rfl := Option.some.inj h
            exact .same _ trivial
          ·
            replace h2 := if_f c9 h2
            try simp only [Bool.and_eq_true, Bool.or_eq_true, Bool.not_eq_true', Bool.not_eq_false', Bool.and_eq_false_imp, Bool.or_eq_false_iff, decide_eq_true_eq, decide_eq_false_iff_not] at c9
            simp only [W64 (n := Prod.fst s2 - 1) (by omega) (by omega)]
            obtain ⟨g10, h2⟩ := of_guard h2
            refine ob (by assumption) ?_
            refine cut_l ?_
            try simp only [go_sem]
            refine ways (fun c11 => ?_) (fun c11 => ?_)
            ·
              replace h2 := if_t c11 h2
              try simp only [Bool.and_eq_true, Bool.or_eq_true, Bool.not_eq_true', Bool.not_eq_false', Bool.and_eq_false_imp, Bool.or_eq_false_iff, decide_eq_true_eq, decide_eq_false_iff_not] at c11
              obtain rfl := Option.some.inj h2
              obtain rfl := he2 _ rfl
              obtain rfl := Option.some.inj h
              exact .same _ trivial
            ·
              replace h2 := if_f c11 h2
              try simp only [Bool.and_eq_true, Bool.or_eq_true, Bool.not_eq_true', Bool.not_eq_false', Bool.and_eq_false_imp, Bool.or_eq_false_iff, decide_eq_true_eq, decide_eq_false_iff_not] at c11
              simp only [W64 (n := Prod.fst s2 + 1) (by omega) (by omega)]
              obtain rfl := Option.some.inj h2
              refine nextL (hi2 _ rfl) ?_
              refine wk_of [] rfl ?_ ?_
              ·
                try simp only [go_sem]
                exact ⟨.same _ trivial, ⟨.same _ trivial, ⟨.same _ trivial, ⟨.same _ trivial, .same _ trivial⟩⟩⟩⟩
              ·
                try simp only [go_sem]
      ·
        replace h2 := if_n c3 h2
        obtain rfl := Option.some.inj h2
        obtain rfl := he2 _ rfl
        refine zend ?_
        refine wk_of [] rfl ?_ ?_
        ·
          try simp only [go_sem]
          exact .same _ trivial
        ·
          try simp only [go_sem]
    subst hz1
    simp only [Sum.elim_inr] at h
    try simp only [go_sem]
    obtain rfl := Option.some.inj h
    exact .same _ trivial
theorem c_panel_isOnPanel {a0 : TPanel} {a1 : TPoint} {r : Bool} (h : p_panel_isOnPanel a0 a1 = some r)  : PCalls Try.prog 60 [encTPanel a0, encTPoint a1] (.bool r) := by
  unfold p_panel_isOnPanel at h
  refine pcalls_of (fun _ => none) (fun _ => []) Try.func60 (by unfold Try.f60; rfl) (by kernel_rfl) (by kernel_rfl) ?_
  simp only [awp_seq]
  simp only [argSlots]
  dsimp only [Try.f60]
  try simp only [go_sem]
  obtain ⟨x0, hx0, h⟩ := of_bind h
  refine call_p false (c_panel_within hx0) ⟨.same _ trivial, .same _ trivial, .same _ trivial, trivial⟩ nofun ?_
  try simp only [go_sem]
  obtain ⟨x1, hx1, h⟩ := of_bind h
  refine qcall_p false (fun hg => c_panel_within (if_t hg hx1)) (fun _ => ⟨.same _ trivial, .same _ trivial, .same _ trivial, trivial⟩) nofun ?_
  try simp only [go_sem]
  obtain rfl := Option.some.inj h
  exact .same _ trivial
theorem c_panel_kindAt {a0 : TPanel} {a1 : ByteArray} {r : Int} (h : p_panel_kindAt a0 a1 = some r)  : PCalls Try.prog 46 [encTPanel a0, .str a1] (.int .i64 r) := by
  unfold p_panel_kindAt at h
  refine pcalls_of (fun _ => none) (fun _ => []) Try.func46 (by unfold Try.f46; rfl) (by kernel_rfl) (by kernel_rfl) ?_
  simp only [awp_seq]
  simp only [argSlots]
  dsimp only [Try.f46]
  try simp only [go_sem]
  obtain ⟨x0, hx0, h⟩ := of_bind h
  refine call_p true (c_slices_IndexFunc_BoardKind hx0 (by simp only [go_sem]) (fun _ _ h => c_panel_kindAt_1 h)) ⟨.same _ trivial, wkv_fnA rfl ⟨wkv_box rfl (R0_ne _) rfl (by simp only [go_sem]) (.same _ trivial), trivial⟩, trivial⟩ (fun _ => by simp only [go_sem]) ?_
  obtain rfl := Option.some.inj h
  exact .same _ trivial
theorem c_panel_open_1 {a0 : TRect} {a1 : TPoint} {r : Bool} (h : p_panel_open_1 a0 a1 = some r)  : PCalls Try.prog 100 [encTRect a0, .iptr (encTPoint a1) 0] (.bool r) := by
  unfold p_panel_open_1 at h
  refine pcalls_of (fun _ => none) (fun _ => []) Try.func100 (by unfold Try.f100; rfl) (by kernel_rfl) (by kernel_rfl) ?_
  simp only [awp_seq]
  simp only [argSlots]
  dsimp only [Try.f100]
  try simp only [go_sem]
  obtain ⟨x0, hx0, h⟩ := of_bind h
  refine call_p false (c_panel_isInside hx0) ⟨wkE _, wkE _, trivial⟩ nofun ?_
  obtain rfl := Option.some.inj h
  exact .same _ trivial
theorem c_panel_own {a0 : TPanel} {a1 : (List TSlot)} {r : TPanel} (h : p_panel_own a0 a1 = some r)  : PCalls Try.prog 84 [encTPanel a0, encL 4 encTSlot a1] (encTPanel r) := by
  unfold p_panel_own at h
  refine pcalls_of (ordOf [(1, [0, 3, 4, 1, 2, 5, 7, 6, 8, 9, 10, 11, 12])]) (fun _ => []) Try.func84 (by unfold Try.f84; rfl) (by kernel_rfl) (by kernel_rfl) ?_
  simp only [awp_seq]
  simp only [argSlots]
  dsimp only [Try.f84]
  try simp only [go_sem]
  obtain ⟨x0, hx0, h⟩ := of_bind h
  refine qcall_p false (fun _ => c_slices_Clone_BoardKind hx0) (fun _ => ⟨.same _ trivial, trivial⟩) nofun ?_
  try simp only [go_sem]
  obtain ⟨x1, hx1, h⟩ := of_bind h
  refine qcall_p false (fun _ => c_slices_Clone_Point hx1) (fun _ => ⟨.same _ trivial, trivial⟩) nofun ?_
  try simp only [go_sem]
  obtain rfl := Option.some.inj h
  exact wkE _
theorem c_slices_ContainsFunc_Rect {a0 : (List TRect)} {f1 : (TRect → Option (Bool))} {r : Bool} (h : p_slices_ContainsFunc_Rect a0 f1 = some r) {g1 : Nat} {k1 : List AVal} (hk1 : nmL k1) (hf1 : ∀ (x0 : TRect) (y : Bool), f1 x0 = some y → PCalls Try.prog g1 (encTRect x0 :: k1) (.bool y)) : PCalls Try.prog 78 [encL 4 encTRect a0, fn g1 k1] (.bool r) := by
  unfold p_slices_ContainsFunc_Rect at h
  refine pcalls_of (fun _ => none) (fun _ => []) Try.func78 (by unfold Try.f78; rfl) (by kernel_rfl) (by kernel_rfl) ?_
  simp only [awp_seq]
  simp only [argSlots]
  dsimp only [Try.f78]
  try simp only [go_sem]
  obtain ⟨x0, hx0, h⟩ := of_bind h
  refine call_p false (c_slices_IndexFunc_Rect hx0 hk1 hf1) ⟨.same _ trivial, .same _ (by simp only [go_sem]; assumption), trivial⟩ nofun ?_
  try simp only [go_sem]
  obtain rfl := Option.some.inj h
  exact .same _ trivial
theorem c_slices_Contains_Point {a0 : (List TPoint)} {a1 : TPoint} {r : Bool} (h : p_slices_Contains_Point a0 a1 = some r)  : PCalls Try.prog 72 [encL 2 encTPoint a0, encTPoint a1] (.bool r) := by
  unfold p_slices_Contains_Point at h
  refine pcalls_of (fun _ => none) (fun _ => []) Try.func72 (by unfold Try.f72; rfl) (by kernel_rfl) (by kernel_rfl) ?_
  simp only [awp_seq]
  simp only [argSlots]
  dsimp only [Try.f72]
  try simp only [go_sem]
  obtain ⟨x0, hx0, h⟩ := of_bind h
  refine call_p false (c_slices_Index_Point hx0) ⟨.same _ trivial, wkE _, trivial⟩ nofun ?_
  try simp only [go_sem]
  obtain rfl := Option.some.inj h
  exact .same _ trivial
theorem c_panel_cellOf {a0 : TPanel} {a1 : TSlot} {r : TRect} (h : p_panel_cellOf a0 a1 = some r)  : PCalls Try.prog 127 [encTPanel a0, encTSlot a1] (encTRect r) := by
  unfold p_panel_cellOf at h
  refine pcalls_of (ordOf [(1, [0, 3, 8, 1, 2, 4, 5, 6, 7, 9, 10, 11, 12, 13, 14, 15])]) (fun _ => []) Try.func127 (by unfold Try.f127; rfl) (by kernel_rfl) (by kernel_rfl) ?_
  simp only [awp_seq]
  simp only [argSlots]
  dsimp only [Try.f127]
  try simp only [go_sem]
  obtain ⟨x0, hx0, h⟩ := of_bind h
  refine qcall_p false (fun _ => c_panel_kindAt hx0) (fun _ => ⟨wkE _, .same _ trivial, trivial⟩) nofun ?_
  try simp only [go_sem]
  obtain ⟨⟨g1_0, g1_1⟩, h⟩ := of_guard h
  refine ob ⟨by assumption, by assumption⟩ ?_
  obtain ⟨x2, hx2, h⟩ := of_bind h
  refine qcall_p false (fun _ => c_panel_sizeOf hx2) (fun _ => ⟨wkE _, .same _ trivial, trivial⟩) nofun ?_
  try simp only [go_sem]
  obtain ⟨⟨g3_0, g3_1⟩, h⟩ := of_guard h
  simp only [W64 g3_0 g3_1]
  obtain ⟨⟨g4_0, g4_1⟩, h⟩ := of_guard h
  simp only [W64 g4_0 g4_1]
  obtain rfl := Option.some.inj h
  exact wkE _
theorem c_panel_row {a0 : TPanel} {a1 : ByteArray} {a2 : Int} {a3 : Int} {a4 : Int} {r : (List TSlot)} (h : p_panel_row a0 a1 a2 a3 a4 = some r)  : PCalls Try.prog 105 [encTPanel a0, .str a1, .int .i64 a2, .int .i64 a3, .int .i64 a4] (encL 4 encTSlot r) := by
  unfold p_panel_row at h
  refine pcalls_of (ordOf [(1, [0, 3, 7, 1, 2, 4, 5, 6, 8, 9, 10, 11, 12, 13])]) (fun _ => []) Try.func105 (by unfold Try.f105; rfl) (by kernel_rfl) (by kernel_rfl) ?_
  simp only [awp_seq]
  simp only [argSlots]
  dsimp only [Try.f105]
  try simp only [go_sem]
  obtain ⟨x0, hx0, h⟩ := of_bind h
  refine qcall_p false (fun _ => c_panel_kindAt hx0) (fun _ => ⟨wkE _, .same _ trivial, trivial⟩) nofun ?_
  try simp only [go_sem]
  obtain ⟨⟨g1_0, g1_1⟩, h⟩ := of_guard h
  refine ob ⟨by assumption, by assumption⟩ ?_
  obtain ⟨x2, hx2, h⟩ := of_bind h
  refine qcall_p false (fun _ => c_panel_sizeOf hx2) (fun _ => ⟨wkE _, .same _ trivial, trivial⟩) nofun ?_
  try simp only [go_sem]
  obtain ⟨e3, h3, h⟩ := of_bind h
  refine cut_j ([(13, AVal.sref (10001, 0) 0 4 (List.length e3)), (10, AVal.nilsl)]) ({ nx := 10002, rows := [(10001, Ent.one { sz := 4, d := encTSlot default, l := List.map encTSlot e3 : Row })] : Heap }) ?_ ?_
  ·
    try simp only [go_sem]
    refine loop_w h3 (fun (s : Int × List TSlot) => [(28, AVal.int IntKind.i64 (Prod.fst s)), (27, AVal.int IntKind.i64 a3), (13, AVal.sref (10001, 0) 0 4 (List.length (Prod.snd s))), (11, AVal.int IntKind.i64 (Prod.fst x2)), (10, AVal.nilsl), (5, AVal.ptr (0, 0) 7 0 0), (1, AVal.str a1), (2, AVal.int IntKind.i64 a2), (4, AVal.int IntKind.i64 a4)]) (fun (s : Int × List TSlot) => { nx := 10002, rows := [(10001, Ent.one { sz := 4, d := encTSlot default, l := List.map encTSlot (Prod.snd s) : Row }), (0, Ent.one { sz := 7, d := encTPanel a0, l := [encTPanel a0] : Row })] : Heap }) ?_ ?_
    ·
      refine wk_of [(10001, none), (0, some 0)] rfl ?_ ?_
      ·
        try simp only [go_sem]
        exact ⟨.same _ trivial, ⟨.same _ trivial, ⟨wkv_nil (rn_none rfl) rfl, ⟨.same _ trivial, ⟨.same _ trivial, ⟨.ptr _ _ _ _ _ (rn_some rfl), ⟨.same _ trivial, ⟨.same _ trivial, .same _ trivial⟩⟩⟩⟩⟩⟩⟩⟩
      ·
        try simp only [go_sem]
        exact ⟨wkR_nilT (rn_none rfl), wkR_box (rn_some rfl) rfl (wkE _)⟩
    intro n4 s4 o4 h4 he4 hi4
    try simp only [go_sem]
    refine cut_l ?_
    try simp only [go_sem]
    refine ways_d (fun c5 => ?_) (fun c5 => ?_)
    ·
      replace h4 := if_p c5 h4
      refine cut_l ?_
      try simp only [go_sem]
      obtain ⟨g6, h4⟩ := of_guard h4
      refine ob ⟨by omega, by assumption⟩ ?_
      obtain ⟨⟨g7_0, g7_1⟩, h4⟩ := of_guard h4
      simp only [W64 g7_0 g7_1]
      obtain ⟨⟨g8_0, g8_1⟩, h4⟩ := of_guard h4
      simp only [W64 g8_0 g8_1]
      obtain ⟨⟨g9_0, g9_1⟩, h4⟩ := of_guard h4
      simp only [W64 g9_0 g9_1]
      obtain ⟨⟨g10_0, g10_1⟩, h4⟩ := of_guard h4
      simp only [W64 g10_0 g10_1]
      obtain rfl := Option.some.inj h4
      refine nextL (hi4 _ rfl) ?_
      refine wk_of [(10001, some 10003), (0, some 0)] rfl ?_ ?_
      ·
        try simp only [go_sem]
        exact ⟨.same _ trivial, ⟨.same _ trivial, ⟨wkv_sref (rn_some rfl) rfl, ⟨.same _ trivial, ⟨.same _ trivial, ⟨.ptr _ _ _ _ _ (rn_some rfl), ⟨.same _ trivial, ⟨.same _ trivial, .same _ trivial⟩⟩⟩⟩⟩⟩⟩⟩
      ·
        try simp only [go_sem]
        exact ⟨wkR_typed (rn_some rfl) rfl rfl, wkR_box (rn_some rfl) rfl (wkE _)⟩
    ·
      replace h4 := if_n c5 h4
      obtain rfl := Option.some.inj h4
      obtain rfl := he4 _ rfl
      refine wk_of [(10001, some 10001)] rfl ?_ ?_
      ·
        try simp only [go_sem]
        exact ⟨wkv_sref (rn_some rfl) rfl, .same _ trivial⟩
      ·
        try simp only [go_sem]
        exact wkR_typed (rn_some rfl) rfl rfl
  try simp only [go_sem]
  obtain rfl := Option.some.inj h
  exact wkv_own rfl (R0_ne _) rfl
theorem c_panel_cells {a0 : TPanel} {r : (List TRect) × Int} (h : p_panel_cells a0 = some r)  : PCalls Try.prog 99 [encTPanel a0] (tup [encL 4 encTRect r.1, .int .i64 r.2]) := by
  unfold p_panel_cells at h
  refine pcalls_of (fun _ => none) (fun _ => []) Try.func99 (by unfold Try.f99; rfl) (by kernel_rfl) (by kernel_rfl) ?_
  simp only [awp_seq]
  simp only [argSlots]
  dsimp only [Try.f99]
  try simp only [go_sem]
  refine cut_l ?_
  try simp only [go_sem]
  refine ways_d (fun c0 => ?_) (fun c0 => ?_)
  ·
    replace h := if_p c0 h
    obtain rfl := Option.some.inj h
    exact wkv_tup ⟨wkv_nilL, .same _ trivial, trivial⟩
  ·
    replace h := if_n c0 h
    obtain ⟨z1, h1, h⟩ := of_bind h
    refine cut_z z1 (fun (s : List TRect × Int × List TRect) => [(4, AVal.sref (1, 0) 0 4 (List.length (Prod.fst s))), (3, AVal.int IntKind.i64 (Prod.fst (Prod.snd s))), (2, encL 4 encTRect (Prod.snd (Prod.snd s)))]) (fun (s : List TRect × Int × List TRect) => { nx := 2, rows := [(1, Ent.one { sz := 4, d := encTRect default, l := List.map encTRect (Prod.fst s) : Row })] : Heap }) ?_ (fun e1 hz1 => ?_)
    ·
      try simp only [go_sem]
      refine loop_w h1 (fun (s : Int × List TRect × Int × List TRect × TPanel) => [(15, AVal.int IntKind.i64 (Prod.fst s)), (14, AVal.int IntKind.i64 (↑(List.length (TPanel.Slots a0)) : Int)), (13, encL 4 encTSlot (TPanel.Slots a0)), (4, AVal.sref (1, 0) 0 4 (List.length (Prod.fst (Prod.snd s)))), (3, AVal.int IntKind.i64 (Prod.fst (Prod.snd (Prod.snd s)))), (2, encL 4 encTRect (Prod.fst (Prod.snd (Prod.snd (Prod.snd s))))), (1, AVal.ptr (0, 0) 7 0 0)]) (fun (s : Int × List TRect × Int × List TRect × TPanel) => { nx := 2, rows := [(1, Ent.one { sz := 4, d := encTRect default, l := List.map encTRect (Prod.fst (Prod.snd s)) : Row }), (0, Ent.one { sz := 7, d := encTPanel a0, l := [encTPanel (Prod.snd (Prod.snd (Prod.snd (Prod.snd s))))] : Row })] : Heap }) ?_ ?_
      ·
        refine wk_of [(1, none), (0, some 0)] rfl ?_ ?_
        ·
          try simp only [go_sem]
          exact ⟨.same _ trivial, ⟨.same _ trivial, ⟨.same _ trivial, ⟨wkv_nil (rn_none rfl) rfl, ⟨.same _ trivial, ⟨wkv_nilL, .ptr _ _ _ _ _ (rn_some rfl)⟩⟩⟩⟩⟩⟩
        ·
          try simp only [go_sem]
          exact ⟨wkR_nilT (rn_none rfl), wkR_box (rn_some rfl) rfl (wkE _)⟩
      intro n2 s2 o2 h2 he2 hi2
      try simp only [go_sem]
      refine cut_l ?_
      try simp only [go_sem]
      refine ways_d (fun c3 => ?_) (fun c3 => ?_)
      ·
        replace h2 := if_p c3 h2
        refine cut_l ?_
        try simp only [go_sem]
        obtain ⟨g4, h2⟩ := of_guard h2
        refine ob ⟨by assumption, by assumption⟩ ?_
        obtain ⟨x5, hx5, h2⟩ := of_bind h2
        refine call_p false (c_panel_kindAt hx5) ⟨wkE _, .same _ trivial, trivial⟩ nofun ?_
        try simp only [go_sem]
        refine cut_l ?_
        try simp only [go_sem]
        refine ways_d (fun c6 => ?_) (fun c6 => ?_)
        ·
          replace h2 := if_p c6 h2
          obtain rfl := Option.some.inj h2
          obtain rfl := he2 _ rfl
          obtain rfl := Option.some.inj h
          exact wkv_tup ⟨wkv_nilL, .same _ trivial, trivial⟩
        ·
          replace h2 := if_n c6 h2
          obtain ⟨x7, hx7, h2⟩ := of_bind h2
          refine call_p false (c_panel_within hx7) ⟨.same _ trivial, .same _ trivial, .same _ trivial, trivial⟩ nofun ?_
          try simp only [go_sem]
          obtain ⟨x8, hx8, h2⟩ := of_bind h2
          refine qcall_p false (fun hg => c_panel_within (if_t hg hx8)) (fun _ => ⟨.same _ trivial, .same _ trivial, .same _ trivial, trivial⟩) nofun ?_
          try simp only [go_sem]
          refine ob (by simp) ?_
          obtain ⟨x9, hx9, h2⟩ := of_bind h2
          refine qcall_p false (fun hg => c_panel_within (if_t hg hx9)) (fun _ => ⟨.same _ trivial, .same _ trivial, .same _ trivial, trivial⟩) nofun ?_
          try simp only [go_sem]
          refine ob (by simp) ?_
          refine cut_l ?_
          try simp only [go_sem]
          refine ways (fun c10 => ?_) (fun c10 => ?_)
          ·
            replace h2 := if_t c10 h2
            try simp only [Bool.and_eq_true, Bool.or_eq_true, Bool.not_eq_true', Bool.not_eq_false', Bool.and_eq_false_imp, Bool.or_eq_false_iff, decide_eq_true_eq, decide_eq_false_iff_not] at c10
            obtain rfl := Option.some.inj h2
            obtain rfl := he2 _ rfl
            obtain rfl := Option.some.inj h
            exact wkv_tup ⟨wkv_nilL, .same _ trivial, trivial⟩
          ·
            replace h2 := if_f c10 h2
            try simp only [Bool.and_eq_true, Bool.or_eq_true, Bool.not_eq_true', Bool.not_eq_false', Bool.and_eq_false_imp, Bool.or_eq_false_iff, decide_eq_true_eq, decide_eq_false_iff_not] at c10
            obtain ⟨x11, hx11, h2⟩ := of_bind h2
            refine call_p false (c_panel_cellOf hx11) ⟨wkE _, wkE _, trivial⟩ nofun ?_
            try simp only [go_sem]
            obtain ⟨x12, hx12, h2⟩ := of_bind h2
            refine call_p false (c_panel_isOn hx12) ⟨wkE _, wkE _, trivial⟩ nofun ?_
            try simp only [go_sem]
            refine cut_l ?_
            try simp only [go_sem]
            refine ways (fun c13 => ?_) (fun c13 => ?_)
            ·
              replace h2 := if_t c13 h2
              try simp only [Bool.and_eq_true, Bool.or_eq_true, Bool.not_eq_true', Bool.not_eq_false', Bool.and_eq_false_imp, Bool.or_eq_false_iff, decide_eq_true_eq, decide_eq_false_iff_not] at c13
              obtain rfl := Option.some.inj h2
              obtain rfl := he2 _ rfl
              obtain rfl := Option.some.inj h
              exact wkv_tup ⟨wkv_nilL, .same _ trivial, trivial⟩
            ·
              replace h2 := if_f c13 h2
              try simp only [Bool.and_eq_true, Bool.or_eq_true, Bool.not_eq_true', Bool.not_eq_false', Bool.and_eq_false_imp, Bool.or_eq_false_iff, decide_eq_true_eq, decide_eq_false_iff_not] at c13
              obtain ⟨x14, hx14, h2⟩ := of_bind h2
              refine call_p true (c_slices_ContainsFunc_Rect hx14 (by simp only [go_sem]) (fun _ _ h => c_panel_cells_1 h)) ⟨wkv_own rfl (R0_ne _) rfl, wkv_fnA rfl ⟨wkv_box rfl (R0_ne _) rfl (by simp only [go_sem]) (wkE _), wkv_box rfl (R0_ne _) rfl (by simp only [go_sem]) (wkE _), trivial⟩, trivial⟩ (fun _ => by simp only [go_sem]) ?_
              refine cut_l ?_
              try simp only [go_sem]
              refine ways (fun c15 => ?_) (fun c15 => ?_)
              ·
                replace h2 := if_t c15 h2
                try simp only [Bool.and_eq_true, Bool.or_eq_true, Bool.not_eq_true', Bool.not_eq_false', Bool.and_eq_false_imp, Bool.or_eq_false_iff, decide_eq_true_eq, decide_eq_false_iff_not] at c15
                obtain rfl := Option.some.inj h2
                obtain rfl := he2 _ rfl
                obtain rfl := Option.some.inj h
                exact wkv_tup ⟨wkv_nilL, .same _ trivial, trivial⟩
              ·
                replace h2 := if_f c15 h2
                try simp only [Bool.and_eq_true, Bool.or_eq_true, Bool.not_eq_true', Bool.not_eq_false', Bool.and_eq_false_imp, Bool.or_eq_false_iff, decide_eq_true_eq, decide_eq_false_iff_not] at c15
                obtain ⟨g16, h2⟩ := of_guard h2
                refine ob ⟨by omega, by assumption⟩ ?_
                simp only [W64 (n := Prod.fst s2 + 1) (by omega) (by omega)]
                obtain rfl := Option.some.inj h2
                refine nextL (hi2 _ rfl) ?_
                refine wk_of [(1, some 7), (0, some 0)] rfl ?_ ?_
                ·
                  try simp only [go_sem]
                  exact ⟨.same _ trivial, ⟨.same _ trivial, ⟨.same _ trivial, ⟨wkv_sref (rn_some rfl) rfl, ⟨.same _ trivial, ⟨.same _ trivial, .ptr _ _ _ _ _ (rn_some rfl)⟩⟩⟩⟩⟩⟩
                ·
                  try simp only [go_sem]
                  exact ⟨wkR_typed (rn_some rfl) rfl rfl, wkR_box (rn_some rfl) rfl (wkE _)⟩
      ·
        replace h2 := if_n c3 h2
        obtain rfl := Option.some.inj h2
        obtain rfl := he2 _ rfl
        refine zend ?_
        refine wk_of [(1, some 1)] rfl ?_ ?_
        ·
          try simp only [go_sem]
          exact ⟨wkv_sref (rn_some rfl) rfl, ⟨.same _ trivial, .same _ trivial⟩⟩
        ·
          try simp only [go_sem]
          exact wkR_typed (rn_some rfl) rfl rfl
    subst hz1
    simp only [Sum.elim_inr] at h
    try simp only [go_sem]
    obtain rfl := Option.some.inj h
    exact wkv_tup ⟨wkv_own rfl (R0_ne _) rfl, .same _ trivial, trivial⟩
theorem c_panel_open {a0 : TPanel} {r : (List TRect) × Int} (h : p_panel_open a0 = some r)  : PCalls Try.prog 49 [encTPanel a0] (tup [encL 4 encTRect r.1, .int .i64 r.2]) := by
  unfold p_panel_open at h
  refine pcalls_of (ordOf [(18, [0, 2, 1, 3, 4, 5, 6])]) (fun _ => []) Try.func49 (by unfold Try.f49; rfl) (by kernel_rfl) (by kernel_rfl) ?_
  simp only [awp_seq]
  simp only [argSlots]
  dsimp only [Try.f49]
  try simp only [go_sem]
  obtain ⟨x0, hx0, h⟩ := of_bind h
  refine call_p false (c_panel_within hx0) ⟨.same _ trivial, .same _ trivial, .same _ trivial, trivial⟩ nofun ?_
  try simp only [go_sem]
  obtain ⟨x1, hx1, h⟩ := of_bind h
  refine qcall_p false (fun hg => c_panel_within (if_t hg hx1)) (fun _ => ⟨.same _ trivial, .same _ trivial, .same _ trivial, trivial⟩) nofun ?_
  try simp only [go_sem]
  refine ob (by simp) ?_
  obtain ⟨x2, hx2, h⟩ := of_bind h
  refine qcall_p false (fun hg => c_panel_within (if_t hg hx2)) (fun _ => ⟨.same _ trivial, .same _ trivial, .same _ trivial, trivial⟩) nofun ?_
  try simp only [go_sem]
  refine ob (by simp) ?_
  obtain ⟨x3, hx3, h⟩ := of_bind h
  refine qcall_p false (fun hg => c_panel_within (if_t hg hx3)) (fun _ => ⟨.same _ trivial, .same _ trivial, .same _ trivial, trivial⟩) nofun ?_
  try simp only [go_sem]
  refine ob (by simp) ?_
  refine cut_l ?_
  try simp only [go_sem]
  refine ways (fun c4 => ?_) (fun c4 => ?_)
  ·
    replace h := if_t c4 h
    try simp only [Bool.and_eq_true, Bool.or_eq_true, Bool.not_eq_true', Bool.not_eq_false', Bool.and_eq_false_imp, Bool.or_eq_false_iff, decide_eq_true_eq, decide_eq_false_iff_not] at c4
    obtain rfl := Option.some.inj h
    exact wkv_tup ⟨wkv_nilL, .same _ trivial, trivial⟩
  ·
    replace h := if_f c4 h
    try simp only [Bool.and_eq_true, Bool.or_eq_true, Bool.not_eq_true', Bool.not_eq_false', Bool.and_eq_false_imp, Bool.or_eq_false_iff, decide_eq_true_eq, decide_eq_false_iff_not] at c4
    obtain ⟨x5, hx5, h⟩ := of_bind h
    refine call_p false (c_panel_checkKinds hx5) ⟨.same _ trivial, trivial⟩ nofun ?_
    try simp only [go_sem]
    refine cut_l ?_
    try simp only [go_sem]
    refine ways_n (fun c6 => ?_) (fun c6 => ?_)
    ·
      replace h := if_n c6 h
      obtain rfl := Option.some.inj h
      exact wkv_tup ⟨wkv_nilL, .same _ trivial, trivial⟩
    ·
      replace h := if_p c6 h
      obtain ⟨x7, hx7, h⟩ := of_bind h
      refine call_p false (c_panel_cells hx7) ⟨wkE _, trivial⟩ nofun ?_
      try simp only [go_sem]
      refine cut_l ?_
      try simp only [go_sem]
      refine ways_n (fun c8 => ?_) (fun c8 => ?_)
      ·
        replace h := if_n c8 h
        obtain rfl := Option.some.inj h
        exact wkv_tup ⟨wkv_nilL, .same _ trivial, trivial⟩
      ·
        replace h := if_p c8 h
        refine cut_l ?_
        try simp only [go_sem]
        refine ways_d (fun c9 => ?_) (fun c9 => ?_)
        ·
          replace h := if_p c9 h
          obtain rfl := Option.some.inj h
          exact wkv_tup ⟨wkv_nilL, .same _ trivial, trivial⟩
        ·
          replace h := if_n c9 h
          obtain ⟨z10, h10, h⟩ := of_bind h
          refine cut_z z10 (fun (s : Int × List TRect) => [(5, encL 4 encTRect (Prod.fst x7)), (3, AVal.int IntKind.i64 (Prod.fst s)), (2, encL 4 encTRect (Prod.snd s))]) (fun (s : Int × List TRect) => { nx := 1, rows := [] : Heap }) ?_ (fun e10 hz10 => ?_)
          ·
            try simp only [go_sem]
            refine loop_w h10 (fun (s : Int × Int × List TRect × TPanel) => [(52, AVal.int IntKind.i64 (Prod.fst s)), (51, AVal.int IntKind.i64 (↑(List.length (TPanel.Marks a0)) : Int)), (50, encL 2 encTPoint (TPanel.Marks a0)), (5, encL 4 encTRect (Prod.fst x7)), (3, AVal.int IntKind.i64 (Prod.fst (Prod.snd s))), (2, encL 4 encTRect (Prod.fst (Prod.snd (Prod.snd s)))), (1, AVal.ptr (0, 0) 7 0 0)]) (fun (s : Int × Int × List TRect × TPanel) => { nx := 1, rows := [(0, Ent.one { sz := 7, d := encTPanel a0, l := [encTPanel (Prod.snd (Prod.snd (Prod.snd s)))] : Row })] : Heap }) ?_ ?_
            ·
              refine wk_of [(0, some 0)] rfl ?_ ?_
              ·
                try simp only [go_sem]
                exact ⟨.same _ trivial, ⟨.same _ trivial, ⟨.same _ trivial, ⟨.same _ trivial, ⟨.same _ trivial, ⟨wkv_nilL, .ptr _ _ _ _ _ (rn_some rfl)⟩⟩⟩⟩⟩⟩
              ·
                try simp only [go_sem]
                exact wkR_box (rn_some rfl) rfl (wkE _)
            intro n11 s11 o11 h11 he11 hi11
            try simp only [go_sem]
            refine cut_l ?_
            try simp only [go_sem]
            refine ways_d (fun c12 => ?_) (fun c12 => ?_)
            ·
              replace h11 := if_p c12 h11
              refine cut_l ?_
              try simp only [go_sem]
              obtain ⟨g13, h11⟩ := of_guard h11
              refine ob ⟨by assumption, by assumption⟩ ?_
              refine cut_l ?_
              try simp only [go_sem]
              obtain ⟨x14, hx14, h11⟩ := of_bind h11
              refine call_p false (c_panel_isOnPanel hx14) ⟨wkE _, wkE _, trivial⟩ nofun ?_
              try simp only [go_sem]
              refine cut_l ?_
              try simp only [go_sem]
              refine ways (fun c15 => ?_) (fun c15 => ?_)
              ·
                replace h11 := if_t c15 h11
                try simp only [Bool.and_eq_true, Bool.or_eq_true, Bool.not_eq_true', Bool.not_eq_false', Bool.and_eq_false_imp, Bool.or_eq_false_iff, decide_eq_true_eq, decide_eq_false_iff_not] at c15
                obtain rfl := Option.some.inj h11
                obtain rfl := he11 _ rfl
                obtain rfl := Option.some.inj h
                exact wkv_tup ⟨wkv_nilL, .same _ trivial, trivial⟩
              ·
                replace h11 := if_f c15 h11
                try simp only [Bool.and_eq_true, Bool.or_eq_true, Bool.not_eq_true', Bool.not_eq_false', Bool.and_eq_false_imp, Bool.or_eq_false_iff, decide_eq_true_eq, decide_eq_false_iff_not] at c15
                obtain ⟨x16, hx16, h11⟩ := of_bind h11
                refine call_p true (c_slices_ContainsFunc_Rect hx16 (by simp only [go_sem]) (fun _ _ h => c_panel_open_1 h)) ⟨.same _ trivial, wkv_fnA rfl ⟨wkv_box rfl (R0_ne _) rfl (by simp only [go_sem]) (wkE _), trivial⟩, trivial⟩ (fun _ => by simp only [go_sem]) ?_
                refine cut_l ?_
                try simp only [go_sem]
                refine ways (fun c17 => ?_) (fun c17 => ?_)
                ·
                  replace h11 := if_t c17 h11
                  try simp only [Bool.and_eq_true, Bool.or_eq_true, Bool.not_eq_true', Bool.not_eq_false', Bool.and_eq_false_imp, Bool.or_eq_false_iff, decide_eq_true_eq, decide_eq_false_iff_not] at c17
                  obtain rfl := Option.some.inj h11
                  obtain rfl := he11 _ rfl
                  obtain rfl := Option.some.inj h
                  exact wkv_tup ⟨wkv_nilL, .same _ trivial, trivial⟩
                ·
                  replace h11 := if_f c17 h11
                  try simp only [Bool.and_eq_true, Bool.or_eq_true, Bool.not_eq_true', Bool.not_eq_false', Bool.and_eq_false_imp, Bool.or_eq_false_iff, decide_eq_true_eq, decide_eq_false_iff_not] at c17
                  obtain ⟨g18, h11⟩ := of_guard h11
                  refine ob ⟨by assumption, by assumption⟩ ?_
                  obtain ⟨x19, hx19, h11⟩ := of_bind h11
                  refine qcall_p false (fun _ => c_slices_Contains_Point hx19) (fun _ => ⟨.same _ trivial, wkE _, trivial⟩) nofun ?_
                  refine cut_l ?_
                  try simp only [go_sem]
                  refine ways (fun c20 => ?_) (fun c20 => ?_)
                  ·
                    replace h11 := if_t c20 h11
                    try simp only [Bool.and_eq_true, Bool.or_eq_true, Bool.not_eq_true', Bool.not_eq_false', Bool.and_eq_false_imp, Bool.or_eq_false_iff, decide_eq_true_eq, decide_eq_false_iff_not] at c20
                    obtain rfl := Option.some.inj h11
                    obtain rfl := he11 _ rfl
                    obtain rfl := Option.some.inj h
                    exact wkv_tup ⟨wkv_nilL, .same _ trivial, trivial⟩
                  ·
                    replace h11 := if_f c20 h11
                    try simp only [Bool.and_eq_true, Bool.or_eq_true, Bool.not_eq_true', Bool.not_eq_false', Bool.and_eq_false_imp, Bool.or_eq_false_iff, decide_eq_true_eq, decide_eq_false_iff_not] at c20
                    simp only [W64 (n := Prod.fst s11 + 1) (by omega) (by omega)]
                    obtain rfl := Option.some.inj h11
                    refine nextL (hi11 _ rfl) ?_
                    refine wk_of [(0, some 0)] rfl ?_ ?_
                    ·
                      try simp only [go_sem]
                      exact ⟨.same _ trivial, ⟨.same _ trivial, ⟨.same _ trivial, ⟨.same _ trivial, ⟨.same _ trivial, ⟨.same _ trivial, .ptr _ _ _ _ _ (rn_some rfl)⟩⟩⟩⟩⟩⟩
                    ·
                      try simp only [go_sem]
                      exact wkR_box (rn_some rfl) rfl (wkE _)
            ·
              replace h11 := if_n c12 h11
              obtain rfl := Option.some.inj h11
              obtain rfl := he11 _ rfl
              refine zend ?_
              refine wk_of [] rfl ?_ ?_
              ·
                try simp only [go_sem]
                exact ⟨.same _ trivial, ⟨.same _ trivial, .same _ trivial⟩⟩
              ·
                try simp only [go_sem]
          subst hz10
          simp only [Sum.elim_inr] at h
          try simp only [go_sem]
          obtain rfl := Option.some.inj h
          exact wkv_same (by simp only [go_sem]) rfl
theorem c_panel_CheckPanel {a0 : TPanel} {r : Int} (h : p_panel_CheckPanel a0 = some r)  : PCalls Try.prog 32 [encTPanel a0] (.int .i64 r) := by
  unfold p_panel_CheckPanel at h
  refine pcalls_of (fun _ => none) (fun _ => []) Try.func32 (by unfold Try.f32; rfl) (by kernel_rfl) (by kernel_rfl) ?_
  simp only [awp_seq]
  simp only [argSlots]
  dsimp only [Try.f32]
  try simp only [go_sem]
  obtain ⟨x0, hx0, h⟩ := of_bind h
  refine call_p false (c_panel_open hx0) ⟨wkE _, trivial⟩ nofun ?_
  try simp only [go_sem]
  obtain rfl := Option.some.inj h
  exact .same _ trivial
theorem c_panel_Use {a0 : TPanel} {r : TShare × Int} (h : p_panel_Use a0 = some r)  : PCalls Try.prog 48 [encTPanel a0] (tup [encTShare r.1, .int .i64 r.2]) := by
  unfold p_panel_Use at h
  refine pcalls_of (ordOf [(4, [0, 2, 4, 1, 3, 5, 6, 7, 8, 9])]) (fun _ => []) Try.func48 (by unfold Try.f48; rfl) (by kernel_rfl) (by kernel_rfl) ?_
  simp only [awp_seq]
  simp only [argSlots]
  dsimp only [Try.f48]
  try simp only [go_sem]
  obtain ⟨x0, hx0, h⟩ := of_bind h
  refine call_p false (c_panel_open hx0) ⟨wkE _, trivial⟩ nofun ?_
  try simp only [go_sem]
  refine cut_l ?_
  try simp only [go_sem]
  refine ways_n (fun c1 => ?_) (fun c1 => ?_)
  ·
    replace h := if_n c1 h
    obtain rfl := Option.some.inj h
    exact wkv_same (by simp only [go_sem]) rfl
  ·
    replace h := if_p c1 h
    obtain ⟨x2, hx2, h⟩ := of_bind h
    refine qcall_p false (fun _ => c_shape_AreaOf hx2) (fun _ => ⟨.same _ trivial, trivial⟩) nofun ?_
    obtain ⟨⟨g3_0, g3_1⟩, h⟩ := of_guard h
    simp only [W64 g3_0 g3_1]
    obtain ⟨x4, hx4, h⟩ := of_bind h
    refine qcall_p false (fun _ => c_panel_Lowest hx4) (fun _ => ⟨.same _ trivial, .same _ trivial, trivial⟩) nofun ?_
    try simp only [go_sem]
    obtain rfl := Option.some.inj h
    exact wkv_same (by simp only [go_sem]) rfl
theorem c_law9_awake {r : Bool} (h : p_law9_awake  = some r)  : PCalls Try.prog 16 [] (.bool r) := by
  unfold p_law9_awake at h
  refine pcalls_of (fun _ => none) (fun _ => []) Try.func16 (by unfold Try.f16; rfl) (by kernel_rfl) (by kernel_rfl) ?_
  simp only [awp_seq]
  simp only [argSlots]
  dsimp only [Try.f16]
  try simp only [go_sem]
  obtain ⟨x0, hx0, h⟩ := of_bind h
  refine call_p false (c_panel_Use hx0) ⟨wkv_aggA rfl ⟨.same _ trivial, .same _ trivial, .same _ trivial, .same _ trivial, wkv_nilL, wkv_nilL, wkv_nilL, trivial⟩, trivial⟩ nofun ?_
  try simp only [go_sem]
  obtain rfl := Option.some.inj h
  exact .same _ trivial
theorem c_panel_told {a0 : TPanel} {r : TPanel × Int} (h : p_panel_told a0 = some r)  : PCalls Try.prog 106 [encTPanel a0] (tup [encTPanel r.1, .int .i64 r.2]) := by
  unfold p_panel_told at h
  refine pcalls_of (fun _ => none) (fun _ => []) Try.func106 (by unfold Try.f106; rfl) (by kernel_rfl) (by kernel_rfl) ?_
  simp only [awp_seq]
  simp only [argSlots]
  dsimp only [Try.f106]
  try simp only [go_sem]
  obtain ⟨x0, hx0, h⟩ := of_bind h
  refine call_p false (c_panel_CheckPanel hx0) ⟨wkE _, trivial⟩ nofun ?_
  try simp only [go_sem]
  refine cut_l ?_
  try simp only [go_sem]
  refine ways_n (fun c1 => ?_) (fun c1 => ?_)
  ·
    replace h := if_n c1 h
    obtain rfl := Option.some.inj h
    exact wkv_tup ⟨wkv_aggA rfl ⟨.same _ trivial, .same _ trivial, .same _ trivial, .same _ trivial, wkv_nilL, wkv_nilL, wkv_nilL, trivial⟩, .same _ trivial, trivial⟩
  ·
    replace h := if_p c1 h
    obtain rfl := Option.some.inj h
    exact wkv_same (by simp only [go_sem]) rfl
theorem c_panel_rows {a0 : TPanel} {a1 : ByteArray} {a2 : Int} {a3 : Int} {a4 : Int} {a5 : Int} {a6 : Int} {r : TPanel × Int} (h : p_panel_rows a0 a1 a2 a3 a4 a5 a6 = some r)  : PCalls Try.prog 64 [encTPanel a0, .str a1, .int .i64 a2, .int .i64 a3, .int .i64 a4, .int .i64 a5, .int .i64 a6] (tup [encTPanel r.1, .int .i64 r.2]) := by
  unfold p_panel_rows at h
  refine pcalls_of (ordOf [(3, [0, 3, 1, 2, 4, 5, 6, 7, 8])]) (fun _ => []) Try.func64 (by unfold Try.f64; rfl) (by kernel_rfl) (by kernel_rfl) ?_
  simp only [awp_seq]
  simp only [argSlots]
  dsimp only [Try.f64]
  try simp only [go_sem]
  obtain ⟨⟨g0_0, g0_1⟩, h⟩ := of_guard h
  simp only [W64 g0_0 g0_1]
  obtain ⟨⟨g1_0, g1_1⟩, h⟩ := of_guard h
  simp only [W64 g1_0 g1_1]
  obtain ⟨⟨g2_0, g2_1⟩, h⟩ := of_guard h
  simp only [W64 g2_0 g2_1]
  refine cut_l ?_
  try simp only [go_sem]
  refine ways_d (fun c3 => ?_) (fun c3 => ?_)
  ·
    replace h := if_p c3 h
    obtain rfl := Option.some.inj h
    exact wkv_tup ⟨wkv_aggA rfl ⟨.same _ trivial, .same _ trivial, .same _ trivial, .same _ trivial, wkv_nilL, wkv_nilL, wkv_nilL, trivial⟩, .same _ trivial, trivial⟩
  ·
    replace h := if_n c3 h
    obtain ⟨x4, hx4, h⟩ := of_bind h
    refine qcall_p false (fun _ => c_panel_kindAt hx4) (fun _ => ⟨wkE _, .same _ trivial, trivial⟩) nofun ?_
    try simp only [go_sem]
    obtain ⟨⟨g5_0, g5_1⟩, h⟩ := of_guard h
    refine ob ⟨by assumption, by assumption⟩ ?_
    obtain ⟨⟨g6_0, g6_1⟩, h⟩ := of_guard h
    simp only [W64 g6_0 g6_1]
    obtain ⟨e7, h7, h⟩ := of_bind h
    refine cut_j ([(17, encL 4 encTSlot e7), (15, AVal.int IntKind.i64 0), (14, AVal.ptr (1, 0) 7 0 0), (7, AVal.ptr (0, 0) 7 0 0)]) ({ nx := 10002, rows := [(1, Ent.one { sz := 7, d := agg [AVal.int IntKind.i64 0, AVal.int IntKind.i64 0, AVal.int IntKind.i64 0, AVal.int IntKind.i64 0, AVal.nilsl, AVal.nilsl, AVal.nilsl], l := [agg [AVal.int IntKind.i64 0, AVal.int IntKind.i64 0, AVal.int IntKind.i64 0, AVal.int IntKind.i64 0, AVal.nilsl, AVal.nilsl, AVal.nilsl]] : Row }), (0, Ent.one { sz := 7, d := encTPanel a0, l := [encTPanel a0] : Row })] : Heap }) ?_ ?_
    ·
      try simp only [go_sem]
      refine loop_w h7 (fun (s : Int × Int × List TSlot) => [(45, AVal.int IntKind.i64 (Prod.fst s)), (44, AVal.int IntKind.i64 (a4 + a6)), (18, AVal.int IntKind.i64 (Prod.fst (Prod.snd s))), (17, AVal.sref (10002, 0) 0 4 (List.length (Prod.snd (Prod.snd s)))), (16, AVal.ptr (18, 0) 3 0 0), (15, AVal.int IntKind.i64 0), (14, AVal.ptr (1, 0) 7 0 0), (7, AVal.ptr (0, 0) 7 0 0), (1, AVal.str a1), (2, AVal.int IntKind.i64 a2), (3, AVal.int IntKind.i64 a3), (4, AVal.int IntKind.i64 a4), (5, AVal.int IntKind.i64 a5)]) (fun (s : Int × Int × List TSlot) => { nx := 10003, rows := [(10002, Ent.one { sz := 4, d := encTSlot default, l := List.map encTSlot (Prod.snd (Prod.snd s)) : Row }), (18, Ent.one { sz := 3, d := encTBoardKind { : TBoardKind }, l := [encTBoardKind (List.getD (TPanel.Kinds a0) (Int.toNat x4) default)] : Row }), (1, Ent.one { sz := 7, d := agg [AVal.int IntKind.i64 0, AVal.int IntKind.i64 0, AVal.int IntKind.i64 0, AVal.int IntKind.i64 0, AVal.nilsl, AVal.nilsl, AVal.nilsl], l := [agg [AVal.int IntKind.i64 0, AVal.int IntKind.i64 0, AVal.int IntKind.i64 0, AVal.int IntKind.i64 0, AVal.nilsl, AVal.nilsl, AVal.nilsl]] : Row }), (0, Ent.one { sz := 7, d := encTPanel a0, l := [encTPanel a0] : Row })] : Heap }) ?_ ?_
      ·
        refine wk_of [(10002, none), (18, some 18), (1, some 1), (0, some 0)] rfl ?_ ?_
        ·
          try simp only [go_sem]
          exact ⟨.same _ trivial, ⟨.same _ trivial, ⟨.same _ trivial, ⟨wkv_nil (rn_none rfl) rfl, ⟨.ptr _ _ _ _ _ (rn_some rfl), ⟨.same _ trivial, ⟨.ptr _ _ _ _ _ (rn_some rfl), ⟨.ptr _ _ _ _ _ (rn_some rfl), ⟨.same _ trivial, ⟨.same _ trivial, ⟨.same _ trivial, ⟨.same _ trivial, .same _ trivial⟩⟩⟩⟩⟩⟩⟩⟩⟩⟩⟩⟩
        ·
          try simp only [go_sem]
          exact ⟨wkR_nilT (rn_none rfl), ⟨wkR_box (rn_some rfl) rfl (wkE _), ⟨wkR_box (rn_some rfl) rfl (wkv_same (by simp only [go_sem]) rfl), wkR_box (rn_some rfl) rfl (wkE _)⟩⟩⟩
      intro n8 s8 o8 h8 he8 hi8
      try simp only [go_sem]
      refine cut_l ?_
      try simp only [go_sem]
      refine ways_d (fun c9 => ?_) (fun c9 => ?_)
      ·
        replace h8 := if_p c9 h8
        obtain ⟨e10, h10, h8⟩ := of_bind h8
        refine cut_j ([(45, AVal.int IntKind.i64 (Prod.fst s8)), (44, AVal.int IntKind.i64 (a4 + a6)), (18, AVal.int IntKind.i64 (Prod.fst e10)), (17, AVal.sref (10002, 0) 0 4 (List.length (Prod.snd e10))), (16, AVal.ptr (18, 0) 3 0 0), (15, AVal.int IntKind.i64 0), (14, AVal.ptr (1, 0) 7 0 0), (7, AVal.ptr (0, 0) 7 0 0), (1, AVal.str a1), (2, AVal.int IntKind.i64 a2), (3, AVal.int IntKind.i64 a3), (4, AVal.int IntKind.i64 a4), (5, AVal.int IntKind.i64 a5)]) ({ nx := 10003, rows := [(10002, Ent.one { sz := 4, d := encTSlot default, l := List.map encTSlot (Prod.snd e10) : Row }), (18, Ent.one { sz := 3, d := encTBoardKind { : TBoardKind }, l := [encTBoardKind (List.getD (TPanel.Kinds a0) (Int.toNat x4) default)] : Row }), (1, Ent.one { sz := 7, d := agg [AVal.int IntKind.i64 0, AVal.int IntKind.i64 0, AVal.int IntKind.i64 0, AVal.int IntKind.i64 0, AVal.nilsl, AVal.nilsl, AVal.nilsl], l := [agg [AVal.int IntKind.i64 0, AVal.int IntKind.i64 0, AVal.int IntKind.i64 0, AVal.int IntKind.i64 0, AVal.nilsl, AVal.nilsl, AVal.nilsl]] : Row }), (0, Ent.one { sz := 7, d := encTPanel a0, l := [encTPanel a0] : Row })] : Heap }) ?_ ?_
        ·
          try simp only [go_sem]
          obtain ⟨e11, h11, h10⟩ := of_bind h10
          refine cut_j ([(21, AVal.int IntKind.i64 (Prod.fst e11)), (20, AVal.int IntKind.i64 (Prod.snd e11)), (45, AVal.int IntKind.i64 (Prod.fst s8)), (44, AVal.int IntKind.i64 (a4 + a6)), (18, AVal.int IntKind.i64 (Prod.fst (Prod.snd s8))), (17, AVal.sref (10002, 0) 0 4 (List.length (Prod.snd (Prod.snd s8)))), (16, AVal.ptr (18, 0) 3 0 0), (15, AVal.int IntKind.i64 0), (14, AVal.ptr (1, 0) 7 0 0), (7, AVal.ptr (0, 0) 7 0 0), (1, AVal.str a1), (2, AVal.int IntKind.i64 a2), (3, AVal.int IntKind.i64 a3), (4, AVal.int IntKind.i64 a4), (5, AVal.int IntKind.i64 a5)]) ({ nx := 10003, rows := [(10002, Ent.one { sz := 4, d := encTSlot default, l := List.map encTSlot (Prod.snd (Prod.snd s8)) : Row }), (18, Ent.one { sz := 3, d := encTBoardKind { : TBoardKind }, l := [encTBoardKind (List.getD (TPanel.Kinds a0) (Int.toNat x4) default)] : Row }), (1, Ent.one { sz := 7, d := agg [AVal.int IntKind.i64 0, AVal.int IntKind.i64 0, AVal.int IntKind.i64 0, AVal.int IntKind.i64 0, AVal.nilsl, AVal.nilsl, AVal.nilsl], l := [agg [AVal.int IntKind.i64 0, AVal.int IntKind.i64 0, AVal.int IntKind.i64 0, AVal.int IntKind.i64 0, AVal.nilsl, AVal.nilsl, AVal.nilsl]] : Row }), (0, Ent.one { sz := 7, d := encTPanel a0, l := [encTPanel a0] : Row })] : Heap }) ?_ ?_
          ·
            try simp only [go_sem]
            refine ways_d (fun c12 => ?_) (fun c12 => ?_)
            ·
              replace h11 := if_p c12 h11
              obtain ⟨⟨g13_0, g13_1⟩, h11⟩ := of_guard h11
              simp only [W64 g13_0 g13_1]
              obtain rfl := Option.some.inj h11
              refine wk_of [(10002, some 10002), (18, some 18), (1, some 1), (0, some 0)] rfl ?_ ?_
              ·
                try simp only [go_sem]
                exact ⟨.same _ trivial, ⟨.same _ trivial, ⟨.same _ trivial, ⟨.same _ trivial, ⟨.same _ trivial, ⟨wkv_sref (rn_some rfl) rfl, ⟨.ptr _ _ _ _ _ (rn_some rfl), ⟨.same _ trivial, ⟨.ptr _ _ _ _ _ (rn_some rfl), ⟨.ptr _ _ _ _ _ (rn_some rfl), ⟨.same _ trivial, ⟨.same _ trivial, ⟨.same _ trivial, ⟨.same _ trivial, .same _ trivial⟩⟩⟩⟩⟩⟩⟩⟩⟩⟩⟩⟩⟩⟩
              ·
                try simp only [go_sem]
                exact ⟨wkR_typed (rn_some rfl) rfl rfl, ⟨wkR_box (rn_some rfl) rfl (wkE _), ⟨wkR_box (rn_some rfl) rfl (wkv_same (by simp only [go_sem]) rfl), wkR_box (rn_some rfl) rfl (wkE _)⟩⟩⟩
            ·
              replace h11 := if_n c12 h11
              obtain rfl := Option.some.inj h11
              refine wk_of [(10002, some 10002), (18, some 18), (1, some 1), (0, some 0)] rfl ?_ ?_
              ·
                try simp only [go_sem]
                exact ⟨.same _ trivial, ⟨.same _ trivial, ⟨.same _ trivial, ⟨.same _ trivial, ⟨.same _ trivial, ⟨wkv_sref (rn_some rfl) rfl, ⟨.ptr _ _ _ _ _ (rn_some rfl), ⟨.same _ trivial, ⟨.ptr _ _ _ _ _ (rn_some rfl), ⟨.ptr _ _ _ _ _ (rn_some rfl), ⟨.same _ trivial, ⟨.same _ trivial, ⟨.same _ trivial, ⟨.same _ trivial, .same _ trivial⟩⟩⟩⟩⟩⟩⟩⟩⟩⟩⟩⟩⟩⟩
              ·
                try simp only [go_sem]
                exact ⟨wkR_typed (rn_some rfl) rfl rfl, ⟨wkR_box (rn_some rfl) rfl (wkE _), ⟨wkR_box (rn_some rfl) rfl (wkv_same (by simp only [go_sem]) rfl), wkR_box (rn_some rfl) rfl (wkE _)⟩⟩⟩
          try simp only [go_sem]
          obtain ⟨x14, hx14, h10⟩ := of_bind h10
          refine call_p false (c_panel_sizeOf hx14) ⟨wkE _, .same _ trivial, trivial⟩ nofun ?_
          try simp only [go_sem]
          obtain ⟨x15, hx15, h10⟩ := of_bind h10
          refine call_p false (c_panel_row hx15) ⟨wkE _, .same _ trivial, .same _ trivial, .same _ trivial, .same _ trivial, trivial⟩ nofun ?_
          try simp only [go_sem]
          obtain ⟨g16, h10⟩ := of_guard h10
          refine ob ⟨by omega, by assumption⟩ ?_
          obtain ⟨⟨g17_0, g17_1⟩, h10⟩ := of_guard h10
          simp only [W64 g17_0 g17_1]
          obtain ⟨⟨g18_0, g18_1⟩, h10⟩ := of_guard h10
          simp only [W64 g18_0 g18_1]
          obtain rfl := Option.some.inj h10
          refine wk_of [(10002, some 10003), (18, some 18), (1, some 1), (0, some 0)] rfl ?_ ?_
          ·
            try simp only [go_sem]
            exact ⟨.same _ trivial, ⟨.same _ trivial, ⟨.same _ trivial, ⟨wkv_sref (rn_some rfl) rfl, ⟨.ptr _ _ _ _ _ (rn_some rfl), ⟨.same _ trivial, ⟨.ptr _ _ _ _ _ (rn_some rfl), ⟨.ptr _ _ _ _ _ (rn_some rfl), ⟨.same _ trivial, ⟨.same _ trivial, ⟨.same _ trivial, ⟨.same _ trivial, .same _ trivial⟩⟩⟩⟩⟩⟩⟩⟩⟩⟩⟩⟩
          ·
            try simp only [go_sem]
            exact ⟨wkR_typed (rn_some rfl) rfl rfl, ⟨wkR_box (rn_some rfl) rfl (wkE _), ⟨wkR_box (rn_some rfl) rfl (wkv_same (by simp only [go_sem]) rfl), wkR_box (rn_some rfl) rfl (wkE _)⟩⟩⟩
        try simp only [go_sem]
        obtain ⟨⟨g19_0, g19_1⟩, h8⟩ := of_guard h8
        simp only [W64 g19_0 g19_1]
        obtain rfl := Option.some.inj h8
        refine nextL (hi8 _ rfl) ?_
        refine wk_of [(10002, some 10002), (18, some 18), (1, some 1), (0, some 0)] rfl ?_ ?_
        ·
          try simp only [go_sem]
          exact ⟨.same _ trivial, ⟨.same _ trivial, ⟨.same _ trivial, ⟨wkv_sref (rn_some rfl) rfl, ⟨.ptr _ _ _ _ _ (rn_some rfl), ⟨.same _ trivial, ⟨.ptr _ _ _ _ _ (rn_some rfl), ⟨.ptr _ _ _ _ _ (rn_some rfl), ⟨.same _ trivial, ⟨.same _ trivial, ⟨.same _ trivial, ⟨.same _ trivial, .same _ trivial⟩⟩⟩⟩⟩⟩⟩⟩⟩⟩⟩⟩
        ·
          try simp only [go_sem]
          exact ⟨wkR_typed (rn_some rfl) rfl rfl, ⟨wkR_box (rn_some rfl) rfl (wkE _), ⟨wkR_box (rn_some rfl) rfl (wkv_same (by simp only [go_sem]) rfl), wkR_box (rn_some rfl) rfl (wkE _)⟩⟩⟩
      ·
        replace h8 := if_n c9 h8
        obtain rfl := Option.some.inj h8
        obtain rfl := he8 _ rfl
        refine wk_of [(1, some 1), (0, some 0)] rfl ?_ ?_
        ·
          try simp only [go_sem]
          exact ⟨wkv_own rfl (rn_notTo rfl) rfl, ⟨.same _ trivial, ⟨.ptr _ _ _ _ _ (rn_some rfl), .ptr _ _ _ _ _ (rn_some rfl)⟩⟩⟩
        ·
          try simp only [go_sem]
          exact ⟨wkR_box (rn_some rfl) rfl (wkv_same (by simp only [go_sem]) rfl), wkR_box (rn_some rfl) rfl (wkE _)⟩
    try simp only [go_sem]
    obtain ⟨x20, hx20, h⟩ := of_bind h
    refine call_p false (c_panel_own hx20) ⟨wkE _, .same _ trivial, trivial⟩ nofun ?_
    obtain ⟨x21, hx21, h⟩ := of_bind h
    refine call_p false (c_panel_told hx21) ⟨wkE _, trivial⟩ nofun ?_
    try simp only [go_sem]
    obtain rfl := Option.some.inj h
    exact wkv_same (by simp only [go_sem]) rfl
theorem c_panel_Grid {a0 : TPanel} {a1 : ByteArray} {a2 : Int} {r : TPanel × Int} (h : p_panel_Grid a0 a1 a2 = some r)  : PCalls Try.prog 27 [encTPanel a0, .str a1, .int .i64 a2] (tup [encTPanel r.1, .int .i64 r.2]) := by
  unfold p_panel_Grid at h
  refine pcalls_of (ordOf [(10, [0, 2, 6, 7, 10, 12, 16, 17, 1, 3, 4, 5, 8, 9, 11, 13, 14, 15, 18, 19, 20, 21])]) (fun _ => []) Try.func27 (by unfold Try.f27; rfl) (by kernel_rfl) (by kernel_rfl) ?_
  simp only [awp_seq]
  simp only [argSlots]
  dsimp only [Try.f27]
  try simp only [go_sem]
  obtain ⟨x0, hx0, h⟩ := of_bind h
  refine call_p false (c_panel_CheckPanel hx0) ⟨wkE _, trivial⟩ nofun ?_
  try simp only [go_sem]
  refine cut_l ?_
  try simp only [go_sem]
  refine ways_n (fun c1 => ?_) (fun c1 => ?_)
  ·
    replace h := if_n c1 h
    obtain rfl := Option.some.inj h
    exact wkv_tup ⟨wkv_aggA rfl ⟨.same _ trivial, .same _ trivial, .same _ trivial, .same _ trivial, wkv_nilL, wkv_nilL, wkv_nilL, trivial⟩, .same _ trivial, trivial⟩
  ·
    replace h := if_p c1 h
    obtain ⟨x2, hx2, h⟩ := of_bind h
    refine call_p false (c_panel_kindAt hx2) ⟨wkE _, .same _ trivial, trivial⟩ nofun ?_
    try simp only [go_sem]
    refine cut_l ?_
    try simp only [go_sem]
    refine ways_d (fun c3 => ?_) (fun c3 => ?_)
    ·
      replace h := if_p c3 h
      obtain rfl := Option.some.inj h
      exact wkv_tup ⟨wkv_aggA rfl ⟨.same _ trivial, .same _ trivial, .same _ trivial, .same _ trivial, wkv_nilL, wkv_nilL, wkv_nilL, trivial⟩, .same _ trivial, trivial⟩
    ·
      replace h := if_n c3 h
      obtain ⟨x4, hx4, h⟩ := of_bind h
      refine call_p false (c_panel_within hx4) ⟨.same _ trivial, .same _ trivial, .same _ trivial, trivial⟩ nofun ?_
      try simp only [go_sem]
      refine cut_l ?_
      try simp only [go_sem]
      refine ways (fun c5 => ?_) (fun c5 => ?_)
      ·
        replace h := if_t c5 h
        try simp only [Bool.and_eq_true, Bool.or_eq_true, Bool.not_eq_true', Bool.not_eq_false', Bool.and_eq_false_imp, Bool.or_eq_false_iff, decide_eq_true_eq, decide_eq_false_iff_not] at c5
        obtain rfl := Option.some.inj h
        exact wkv_tup ⟨wkv_aggA rfl ⟨.same _ trivial, .same _ trivial, .same _ trivial, .same _ trivial, wkv_nilL, wkv_nilL, wkv_nilL, trivial⟩, .same _ trivial, trivial⟩
      ·
        replace h := if_f c5 h
        try simp only [Bool.and_eq_true, Bool.or_eq_true, Bool.not_eq_true', Bool.not_eq_false', Bool.and_eq_false_imp, Bool.or_eq_false_iff, decide_eq_true_eq, decide_eq_false_iff_not] at c5
        obtain ⟨g6, h⟩ := of_guard h
        refine ob ⟨by omega, by assumption⟩ ?_
        obtain ⟨x7, hx7, h⟩ := of_bind h
        refine call_p false (c_panel_sizeOf hx7) ⟨wkE _, .same _ trivial, trivial⟩ nofun ?_
        try simp only [go_sem]
        obtain ⟨⟨g8_0, g8_1⟩, h⟩ := of_guard h
        simp only [W64 g8_0 g8_1]
        obtain ⟨⟨g9_0, g9_1⟩, h⟩ := of_guard h
        simp only [W64 g9_0 g9_1]
        obtain ⟨x10, hx10, h⟩ := of_bind h
        refine qcall_p false (fun _ => c_panel_many hx10) (fun _ => ⟨.same _ trivial, .same _ trivial, .same _ trivial, trivial⟩) nofun ?_
        try simp only [go_sem]
        obtain ⟨⟨g11_0, g11_1⟩, h⟩ := of_guard h
        simp only [W64 g11_0 g11_1]
        obtain ⟨x12, hx12, h⟩ := of_bind h
        refine qcall_p false (fun _ => c_panel_many hx12) (fun _ => ⟨.same _ trivial, .same _ trivial, .same _ trivial, trivial⟩) nofun ?_
        obtain ⟨e13, h13, h⟩ := of_bind h
        refine cut_j ([(13, AVal.int IntKind.i64 e13), (12, AVal.int IntKind.i64 x10), (7, AVal.int IntKind.i64 0), (6, AVal.ptr (1, 0) 7 0 0), (3, AVal.ptr (0, 0) 7 0 0), (1, AVal.str a1), (2, AVal.int IntKind.i64 a2)]) ({ nx := 10002, rows := [(1, Ent.one { sz := 7, d := agg [AVal.int IntKind.i64 0, AVal.int IntKind.i64 0, AVal.int IntKind.i64 0, AVal.int IntKind.i64 0, AVal.nilsl, AVal.nilsl, AVal.nilsl], l := [agg [AVal.int IntKind.i64 0, AVal.int IntKind.i64 0, AVal.int IntKind.i64 0, AVal.int IntKind.i64 0, AVal.nilsl, AVal.nilsl, AVal.nilsl]] : Row }), (0, Ent.one { sz := 7, d := encTPanel a0, l := [encTPanel a0] : Row })] : Heap }) ?_ ?_
        ·
          try simp only [go_sem]
          refine ways_d (fun c14 => ?_) (fun c14 => ?_)
          ·
            replace h13 := if_p c14 h13
            obtain rfl := Option.some.inj h13
            refine wk_of [(1, some 1), (0, some 0)] rfl ?_ ?_
            ·
              try simp only [go_sem]
              exact ⟨.same _ trivial, ⟨.same _ trivial, ⟨.same _ trivial, ⟨.ptr _ _ _ _ _ (rn_some rfl), ⟨.ptr _ _ _ _ _ (rn_some rfl), ⟨.same _ trivial, .same _ trivial⟩⟩⟩⟩⟩⟩
            ·
              try simp only [go_sem]
              exact ⟨wkR_box (rn_some rfl) rfl (wkv_same (by simp only [go_sem]) rfl), wkR_box (rn_some rfl) rfl (wkE _)⟩
          ·
            replace h13 := if_n c14 h13
            obtain rfl := Option.some.inj h13
            refine wk_of [(1, some 1), (0, some 0)] rfl ?_ ?_
            ·
              try simp only [go_sem]
              exact ⟨.same _ trivial, ⟨.same _ trivial, ⟨.same _ trivial, ⟨.ptr _ _ _ _ _ (rn_some rfl), ⟨.ptr _ _ _ _ _ (rn_some rfl), ⟨.same _ trivial, .same _ trivial⟩⟩⟩⟩⟩⟩
            ·
              try simp only [go_sem]
              exact ⟨wkR_box (rn_some rfl) rfl (wkv_same (by simp only [go_sem]) rfl), wkR_box (rn_some rfl) rfl (wkE _)⟩
        try simp only [go_sem]
        obtain ⟨x15, hx15, h⟩ := of_bind h
        refine call_p false (c_panel_rows hx15) ⟨wkE _, .same _ trivial, .same _ trivial, .same _ trivial, .same _ trivial, .same _ trivial, .same _ trivial, trivial⟩ nofun ?_
        try simp only [go_sem]
        obtain rfl := Option.some.inj h
        exact wkv_same (by simp only [go_sem]) rfl
theorem c_panel_Rows {a0 : TPanel} {a1 : ByteArray} {r : TPanel × Int} (h : p_panel_Rows a0 a1 = some r)  : PCalls Try.prog 29 [encTPanel a0, .str a1] (tup [encTPanel r.1, .int .i64 r.2]) := by
  unfold p_panel_Rows at h
  refine pcalls_of (ordOf [(8, [0, 2, 6, 8, 1, 3, 4, 5, 12, 7, 9, 10, 11, 13]), (9, [0, 1, 2, 5, 6, 7, 3, 4, 8, 9, 10, 11])]) (fun _ => []) Try.func29 (by unfold Try.f29; rfl) (by kernel_rfl) (by kernel_rfl) ?_
  simp only [awp_seq]
  simp only [argSlots]
  dsimp only [Try.f29]
  try simp only [go_sem]
  obtain ⟨x0, hx0, h⟩ := of_bind h
  refine call_p false (c_panel_CheckPanel hx0) ⟨wkE _, trivial⟩ nofun ?_
  try simp only [go_sem]
  refine cut_l ?_
  try simp only [go_sem]
  refine ways_n (fun c1 => ?_) (fun c1 => ?_)
  ·
    replace h := if_n c1 h
    obtain rfl := Option.some.inj h
    exact wkv_tup ⟨wkv_aggA rfl ⟨.same _ trivial, .same _ trivial, .same _ trivial, .same _ trivial, wkv_nilL, wkv_nilL, wkv_nilL, trivial⟩, .same _ trivial, trivial⟩
  ·
    replace h := if_p c1 h
    obtain ⟨x2, hx2, h⟩ := of_bind h
    refine call_p false (c_panel_kindAt hx2) ⟨wkE _, .same _ trivial, trivial⟩ nofun ?_
    try simp only [go_sem]
    refine cut_l ?_
    try simp only [go_sem]
    refine ways_d (fun c3 => ?_) (fun c3 => ?_)
    ·
      replace h := if_p c3 h
      obtain rfl := Option.some.inj h
      exact wkv_tup ⟨wkv_aggA rfl ⟨.same _ trivial, .same _ trivial, .same _ trivial, .same _ trivial, wkv_nilL, wkv_nilL, wkv_nilL, trivial⟩, .same _ trivial, trivial⟩
    ·
      replace h := if_n c3 h
      obtain ⟨g4, h⟩ := of_guard h
      refine ob ⟨by omega, by assumption⟩ ?_
      obtain ⟨x5, hx5, h⟩ := of_bind h
      refine call_p false (c_panel_sizeOf hx5) ⟨wkE _, .same _ trivial, trivial⟩ nofun ?_
      try simp only [go_sem]
      obtain ⟨⟨g6_0, g6_1⟩, h⟩ := of_guard h
      simp only [W64 g6_0 g6_1]
      obtain ⟨⟨g7_0, g7_1⟩, h⟩ := of_guard h
      simp only [W64 g7_0 g7_1]
      obtain ⟨x8, hx8, h⟩ := of_bind h
      refine qcall_p false (fun _ => c_panel_many hx8) (fun _ => ⟨.same _ trivial, .same _ trivial, .same _ trivial, trivial⟩) nofun ?_
      try simp only [go_sem]
      obtain ⟨x9, hx9, h⟩ := of_bind h
      refine qcall_p false (fun _ => c_panel_many hx9) (fun _ => ⟨.same _ trivial, .same _ trivial, .same _ trivial, trivial⟩) nofun ?_
      obtain ⟨⟨g10_0, g10_1⟩, h⟩ := of_guard h
      simp only [W64 g10_0 g10_1]
      obtain ⟨x11, hx11, h⟩ := of_bind h
      refine call_p false (c_panel_many hx11) ⟨.same _ trivial, .same _ trivial, .same _ trivial, trivial⟩ nofun ?_
      obtain ⟨e12, h12, h⟩ := of_bind h
      refine cut_j ([(14, AVal.int IntKind.i64 e12), (13, AVal.int IntKind.i64 x9), (12, AVal.int IntKind.i64 x8), (11, AVal.int IntKind.i64 (TPanel.H a0 - 2 * TPanel.Rail a0)), (9, AVal.int IntKind.i64 (Prod.snd x5)), (8, AVal.int IntKind.i64 (Prod.fst x5)), (5, AVal.int IntKind.i64 0), (4, AVal.ptr (1, 0) 7 0 0), (2, AVal.ptr (0, 0) 7 0 0), (1, AVal.str a1)]) ({ nx := 20002, rows := [(1, Ent.one { sz := 7, d := agg [AVal.int IntKind.i64 0, AVal.int IntKind.i64 0, AVal.int IntKind.i64 0, AVal.int IntKind.i64 0, AVal.nilsl, AVal.nilsl, AVal.nilsl], l := [agg [AVal.int IntKind.i64 0, AVal.int IntKind.i64 0, AVal.int IntKind.i64 0, AVal.int IntKind.i64 0, AVal.nilsl, AVal.nilsl, AVal.nilsl]] : Row }), (0, Ent.one { sz := 7, d := encTPanel a0, l := [encTPanel a0] : Row })] : Heap }) ?_ ?_
      ·
        try simp only [go_sem]
        refine ways_d (fun c13 => ?_) (fun c13 => ?_)
        ·
          replace h12 := if_p c13 h12
          obtain rfl := Option.some.inj h12
          refine wk_of [(1, some 1), (0, some 0)] rfl ?_ ?_
          ·
            try simp only [go_sem]
            exact ⟨.same _ trivial, ⟨.same _ trivial, ⟨.same _ trivial, ⟨.same _ trivial, ⟨.same _ trivial, ⟨.same _ trivial, ⟨.same _ trivial, ⟨.ptr _ _ _ _ _ (rn_some rfl), ⟨.ptr _ _ _ _ _ (rn_some rfl), .same _ trivial⟩⟩⟩⟩⟩⟩⟩⟩⟩
          ·
            try simp only [go_sem]
            exact ⟨wkR_box (rn_some rfl) rfl (wkv_same (by simp only [go_sem]) rfl), wkR_box (rn_some rfl) rfl (wkE _)⟩
        ·
          replace h12 := if_n c13 h12
          obtain rfl := Option.some.inj h12
          refine wk_of [(1, some 1), (0, some 0)] rfl ?_ ?_
          ·
            try simp only [go_sem]
            exact ⟨.same _ trivial, ⟨.same _ trivial, ⟨.same _ trivial, ⟨.same _ trivial, ⟨.same _ trivial, ⟨.same _ trivial, ⟨.same _ trivial, ⟨.ptr _ _ _ _ _ (rn_some rfl), ⟨.ptr _ _ _ _ _ (rn_some rfl), .same _ trivial⟩⟩⟩⟩⟩⟩⟩⟩⟩
          ·
            try simp only [go_sem]
            exact ⟨wkR_box (rn_some rfl) rfl (wkv_same (by simp only [go_sem]) rfl), wkR_box (rn_some rfl) rfl (wkE _)⟩
      try simp only [go_sem]
      obtain ⟨e14, h14, h⟩ := of_bind h
      refine cut_j ([(16, AVal.int IntKind.i64 (Prod.fst e14)), (15, AVal.int IntKind.i64 (Prod.snd e14)), (13, AVal.int IntKind.i64 x9), (12, AVal.int IntKind.i64 x8), (5, AVal.int IntKind.i64 0), (4, AVal.ptr (1, 0) 7 0 0), (2, AVal.ptr (0, 0) 7 0 0), (1, AVal.str a1)]) ({ nx := 20002, rows := [(1, Ent.one { sz := 7, d := agg [AVal.int IntKind.i64 0, AVal.int IntKind.i64 0, AVal.int IntKind.i64 0, AVal.int IntKind.i64 0, AVal.nilsl, AVal.nilsl, AVal.nilsl], l := [agg [AVal.int IntKind.i64 0, AVal.int IntKind.i64 0, AVal.int IntKind.i64 0, AVal.int IntKind.i64 0, AVal.nilsl, AVal.nilsl, AVal.nilsl]] : Row }), (0, Ent.one { sz := 7, d := encTPanel a0, l := [encTPanel a0] : Row })] : Heap }) ?_ ?_
      ·
        try simp only [go_sem]
        refine loop_w h14 (fun (s : Int × Int × Int) => [(17, AVal.int IntKind.i64 (Prod.fst s)), (16, AVal.int IntKind.i64 (Prod.fst (Prod.snd s))), (15, AVal.int IntKind.i64 (Prod.snd (Prod.snd s))), (14, AVal.int IntKind.i64 e12), (13, AVal.int IntKind.i64 x9), (12, AVal.int IntKind.i64 x8), (11, AVal.int IntKind.i64 (TPanel.H a0 - 2 * TPanel.Rail a0)), (9, AVal.int IntKind.i64 (Prod.snd x5)), (8, AVal.int IntKind.i64 (Prod.fst x5)), (5, AVal.int IntKind.i64 0), (4, AVal.ptr (1, 0) 7 0 0), (2, AVal.ptr (0, 0) 7 0 0), (1, AVal.str a1)]) (fun (s : Int × Int × Int) => { nx := 20002, rows := [(1, Ent.one { sz := 7, d := agg [AVal.int IntKind.i64 0, AVal.int IntKind.i64 0, AVal.int IntKind.i64 0, AVal.int IntKind.i64 0, AVal.nilsl, AVal.nilsl, AVal.nilsl], l := [agg [AVal.int IntKind.i64 0, AVal.int IntKind.i64 0, AVal.int IntKind.i64 0, AVal.int IntKind.i64 0, AVal.nilsl, AVal.nilsl, AVal.nilsl]] : Row }), (0, Ent.one { sz := 7, d := encTPanel a0, l := [encTPanel a0] : Row })] : Heap }) ?_ ?_
        ·
          refine wk_of [(1, some 1), (0, some 0)] rfl ?_ ?_
          ·
            try simp only [go_sem]
            exact ⟨.same _ trivial, ⟨.same _ trivial, ⟨.same _ trivial, ⟨.same _ trivial, ⟨.same _ trivial, ⟨.same _ trivial, ⟨.same _ trivial, ⟨.same _ trivial, ⟨.same _ trivial, ⟨.same _ trivial, ⟨.ptr _ _ _ _ _ (rn_some rfl), ⟨.ptr _ _ _ _ _ (rn_some rfl), .same _ trivial⟩⟩⟩⟩⟩⟩⟩⟩⟩⟩⟩⟩
          ·
            try simp only [go_sem]
            exact ⟨wkR_box (rn_some rfl) rfl (wkv_same (by simp only [go_sem]) rfl), wkR_box (rn_some rfl) rfl (wkE _)⟩
        intro n15 s15 o15 h15 he15 hi15
        try simp only [go_sem]
        refine cut_l ?_
        try simp only [go_sem]
        refine ways_d (fun c16 => ?_) (fun c16 => ?_)
        ·
          replace h15 := if_p c16 h15
          obtain ⟨e17, h17, h15⟩ := of_bind h15
          refine cut_j ([(17, AVal.int IntKind.i64 (Prod.fst s15)), (16, AVal.int IntKind.i64 (Prod.fst e17)), (15, AVal.int IntKind.i64 (Prod.snd e17)), (14, AVal.int IntKind.i64 e12), (13, AVal.int IntKind.i64 x9), (12, AVal.int IntKind.i64 x8), (11, AVal.int IntKind.i64 (TPanel.H a0 - 2 * TPanel.Rail a0)), (9, AVal.int IntKind.i64 (Prod.snd x5)), (8, AVal.int IntKind.i64 (Prod.fst x5)), (5, AVal.int IntKind.i64 0), (4, AVal.ptr (1, 0) 7 0 0), (2, AVal.ptr (0, 0) 7 0 0), (1, AVal.str a1)]) ({ nx := 20002, rows := [(1, Ent.one { sz := 7, d := agg [AVal.int IntKind.i64 0, AVal.int IntKind.i64 0, AVal.int IntKind.i64 0, AVal.int IntKind.i64 0, AVal.nilsl, AVal.nilsl, AVal.nilsl], l := [agg [AVal.int IntKind.i64 0, AVal.int IntKind.i64 0, AVal.int IntKind.i64 0, AVal.int IntKind.i64 0, AVal.nilsl, AVal.nilsl, AVal.nilsl]] : Row }), (0, Ent.one { sz := 7, d := encTPanel a0, l := [encTPanel a0] : Row })] : Heap }) ?_ ?_
          ·
            try simp only [go_sem]
            obtain ⟨e18, h18, h17⟩ := of_bind h17
            refine cut_j ([(18, AVal.int IntKind.i64 e18), (17, AVal.int IntKind.i64 (Prod.fst s15)), (16, AVal.int IntKind.i64 (Prod.fst (Prod.snd s15))), (15, AVal.int IntKind.i64 (Prod.snd (Prod.snd s15))), (14, AVal.int IntKind.i64 e12), (13, AVal.int IntKind.i64 x9), (12, AVal.int IntKind.i64 x8), (11, AVal.int IntKind.i64 (TPanel.H a0 - 2 * TPanel.Rail a0)), (9, AVal.int IntKind.i64 (Prod.snd x5)), (8, AVal.int IntKind.i64 (Prod.fst x5)), (5, AVal.int IntKind.i64 0), (4, AVal.ptr (1, 0) 7 0 0), (2, AVal.ptr (0, 0) 7 0 0), (1, AVal.str a1)]) ({ nx := 20002, rows := [(1, Ent.one { sz := 7, d := agg [AVal.int IntKind.i64 0, AVal.int IntKind.i64 0, AVal.int IntKind.i64 0, AVal.int IntKind.i64 0, AVal.nilsl, AVal.nilsl, AVal.nilsl], l := [agg [AVal.int IntKind.i64 0, AVal.int IntKind.i64 0, AVal.int IntKind.i64 0, AVal.int IntKind.i64 0, AVal.nilsl, AVal.nilsl, AVal.nilsl]] : Row }), (0, Ent.one { sz := 7, d := encTPanel a0, l := [encTPanel a0] : Row })] : Heap }) ?_ ?_
            ·
              try simp only [go_sem]
              refine ways_d (fun c19 => ?_) (fun c19 => ?_)
              ·
                replace h18 := if_p c19 h18
                obtain ⟨⟨g20_0, g20_1⟩, h18⟩ := of_guard h18
                simp only [W64 g20_0 g20_1]
                obtain ⟨⟨g21_0, g21_1⟩, h18⟩ := of_guard h18
                simp only [W64 g21_0 g21_1]
                obtain ⟨⟨g22_0, g22_1⟩, h18⟩ := of_guard h18
                simp only [W64 g22_0 g22_1]
                obtain ⟨x23, hx23, h18⟩ := of_bind h18
                refine call_p false (c_panel_many hx23) ⟨.same _ trivial, .same _ trivial, .same _ trivial, trivial⟩ nofun ?_
                obtain rfl := Option.some.inj h18
                refine wk_of [(1, some 1), (0, some 0)] rfl ?_ ?_
                ·
                  try simp only [go_sem]
                  exact ⟨.same _ trivial, ⟨.same _ trivial, ⟨.same _ trivial, ⟨.same _ trivial, ⟨.same _ trivial, ⟨.same _ trivial, ⟨.same _ trivial, ⟨.same _ trivial, ⟨.same _ trivial, ⟨.same _ trivial, ⟨.same _ trivial, ⟨.ptr _ _ _ _ _ (rn_some rfl), ⟨.ptr _ _ _ _ _ (rn_some rfl), .same _ trivial⟩⟩⟩⟩⟩⟩⟩⟩⟩⟩⟩⟩⟩
                ·
                  try simp only [go_sem]
                  exact ⟨wkR_box (rn_some rfl) rfl (wkv_same (by simp only [go_sem]) rfl), wkR_box (rn_some rfl) rfl (wkE _)⟩
              ·
                replace h18 := if_n c19 h18
                obtain rfl := Option.some.inj h18
                refine wk_of [(1, some 1), (0, some 0)] rfl ?_ ?_
                ·
                  try simp only [go_sem]
                  exact ⟨.same _ trivial, ⟨.same _ trivial, ⟨.same _ trivial, ⟨.same _ trivial, ⟨.same _ trivial, ⟨.same _ trivial, ⟨.same _ trivial, ⟨.same _ trivial, ⟨.same _ trivial, ⟨.same _ trivial, ⟨.same _ trivial, ⟨.ptr _ _ _ _ _ (rn_some rfl), ⟨.ptr _ _ _ _ _ (rn_some rfl), .same _ trivial⟩⟩⟩⟩⟩⟩⟩⟩⟩⟩⟩⟩⟩
                ·
                  try simp only [go_sem]
                  exact ⟨wkR_box (rn_some rfl) rfl (wkv_same (by simp only [go_sem]) rfl), wkR_box (rn_some rfl) rfl (wkE _)⟩
            try simp only [go_sem]
            obtain ⟨⟨g24_0, g24_1⟩, h17⟩ := of_guard h17
            simp only [W64 g24_0 g24_1]
            obtain ⟨⟨g25_0, g25_1⟩, h17⟩ := of_guard h17
            simp only [W64 g25_0 g25_1]
            obtain ⟨⟨g26_0, g26_1⟩, h17⟩ := of_guard h17
            simp only [W64 g26_0 g26_1]
            obtain ⟨⟨g27_0, g27_1⟩, h17⟩ := of_guard h17
            simp only [W64 g27_0 g27_1]
            obtain ⟨⟨g28_0, g28_1⟩, h17⟩ := of_guard h17
            simp only [W64 g28_0 g28_1]
            obtain ⟨⟨g29_0, g29_1⟩, h17⟩ := of_guard h17
            simp only [W64 g29_0 g29_1]
            refine cut_l ?_
            try simp only [go_sem]
            refine ways_d (fun c30 => ?_) (fun c30 => ?_)
            ·
              replace h17 := if_p c30 h17
              obtain rfl := Option.some.inj h17
              refine wk_of [(1, some 1), (0, some 0)] rfl ?_ ?_
              ·
                try simp only [go_sem]
                exact ⟨.same _ trivial, ⟨.same _ trivial, ⟨.same _ trivial, ⟨.same _ trivial, ⟨.same _ trivial, ⟨.same _ trivial, ⟨.same _ trivial, ⟨.same _ trivial, ⟨.same _ trivial, ⟨.same _ trivial, ⟨.ptr _ _ _ _ _ (rn_some rfl), ⟨.ptr _ _ _ _ _ (rn_some rfl), .same _ trivial⟩⟩⟩⟩⟩⟩⟩⟩⟩⟩⟩⟩
              ·
                try simp only [go_sem]
                exact ⟨wkR_box (rn_some rfl) rfl (wkv_same (by simp only [go_sem]) rfl), wkR_box (rn_some rfl) rfl (wkE _)⟩
            ·
              replace h17 := if_n c30 h17
              obtain rfl := Option.some.inj h17
              refine wk_of [(1, some 1), (0, some 0)] rfl ?_ ?_
              ·
                try simp only [go_sem]
                exact ⟨.same _ trivial, ⟨.same _ trivial, ⟨.same _ trivial, ⟨.same _ trivial, ⟨.same _ trivial, ⟨.same _ trivial, ⟨.same _ trivial, ⟨.same _ trivial, ⟨.same _ trivial, ⟨.same _ trivial, ⟨.ptr _ _ _ _ _ (rn_some rfl), ⟨.ptr _ _ _ _ _ (rn_some rfl), .same _ trivial⟩⟩⟩⟩⟩⟩⟩⟩⟩⟩⟩⟩
              ·
                try simp only [go_sem]
                exact ⟨wkR_box (rn_some rfl) rfl (wkv_same (by simp only [go_sem]) rfl), wkR_box (rn_some rfl) rfl (wkE _)⟩
          try simp only [go_sem]
          obtain ⟨⟨g31_0, g31_1⟩, h15⟩ := of_guard h15
          simp only [W64 g31_0 g31_1]
          obtain rfl := Option.some.inj h15
          refine nextL (hi15 _ rfl) ?_
          refine wk_of [(1, some 1), (0, some 0)] rfl ?_ ?_
          ·
            try simp only [go_sem]
            exact ⟨.same _ trivial, ⟨.same _ trivial, ⟨.same _ trivial, ⟨.same _ trivial, ⟨.same _ trivial, ⟨.same _ trivial, ⟨.same _ trivial, ⟨.same _ trivial, ⟨.same _ trivial, ⟨.same _ trivial, ⟨.ptr _ _ _ _ _ (rn_some rfl), ⟨.ptr _ _ _ _ _ (rn_some rfl), .same _ trivial⟩⟩⟩⟩⟩⟩⟩⟩⟩⟩⟩⟩
          ·
            try simp only [go_sem]
            exact ⟨wkR_box (rn_some rfl) rfl (wkv_same (by simp only [go_sem]) rfl), wkR_box (rn_some rfl) rfl (wkE _)⟩
        ·
          replace h15 := if_n c16 h15
          obtain rfl := Option.some.inj h15
          obtain rfl := he15 _ rfl
          refine wk_of [(1, some 1), (0, some 0)] rfl ?_ ?_
          ·
            try simp only [go_sem]
            exact ⟨.same _ trivial, ⟨.same _ trivial, ⟨.same _ trivial, ⟨.same _ trivial, ⟨.same _ trivial, ⟨.ptr _ _ _ _ _ (rn_some rfl), ⟨.ptr _ _ _ _ _ (rn_some rfl), .same _ trivial⟩⟩⟩⟩⟩⟩⟩
          ·
            try simp only [go_sem]
            exact ⟨wkR_box (rn_some rfl) rfl (wkv_same (by simp only [go_sem]) rfl), wkR_box (rn_some rfl) rfl (wkE _)⟩
      try simp only [go_sem]
      obtain ⟨x32, hx32, h⟩ := of_bind h
      refine call_p false (c_panel_rows hx32) ⟨wkE _, .same _ trivial, .same _ trivial, .same _ trivial, .same _ trivial, .same _ trivial, .same _ trivial, trivial⟩ nofun ?_
      try simp only [go_sem]
      obtain rfl := Option.some.inj h
      exact wkv_same (by simp only [go_sem]) rfl
theorem c_law9_PanelRowsAreMost {a0 : TPanel} {a1 : ByteArray} {a2 : Int} {r : Bool} (h : p_law9_PanelRowsAreMost a0 a1 a2 = some r)  : PCalls Try.prog 9 [encTPanel a0, .str a1, .int .i64 a2] (.bool r) := by
  unfold p_law9_PanelRowsAreMost at h
  refine pcalls_of (fun _ => none) (fun _ => []) Try.func9 (by unfold Try.f9; rfl) (by kernel_rfl) (by kernel_rfl) ?_
  simp only [awp_seq]
  simp only [argSlots]
  dsimp only [Try.f9]
  try simp only [go_sem]
  obtain ⟨x0, hx0, h⟩ := of_bind h
  refine call_p false (c_panel_Rows hx0) ⟨wkE _, .same _ trivial, trivial⟩ nofun ?_
  try simp only [go_sem]
  refine cut_l ?_
  try simp only [go_sem]
  refine ways_n (fun c1 => ?_) (fun c1 => ?_)
  ·
    replace h := if_n c1 h
    obtain ⟨x2, hx2, h⟩ := of_bind h
    refine qcall_p false (fun hg => c_law9_awake (if_t hg hx2)) (fun _ => trivial) nofun ?_
    try simp only [go_sem]
    obtain rfl := Option.some.inj h
    exact .same _ trivial
  ·
    replace h := if_p c1 h
    obtain ⟨x3, hx3, h⟩ := of_bind h
    refine call_p false (c_panel_Grid hx3) ⟨wkE _, .same _ trivial, .same _ trivial, trivial⟩ nofun ?_
    try simp only [go_sem]
    obtain ⟨x4, hx4, h⟩ := of_bind h
    refine call_p false (c_panel_CheckPanel hx4) ⟨wkE _, trivial⟩ nofun ?_
    try simp only [go_sem]
    refine ob (by intro h1 h2; simp only [h1, h2, Bool.and_self, Bool.not_true, Bool.not_false, Bool.and_true, Bool.true_and]) ?_
    obtain ⟨x5, hx5, h⟩ := of_bind h
    refine qcall_p false (fun hg => c_law9_awake (if_t hg hx5)) (fun _ => trivial) nofun ?_
    try simp only [go_sem]
    obtain rfl := Option.some.inj h
    exact .same _ trivial
end Go.Nw
