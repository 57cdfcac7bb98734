/- The walks of the functions. -/
import Derived.Test.YtngdglmimlfefaaNwGlue
import Derived.Test.YtngdglmimlfefaaNwDA
set_option linter.unusedVariables false
set_option linter.unusedSimpArgs false
set_option maxRecDepth 100000
namespace Go.Nw
open Go.Proofs
theorem c_panel_Lowest {a0 : Int} {a1 : Int} {r : TShare} (h : p_panel_Lowest a0 a1 = some r)  : PCalls Try.prog 96 [.int .i64 a0, .int .i64 a1] (encTShare r) := by
  unfold p_panel_Lowest at h
  refine pcalls_of (fun _ => none) (fun _ => []) Try.func96 (by unfold Try.f96; rfl) (by kernel_rfl) (by kernel_rfl) ?_
  simp only [awp_seq]
  simp only [argSlots]
  dsimp only [Try.f96]
  try simp only [go_sem]
  obtain ⟨e0, h0, h⟩ := of_bind h
  refine cut_j ([(5, AVal.int IntKind.i64 e0), (4, AVal.ptr (0, 0) 2 0 0), (0, AVal.int IntKind.i64 a0), (1, AVal.int IntKind.i64 a1)]) ({ nx := 1, rows := [(0, Ent.one { sz := 2, d := encTShare { : TShare }, l := [encTShare { : TShare }] : Row })] : Heap }) ?_ ?_
  ·
    try simp only [go_sem]
    refine loop_w h0 (fun (s : Int × Int) => [(6, AVal.int IntKind.i64 (Prod.fst s)), (5, AVal.int IntKind.i64 (Prod.snd s)), (4, AVal.ptr (0, 0) 2 0 0), (0, AVal.int IntKind.i64 a0), (1, AVal.int IntKind.i64 a1)]) (fun (s : Int × Int) => { nx := 1, rows := [(0, Ent.one { sz := 2, d := encTShare { : TShare }, l := [encTShare { : TShare }] : Row })] : Heap }) ?_ ?_
    ·
      refine wk_of [(0, some 0)] rfl ?_ ?_
      ·
        try simp only [go_sem]
        exact ⟨.same _ trivial, ⟨.same _ trivial, ⟨.ptr _ _ _ _ _ (rn_some rfl), ⟨.same _ trivial, .same _ trivial⟩⟩⟩⟩
      ·
        try simp only [go_sem]
        exact wkR_box (rn_some rfl) rfl (wkE _)
    intro n1 s1 o1 h1 he1 hi1
    try simp only [go_sem]
    refine cut_l ?_
    try simp only [go_sem]
    refine ways_n (fun c2 => ?_) (fun c2 => ?_)
    ·
      replace h1 := if_n c2 h1
      refine cut_l ?_
      try simp only [go_sem]
      refine ob (by assumption) ?_
      obtain rfl := Option.some.inj h1
      refine nextL (hi1 _ rfl) ?_
      refine wk_of [(0, some 0)] rfl ?_ ?_
      ·
        try simp only [go_sem]
        exact ⟨.same _ trivial, ⟨.same _ trivial, ⟨.ptr _ _ _ _ _ (rn_some rfl), ⟨.same _ trivial, .same _ trivial⟩⟩⟩⟩
      ·
        try simp only [go_sem]
        exact wkR_box (rn_some rfl) rfl (wkE _)
    ·
      replace h1 := if_p c2 h1
      obtain rfl := Option.some.inj h1
      obtain rfl := he1 _ rfl
      refine wk_of [(0, some 0)] rfl ?_ ?_
      ·
        try simp only [go_sem]
        exact ⟨.same _ trivial, ⟨.ptr _ _ _ _ _ (rn_some rfl), ⟨.same _ trivial, .same _ trivial⟩⟩⟩
      ·
        try simp only [go_sem]
        exact wkR_box (rn_some rfl) rfl (wkE _)
  try simp only [go_sem]
  obtain ⟨g3, h⟩ := of_guard h
  refine ob (by assumption) ?_
  obtain ⟨⟨g4_0, g4_1⟩, h⟩ := of_guard h
  simp only [W64 g4_0 g4_1]
  obtain ⟨⟨g5_0, g5_1⟩, h⟩ := of_guard h
  simp only [W64 g5_0 g5_1]
  obtain rfl := Option.some.inj h
  exact wkE _
theorem c_panel_Tabs_1 {a0 : Int} {a1 : TRect} {a2 : Int} {r : Int × Int} (h : p_panel_Tabs_1 a0 a1 a2 = some r)  : PCalls Try.prog 50 [.int .i64 a0, .iptr (encTRect a1) 0, .iptr (.int .i64 a2) 0] (tup [.int .i64 r.1, .int .i64 r.2]) := by
  unfold p_panel_Tabs_1 at h
  refine pcalls_of (ordOf [(4, [0, 1, 8, 2, 3, 4, 5, 6, 7, 9])]) (fun _ => []) Try.func50 (by unfold Try.f50; rfl) (by kernel_rfl) (by kernel_rfl) ?_
  simp only [awp_seq]
  simp only [argSlots]
  dsimp only [Try.f50]
  try simp only [go_sem]
  refine ob (by omega) ?_
  obtain ⟨⟨g0_0, g0_1⟩, h⟩ := of_guard h
  simp only [W64 g0_0 g0_1]
  obtain ⟨e1, h1, h⟩ := of_bind h
  refine cut_j ([(4, AVal.int IntKind.i64 e1), (5, AVal.int IntKind.i64 0), (2, AVal.iptr (AVal.int IntKind.i64 a2) 0)]) ({ nx := 0, rows := [] : Heap }) ?_ ?_
  ·
    try simp only [go_sem]
    refine ways_d (fun c2 => ?_) (fun c2 => ?_)
    ·
      replace h1 := if_p c2 h1
      obtain ⟨⟨g3_0, g3_1⟩, h1⟩ := of_guard h1
      simp only [W64 g3_0 g3_1]
      obtain rfl := Option.some.inj h1
      refine wk_of [] rfl ?_ ?_
      ·
        try simp only [go_sem]
        exact ⟨.same _ trivial, ⟨.same _ trivial, .same _ trivial⟩⟩
      ·
        try simp only [go_sem]
    ·
      replace h1 := if_n c2 h1
      obtain rfl := Option.some.inj h1
      refine wk_of [] rfl ?_ ?_
      ·
        try simp only [go_sem]
        exact ⟨.same _ trivial, ⟨.same _ trivial, .same _ trivial⟩⟩
      ·
        try simp only [go_sem]
  try simp only [go_sem]
  obtain ⟨g4, h⟩ := of_guard h
  refine ob (by assumption) ?_
  obtain ⟨⟨g5_0, g5_1⟩, h⟩ := of_guard h
  simp only [W64 g5_0 g5_1]
  obtain ⟨⟨g6_0, g6_1⟩, h⟩ := of_guard h
  simp only [W64 g6_0 g6_1]
  obtain ⟨⟨g7_0, g7_1⟩, h⟩ := of_guard h
  simp only [W64 g7_0 g7_1]
  obtain rfl := Option.some.inj h
  exact wkv_same (by simp only [go_sem]) rfl
theorem c_panel_isApart {a0 : TRect} {a1 : TRect} {a2 : Int} {r : Bool} (h : p_panel_isApart a0 a1 a2 = some r)  : PCalls Try.prog 80 [encTRect a0, encTRect a1, .int .i64 a2] (.bool r) := by
  unfold p_panel_isApart at h
  refine pcalls_of (fun _ => none) (fun _ => []) Try.func80 (by unfold Try.f80; rfl) (by kernel_rfl) (by kernel_rfl) ?_
  simp only [awp_seq]
  simp only [argSlots]
  dsimp only [Try.f80]
  try simp only [go_sem]
  obtain ⟨⟨g0_0, g0_1⟩, h⟩ := of_guard h
  simp only [W64 g0_0 g0_1]
  obtain ⟨⟨g1_0, g1_1⟩, h⟩ := of_guard h
  simp only [W64 g1_0 g1_1]
  obtain ⟨⟨g2_0, g2_1⟩, h⟩ := of_guard h
  simp only [W64 g2_0 g2_1]
  refine ob ⟨⟨by simp, by simp⟩, by simp⟩ ?_
  obtain ⟨⟨g3_0, g3_1⟩, h⟩ := of_guard h
  simp only [W64 g3_0 g3_1]
  obtain rfl := Option.some.inj h
  exact .same _ trivial
theorem c_panel_isInside {a0 : TRect} {a1 : TPoint} {r : Bool} (h : p_panel_isInside a0 a1 = some r)  : PCalls Try.prog 83 [encTRect a0, encTPoint a1] (.bool r) := by
  unfold p_panel_isInside at h
  refine pcalls_of (fun _ => none) (fun _ => []) Try.func83 (by unfold Try.f83; rfl) (by kernel_rfl) (by kernel_rfl) ?_
  simp only [awp_seq]
  simp only [argSlots]
  dsimp only [Try.f83]
  try simp only [go_sem]
  obtain rfl := Option.some.inj h
  exact .same _ trivial
theorem c_panel_isOn {a0 : TPanel} {a1 : TRect} {r : Bool} (h : p_panel_isOn a0 a1 = some r)  : PCalls Try.prog 77 [encTPanel a0, encTRect a1] (.bool r) := by
  unfold p_panel_isOn at h
  refine pcalls_of (fun _ => none) (fun _ => []) Try.func77 (by unfold Try.f77; rfl) (by kernel_rfl) (by kernel_rfl) ?_
  simp only [awp_seq]
  simp only [argSlots]
  dsimp only [Try.f77]
  try simp only [go_sem]
  obtain ⟨⟨g0_0, g0_1⟩, h⟩ := of_guard h
  simp only [W64 g0_0 g0_1]
  obtain ⟨⟨g1_0, g1_1⟩, h⟩ := of_guard h
  simp only [W64 g1_0 g1_1]
  obtain rfl := Option.some.inj h
  exact .same _ trivial
theorem c_panel_kindAt_1 {a0 : TBoardKind} {a1 : ByteArray} {r : Bool} (h : p_panel_kindAt_1 a0 a1 = some r)  : PCalls Try.prog 95 [encTBoardKind a0, .iptr (.str a1) 0] (.bool r) := by
  unfold p_panel_kindAt_1 at h
  refine pcalls_of (fun _ => none) (fun _ => []) Try.func95 (by unfold Try.f95; rfl) (by kernel_rfl) (by kernel_rfl) ?_
  simp only [awp_seq]
  simp only [argSlots]
  dsimp only [Try.f95]
  try simp only [go_sem]
  obtain rfl := Option.some.inj h
  exact .same _ trivial
theorem c_panel_sizeOf {a0 : TBoardKind} {a1 : Int} {r : Int × Int} (h : p_panel_sizeOf a0 a1 = some r)  : PCalls Try.prog 62 [encTBoardKind a0, .int .i64 a1] (tup [.int .i64 r.1, .int .i64 r.2]) := by
  unfold p_panel_sizeOf at h
  refine pcalls_of (ordOf [(2, [0, 2, 1, 4, 3, 5]), (3, [0, 2, 1, 4, 3, 5])]) (fun _ => []) Try.func62 (by unfold Try.f62; rfl) (by kernel_rfl) (by kernel_rfl) ?_
  simp only [awp_seq]
  simp only [argSlots]
  dsimp only [Try.f62]
  try simp only [go_sem]
  refine ob (by omega) ?_
  refine cut_l ?_
  try simp only [go_sem]
  refine ways_d (fun c0 => ?_) (fun c0 => ?_)
  ·
    replace h := if_p c0 h
    obtain rfl := Option.some.inj h
    exact wkv_same (by simp only [go_sem]) rfl
  ·
    replace h := if_n c0 h
    obtain rfl := Option.some.inj h
    exact wkv_same (by simp only [go_sem]) rfl
theorem c_panel_within {a0 : Int} {a1 : Int} {a2 : Int} {r : Bool} (h : p_panel_within a0 a1 a2 = some r)  : PCalls Try.prog 47 [.int .i64 a0, .int .i64 a1, .int .i64 a2] (.bool r) := by
  unfold p_panel_within at h
  refine pcalls_of (fun _ => none) (fun _ => []) Try.func47 (by unfold Try.f47; rfl) (by kernel_rfl) (by kernel_rfl) ?_
  simp only [awp_seq]
  simp only [argSlots]
  dsimp only [Try.f47]
  try simp only [go_sem]
  obtain rfl := Option.some.inj h
  exact .same _ trivial
theorem c_plot_IsName {a0 : ByteArray} {r : Bool} (h : p_plot_IsName a0 = some r)  : PCalls Try.prog 126 [.str a0] (.bool r) := by
  unfold p_plot_IsName at h
  refine pcalls_of (fun _ => none) (fun _ => []) Try.func126 (by unfold Try.f126; rfl) (by kernel_rfl) (by kernel_rfl) ?_
  simp only [awp_seq]
  simp only [argSlots]
  dsimp only [Try.f126]
  try simp only [go_sem]
  obtain ⟨z0, h0, h⟩ := of_bind h
  refine cut_z z0 (fun (s : Bool) => [(2, AVal.bool s), (0, AVal.str a0)]) (fun (s : Bool) => { nx := 0, rows := [] : Heap }) ?_ (fun e0 hz0 => ?_)
  ·
    try simp only [go_sem]
    refine loop_w h0 (fun (s : Int × Bool) => [(8, AVal.int IntKind.i64 (Prod.fst s)), (7, AVal.int IntKind.i64 (↑(ByteArray.size a0) : Int)), (2, AVal.bool (Prod.snd s)), (0, AVal.str a0)]) (fun (s : Int × Bool) => { nx := 0, rows := [] : Heap }) ?_ ?_
    ·
      refine wk_of [] rfl ?_ ?_
      ·
        try simp only [go_sem]
        exact ⟨.same _ trivial, ⟨.same _ trivial, ⟨.same _ trivial, .same _ trivial⟩⟩⟩
      ·
        try simp only [go_sem]
    intro n1 s1 o1 h1 he1 hi1
    try simp only [go_sem]
    refine cut_l ?_
    try simp only [go_sem]
    refine ways_d (fun c2 => ?_) (fun c2 => ?_)
    ·
      replace h1 := if_p c2 h1
      refine cut_l ?_
      try simp only [go_sem]
      obtain ⟨g3, h1⟩ := of_guard h1
      refine ob ⟨by assumption, by assumption⟩ ?_
      refine ob ⟨by intro h1 h2; simp only [h1, h2, Bool.and_self, Bool.not_true, Bool.not_false, Bool.and_true, Bool.true_and], by intro h1; simp only [h1, Bool.and_self, Bool.not_true, Bool.not_false, Bool.and_true, Bool.true_and]⟩ ?_
      refine ob ⟨⟨⟨by intro h1 h2; simp only [h1, h2, Bool.and_self, Bool.not_true, Bool.not_false, Bool.and_true, Bool.true_and], by intro h1 h2; simp only [h1, h2, Bool.and_self, Bool.not_true, Bool.not_false, Bool.and_true, Bool.true_and]⟩, by intro h1 h2; simp only [h1, h2, Bool.and_self, Bool.not_true, Bool.not_false, Bool.and_true, Bool.true_and]⟩, by intro h1 h2; simp only [h1, h2, Bool.and_self, Bool.not_true, Bool.not_false, Bool.and_true, Bool.true_and]⟩ ?_
      refine cut_l ?_
      try simp only [go_sem]
      refine ways (fun c4 => ?_) (fun c4 => ?_)
      ·
        replace h1 := if_t c4 h1
        try simp only [Bool.and_eq_true, Bool.or_eq_true, Bool.not_eq_true', Bool.not_eq_false', Bool.and_eq_false_imp, Bool.or_eq_false_iff, decide_eq_true_eq, decide_eq_false_iff_not] at c4
        obtain rfl := Option.some.inj h1
        obtain rfl := he1 _ rfl
        obtain rfl := Option.some.inj h
        exact .same _ trivial
      ·
        replace h1 := if_f c4 h1
        try simp only [Bool.and_eq_true, Bool.or_eq_true, Bool.not_eq_true', Bool.not_eq_false', Bool.and_eq_false_imp, Bool.or_eq_false_iff, decide_eq_true_eq, decide_eq_false_iff_not] at c4
        obtain ⟨⟨g5_0, g5_1⟩, h1⟩ := of_guard h1
        simp only [W64 g5_0 g5_1]
        obtain rfl := Option.some.inj h1
        refine nextL (hi1 _ rfl) ?_
        refine wk_of [] rfl ?_ ?_
        ·
          try simp only [go_sem]
          exact ⟨.same _ trivial, ⟨.same _ trivial, ⟨.same _ trivial, .same _ trivial⟩⟩⟩
        ·
          try simp only [go_sem]
    ·
      replace h1 := if_n c2 h1
      obtain rfl := Option.some.inj h1
      obtain rfl := he1 _ rfl
      refine zend ?_
      refine wk_of [] rfl ?_ ?_
      ·
        try simp only [go_sem]
        exact ⟨.same _ trivial, .same _ trivial⟩
      ·
        try simp only [go_sem]
  subst hz0
  simp only [Sum.elim_inr] at h
  try simp only [go_sem]
  obtain rfl := Option.some.inj h
  exact .same _ trivial
theorem c_shape_AreaOf {a0 : (List TRect)} {r : Int} (h : p_shape_AreaOf a0 = some r)  : PCalls Try.prog 97 [encL 4 encTRect a0] (.int .i64 r) := by
  unfold p_shape_AreaOf at h
  refine pcalls_of (fun _ => none) (fun _ => []) Try.func97 (by unfold Try.f97; rfl) (by kernel_rfl) (by kernel_rfl) ?_
  simp only [awp_seq]
  simp only [argSlots]
  dsimp only [Try.f97]
  try simp only [go_sem]
  obtain ⟨e0, h0, h⟩ := of_bind h
  refine cut_j ([(3, AVal.int IntKind.i64 e0), (2, AVal.int IntKind.i64 0)]) ({ nx := 0, rows := [] : Heap }) ?_ ?_
  ·
    try simp only [go_sem]
    refine loop_w h0 (fun (s : Int × Int) => [(8, AVal.int IntKind.i64 (Prod.fst s)), (7, AVal.int IntKind.i64 (↑(List.length a0) : Int)), (6, encL 4 encTRect a0), (3, AVal.int IntKind.i64 (Prod.snd s)), (2, AVal.int IntKind.i64 0)]) (fun (s : Int × Int) => { nx := 0, rows := [] : Heap }) ?_ ?_
    ·
      refine wk_of [] rfl ?_ ?_
      ·
        try simp only [go_sem]
        exact ⟨.same _ trivial, ⟨.same _ trivial, ⟨.same _ trivial, .same _ trivial⟩⟩⟩
      ·
        try simp only [go_sem]
    intro n1 s1 o1 h1 he1 hi1
    try simp only [go_sem]
    refine cut_l ?_
    try simp only [go_sem]
    refine ways_d (fun c2 => ?_) (fun c2 => ?_)
    ·
      replace h1 := if_p c2 h1
      refine cut_l ?_
      try simp only [go_sem]
      obtain ⟨g3, h1⟩ := of_guard h1
      refine ob ⟨by assumption, by assumption⟩ ?_
      obtain ⟨⟨g4_0, g4_1⟩, h1⟩ := of_guard h1
      simp only [W64 g4_0 g4_1]
      obtain ⟨⟨g5_0, g5_1⟩, h1⟩ := of_guard h1
      simp only [W64 g5_0 g5_1]
      obtain ⟨⟨g6_0, g6_1⟩, h1⟩ := of_guard h1
      simp only [W64 g6_0 g6_1]
      obtain ⟨⟨g7_0, g7_1⟩, h1⟩ := of_guard h1
      simp only [W64 g7_0 g7_1]
      obtain ⟨⟨g8_0, g8_1⟩, h1⟩ := of_guard h1
      simp only [W64 g8_0 g8_1]
      obtain rfl := Option.some.inj h1
      refine nextL (hi1 _ rfl) ?_
      refine wk_of [] rfl ?_ ?_
      ·
        try simp only [go_sem]
        exact ⟨.same _ trivial, ⟨.same _ trivial, ⟨.same _ trivial, ⟨.same _ trivial, .same _ trivial⟩⟩⟩⟩
      ·
        try simp only [go_sem]
    ·
      replace h1 := if_n c2 h1
      obtain rfl := Option.some.inj h1
      obtain rfl := he1 _ rfl
      refine wk_of [] rfl ?_ ?_
      ·
        try simp only [go_sem]
        exact ⟨.same _ trivial, .same _ trivial⟩
      ·
        try simp only [go_sem]
  try simp only [go_sem]
  obtain rfl := Option.some.inj h
  exact .same _ trivial
theorem c_slices_IndexFunc_BoardKind {a0 : (List TBoardKind)} {f1 : (TBoardKind → Option (Bool))} {r : Int} (h : p_slices_IndexFunc_BoardKind a0 f1 = some r) {g1 : Nat} {k1 : List AVal} (hk1 : nmL k1) (hf1 : ∀ (x0 : TBoardKind) (y : Bool), f1 x0 = some y → PCalls Try.prog g1 (encTBoardKind x0 :: k1) (.bool y)) : PCalls Try.prog 94 [encL 3 encTBoardKind a0, fn g1 k1] (.int .i64 r) := by
  unfold p_slices_IndexFunc_BoardKind at h
  refine pcalls_of (fun _ => none) (fun _ => []) Try.func94 (by unfold Try.f94; rfl) (by kernel_rfl) (by kernel_rfl) ?_
  simp only [awp_seq]
  simp only [argSlots]
  dsimp only [Try.f94]
  try simp only [go_sem]
  obtain ⟨z0, h0, h⟩ := of_bind h
  refine cut_z z0 (fun (s : Int) => [(4, AVal.int IntKind.i64 s)]) (fun (s : Int) => { nx := 0, rows := [] : Heap }) ?_ (fun e0 hz0 => ?_)
  ·
    try simp only [go_sem]
    refine loop_w h0 (fun (s : Int × Int) => [(8, AVal.int IntKind.i64 (Prod.fst s)), (7, AVal.int IntKind.i64 (↑(List.length a0) : Int)), (4, AVal.int IntKind.i64 (Prod.snd s)), (0, encL 3 encTBoardKind a0), (1, fn g1 k1)]) (fun (s : Int × Int) => { nx := 0, rows := [] : Heap }) ?_ ?_
    ·
      refine wk_of [] rfl ?_ ?_
      ·
        try simp only [go_sem]
        exact ⟨.same _ trivial, ⟨.same _ trivial, ⟨.same _ trivial, ⟨.same _ trivial, .same _ (by simp only [go_sem]; assumption)⟩⟩⟩⟩
      ·
        try simp only [go_sem]
    intro n1 s1 o1 h1 he1 hi1
    try simp only [go_sem]
    refine cut_l ?_
    try simp only [go_sem]
    refine ways_d (fun c2 => ?_) (fun c2 => ?_)
    ·
      replace h1 := if_p c2 h1
      refine cut_l ?_
      try simp only [go_sem]
      obtain ⟨g3, h1⟩ := of_guard h1
      refine ob ⟨by assumption, by assumption⟩ ?_
      obtain ⟨x4, hx4, h1⟩ := of_bind h1
      refine call_p false (hf1 _ _ hx4) ⟨wkE _, lend_self hk1⟩ nofun ?_
      refine cut_l ?_
      try simp only [go_sem]
      refine ways (fun c5 => ?_) (fun c5 => ?_)
      ·
        replace h1 := if_t c5 h1
        try simp only [Bool.and_eq_true, Bool.or_eq_true, Bool.not_eq_true', Bool.not_eq_false', Bool.and_eq_false_imp, Bool.or_eq_false_iff, decide_eq_true_eq, decide_eq_false_iff_not] at c5
        obtain rfl := Option.some.inj h1
        obtain rfl := he1 _ rfl
        obtain rfl := Option.some.inj h
        exact .same _ trivial
      ·
        replace h1 := if_f c5 h1
        try simp only [Bool.and_eq_true, Bool.or_eq_true, Bool.not_eq_true', Bool.not_eq_false', Bool.and_eq_false_imp, Bool.or_eq_false_iff, decide_eq_true_eq, decide_eq_false_iff_not] at c5
        obtain ⟨⟨g6_0, g6_1⟩, h1⟩ := of_guard h1
        simp only [W64 g6_0 g6_1]
        obtain rfl := Option.some.inj h1
        refine nextL (hi1 _ rfl) ?_
        refine wk_of [] rfl ?_ ?_
        ·
          try simp only [go_sem]
          exact ⟨.same _ trivial, ⟨.same _ trivial, ⟨.same _ trivial, ⟨.same _ trivial, .same _ (by simp only [go_sem]; assumption)⟩⟩⟩⟩
        ·
          try simp only [go_sem]
    ·
      replace h1 := if_n c2 h1
      obtain rfl := Option.some.inj h1
      obtain rfl := he1 _ rfl
      refine zend ?_
      refine wk_of [] rfl ?_ ?_
      ·
        try simp only [go_sem]
        exact .same _ trivial
      ·
        try simp only [go_sem]
  subst hz0
  simp only [Sum.elim_inr] at h
  try simp only [go_sem]
  obtain rfl := Option.some.inj h
  exact .same _ trivial
theorem c_slices_IndexFunc_Rect {a0 : (List TRect)} {f1 : (TRect → Option (Bool))} {r : Int} (h : p_slices_IndexFunc_Rect a0 f1 = some r) {g1 : Nat} {k1 : List AVal} (hk1 : nmL k1) (hf1 : ∀ (x0 : TRect) (y : Bool), f1 x0 = some y → PCalls Try.prog g1 (encTRect x0 :: k1) (.bool y)) : PCalls Try.prog 117 [encL 4 encTRect a0, fn g1 k1] (.int .i64 r) := by
  unfold p_slices_IndexFunc_Rect at h
  refine pcalls_of (fun _ => none) (fun _ => []) Try.func117 (by unfold Try.f117; rfl) (by kernel_rfl) (by kernel_rfl) ?_
  simp only [awp_seq]
  simp only [argSlots]
  dsimp only [Try.f117]
  try simp only [go_sem]
  obtain ⟨z0, h0, h⟩ := of_bind h
  refine cut_z z0 (fun (s : Int) => [(4, AVal.int IntKind.i64 s)]) (fun (s : Int) => { nx := 0, rows := [] : Heap }) ?_ (fun e0 hz0 => ?_)
  ·
    try simp only [go_sem]
    refine loop_w h0 (fun (s : Int × Int) => [(8, AVal.int IntKind.i64 (Prod.fst s)), (7, AVal.int IntKind.i64 (↑(List.length a0) : Int)), (4, AVal.int IntKind.i64 (Prod.snd s)), (0, encL 4 encTRect a0), (1, fn g1 k1)]) (fun (s : Int × Int) => { nx := 0, rows := [] : Heap }) ?_ ?_
    ·
      refine wk_of [] rfl ?_ ?_
      ·
        try simp only [go_sem]
        exact ⟨.same _ trivial, ⟨.same _ trivial, ⟨.same _ trivial, ⟨.same _ trivial, .same _ (by simp only [go_sem]; assumption)⟩⟩⟩⟩
      ·
        try simp only [go_sem]
    intro n1 s1 o1 h1 he1 hi1
    try simp only [go_sem]
    refine cut_l ?_
    try simp only [go_sem]
    refine ways_d (fun c2 => ?_) (fun c2 => ?_)
    ·
      replace h1 := if_p c2 h1
      refine cut_l ?_
      try simp only [go_sem]
      obtain ⟨g3, h1⟩ := of_guard h1
      refine ob ⟨by assumption, by assumption⟩ ?_
      obtain ⟨x4, hx4, h1⟩ := of_bind h1
      refine call_p false (hf1 _ _ hx4) ⟨wkE _, lend_self hk1⟩ nofun ?_
      refine cut_l ?_
      try simp only [go_sem]
      refine ways (fun c5 => ?_) (fun c5 => ?_)
      ·
        replace h1 := if_t c5 h1
        try simp only [Bool.and_eq_true, Bool.or_eq_true, Bool.not_eq_true', Bool.not_eq_false', Bool.and_eq_false_imp, Bool.or_eq_false_iff, decide_eq_true_eq, decide_eq_false_iff_not] at c5
        obtain rfl := Option.some.inj h1
        obtain rfl := he1 _ rfl
        obtain rfl := Option.some.inj h
        exact .same _ trivial
      ·
        replace h1 := if_f c5 h1
        try simp only [Bool.and_eq_true, Bool.or_eq_true, Bool.not_eq_true', Bool.not_eq_false', Bool.and_eq_false_imp, Bool.or_eq_false_iff, decide_eq_true_eq, decide_eq_false_iff_not] at c5
        obtain ⟨⟨g6_0, g6_1⟩, h1⟩ := of_guard h1
        simp only [W64 g6_0 g6_1]
        obtain rfl := Option.some.inj h1
        refine nextL (hi1 _ rfl) ?_
        refine wk_of [] rfl ?_ ?_
        ·
          try simp only [go_sem]
          exact ⟨.same _ trivial, ⟨.same _ trivial, ⟨.same _ trivial, ⟨.same _ trivial, .same _ (by simp only [go_sem]; assumption)⟩⟩⟩⟩
        ·
          try simp only [go_sem]
    ·
      replace h1 := if_n c2 h1
      obtain rfl := Option.some.inj h1
      obtain rfl := he1 _ rfl
      refine zend ?_
      refine wk_of [] rfl ?_ ?_
      ·
        try simp only [go_sem]
        exact .same _ trivial
      ·
        try simp only [go_sem]
  subst hz0
  simp only [Sum.elim_inr] at h
  try simp only [go_sem]
  obtain rfl := Option.some.inj h
  exact .same _ trivial
theorem c_slices_Index_Point {a0 : (List TPoint)} {a1 : TPoint} {r : Int} (h : p_slices_Index_Point a0 a1 = some r)  : PCalls Try.prog 112 [encL 2 encTPoint a0, encTPoint a1] (.int .i64 r) := by
  unfold p_slices_Index_Point at h
  refine pcalls_of (ordOf [(4, [1, 2, 3, 0, 4, 5])]) (fun _ => []) Try.func112 (by unfold Try.f112; rfl) (by kernel_rfl) (by kernel_rfl) ?_
  simp only [awp_seq]
  simp only [argSlots]
  dsimp only [Try.f112]
  try simp only [go_sem]
  obtain ⟨z0, h0, h⟩ := of_bind h
  refine cut_z z0 (fun (s : Int) => [(4, AVal.int IntKind.i64 s)]) (fun (s : Int) => { nx := 1, rows := [] : Heap }) ?_ (fun e0 hz0 => ?_)
  ·
    try simp only [go_sem]
    refine loop_w h0 (fun (s : Int × Int) => [(8, AVal.int IntKind.i64 (Prod.fst s)), (7, AVal.int IntKind.i64 (↑(List.length a0) : Int)), (4, AVal.int IntKind.i64 (Prod.snd s)), (3, AVal.ptr (0, 0) 2 0 0), (0, encL 2 encTPoint a0)]) (fun (s : Int × Int) => { nx := 1, rows := [(0, Ent.one { sz := 2, d := encTPoint a1, l := [encTPoint a1] : Row })] : Heap }) ?_ ?_
    ·
      refine wk_of [(0, some 0)] rfl ?_ ?_
      ·
        try simp only [go_sem]
        exact ⟨.same _ trivial, ⟨.same _ trivial, ⟨.same _ trivial, ⟨.ptr _ _ _ _ _ (rn_some rfl), .same _ trivial⟩⟩⟩⟩
      ·
        try simp only [go_sem]
        exact wkR_box (rn_some rfl) rfl (wkE _)
    intro n1 s1 o1 h1 he1 hi1
    try simp only [go_sem]
    refine cut_l ?_
    try simp only [go_sem]
    refine ways_d (fun c2 => ?_) (fun c2 => ?_)
    ·
      replace h1 := if_p c2 h1
      refine cut_l ?_
      try simp only [go_sem]
      obtain ⟨g3, h1⟩ := of_guard h1
      refine ob ⟨by assumption, by assumption⟩ ?_
      refine cut_l ?_
      try simp only [go_sem]
      refine ways_d (fun c4 => ?_) (fun c4 => ?_)
      ·
        replace h1 := if_p c4 h1
        obtain rfl := Option.some.inj h1
        obtain rfl := he1 _ rfl
        obtain rfl := Option.some.inj h
        exact .same _ trivial
      ·
        replace h1 := if_n c4 h1
        obtain ⟨⟨g5_0, g5_1⟩, h1⟩ := of_guard h1
        simp only [W64 g5_0 g5_1]
        obtain rfl := Option.some.inj h1
        refine nextL (hi1 _ rfl) ?_
        refine wk_of [(0, some 0)] rfl ?_ ?_
        ·
          try simp only [go_sem]
          exact ⟨.same _ trivial, ⟨.same _ trivial, ⟨.same _ trivial, ⟨.ptr _ _ _ _ _ (rn_some rfl), .same _ trivial⟩⟩⟩⟩
        ·
          try simp only [go_sem]
          exact wkR_box (rn_some rfl) rfl (wkE _)
    ·
      replace h1 := if_n c2 h1
      obtain rfl := Option.some.inj h1
      obtain rfl := he1 _ rfl
      refine zend ?_
      refine wk_of [] rfl ?_ ?_
      ·
        try simp only [go_sem]
        exact .same _ trivial
      ·
        try simp only [go_sem]
  subst hz0
  simp only [Sum.elim_inr] at h
  try simp only [go_sem]
  obtain rfl := Option.some.inj h
  exact .same _ trivial
theorem c_panel_cells_1 {a0 : TRect} {a1 : TRect} {a2 : TPanel} {r : Bool} (h : p_panel_cells_1 a0 a1 a2 = some r)  : PCalls Try.prog 128 [encTRect a0, .iptr (encTRect a1) 0, .iptr (encTPanel a2) 0] (.bool r) := by
  unfold p_panel_cells_1 at h
  refine pcalls_of (fun _ => none) (fun _ => []) Try.func128 (by unfold Try.f128; rfl) (by kernel_rfl) (by kernel_rfl) ?_
  simp only [awp_seq]
  simp only [argSlots]
  dsimp only [Try.f128]
  try simp only [go_sem]
  obtain ⟨x0, hx0, h⟩ := of_bind h
  refine call_p false (c_panel_isApart hx0) ⟨wkE _, wkE _, .same _ trivial, trivial⟩ nofun ?_
  try simp only [go_sem]
  obtain rfl := Option.some.inj h
  exact .same _ trivial
theorem c_panel_checkKinds {a0 : (List TBoardKind)} {r : Int} (h : p_panel_checkKinds a0 = some r)  : PCalls Try.prog 98 [encL 3 encTBoardKind a0] (.int .i64 r) := by
  unfold p_panel_checkKinds at h
  refine pcalls_of (ordOf [(10, [0, 1, 2, 3, 5, 6, 7, 8, 9, 4, 10, 11, 12, 13])]) (fun _ => []) Try.func98 (by unfold Try.f98; rfl) (by kernel_rfl) (by kernel_rfl) ?_
  simp only [awp_seq]
  simp only [argSlots]
  dsimp only [Try.f98]
  try simp only [go_sem]
  refine cut_l ?_
  try simp only [go_sem]
  refine ways_d (fun c0 => ?_) (fun c0 => ?_)
  ·
    replace h := if_p c0 h
    obtain rfl := Option.some.inj h
    exact .same _ trivial
  ·
    replace h := if_n c0 h
    obtain ⟨z1, h1, h⟩ := of_bind h
    refine cut_z z1 (fun (s : Int) => [(2, AVal.int IntKind.i64 s)]) (fun (s : Int) => { nx := 0, rows := [] : Heap }) ?_ (fun e1 hz1 => ?_)
    ·
      try simp only [go_sem]
      refine loop_w h1 (fun (s : Int × Int) => [(10, AVal.int IntKind.i64 (Prod.fst s)), (9, AVal.int IntKind.i64 (↑(List.length a0) : Int)), (8, encL 3 encTBoardKind a0), (2, AVal.int IntKind.i64 (Prod.snd s)), (0, encL 3 encTBoardKind a0)]) (fun (s : Int × Int) => { nx := 0, rows := [] : Heap }) ?_ ?_
      ·
        refine wk_of [] rfl ?_ ?_
        ·
          try simp only [go_sem]
          exact ⟨.same _ trivial, ⟨.same _ trivial, ⟨.same _ trivial, ⟨.same _ trivial, .same _ trivial⟩⟩⟩⟩
        ·
          try simp only [go_sem]
      intro n2 s2 o2 h2 he2 hi2
      try simp only [go_sem]
      refine cut_l ?_
      try simp only [go_sem]
      refine ways_d (fun c3 => ?_) (fun c3 => ?_)
      ·
        replace h2 := if_p c3 h2
        refine cut_l ?_
        try simp only [go_sem]
        obtain ⟨g4, h2⟩ := of_guard h2
        refine ob ⟨by assumption, by assumption⟩ ?_
        refine cut_l ?_
        try simp only [go_sem]
        obtain ⟨x5, hx5, h2⟩ := of_bind h2
        refine call_p false (c_plot_IsName hx5) ⟨.same _ trivial, trivial⟩ nofun ?_
        try simp only [go_sem]
        refine cut_l ?_
        try simp only [go_sem]
        refine ways (fun c6 => ?_) (fun c6 => ?_)
        ·
          replace h2 := if_t c6 h2
          try simp only [Bool.and_eq_true, Bool.or_eq_true, Bool.not_eq_true', Bool.not_eq_false', Bool.and_eq_false_imp, Bool.or_eq_false_iff, decide_eq_true_eq, decide_eq_false_iff_not] at c6
          obtain rfl := Option.some.inj h2
          obtain rfl := he2 _ rfl
          obtain rfl := Option.some.inj h
          exact .same _ trivial
        ·
          replace h2 := if_f c6 h2
          try simp only [Bool.and_eq_true, Bool.or_eq_true, Bool.not_eq_true', Bool.not_eq_false', Bool.and_eq_false_imp, Bool.or_eq_false_iff, decide_eq_true_eq, decide_eq_false_iff_not] at c6
          obtain ⟨x7, hx7, h2⟩ := of_bind h2
          refine call_p false (c_panel_within hx7) ⟨.same _ trivial, .same _ trivial, .same _ trivial, trivial⟩ nofun ?_
          try simp only [go_sem]
          obtain ⟨x8, hx8, h2⟩ := of_bind h2
          refine qcall_p false (fun hg => c_panel_within (if_t hg hx8)) (fun _ => ⟨.same _ trivial, .same _ trivial, .same _ trivial, trivial⟩) nofun ?_
          try simp only [go_sem]
          refine ob (by simp) ?_
          refine cut_l ?_
          try simp only [go_sem]
          refine ways (fun c9 => ?_) (fun c9 => ?_)
          ·
            replace h2 := if_t c9 h2
            try simp only [Bool.and_eq_true, Bool.or_eq_true, Bool.not_eq_true', Bool.not_eq_false', Bool.and_eq_false_imp, Bool.or_eq_false_iff, decide_eq_true_eq, decide_eq_false_iff_not] at c9
            obtain rfl := Option.some.inj h2
            obtain rfl := he2 _ rfl
            obtain rfl := Option.some.inj h
            exact .same _ trivial
          ·
            replace h2 := if_f c9 h2
            try simp only [Bool.and_eq_true, Bool.or_eq_true, Bool.not_eq_true', Bool.not_eq_false', Bool.and_eq_false_imp, Bool.or_eq_false_iff, decide_eq_true_eq, decide_eq_false_iff_not] at c9
            simp only [W64 (n := Prod.fst s2 - 1) (by omega) (by omega)]
            obtain ⟨g10, h2⟩ := of_guard h2
            refine ob (by assumption) ?_
            refine cut_l ?_
            try simp only [go_sem]
            refine ways (fun c11 => ?_) (fun c11 => ?_)
            ·
              replace h2 := if_t c11 h2
              try simp only [Bool.and_eq_true, Bool.or_eq_true, Bool.not_eq_true', Bool.not_eq_false', Bool.and_eq_false_imp, Bool.or_eq_false_iff, decide_eq_true_eq, decide_eq_false_iff_not] at c11
              obtain rfl := Option.some.inj h2
              obtain rfl := he2 _ rfl
              obtain rfl := Option.some.inj h
              exact .same _ trivial
            ·
              replace h2 := if_f c11 h2
              try simp only [Bool.and_eq_true, Bool.or_eq_true, Bool.not_eq_true', Bool.not_eq_false', Bool.and_eq_false_imp, Bool.or_eq_false_iff, decide_eq_true_eq, decide_eq_false_iff_not] at c11
              simp only [W64 (n := Prod.fst s2 + 1) (by omega) (by omega)]
              obtain rfl := Option.some.inj h2
              refine nextL (hi2 _ rfl) ?_
              refine wk_of [] rfl ?_ ?_
              ·
                try simp only [go_sem]
                exact ⟨.same _ trivial, ⟨.same _ trivial, ⟨.same _ trivial, ⟨.same _ trivial, .same _ trivial⟩⟩⟩⟩
              ·
                try simp only [go_sem]
      ·
        replace h2 := if_n c3 h2
        obtain rfl := Option.some.inj h2
        obtain rfl := he2 _ rfl
        refine zend ?_
        refine wk_of [] rfl ?_ ?_
        ·
          try simp only [go_sem]
          exact .same _ trivial
        ·
          try simp only [go_sem]
    subst hz1
    simp only [Sum.elim_inr] at h
    try simp only [go_sem]
    obtain rfl := Option.some.inj h
    exact .same _ trivial
theorem c_panel_isOnPanel {a0 : TPanel} {a1 : TPoint} {r : Bool} (h : p_panel_isOnPanel a0 a1 = some r)  : PCalls Try.prog 60 [encTPanel a0, encTPoint a1] (.bool r) := by
  unfold p_panel_isOnPanel at h
  refine pcalls_of (fun _ => none) (fun _ => []) Try.func60 (by unfold Try.f60; rfl) (by kernel_rfl) (by kernel_rfl) ?_
  simp only [awp_seq]
  simp only [argSlots]
  dsimp only [Try.f60]
  try simp only [go_sem]
  obtain ⟨x0, hx0, h⟩ := of_bind h
  refine call_p false (c_panel_within hx0) ⟨.same _ trivial, .same _ trivial, .same _ trivial, trivial⟩ nofun ?_
  try simp only [go_sem]
  obtain ⟨x1, hx1, h⟩ := of_bind h
  refine qcall_p false (fun hg => c_panel_within (if_t hg hx1)) (fun _ => ⟨.same _ trivial, .same _ trivial, .same _ trivial, trivial⟩) nofun ?_
  try simp only [go_sem]
  obtain rfl := Option.some.inj h
  exact .same _ trivial
theorem c_panel_kindAt {a0 : TPanel} {a1 : ByteArray} {r : Int} (h : p_panel_kindAt a0 a1 = some r)  : PCalls Try.prog 46 [encTPanel a0, .str a1] (.int .i64 r) := by
  unfold p_panel_kindAt at h
  refine pcalls_of (fun _ => none) (fun _ => []) Try.func46 (by unfold Try.f46; rfl) (by kernel_rfl) (by kernel_rfl) ?_
  simp only [awp_seq]
  simp only [argSlots]
  dsimp only [Try.f46]
  try simp only [go_sem]
  obtain ⟨x0, hx0, h⟩ := of_bind h
  refine call_p true (c_slices_IndexFunc_BoardKind hx0 (by simp only [go_sem]) (fun _ _ h => c_panel_kindAt_1 h)) ⟨.same _ trivial, wkv_fnA rfl ⟨wkv_box rfl (R0_ne _) rfl (by simp only [go_sem]) (.same _ trivial), trivial⟩, trivial⟩ (fun _ => by simp only [go_sem]) ?_
  obtain rfl := Option.some.inj h
  exact .same _ trivial
theorem c_panel_open_1 {a0 : TRect} {a1 : TPoint} {r : Bool} (h : p_panel_open_1 a0 a1 = some r)  : PCalls Try.prog 100 [encTRect a0, .iptr (encTPoint a1) 0] (.bool r) := by
  unfold p_panel_open_1 at h
  refine pcalls_of (fun _ => none) (fun _ => []) Try.func100 (by unfold Try.f100; rfl) (by kernel_rfl) (by kernel_rfl) ?_
  simp only [awp_seq]
  simp only [argSlots]
  dsimp only [Try.f100]
  try simp only [go_sem]
  obtain ⟨x0, hx0, h⟩ := of_bind h
  refine call_p false (c_panel_isInside hx0) ⟨wkE _, wkE _, trivial⟩ nofun ?_
  obtain rfl := Option.some.inj h
  exact .same _ trivial
theorem c_slices_ContainsFunc_Rect {a0 : (List TRect)} {f1 : (TRect → Option (Bool))} {r : Bool} (h : p_slices_ContainsFunc_Rect a0 f1 = some r) {g1 : Nat} {k1 : List AVal} (hk1 : nmL k1) (hf1 : ∀ (x0 : TRect) (y : Bool), f1 x0 = some y → PCalls Try.prog g1 (encTRect x0 :: k1) (.bool y)) : PCalls Try.prog 78 [encL 4 encTRect a0, fn g1 k1] (.bool r) := by
  unfold p_slices_ContainsFunc_Rect at h
  refine pcalls_of (fun _ => none) (fun _ => []) Try.func78 (by unfold Try.f78; rfl) (by kernel_rfl) (by kernel_rfl) ?_
  simp only [awp_seq]
  simp only [argSlots]
  dsimp only [Try.f78]
  try simp only [go_sem]
  obtain ⟨x0, hx0, h⟩ := of_bind h
  refine call_p false (c_slices_IndexFunc_Rect hx0 hk1 hf1) ⟨.same _ trivial, .same _ (by simp only [go_sem]; assumption), trivial⟩ nofun ?_
  try simp only [go_sem]
  obtain rfl := Option.some.inj h
  exact .same _ trivial
theorem c_slices_Contains_Point {a0 : (List TPoint)} {a1 : TPoint} {r : Bool} (h : p_slices_Contains_Point a0 a1 = some r)  : PCalls Try.prog 72 [encL 2 encTPoint a0, encTPoint a1] (.bool r) := by
  unfold p_slices_Contains_Point at h
  refine pcalls_of (fun _ => none) (fun _ => []) Try.func72 (by unfold Try.f72; rfl) (by kernel_rfl) (by kernel_rfl) ?_
  simp only [awp_seq]
  simp only [argSlots]
  dsimp only [Try.f72]
  try simp only [go_sem]
  obtain ⟨x0, hx0, h⟩ := of_bind h
  refine call_p false (c_slices_Index_Point hx0) ⟨.same _ trivial, wkE _, trivial⟩ nofun ?_
  try simp only [go_sem]
  obtain rfl := Option.some.inj h
  exact .same _ trivial
theorem c_panel_cellOf {a0 : TPanel} {a1 : TSlot} {r : TRect} (h : p_panel_cellOf a0 a1 = some r)  : PCalls Try.prog 127 [encTPanel a0, encTSlot a1] (encTRect r) := by
  unfold p_panel_cellOf at h
  refine pcalls_of (ordOf [(1, [0, 3, 8, 1, 2, 4, 5, 6, 7, 9, 10, 11, 12, 13, 14, 15])]) (fun _ => []) Try.func127 (by unfold Try.f127; rfl) (by kernel_rfl) (by kernel_rfl) ?_
  simp only [awp_seq]
  simp only [argSlots]
  dsimp only [Try.f127]
  try simp only [go_sem]
  obtain ⟨x0, hx0, h⟩ := of_bind h
  refine qcall_p false (fun _ => c_panel_kindAt hx0) (fun _ => ⟨wkE _, .same _ trivial, trivial⟩) nofun ?_
  try simp only [go_sem]
  obtain ⟨⟨g1_0, g1_1⟩, h⟩ := of_guard h
  refine ob ⟨by assumption, by assumption⟩ ?_
  obtain ⟨x2, hx2, h⟩ := of_bind h
  refine qcall_p false (fun _ => c_panel_sizeOf hx2) (fun _ => ⟨wkE _, .same _ trivial, trivial⟩) nofun ?_
  try simp only [go_sem]
  obtain ⟨⟨g3_0, g3_1⟩, h⟩ := of_guard h
  simp only [W64 g3_0 g3_1]
  obtain ⟨⟨g4_0, g4_1⟩, h⟩ := of_guard h
  simp only [W64 g4_0 g4_1]
  obtain rfl := Option.some.inj h
  exact wkE _
theorem c_panel_cells {a0 : TPanel} {r : (List TRect) × Int} (h : p_panel_cells a0 = some r)  : PCalls Try.prog 99 [encTPanel a0] (tup [encL 4 encTRect r.1, .int .i64 r.2]) := by
  unfold p_panel_cells at h
  refine pcalls_of (fun _ => none) (fun _ => []) Try.func99 (by unfold Try.f99; rfl) (by kernel_rfl) (by kernel_rfl) ?_
  simp only [awp_seq]
  simp only [argSlots]
  dsimp only [Try.f99]
  try simp only [go_sem]
  refine cut_l ?_
  try simp only [go_sem]
  refine ways_d (fun c0 => ?_) (fun c0 => ?_)
  ·
    replace h := if_p c0 h
    obtain rfl := Option.some.inj h
    exact wkv_tup ⟨wkv_nilL, .same _ trivial, trivial⟩
  ·
    replace h := if_n c0 h
    obtain ⟨z1, h1, h⟩ := of_bind h
    refine cut_z z1 (fun (s : List TRect × Int × List TRect) => [(4, AVal.sref (1, 0) 0 4 (List.length (Prod.fst s))), (3, AVal.int IntKind.i64 (Prod.fst (Prod.snd s))), (2, encL 4 encTRect (Prod.snd (Prod.snd s)))]) (fun (s : List TRect × Int × List TRect) => { nx := 2, rows := [(1, Ent.one { sz := 4, d := encTRect default, l := List.map encTRect (Prod.fst s) : Row })] : Heap }) ?_ (fun e1 hz1 => ?_)
    ·
      try simp only [go_sem]
      refine loop_w h1 (fun (s : Int × List TRect × Int × List TRect × TPanel) => [(15, AVal.int IntKind.i64 (Prod.fst s)), (14, AVal.int IntKind.i64 (↑(List.length (TPanel.Slots a0)) : Int)), (13, encL 4 encTSlot (TPanel.Slots a0)), (4, AVal.sref (1, 0) 0 4 (List.length (Prod.fst (Prod.snd s)))), (3, AVal.int IntKind.i64 (Prod.fst (Prod.snd (Prod.snd s)))), (2, encL 4 encTRect (Prod.fst (Prod.snd (Prod.snd (Prod.snd s))))), (1, AVal.ptr (0, 0) 7 0 0)]) (fun (s : Int × List TRect × Int × List TRect × TPanel) => { nx := 2, rows := [(1, Ent.one { sz := 4, d := encTRect default, l := List.map encTRect (Prod.fst (Prod.snd s)) : Row }), (0, Ent.one { sz := 7, d := encTPanel a0, l := [encTPanel (Prod.snd (Prod.snd (Prod.snd (Prod.snd s))))] : Row })] : Heap }) ?_ ?_
      ·
        refine wk_of [(1, none), (0, some 0)] rfl ?_ ?_
        ·
          try simp only [go_sem]
          exact ⟨.same _ trivial, ⟨.same _ trivial, ⟨.same _ trivial, ⟨wkv_nil (rn_none rfl) rfl, ⟨.same _ trivial, ⟨wkv_nilL, .ptr _ _ _ _ _ (rn_some rfl)⟩⟩⟩⟩⟩⟩
        ·
          try simp only [go_sem]
          exact ⟨wkR_nilT (rn_none rfl), wkR_box (rn_some rfl) rfl (wkE _)⟩
      intro n2 s2 o2 h2 he2 hi2
      try simp only [go_sem]
      refine cut_l ?_
      try simp only [go_sem]
      refine ways_d (fun c3 => ?_) (fun c3 => ?_)
      ·
        replace h2 := if_p c3 h2
        refine cut_l ?_
        try simp only [go_sem]
        obtain ⟨g4, h2⟩ := of_guard h2
        refine ob ⟨by assumption, by assumption⟩ ?_
        obtain ⟨x5, hx5, h2⟩ := of_bind h2
        refine call_p false (c_panel_kindAt hx5) ⟨wkE _, .same _ trivial, trivial⟩ nofun ?_
        try simp only [go_sem]
        refine cut_l ?_
        try simp only [go_sem]
        refine ways_d (fun c6 => ?_) (fun c6 => ?_)
        ·
          replace h2 := if_p c6 h2
          obtain rfl := Option.some.inj h2
          obtain rfl := he2 _ rfl
          obtain rfl := Option.some.inj h
          exact wkv_tup ⟨wkv_nilL, .same _ trivial, trivial⟩
        ·
          replace h2 := if_n c6 h2
          obtain ⟨x7, hx7, h2⟩ := of_bind h2
          refine call_p false (c_panel_within hx7) ⟨.same _ trivial, .same _ trivial, .same _ trivial, trivial⟩ nofun ?_
          try simp only [go_sem]
          obtain ⟨x8, hx8, h2⟩ := of_bind h2
          refine qcall_p false (fun hg => c_panel_within (if_t hg hx8)) (fun _ => ⟨.same _ trivial, .same _ trivial, .same _ trivial, trivial⟩) nofun ?_
          try simp only [go_sem]
          refine ob (by simp) ?_
          obtain ⟨x9, hx9, h2⟩ := of_bind h2
          refine qcall_p false (fun hg => c_panel_within (if_t hg hx9)) (fun _ => ⟨.same _ trivial, .same _ trivial, .same _ trivial, trivial⟩) nofun ?_
          try simp only [go_sem]
          refine ob (by simp) ?_
          refine cut_l ?_
          try simp only [go_sem]
          refine ways (fun c10 => ?_) (fun c10 => ?_)
          ·
            replace h2 := if_t c10 h2
            try simp only [Bool.and_eq_true, Bool.or_eq_true, Bool.not_eq_true', Bool.not_eq_false', Bool.and_eq_false_imp, Bool.or_eq_false_iff, decide_eq_true_eq, decide_eq_false_iff_not] at c10
            obtain rfl := Option.some.inj h2
            obtain rfl := he2 _ rfl
            obtain rfl := Option.some.inj h
            exact wkv_tup ⟨wkv_nilL, .same _ trivial, trivial⟩
          ·
            replace h2 := if_f c10 h2
            try simp only [Bool.and_eq_true, Bool.or_eq_true, Bool.not_eq_true', Bool.not_eq_false', Bool.and_eq_false_imp, Bool.or_eq_false_iff, decide_eq_true_eq, decide_eq_false_iff_not] at c10
            obtain ⟨x11, hx11, h2⟩ := of_bind h2
            refine call_p false (c_panel_cellOf hx11) ⟨wkE _, wkE _, trivial⟩ nofun ?_
            try simp only [go_sem]
            obtain ⟨x12, hx12, h2⟩ := of_bind h2
            refine call_p false (c_panel_isOn hx12) ⟨wkE _, wkE _, trivial⟩ nofun ?_
            try simp only [go_sem]
            refine cut_l ?_
            try simp only [go_sem]
            refine ways (fun c13 => ?_) (fun c13 => ?_)
            ·
              replace h2 := if_t c13 h2
              try simp only [Bool.and_eq_true, Bool.or_eq_true, Bool.not_eq_true', Bool.not_eq_false', Bool.and_eq_false_imp, Bool.or_eq_false_iff, decide_eq_true_eq, decide_eq_false_iff_not] at c13
              obtain rfl := Option.some.inj h2
              obtain rfl := he2 _ rfl
              obtain rfl := Option.some.inj h
              exact wkv_tup ⟨wkv_nilL, .same _ trivial, trivial⟩
            ·
              replace h2 := if_f c13 h2
              try simp only [Bool.and_eq_true, Bool.or_eq_true, Bool.not_eq_true', Bool.not_eq_false', Bool.and_eq_false_imp, Bool.or_eq_false_iff, decide_eq_true_eq, decide_eq_false_iff_not] at c13
              obtain ⟨x14, hx14, h2⟩ := of_bind h2
              refine call_p true (c_slices_ContainsFunc_Rect hx14 (by simp only [go_sem]) (fun _ _ h => c_panel_cells_1 h)) ⟨wkv_own rfl (R0_ne _) rfl, wkv_fnA rfl ⟨wkv_box rfl (R0_ne _) rfl (by simp only [go_sem]) (wkE _), wkv_box rfl (R0_ne _) rfl (by simp only [go_sem]) (wkE _), trivial⟩, trivial⟩ (fun _ => by simp only [go_sem]) ?_
              refine cut_l ?_
              try simp only [go_sem]
              refine ways (fun c15 => ?_) (fun c15 => ?_)
              ·
                replace h2 := if_t c15 h2
                try simp only [Bool.and_eq_true, Bool.or_eq_true, Bool.not_eq_true', Bool.not_eq_false', Bool.and_eq_false_imp, Bool.or_eq_false_iff, decide_eq_true_eq, decide_eq_false_iff_not] at c15
                obtain rfl := Option.some.inj h2
                obtain rfl := he2 _ rfl
                obtain rfl := Option.some.inj h
                exact wkv_tup ⟨wkv_nilL, .same _ trivial, trivial⟩
              ·
                replace h2 := if_f c15 h2
                try simp only [Bool.and_eq_true, Bool.or_eq_true, Bool.not_eq_true', Bool.not_eq_false', Bool.and_eq_false_imp, Bool.or_eq_false_iff, decide_eq_true_eq, decide_eq_false_iff_not] at c15
                obtain ⟨g16, h2⟩ := of_guard h2
                refine ob ⟨by omega, by assumption⟩ ?_
                simp only [W64 (n := Prod.fst s2 + 1) (by omega) (by omega)]
                obtain rfl := Option.some.inj h2
                refine nextL (hi2 _ rfl) ?_
                refine wk_of [(1, some 7), (0, some 0)] rfl ?_ ?_
                ·
                  try simp only [go_sem]
                  exact ⟨.same _ trivial, ⟨.same _ trivial, ⟨.same _ trivial, ⟨wkv_sref (rn_some rfl) rfl, ⟨.same _ trivial, ⟨.same _ trivial, .ptr _ _ _ _ _ (rn_some rfl)⟩⟩⟩⟩⟩⟩
                ·
                  try simp only [go_sem]
                  exact ⟨wkR_typed (rn_some rfl) rfl rfl, wkR_box (rn_some rfl) rfl (wkE _)⟩
      ·
        replace h2 := if_n c3 h2
        obtain rfl := Option.some.inj h2
        obtain rfl := he2 _ rfl
        refine zend ?_
        refine wk_of [(1, some 1)] rfl ?_ ?_
        ·
          try simp only [go_sem]
          exact ⟨wkv_sref (rn_some rfl) rfl, ⟨.same _ trivial, .same _ trivial⟩⟩
        ·
          try simp only [go_sem]
          exact wkR_typed (rn_some rfl) rfl rfl
    subst hz1
    simp only [Sum.elim_inr] at h
    try simp only [go_sem]
    obtain rfl := Option.some.inj h
    exact wkv_tup ⟨wkv_own rfl (R0_ne _) rfl, .same _ trivial, trivial⟩
theorem c_panel_open {a0 : TPanel} {r : (List TRect) × Int} (h : p_panel_open a0 = some r)  : PCalls Try.prog 49 [encTPanel a0] (tup [encL 4 encTRect r.1, .int .i64 r.2]) := by
  unfold p_panel_open at h
  refine pcalls_of (ordOf [(18, [0, 2, 1, 3, 4, 5, 6])]) (fun _ => []) Try.func49 (by unfold Try.f49; rfl) (by kernel_rfl) (by kernel_rfl) ?_
  simp only [awp_seq]
  simp only [argSlots]
  dsimp only [Try.f49]
  try simp only [go_sem]
  obtain ⟨x0, hx0, h⟩ := of_bind h
  refine call_p false (c_panel_within hx0) ⟨.same _ trivial, .same _ trivial, .same _ trivial, trivial⟩ nofun ?_
  try simp only [go_sem]
  obtain ⟨x1, hx1, h⟩ := of_bind h
  refine qcall_p false (fun hg => c_panel_within (if_t hg hx1)) (fun _ => ⟨.same _ trivial, .same _ trivial, .same _ trivial, trivial⟩) nofun ?_
  try simp only [go_sem]
  refine ob (by simp) ?_
  obtain ⟨x2, hx2, h⟩ := of_bind h
  refine qcall_p false (fun hg => c_panel_within (if_t hg hx2)) (fun _ => ⟨.same _ trivial, .same _ trivial, .same _ trivial, trivial⟩) nofun ?_
  try simp only [go_sem]
  refine ob (by simp) ?_
  obtain ⟨x3, hx3, h⟩ := of_bind h
  refine qcall_p false (fun hg => c_panel_within (if_t hg hx3)) (fun _ => ⟨.same _ trivial, .same _ trivial, .same _ trivial, trivial⟩) nofun ?_
  try simp only [go_sem]
  refine ob (by simp) ?_
  refine cut_l ?_
  try simp only [go_sem]
  refine ways (fun c4 => ?_) (fun c4 => ?_)
  ·
    replace h := if_t c4 h
    try simp only [Bool.and_eq_true, Bool.or_eq_true, Bool.not_eq_true', Bool.not_eq_false', Bool.and_eq_false_imp, Bool.or_eq_false_iff, decide_eq_true_eq, decide_eq_false_iff_not] at c4
    obtain rfl := Option.some.inj h
    exact wkv_tup ⟨wkv_nilL, .same _ trivial, trivial⟩
  ·
    replace h := if_f c4 h
    try simp only [Bool.and_eq_true, Bool.or_eq_true, Bool.not_eq_true', Bool.not_eq_false', Bool.and_eq_false_imp, Bool.or_eq_false_iff, decide_eq_true_eq, decide_eq_false_iff_not] at c4
    obtain ⟨x5, hx5, h⟩ := of_bind h
    refine call_p false (c_panel_checkKinds hx5) ⟨.same _ trivial, trivial⟩ nofun ?_
    try simp only [go_sem]
    refine cut_l ?_
    try simp only [go_sem]
    refine ways_n (fun c6 => ?_) (fun c6 => ?_)
    ·
      replace h := if_n c6 h
      obtain rfl := Option.some.inj h
      exact wkv_tup ⟨wkv_nilL, .same _ trivial, trivial⟩
    ·
      replace h := if_p c6 h
      obtain ⟨x7, hx7, h⟩ := of_bind h
      refine call_p false (c_panel_cells hx7) ⟨wkE _, trivial⟩ nofun ?_
      try simp only [go_sem]
      refine cut_l ?_
      try simp only [go_sem]
      refine ways_n (fun c8 => ?_) (fun c8 => ?_)
      ·
        replace h := if_n c8 h
        obtain rfl := Option.some.inj h
        exact wkv_tup ⟨wkv_nilL, .same _ trivial, trivial⟩
      ·
        replace h := if_p c8 h
        refine cut_l ?_
        try simp only [go_sem]
        refine ways_d (fun c9 => ?_) (fun c9 => ?_)
        ·
          replace h := if_p c9 h
          obtain rfl := Option.some.inj h
          exact wkv_tup ⟨wkv_nilL, .same _ trivial, trivial⟩
        ·
          replace h := if_n c9 h
          obtain ⟨z10, h10, h⟩ := of_bind h
          refine cut_z z10 (fun (s : Int × List TRect) => [(5, encL 4 encTRect (Prod.fst x7)), (3, AVal.int IntKind.i64 (Prod.fst s)), (2, encL 4 encTRect (Prod.snd s))]) (fun (s : Int × List TRect) => { nx := 1, rows := [] : Heap }) ?_ (fun e10 hz10 => ?_)
          ·
            try simp only [go_sem]
            refine loop_w h10 (fun (s : Int × Int × List TRect × TPanel) => [(52, AVal.int IntKind.i64 (Prod.fst s)), (51, AVal.int IntKind.i64 (↑(List.length (TPanel.Marks a0)) : Int)), (50, encL 2 encTPoint (TPanel.Marks a0)), (5, encL 4 encTRect (Prod.fst x7)), (3, AVal.int IntKind.i64 (Prod.fst (Prod.snd s))), (2, encL 4 encTRect (Prod.fst (Prod.snd (Prod.snd s)))), (1, AVal.ptr (0, 0) 7 0 0)]) (fun (s : Int × Int × List TRect × TPanel) => { nx := 1, rows := [(0, Ent.one { sz := 7, d := encTPanel a0, l := [encTPanel (Prod.snd (Prod.snd (Prod.snd s)))] : Row })] : Heap }) ?_ ?_
            ·
              refine wk_of [(0, some 0)] rfl ?_ ?_
              ·
                try simp only [go_sem]
                exact ⟨.same _ trivial, ⟨.same _ trivial, ⟨.same _ trivial, ⟨.same _ trivial, ⟨.same _ trivial, ⟨wkv_nilL, .ptr _ _ _ _ _ (rn_some rfl)⟩⟩⟩⟩⟩⟩
              ·
                try simp only [go_sem]
                exact wkR_box (rn_some rfl) rfl (wkE _)
            intro n11 s11 o11 h11 he11 hi11
            try simp only [go_sem]
            refine cut_l ?_
            try simp only [go_sem]
            refine ways_d (fun c12 => ?_) (fun c12 => ?_)
            ·
              replace h11 := if_p c12 h11
              refine cut_l ?_
              try simp only [go_sem]
              obtain ⟨g13, h11⟩ := of_guard h11
              refine ob ⟨by assumption, by assumption⟩ ?_
              refine cut_l ?_
              try simp only [go_sem]
              obtain ⟨x14, hx14, h11⟩ := of_bind h11
              refine call_p false (c_panel_isOnPanel hx14) ⟨wkE _, wkE _, trivial⟩ nofun ?_
              try simp only [go_sem]
              refine cut_l ?_
              try simp only [go_sem]
              refine ways (fun c15 => ?_) (fun c15 => ?_)
              ·
                replace h11 := if_t c15 h11
                try simp only [Bool.and_eq_true, Bool.or_eq_true, Bool.not_eq_true', Bool.not_eq_false', Bool.and_eq_false_imp, Bool.or_eq_false_iff, decide_eq_true_eq, decide_eq_false_iff_not] at c15
                obtain rfl := Option.some.inj h11
                obtain rfl := he11 _ rfl
                obtain rfl := Option.some.inj h
                exact wkv_tup ⟨wkv_nilL, .same _ trivial, trivial⟩
              ·
                replace h11 := if_f c15 h11
                try simp only [Bool.and_eq_true, Bool.or_eq_true, Bool.not_eq_true', Bool.not_eq_false', Bool.and_eq_false_imp, Bool.or_eq_false_iff, decide_eq_true_eq, decide_eq_false_iff_not] at c15
                obtain ⟨x16, hx16, h11⟩ := of_bind h11
                refine call_p true (c_slices_ContainsFunc_Rect hx16 (by simp only [go_sem]) (fun _ _ h => c_panel_open_1 h)) ⟨.same _ trivial, wkv_fnA rfl ⟨wkv_box rfl (R0_ne _) rfl (by simp only [go_sem]) (wkE _), trivial⟩, trivial⟩ (fun _ => by simp only [go_sem]) ?_
                refine cut_l ?_
                try simp only [go_sem]
                refine ways (fun c17 => ?_) (fun c17 => ?_)
                ·
                  replace h11 := if_t c17 h11
                  try simp only [Bool.and_eq_true, Bool.or_eq_true, Bool.not_eq_true', Bool.not_eq_false', Bool.and_eq_false_imp, Bool.or_eq_false_iff, decide_eq_true_eq, decide_eq_false_iff_not] at c17
                  obtain rfl := Option.some.inj h11
                  obtain rfl := he11 _ rfl
                  obtain rfl := Option.some.inj h
                  exact wkv_tup ⟨wkv_nilL, .same _ trivial, trivial⟩
                ·
                  replace h11 := if_f c17 h11
                  try simp only [Bool.and_eq_true, Bool.or_eq_true, Bool.not_eq_true', Bool.not_eq_false', Bool.and_eq_false_imp, Bool.or_eq_false_iff, decide_eq_true_eq, decide_eq_false_iff_not] at c17
                  obtain ⟨g18, h11⟩ := of_guard h11
                  refine ob ⟨by assumption, by assumption⟩ ?_
                  obtain ⟨x19, hx19, h11⟩ := of_bind h11
                  refine qcall_p false (fun _ => c_slices_Contains_Point hx19) (fun _ => ⟨.same _ trivial, wkE _, trivial⟩) nofun ?_
                  refine cut_l ?_
                  try simp only [go_sem]
                  refine ways (fun c20 => ?_) (fun c20 => ?_)
                  ·
                    replace h11 := if_t c20 h11
                    try simp only [Bool.and_eq_true, Bool.or_eq_true, Bool.not_eq_true', Bool.not_eq_false', Bool.and_eq_false_imp, Bool.or_eq_false_iff, decide_eq_true_eq, decide_eq_false_iff_not] at c20
                    obtain rfl := Option.some.inj h11
                    obtain rfl := he11 _ rfl
                    obtain rfl := Option.some.inj h
                    exact wkv_tup ⟨wkv_nilL, .same _ trivial, trivial⟩
                  ·
                    replace h11 := if_f c20 h11
                    try simp only [Bool.and_eq_true, Bool.or_eq_true, Bool.not_eq_true', Bool.not_eq_false', Bool.and_eq_false_imp, Bool.or_eq_false_iff, decide_eq_true_eq, decide_eq_false_iff_not] at c20
                    simp only [W64 (n := Prod.fst s11 + 1) (by omega) (by omega)]
                    obtain rfl := Option.some.inj h11
                    refine nextL (hi11 _ rfl) ?_
                    refine wk_of [(0, some 0)] rfl ?_ ?_
                    ·
                      try simp only [go_sem]
                      exact ⟨.same _ trivial, ⟨.same _ trivial, ⟨.same _ trivial, ⟨.same _ trivial, ⟨.same _ trivial, ⟨.same _ trivial, .ptr _ _ _ _ _ (rn_some rfl)⟩⟩⟩⟩⟩⟩
                    ·
                      try simp only [go_sem]
                      exact wkR_box (rn_some rfl) rfl (wkE _)
            ·
              replace h11 := if_n c12 h11
              obtain rfl := Option.some.inj h11
              obtain rfl := he11 _ rfl
              refine zend ?_
              refine wk_of [] rfl ?_ ?_
              ·
                try simp only [go_sem]
                exact ⟨.same _ trivial, ⟨.same _ trivial, .same _ trivial⟩⟩
              ·
                try simp only [go_sem]
          subst hz10
          simp only [Sum.elim_inr] at h
          try simp only [go_sem]
          obtain rfl := Option.some.inj h
          exact wkv_same (by simp only [go_sem]) rfl
theorem c_panel_Cells {a0 : TPanel} {r : (List TRect) × Int} (h : p_panel_Cells a0 = some r)  : PCalls Try.prog 18 [encTPanel a0] (tup [encL 4 encTRect r.1, .int .i64 r.2]) := by
  unfold p_panel_Cells at h
  refine pcalls_of (fun _ => none) (fun _ => []) Try.func18 (by unfold Try.f18; rfl) (by kernel_rfl) (by kernel_rfl) ?_
  simp only [awp_seq]
  simp only [argSlots]
  dsimp only [Try.f18]
  try simp only [go_sem]
  obtain ⟨x0, hx0, h⟩ := of_bind h
  refine call_p false (c_panel_open hx0) ⟨wkE _, trivial⟩ nofun ?_
  try simp only [go_sem]
  obtain rfl := Option.some.inj h
  exact wkv_same (by simp only [go_sem]) rfl
theorem c_panel_Tabs {a0 : TPanel} {a1 : Int} {a2 : Int} {r : (List TPoint) × Int} (h : p_panel_Tabs a0 a1 a2 = some r)  : PCalls Try.prog 17 [encTPanel a0, .int .i64 a1, .int .i64 a2] (tup [encL 2 encTPoint r.1, .int .i64 r.2]) := by
  unfold p_panel_Tabs at h
  refine pcalls_of (ordOf [(30, [0, 1, 3, 5, 8, 10, 13, 15, 17, 20, 22, 2, 4, 6, 7, 9, 11, 12, 14, 16, 18, 19, 21, 23, 24, 25, 26, 27, 28])]) (fun _ => []) Try.func17 (by unfold Try.f17; rfl) (by kernel_rfl) (by kernel_rfl) ?_
  simp only [awp_seq]
  simp only [argSlots]
  dsimp only [Try.f17]
  try simp only [go_sem]
  obtain ⟨x0, hx0, h⟩ := of_bind h
  refine call_p false (c_panel_open hx0) ⟨wkE _, trivial⟩ nofun ?_
  try simp only [go_sem]
  refine cut_l ?_
  try simp only [go_sem]
  refine ways_n (fun c1 => ?_) (fun c1 => ?_)
  ·
    replace h := if_n c1 h
    obtain rfl := Option.some.inj h
    exact wkv_tup ⟨wkv_nilL, .same _ trivial, trivial⟩
  ·
    replace h := if_p c1 h
    obtain ⟨⟨g2_0, g2_1⟩, h⟩ := of_guard h
    simp only [W64 g2_0 g2_1]
    obtain ⟨x3, hx3, h⟩ := of_bind h
    refine call_p false (c_panel_within hx3) ⟨.same _ trivial, .same _ trivial, .same _ trivial, trivial⟩ nofun ?_
    try simp only [go_sem]
    refine cut_l ?_
    try simp only [go_sem]
    refine ways (fun c4 => ?_) (fun c4 => ?_)
    ·
      replace h := if_t c4 h
      try simp only [Bool.and_eq_true, Bool.or_eq_true, Bool.not_eq_true', Bool.not_eq_false', Bool.and_eq_false_imp, Bool.or_eq_false_iff, decide_eq_true_eq, decide_eq_false_iff_not] at c4
      obtain rfl := Option.some.inj h
      exact wkv_tup ⟨wkv_nilL, .same _ trivial, trivial⟩
    ·
      replace h := if_f c4 h
      try simp only [Bool.and_eq_true, Bool.or_eq_true, Bool.not_eq_true', Bool.not_eq_false', Bool.and_eq_false_imp, Bool.or_eq_false_iff, decide_eq_true_eq, decide_eq_false_iff_not] at c4
      obtain ⟨x5, hx5, h⟩ := of_bind h
      refine call_p false (c_panel_within hx5) ⟨.same _ trivial, .same _ trivial, .same _ trivial, trivial⟩ nofun ?_
      try simp only [go_sem]
      refine cut_l ?_
      try simp only [go_sem]
      refine ways (fun c6 => ?_) (fun c6 => ?_)
      ·
        replace h := if_t c6 h
        try simp only [Bool.and_eq_true, Bool.or_eq_true, Bool.not_eq_true', Bool.not_eq_false', Bool.and_eq_false_imp, Bool.or_eq_false_iff, decide_eq_true_eq, decide_eq_false_iff_not] at c6
        obtain rfl := Option.some.inj h
        exact wkv_tup ⟨wkv_nilL, .same _ trivial, trivial⟩
      ·
        replace h := if_f c6 h
        try simp only [Bool.and_eq_true, Bool.or_eq_true, Bool.not_eq_true', Bool.not_eq_false', Bool.and_eq_false_imp, Bool.or_eq_false_iff, decide_eq_true_eq, decide_eq_false_iff_not] at c6
        obtain ⟨⟨g7_0, g7_1⟩, h⟩ := of_guard h
        refine ob ⟨by assumption, by assumption⟩ ?_
        obtain ⟨e8, h8, h⟩ := of_bind h
        refine cut_j ([(13, AVal.int IntKind.i64 e8), (12, fn 50 [AVal.ptr (2, 0) 4 0 0, AVal.ptr (1, 0) 1 0 0]), (11, AVal.sref (4, 0) 0 2 4), (7, AVal.int IntKind.i64 0), (6, AVal.nilsl)]) ({ nx := 5, rows := [(4, Ent.one { sz := 2, d := encTPoint { : TPoint }, l := List.map encTPoint [{ X := TRect.X0 (List.getD (Prod.fst x0) (Int.toNat a1) default), Y := TRect.Y0 (List.getD (Prod.fst x0) (Int.toNat a1) default) : TPoint }, { X := TRect.X1 (List.getD (Prod.fst x0) (Int.toNat a1) default), Y := TRect.Y0 (List.getD (Prod.fst x0) (Int.toNat a1) default) : TPoint }, { X := TRect.X1 (List.getD (Prod.fst x0) (Int.toNat a1) default), Y := TRect.Y1 (List.getD (Prod.fst x0) (Int.toNat a1) default) : TPoint }, { X := TRect.X0 (List.getD (Prod.fst x0) (Int.toNat a1) default), Y := TRect.Y1 (List.getD (Prod.fst x0) (Int.toNat a1) default) : TPoint }] : Row }), (2, Ent.one { sz := 4, d := encTRect { : TRect }, l := [encTRect (List.getD (Prod.fst x0) (Int.toNat a1) default)] : Row }), (1, Ent.one { sz := 1, d := AVal.int IntKind.i64 a2, l := [AVal.int IntKind.i64 a2] : Row })] : Heap }) ?_ ?_
        ·
          try simp only [go_sem]
          refine loop_w h8 (fun (s : Int × Int) => [(70, AVal.int IntKind.i64 (Prod.fst s)), (69, AVal.int IntKind.i64 (↑4 : Int)), (13, AVal.int IntKind.i64 (Prod.snd s)), (12, fn 50 [AVal.ptr (2, 0) 4 0 0, AVal.ptr (1, 0) 1 0 0]), (11, AVal.sref (4, 0) 0 2 4), (7, AVal.int IntKind.i64 0), (6, AVal.nilsl)]) (fun (s : Int × Int) => { nx := 5, rows := [(4, Ent.one { sz := 2, d := encTPoint { : TPoint }, l := List.map encTPoint [{ X := TRect.X0 (List.getD (Prod.fst x0) (Int.toNat a1) default), Y := TRect.Y0 (List.getD (Prod.fst x0) (Int.toNat a1) default) : TPoint }, { X := TRect.X1 (List.getD (Prod.fst x0) (Int.toNat a1) default), Y := TRect.Y0 (List.getD (Prod.fst x0) (Int.toNat a1) default) : TPoint }, { X := TRect.X1 (List.getD (Prod.fst x0) (Int.toNat a1) default), Y := TRect.Y1 (List.getD (Prod.fst x0) (Int.toNat a1) default) : TPoint }, { X := TRect.X0 (List.getD (Prod.fst x0) (Int.toNat a1) default), Y := TRect.Y1 (List.getD (Prod.fst x0) (Int.toNat a1) default) : TPoint }] : Row }), (2, Ent.one { sz := 4, d := encTRect { : TRect }, l := [encTRect (List.getD (Prod.fst x0) (Int.toNat a1) default)] : Row }), (1, Ent.one { sz := 1, d := AVal.int IntKind.i64 a2, l := [AVal.int IntKind.i64 a2] : Row })] : Heap }) ?_ ?_
          ·
            refine wk_of [(4, some 4), (2, some 2), (1, some 1)] rfl ?_ ?_
            ·
              try simp only [go_sem]
              exact ⟨.same _ trivial, ⟨.same _ trivial, ⟨.same _ trivial, ⟨wkv_fnA rfl ⟨.ptr _ _ _ _ _ (rn_some rfl), .ptr _ _ _ _ _ (rn_some rfl), trivial⟩, ⟨wkv_sref (rn_some rfl) rfl, ⟨.same _ trivial, .same _ trivial⟩⟩⟩⟩⟩⟩
            ·
              try simp only [go_sem]
              exact ⟨wkR_typed (rn_some rfl) rfl rfl, ⟨wkR_box (rn_some rfl) rfl (wkE _), wkR_box (rn_some rfl) rfl (.same _ trivial)⟩⟩
          intro n9 s9 o9 h9 he9 hi9
          try simp only [go_sem]
          refine cut_l ?_
          try simp only [go_sem]
          refine ways_d (fun c10 => ?_) (fun c10 => ?_)
          ·
            replace h9 := if_p c10 h9
            refine cut_l ?_
            try simp only [go_sem]
            obtain ⟨x11, hx11, h9⟩ := of_bind h9
            refine call_p true (c_panel_Tabs_1 hx11) ⟨.same _ trivial, wkv_box rfl (R0_ne _) rfl (by simp only [go_sem]) (wkE _), wkv_box rfl (R0_ne _) rfl (by simp only [go_sem]) (.same _ trivial), trivial⟩ (fun _ => by simp only [go_sem]) ?_
            try simp only [go_sem]
            obtain ⟨⟨g12_0, g12_1⟩, h9⟩ := of_guard h9
            simp only [W64 g12_0 g12_1]
            obtain ⟨⟨g13_0, g13_1⟩, h9⟩ := of_guard h9
            simp only [W64 g13_0 g13_1]
            obtain ⟨⟨g14_0, g14_1⟩, h9⟩ := of_guard h9
            simp only [W64 g14_0 g14_1]
            obtain rfl := Option.some.inj h9
            refine nextL (hi9 _ rfl) ?_
            refine wk_of [(4, some 4), (2, some 2), (1, some 1)] rfl ?_ ?_
            ·
              try simp only [go_sem]
              exact ⟨.same _ trivial, ⟨.same _ trivial, ⟨.same _ trivial, ⟨wkv_fnA rfl ⟨.ptr _ _ _ _ _ (rn_some rfl), .ptr _ _ _ _ _ (rn_some rfl), trivial⟩, ⟨wkv_sref (rn_some rfl) rfl, ⟨.same _ trivial, .same _ trivial⟩⟩⟩⟩⟩⟩
            ·
              try simp only [go_sem]
              exact ⟨wkR_typed (rn_some rfl) rfl rfl, ⟨wkR_box (rn_some rfl) rfl (wkE _), wkR_box (rn_some rfl) rfl (.same _ trivial)⟩⟩
          ·
            replace h9 := if_n c10 h9
            obtain rfl := Option.some.inj h9
            obtain rfl := he9 _ rfl
            refine wk_of [(4, some 4), (2, some 2), (1, some 1)] rfl ?_ ?_
            ·
              try simp only [go_sem]
              exact ⟨.same _ trivial, ⟨wkv_fnA rfl ⟨.ptr _ _ _ _ _ (rn_some rfl), .ptr _ _ _ _ _ (rn_some rfl), trivial⟩, ⟨wkv_sref (rn_some rfl) rfl, ⟨.same _ trivial, .same _ trivial⟩⟩⟩⟩
            ·
              try simp only [go_sem]
              exact ⟨wkR_typed (rn_some rfl) rfl rfl, ⟨wkR_box (rn_some rfl) rfl (wkE _), wkR_box (rn_some rfl) rfl (.same _ trivial)⟩⟩
        try simp only [go_sem]
        refine cut_l ?_
        try simp only [go_sem]
        refine ways_d (fun c15 => ?_) (fun c15 => ?_)
        ·
          replace h := if_p c15 h
          obtain rfl := Option.some.inj h
          exact wkv_tup ⟨wkv_nilL, .same _ trivial, trivial⟩
        ·
          replace h := if_n c15 h
          obtain ⟨e16, h16, h⟩ := of_bind h
          refine cut_j ([(17, AVal.sref (5, 0) 0 2 (List.length e16)), (7, AVal.int IntKind.i64 0), (6, AVal.nilsl)]) ({ nx := 6, rows := [(5, Ent.one { sz := 2, d := encTPoint default, l := List.map encTPoint e16 : Row })] : Heap }) ?_ ?_
          ·
            try simp only [go_sem]
            refine loop_w h16 (fun (s : Int × List TPoint × List TPoint × TRect × Int) => [(88, AVal.int IntKind.i64 (Prod.fst s)), (87, AVal.int IntKind.i64 (↑4 : Int)), (86, AVal.sref (4, 0) 0 2 4), (17, AVal.sref (5, 0) 0 2 (List.length (Prod.fst (Prod.snd s)))), (12, fn 50 [AVal.ptr (2, 0) 4 0 0, AVal.ptr (1, 0) 1 0 0]), (11, AVal.sref (4, 0) 0 2 4), (7, AVal.int IntKind.i64 0), (6, AVal.nilsl)]) (fun (s : Int × List TPoint × List TPoint × TRect × Int) => { nx := 6, rows := [(5, Ent.one { sz := 2, d := encTPoint default, l := List.map encTPoint (Prod.fst (Prod.snd s)) : Row }), (4, Ent.one { sz := 2, d := encTPoint { : TPoint }, l := List.map encTPoint (Prod.fst (Prod.snd (Prod.snd s))) : Row }), (2, Ent.one { sz := 4, d := encTRect { : TRect }, l := [encTRect (Prod.fst (Prod.snd (Prod.snd (Prod.snd s))))] : Row }), (1, Ent.one { sz := 1, d := AVal.int IntKind.i64 a2, l := [AVal.int IntKind.i64 (Prod.snd (Prod.snd (Prod.snd (Prod.snd s))))] : Row })] : Heap }) ?_ ?_
            ·
              refine wk_of [(4, some 4), (5, none), (2, some 2), (1, some 1)] rfl ?_ ?_
              ·
                try simp only [go_sem]
                exact ⟨.same _ trivial, ⟨.same _ trivial, ⟨wkv_sref (rn_some rfl) rfl, ⟨wkv_nil (rn_none rfl) rfl, ⟨wkv_fnA rfl ⟨.ptr _ _ _ _ _ (rn_some rfl), .ptr _ _ _ _ _ (rn_some rfl), trivial⟩, ⟨wkv_sref (rn_some rfl) rfl, ⟨.same _ trivial, .same _ trivial⟩⟩⟩⟩⟩⟩⟩
              ·
                try simp only [go_sem]
                exact ⟨wkR_nilT (rn_none rfl), ⟨wkR_typed (rn_some rfl) rfl rfl, ⟨wkR_box (rn_some rfl) rfl (wkE _), wkR_box (rn_some rfl) rfl (.same _ trivial)⟩⟩⟩
            intro n17 s17 o17 h17 he17 hi17
            try simp only [go_sem]
            refine cut_l ?_
            try simp only [go_sem]
            refine ways_d (fun c18 => ?_) (fun c18 => ?_)
            ·
              replace h17 := if_p c18 h17
              obtain ⟨e19, h19, h17⟩ := of_bind h17
              refine cut_j ([(88, AVal.int IntKind.i64 (Prod.fst s17)), (87, AVal.int IntKind.i64 4), (86, AVal.sref (4, 0) 0 2 4), (17, AVal.sref (5, 0) 0 2 (List.length (Prod.fst e19))), (12, fn 50 [AVal.ptr (2, 0) 4 0 0, AVal.ptr (1, 0) 1 0 0]), (11, AVal.sref (4, 0) 0 2 4), (7, AVal.int IntKind.i64 0), (6, AVal.nilsl)]) ({ nx := 6, rows := [(5, Ent.one { sz := 2, d := encTPoint default, l := List.map encTPoint (Prod.fst e19) : Row }), (4, Ent.one { sz := 2, d := encTPoint { : TPoint }, l := List.map encTPoint (Prod.fst (Prod.snd e19)) : Row }), (2, Ent.one { sz := 4, d := encTRect { : TRect }, l := [encTRect (Prod.fst (Prod.snd (Prod.snd e19)))] : Row }), (1, Ent.one { sz := 1, d := AVal.int IntKind.i64 a2, l := [AVal.int IntKind.i64 (Prod.snd (Prod.snd (Prod.snd e19)))] : Row })] : Heap }) ?_ ?_
              ·
                try simp only [go_sem]
                obtain ⟨⟨g20_0, g20_1⟩, h19⟩ := of_guard h19
                refine ob ⟨⟨by assumption, by assumption⟩, by assumption⟩ ?_
                simp only [W64 (n := Prod.fst s17 + 1) (by omega) (by omega)]
                obtain ⟨⟨g21_0, g21_1, g21_2⟩, h19⟩ := of_guard h19
                refine ob ⟨⟨by omega, ⟨by assumption, by assumption⟩⟩, by assumption⟩ ?_
                obtain ⟨x22, hx22, h19⟩ := of_bind h19
                refine call_p true (c_panel_Tabs_1 hx22) ⟨.same _ trivial, wkv_box rfl (R0_ne _) rfl (by simp only [go_sem]) (wkE _), wkv_box rfl (R0_ne _) rfl (by simp only [go_sem]) (.same _ trivial), trivial⟩ (fun _ => by simp only [go_sem]) ?_
                try simp only [go_sem]
                refine cut_l ?_
                try simp only [go_sem]
                refine loop_w h19 (fun (s : Int × List TPoint) => [(23, AVal.int IntKind.i64 (Prod.fst s)), (22, AVal.int IntKind.i64 (Prod.snd x22)), (21, AVal.int IntKind.i64 (Prod.fst x22)), (20, AVal.ptr (8, 0) 2 0 0), (19, AVal.ptr (6, 0) 2 0 0), (88, AVal.int IntKind.i64 (Prod.fst s17)), (87, AVal.int IntKind.i64 4), (86, AVal.sref (4, 0) 0 2 4), (17, AVal.sref (5, 0) 0 2 (List.length (Prod.snd s))), (12, fn 50 [AVal.ptr (2, 0) 4 0 0, AVal.ptr (1, 0) 1 0 0]), (11, AVal.sref (4, 0) 0 2 4), (7, AVal.int IntKind.i64 0), (6, AVal.nilsl)]) (fun (s : Int × List TPoint) => { nx := 10, rows := [(8, Ent.one { sz := 2, d := encTPoint { : TPoint }, l := [encTPoint (List.getD (Prod.fst (Prod.snd (Prod.snd s17))) (Int.toNat (Int.tmod (Prod.fst s17 + 1) 4)) default)] : Row }), (6, Ent.one { sz := 2, d := encTPoint { : TPoint }, l := [encTPoint (List.getD (Prod.fst (Prod.snd (Prod.snd s17))) (Int.toNat (Prod.fst s17)) default)] : Row }), (5, Ent.one { sz := 2, d := encTPoint default, l := List.map encTPoint (Prod.snd s) : Row }), (4, Ent.one { sz := 2, d := encTPoint { : TPoint }, l := List.map encTPoint (Prod.fst (Prod.snd (Prod.snd s17))) : Row }), (2, Ent.one { sz := 4, d := encTRect { : TRect }, l := [encTRect (Prod.fst (Prod.snd (Prod.snd (Prod.snd s17))))] : Row }), (1, Ent.one { sz := 1, d := AVal.int IntKind.i64 a2, l := [AVal.int IntKind.i64 (Prod.snd (Prod.snd (Prod.snd (Prod.snd s17))))] : Row })] : Heap }) ?_ ?_
                ·
                  refine wk_of [(8, some 8), (6, some 6), (4, some 4), (5, some 5), (2, some 2), (1, some 1)] rfl ?_ ?_
                  ·
                    try simp only [go_sem]
                    exact ⟨.same _ trivial, ⟨.same _ trivial, ⟨.same _ trivial, ⟨.ptr _ _ _ _ _ (rn_some rfl), ⟨.ptr _ _ _ _ _ (rn_some rfl), ⟨.same _ trivial, ⟨.same _ trivial, ⟨wkv_sref (rn_some rfl) rfl, ⟨wkv_sref (rn_some rfl) rfl, ⟨wkv_fnA rfl ⟨.ptr _ _ _ _ _ (rn_some rfl), .ptr _ _ _ _ _ (rn_some rfl), trivial⟩, ⟨wkv_sref (rn_some rfl) rfl, ⟨.same _ trivial, .same _ trivial⟩⟩⟩⟩⟩⟩⟩⟩⟩⟩⟩⟩
                  ·
                    try simp only [go_sem]
                    exact ⟨wkR_box (rn_some rfl) rfl (wkE _), ⟨wkR_box (rn_some rfl) rfl (wkE _), ⟨wkR_typed (rn_some rfl) rfl rfl, ⟨wkR_typed (rn_some rfl) rfl rfl, ⟨wkR_box (rn_some rfl) rfl (wkE _), wkR_box (rn_some rfl) rfl (.same _ trivial)⟩⟩⟩⟩⟩
                intro n23 s23 o23 h23 he23 hi23
                try simp only [go_sem]
                refine cut_l ?_
                try simp only [go_sem]
                refine ways_d (fun c24 => ?_) (fun c24 => ?_)
                ·
                  replace h23 := if_p c24 h23
                  refine cut_l ?_
                  try simp only [go_sem]
                  obtain ⟨g25, h23⟩ := of_guard h23
                  refine ob (by assumption) ?_
                  obtain ⟨⟨g26_0, g26_1⟩, h23⟩ := of_guard h23
                  refine ob ⟨by assumption, ⟨by omega, by assumption⟩⟩ ?_
                  obtain ⟨⟨g27_0, g27_1⟩, h23⟩ := of_guard h23
                  simp only [W64 g27_0 g27_1]
                  obtain ⟨⟨g28_0, g28_1⟩, h23⟩ := of_guard h23
                  simp only [W64 g28_0 g28_1]
                  obtain ⟨⟨g29_0, g29_1⟩, h23⟩ := of_guard h23
                  simp only [W64 g29_0 g29_1]
                  obtain ⟨⟨g30_0, g30_1⟩, h23⟩ := of_guard h23
                  simp only [W64 g30_0 g30_1]
                  obtain ⟨⟨g31_0, g31_1⟩, h23⟩ := of_guard h23
                  simp only [W64 g31_0 g31_1]
                  obtain ⟨⟨g32_0, g32_1⟩, h23⟩ := of_guard h23
                  simp only [W64 g32_0 g32_1]
                  obtain ⟨⟨g33_0, g33_1⟩, h23⟩ := of_guard h23
                  simp only [W64 g33_0 g33_1]
                  obtain ⟨⟨g34_0, g34_1⟩, h23⟩ := of_guard h23
                  simp only [W64 g34_0 g34_1]
                  obtain ⟨⟨g35_0, g35_1⟩, h23⟩ := of_guard h23
                  simp only [W64 g35_0 g35_1]
                  obtain ⟨⟨g36_0, g36_1⟩, h23⟩ := of_guard h23
                  simp only [W64 g36_0 g36_1]
                  obtain ⟨⟨g37_0, g37_1⟩, h23⟩ := of_guard h23
                  simp only [W64 g37_0 g37_1]
                  obtain rfl := Option.some.inj h23
                  refine nextL (hi23 _ rfl) ?_
                  refine wk_of [(8, some 8), (6, some 6), (4, some 4), (5, some 152), (2, some 2), (1, some 1)] rfl ?_ ?_
                  ·
                    try simp only [go_sem]
                    exact ⟨.same _ trivial, ⟨.same _ trivial, ⟨.same _ trivial, ⟨.ptr _ _ _ _ _ (rn_some rfl), ⟨.ptr _ _ _ _ _ (rn_some rfl), ⟨.same _ trivial, ⟨.same _ trivial, ⟨wkv_sref (rn_some rfl) rfl, ⟨wkv_sref (rn_some rfl) rfl, ⟨wkv_fnA rfl ⟨.ptr _ _ _ _ _ (rn_some rfl), .ptr _ _ _ _ _ (rn_some rfl), trivial⟩, ⟨wkv_sref (rn_some rfl) rfl, ⟨.same _ trivial, .same _ trivial⟩⟩⟩⟩⟩⟩⟩⟩⟩⟩⟩⟩
                  ·
                    try simp only [go_sem]
                    exact ⟨wkR_box (rn_some rfl) rfl (wkE _), ⟨wkR_box (rn_some rfl) rfl (wkE _), ⟨wkR_typed (rn_some rfl) rfl rfl, ⟨wkR_typed (rn_some rfl) rfl rfl, ⟨wkR_box (rn_some rfl) rfl (wkE _), wkR_box (rn_some rfl) rfl (.same _ trivial)⟩⟩⟩⟩⟩
                ·
                  replace h23 := if_n c24 h23
                  obtain rfl := Option.some.inj h23
                  obtain rfl := he23 _ rfl
                  refine wk_of [(4, some 4), (5, some 5), (2, some 2), (1, some 1)] rfl ?_ ?_
                  ·
                    try simp only [go_sem]
                    exact ⟨.same _ trivial, ⟨.same _ trivial, ⟨wkv_sref (rn_some rfl) rfl, ⟨wkv_sref (rn_some rfl) rfl, ⟨wkv_fnA rfl ⟨.ptr _ _ _ _ _ (rn_some rfl), .ptr _ _ _ _ _ (rn_some rfl), trivial⟩, ⟨wkv_sref (rn_some rfl) rfl, ⟨.same _ trivial, .same _ trivial⟩⟩⟩⟩⟩⟩⟩
                  ·
                    try simp only [go_sem]
                    exact ⟨wkR_typed (rn_some rfl) rfl rfl, ⟨wkR_typed (rn_some rfl) rfl rfl, ⟨wkR_box (rn_some rfl) rfl (wkE _), wkR_box (rn_some rfl) rfl (.same _ trivial)⟩⟩⟩
              try simp only [go_sem]
              obtain ⟨⟨g38_0, g38_1⟩, h17⟩ := of_guard h17
              simp only [W64 g38_0 g38_1]
              obtain rfl := Option.some.inj h17
              refine nextL (hi17 _ rfl) ?_
              refine wk_of [(4, some 4), (5, some 5), (2, some 2), (1, some 1)] rfl ?_ ?_
              ·
                try simp only [go_sem]
                exact ⟨.same _ trivial, ⟨.same _ trivial, ⟨wkv_sref (rn_some rfl) rfl, ⟨wkv_sref (rn_some rfl) rfl, ⟨wkv_fnA rfl ⟨.ptr _ _ _ _ _ (rn_some rfl), .ptr _ _ _ _ _ (rn_some rfl), trivial⟩, ⟨wkv_sref (rn_some rfl) rfl, ⟨.same _ trivial, .same _ trivial⟩⟩⟩⟩⟩⟩⟩
              ·
                try simp only [go_sem]
                exact ⟨wkR_typed (rn_some rfl) rfl rfl, ⟨wkR_typed (rn_some rfl) rfl rfl, ⟨wkR_box (rn_some rfl) rfl (wkE _), wkR_box (rn_some rfl) rfl (.same _ trivial)⟩⟩⟩
            ·
              replace h17 := if_n c18 h17
              obtain rfl := Option.some.inj h17
              obtain rfl := he17 _ rfl
              refine wk_of [(5, some 5)] rfl ?_ ?_
              ·
                try simp only [go_sem]
                exact ⟨wkv_sref (rn_some rfl) rfl, ⟨.same _ trivial, .same _ trivial⟩⟩
              ·
                try simp only [go_sem]
                exact wkR_typed (rn_some rfl) rfl rfl
          try simp only [go_sem]
          obtain rfl := Option.some.inj h
          exact wkv_tup ⟨wkv_own rfl (R0_ne _) rfl, .same _ trivial, trivial⟩
theorem c_panel_Use {a0 : TPanel} {r : TShare × Int} (h : p_panel_Use a0 = some r)  : PCalls Try.prog 48 [encTPanel a0] (tup [encTShare r.1, .int .i64 r.2]) := by
  unfold p_panel_Use at h
  refine pcalls_of (ordOf [(4, [0, 2, 4, 1, 3, 5, 6, 7, 8, 9])]) (fun _ => []) Try.func48 (by unfold Try.f48; rfl) (by kernel_rfl) (by kernel_rfl) ?_
  simp only [awp_seq]
  simp only [argSlots]
  dsimp only [Try.f48]
  try simp only [go_sem]
  obtain ⟨x0, hx0, h⟩ := of_bind h
  refine call_p false (c_panel_open hx0) ⟨wkE _, trivial⟩ nofun ?_
  try simp only [go_sem]
  refine cut_l ?_
  try simp only [go_sem]
  refine ways_n (fun c1 => ?_) (fun c1 => ?_)
  ·
    replace h := if_n c1 h
    obtain rfl := Option.some.inj h
    exact wkv_same (by simp only [go_sem]) rfl
  ·
    replace h := if_p c1 h
    obtain ⟨x2, hx2, h⟩ := of_bind h
    refine qcall_p false (fun _ => c_shape_AreaOf hx2) (fun _ => ⟨.same _ trivial, trivial⟩) nofun ?_
    obtain ⟨⟨g3_0, g3_1⟩, h⟩ := of_guard h
    simp only [W64 g3_0 g3_1]
    obtain ⟨x4, hx4, h⟩ := of_bind h
    refine qcall_p false (fun _ => c_panel_Lowest hx4) (fun _ => ⟨.same _ trivial, .same _ trivial, trivial⟩) nofun ?_
    try simp only [go_sem]
    obtain rfl := Option.some.inj h
    exact wkv_same (by simp only [go_sem]) rfl
theorem c_law9_awake {r : Bool} (h : p_law9_awake  = some r)  : PCalls Try.prog 16 [] (.bool r) := by
  unfold p_law9_awake at h
  refine pcalls_of (fun _ => none) (fun _ => []) Try.func16 (by unfold Try.f16; rfl) (by kernel_rfl) (by kernel_rfl) ?_
  simp only [awp_seq]
  simp only [argSlots]
  dsimp only [Try.f16]
  try simp only [go_sem]
  obtain ⟨x0, hx0, h⟩ := of_bind h
  refine call_p false (c_panel_Use hx0) ⟨wkv_aggA rfl ⟨.same _ trivial, .same _ trivial, .same _ trivial, .same _ trivial, wkv_nilL, wkv_nilL, wkv_nilL, trivial⟩, trivial⟩ nofun ?_
  try simp only [go_sem]
  obtain rfl := Option.some.inj h
  exact .same _ trivial
theorem c_law9_TabsHold {a0 : TPanel} {a1 : Int} {a2 : Int} {r : Bool} (h : p_law9_TabsHold a0 a1 a2 = some r)  : PCalls Try.prog 4 [encTPanel a0, .int .i64 a1, .int .i64 a2] (.bool r) := by
  unfold p_law9_TabsHold at h
  refine pcalls_of (ordOf [(11, [0, 1, 2, 3, 5, 4, 6, 7, 8, 9, 10, 11, 12, 14, 13, 15, 16, 17, 18, 19, 20, 21, 22, 24, 23, 25, 26, 27, 28, 29, 30, 31, 32, 34, 33, 35, 36, 37, 38, 39, 40, 41, 42, 44, 43, 45, 46, 47, 48, 49, 50, 51, 53, 52, 54, 55, 56, 57, 58, 59, 60, 61, 63, 62, 64, 65, 66, 67, 68, 69, 70, 71, 73, 72, 74, 75, 76, 77, 78])]) (fun _ => []) Try.func4 (by unfold Try.f4; rfl) (by kernel_rfl) (by kernel_rfl) ?_
  simp only [awp_seq]
  simp only [argSlots]
  dsimp only [Try.f4]
  try simp only [go_sem]
  obtain ⟨x0, hx0, h⟩ := of_bind h
  refine call_p false (c_panel_Tabs hx0) ⟨wkE _, .same _ trivial, .same _ trivial, trivial⟩ nofun ?_
  try simp only [go_sem]
  refine cut_l ?_
  try simp only [go_sem]
  refine ways_n (fun c1 => ?_) (fun c1 => ?_)
  ·
    replace h := if_n c1 h
    obtain ⟨x2, hx2, h⟩ := of_bind h
    refine qcall_p false (fun hg => c_law9_awake (if_t hg hx2)) (fun _ => trivial) nofun ?_
    try simp only [go_sem]
    obtain rfl := Option.some.inj h
    exact .same _ trivial
  ·
    replace h := if_p c1 h
    obtain ⟨x3, hx3, h⟩ := of_bind h
    refine call_p false (c_panel_Cells hx3) ⟨wkE _, trivial⟩ nofun ?_
    try simp only [go_sem]
    refine ob ⟨⟨by simp, by simp⟩, by simp⟩ ?_
    refine cut_l ?_
    try simp only [go_sem]
    refine ways (fun c4 => ?_) (fun c4 => ?_)
    ·
      replace h := if_t c4 h
      try simp only [Bool.and_eq_true, Bool.or_eq_true, Bool.not_eq_true', Bool.not_eq_false', Bool.and_eq_false_imp, Bool.or_eq_false_iff, decide_eq_true_eq, decide_eq_false_iff_not] at c4
      obtain rfl := Option.some.inj h
      exact .same _ trivial
    ·
      replace h := if_f c4 h
      try simp only [Bool.and_eq_true, Bool.or_eq_true, Bool.not_eq_true', Bool.not_eq_false', Bool.and_eq_false_imp, Bool.or_eq_false_iff, decide_eq_true_eq, decide_eq_false_iff_not] at c4
      refine ob ⟨by omega, by omega⟩ ?_
      obtain ⟨z5, h5, h⟩ := of_bind h
      refine cut_z z5 (fun (s : Bool) => [(6, AVal.bool s)]) (fun (s : Bool) => { nx := 3, rows := [] : Heap }) ?_ (fun e5 hz5 => ?_)
      ·
        try simp only [go_sem]
        refine loop_w h5 (fun (s : Int × Bool) => [(11, AVal.int IntKind.i64 (Prod.fst s)), (10, AVal.ptr (1, 0) 4 0 0), (7, encL 2 encTPoint (Prod.fst x0)), (6, AVal.bool (Prod.snd s))]) (fun (s : Int × Bool) => { nx := 3, rows := [(1, Ent.one { sz := 4, d := encTRect { : TRect }, l := [encTRect (List.getD (Prod.fst x3) (Int.toNat a1) default)] : Row })] : Heap }) ?_ ?_
        ·
          refine wk_of [(1, some 1)] rfl ?_ ?_
          ·
            try simp only [go_sem]
            exact ⟨.same _ trivial, ⟨.ptr _ _ _ _ _ (rn_some rfl), ⟨.same _ trivial, .same _ trivial⟩⟩⟩
          ·
            try simp only [go_sem]
            exact wkR_box (rn_some rfl) rfl (wkE _)
        intro n6 s6 o6 h6 he6 hi6
        try simp only [go_sem]
        refine cut_l ?_
        try simp only [go_sem]
        refine ways_d (fun c7 => ?_) (fun c7 => ?_)
        ·
          replace h6 := if_p c7 h6
          refine cut_l ?_
          try simp only [go_sem]
          obtain ⟨⟨g8_0, g8_1, g8_2, g8_3, g8_4, g8_5, g8_6, g8_7⟩, h6⟩ := of_guard h6
          refine ob ⟨⟨⟨⟨⟨⟨⟨⟨⟨⟨⟨⟨⟨by assumption, by assumption⟩, by assumption⟩, by simp⟩, by assumption⟩, by assumption⟩, by assumption⟩, by assumption⟩, by intro h1 h2; simp only [h1, h2, Bool.and_self, Bool.not_true, Bool.not_false, Bool.and_true, Bool.true_and]⟩, by assumption⟩, by intro h1 h2; simp only [h1, h2, Bool.and_self, Bool.not_true, Bool.not_false, Bool.and_true, Bool.true_and]⟩, by assumption⟩, by intro h1 h2; simp only [h1, h2, Bool.and_self, Bool.not_true, Bool.not_false, Bool.and_true, Bool.true_and]⟩, by intro h1; simp only [h1, Bool.and_self, Bool.not_true, Bool.not_false, Bool.and_true, Bool.true_and]⟩ ?_
          refine cut_l ?_
          try simp only [go_sem]
          refine ways (fun c9 => ?_) (fun c9 => ?_)
          ·
            replace h6 := if_t c9 h6
            try simp only [Bool.and_eq_true, Bool.or_eq_true, Bool.not_eq_true', Bool.not_eq_false', Bool.and_eq_false_imp, Bool.or_eq_false_iff, decide_eq_true_eq, decide_eq_false_iff_not] at c9
            obtain rfl := Option.some.inj h6
            obtain rfl := he6 _ rfl
            obtain rfl := Option.some.inj h
            exact .same _ trivial
          ·
            replace h6 := if_f c9 h6
            try simp only [Bool.and_eq_true, Bool.or_eq_true, Bool.not_eq_true', Bool.not_eq_false', Bool.and_eq_false_imp, Bool.or_eq_false_iff, decide_eq_true_eq, decide_eq_false_iff_not] at c9
            obtain ⟨⟨g10_0, g10_1⟩, h6⟩ := of_guard h6
            simp only [W64 g10_0 g10_1]
            obtain rfl := Option.some.inj h6
            refine nextL (hi6 _ rfl) ?_
            refine wk_of [(1, some 1)] rfl ?_ ?_
            ·
              try simp only [go_sem]
              exact ⟨.same _ trivial, ⟨.ptr _ _ _ _ _ (rn_some rfl), ⟨.same _ trivial, .same _ trivial⟩⟩⟩
            ·
              try simp only [go_sem]
              exact wkR_box (rn_some rfl) rfl (wkE _)
        ·
          replace h6 := if_n c7 h6
          obtain rfl := Option.some.inj h6
          obtain rfl := he6 _ rfl
          refine zend ?_
          refine wk_of [] rfl ?_ ?_
          ·
            try simp only [go_sem]
            exact .same _ trivial
          ·
            try simp only [go_sem]
      subst hz5
      simp only [Sum.elim_inr] at h
      try simp only [go_sem]
      obtain ⟨x11, hx11, h⟩ := of_bind h
      refine call_p false (c_law9_awake hx11) trivial nofun ?_
      obtain rfl := Option.some.inj h
      exact .same _ trivial
end Go.Nw
