/- The walks of the functions. -/
import Derived.Test.YtngdglmimlfefaaNwSortF
import Derived.Test.YtngdglmimlfefaaNwDA
set_option linter.unusedVariables false
set_option linter.unusedSimpArgs false
set_option maxRecDepth 100000
namespace Go.Nw
open Go.Proofs
theorem c_panel_Lowest {a0 : Int} {a1 : Int} {r : TShare} (h : p_panel_Lowest a0 a1 = some r)  : PCalls Try.prog 96 [.int .i64 a0, .int .i64 a1] (encTShare r) := by
  unfold p_panel_Lowest at h
  refine pcalls_of (fun _ => none) (fun _ => []) Try.func96 (by unfold Try.f96; rfl) (by kernel_rfl) (by kernel_rfl) ?_
  simp only [awp_seq]
  simp only [argSlots]
  dsimp only [Try.f96]
  try simp only [go_sem]
  obtain ⟨e0, h0, h⟩ := of_bind h
  refine cut_j ([(5, AVal.int IntKind.i64 e0), (4, AVal.ptr (0, 0) 2 0 0), (0, AVal.int IntKind.i64 a0), (1, AVal.int IntKind.i64 a1)]) ({ nx := 1, rows := [(0, Ent.one { sz := 2, d := encTShare { : TShare }, l := [encTShare { : TShare }] : Row })] : Heap }) ?_ ?_
  ·
    try simp only [go_sem]
    refine loop_w h0 (fun (s : Int × Int) => [(6, AVal.int IntKind.i64 (Prod.fst s)), (5, AVal.int IntKind.i64 (Prod.snd s)), (4, AVal.ptr (0, 0) 2 0 0), (0, AVal.int IntKind.i64 a0), (1, AVal.int IntKind.i64 a1)]) (fun (s : Int × Int) => { nx := 1, rows := [(0, Ent.one { sz := 2, d := encTShare { : TShare }, l := [encTShare { : TShare }] : Row })] : Heap }) ?_ ?_
    ·
      refine wk_of [(0, some 0)] rfl ?_ ?_
      ·
        try simp only [go_sem]
        exact ⟨.same _ trivial, ⟨.same _ trivial, ⟨.ptr _ _ _ _ _ (rn_some rfl), ⟨.same _ trivial, .same _ trivial⟩⟩⟩⟩
      ·
        try simp only [go_sem]
        exact wkR_box (rn_some rfl) rfl (wkE _)
    intro n1 s1 o1 h1 he1 hi1
    try simp only [go_sem]
    refine cut_l ?_
    try simp only [go_sem]
    refine ways_n (fun c2 => ?_) (fun c2 => ?_)
    ·
      replace h1 := if_n c2 h1
      refine cut_l ?_
      try simp only [go_sem]
      refine ob (by assumption) ?_
      obtain rfl := Option.some.inj h1
      refine nextL (hi1 _ rfl) ?_
      refine wk_of [(0, some 0)] rfl ?_ ?_
      ·
        try simp only [go_sem]
        exact ⟨.same _ trivial, ⟨.same _ trivial, ⟨.ptr _ _ _ _ _ (rn_some rfl), ⟨.same _ trivial, .same _ trivial⟩⟩⟩⟩
      ·
        try simp only [go_sem]
        exact wkR_box (rn_some rfl) rfl (wkE _)
    ·
      replace h1 := if_p c2 h1
      obtain rfl := Option.some.inj h1
      obtain rfl := he1 _ rfl
      refine wk_of [(0, some 0)] rfl ?_ ?_
      ·
        try simp only [go_sem]
        exact ⟨.same _ trivial, ⟨.ptr _ _ _ _ _ (rn_some rfl), ⟨.same _ trivial, .same _ trivial⟩⟩⟩
      ·
        try simp only [go_sem]
        exact wkR_box (rn_some rfl) rfl (wkE _)
  try simp only [go_sem]
  obtain ⟨g3, h⟩ := of_guard h
  refine ob (by assumption) ?_
  obtain ⟨⟨g4_0, g4_1⟩, h⟩ := of_guard h
  simp only [W64 g4_0 g4_1]
  obtain ⟨⟨g5_0, g5_1⟩, h⟩ := of_guard h
  simp only [W64 g5_0 g5_1]
  obtain rfl := Option.some.inj h
  exact wkE _
theorem c_panel_isApart {a0 : TRect} {a1 : TRect} {a2 : Int} {r : Bool} (h : p_panel_isApart a0 a1 a2 = some r)  : PCalls Try.prog 80 [encTRect a0, encTRect a1, .int .i64 a2] (.bool r) := by
  unfold p_panel_isApart at h
  refine pcalls_of (fun _ => none) (fun _ => []) Try.func80 (by unfold Try.f80; rfl) (by kernel_rfl) (by kernel_rfl) ?_
  simp only [awp_seq]
  simp only [argSlots]
  dsimp only [Try.f80]
  try simp only [go_sem]
  obtain ⟨⟨g0_0, g0_1⟩, h⟩ := of_guard h
  simp only [W64 g0_0 g0_1]
  obtain ⟨⟨g1_0, g1_1⟩, h⟩ := of_guard h
  simp only [W64 g1_0 g1_1]
  obtain ⟨⟨g2_0, g2_1⟩, h⟩ := of_guard h
  simp only [W64 g2_0 g2_1]
  refine ob ⟨⟨by simp, by simp⟩, by simp⟩ ?_
  obtain ⟨⟨g3_0, g3_1⟩, h⟩ := of_guard h
  simp only [W64 g3_0 g3_1]
  obtain rfl := Option.some.inj h
  exact .same _ trivial
theorem c_panel_isInside {a0 : TRect} {a1 : TPoint} {r : Bool} (h : p_panel_isInside a0 a1 = some r)  : PCalls Try.prog 83 [encTRect a0, encTPoint a1] (.bool r) := by
  unfold p_panel_isInside at h
  refine pcalls_of (fun _ => none) (fun _ => []) Try.func83 (by unfold Try.f83; rfl) (by kernel_rfl) (by kernel_rfl) ?_
  simp only [awp_seq]
  simp only [argSlots]
  dsimp only [Try.f83]
  try simp only [go_sem]
  obtain rfl := Option.some.inj h
  exact .same _ trivial
theorem c_panel_isOn {a0 : TPanel} {a1 : TRect} {r : Bool} (h : p_panel_isOn a0 a1 = some r)  : PCalls Try.prog 77 [encTPanel a0, encTRect a1] (.bool r) := by
  unfold p_panel_isOn at h
  refine pcalls_of (fun _ => none) (fun _ => []) Try.func77 (by unfold Try.f77; rfl) (by kernel_rfl) (by kernel_rfl) ?_
  simp only [awp_seq]
  simp only [argSlots]
  dsimp only [Try.f77]
  try simp only [go_sem]
  obtain ⟨⟨g0_0, g0_1⟩, h⟩ := of_guard h
  simp only [W64 g0_0 g0_1]
  obtain ⟨⟨g1_0, g1_1⟩, h⟩ := of_guard h
  simp only [W64 g1_0 g1_1]
  obtain rfl := Option.some.inj h
  exact .same _ trivial
theorem c_panel_kindAt_1 {a0 : TBoardKind} {a1 : ByteArray} {r : Bool} (h : p_panel_kindAt_1 a0 a1 = some r)  : PCalls Try.prog 95 [encTBoardKind a0, .iptr (.str a1) 0] (.bool r) := by
  unfold p_panel_kindAt_1 at h
  refine pcalls_of (fun _ => none) (fun _ => []) Try.func95 (by unfold Try.f95; rfl) (by kernel_rfl) (by kernel_rfl) ?_
  simp only [awp_seq]
  simp only [argSlots]
  dsimp only [Try.f95]
  try simp only [go_sem]
  obtain rfl := Option.some.inj h
  exact .same _ trivial
theorem c_panel_sizeOf {a0 : TBoardKind} {a1 : Int} {r : Int × Int} (h : p_panel_sizeOf a0 a1 = some r)  : PCalls Try.prog 62 [encTBoardKind a0, .int .i64 a1] (tup [.int .i64 r.1, .int .i64 r.2]) := by
  unfold p_panel_sizeOf at h
  refine pcalls_of (ordOf [(2, [0, 2, 1, 4, 3, 5]), (3, [0, 2, 1, 4, 3, 5])]) (fun _ => []) Try.func62 (by unfold Try.f62; rfl) (by kernel_rfl) (by kernel_rfl) ?_
  simp only [awp_seq]
  simp only [argSlots]
  dsimp only [Try.f62]
  try simp only [go_sem]
  refine ob (by omega) ?_
  refine cut_l ?_
  try simp only [go_sem]
  refine ways_d (fun c0 => ?_) (fun c0 => ?_)
  ·
    replace h := if_p c0 h
    obtain rfl := Option.some.inj h
    exact wkv_same (by simp only [go_sem]) rfl
  ·
    replace h := if_n c0 h
    obtain rfl := Option.some.inj h
    exact wkv_same (by simp only [go_sem]) rfl
theorem c_panel_turns_1 {a0 : TTurn} {a1 : TTurn} {r : Int} (h : p_panel_turns_1 a0 a1 = some r)  : PCalls Try.prog 109 [encTTurn a0, encTTurn a1] (.int .i64 r) := by
  unfold p_panel_turns_1 at h
  refine pcalls_of (fun _ => none) (fun _ => []) Try.func109 (by unfold Try.f109; rfl) (by kernel_rfl) (by kernel_rfl) ?_
  simp only [awp_seq]
  simp only [argSlots]
  dsimp only [Try.f109]
  try simp only [go_sem]
  refine cut_l ?_
  try simp only [go_sem]
  refine ways_n (fun c0 => ?_) (fun c0 => ?_)
  ·
    replace h := if_n c0 h
    obtain ⟨⟨g1_0, g1_1⟩, h⟩ := of_guard h
    simp only [W64 g1_0 g1_1]
    obtain rfl := Option.some.inj h
    exact .same _ trivial
  ·
    replace h := if_p c0 h
    obtain ⟨⟨g2_0, g2_1⟩, h⟩ := of_guard h
    simp only [W64 g2_0 g2_1]
    obtain rfl := Option.some.inj h
    exact .same _ trivial
theorem c_panel_within {a0 : Int} {a1 : Int} {a2 : Int} {r : Bool} (h : p_panel_within a0 a1 a2 = some r)  : PCalls Try.prog 47 [.int .i64 a0, .int .i64 a1, .int .i64 a2] (.bool r) := by
  unfold p_panel_within at h
  refine pcalls_of (fun _ => none) (fun _ => []) Try.func47 (by unfold Try.f47; rfl) (by kernel_rfl) (by kernel_rfl) ?_
  simp only [awp_seq]
  simp only [argSlots]
  dsimp only [Try.f47]
  try simp only [go_sem]
  obtain rfl := Option.some.inj h
  exact .same _ trivial
theorem c_plot_IsName {a0 : ByteArray} {r : Bool} (h : p_plot_IsName a0 = some r)  : PCalls Try.prog 126 [.str a0] (.bool r) := by
  unfold p_plot_IsName at h
  refine pcalls_of (fun _ => none) (fun _ => []) Try.func126 (by unfold Try.f126; rfl) (by kernel_rfl) (by kernel_rfl) ?_
  simp only [awp_seq]
  simp only [argSlots]
  dsimp only [Try.f126]
  try simp only [go_sem]
  obtain ⟨z0, h0, h⟩ := of_bind h
  refine cut_z z0 (fun (s : Bool) => [(2, AVal.bool s), (0, AVal.str a0)]) (fun (s : Bool) => { nx := 0, rows := [] : Heap }) ?_ (fun e0 hz0 => ?_)
  ·
    try simp only [go_sem]
    refine loop_w h0 (fun (s : Int × Bool) => [(8, AVal.int IntKind.i64 (Prod.fst s)), (7, AVal.int IntKind.i64 (↑(ByteArray.size a0) : Int)), (2, AVal.bool (Prod.snd s)), (0, AVal.str a0)]) (fun (s : Int × Bool) => { nx := 0, rows := [] : Heap }) ?_ ?_
    ·
      refine wk_of [] rfl ?_ ?_
      ·
        try simp only [go_sem]
        exact ⟨.same _ trivial, ⟨.same _ trivial, ⟨.same _ trivial, .same _ trivial⟩⟩⟩
      ·
        try simp only [go_sem]
    intro n1 s1 o1 h1 he1 hi1
    try simp only [go_sem]
    refine cut_l ?_
    try simp only [go_sem]
    refine ways_d (fun c2 => ?_) (fun c2 => ?_)
    ·
      replace h1 := if_p c2 h1
      refine cut_l ?_
      try simp only [go_sem]
      obtain ⟨g3, h1⟩ := of_guard h1
      refine ob ⟨by assumption, by assumption⟩ ?_
      refine ob ⟨by intro h1 h2; simp only [h1, h2, Bool.and_self, Bool.not_true, Bool.not_false, Bool.and_true, Bool.true_and], by intro h1; simp only [h1, Bool.and_self, Bool.not_true, Bool.not_false, Bool.and_true, Bool.true_and]⟩ ?_
      refine ob ⟨⟨⟨by intro h1 h2; simp only [h1, h2, Bool.and_self, Bool.not_true, Bool.not_false, Bool.and_true, Bool.true_and], by intro h1 h2; simp only [h1, h2, Bool.and_self, Bool.not_true, Bool.not_false, Bool.and_true, Bool.true_and]⟩, by intro h1 h2; simp only [h1, h2, Bool.and_self, Bool.not_true, Bool.not_false, Bool.and_true, Bool.true_and]⟩, by intro h1 h2; simp only [h1, h2, Bool.and_self, Bool.not_true, Bool.not_false, Bool.and_true, Bool.true_and]⟩ ?_
      refine cut_l ?_
      try simp only [go_sem]
      refine ways (fun c4 => ?_) (fun c4 => ?_)
      ·
        replace h1 := if_t c4 h1
        try simp only [Bool.and_eq_true, Bool.or_eq_true, Bool.not_eq_true', Bool.not_eq_false', Bool.and_eq_false_imp, Bool.or_eq_false_iff, decide_eq_true_eq, decide_eq_false_iff_not] at c4
        obtain rfl := Option.some.inj h1
        obtain rfl := he1 _ rfl
        obtain rfl := Option.some.inj h
        exact .same _ trivial
      ·
        replace h1 := if_f c4 h1
        try simp only [Bool.and_eq_true, Bool.or_eq_true, Bool.not_eq_true', Bool.not_eq_false', Bool.and_eq_false_imp, Bool.or_eq_false_iff, decide_eq_true_eq, decide_eq_false_iff_not] at c4
        obtain ⟨⟨g5_0, g5_1⟩, h1⟩ := of_guard h1
        simp only [W64 g5_0 g5_1]
        obtain rfl := Option.some.inj h1
        refine nextL (hi1 _ rfl) ?_
        refine wk_of [] rfl ?_ ?_
        ·
          try simp only [go_sem]
          exact ⟨.same _ trivial, ⟨.same _ trivial, ⟨.same _ trivial, .same _ trivial⟩⟩⟩
        ·
          try simp only [go_sem]
    ·
      replace h1 := if_n c2 h1
      obtain rfl := Option.some.inj h1
      obtain rfl := he1 _ rfl
      refine zend ?_
      refine wk_of [] rfl ?_ ?_
      ·
        try simp only [go_sem]
        exact ⟨.same _ trivial, .same _ trivial⟩
      ·
        try simp only [go_sem]
  subst hz0
  simp only [Sum.elim_inr] at h
  try simp only [go_sem]
  obtain rfl := Option.some.inj h
  exact .same _ trivial
theorem c_shape_AreaOf {a0 : (List TRect)} {r : Int} (h : p_shape_AreaOf a0 = some r)  : PCalls Try.prog 97 [encL 4 encTRect a0] (.int .i64 r) := by
  unfold p_shape_AreaOf at h
  refine pcalls_of (fun _ => none) (fun _ => []) Try.func97 (by unfold Try.f97; rfl) (by kernel_rfl) (by kernel_rfl) ?_
  simp only [awp_seq]
  simp only [argSlots]
  dsimp only [Try.f97]
  try simp only [go_sem]
  obtain ⟨e0, h0, h⟩ := of_bind h
  refine cut_j ([(3, AVal.int IntKind.i64 e0), (2, AVal.int IntKind.i64 0)]) ({ nx := 0, rows := [] : Heap }) ?_ ?_
  ·
    try simp only [go_sem]
    refine loop_w h0 (fun (s : Int × Int) => [(8, AVal.int IntKind.i64 (Prod.fst s)), (7, AVal.int IntKind.i64 (↑(List.length a0) : Int)), (6, encL 4 encTRect a0), (3, AVal.int IntKind.i64 (Prod.snd s)), (2, AVal.int IntKind.i64 0)]) (fun (s : Int × Int) => { nx := 0, rows := [] : Heap }) ?_ ?_
    ·
      refine wk_of [] rfl ?_ ?_
      ·
        try simp only [go_sem]
        exact ⟨.same _ trivial, ⟨.same _ trivial, ⟨.same _ trivial, .same _ trivial⟩⟩⟩
      ·
        try simp only [go_sem]
    intro n1 s1 o1 h1 he1 hi1
    try simp only [go_sem]
    refine cut_l ?_
    try simp only [go_sem]
    refine ways_d (fun c2 => ?_) (fun c2 => ?_)
    ·
      replace h1 := if_p c2 h1
      refine cut_l ?_
      try simp only [go_sem]
      obtain ⟨g3, h1⟩ := of_guard h1
      refine ob ⟨by assumption, by assumption⟩ ?_
      obtain ⟨⟨g4_0, g4_1⟩, h1⟩ := of_guard h1
      simp only [W64 g4_0 g4_1]
      obtain ⟨⟨g5_0, g5_1⟩, h1⟩ := of_guard h1
      simp only [W64 g5_0 g5_1]
      obtain ⟨⟨g6_0, g6_1⟩, h1⟩ := of_guard h1
      simp only [W64 g6_0 g6_1]
      obtain ⟨⟨g7_0, g7_1⟩, h1⟩ := of_guard h1
      simp only [W64 g7_0 g7_1]
      obtain ⟨⟨g8_0, g8_1⟩, h1⟩ := of_guard h1
      simp only [W64 g8_0 g8_1]
      obtain rfl := Option.some.inj h1
      refine nextL (hi1 _ rfl) ?_
      refine wk_of [] rfl ?_ ?_
      ·
        try simp only [go_sem]
        exact ⟨.same _ trivial, ⟨.same _ trivial, ⟨.same _ trivial, ⟨.same _ trivial, .same _ trivial⟩⟩⟩⟩
      ·
        try simp only [go_sem]
    ·
      replace h1 := if_n c2 h1
      obtain rfl := Option.some.inj h1
      obtain rfl := he1 _ rfl
      refine wk_of [] rfl ?_ ?_
      ·
        try simp only [go_sem]
        exact ⟨.same _ trivial, .same _ trivial⟩
      ·
        try simp only [go_sem]
  try simp only [go_sem]
  obtain rfl := Option.some.inj h
  exact .same _ trivial
theorem c_shape_TurnPoint {a0 : TPoint} {a1 : TTurn} {r : TPoint} (h : p_shape_TurnPoint a0 a1 = some r)  : PCalls Try.prog 57 [encTPoint a0, encTTurn a1] (encTPoint r) := by
  unfold p_shape_TurnPoint at h
  refine pcalls_of (fun _ => none) (fun _ => []) Try.func57 (by unfold Try.f57; rfl) (by kernel_rfl) (by kernel_rfl) ?_
  simp only [awp_seq]
  simp only [argSlots]
  dsimp only [Try.f57]
  try simp only [go_sem]
  obtain ⟨e0, h0, h⟩ := of_bind h
  refine cut_j ([(4, AVal.ptr (2, 0) 2 0 0), (3, AVal.ptr (1, 0) 4 0 0), (2, AVal.ptr (0, 0) 2 0 0)]) ({ nx := 3, rows := [(2, Ent.one { sz := 2, d := encTPoint { : TPoint }, l := [encTPoint { : TPoint }] : Row }), (1, Ent.one { sz := 4, d := encTTurn a1, l := [encTTurn a1] : Row }), (0, Ent.one { sz := 2, d := encTPoint a0, l := [encTPoint e0] : Row })] : Heap }) ?_ ?_
  ·
    try simp only [go_sem]
    refine ways (fun c1 => ?_) (fun c1 => ?_)
    ·
      replace h0 := if_t c1 h0
      try simp only [Bool.and_eq_true, Bool.or_eq_true, Bool.not_eq_true', Bool.not_eq_false', Bool.and_eq_false_imp, Bool.or_eq_false_iff, decide_eq_true_eq, decide_eq_false_iff_not] at c1
      obtain ⟨⟨g2_0, g2_1⟩, h0⟩ := of_guard h0
      simp only [W64 g2_0 g2_1]
      obtain rfl := Option.some.inj h0
      refine wk_of [(2, some 2), (1, some 1), (0, some 0)] rfl ?_ ?_
      ·
        try simp only [go_sem]
        exact ⟨.ptr _ _ _ _ _ (rn_some rfl), ⟨.ptr _ _ _ _ _ (rn_some rfl), .ptr _ _ _ _ _ (rn_some rfl)⟩⟩
      ·
        try simp only [go_sem]
        exact ⟨wkR_box (rn_some rfl) rfl (wkE _), ⟨wkR_box (rn_some rfl) rfl (wkE _), wkR_box (rn_some rfl) rfl (wkE _)⟩⟩
    ·
      replace h0 := if_f c1 h0
      try simp only [Bool.and_eq_true, Bool.or_eq_true, Bool.not_eq_true', Bool.not_eq_false', Bool.and_eq_false_imp, Bool.or_eq_false_iff, decide_eq_true_eq, decide_eq_false_iff_not] at c1
      obtain rfl := Option.some.inj h0
      refine wk_of [(2, some 2), (1, some 1), (0, some 0)] rfl ?_ ?_
      ·
        try simp only [go_sem]
        exact ⟨.ptr _ _ _ _ _ (rn_some rfl), ⟨.ptr _ _ _ _ _ (rn_some rfl), .ptr _ _ _ _ _ (rn_some rfl)⟩⟩
      ·
        try simp only [go_sem]
        exact ⟨wkR_box (rn_some rfl) rfl (wkE _), ⟨wkR_box (rn_some rfl) rfl (wkE _), wkR_box (rn_some rfl) rfl (wkE _)⟩⟩
  try simp only [go_sem]
  obtain ⟨e3, h3, h⟩ := of_bind h
  refine cut_j ([(4, AVal.ptr (2, 0) 2 0 0), (3, AVal.ptr (1, 0) 4 0 0), (2, AVal.ptr (0, 0) 2 0 0)]) ({ nx := 3, rows := [(2, Ent.one { sz := 2, d := encTPoint { : TPoint }, l := [encTPoint { : TPoint }] : Row }), (1, Ent.one { sz := 4, d := encTTurn a1, l := [encTTurn a1] : Row }), (0, Ent.one { sz := 2, d := encTPoint a0, l := [encTPoint e3] : Row })] : Heap }) ?_ ?_
  ·
    try simp only [go_sem]
    refine loop_w h3 (fun (s : Int × TPoint) => [(13, AVal.int IntKind.i64 (Prod.fst s)), (12, AVal.int IntKind.i64 (TTurn.Quarters a1)), (4, AVal.ptr (2, 0) 2 0 0), (3, AVal.ptr (1, 0) 4 0 0), (2, AVal.ptr (0, 0) 2 0 0)]) (fun (s : Int × TPoint) => { nx := 3, rows := [(2, Ent.one { sz := 2, d := encTPoint { : TPoint }, l := [encTPoint { : TPoint }] : Row }), (1, Ent.one { sz := 4, d := encTTurn a1, l := [encTTurn a1] : Row }), (0, Ent.one { sz := 2, d := encTPoint a0, l := [encTPoint (Prod.snd s)] : Row })] : Heap }) ?_ ?_
    ·
      refine wk_of [(2, some 2), (1, some 1), (0, some 0)] rfl ?_ ?_
      ·
        try simp only [go_sem]
        exact ⟨.same _ trivial, ⟨.same _ trivial, ⟨.ptr _ _ _ _ _ (rn_some rfl), ⟨.ptr _ _ _ _ _ (rn_some rfl), .ptr _ _ _ _ _ (rn_some rfl)⟩⟩⟩⟩
      ·
        try simp only [go_sem]
        exact ⟨wkR_box (rn_some rfl) rfl (wkE _), ⟨wkR_box (rn_some rfl) rfl (wkE _), wkR_box (rn_some rfl) rfl (wkE _)⟩⟩
    intro n4 s4 o4 h4 he4 hi4
    try simp only [go_sem]
    refine cut_l ?_
    try simp only [go_sem]
    refine ways_d (fun c5 => ?_) (fun c5 => ?_)
    ·
      replace h4 := if_p c5 h4
      refine cut_l ?_
      try simp only [go_sem]
      obtain ⟨⟨g6_0, g6_1⟩, h4⟩ := of_guard h4
      simp only [W64 g6_0 g6_1]
      obtain ⟨⟨g7_0, g7_1⟩, h4⟩ := of_guard h4
      simp only [W64 g7_0 g7_1]
      obtain rfl := Option.some.inj h4
      refine nextL (hi4 _ rfl) ?_
      refine wk_of [(2, some 2), (1, some 1), (0, some 0)] rfl ?_ ?_
      ·
        try simp only [go_sem]
        exact ⟨.same _ trivial, ⟨.same _ trivial, ⟨.ptr _ _ _ _ _ (rn_some rfl), ⟨.ptr _ _ _ _ _ (rn_some rfl), .ptr _ _ _ _ _ (rn_some rfl)⟩⟩⟩⟩
      ·
        try simp only [go_sem]
        exact ⟨wkR_box (rn_some rfl) rfl (wkE _), ⟨wkR_box (rn_some rfl) rfl (wkE _), wkR_box (rn_some rfl) rfl (wkE _)⟩⟩
    ·
      replace h4 := if_n c5 h4
      obtain rfl := Option.some.inj h4
      obtain rfl := he4 _ rfl
      refine wk_of [(2, some 2), (1, some 1), (0, some 0)] rfl ?_ ?_
      ·
        try simp only [go_sem]
        exact ⟨.ptr _ _ _ _ _ (rn_some rfl), ⟨.ptr _ _ _ _ _ (rn_some rfl), .ptr _ _ _ _ _ (rn_some rfl)⟩⟩
      ·
        try simp only [go_sem]
        exact ⟨wkR_box (rn_some rfl) rfl (wkE _), ⟨wkR_box (rn_some rfl) rfl (wkE _), wkR_box (rn_some rfl) rfl (wkE _)⟩⟩
  try simp only [go_sem]
  obtain ⟨⟨g8_0, g8_1⟩, h⟩ := of_guard h
  simp only [W64 g8_0 g8_1]
  obtain ⟨⟨g9_0, g9_1⟩, h⟩ := of_guard h
  simp only [W64 g9_0 g9_1]
  obtain rfl := Option.some.inj h
  exact wkE _
theorem c_shape_within {a0 : Int} {a1 : Int} {a2 : Int} {r : Bool} (h : p_shape_within a0 a1 a2 = some r)  : PCalls Try.prog 86 [.int .i64 a0, .int .i64 a1, .int .i64 a2] (.bool r) := by
  unfold p_shape_within at h
  refine pcalls_of (fun _ => none) (fun _ => []) Try.func86 (by unfold Try.f86; rfl) (by kernel_rfl) (by kernel_rfl) ?_
  simp only [awp_seq]
  simp only [argSlots]
  dsimp only [Try.f86]
  try simp only [go_sem]
  obtain rfl := Option.some.inj h
  exact .same _ trivial
theorem c_slices_IndexFunc_BoardKind {a0 : (List TBoardKind)} {f1 : (TBoardKind → Option (Bool))} {r : Int} (h : p_slices_IndexFunc_BoardKind a0 f1 = some r) {g1 : Nat} {k1 : List AVal} (hk1 : nmL k1) (hf1 : ∀ (x0 : TBoardKind) (y : Bool), f1 x0 = some y → PCalls Try.prog g1 (encTBoardKind x0 :: k1) (.bool y)) : PCalls Try.prog 94 [encL 3 encTBoardKind a0, fn g1 k1] (.int .i64 r) := by
  unfold p_slices_IndexFunc_BoardKind at h
  refine pcalls_of (fun _ => none) (fun _ => []) Try.func94 (by unfold Try.f94; rfl) (by kernel_rfl) (by kernel_rfl) ?_
  simp only [awp_seq]
  simp only [argSlots]
  dsimp only [Try.f94]
  try simp only [go_sem]
  obtain ⟨z0, h0, h⟩ := of_bind h
  refine cut_z z0 (fun (s : Int) => [(4, AVal.int IntKind.i64 s)]) (fun (s : Int) => { nx := 0, rows := [] : Heap }) ?_ (fun e0 hz0 => ?_)
  ·
    try simp only [go_sem]
    refine loop_w h0 (fun (s : Int × Int) => [(8, AVal.int IntKind.i64 (Prod.fst s)), (7, AVal.int IntKind.i64 (↑(List.length a0) : Int)), (4, AVal.int IntKind.i64 (Prod.snd s)), (0, encL 3 encTBoardKind a0), (1, fn g1 k1)]) (fun (s : Int × Int) => { nx := 0, rows := [] : Heap }) ?_ ?_
    ·
      refine wk_of [] rfl ?_ ?_
      ·
        try simp only [go_sem]
        exact ⟨.same _ trivial, ⟨.same _ trivial, ⟨.same _ trivial, ⟨.same _ trivial, .same _ (by simp only [go_sem]; assumption)⟩⟩⟩⟩
      ·
        try simp only [go_sem]
    intro n1 s1 o1 h1 he1 hi1
    try simp only [go_sem]
    refine cut_l ?_
    try simp only [go_sem]
    refine ways_d (fun c2 => ?_) (fun c2 => ?_)
    ·
      replace h1 := if_p c2 h1
      refine cut_l ?_
      try simp only [go_sem]
      obtain ⟨g3, h1⟩ := of_guard h1
      refine ob ⟨by assumption, by assumption⟩ ?_
      obtain ⟨x4, hx4, h1⟩ := of_bind h1
      refine call_p false (hf1 _ _ hx4) ⟨wkE _, lend_self hk1⟩ nofun ?_
      refine cut_l ?_
      try simp only [go_sem]
      refine ways (fun c5 => ?_) (fun c5 => ?_)
      ·
        replace h1 := if_t c5 h1
        try simp only [Bool.and_eq_true, Bool.or_eq_true, Bool.not_eq_true', Bool.not_eq_false', Bool.and_eq_false_imp, Bool.or_eq_false_iff, decide_eq_true_eq, decide_eq_false_iff_not] at c5
        obtain rfl := Option.some.inj h1
        obtain rfl := he1 _ rfl
        obtain rfl := Option.some.inj h
        exact .same _ trivial
      ·
        replace h1 := if_f c5 h1
        try simp only [Bool.and_eq_true, Bool.or_eq_true, Bool.not_eq_true', Bool.not_eq_false', Bool.and_eq_false_imp, Bool.or_eq_false_iff, decide_eq_true_eq, decide_eq_false_iff_not] at c5
        obtain ⟨⟨g6_0, g6_1⟩, h1⟩ := of_guard h1
        simp only [W64 g6_0 g6_1]
        obtain rfl := Option.some.inj h1
        refine nextL (hi1 _ rfl) ?_
        refine wk_of [] rfl ?_ ?_
        ·
          try simp only [go_sem]
          exact ⟨.same _ trivial, ⟨.same _ trivial, ⟨.same _ trivial, ⟨.same _ trivial, .same _ (by simp only [go_sem]; assumption)⟩⟩⟩⟩
        ·
          try simp only [go_sem]
    ·
      replace h1 := if_n c2 h1
      obtain rfl := Option.some.inj h1
      obtain rfl := he1 _ rfl
      refine zend ?_
      refine wk_of [] rfl ?_ ?_
      ·
        try simp only [go_sem]
        exact .same _ trivial
      ·
        try simp only [go_sem]
  subst hz0
  simp only [Sum.elim_inr] at h
  try simp only [go_sem]
  obtain rfl := Option.some.inj h
  exact .same _ trivial
theorem c_slices_IndexFunc_Point {a0 : (List TPoint)} {f1 : (TPoint → Option (Bool))} {r : Int} (h : p_slices_IndexFunc_Point a0 f1 = some r) {g1 : Nat} {k1 : List AVal} (hk1 : nmL k1) (hf1 : ∀ (x0 : TPoint) (y : Bool), f1 x0 = some y → PCalls Try.prog g1 (encTPoint x0 :: k1) (.bool y)) : PCalls Try.prog 118 [encL 2 encTPoint a0, fn g1 k1] (.int .i64 r) := by
  unfold p_slices_IndexFunc_Point at h
  refine pcalls_of (fun _ => none) (fun _ => []) Try.func118 (by unfold Try.f118; rfl) (by kernel_rfl) (by kernel_rfl) ?_
  simp only [awp_seq]
  simp only [argSlots]
  dsimp only [Try.f118]
  try simp only [go_sem]
  obtain ⟨z0, h0, h⟩ := of_bind h
  refine cut_z z0 (fun (s : Int) => [(4, AVal.int IntKind.i64 s)]) (fun (s : Int) => { nx := 0, rows := [] : Heap }) ?_ (fun e0 hz0 => ?_)
  ·
    try simp only [go_sem]
    refine loop_w h0 (fun (s : Int × Int) => [(8, AVal.int IntKind.i64 (Prod.fst s)), (7, AVal.int IntKind.i64 (↑(List.length a0) : Int)), (4, AVal.int IntKind.i64 (Prod.snd s)), (0, encL 2 encTPoint a0), (1, fn g1 k1)]) (fun (s : Int × Int) => { nx := 0, rows := [] : Heap }) ?_ ?_
    ·
      refine wk_of [] rfl ?_ ?_
      ·
        try simp only [go_sem]
        exact ⟨.same _ trivial, ⟨.same _ trivial, ⟨.same _ trivial, ⟨.same _ trivial, .same _ (by simp only [go_sem]; assumption)⟩⟩⟩⟩
      ·
        try simp only [go_sem]
    intro n1 s1 o1 h1 he1 hi1
    try simp only [go_sem]
    refine cut_l ?_
    try simp only [go_sem]
    refine ways_d (fun c2 => ?_) (fun c2 => ?_)
    ·
      replace h1 := if_p c2 h1
      refine cut_l ?_
      try simp only [go_sem]
      obtain ⟨g3, h1⟩ := of_guard h1
      refine ob ⟨by assumption, by assumption⟩ ?_
      obtain ⟨x4, hx4, h1⟩ := of_bind h1
      refine call_p false (hf1 _ _ hx4) ⟨wkE _, lend_self hk1⟩ nofun ?_
      refine cut_l ?_
      try simp only [go_sem]
      refine ways (fun c5 => ?_) (fun c5 => ?_)
      ·
        replace h1 := if_t c5 h1
        try simp only [Bool.and_eq_true, Bool.or_eq_true, Bool.not_eq_true', Bool.not_eq_false', Bool.and_eq_false_imp, Bool.or_eq_false_iff, decide_eq_true_eq, decide_eq_false_iff_not] at c5
        obtain rfl := Option.some.inj h1
        obtain rfl := he1 _ rfl
        obtain rfl := Option.some.inj h
        exact .same _ trivial
      ·
        replace h1 := if_f c5 h1
        try simp only [Bool.and_eq_true, Bool.or_eq_true, Bool.not_eq_true', Bool.not_eq_false', Bool.and_eq_false_imp, Bool.or_eq_false_iff, decide_eq_true_eq, decide_eq_false_iff_not] at c5
        obtain ⟨⟨g6_0, g6_1⟩, h1⟩ := of_guard h1
        simp only [W64 g6_0 g6_1]
        obtain rfl := Option.some.inj h1
        refine nextL (hi1 _ rfl) ?_
        refine wk_of [] rfl ?_ ?_
        ·
          try simp only [go_sem]
          exact ⟨.same _ trivial, ⟨.same _ trivial, ⟨.same _ trivial, ⟨.same _ trivial, .same _ (by simp only [go_sem]; assumption)⟩⟩⟩⟩
        ·
          try simp only [go_sem]
    ·
      replace h1 := if_n c2 h1
      obtain rfl := Option.some.inj h1
      obtain rfl := he1 _ rfl
      refine zend ?_
      refine wk_of [] rfl ?_ ?_
      ·
        try simp only [go_sem]
        exact .same _ trivial
      ·
        try simp only [go_sem]
  subst hz0
  simp only [Sum.elim_inr] at h
  try simp only [go_sem]
  obtain rfl := Option.some.inj h
  exact .same _ trivial
theorem c_slices_IndexFunc_Rect {a0 : (List TRect)} {f1 : (TRect → Option (Bool))} {r : Int} (h : p_slices_IndexFunc_Rect a0 f1 = some r) {g1 : Nat} {k1 : List AVal} (hk1 : nmL k1) (hf1 : ∀ (x0 : TRect) (y : Bool), f1 x0 = some y → PCalls Try.prog g1 (encTRect x0 :: k1) (.bool y)) : PCalls Try.prog 117 [encL 4 encTRect a0, fn g1 k1] (.int .i64 r) := by
  unfold p_slices_IndexFunc_Rect at h
  refine pcalls_of (fun _ => none) (fun _ => []) Try.func117 (by unfold Try.f117; rfl) (by kernel_rfl) (by kernel_rfl) ?_
  simp only [awp_seq]
  simp only [argSlots]
  dsimp only [Try.f117]
  try simp only [go_sem]
  obtain ⟨z0, h0, h⟩ := of_bind h
  refine cut_z z0 (fun (s : Int) => [(4, AVal.int IntKind.i64 s)]) (fun (s : Int) => { nx := 0, rows := [] : Heap }) ?_ (fun e0 hz0 => ?_)
  ·
    try simp only [go_sem]
    refine loop_w h0 (fun (s : Int × Int) => [(8, AVal.int IntKind.i64 (Prod.fst s)), (7, AVal.int IntKind.i64 (↑(List.length a0) : Int)), (4, AVal.int IntKind.i64 (Prod.snd s)), (0, encL 4 encTRect a0), (1, fn g1 k1)]) (fun (s : Int × Int) => { nx := 0, rows := [] : Heap }) ?_ ?_
    ·
      refine wk_of [] rfl ?_ ?_
      ·
        try simp only [go_sem]
        exact ⟨.same _ trivial, ⟨.same _ trivial, ⟨.same _ trivial, ⟨.same _ trivial, .same _ (by simp only [go_sem]; assumption)⟩⟩⟩⟩
      ·
        try simp only [go_sem]
    intro n1 s1 o1 h1 he1 hi1
    try simp only [go_sem]
    refine cut_l ?_
    try simp only [go_sem]
    refine ways_d (fun c2 => ?_) (fun c2 => ?_)
    ·
      replace h1 := if_p c2 h1
      refine cut_l ?_
      try simp only [go_sem]
      obtain ⟨g3, h1⟩ := of_guard h1
      refine ob ⟨by assumption, by assumption⟩ ?_
      obtain ⟨x4, hx4, h1⟩ := of_bind h1
      refine call_p false (hf1 _ _ hx4) ⟨wkE _, lend_self hk1⟩ nofun ?_
      refine cut_l ?_
      try simp only [go_sem]
      refine ways (fun c5 => ?_) (fun c5 => ?_)
      ·
        replace h1 := if_t c5 h1
        try simp only [Bool.and_eq_true, Bool.or_eq_true, Bool.not_eq_true', Bool.not_eq_false', Bool.and_eq_false_imp, Bool.or_eq_false_iff, decide_eq_true_eq, decide_eq_false_iff_not] at c5
        obtain rfl := Option.some.inj h1
        obtain rfl := he1 _ rfl
        obtain rfl := Option.some.inj h
        exact .same _ trivial
      ·
        replace h1 := if_f c5 h1
        try simp only [Bool.and_eq_true, Bool.or_eq_true, Bool.not_eq_true', Bool.not_eq_false', Bool.and_eq_false_imp, Bool.or_eq_false_iff, decide_eq_true_eq, decide_eq_false_iff_not] at c5
        obtain ⟨⟨g6_0, g6_1⟩, h1⟩ := of_guard h1
        simp only [W64 g6_0 g6_1]
        obtain rfl := Option.some.inj h1
        refine nextL (hi1 _ rfl) ?_
        refine wk_of [] rfl ?_ ?_
        ·
          try simp only [go_sem]
          exact ⟨.same _ trivial, ⟨.same _ trivial, ⟨.same _ trivial, ⟨.same _ trivial, .same _ (by simp only [go_sem]; assumption)⟩⟩⟩⟩
        ·
          try simp only [go_sem]
    ·
      replace h1 := if_n c2 h1
      obtain rfl := Option.some.inj h1
      obtain rfl := he1 _ rfl
      refine zend ?_
      refine wk_of [] rfl ?_ ?_
      ·
        try simp only [go_sem]
        exact .same _ trivial
      ·
        try simp only [go_sem]
  subst hz0
  simp only [Sum.elim_inr] at h
  try simp only [go_sem]
  obtain rfl := Option.some.inj h
  exact .same _ trivial
theorem c_slices_Index_Point {a0 : (List TPoint)} {a1 : TPoint} {r : Int} (h : p_slices_Index_Point a0 a1 = some r)  : PCalls Try.prog 112 [encL 2 encTPoint a0, encTPoint a1] (.int .i64 r) := by
  unfold p_slices_Index_Point at h
  refine pcalls_of (ordOf [(4, [1, 2, 3, 0, 4, 5])]) (fun _ => []) Try.func112 (by unfold Try.f112; rfl) (by kernel_rfl) (by kernel_rfl) ?_
  simp only [awp_seq]
  simp only [argSlots]
  dsimp only [Try.f112]
  try simp only [go_sem]
  obtain ⟨z0, h0, h⟩ := of_bind h
  refine cut_z z0 (fun (s : Int) => [(4, AVal.int IntKind.i64 s)]) (fun (s : Int) => { nx := 1, rows := [] : Heap }) ?_ (fun e0 hz0 => ?_)
  ·
    try simp only [go_sem]
    refine loop_w h0 (fun (s : Int × Int) => [(8, AVal.int IntKind.i64 (Prod.fst s)), (7, AVal.int IntKind.i64 (↑(List.length a0) : Int)), (4, AVal.int IntKind.i64 (Prod.snd s)), (3, AVal.ptr (0, 0) 2 0 0), (0, encL 2 encTPoint a0)]) (fun (s : Int × Int) => { nx := 1, rows := [(0, Ent.one { sz := 2, d := encTPoint a1, l := [encTPoint a1] : Row })] : Heap }) ?_ ?_
    ·
      refine wk_of [(0, some 0)] rfl ?_ ?_
      ·
        try simp only [go_sem]
        exact ⟨.same _ trivial, ⟨.same _ trivial, ⟨.same _ trivial, ⟨.ptr _ _ _ _ _ (rn_some rfl), .same _ trivial⟩⟩⟩⟩
      ·
        try simp only [go_sem]
        exact wkR_box (rn_some rfl) rfl (wkE _)
    intro n1 s1 o1 h1 he1 hi1
    try simp only [go_sem]
    refine cut_l ?_
    try simp only [go_sem]
    refine ways_d (fun c2 => ?_) (fun c2 => ?_)
    ·
      replace h1 := if_p c2 h1
      refine cut_l ?_
      try simp only [go_sem]
      obtain ⟨g3, h1⟩ := of_guard h1
      refine ob ⟨by assumption, by assumption⟩ ?_
      refine cut_l ?_
      try simp only [go_sem]
      refine ways_d (fun c4 => ?_) (fun c4 => ?_)
      ·
        replace h1 := if_p c4 h1
        obtain rfl := Option.some.inj h1
        obtain rfl := he1 _ rfl
        obtain rfl := Option.some.inj h
        exact .same _ trivial
      ·
        replace h1 := if_n c4 h1
        obtain ⟨⟨g5_0, g5_1⟩, h1⟩ := of_guard h1
        simp only [W64 g5_0 g5_1]
        obtain rfl := Option.some.inj h1
        refine nextL (hi1 _ rfl) ?_
        refine wk_of [(0, some 0)] rfl ?_ ?_
        ·
          try simp only [go_sem]
          exact ⟨.same _ trivial, ⟨.same _ trivial, ⟨.same _ trivial, ⟨.ptr _ _ _ _ _ (rn_some rfl), .same _ trivial⟩⟩⟩⟩
        ·
          try simp only [go_sem]
          exact wkR_box (rn_some rfl) rfl (wkE _)
    ·
      replace h1 := if_n c2 h1
      obtain rfl := Option.some.inj h1
      obtain rfl := he1 _ rfl
      refine zend ?_
      refine wk_of [] rfl ?_ ?_
      ·
        try simp only [go_sem]
        exact .same _ trivial
      ·
        try simp only [go_sem]
  subst hz0
  simp only [Sum.elim_inr] at h
  try simp only [go_sem]
  obtain rfl := Option.some.inj h
  exact .same _ trivial
theorem c_laysTTurn : SlLaysF0.n6 Try.prog ⟨fun | 6 => 108 | 15 => 116 | 14 => 131 | 28 => 141 | 29 => 142 | 20 => 145 | 21 => 146 | 22 => 147 | 23 => 148 | 24 => 149 | 25 => 150 | 26 => 151 | 27 => 152 | 46 => 159 | 47 => 154 | 48 => 155 | 49 => 160 | 50 => 161 | 57 => 163 | n => n, fun | 22 => 101 | 24 => 46 | 25 => 135 | 3 => 3 | 39 => 140 | 0 => 0 | 53 => 159 | 55 => 161 | 4 => 4 | 46 => 152 | 45 => 151 | 50 => 146 | 5 => 5 | 9 => 9 | 66 => 169 | 70 => 173 | 76 => 177 | 77 => 87 | n => n, fun | n => n⟩ where
  mixed := by kernel_rfl
  f6 := ⟨Try.f108.name, by decide, Try.func108.trans (congrArg some (by kernel_rfl))⟩
  f14 := ⟨Try.f131.name, by decide, Try.func131.trans (congrArg some (by kernel_rfl))⟩
  f15 := Try.func116.trans (congrArg some (by kernel_rfl))
  f20 := ⟨Try.f145.name, by decide, Try.func145.trans (congrArg some (by kernel_rfl))⟩
  f21 := ⟨Try.f146.name, by decide, Try.func146.trans (congrArg some (by kernel_rfl))⟩
  f22 := ⟨Try.f147.name, by decide, Try.func147.trans (congrArg some (by kernel_rfl))⟩
  f23 := ⟨Try.f148.name, by decide, Try.func148.trans (congrArg some (by kernel_rfl))⟩
  f24 := ⟨Try.f149.name, by decide, Try.func149.trans (congrArg some (by kernel_rfl))⟩
  f25 := ⟨Try.f150.name, by decide, Try.func150.trans (congrArg some (by kernel_rfl))⟩
  f26 := ⟨Try.f151.name, by decide, Try.func151.trans (congrArg some (by kernel_rfl))⟩
  f27 := ⟨Try.f152.name, by decide, Try.func152.trans (congrArg some (by kernel_rfl))⟩
  f28 := Try.func141.trans (congrArg some (by kernel_rfl))
  f29 := Try.func142.trans (congrArg some (by kernel_rfl))
  f46 := ⟨Try.f159.name, by decide, Try.func159.trans (congrArg some (by kernel_rfl))⟩
  f47 := Try.func154.trans (congrArg some (by kernel_rfl))
  f48 := Try.func155.trans (congrArg some (by kernel_rfl))
  f49 := ⟨Try.f160.name, by decide, Try.func160.trans (congrArg some (by kernel_rfl))⟩
  f50 := ⟨Try.f161.name, by decide, Try.func161.trans (congrArg some (by kernel_rfl))⟩
  f57 := ⟨Try.f163.name, by decide, Try.func163.trans (congrArg some (by kernel_rfl))⟩
  t0 := Try.underlying0
  a0 := Try.isAgg0
  z0 := Try.sizeOf0
  v0 := Try.zeroValue0
  t3 := Try.underlying3
  a3 := Try.isAgg3
  z3 := Try.sizeOf3
  v3 := Try.zeroValue3
  t4 := Try.underlying4
  a4 := Try.isAgg4
  z4 := Try.sizeOf4
  v4 := Try.zeroValue4
  t5 := Try.underlying5
  a5 := Try.isAgg5
  z5 := Try.sizeOf5
  v5 := Try.zeroValue5
  t9 := Try.underlying9
  a9 := Try.isAgg9
  z9 := Try.sizeOf9
  v9 := Try.zeroValue9
  t22 := Try.underlying101
  a22 := Try.isAgg101
  z22 := Try.sizeOf101
  v22 := Try.zeroValue101
  t25 := Try.underlying135
  a25 := Try.isAgg135
  z25 := Try.sizeOf135
  v25 := Try.zeroValue135
  t39 := Try.underlying140
  a39 := Try.isAgg140
  z39 := Try.sizeOf140
  v39 := Try.zeroValue140
  t45 := Try.underlying151
  a45 := Try.isAgg151
  z45 := Try.sizeOf151
  v45 := Try.zeroValue151
  t46 := Try.underlying152
  a46 := Try.isAgg152
  z46 := Try.sizeOf152
  v46 := Try.zeroValue152
  t50 := Try.underlying146
  a50 := Try.isAgg146
  z50 := Try.sizeOf146
  v50 := Try.zeroValue146
  t53 := Try.underlying159
  a53 := Try.isAgg159
  z53 := Try.sizeOf159
  v53 := Try.zeroValue159
  t55 := Try.underlying161
  a55 := Try.isAgg161
  z55 := Try.sizeOf161
  v55 := Try.zeroValue161
  t66 := Try.underlying169
  a66 := Try.isAgg169
  z66 := Try.sizeOf169
  v66 := Try.zeroValue169
  t70 := Try.underlying173
  a70 := Try.isAgg173
  z70 := Try.sizeOf173
  v70 := Try.zeroValue173
  t76 := Try.underlying177
  a76 := Try.isAgg177
  z76 := Try.sizeOf177
  v76 := Try.zeroValue177
  t77 := Try.underlying87
  a77 := Try.isAgg87
  z77 := Try.sizeOf87
  v77 := Try.zeroValue87
theorem c_slices_SortFunc_Turn_o {a0 : List TTurn} {f1 : TTurn → TTurn → Option Int} {r : List TTurn} (h : p_slices_SortFunc_Turn_o a0 f1 = some r) {g1 : Nat} (hk1 : nmL []) (hf1 : ∀ (x0 : TTurn) (x1 : TTurn) (y : Int), f1 x0 x1 = some y → PCalls Try.prog g1 (encTTurn x0 :: encTTurn x1 :: []) (.int .i64 y)) : MCalls Try.prog 108 [.sref (0, 0) 0 4 (List.length a0), fn g1 []] ⟨1, [(0, .one ⟨4, encTTurn {}, a0.map encTTurn⟩)]⟩ (tup []) ⟨1, [(0, .one ⟨4, encTTurn {}, (r).map encTTurn⟩)]⟩ :=
  sortFunc_p (dv := encTTurn {}) h c_laysTTurn Try.isAgg46 Try.sizeOf46 (by kernel_rfl) clamp_bdd_TTurn clamp_id_TTurn (fun _ => rfl) (by decide) one_TTurn lr_TTurn vr_TTurn hf1
theorem c_panel_cells_1 {a0 : TRect} {a1 : TRect} {a2 : TPanel} {r : Bool} (h : p_panel_cells_1 a0 a1 a2 = some r)  : PCalls Try.prog 128 [encTRect a0, .iptr (encTRect a1) 0, .iptr (encTPanel a2) 0] (.bool r) := by
  unfold p_panel_cells_1 at h
  refine pcalls_of (fun _ => none) (fun _ => []) Try.func128 (by unfold Try.f128; rfl) (by kernel_rfl) (by kernel_rfl) ?_
  simp only [awp_seq]
  simp only [argSlots]
  dsimp only [Try.f128]
  try simp only [go_sem]
  obtain ⟨x0, hx0, h⟩ := of_bind h
  refine call_p false (c_panel_isApart hx0) ⟨wkE _, wkE _, .same _ trivial, trivial⟩ nofun ?_
  try simp only [go_sem]
  obtain rfl := Option.some.inj h
  exact .same _ trivial
theorem c_panel_checkKinds {a0 : (List TBoardKind)} {r : Int} (h : p_panel_checkKinds a0 = some r)  : PCalls Try.prog 98 [encL 3 encTBoardKind a0] (.int .i64 r) := by
  unfold p_panel_checkKinds at h
  refine pcalls_of (ordOf [(10, [0, 1, 2, 3, 5, 6, 7, 8, 9, 4, 10, 11, 12, 13])]) (fun _ => []) Try.func98 (by unfold Try.f98; rfl) (by kernel_rfl) (by kernel_rfl) ?_
  simp only [awp_seq]
  simp only [argSlots]
  dsimp only [Try.f98]
  try simp only [go_sem]
  refine cut_l ?_
  try simp only [go_sem]
  refine ways_d (fun c0 => ?_) (fun c0 => ?_)
  ·
    replace h := if_p c0 h
    obtain rfl := Option.some.inj h
    exact .same _ trivial
  ·
    replace h := if_n c0 h
    obtain ⟨z1, h1, h⟩ := of_bind h
    refine cut_z z1 (fun (s : Int) => [(2, AVal.int IntKind.i64 s)]) (fun (s : Int) => { nx := 0, rows := [] : Heap }) ?_ (fun e1 hz1 => ?_)
    ·
      try simp only [go_sem]
      refine loop_w h1 (fun (s : Int × Int) => [(10, AVal.int IntKind.i64 (Prod.fst s)), (9, AVal.int IntKind.i64 (↑(List.length a0) : Int)), (8, encL 3 encTBoardKind a0), (2, AVal.int IntKind.i64 (Prod.snd s)), (0, encL 3 encTBoardKind a0)]) (fun (s : Int × Int) => { nx := 0, rows := [] : Heap }) ?_ ?_
      ·
        refine wk_of [] rfl ?_ ?_
        ·
          try simp only [go_sem]
          exact ⟨.same _ trivial, ⟨.same _ trivial, ⟨.same _ trivial, ⟨.same _ trivial, .same _ trivial⟩⟩⟩⟩
        ·
          try simp only [go_sem]
      intro n2 s2 o2 h2 he2 hi2
      try simp only [go_sem]
      refine cut_l ?_
      try simp only [go_sem]
      refine ways_d (fun c3 => ?_) (fun c3 => ?_)
      ·
        replace h2 := if_p c3 h2
        refine cut_l ?_
        try simp only [go_sem]
        obtain ⟨g4, h2⟩ := of_guard h2
        refine ob ⟨by assumption, by assumption⟩ ?_
        refine cut_l ?_
        try simp only [go_sem]
        obtain ⟨x5, hx5, h2⟩ := of_bind h2
        refine call_p false (c_plot_IsName hx5) ⟨.same _ trivial, trivial⟩ nofun ?_
        try simp only [go_sem]
        refine cut_l ?_
        try simp only [go_sem]
        refine ways (fun c6 => ?_) (fun c6 => ?_)
        ·
          replace h2 := if_t c6 h2
          try simp only [Bool.and_eq_true, Bool.or_eq_true, Bool.not_eq_true', Bool.not_eq_false', Bool.and_eq_false_imp, Bool.or_eq_false_iff, decide_eq_true_eq, decide_eq_false_iff_not] at c6
          obtain rfl := Option.some.inj h2
          obtain rfl := he2 _ rfl
          obtain rfl := Option.some.inj h
          exact .same _ trivial
        ·
          replace h2 := if_f c6 h2
          try simp only [Bool.and_eq_true, Bool.or_eq_true, Bool.not_eq_true', Bool.not_eq_false', Bool.and_eq_false_imp, Bool.or_eq_false_iff, decide_eq_true_eq, decide_eq_false_iff_not] at c6
          obtain ⟨x7, hx7, h2⟩ := of_bind h2
          refine call_p false (c_panel_within hx7) ⟨.same _ trivial, .same _ trivial, .same _ trivial, trivial⟩ nofun ?_
          try simp only [go_sem]
          obtain ⟨x8, hx8, h2⟩ := of_bind h2
          refine qcall_p false (fun hg => c_panel_within (if_t hg hx8)) (fun _ => ⟨.same _ trivial, .same _ trivial, .same _ trivial, trivial⟩) nofun ?_
          try simp only [go_sem]
          refine ob (by simp) ?_
          refine cut_l ?_
          try simp only [go_sem]
          refine ways (fun c9 => ?_) (fun c9 => ?_)
          ·
            replace h2 := if_t c9 h2
            try simp only [Bool.and_eq_true, Bool.or_eq_true, Bool.not_eq_true', Bool.not_eq_false', Bool.and_eq_false_imp, Bool.or_eq_false_iff, decide_eq_true_eq, decide_eq_false_iff_not] at c9
            obtain rfl := Option.some.inj h2
            obtain rfl := he2 _ rfl
            obtain rfl := Option.some.inj h
            exact .same _ trivial
          ·
            replace h2 := if_f c9 h2
            try simp only [Bool.and_eq_true, Bool.or_eq_true, Bool.not_eq_true', Bool.not_eq_false', Bool.and_eq_false_imp, Bool.or_eq_false_iff, decide_eq_true_eq, decide_eq_false_iff_not] at c9
            simp only [W64 (n := Prod.fst s2 - 1) (by omega) (by omega)]
            obtain ⟨g10, h2⟩ := of_guard h2
            refine ob (by assumption) ?_
            refine cut_l ?_
            try simp only [go_sem]
            refine ways (fun c11 => ?_) (fun c11 => ?_)
            ·
              replace h2 := if_t c11 h2
              try simp only [Bool.and_eq_true, Bool.or_eq_true, Bool.not_eq_true', Bool.not_eq_false', Bool.and_eq_false_imp, Bool.or_eq_false_iff, decide_eq_true_eq, decide_eq_false_iff_not] at c11
              obtain rfl := Option.some.inj h2
              obtain rfl := he2 _ rfl
              obtain rfl := Option.some.inj h
              exact .same _ trivial
            ·
              replace h2 := if_f c11 h2
              try simp only [Bool.and_eq_true, Bool.or_eq_true, Bool.not_eq_true', Bool.not_eq_false', Bool.and_eq_false_imp, Bool.or_eq_false_iff, decide_eq_true_eq, decide_eq_false_iff_not] at c11
              simp only [W64 (n := Prod.fst s2 + 1) (by omega) (by omega)]
              obtain rfl := Option.some.inj h2
              refine nextL (hi2 _ rfl) ?_
              refine wk_of [] rfl ?_ ?_
              ·
                try simp only [go_sem]
                exact ⟨.same _ trivial, ⟨.same _ trivial, ⟨.same _ trivial, ⟨.same _ trivial, .same _ trivial⟩⟩⟩⟩
              ·
                try simp only [go_sem]
      ·
        replace h2 := if_n c3 h2
        obtain rfl := Option.some.inj h2
        obtain rfl := he2 _ rfl
        refine zend ?_
        refine wk_of [] rfl ?_ ?_
        ·
          try simp only [go_sem]
          exact .same _ trivial
        ·
          try simp only [go_sem]
    subst hz1
    simp only [Sum.elim_inr] at h
    try simp only [go_sem]
    obtain rfl := Option.some.inj h
    exact .same _ trivial
theorem c_panel_isOnPanel {a0 : TPanel} {a1 : TPoint} {r : Bool} (h : p_panel_isOnPanel a0 a1 = some r)  : PCalls Try.prog 60 [encTPanel a0, encTPoint a1] (.bool r) := by
  unfold p_panel_isOnPanel at h
  refine pcalls_of (fun _ => none) (fun _ => []) Try.func60 (by unfold Try.f60; rfl) (by kernel_rfl) (by kernel_rfl) ?_
  simp only [awp_seq]
  simp only [argSlots]
  dsimp only [Try.f60]
  try simp only [go_sem]
  obtain ⟨x0, hx0, h⟩ := of_bind h
  refine call_p false (c_panel_within hx0) ⟨.same _ trivial, .same _ trivial, .same _ trivial, trivial⟩ nofun ?_
  try simp only [go_sem]
  obtain ⟨x1, hx1, h⟩ := of_bind h
  refine qcall_p false (fun hg => c_panel_within (if_t hg hx1)) (fun _ => ⟨.same _ trivial, .same _ trivial, .same _ trivial, trivial⟩) nofun ?_
  try simp only [go_sem]
  obtain rfl := Option.some.inj h
  exact .same _ trivial
theorem c_panel_kindAt {a0 : TPanel} {a1 : ByteArray} {r : Int} (h : p_panel_kindAt a0 a1 = some r)  : PCalls Try.prog 46 [encTPanel a0, .str a1] (.int .i64 r) := by
  unfold p_panel_kindAt at h
  refine pcalls_of (fun _ => none) (fun _ => []) Try.func46 (by unfold Try.f46; rfl) (by kernel_rfl) (by kernel_rfl) ?_
  simp only [awp_seq]
  simp only [argSlots]
  dsimp only [Try.f46]
  try simp only [go_sem]
  obtain ⟨x0, hx0, h⟩ := of_bind h
  refine call_p true (c_slices_IndexFunc_BoardKind hx0 (by simp only [go_sem]) (fun _ _ h => c_panel_kindAt_1 h)) ⟨.same _ trivial, wkv_fnA rfl ⟨wkv_box rfl (R0_ne _) rfl (by simp only [go_sem]) (.same _ trivial), trivial⟩, trivial⟩ (fun _ => by simp only [go_sem] <;> fail) ?_
  obtain rfl := Option.some.inj h
  exact .same _ trivial
theorem c_panel_open_1 {a0 : TRect} {a1 : TPoint} {r : Bool} (h : p_panel_open_1 a0 a1 = some r)  : PCalls Try.prog 100 [encTRect a0, .iptr (encTPoint a1) 0] (.bool r) := by
  unfold p_panel_open_1 at h
  refine pcalls_of (fun _ => none) (fun _ => []) Try.func100 (by unfold Try.f100; rfl) (by kernel_rfl) (by kernel_rfl) ?_
  simp only [awp_seq]
  simp only [argSlots]
  dsimp only [Try.f100]
  try simp only [go_sem]
  obtain ⟨x0, hx0, h⟩ := of_bind h
  refine call_p false (c_panel_isInside hx0) ⟨wkE _, wkE _, trivial⟩ nofun ?_
  obtain rfl := Option.some.inj h
  exact .same _ trivial
theorem c_shape_IsAt {a0 : Int} {r : Bool} (h : p_shape_IsAt a0 = some r)  : PCalls Try.prog 111 [.int .i64 a0] (.bool r) := by
  unfold p_shape_IsAt at h
  refine pcalls_of (fun _ => none) (fun _ => []) Try.func111 (by unfold Try.f111; rfl) (by kernel_rfl) (by kernel_rfl) ?_
  simp only [awp_seq]
  simp only [argSlots]
  dsimp only [Try.f111]
  try simp only [go_sem]
  obtain ⟨x0, hx0, h⟩ := of_bind h
  refine call_p false (c_shape_within hx0) ⟨.same _ trivial, .same _ trivial, .same _ trivial, trivial⟩ nofun ?_
  obtain rfl := Option.some.inj h
  exact .same _ trivial
theorem c_slices_ContainsFunc_Point {a0 : (List TPoint)} {f1 : (TPoint → Option (Bool))} {r : Bool} (h : p_slices_ContainsFunc_Point a0 f1 = some r) {g1 : Nat} {k1 : List AVal} (hk1 : nmL k1) (hf1 : ∀ (x0 : TPoint) (y : Bool), f1 x0 = some y → PCalls Try.prog g1 (encTPoint x0 :: k1) (.bool y)) : PCalls Try.prog 81 [encL 2 encTPoint a0, fn g1 k1] (.bool r) := by
  unfold p_slices_ContainsFunc_Point at h
  refine pcalls_of (fun _ => none) (fun _ => []) Try.func81 (by unfold Try.f81; rfl) (by kernel_rfl) (by kernel_rfl) ?_
  simp only [awp_seq]
  simp only [argSlots]
  dsimp only [Try.f81]
  try simp only [go_sem]
  obtain ⟨x0, hx0, h⟩ := of_bind h
  refine call_p false (c_slices_IndexFunc_Point hx0 hk1 hf1) ⟨.same _ trivial, .same _ (by simp only [go_sem]; assumption), trivial⟩ nofun ?_
  try simp only [go_sem]
  obtain rfl := Option.some.inj h
  exact .same _ trivial
theorem c_slices_ContainsFunc_Rect {a0 : (List TRect)} {f1 : (TRect → Option (Bool))} {r : Bool} (h : p_slices_ContainsFunc_Rect a0 f1 = some r) {g1 : Nat} {k1 : List AVal} (hk1 : nmL k1) (hf1 : ∀ (x0 : TRect) (y : Bool), f1 x0 = some y → PCalls Try.prog g1 (encTRect x0 :: k1) (.bool y)) : PCalls Try.prog 78 [encL 4 encTRect a0, fn g1 k1] (.bool r) := by
  unfold p_slices_ContainsFunc_Rect at h
  refine pcalls_of (fun _ => none) (fun _ => []) Try.func78 (by unfold Try.f78; rfl) (by kernel_rfl) (by kernel_rfl) ?_
  simp only [awp_seq]
  simp only [argSlots]
  dsimp only [Try.f78]
  try simp only [go_sem]
  obtain ⟨x0, hx0, h⟩ := of_bind h
  refine call_p false (c_slices_IndexFunc_Rect hx0 hk1 hf1) ⟨.same _ trivial, .same _ (by simp only [go_sem]; assumption), trivial⟩ nofun ?_
  try simp only [go_sem]
  obtain rfl := Option.some.inj h
  exact .same _ trivial
theorem c_slices_Contains_Point {a0 : (List TPoint)} {a1 : TPoint} {r : Bool} (h : p_slices_Contains_Point a0 a1 = some r)  : PCalls Try.prog 72 [encL 2 encTPoint a0, encTPoint a1] (.bool r) := by
  unfold p_slices_Contains_Point at h
  refine pcalls_of (fun _ => none) (fun _ => []) Try.func72 (by unfold Try.f72; rfl) (by kernel_rfl) (by kernel_rfl) ?_
  simp only [awp_seq]
  simp only [argSlots]
  dsimp only [Try.f72]
  try simp only [go_sem]
  obtain ⟨x0, hx0, h⟩ := of_bind h
  refine call_p false (c_slices_Index_Point hx0) ⟨.same _ trivial, wkE _, trivial⟩ nofun ?_
  try simp only [go_sem]
  obtain rfl := Option.some.inj h
  exact .same _ trivial
theorem c_panel_cellOf {a0 : TPanel} {a1 : TSlot} {r : TRect} (h : p_panel_cellOf a0 a1 = some r)  : PCalls Try.prog 127 [encTPanel a0, encTSlot a1] (encTRect r) := by
  unfold p_panel_cellOf at h
  refine pcalls_of (ordOf [(1, [0, 3, 8, 1, 2, 4, 5, 6, 7, 9, 10, 11, 12, 13, 14, 15])]) (fun _ => []) Try.func127 (by unfold Try.f127; rfl) (by kernel_rfl) (by kernel_rfl) ?_
  simp only [awp_seq]
  simp only [argSlots]
  dsimp only [Try.f127]
  try simp only [go_sem]
  obtain ⟨x0, hx0, h⟩ := of_bind h
  refine qcall_p false (fun _ => c_panel_kindAt hx0) (fun _ => ⟨wkE _, .same _ trivial, trivial⟩) nofun ?_
  try simp only [go_sem]
  obtain ⟨⟨g1_0, g1_1⟩, h⟩ := of_guard h
  refine ob ⟨by assumption, by assumption⟩ ?_
  obtain ⟨x2, hx2, h⟩ := of_bind h
  refine qcall_p false (fun _ => c_panel_sizeOf hx2) (fun _ => ⟨wkE _, .same _ trivial, trivial⟩) nofun ?_
  try simp only [go_sem]
  obtain ⟨⟨g3_0, g3_1⟩, h⟩ := of_guard h
  simp only [W64 g3_0 g3_1]
  obtain ⟨⟨g4_0, g4_1⟩, h⟩ := of_guard h
  simp only [W64 g4_0 g4_1]
  obtain rfl := Option.some.inj h
  exact wkE _
theorem c_panel_takes_1 {a0 : TPoint} {a1 : (List TPoint)} {a2 : TTurn} {r : Bool} (h : p_panel_takes_1 a0 a1 a2 = some r)  : PCalls Try.prog 130 [encTPoint a0, .iptr (encL 2 encTPoint a1) 0, .iptr (encTTurn a2) 0] (.bool r) := by
  unfold p_panel_takes_1 at h
  refine pcalls_of (fun _ => none) (fun _ => []) Try.func130 (by unfold Try.f130; rfl) (by kernel_rfl) (by kernel_rfl) ?_
  simp only [awp_seq]
  simp only [argSlots]
  dsimp only [Try.f130]
  try simp only [go_sem]
  obtain ⟨x0, hx0, h⟩ := of_bind h
  refine qcall_p false (fun _ => c_shape_TurnPoint hx0) (fun _ => ⟨wkE _, wkE _, trivial⟩) nofun ?_
  obtain ⟨x1, hx1, h⟩ := of_bind h
  refine qcall_p false (fun _ => c_slices_Contains_Point hx1) (fun _ => ⟨.same _ trivial, wkE _, trivial⟩) nofun ?_
  try simp only [go_sem]
  obtain rfl := Option.some.inj h
  exact .same _ trivial
theorem c_shape_IsPoint {a0 : TPoint} {r : Bool} (h : p_shape_IsPoint a0 = some r)  : PCalls Try.prog 71 [encTPoint a0] (.bool r) := by
  unfold p_shape_IsPoint at h
  refine pcalls_of (fun _ => none) (fun _ => []) Try.func71 (by unfold Try.f71; rfl) (by kernel_rfl) (by kernel_rfl) ?_
  simp only [awp_seq]
  simp only [argSlots]
  dsimp only [Try.f71]
  try simp only [go_sem]
  obtain ⟨x0, hx0, h⟩ := of_bind h
  refine call_p false (c_shape_IsAt hx0) ⟨.same _ trivial, trivial⟩ nofun ?_
  try simp only [go_sem]
  obtain ⟨x1, hx1, h⟩ := of_bind h
  refine qcall_p false (fun hg => c_shape_IsAt (if_t hg hx1)) (fun _ => ⟨.same _ trivial, trivial⟩) nofun ?_
  try simp only [go_sem]
  obtain rfl := Option.some.inj h
  exact .same _ trivial
theorem c_panel_cells {a0 : TPanel} {r : (List TRect) × Int} (h : p_panel_cells a0 = some r)  : PCalls Try.prog 99 [encTPanel a0] (tup [encL 4 encTRect r.1, .int .i64 r.2]) := by
  unfold p_panel_cells at h
  refine pcalls_of (fun _ => none) (fun _ => []) Try.func99 (by unfold Try.f99; rfl) (by kernel_rfl) (by kernel_rfl) ?_
  simp only [awp_seq]
  simp only [argSlots]
  dsimp only [Try.f99]
  try simp only [go_sem]
  refine cut_l ?_
  try simp only [go_sem]
  refine ways_d (fun c0 => ?_) (fun c0 => ?_)
  ·
    replace h := if_p c0 h
    obtain rfl := Option.some.inj h
    exact wkv_tup ⟨wkv_nilL, .same _ trivial, trivial⟩
  ·
    replace h := if_n c0 h
    obtain ⟨z1, h1, h⟩ := of_bind h
    refine cut_z z1 (fun (s : List TRect × Int × List TRect) => [(4, encL 4 encTRect (Prod.fst s)), (3, AVal.int IntKind.i64 (Prod.fst (Prod.snd s))), (2, encL 4 encTRect (Prod.snd (Prod.snd s)))]) (fun (s : List TRect × Int × List TRect) => { nx := 1, rows := [] : Heap }) ?_ (fun e1 hz1 => ?_)
    ·
      try simp only [go_sem]
      refine loop_w h1 (fun (s : Int × List TRect × Int × List TRect) => [(15, AVal.int IntKind.i64 (Prod.fst s)), (14, AVal.int IntKind.i64 (↑(List.length (TPanel.Slots a0)) : Int)), (13, encL 4 encTSlot (TPanel.Slots a0)), (4, AVal.sref (1, 0) 0 4 (List.length (Prod.fst (Prod.snd s)))), (3, AVal.int IntKind.i64 (Prod.fst (Prod.snd (Prod.snd s)))), (2, encL 4 encTRect (Prod.snd (Prod.snd (Prod.snd s)))), (1, AVal.ptr (0, 0) 7 0 0)]) (fun (s : Int × List TRect × Int × List TRect) => { nx := 2, rows := [(1, Ent.one { sz := 4, d := encTRect default, l := List.map encTRect (Prod.fst (Prod.snd s)) : Row }), (0, Ent.one { sz := 7, d := encTPanel a0, l := [encTPanel a0] : Row })] : Heap }) ?_ ?_
      ·
        refine wk_of [(1, none), (0, some 0)] rfl ?_ ?_
        ·
          try simp only [go_sem]
          exact ⟨.same _ trivial, ⟨.same _ trivial, ⟨.same _ trivial, ⟨wkv_nil (rn_none rfl) rfl, ⟨.same _ trivial, ⟨wkv_nilL, .ptr _ _ _ _ _ (rn_some rfl)⟩⟩⟩⟩⟩⟩
        ·
          try simp only [go_sem]
          exact ⟨wkR_nilT (rn_none rfl), wkR_box (rn_some rfl) rfl (wkE _)⟩
      intro n2 s2 o2 h2 he2 hi2
      try simp only [go_sem]
      refine cut_l ?_
      try simp only [go_sem]
      refine ways_d (fun c3 => ?_) (fun c3 => ?_)
      ·
        replace h2 := if_p c3 h2
        refine cut_l ?_
        try simp only [go_sem]
        obtain ⟨g4, h2⟩ := of_guard h2
        refine ob ⟨by assumption, by assumption⟩ ?_
        obtain ⟨x5, hx5, h2⟩ := of_bind h2
        refine call_p false (c_panel_kindAt hx5) ⟨wkE _, .same _ trivial, trivial⟩ nofun ?_
        try simp only [go_sem]
        refine cut_l ?_
        try simp only [go_sem]
        refine ways_d (fun c6 => ?_) (fun c6 => ?_)
        ·
          replace h2 := if_p c6 h2
          obtain rfl := Option.some.inj h2
          obtain rfl := he2 _ rfl
          obtain rfl := Option.some.inj h
          exact wkv_tup ⟨wkv_nilL, .same _ trivial, trivial⟩
        ·
          replace h2 := if_n c6 h2
          obtain ⟨x7, hx7, h2⟩ := of_bind h2
          refine call_p false (c_panel_within hx7) ⟨.same _ trivial, .same _ trivial, .same _ trivial, trivial⟩ nofun ?_
          try simp only [go_sem]
          obtain ⟨x8, hx8, h2⟩ := of_bind h2
          refine qcall_p false (fun hg => c_panel_within (if_t hg hx8)) (fun _ => ⟨.same _ trivial, .same _ trivial, .same _ trivial, trivial⟩) nofun ?_
          try simp only [go_sem]
          refine ob (by simp) ?_
          obtain ⟨x9, hx9, h2⟩ := of_bind h2
          refine qcall_p false (fun hg => c_panel_within (if_t hg hx9)) (fun _ => ⟨.same _ trivial, .same _ trivial, .same _ trivial, trivial⟩) nofun ?_
          try simp only [go_sem]
          refine ob (by simp) ?_
          refine cut_l ?_
          try simp only [go_sem]
          refine ways (fun c10 => ?_) (fun c10 => ?_)
          ·
            replace h2 := if_t c10 h2
            try simp only [Bool.and_eq_true, Bool.or_eq_true, Bool.not_eq_true', Bool.not_eq_false', Bool.and_eq_false_imp, Bool.or_eq_false_iff, decide_eq_true_eq, decide_eq_false_iff_not] at c10
            obtain rfl := Option.some.inj h2
            obtain rfl := he2 _ rfl
            obtain rfl := Option.some.inj h
            exact wkv_tup ⟨wkv_nilL, .same _ trivial, trivial⟩
          ·
            replace h2 := if_f c10 h2
            try simp only [Bool.and_eq_true, Bool.or_eq_true, Bool.not_eq_true', Bool.not_eq_false', Bool.and_eq_false_imp, Bool.or_eq_false_iff, decide_eq_true_eq, decide_eq_false_iff_not] at c10
            obtain ⟨x11, hx11, h2⟩ := of_bind h2
            refine call_p false (c_panel_cellOf hx11) ⟨wkE _, wkE _, trivial⟩ nofun ?_
            try simp only [go_sem]
            obtain ⟨x12, hx12, h2⟩ := of_bind h2
            refine call_p false (c_panel_isOn hx12) ⟨wkE _, wkE _, trivial⟩ nofun ?_
            try simp only [go_sem]
            refine cut_l ?_
            try simp only [go_sem]
            refine ways (fun c13 => ?_) (fun c13 => ?_)
            ·
              replace h2 := if_t c13 h2
              try simp only [Bool.and_eq_true, Bool.or_eq_true, Bool.not_eq_true', Bool.not_eq_false', Bool.and_eq_false_imp, Bool.or_eq_false_iff, decide_eq_true_eq, decide_eq_false_iff_not] at c13
              obtain rfl := Option.some.inj h2
              obtain rfl := he2 _ rfl
              obtain rfl := Option.some.inj h
              exact wkv_tup ⟨wkv_nilL, .same _ trivial, trivial⟩
            ·
              replace h2 := if_f c13 h2
              try simp only [Bool.and_eq_true, Bool.or_eq_true, Bool.not_eq_true', Bool.not_eq_false', Bool.and_eq_false_imp, Bool.or_eq_false_iff, decide_eq_true_eq, decide_eq_false_iff_not] at c13
              obtain ⟨x14, hx14, h2⟩ := of_bind h2
              refine call_p true (c_slices_ContainsFunc_Rect hx14 (by simp only [go_sem]) (fun _ _ h => c_panel_cells_1 h)) ⟨wkv_own rfl (R0_ne _) rfl, wkv_fnA rfl ⟨wkv_box rfl (R0_ne _) rfl (by simp only [go_sem]) (wkE _), wkv_box rfl (R0_ne _) rfl (by simp only [go_sem]) (wkE _), trivial⟩, trivial⟩ (fun _ => by simp only [go_sem] <;> fail) ?_
              refine cut_l ?_
              try simp only [go_sem]
              refine ways (fun c15 => ?_) (fun c15 => ?_)
              ·
                replace h2 := if_t c15 h2
                try simp only [Bool.and_eq_true, Bool.or_eq_true, Bool.not_eq_true', Bool.not_eq_false', Bool.and_eq_false_imp, Bool.or_eq_false_iff, decide_eq_true_eq, decide_eq_false_iff_not] at c15
                obtain rfl := Option.some.inj h2
                obtain rfl := he2 _ rfl
                obtain rfl := Option.some.inj h
                exact wkv_tup ⟨wkv_nilL, .same _ trivial, trivial⟩
              ·
                replace h2 := if_f c15 h2
                try simp only [Bool.and_eq_true, Bool.or_eq_true, Bool.not_eq_true', Bool.not_eq_false', Bool.and_eq_false_imp, Bool.or_eq_false_iff, decide_eq_true_eq, decide_eq_false_iff_not] at c15
                obtain ⟨g16, h2⟩ := of_guard h2
                refine ob ⟨by omega, by assumption⟩ ?_
                simp only [W64 (n := Prod.fst s2 + 1) (by omega) (by omega)]
                obtain rfl := Option.some.inj h2
                refine nextL (hi2 _ rfl) ?_
                refine wk_of [(1, some 7), (0, some 0)] rfl ?_ ?_
                ·
                  try simp only [go_sem]
                  exact ⟨.same _ trivial, ⟨.same _ trivial, ⟨.same _ trivial, ⟨wkv_sref (rn_some rfl) rfl, ⟨.same _ trivial, ⟨.same _ trivial, .ptr _ _ _ _ _ (rn_some rfl)⟩⟩⟩⟩⟩⟩
                ·
                  try simp only [go_sem]
                  exact ⟨wkR_typed (rn_some rfl) rfl rfl, wkR_box (rn_some rfl) rfl (wkE _)⟩
      ·
        replace h2 := if_n c3 h2
        obtain rfl := Option.some.inj h2
        obtain rfl := he2 _ rfl
        refine zend ?_
        refine wk_of [] rfl ?_ ?_
        ·
          try simp only [go_sem]
          exact ⟨wkv_own rfl (rn_notTo rfl) rfl, ⟨.same _ trivial, .same _ trivial⟩⟩
        ·
          try simp only [go_sem]
    subst hz1
    simp only [Sum.elim_inr] at h
    try simp only [go_sem]
    obtain rfl := Option.some.inj h
    exact wkv_same (by simp only [go_sem]) rfl
theorem c_panel_takes {a0 : TTurn} {a1 : (List TPoint)} {a2 : (List TPoint)} {r : Bool} (h : p_panel_takes a0 a1 a2 = some r)  : PCalls Try.prog 107 [encTTurn a0, encL 2 encTPoint a1, encL 2 encTPoint a2] (.bool r) := by
  unfold p_panel_takes at h
  refine pcalls_of (fun _ => none) (fun _ => []) Try.func107 (by unfold Try.f107; rfl) (by kernel_rfl) (by kernel_rfl) ?_
  simp only [awp_seq]
  simp only [argSlots]
  dsimp only [Try.f107]
  try simp only [go_sem]
  obtain ⟨x0, hx0, h⟩ := of_bind h
  refine qcall_p true (fun hg => c_slices_ContainsFunc_Point (if_t hg hx0) (by simp only [go_sem]) (fun _ _ h => c_panel_takes_1 h)) (fun _ => ⟨.same _ trivial, wkv_fnA rfl ⟨wkv_box rfl (R0_ne _) rfl (by simp only [go_sem]) (.same _ trivial), wkv_box rfl (R0_ne _) rfl (by simp only [go_sem]) (wkE _), trivial⟩, trivial⟩) (fun _ => by simp only [go_sem] <;> fail) ?_
  try simp only [go_sem]
  obtain rfl := Option.some.inj h
  exact .same _ trivial
theorem c_shape_CheckTurn {a0 : TTurn} {r : Int} (h : p_shape_CheckTurn a0 = some r)  : PCalls Try.prog 39 [encTTurn a0] (.int .i64 r) := by
  unfold p_shape_CheckTurn at h
  refine pcalls_of (fun _ => none) (fun _ => []) Try.func39 (by unfold Try.f39; rfl) (by kernel_rfl) (by kernel_rfl) ?_
  simp only [awp_seq]
  simp only [argSlots]
  dsimp only [Try.f39]
  try simp only [go_sem]
  obtain ⟨x0, hx0, h⟩ := of_bind h
  refine call_p false (c_shape_within hx0) ⟨.same _ trivial, .same _ trivial, .same _ trivial, trivial⟩ nofun ?_
  try simp only [go_sem]
  obtain ⟨x1, hx1, h⟩ := of_bind h
  refine qcall_p false (fun hg => c_shape_IsPoint (if_t hg hx1)) (fun _ => ⟨wkE _, trivial⟩) nofun ?_
  try simp only [go_sem]
  refine ob (by simp) ?_
  refine cut_l ?_
  try simp only [go_sem]
  refine ways (fun c2 => ?_) (fun c2 => ?_)
  ·
    replace h := if_t c2 h
    try simp only [Bool.and_eq_true, Bool.or_eq_true, Bool.not_eq_true', Bool.not_eq_false', Bool.and_eq_false_imp, Bool.or_eq_false_iff, decide_eq_true_eq, decide_eq_false_iff_not] at c2
    obtain rfl := Option.some.inj h
    exact .same _ trivial
  ·
    replace h := if_f c2 h
    try simp only [Bool.and_eq_true, Bool.or_eq_true, Bool.not_eq_true', Bool.not_eq_false', Bool.and_eq_false_imp, Bool.or_eq_false_iff, decide_eq_true_eq, decide_eq_false_iff_not] at c2
    obtain rfl := Option.some.inj h
    exact .same _ trivial
theorem c_panel_open {a0 : TPanel} {r : (List TRect) × Int} (h : p_panel_open a0 = some r)  : PCalls Try.prog 49 [encTPanel a0] (tup [encL 4 encTRect r.1, .int .i64 r.2]) := by
  unfold p_panel_open at h
  refine pcalls_of (ordOf [(18, [0, 2, 1, 3, 4, 5, 6])]) (fun _ => []) Try.func49 (by unfold Try.f49; rfl) (by kernel_rfl) (by kernel_rfl) ?_
  simp only [awp_seq]
  simp only [argSlots]
  dsimp only [Try.f49]
  try simp only [go_sem]
  obtain ⟨x0, hx0, h⟩ := of_bind h
  refine call_p false (c_panel_within hx0) ⟨.same _ trivial, .same _ trivial, .same _ trivial, trivial⟩ nofun ?_
  try simp only [go_sem]
  obtain ⟨x1, hx1, h⟩ := of_bind h
  refine qcall_p false (fun hg => c_panel_within (if_t hg hx1)) (fun _ => ⟨.same _ trivial, .same _ trivial, .same _ trivial, trivial⟩) nofun ?_
  try simp only [go_sem]
  refine ob (by simp) ?_
  obtain ⟨x2, hx2, h⟩ := of_bind h
  refine qcall_p false (fun hg => c_panel_within (if_t hg hx2)) (fun _ => ⟨.same _ trivial, .same _ trivial, .same _ trivial, trivial⟩) nofun ?_
  try simp only [go_sem]
  refine ob (by simp) ?_
  obtain ⟨x3, hx3, h⟩ := of_bind h
  refine qcall_p false (fun hg => c_panel_within (if_t hg hx3)) (fun _ => ⟨.same _ trivial, .same _ trivial, .same _ trivial, trivial⟩) nofun ?_
  try simp only [go_sem]
  refine ob (by simp) ?_
  refine cut_l ?_
  try simp only [go_sem]
  refine ways (fun c4 => ?_) (fun c4 => ?_)
  ·
    replace h := if_t c4 h
    try simp only [Bool.and_eq_true, Bool.or_eq_true, Bool.not_eq_true', Bool.not_eq_false', Bool.and_eq_false_imp, Bool.or_eq_false_iff, decide_eq_true_eq, decide_eq_false_iff_not] at c4
    obtain rfl := Option.some.inj h
    exact wkv_tup ⟨wkv_nilL, .same _ trivial, trivial⟩
  ·
    replace h := if_f c4 h
    try simp only [Bool.and_eq_true, Bool.or_eq_true, Bool.not_eq_true', Bool.not_eq_false', Bool.and_eq_false_imp, Bool.or_eq_false_iff, decide_eq_true_eq, decide_eq_false_iff_not] at c4
    obtain ⟨x5, hx5, h⟩ := of_bind h
    refine call_p false (c_panel_checkKinds hx5) ⟨.same _ trivial, trivial⟩ nofun ?_
    try simp only [go_sem]
    refine cut_l ?_
    try simp only [go_sem]
    refine ways_n (fun c6 => ?_) (fun c6 => ?_)
    ·
      replace h := if_n c6 h
      obtain rfl := Option.some.inj h
      exact wkv_tup ⟨wkv_nilL, .same _ trivial, trivial⟩
    ·
      replace h := if_p c6 h
      obtain ⟨x7, hx7, h⟩ := of_bind h
      refine call_p false (c_panel_cells hx7) ⟨wkE _, trivial⟩ nofun ?_
      try simp only [go_sem]
      refine cut_l ?_
      try simp only [go_sem]
      refine ways_n (fun c8 => ?_) (fun c8 => ?_)
      ·
        replace h := if_n c8 h
        obtain rfl := Option.some.inj h
        exact wkv_tup ⟨wkv_nilL, .same _ trivial, trivial⟩
      ·
        replace h := if_p c8 h
        refine cut_l ?_
        try simp only [go_sem]
        refine ways_d (fun c9 => ?_) (fun c9 => ?_)
        ·
          replace h := if_p c9 h
          obtain rfl := Option.some.inj h
          exact wkv_tup ⟨wkv_nilL, .same _ trivial, trivial⟩
        ·
          replace h := if_n c9 h
          obtain ⟨z10, h10, h⟩ := of_bind h
          refine cut_z z10 (fun (s : Int × List TRect) => [(5, encL 4 encTRect (Prod.fst x7)), (3, AVal.int IntKind.i64 (Prod.fst s)), (2, encL 4 encTRect (Prod.snd s))]) (fun (s : Int × List TRect) => { nx := 1, rows := [] : Heap }) ?_ (fun e10 hz10 => ?_)
          ·
            try simp only [go_sem]
            refine loop_w h10 (fun (s : Int × Int × List TRect) => [(52, AVal.int IntKind.i64 (Prod.fst s)), (51, AVal.int IntKind.i64 (↑(List.length (TPanel.Marks a0)) : Int)), (50, encL 2 encTPoint (TPanel.Marks a0)), (5, encL 4 encTRect (Prod.fst x7)), (3, AVal.int IntKind.i64 (Prod.fst (Prod.snd s))), (2, encL 4 encTRect (Prod.snd (Prod.snd s))), (1, AVal.ptr (0, 0) 7 0 0)]) (fun (s : Int × Int × List TRect) => { nx := 1, rows := [(0, Ent.one { sz := 7, d := encTPanel a0, l := [encTPanel a0] : Row })] : Heap }) ?_ ?_
            ·
              refine wk_of [(0, some 0)] rfl ?_ ?_
              ·
                try simp only [go_sem]
                exact ⟨.same _ trivial, ⟨.same _ trivial, ⟨.same _ trivial, ⟨.same _ trivial, ⟨.same _ trivial, ⟨wkv_nilL, .ptr _ _ _ _ _ (rn_some rfl)⟩⟩⟩⟩⟩⟩
              ·
                try simp only [go_sem]
                exact wkR_box (rn_some rfl) rfl (wkE _)
            intro n11 s11 o11 h11 he11 hi11
            try simp only [go_sem]
            refine cut_l ?_
            try simp only [go_sem]
            refine ways_d (fun c12 => ?_) (fun c12 => ?_)
            ·
              replace h11 := if_p c12 h11
              refine cut_l ?_
              try simp only [go_sem]
              obtain ⟨g13, h11⟩ := of_guard h11
              refine ob ⟨by assumption, by assumption⟩ ?_
              refine cut_l ?_
              try simp only [go_sem]
              obtain ⟨x14, hx14, h11⟩ := of_bind h11
              refine call_p false (c_panel_isOnPanel hx14) ⟨wkE _, wkE _, trivial⟩ nofun ?_
              try simp only [go_sem]
              refine cut_l ?_
              try simp only [go_sem]
              refine ways (fun c15 => ?_) (fun c15 => ?_)
              ·
                replace h11 := if_t c15 h11
                try simp only [Bool.and_eq_true, Bool.or_eq_true, Bool.not_eq_true', Bool.not_eq_false', Bool.and_eq_false_imp, Bool.or_eq_false_iff, decide_eq_true_eq, decide_eq_false_iff_not] at c15
                obtain rfl := Option.some.inj h11
                obtain rfl := he11 _ rfl
                obtain rfl := Option.some.inj h
                exact wkv_tup ⟨wkv_nilL, .same _ trivial, trivial⟩
              ·
                replace h11 := if_f c15 h11
                try simp only [Bool.and_eq_true, Bool.or_eq_true, Bool.not_eq_true', Bool.not_eq_false', Bool.and_eq_false_imp, Bool.or_eq_false_iff, decide_eq_true_eq, decide_eq_false_iff_not] at c15
                obtain ⟨x16, hx16, h11⟩ := of_bind h11
                refine call_p true (c_slices_ContainsFunc_Rect hx16 (by simp only [go_sem]) (fun _ _ h => c_panel_open_1 h)) ⟨.same _ trivial, wkv_fnA rfl ⟨wkv_box rfl (R0_ne _) rfl (by simp only [go_sem]) (wkE _), trivial⟩, trivial⟩ (fun _ => by simp only [go_sem] <;> fail) ?_
                refine cut_l ?_
                try simp only [go_sem]
                refine ways (fun c17 => ?_) (fun c17 => ?_)
                ·
                  replace h11 := if_t c17 h11
                  try simp only [Bool.and_eq_true, Bool.or_eq_true, Bool.not_eq_true', Bool.not_eq_false', Bool.and_eq_false_imp, Bool.or_eq_false_iff, decide_eq_true_eq, decide_eq_false_iff_not] at c17
                  obtain rfl := Option.some.inj h11
                  obtain rfl := he11 _ rfl
                  obtain rfl := Option.some.inj h
                  exact wkv_tup ⟨wkv_nilL, .same _ trivial, trivial⟩
                ·
                  replace h11 := if_f c17 h11
                  try simp only [Bool.and_eq_true, Bool.or_eq_true, Bool.not_eq_true', Bool.not_eq_false', Bool.and_eq_false_imp, Bool.or_eq_false_iff, decide_eq_true_eq, decide_eq_false_iff_not] at c17
                  refine ob ⟨by assumption, by omega⟩ ?_
                  obtain ⟨x18, hx18, h11⟩ := of_bind h11
                  refine qcall_p false (fun _ => c_slices_Contains_Point hx18) (fun _ => ⟨.same _ trivial, wkE _, trivial⟩) nofun ?_
                  refine cut_l ?_
                  try simp only [go_sem]
                  refine ways (fun c19 => ?_) (fun c19 => ?_)
                  ·
                    replace h11 := if_t c19 h11
                    try simp only [Bool.and_eq_true, Bool.or_eq_true, Bool.not_eq_true', Bool.not_eq_false', Bool.and_eq_false_imp, Bool.or_eq_false_iff, decide_eq_true_eq, decide_eq_false_iff_not] at c19
                    obtain rfl := Option.some.inj h11
                    obtain rfl := he11 _ rfl
                    obtain rfl := Option.some.inj h
                    exact wkv_tup ⟨wkv_nilL, .same _ trivial, trivial⟩
                  ·
                    replace h11 := if_f c19 h11
                    try simp only [Bool.and_eq_true, Bool.or_eq_true, Bool.not_eq_true', Bool.not_eq_false', Bool.and_eq_false_imp, Bool.or_eq_false_iff, decide_eq_true_eq, decide_eq_false_iff_not] at c19
                    simp only [W64 (n := Prod.fst s11 + 1) (by omega) (by omega)]
                    obtain rfl := Option.some.inj h11
                    refine nextL (hi11 _ rfl) ?_
                    refine wk_of [(0, some 0)] rfl ?_ ?_
                    ·
                      try simp only [go_sem]
                      exact ⟨.same _ trivial, ⟨.same _ trivial, ⟨.same _ trivial, ⟨.same _ trivial, ⟨.same _ trivial, ⟨.same _ trivial, .ptr _ _ _ _ _ (rn_some rfl)⟩⟩⟩⟩⟩⟩
                    ·
                      try simp only [go_sem]
                      exact wkR_box (rn_some rfl) rfl (wkE _)
            ·
              replace h11 := if_n c12 h11
              obtain rfl := Option.some.inj h11
              obtain rfl := he11 _ rfl
              refine zend ?_
              refine wk_of [] rfl ?_ ?_
              ·
                try simp only [go_sem]
                exact ⟨.same _ trivial, ⟨.same _ trivial, .same _ trivial⟩⟩
              ·
                try simp only [go_sem]
          subst hz10
          simp only [Sum.elim_inr] at h
          try simp only [go_sem]
          obtain rfl := Option.some.inj h
          exact wkv_same (by simp only [go_sem]) rfl
theorem c_panel_turns {a0 : (List TPoint)} {a1 : (List TPoint)} {r : (List TTurn)} (h : p_panel_turns a0 a1 = some r)  : PCalls Try.prog 69 [encL 2 encTPoint a0, encL 2 encTPoint a1] (encL 4 encTTurn r) := by
  unfold p_panel_turns at h
  refine pcalls_of (fun _ => none) (fun _ => []) Try.func69 (by unfold Try.f69; rfl) (by kernel_rfl) (by kernel_rfl) ?_
  simp only [awp_seq]
  simp only [argSlots]
  dsimp only [Try.f69]
  try simp only [go_sem]
  obtain ⟨e0, h0, h⟩ := of_bind h
  refine cut_j ([(5, encL 4 encTTurn e0), (4, AVal.nilsl)]) ({ nx := 0, rows := [] : Heap }) ?_ ?_
  ·
    try simp only [go_sem]
    refine loop_w h0 (fun (s : Int × List TTurn) => [(12, AVal.int IntKind.i64 (Prod.fst s)), (5, AVal.sref (0, 0) 0 4 (List.length (Prod.snd s))), (4, AVal.nilsl), (0, encL 2 encTPoint a0), (1, encL 2 encTPoint a1)]) (fun (s : Int × List TTurn) => { nx := 1, rows := [(0, Ent.one { sz := 4, d := encTTurn default, l := List.map encTTurn (Prod.snd s) : Row })] : Heap }) ?_ ?_
    ·
      refine wk_of [(0, none)] rfl ?_ ?_
      ·
        try simp only [go_sem]
        exact ⟨.same _ trivial, ⟨wkv_nil (rn_none rfl) rfl, ⟨.same _ trivial, ⟨.same _ trivial, .same _ trivial⟩⟩⟩⟩
      ·
        try simp only [go_sem]
        exact wkR_nilT (rn_none rfl)
    intro n1 s1 o1 h1 he1 hi1
    try simp only [go_sem]
    refine cut_l ?_
    try simp only [go_sem]
    refine ways_d (fun c2 => ?_) (fun c2 => ?_)
    ·
      replace h1 := if_p c2 h1
      obtain ⟨e3, h3, h1⟩ := of_bind h1
      refine cut_j ([(12, AVal.int IntKind.i64 (Prod.fst s1)), (5, AVal.sref (0, 0) 0 4 (List.length e3)), (4, AVal.nilsl), (0, encL 2 encTPoint a0), (1, encL 2 encTPoint a1)]) ({ nx := 1, rows := [(0, Ent.one { sz := 4, d := encTTurn default, l := List.map encTTurn e3 : Row })] : Heap }) ?_ ?_
      ·
        try simp only [go_sem]
        obtain ⟨e4, h4, h3⟩ := of_bind h3
        refine cut_j ([(7, AVal.sref (1, 0) 0 4 (List.length e4)), (12, AVal.int IntKind.i64 (Prod.fst s1)), (5, AVal.sref (0, 0) 0 4 (List.length (Prod.snd s1))), (4, AVal.nilsl), (0, encL 2 encTPoint a0), (1, encL 2 encTPoint a1)]) ({ nx := 2, rows := [(1, Ent.one { sz := 4, d := encTTurn default, l := List.map encTTurn e4 : Row }), (0, Ent.one { sz := 4, d := encTTurn default, l := List.map encTTurn (Prod.snd s1) : Row })] : Heap }) ?_ ?_
        ·
          try simp only [go_sem]
          refine loop_w h4 (fun (s : Int × List TTurn) => [(17, AVal.int IntKind.i64 (Prod.fst s)), (16, AVal.int IntKind.i64 (↑(List.length a1) : Int)), (15, encL 2 encTPoint a1), (7, AVal.sref (1, 0) 0 4 (List.length (Prod.snd s))), (6, AVal.int IntKind.i64 (Prod.fst s1)), (12, AVal.int IntKind.i64 (Prod.fst s1)), (5, AVal.sref (0, 0) 0 4 (List.length (Prod.snd s1))), (4, AVal.nilsl), (0, encL 2 encTPoint a0), (1, encL 2 encTPoint a1)]) (fun (s : Int × List TTurn) => { nx := 2, rows := [(1, Ent.one { sz := 4, d := encTTurn default, l := List.map encTTurn (Prod.snd s) : Row }), (0, Ent.one { sz := 4, d := encTTurn default, l := List.map encTTurn (Prod.snd s1) : Row })] : Heap }) ?_ ?_
          ·
            refine wk_of [(1, none), (0, some 0)] rfl ?_ ?_
            ·
              try simp only [go_sem]
              exact ⟨.same _ trivial, ⟨.same _ trivial, ⟨.same _ trivial, ⟨wkv_nil (rn_none rfl) rfl, ⟨.same _ trivial, ⟨.same _ trivial, ⟨wkv_sref (rn_some rfl) rfl, ⟨.same _ trivial, ⟨.same _ trivial, .same _ trivial⟩⟩⟩⟩⟩⟩⟩⟩⟩
            ·
              try simp only [go_sem]
              exact ⟨wkR_nilT (rn_none rfl), wkR_typed (rn_some rfl) rfl rfl⟩
          intro n5 s5 o5 h5 he5 hi5
          try simp only [go_sem]
          refine cut_l ?_
          try simp only [go_sem]
          refine ways_d (fun c6 => ?_) (fun c6 => ?_)
          ·
            replace h5 := if_p c6 h5
            obtain ⟨e7, h7, h5⟩ := of_bind h5
            refine cut_j ([(17, AVal.int IntKind.i64 (Prod.fst s5)), (16, AVal.int IntKind.i64 (↑(List.length a1) : Int)), (15, encL 2 encTPoint a1), (7, AVal.sref (1, 0) 0 4 (List.length e7)), (6, AVal.int IntKind.i64 (Prod.fst s1)), (12, AVal.int IntKind.i64 (Prod.fst s1)), (5, AVal.sref (0, 0) 0 4 (List.length (Prod.snd s1))), (4, AVal.nilsl), (0, encL 2 encTPoint a0), (1, encL 2 encTPoint a1)]) ({ nx := 2, rows := [(1, Ent.one { sz := 4, d := encTTurn default, l := List.map encTTurn e7 : Row }), (0, Ent.one { sz := 4, d := encTTurn default, l := List.map encTTurn (Prod.snd s1) : Row })] : Heap }) ?_ ?_
            ·
              try simp only [go_sem]
              obtain ⟨g8, h7⟩ := of_guard h7
              refine ob ⟨by assumption, by assumption⟩ ?_
              obtain ⟨g9, h7⟩ := of_guard h7
              refine ob ⟨by omega, by assumption⟩ ?_
              obtain ⟨x10, hx10, h7⟩ := of_bind h7
              refine qcall_p false (fun _ => c_shape_TurnPoint hx10) (fun _ => ⟨wkE _, wkE _, trivial⟩) nofun ?_
              try simp only [go_sem]
              obtain ⟨⟨g11_0, g11_1⟩, h7⟩ := of_guard h7
              simp only [W64 g11_0 g11_1]
              obtain ⟨⟨g12_0, g12_1⟩, h7⟩ := of_guard h7
              simp only [W64 g12_0 g12_1]
              obtain ⟨x13, hx13, h7⟩ := of_bind h7
              refine call_p false (c_panel_takes hx13) ⟨wkE _, .same _ trivial, .same _ trivial, trivial⟩ nofun ?_
              refine cut_l ?_
              try simp only [go_sem]
              refine ways (fun c14 => ?_) (fun c14 => ?_)
              ·
                replace h7 := if_t c14 h7
                try simp only [Bool.and_eq_true, Bool.or_eq_true, Bool.not_eq_true', Bool.not_eq_false', Bool.and_eq_false_imp, Bool.or_eq_false_iff, decide_eq_true_eq, decide_eq_false_iff_not] at c14
                obtain ⟨g15, h7⟩ := of_guard h7
                refine ob ⟨by omega, by assumption⟩ ?_
                obtain rfl := Option.some.inj h7
                refine wk_of [(1, some 10008), (0, some 0)] rfl ?_ ?_
                ·
                  try simp only [go_sem]
                  exact ⟨.same _ trivial, ⟨.same _ trivial, ⟨.same _ trivial, ⟨wkv_sref (rn_some rfl) rfl, ⟨.same _ trivial, ⟨.same _ trivial, ⟨wkv_sref (rn_some rfl) rfl, ⟨.same _ trivial, ⟨.same _ trivial, .same _ trivial⟩⟩⟩⟩⟩⟩⟩⟩⟩
                ·
                  try simp only [go_sem]
                  exact ⟨wkR_typed (rn_some rfl) rfl rfl, wkR_typed (rn_some rfl) rfl rfl⟩
              ·
                replace h7 := if_f c14 h7
                try simp only [Bool.and_eq_true, Bool.or_eq_true, Bool.not_eq_true', Bool.not_eq_false', Bool.and_eq_false_imp, Bool.or_eq_false_iff, decide_eq_true_eq, decide_eq_false_iff_not] at c14
                obtain rfl := Option.some.inj h7
                refine wk_of [(1, some 1), (0, some 0)] rfl ?_ ?_
                ·
                  try simp only [go_sem]
                  exact ⟨.same _ trivial, ⟨.same _ trivial, ⟨.same _ trivial, ⟨wkv_sref (rn_some rfl) rfl, ⟨.same _ trivial, ⟨.same _ trivial, ⟨wkv_sref (rn_some rfl) rfl, ⟨.same _ trivial, ⟨.same _ trivial, .same _ trivial⟩⟩⟩⟩⟩⟩⟩⟩⟩
                ·
                  try simp only [go_sem]
                  exact ⟨wkR_typed (rn_some rfl) rfl rfl, wkR_typed (rn_some rfl) rfl rfl⟩
            try simp only [go_sem]
            obtain ⟨⟨g16_0, g16_1⟩, h5⟩ := of_guard h5
            simp only [W64 g16_0 g16_1]
            obtain rfl := Option.some.inj h5
            refine nextL (hi5 _ rfl) ?_
            refine wk_of [(1, some 1), (0, some 0)] rfl ?_ ?_
            ·
              try simp only [go_sem]
              exact ⟨.same _ trivial, ⟨.same _ trivial, ⟨.same _ trivial, ⟨wkv_sref (rn_some rfl) rfl, ⟨.same _ trivial, ⟨.same _ trivial, ⟨wkv_sref (rn_some rfl) rfl, ⟨.same _ trivial, ⟨.same _ trivial, .same _ trivial⟩⟩⟩⟩⟩⟩⟩⟩⟩
            ·
              try simp only [go_sem]
              exact ⟨wkR_typed (rn_some rfl) rfl rfl, wkR_typed (rn_some rfl) rfl rfl⟩
          ·
            replace h5 := if_n c6 h5
            obtain rfl := Option.some.inj h5
            obtain rfl := he5 _ rfl
            refine wk_of [(1, some 1), (0, some 0)] rfl ?_ ?_
            ·
              try simp only [go_sem]
              exact ⟨wkv_sref (rn_some rfl) rfl, ⟨.same _ trivial, ⟨wkv_sref (rn_some rfl) rfl, ⟨.same _ trivial, ⟨.same _ trivial, .same _ trivial⟩⟩⟩⟩⟩
            ·
              try simp only [go_sem]
              exact ⟨wkR_typed (rn_some rfl) rfl rfl, wkR_typed (rn_some rfl) rfl rfl⟩
        try simp only [go_sem]
        obtain ⟨x17, hx17, h3⟩ := of_bind h3
        refine call_r false [1] (c_slices_SortFunc_Turn_o hx17 (by simp only [go_sem]) (fun _ _ _ h => c_panel_turns_1 h)) ⟨wkv_sref rfl rfl, wkv_same (by simp only [go_sem]) rfl, trivial⟩ (wkH_rho (by decide) rfl ⟨⟨by decide, wkR_typed rfl rfl rfl⟩, trivial⟩) rfl (by simp) (by simp) nofun ?_
        try simp only [go_sem]
        obtain ⟨⟨g18_0, g18_1⟩, h3⟩ := of_guard h3
        refine ob ⟨⟨by assumption, by omega⟩, by assumption⟩ ?_
        obtain rfl := Option.some.inj h3
        refine wk_of [(0, some 2)] rfl ?_ ?_
        ·
          try simp only [go_sem]
          exact ⟨.same _ trivial, ⟨wkv_sref (rn_some rfl) rfl, ⟨.same _ trivial, ⟨.same _ trivial, .same _ trivial⟩⟩⟩⟩
        ·
          try simp only [go_sem]
          exact wkR_typed (rn_some rfl) rfl rfl
      try simp only [go_sem]
      obtain ⟨⟨g19_0, g19_1⟩, h1⟩ := of_guard h1
      simp only [W64 g19_0 g19_1]
      obtain rfl := Option.some.inj h1
      refine nextL (hi1 _ rfl) ?_
      refine wk_of [(0, some 0)] rfl ?_ ?_
      ·
        try simp only [go_sem]
        exact ⟨.same _ trivial, ⟨wkv_sref (rn_some rfl) rfl, ⟨.same _ trivial, ⟨.same _ trivial, .same _ trivial⟩⟩⟩⟩
      ·
        try simp only [go_sem]
        exact wkR_typed (rn_some rfl) rfl rfl
    ·
      replace h1 := if_n c2 h1
      obtain rfl := Option.some.inj h1
      obtain rfl := he1 _ rfl
      refine wk_of [] rfl ?_ ?_
      ·
        try simp only [go_sem]
        exact ⟨wkv_own rfl (rn_notTo rfl) rfl, .same _ trivial⟩
      ·
        try simp only [go_sem]
  try simp only [go_sem]
  obtain rfl := Option.some.inj h
  exact .same _ trivial
theorem c_shape_Turned {a0 : TPoint} {a1 : TTurn} {r : TPoint × Int} (h : p_shape_Turned a0 a1 = some r)  : PCalls Try.prog 40 [encTPoint a0, encTTurn a1] (tup [encTPoint r.1, .int .i64 r.2]) := by
  unfold p_shape_Turned at h
  refine pcalls_of (fun _ => none) (fun _ => []) Try.func40 (by unfold Try.f40; rfl) (by kernel_rfl) (by kernel_rfl) ?_
  simp only [awp_seq]
  simp only [argSlots]
  dsimp only [Try.f40]
  try simp only [go_sem]
  obtain ⟨x0, hx0, h⟩ := of_bind h
  refine call_p false (c_shape_CheckTurn hx0) ⟨wkE _, trivial⟩ nofun ?_
  try simp only [go_sem]
  refine cut_l ?_
  try simp only [go_sem]
  refine ways_n (fun c1 => ?_) (fun c1 => ?_)
  ·
    replace h := if_n c1 h
    obtain rfl := Option.some.inj h
    exact wkv_same (by simp only [go_sem]) rfl
  ·
    replace h := if_p c1 h
    obtain ⟨x2, hx2, h⟩ := of_bind h
    refine call_p false (c_shape_IsPoint hx2) ⟨wkE _, trivial⟩ nofun ?_
    try simp only [go_sem]
    refine cut_l ?_
    try simp only [go_sem]
    refine ways (fun c3 => ?_) (fun c3 => ?_)
    ·
      replace h := if_t c3 h
      try simp only [Bool.and_eq_true, Bool.or_eq_true, Bool.not_eq_true', Bool.not_eq_false', Bool.and_eq_false_imp, Bool.or_eq_false_iff, decide_eq_true_eq, decide_eq_false_iff_not] at c3
      obtain rfl := Option.some.inj h
      exact wkv_same (by simp only [go_sem]) rfl
    ·
      replace h := if_f c3 h
      try simp only [Bool.and_eq_true, Bool.or_eq_true, Bool.not_eq_true', Bool.not_eq_false', Bool.and_eq_false_imp, Bool.or_eq_false_iff, decide_eq_true_eq, decide_eq_false_iff_not] at c3
      obtain ⟨x4, hx4, h⟩ := of_bind h
      refine call_p false (c_shape_TurnPoint hx4) ⟨wkE _, wkE _, trivial⟩ nofun ?_
      try simp only [go_sem]
      obtain ⟨x5, hx5, h⟩ := of_bind h
      refine call_p false (c_shape_IsPoint hx5) ⟨wkE _, trivial⟩ nofun ?_
      try simp only [go_sem]
      refine cut_l ?_
      try simp only [go_sem]
      refine ways (fun c6 => ?_) (fun c6 => ?_)
      ·
        replace h := if_t c6 h
        try simp only [Bool.and_eq_true, Bool.or_eq_true, Bool.not_eq_true', Bool.not_eq_false', Bool.and_eq_false_imp, Bool.or_eq_false_iff, decide_eq_true_eq, decide_eq_false_iff_not] at c6
        obtain rfl := Option.some.inj h
        exact wkv_same (by simp only [go_sem]) rfl
      ·
        replace h := if_f c6 h
        try simp only [Bool.and_eq_true, Bool.or_eq_true, Bool.not_eq_true', Bool.not_eq_false', Bool.and_eq_false_imp, Bool.or_eq_false_iff, decide_eq_true_eq, decide_eq_false_iff_not] at c6
        obtain rfl := Option.some.inj h
        exact wkv_same (by simp only [go_sem]) rfl
theorem c_panel_CheckPanel {a0 : TPanel} {r : Int} (h : p_panel_CheckPanel a0 = some r)  : PCalls Try.prog 32 [encTPanel a0] (.int .i64 r) := by
  unfold p_panel_CheckPanel at h
  refine pcalls_of (fun _ => none) (fun _ => []) Try.func32 (by unfold Try.f32; rfl) (by kernel_rfl) (by kernel_rfl) ?_
  simp only [awp_seq]
  simp only [argSlots]
  dsimp only [Try.f32]
  try simp only [go_sem]
  obtain ⟨x0, hx0, h⟩ := of_bind h
  refine call_p false (c_panel_open hx0) ⟨wkE _, trivial⟩ nofun ?_
  try simp only [go_sem]
  obtain rfl := Option.some.inj h
  exact .same _ trivial
theorem c_panel_Use {a0 : TPanel} {r : TShare × Int} (h : p_panel_Use a0 = some r)  : PCalls Try.prog 48 [encTPanel a0] (tup [encTShare r.1, .int .i64 r.2]) := by
  unfold p_panel_Use at h
  refine pcalls_of (ordOf [(4, [0, 2, 4, 1, 3, 5, 6, 7, 8, 9])]) (fun _ => []) Try.func48 (by unfold Try.f48; rfl) (by kernel_rfl) (by kernel_rfl) ?_
  simp only [awp_seq]
  simp only [argSlots]
  dsimp only [Try.f48]
  try simp only [go_sem]
  obtain ⟨x0, hx0, h⟩ := of_bind h
  refine call_p false (c_panel_open hx0) ⟨wkE _, trivial⟩ nofun ?_
  try simp only [go_sem]
  refine cut_l ?_
  try simp only [go_sem]
  refine ways_n (fun c1 => ?_) (fun c1 => ?_)
  ·
    replace h := if_n c1 h
    obtain rfl := Option.some.inj h
    exact wkv_same (by simp only [go_sem]) rfl
  ·
    replace h := if_p c1 h
    obtain ⟨x2, hx2, h⟩ := of_bind h
    refine qcall_p false (fun _ => c_shape_AreaOf hx2) (fun _ => ⟨.same _ trivial, trivial⟩) nofun ?_
    obtain ⟨⟨g3_0, g3_1⟩, h⟩ := of_guard h
    simp only [W64 g3_0 g3_1]
    obtain ⟨x4, hx4, h⟩ := of_bind h
    refine qcall_p false (fun _ => c_panel_Lowest hx4) (fun _ => ⟨.same _ trivial, .same _ trivial, trivial⟩) nofun ?_
    try simp only [go_sem]
    obtain rfl := Option.some.inj h
    exact wkv_same (by simp only [go_sem]) rfl
theorem c_law9_awake {r : Bool} (h : p_law9_awake  = some r)  : PCalls Try.prog 16 [] (.bool r) := by
  unfold p_law9_awake at h
  refine pcalls_of (fun _ => none) (fun _ => []) Try.func16 (by unfold Try.f16; rfl) (by kernel_rfl) (by kernel_rfl) ?_
  simp only [awp_seq]
  simp only [argSlots]
  dsimp only [Try.f16]
  try simp only [go_sem]
  obtain ⟨x0, hx0, h⟩ := of_bind h
  refine call_p false (c_panel_Use hx0) ⟨wkv_aggA rfl ⟨.same _ trivial, .same _ trivial, .same _ trivial, .same _ trivial, wkv_nilL, wkv_nilL, wkv_nilL, trivial⟩, trivial⟩ nofun ?_
  try simp only [go_sem]
  obtain rfl := Option.some.inj h
  exact .same _ trivial
theorem c_panel_GoodMarks {a0 : TPanel} {r : Bool × Int} (h : p_panel_GoodMarks a0 = some r)  : PCalls Try.prog 33 [encTPanel a0] (tup [.bool r.1, .int .i64 r.2]) := by
  unfold p_panel_GoodMarks at h
  refine pcalls_of (fun _ => none) (fun _ => []) Try.func33 (by unfold Try.f33; rfl) (by kernel_rfl) (by kernel_rfl) ?_
  simp only [awp_seq]
  simp only [argSlots]
  dsimp only [Try.f33]
  try simp only [go_sem]
  obtain ⟨x0, hx0, h⟩ := of_bind h
  refine call_p false (c_panel_CheckPanel hx0) ⟨wkE _, trivial⟩ nofun ?_
  try simp only [go_sem]
  refine cut_l ?_
  try simp only [go_sem]
  refine ways_n (fun c1 => ?_) (fun c1 => ?_)
  ·
    replace h := if_n c1 h
    obtain rfl := Option.some.inj h
    exact wkv_same (by simp only [go_sem]) rfl
  ·
    replace h := if_p c1 h
    obtain ⟨x2, hx2, h⟩ := of_bind h
    refine qcall_p false (fun hg => c_panel_turns (if_t hg hx2)) (fun _ => ⟨.same _ trivial, .same _ trivial, trivial⟩) nofun ?_
    try simp only [go_sem]
    obtain rfl := Option.some.inj h
    exact wkv_same (by simp only [go_sem]) rfl
theorem c_panel_Lie {a0 : TPanel} {a1 : (List TPoint)} {r : TTurn × Bool × Int} (h : p_panel_Lie a0 a1 = some r)  : PCalls Try.prog 35 [encTPanel a0, encL 2 encTPoint a1] (tup [encTTurn r.1, .bool r.2.1, .int .i64 r.2.2]) := by
  unfold p_panel_Lie at h
  refine pcalls_of (fun _ => none) (fun _ => []) Try.func35 (by unfold Try.f35; rfl) (by kernel_rfl) (by kernel_rfl) ?_
  simp only [awp_seq]
  simp only [argSlots]
  dsimp only [Try.f35]
  try simp only [go_sem]
  obtain ⟨x0, hx0, h⟩ := of_bind h
  refine call_p false (c_panel_CheckPanel hx0) ⟨wkE _, trivial⟩ nofun ?_
  try simp only [go_sem]
  refine cut_l ?_
  try simp only [go_sem]
  refine ways_n (fun c1 => ?_) (fun c1 => ?_)
  ·
    replace h := if_n c1 h
    obtain rfl := Option.some.inj h
    exact wkv_same (by simp only [go_sem]) rfl
  ·
    replace h := if_p c1 h
    refine cut_l ?_
    try simp only [go_sem]
    refine ways_d (fun c2 => ?_) (fun c2 => ?_)
    ·
      replace h := if_p c2 h
      obtain rfl := Option.some.inj h
      exact wkv_same (by simp only [go_sem]) rfl
    ·
      replace h := if_n c2 h
      obtain ⟨z3, h3, h⟩ := of_bind h
      refine cut_z z3 (fun (s : Int × Bool × TTurn) => [(6, AVal.int IntKind.i64 (Prod.fst s)), (5, AVal.bool (Prod.fst (Prod.snd s))), (4, AVal.ptr (1, 0) 4 0 0), (2, AVal.ptr (0, 0) 7 0 0), (1, encL 2 encTPoint a1)]) (fun (s : Int × Bool × TTurn) => { nx := 2, rows := [(1, Ent.one { sz := 4, d := encTTurn { : TTurn }, l := [encTTurn (Prod.snd (Prod.snd s))] : Row }), (0, Ent.one { sz := 7, d := encTPanel a0, l := [encTPanel a0] : Row })] : Heap }) ?_ (fun e3 hz3 => ?_)
      ·
        try simp only [go_sem]
        refine loop_w h3 (fun (s : Int × Int × Bool × TTurn) => [(24, AVal.int IntKind.i64 (Prod.fst s)), (23, AVal.int IntKind.i64 (↑(List.length a1) : Int)), (22, encL 2 encTPoint a1), (6, AVal.int IntKind.i64 (Prod.fst (Prod.snd s))), (5, AVal.bool (Prod.fst (Prod.snd (Prod.snd s)))), (4, AVal.ptr (1, 0) 4 0 0), (2, AVal.ptr (0, 0) 7 0 0), (1, encL 2 encTPoint a1)]) (fun (s : Int × Int × Bool × TTurn) => { nx := 2, rows := [(1, Ent.one { sz := 4, d := encTTurn { : TTurn }, l := [encTTurn (Prod.snd (Prod.snd (Prod.snd s)))] : Row }), (0, Ent.one { sz := 7, d := encTPanel a0, l := [encTPanel a0] : Row })] : Heap }) ?_ ?_
        ·
          refine wk_of [(1, some 1), (0, some 0)] rfl ?_ ?_
          ·
            try simp only [go_sem]
            exact ⟨.same _ trivial, ⟨.same _ trivial, ⟨.same _ trivial, ⟨.same _ trivial, ⟨.same _ trivial, ⟨.ptr _ _ _ _ _ (rn_some rfl), ⟨.ptr _ _ _ _ _ (rn_some rfl), .same _ trivial⟩⟩⟩⟩⟩⟩⟩
          ·
            try simp only [go_sem]
            exact ⟨wkR_box (rn_some rfl) rfl (wkE _), wkR_box (rn_some rfl) rfl (wkE _)⟩
        intro n4 s4 o4 h4 he4 hi4
        try simp only [go_sem]
        refine cut_l ?_
        try simp only [go_sem]
        refine ways_d (fun c5 => ?_) (fun c5 => ?_)
        ·
          replace h4 := if_p c5 h4
          refine cut_l ?_
          try simp only [go_sem]
          obtain ⟨g6, h4⟩ := of_guard h4
          refine ob ⟨by assumption, by assumption⟩ ?_
          obtain ⟨x7, hx7, h4⟩ := of_bind h4
          refine call_p false (c_shape_IsPoint hx7) ⟨wkE _, trivial⟩ nofun ?_
          try simp only [go_sem]
          refine cut_l ?_
          try simp only [go_sem]
          refine ways (fun c8 => ?_) (fun c8 => ?_)
          ·
            replace h4 := if_t c8 h4
            try simp only [Bool.and_eq_true, Bool.or_eq_true, Bool.not_eq_true', Bool.not_eq_false', Bool.and_eq_false_imp, Bool.or_eq_false_iff, decide_eq_true_eq, decide_eq_false_iff_not] at c8
            obtain rfl := Option.some.inj h4
            obtain rfl := he4 _ rfl
            obtain rfl := Option.some.inj h
            exact wkv_same (by simp only [go_sem]) rfl
          ·
            replace h4 := if_f c8 h4
            try simp only [Bool.and_eq_true, Bool.or_eq_true, Bool.not_eq_true', Bool.not_eq_false', Bool.and_eq_false_imp, Bool.or_eq_false_iff, decide_eq_true_eq, decide_eq_false_iff_not] at c8
            refine ob ⟨by assumption, by omega⟩ ?_
            obtain ⟨x9, hx9, h4⟩ := of_bind h4
            refine qcall_p false (fun _ => c_slices_Contains_Point hx9) (fun _ => ⟨.same _ trivial, wkE _, trivial⟩) nofun ?_
            refine cut_l ?_
            try simp only [go_sem]
            refine ways (fun c10 => ?_) (fun c10 => ?_)
            ·
              replace h4 := if_t c10 h4
              try simp only [Bool.and_eq_true, Bool.or_eq_true, Bool.not_eq_true', Bool.not_eq_false', Bool.and_eq_false_imp, Bool.or_eq_false_iff, decide_eq_true_eq, decide_eq_false_iff_not] at c10
              obtain rfl := Option.some.inj h4
              obtain rfl := he4 _ rfl
              obtain rfl := Option.some.inj h
              exact wkv_same (by simp only [go_sem]) rfl
            ·
              replace h4 := if_f c10 h4
              try simp only [Bool.and_eq_true, Bool.or_eq_true, Bool.not_eq_true', Bool.not_eq_false', Bool.and_eq_false_imp, Bool.or_eq_false_iff, decide_eq_true_eq, decide_eq_false_iff_not] at c10
              simp only [W64 (n := Prod.fst s4 + 1) (by omega) (by omega)]
              obtain rfl := Option.some.inj h4
              refine nextL (hi4 _ rfl) ?_
              refine wk_of [(1, some 1), (0, some 0)] rfl ?_ ?_
              ·
                try simp only [go_sem]
                exact ⟨.same _ trivial, ⟨.same _ trivial, ⟨.same _ trivial, ⟨.same _ trivial, ⟨.same _ trivial, ⟨.ptr _ _ _ _ _ (rn_some rfl), ⟨.ptr _ _ _ _ _ (rn_some rfl), .same _ trivial⟩⟩⟩⟩⟩⟩⟩
              ·
                try simp only [go_sem]
                exact ⟨wkR_box (rn_some rfl) rfl (wkE _), wkR_box (rn_some rfl) rfl (wkE _)⟩
        ·
          replace h4 := if_n c5 h4
          obtain rfl := Option.some.inj h4
          obtain rfl := he4 _ rfl
          refine zend ?_
          refine wk_of [(1, some 1), (0, some 0)] rfl ?_ ?_
          ·
            try simp only [go_sem]
            exact ⟨.same _ trivial, ⟨.same _ trivial, ⟨.ptr _ _ _ _ _ (rn_some rfl), ⟨.ptr _ _ _ _ _ (rn_some rfl), .same _ trivial⟩⟩⟩⟩
          ·
            try simp only [go_sem]
            exact ⟨wkR_box (rn_some rfl) rfl (wkE _), wkR_box (rn_some rfl) rfl (wkE _)⟩
      subst hz3
      simp only [Sum.elim_inr] at h
      try simp only [go_sem]
      refine ob (by simp) ?_
      refine cut_l ?_
      try simp only [go_sem]
      refine ways (fun c11 => ?_) (fun c11 => ?_)
      ·
        replace h := if_t c11 h
        try simp only [Bool.and_eq_true, Bool.or_eq_true, Bool.not_eq_true', Bool.not_eq_false', Bool.and_eq_false_imp, Bool.or_eq_false_iff, decide_eq_true_eq, decide_eq_false_iff_not] at c11
        obtain rfl := Option.some.inj h
        exact wkv_same (by simp only [go_sem]) rfl
      ·
        replace h := if_f c11 h
        try simp only [Bool.and_eq_true, Bool.or_eq_true, Bool.not_eq_true', Bool.not_eq_false', Bool.and_eq_false_imp, Bool.or_eq_false_iff, decide_eq_true_eq, decide_eq_false_iff_not] at c11
        obtain ⟨x12, hx12, h⟩ := of_bind h
        refine call_p false (c_panel_turns hx12) ⟨.same _ trivial, .same _ trivial, trivial⟩ nofun ?_
        try simp only [go_sem]
        refine cut_l ?_
        try simp only [go_sem]
        refine ways_d (fun c13 => ?_) (fun c13 => ?_)
        ·
          replace h := if_p c13 h
          obtain rfl := Option.some.inj h
          exact wkv_same (by simp only [go_sem]) rfl
        ·
          replace h := if_n c13 h
          refine ob ⟨by omega, by omega⟩ ?_
          obtain ⟨x14, hx14, h⟩ := of_bind h
          refine call_p false (c_shape_CheckTurn hx14) ⟨wkE _, trivial⟩ nofun ?_
          try simp only [go_sem]
          refine cut_l ?_
          try simp only [go_sem]
          refine ways_n (fun c15 => ?_) (fun c15 => ?_)
          ·
            replace h := if_n c15 h
            obtain rfl := Option.some.inj h
            exact wkv_same (by simp only [go_sem]) rfl
          ·
            replace h := if_p c15 h
            refine ob ⟨by omega, by omega⟩ ?_
            obtain rfl := Option.some.inj h
            exact wkv_same (by simp only [go_sem]) rfl
end Go.Nw
