/- The walks of the functions. -/
import Derived.Test.YtjjnepcdiajppaaNwSortF
import Derived.Test.YtjjnepcdiajppaaNwDR
set_option linter.unusedVariables false
set_option linter.unusedSimpArgs false
set_option maxRecDepth 100000
namespace Go.Nw
open Go.Proofs
theorem c_shape_AreaOf {a0 : (List TRect)} {r : Int} (h : p_shape_AreaOf a0 = some r)  : PCalls Try.prog 85 [encL 4 encTRect a0] (.int .i64 r) := by
  unfold p_shape_AreaOf at h
  refine pcalls_of (fun _ => none) (fun _ => []) Try.func85 (by unfold Try.f85; rfl) (by kernel_rfl) (by kernel_rfl) ?_
  simp only [awp_seq]
  simp only [argSlots]
  dsimp only [Try.f85]
  try simp only [go_sem]
  obtain ⟨e0, h0, h⟩ := of_bind h
  refine cut_j ([(3, AVal.int IntKind.i64 e0), (2, AVal.int IntKind.i64 0)]) ({ nx := 0, rows := [] : Heap }) ?_ ?_
  ·
    try simp only [go_sem]
    refine loop_w h0 (fun (s : Int × Int) => [(8, AVal.int IntKind.i64 (Prod.fst s)), (7, AVal.int IntKind.i64 (↑(List.length a0) : Int)), (6, encL 4 encTRect a0), (3, AVal.int IntKind.i64 (Prod.snd s)), (2, AVal.int IntKind.i64 0)]) (fun (s : Int × Int) => { nx := 0, rows := [] : Heap }) ?_ ?_
    ·
      refine wk_of [] rfl ?_ ?_
      ·
        try simp only [go_sem]
        exact ⟨.same _ trivial, ⟨.same _ trivial, ⟨.same _ trivial, .same _ trivial⟩⟩⟩
      ·
        try simp only [go_sem]
    intro n1 s1 o1 h1 he1 hi1
    try simp only [go_sem]
    refine cut_l ?_
    try simp only [go_sem]
    refine ways_d (fun c2 => ?_) (fun c2 => ?_)
    ·
      replace h1 := if_p c2 h1
      refine cut_l ?_
      try simp only [go_sem]
      obtain ⟨g3, h1⟩ := of_guard h1
      refine ob ⟨by assumption, by assumption⟩ ?_
      obtain ⟨⟨g4_0, g4_1⟩, h1⟩ := of_guard h1
      simp only [W64 g4_0 g4_1]
      obtain ⟨⟨g5_0, g5_1⟩, h1⟩ := of_guard h1
      simp only [W64 g5_0 g5_1]
      obtain ⟨⟨g6_0, g6_1⟩, h1⟩ := of_guard h1
      simp only [W64 g6_0 g6_1]
      obtain ⟨⟨g7_0, g7_1⟩, h1⟩ := of_guard h1
      simp only [W64 g7_0 g7_1]
      obtain ⟨⟨g8_0, g8_1⟩, h1⟩ := of_guard h1
      simp only [W64 g8_0 g8_1]
      obtain rfl := Option.some.inj h1
      refine nextL (hi1 _ rfl) ?_
      refine wk_of [] rfl ?_ ?_
      ·
        try simp only [go_sem]
        exact ⟨.same _ trivial, ⟨.same _ trivial, ⟨.same _ trivial, ⟨.same _ trivial, .same _ trivial⟩⟩⟩⟩
      ·
        try simp only [go_sem]
    ·
      replace h1 := if_n c2 h1
      obtain rfl := Option.some.inj h1
      obtain rfl := he1 _ rfl
      refine wk_of [] rfl ?_ ?_
      ·
        try simp only [go_sem]
        exact ⟨.same _ trivial, .same _ trivial⟩
      ·
        try simp only [go_sem]
  try simp only [go_sem]
  obtain rfl := Option.some.inj h
  exact .same _ trivial
theorem c_shape_SetOf_1 {a0 : TRect} {a1 : TRect} {r : Int} (h : p_shape_SetOf_1 a0 a1 = some r)  : PCalls Try.prog 88 [encTRect a0, encTRect a1] (.int .i64 r) := by
  unfold p_shape_SetOf_1 at h
  refine pcalls_of (fun _ => none) (fun _ => []) Try.func88 (by unfold Try.f88; rfl) (by kernel_rfl) (by kernel_rfl) ?_
  simp only [awp_seq]
  simp only [argSlots]
  dsimp only [Try.f88]
  try simp only [go_sem]
  obtain ⟨⟨g0_0, g0_1⟩, h⟩ := of_guard h
  simp only [W64 g0_0 g0_1]
  obtain rfl := Option.some.inj h
  exact .same _ trivial
theorem c_shape_SetOf_2 {a0 : TRect} {a1 : (List Int)} {a2 : Int} {r : Bool} (h : p_shape_SetOf_2 a0 a1 a2 = some r)  : PCalls Try.prog 92 [encTRect a0, .iptr (encL 1 encI a1) 0, .iptr (.int .i64 a2) 0] (.bool r) := by
  unfold p_shape_SetOf_2 at h
  refine pcalls_of (fun _ => none) (fun _ => []) Try.func92 (by unfold Try.f92; rfl) (by kernel_rfl) (by kernel_rfl) ?_
  simp only [awp_seq]
  simp only [argSlots]
  dsimp only [Try.f92]
  try simp only [go_sem]
  obtain ⟨⟨g0_0, g0_1⟩, h⟩ := of_guard h
  refine ob ⟨by assumption, by assumption⟩ ?_
  obtain rfl := Option.some.inj h
  exact .same _ trivial
theorem c_shape_Set_Many {a0 : (List TShapeBand)} {r : Int} (h : p_shape_Set_Many a0 = some r)  : PCalls Try.prog 95 [encL 3 encTShapeBand a0] (.int .i64 r) := by
  unfold p_shape_Set_Many at h
  refine pcalls_of (fun _ => none) (fun _ => []) Try.func95 (by unfold Try.f95; rfl) (by kernel_rfl) (by kernel_rfl) ?_
  simp only [awp_seq]
  simp only [argSlots]
  dsimp only [Try.f95]
  try simp only [go_sem]
  obtain ⟨e0, h0, h⟩ := of_bind h
  refine cut_j ([(3, AVal.int IntKind.i64 e0), (2, AVal.int IntKind.i64 0)]) ({ nx := 0, rows := [] : Heap }) ?_ ?_
  ·
    try simp only [go_sem]
    refine loop_w h0 (fun (s : Int × Int) => [(8, AVal.int IntKind.i64 (Prod.fst s)), (7, AVal.int IntKind.i64 (↑(List.length a0) : Int)), (6, encL 3 encTShapeBand a0), (3, AVal.int IntKind.i64 (Prod.snd s)), (2, AVal.int IntKind.i64 0)]) (fun (s : Int × Int) => { nx := 0, rows := [] : Heap }) ?_ ?_
    ·
      refine wk_of [] rfl ?_ ?_
      ·
        try simp only [go_sem]
        exact ⟨.same _ trivial, ⟨.same _ trivial, ⟨.same _ trivial, .same _ trivial⟩⟩⟩
      ·
        try simp only [go_sem]
    intro n1 s1 o1 h1 he1 hi1
    try simp only [go_sem]
    refine cut_l ?_
    try simp only [go_sem]
    refine ways_d (fun c2 => ?_) (fun c2 => ?_)
    ·
      replace h1 := if_p c2 h1
      refine cut_l ?_
      try simp only [go_sem]
      obtain ⟨g3, h1⟩ := of_guard h1
      refine ob ⟨by assumption, by assumption⟩ ?_
      refine ob (by omega) ?_
      obtain ⟨⟨g4_0, g4_1⟩, h1⟩ := of_guard h1
      simp only [W64 g4_0 g4_1]
      obtain ⟨⟨g5_0, g5_1⟩, h1⟩ := of_guard h1
      simp only [W64 g5_0 g5_1]
      obtain ⟨⟨g6_0, g6_1⟩, h1⟩ := of_guard h1
      simp only [W64 g6_0 g6_1]
      obtain rfl := Option.some.inj h1
      refine nextL (hi1 _ rfl) ?_
      refine wk_of [] rfl ?_ ?_
      ·
        try simp only [go_sem]
        exact ⟨.same _ trivial, ⟨.same _ trivial, ⟨.same _ trivial, ⟨.same _ trivial, .same _ trivial⟩⟩⟩⟩
      ·
        try simp only [go_sem]
    ·
      replace h1 := if_n c2 h1
      obtain rfl := Option.some.inj h1
      obtain rfl := he1 _ rfl
      refine wk_of [] rfl ?_ ?_
      ·
        try simp only [go_sem]
        exact ⟨.same _ trivial, .same _ trivial⟩
      ·
        try simp only [go_sem]
  try simp only [go_sem]
  obtain rfl := Option.some.inj h
  exact .same _ trivial
theorem c_shape_Set_Rects {a0 : (List TShapeBand)} {r : (List TRect)} (h : p_shape_Set_Rects a0 = some r)  : PCalls Try.prog 58 [encL 3 encTShapeBand a0] (encL 4 encTRect r) := by
  unfold p_shape_Set_Rects at h
  refine pcalls_of (ordOf [(8, [0, 1, 3, 6, 8, 10, 11, 14, 2, 4, 5, 7, 9, 12, 13, 15, 16, 17, 18, 19])]) (fun _ => []) Try.func58 (by unfold Try.f58; rfl) (by kernel_rfl) (by kernel_rfl) ?_
  simp only [awp_seq]
  simp only [argSlots]
  dsimp only [Try.f58]
  try simp only [go_sem]
  obtain ⟨e0, h0, h⟩ := of_bind h
  refine cut_j ([(3, encL 4 encTRect e0), (2, AVal.nilsl)]) ({ nx := 0, rows := [] : Heap }) ?_ ?_
  ·
    try simp only [go_sem]
    refine loop_w h0 (fun (s : Int × List TRect) => [(9, AVal.int IntKind.i64 (Prod.fst s)), (8, AVal.int IntKind.i64 (↑(List.length a0) : Int)), (7, encL 3 encTShapeBand a0), (3, AVal.sref (0, 0) 0 4 (List.length (Prod.snd s))), (2, AVal.nilsl)]) (fun (s : Int × List TRect) => { nx := 1, rows := [(0, Ent.one { sz := 4, d := encTRect default, l := List.map encTRect (Prod.snd s) : Row })] : Heap }) ?_ ?_
    ·
      refine wk_of [(0, none)] rfl ?_ ?_
      ·
        try simp only [go_sem]
        exact ⟨.same _ trivial, ⟨.same _ trivial, ⟨.same _ trivial, ⟨wkv_nil (rn_none rfl) rfl, .same _ trivial⟩⟩⟩⟩
      ·
        try simp only [go_sem]
        exact wkR_nilT (rn_none rfl)
    intro n1 s1 o1 h1 he1 hi1
    try simp only [go_sem]
    refine cut_l ?_
    try simp only [go_sem]
    refine ways_d (fun c2 => ?_) (fun c2 => ?_)
    ·
      replace h1 := if_p c2 h1
      obtain ⟨e3, h3, h1⟩ := of_bind h1
      refine cut_j ([(9, AVal.int IntKind.i64 (Prod.fst s1)), (8, AVal.int IntKind.i64 (↑(List.length a0) : Int)), (7, encL 3 encTShapeBand a0), (3, AVal.sref (0, 0) 0 4 (List.length e3)), (2, AVal.nilsl)]) ({ nx := 1, rows := [(0, Ent.one { sz := 4, d := encTRect default, l := List.map encTRect e3 : Row })] : Heap }) ?_ ?_
      ·
        try simp only [go_sem]
        obtain ⟨g4, h3⟩ := of_guard h3
        refine ob ⟨by assumption, by assumption⟩ ?_
        refine cut_l ?_
        try simp only [go_sem]
        refine loop_w h3 (fun (s : Int × List TRect) => [(6, AVal.int IntKind.i64 (Prod.fst s)), (5, AVal.ptr (1, 0) 3 0 0), (9, AVal.int IntKind.i64 (Prod.fst s1)), (8, AVal.int IntKind.i64 (↑(List.length a0) : Int)), (7, encL 3 encTShapeBand a0), (3, AVal.sref (0, 0) 0 4 (List.length (Prod.snd s))), (2, AVal.nilsl)]) (fun (s : Int × List TRect) => { nx := 3, rows := [(1, Ent.one { sz := 3, d := agg [AVal.int IntKind.i64 0, AVal.int IntKind.i64 0, AVal.nilsl], l := [encTShapeBand (List.getD a0 (Int.toNat (Prod.fst s1)) default)] : Row }), (0, Ent.one { sz := 4, d := encTRect default, l := List.map encTRect (Prod.snd s) : Row })] : Heap }) ?_ ?_
        ·
          refine wk_of [(1, some 1), (0, some 0)] rfl ?_ ?_
          ·
            try simp only [go_sem]
            exact ⟨.same _ trivial, ⟨.ptr _ _ _ _ _ (rn_some rfl), ⟨.same _ trivial, ⟨.same _ trivial, ⟨.same _ trivial, ⟨wkv_sref (rn_some rfl) rfl, .same _ trivial⟩⟩⟩⟩⟩⟩
          ·
            try simp only [go_sem]
            exact ⟨wkR_box (rn_some rfl) rfl (wkE _), wkR_typed (rn_some rfl) rfl rfl⟩
        intro n5 s5 o5 h5 he5 hi5
        try simp only [go_sem]
        refine cut_l ?_
        try simp only [go_sem]
        refine ways_d (fun c6 => ?_) (fun c6 => ?_)
        ·
          replace h5 := if_p c6 h5
          refine cut_l ?_
          try simp only [go_sem]
          obtain ⟨⟨g7_0, g7_1⟩, h5⟩ := of_guard h5
          simp only [W64 g7_0 g7_1]
          obtain ⟨⟨g8_0, g8_1, g8_2, g8_3⟩, h5⟩ := of_guard h5
          refine ob ⟨⟨⟨by assumption, by assumption⟩, ⟨by assumption, by assumption⟩⟩, ⟨by omega, by assumption⟩⟩ ?_
          obtain ⟨⟨g9_0, g9_1⟩, h5⟩ := of_guard h5
          simp only [W64 g9_0 g9_1]
          obtain rfl := Option.some.inj h5
          refine nextL (hi5 _ rfl) ?_
          refine wk_of [(1, some 1), (0, some 41)] rfl ?_ ?_
          ·
            try simp only [go_sem]
            exact ⟨.same _ trivial, ⟨.ptr _ _ _ _ _ (rn_some rfl), ⟨.same _ trivial, ⟨.same _ trivial, ⟨.same _ trivial, ⟨wkv_sref (rn_some rfl) rfl, .same _ trivial⟩⟩⟩⟩⟩⟩
          ·
            try simp only [go_sem]
            exact ⟨wkR_box (rn_some rfl) rfl (wkE _), wkR_typed (rn_some rfl) rfl rfl⟩
        ·
          replace h5 := if_n c6 h5
          obtain rfl := Option.some.inj h5
          obtain rfl := he5 _ rfl
          refine wk_of [(0, some 0)] rfl ?_ ?_
          ·
            try simp only [go_sem]
            exact ⟨.same _ trivial, ⟨.same _ trivial, ⟨.same _ trivial, ⟨wkv_sref (rn_some rfl) rfl, .same _ trivial⟩⟩⟩⟩
          ·
            try simp only [go_sem]
            exact wkR_typed (rn_some rfl) rfl rfl
      try simp only [go_sem]
      obtain ⟨⟨g10_0, g10_1⟩, h1⟩ := of_guard h1
      simp only [W64 g10_0 g10_1]
      obtain rfl := Option.some.inj h1
      refine nextL (hi1 _ rfl) ?_
      refine wk_of [(0, some 0)] rfl ?_ ?_
      ·
        try simp only [go_sem]
        exact ⟨.same _ trivial, ⟨.same _ trivial, ⟨.same _ trivial, ⟨wkv_sref (rn_some rfl) rfl, .same _ trivial⟩⟩⟩⟩
      ·
        try simp only [go_sem]
        exact wkR_typed (rn_some rfl) rfl rfl
    ·
      replace h1 := if_n c2 h1
      obtain rfl := Option.some.inj h1
      obtain rfl := he1 _ rfl
      refine wk_of [] rfl ?_ ?_
      ·
        try simp only [go_sem]
        exact ⟨wkv_own rfl (rn_notTo rfl) rfl, .same _ trivial⟩
      ·
        try simp only [go_sem]
  try simp only [go_sem]
  obtain rfl := Option.some.inj h
  exact .same _ trivial
theorem c_shape_stretches_1 {a0 : TRect} {a1 : TRect} {r : Int} (h : p_shape_stretches_1 a0 a1 = some r)  : PCalls Try.prog 121 [encTRect a0, encTRect a1] (.int .i64 r) := by
  unfold p_shape_stretches_1 at h
  refine pcalls_of (fun _ => none) (fun _ => []) Try.func121 (by unfold Try.f121; rfl) (by kernel_rfl) (by kernel_rfl) ?_
  simp only [awp_seq]
  simp only [argSlots]
  dsimp only [Try.f121]
  try simp only [go_sem]
  obtain ⟨⟨g0_0, g0_1⟩, h⟩ := of_guard h
  simp only [W64 g0_0 g0_1]
  obtain rfl := Option.some.inj h
  exact .same _ trivial
theorem c_shape_within {a0 : Int} {a1 : Int} {a2 : Int} {r : Bool} (h : p_shape_within a0 a1 a2 = some r)  : PCalls Try.prog 69 [.int .i64 a0, .int .i64 a1, .int .i64 a2] (.bool r) := by
  unfold p_shape_within at h
  refine pcalls_of (fun _ => none) (fun _ => []) Try.func69 (by unfold Try.f69; rfl) (by kernel_rfl) (by kernel_rfl) ?_
  simp only [awp_seq]
  simp only [argSlots]
  dsimp only [Try.f69]
  try simp only [go_sem]
  obtain rfl := Option.some.inj h
  exact .same _ trivial
theorem c_slices_Clone_Rect_o {a0 : (List TRect)} {r : (List TRect)} (h : p_slices_Clone_Rect_o a0 = some r)  : MCalls Try.prog 22 [encL 4 encTRect a0] ⟨0, []⟩ (.sref (0, 0) 0 4 (List.length (r))) ⟨1, [(0, .one ⟨4, encTRect {}, (r).map encTRect⟩)]⟩ := by
  unfold p_slices_Clone_Rect_o at h
  refine acalls_of (fun _ => none) (fun _ => []) Try.func22 (by unfold Try.f22; rfl) (by kernel_rfl) (by kernel_rfl) ?_
  simp only [awp_seq]
  simp only [argSlots]
  dsimp only [Try.f22]
  try simp only [go_sem]
  refine cut_l ?_
  try simp only [go_sem]
  by_cases c0 : List.length a0 = 0
  ·
    replace h := if_p c0 h
    obtain ⟨u0, ha0, h⟩ := of_bind h
    obtain ⟨w0, hb0, h⟩ := of_bind h
    obtain ⟨hu0, h⟩ := of_guard h
    obtain rfl := (Option.some.inj h).symm
    rw [← hu0] at hb0
    simp only [if_pos c0, go_sem]
    refine ⟨?_, ?_⟩
    ·
      refine ret_o ?_
      try simp only [go_sem]
      obtain rfl := Option.some.inj ha0
      refine wkm [(0, none)] rfl ?_ ?_
      ·
        try simp only [go_sem]
        exact wkv_nil (rn_none rfl) rfl
      ·
        try simp only [go_sem]
        exact wkR_nilT (rn_none rfl)
    ·
      refine ob (by omega) ?_
      refine ret_o ?_
      try simp only [go_sem]
      obtain rfl := Option.some.inj hb0
      refine wkm [(0, some 1)] rfl ?_ ?_
      ·
        exact wkv_sref (rn_some rfl) rfl
      ·
        try simp only [go_sem]
        exact wkR_typed (rn_some rfl) rfl rfl
  ·
    replace h := if_n c0 h
    simp only [if_neg c0, go_sem]
    obtain ⟨g1, h⟩ := of_guard h
    refine ob (by assumption) ?_
    refine ret_o ?_
    try simp only [go_sem]
    obtain rfl := Option.some.inj h
    refine wkm [(0, some 1)] rfl ?_ ?_
    ·
      exact wkv_sref (rn_some rfl) rfl
    ·
      try simp only [go_sem]
      exact wkR_typed (rn_some rfl) rfl rfl
theorem c_slices_Compact_int_o {a0 : (List Int)} {r : (List Int)} (h : p_slices_Compact_int_o a0 = some r)  : MCalls Try.prog 90 [.sref (0, 0) 0 1 (List.length a0)] ⟨1, [(0, .one ⟨1, .int .i64 0, a0.map encI⟩)]⟩ (.sref (1, 0) 0 1 (List.length (r))) ⟨2, [(1, .one ⟨1, .int .i64 0, (r).map encI⟩)]⟩ := by
  unfold p_slices_Compact_int_o at h
  refine acalls_of (ordOf [(6, [0, 1, 2, 4, 5, 6, 7, 3, 8, 9]), (11, [0, 1, 2, 4, 5, 6, 7, 3, 8, 9])]) (fun _ => []) Try.func90 (by unfold Try.f90; rfl) (by kernel_rfl) (by kernel_rfl) ?_
  simp only [awp_seq]
  simp only [argSlots]
  dsimp only [Try.f90]
  try simp only [go_sem]
  refine cut_l ?_
  try simp only [go_sem]
  refine ways_d (fun c0 => ?_) (fun c0 => ?_)
  ·
    replace h := if_p c0 h
    refine ret_o ?_
    try simp only [go_sem]
    obtain rfl := Option.some.inj h
    refine wkm [(0, some 0), (1, some 0)] rfl ?_ ?_
    ·
      exact wkv_sref (rn_some rfl) rfl
    ·
      try simp only [go_sem]
      exact wkR_typed (rn_some rfl) rfl rfl
  ·
    replace h := if_n c0 h
    obtain ⟨z1, h1, h⟩ := of_bind h
    refine cut_z z1 (fun (s : List Int × List Int) => [(2, encL 1 encI (Prod.fst s)), (0, AVal.sref (0, 0) 0 1 (List.length a0))]) (fun (s : List Int × List Int) => { nx := 1, rows := [(0, Ent.one { sz := 1, d := AVal.int IntKind.i64 0, l := List.map encI (Prod.snd s) : Row })] : Heap }) ?_ (fun e1 hz1 => ?_)
    ·
      try simp only [go_sem]
      refine loop_w h1 (fun (s : Int × List Int × List Int) => [(3, AVal.int IntKind.i64 (Prod.fst s)), (2, encL 1 encI (Prod.fst (Prod.snd s))), (0, AVal.sref (0, 0) 0 1 (List.length a0))]) (fun (s : Int × List Int × List Int) => { nx := 1, rows := [(0, Ent.one { sz := 1, d := AVal.int IntKind.i64 0, l := List.map encI (Prod.snd (Prod.snd s)) : Row })] : Heap }) ?_ ?_
      ·
        refine wk_of [(0, some 0)] rfl ?_ ?_
        ·
          try simp only [go_sem]
          exact ⟨.same _ trivial, ⟨wkv_nilL, wkv_sref (rn_some rfl) rfl⟩⟩
        ·
          try simp only [go_sem]
          exact wkR_typed (rn_some rfl) rfl rfl
      intro n2 s2 o2 h2 he2 hi2
      try simp only [go_sem]
      refine cut_l ?_
      try simp only [go_sem]
      refine ways_d (fun c3 => ?_) (fun c3 => ?_)
      ·
        replace h2 := if_p c3 h2
        obtain ⟨z4, h4, h2⟩ := of_bind h2
        refine cut_z z4 (fun (s : Int × List Int × List Int) => [(3, AVal.int IntKind.i64 (Prod.fst s)), (2, encL 1 encI (Prod.fst (Prod.snd s))), (0, AVal.sref (0, 0) 0 1 (List.length a0))]) (fun (s : Int × List Int × List Int) => { nx := 1, rows := [(0, Ent.one { sz := 1, d := AVal.int IntKind.i64 0, l := List.map encI (Prod.snd (Prod.snd s)) : Row })] : Heap }) ?_ (fun e4 hz4 => ?_)
        ·
          try simp only [go_sem]
          obtain ⟨⟨g5_0, g5_1⟩, h4⟩ := of_guard h4
          simp only [W64 g5_0 g5_1]
          obtain ⟨⟨g6_0, g6_1, g6_2, g6_3⟩, h4⟩ := of_guard h4
          refine ob ⟨⟨⟨⟨by assumption, by assumption⟩, ⟨by assumption, by omega⟩⟩, by assumption⟩, by assumption⟩ ?_
          refine cut_l ?_
          try simp only [go_sem]
          refine ways_d (fun c7 => ?_) (fun c7 => ?_)
          ·
            replace h4 := if_p c7 h4
            refine ob ⟨by assumption, by omega⟩ ?_
            obtain ⟨e8, h8, h4⟩ := of_bind h4
            refine cut_j ([(3, AVal.int IntKind.i64 (Prod.fst e8)), (2, encL 1 encI (Prod.fst (Prod.snd s2))), (0, AVal.sref (0, 0) 0 1 (List.length a0))]) ({ nx := 10001, rows := [(0, Ent.one { sz := 1, d := AVal.int IntKind.i64 0, l := List.map encI (Prod.snd e8) : Row })] : Heap }) ?_ ?_
            ·
              try simp only [go_sem]
              refine loop_w h8 (fun (s : Int × Int × List Int) => [(5, AVal.int IntKind.i64 (Prod.fst s)), (4, AVal.sref (0, 0) (Int.toNat (Prod.fst s2)) 1 (List.length a0 - Int.toNat (Prod.fst s2))), (3, AVal.int IntKind.i64 (Prod.fst (Prod.snd s))), (2, encL 1 encI (Prod.fst (Prod.snd s2))), (0, AVal.sref (0, 0) 0 1 (List.length a0))]) (fun (s : Int × Int × List Int) => { nx := 10001, rows := [(0, Ent.one { sz := 1, d := AVal.int IntKind.i64 0, l := List.map encI (Prod.snd (Prod.snd s)) : Row })] : Heap }) ?_ ?_
              ·
                refine wk_of [(0, some 0)] rfl ?_ ?_
                ·
                  try simp only [go_sem]
                  exact ⟨.same _ trivial, ⟨wkv_sref (rn_some rfl) rfl, ⟨.same _ trivial, ⟨.same _ trivial, wkv_sref (rn_some rfl) rfl⟩⟩⟩⟩
                ·
                  try simp only [go_sem]
                  exact wkR_typed (rn_some rfl) rfl rfl
              intro n9 s9 o9 h9 he9 hi9
              try simp only [go_sem]
              refine cut_l ?_
              try simp only [go_sem]
              refine ways_d (fun c10 => ?_) (fun c10 => ?_)
              ·
                replace h9 := if_p c10 h9
                obtain ⟨e11, h11, h9⟩ := of_bind h9
                refine cut_j ([(5, AVal.int IntKind.i64 (Prod.fst s9)), (4, AVal.sref (0, 0) (Int.toNat (Prod.fst s2)) 1 (List.length a0 - Int.toNat (Prod.fst s2))), (3, AVal.int IntKind.i64 (Prod.fst e11)), (2, encL 1 encI (Prod.fst (Prod.snd s2))), (0, AVal.sref (0, 0) 0 1 (List.length a0))]) ({ nx := 10001, rows := [(0, Ent.one { sz := 1, d := AVal.int IntKind.i64 0, l := List.map encI (Prod.snd e11) : Row })] : Heap }) ?_ ?_
                ·
                  try simp only [go_sem]
                  obtain ⟨⟨g12_0, g12_1⟩, h11⟩ := of_guard h11
                  simp only [W64 g12_0 g12_1]
                  obtain ⟨⟨g13_0, g13_1, g13_2, g13_3⟩, h11⟩ := of_guard h11
                  refine ob ⟨⟨⟨⟨by assumption, by assumption⟩, ⟨by assumption, by omega⟩⟩, by assumption⟩, by assumption⟩ ?_
                  refine cut_l ?_
                  try simp only [go_sem]
                  refine ways_n (fun c14 => ?_) (fun c14 => ?_)
                  ·
                    replace h11 := if_n c14 h11
                    obtain ⟨⟨g15_0, g15_1, g15_2⟩, h11⟩ := of_guard h11
                    refine ob ⟨⟨⟨⟨by assumption, by assumption⟩, by assumption⟩, ⟨by assumption, by assumption⟩⟩, by assumption⟩ ?_
                    obtain ⟨⟨g16_0, g16_1⟩, h11⟩ := of_guard h11
                    simp only [W64 g16_0 g16_1]
                    obtain rfl := Option.some.inj h11
                    refine wk_of [(0, some 0)] rfl ?_ ?_
                    ·
                      try simp only [go_sem]
                      exact ⟨.same _ trivial, ⟨wkv_sref (rn_some rfl) rfl, ⟨.same _ trivial, ⟨.same _ trivial, wkv_sref (rn_some rfl) rfl⟩⟩⟩⟩
                    ·
                      try simp only [go_sem]
                      exact wkR_typed (rn_some rfl) rfl rfl
                  ·
                    replace h11 := if_p c14 h11
                    obtain rfl := Option.some.inj h11
                    refine wk_of [(0, some 0)] rfl ?_ ?_
                    ·
                      try simp only [go_sem]
                      exact ⟨.same _ trivial, ⟨wkv_sref (rn_some rfl) rfl, ⟨.same _ trivial, ⟨.same _ trivial, wkv_sref (rn_some rfl) rfl⟩⟩⟩⟩
                    ·
                      try simp only [go_sem]
                      exact wkR_typed (rn_some rfl) rfl rfl
                try simp only [go_sem]
                obtain ⟨⟨g17_0, g17_1⟩, h9⟩ := of_guard h9
                simp only [W64 g17_0 g17_1]
                obtain rfl := Option.some.inj h9
                refine nextL (hi9 _ rfl) ?_
                refine wk_of [(0, some 0)] rfl ?_ ?_
                ·
                  try simp only [go_sem]
                  exact ⟨.same _ trivial, ⟨wkv_sref (rn_some rfl) rfl, ⟨.same _ trivial, ⟨.same _ trivial, wkv_sref (rn_some rfl) rfl⟩⟩⟩⟩
                ·
                  try simp only [go_sem]
                  exact wkR_typed (rn_some rfl) rfl rfl
              ·
                replace h9 := if_n c10 h9
                obtain rfl := Option.some.inj h9
                obtain rfl := he9 _ rfl
                refine wk_of [(0, some 0)] rfl ?_ ?_
                ·
                  try simp only [go_sem]
                  exact ⟨.same _ trivial, ⟨.same _ trivial, wkv_sref (rn_some rfl) rfl⟩⟩
                ·
                  try simp only [go_sem]
                  exact wkR_typed (rn_some rfl) rfl rfl
            try simp only [go_sem]
            obtain ⟨⟨g18_0, g18_1, g18_2⟩, h4⟩ := of_guard h4
            refine ob ⟨⟨by assumption, by assumption⟩, by assumption⟩ ?_
            refine ob ⟨by assumption, by assumption⟩ ?_
            refine ret_o ?_
            try simp only [go_sem]
            obtain ⟨g19, h4⟩ := of_guard h4
            obtain rfl := Option.some.inj h4
            obtain rfl := Option.some.inj h2
            obtain rfl := he2 _ rfl
            obtain rfl := Option.some.inj h
            refine wkm [(0, some 0), (1, some 0)] rfl ?_ ?_
            ·
              exact wkv_sref (rn_some rfl) (by rw [List.length_take]; omega)
            ·
              try simp only [go_sem]
              exact wkR_take (rn_some rfl) rfl rfl
          ·
            replace h4 := if_n c7 h4
            obtain rfl := Option.some.inj h4
            refine zend ?_
            refine wk_of [(0, some 0)] rfl ?_ ?_
            ·
              try simp only [go_sem]
              exact ⟨.same _ trivial, ⟨.same _ trivial, wkv_sref (rn_some rfl) rfl⟩⟩
            ·
              try simp only [go_sem]
              exact wkR_typed (rn_some rfl) rfl rfl
        subst hz4
        simp only [Sum.elim_inr] at h2
        try simp only [go_sem]
        obtain ⟨⟨g20_0, g20_1⟩, h2⟩ := of_guard h2
        simp only [W64 g20_0 g20_1]
        obtain rfl := Option.some.inj h2
        refine nextL (hi2 _ rfl) ?_
        refine wk_of [(0, some 0)] rfl ?_ ?_
        ·
          try simp only [go_sem]
          exact ⟨.same _ trivial, ⟨.same _ trivial, wkv_sref (rn_some rfl) rfl⟩⟩
        ·
          try simp only [go_sem]
          exact wkR_typed (rn_some rfl) rfl rfl
      ·
        replace h2 := if_n c3 h2
        obtain rfl := Option.some.inj h2
        obtain rfl := he2 _ rfl
        refine zend ?_
        refine wk_of [(0, some 0)] rfl ?_ ?_
        ·
          try simp only [go_sem]
          exact ⟨.same _ trivial, wkv_sref (rn_some rfl) rfl⟩
        ·
          try simp only [go_sem]
          exact wkR_typed (rn_some rfl) rfl rfl
    subst hz1
    simp only [Sum.elim_inr] at h
    try simp only [go_sem]
    refine ret_o ?_
    try simp only [go_sem]
    obtain ⟨g21, h⟩ := of_guard h
    obtain rfl := Option.some.inj h
    refine wkm [(0, some 0), (1, some 0)] rfl ?_ ?_
    ·
      exact wkv_sref (rn_some rfl) (by rw [List.length_take]; omega)
    ·
      try simp only [go_sem]
      exact wkR_take (rn_some rfl) rfl rfl
theorem c_slices_Equal_Rect {a0 : (List TRect)} {a1 : (List TRect)} {r : Bool} (h : p_slices_Equal_Rect a0 a1 = some r)  : PCalls Try.prog 20 [encL 4 encTRect a0, encL 4 encTRect a1] (.bool r) := by
  unfold p_slices_Equal_Rect at h
  refine pcalls_of (ordOf [(6, [0, 1, 2, 4, 5, 6, 3, 7, 8])]) (fun _ => []) Try.func20 (by unfold Try.f20; rfl) (by kernel_rfl) (by kernel_rfl) ?_
  simp only [awp_seq]
  simp only [argSlots]
  dsimp only [Try.f20]
  try simp only [go_sem]
  refine cut_l ?_
  try simp only [go_sem]
  refine ways_n (fun c0 => ?_) (fun c0 => ?_)
  ·
    replace h := if_n c0 h
    obtain rfl := Option.some.inj h
    exact .same _ trivial
  ·
    replace h := if_p c0 h
    obtain ⟨z1, h1, h⟩ := of_bind h
    refine cut_z z1 (fun (s : Bool) => [(4, AVal.bool s)]) (fun (s : Bool) => { nx := 0, rows := [] : Heap }) ?_ (fun e1 hz1 => ?_)
    ·
      try simp only [go_sem]
      refine loop_w h1 (fun (s : Int × Bool) => [(13, AVal.int IntKind.i64 (Prod.fst s)), (12, AVal.int IntKind.i64 (↑(List.length a0) : Int)), (4, AVal.bool (Prod.snd s)), (0, encL 4 encTRect a0), (1, encL 4 encTRect a1)]) (fun (s : Int × Bool) => { nx := 0, rows := [] : Heap }) ?_ ?_
      ·
        refine wk_of [] rfl ?_ ?_
        ·
          try simp only [go_sem]
          exact ⟨.same _ trivial, ⟨.same _ trivial, ⟨.same _ trivial, ⟨.same _ trivial, .same _ trivial⟩⟩⟩⟩
        ·
          try simp only [go_sem]
      intro n2 s2 o2 h2 he2 hi2
      try simp only [go_sem]
      refine cut_l ?_
      try simp only [go_sem]
      refine ways_d (fun c3 => ?_) (fun c3 => ?_)
      ·
        replace h2 := if_p c3 h2
        refine cut_l ?_
        try simp only [go_sem]
        obtain ⟨⟨g4_0, g4_1⟩, h2⟩ := of_guard h2
        refine ob ⟨⟨by assumption, by assumption⟩, ⟨by assumption, by omega⟩⟩ ?_
        refine cut_l ?_
        try simp only [go_sem]
        refine ways_n (fun c5 => ?_) (fun c5 => ?_)
        ·
          replace h2 := if_n c5 h2
          obtain rfl := Option.some.inj h2
          obtain rfl := he2 _ rfl
          obtain rfl := Option.some.inj h
          exact .same _ trivial
        ·
          replace h2 := if_p c5 h2
          obtain ⟨⟨g6_0, g6_1⟩, h2⟩ := of_guard h2
          simp only [W64 g6_0 g6_1]
          obtain rfl := Option.some.inj h2
          refine nextL (hi2 _ rfl) ?_
          refine wk_of [] rfl ?_ ?_
          ·
            try simp only [go_sem]
            exact ⟨.same _ trivial, ⟨.same _ trivial, ⟨.same _ trivial, ⟨.same _ trivial, .same _ trivial⟩⟩⟩⟩
          ·
            try simp only [go_sem]
      ·
        replace h2 := if_n c3 h2
        obtain rfl := Option.some.inj h2
        obtain rfl := he2 _ rfl
        refine zend ?_
        refine wk_of [] rfl ?_ ?_
        ·
          try simp only [go_sem]
          exact .same _ trivial
        ·
          try simp only [go_sem]
    subst hz1
    simp only [Sum.elim_inr] at h
    try simp only [go_sem]
    obtain rfl := Option.some.inj h
    exact .same _ trivial
theorem c_slices_Equal_int {a0 : (List Int)} {a1 : (List Int)} {r : Bool} (h : p_slices_Equal_int a0 a1 = some r)  : PCalls Try.prog 120 [encL 1 encI a0, encL 1 encI a1] (.bool r) := by
  unfold p_slices_Equal_int at h
  refine pcalls_of (ordOf [(6, [0, 1, 2, 4, 5, 6, 3, 7, 8])]) (fun _ => []) Try.func120 (by unfold Try.f120; rfl) (by kernel_rfl) (by kernel_rfl) ?_
  simp only [awp_seq]
  simp only [argSlots]
  dsimp only [Try.f120]
  try simp only [go_sem]
  refine cut_l ?_
  try simp only [go_sem]
  refine ways_n (fun c0 => ?_) (fun c0 => ?_)
  ·
    replace h := if_n c0 h
    obtain rfl := Option.some.inj h
    exact .same _ trivial
  ·
    replace h := if_p c0 h
    obtain ⟨z1, h1, h⟩ := of_bind h
    refine cut_z z1 (fun (s : Bool) => [(4, AVal.bool s)]) (fun (s : Bool) => { nx := 0, rows := [] : Heap }) ?_ (fun e1 hz1 => ?_)
    ·
      try simp only [go_sem]
      refine loop_w h1 (fun (s : Int × Bool) => [(13, AVal.int IntKind.i64 (Prod.fst s)), (12, AVal.int IntKind.i64 (↑(List.length a0) : Int)), (4, AVal.bool (Prod.snd s)), (0, encL 1 encI a0), (1, encL 1 encI a1)]) (fun (s : Int × Bool) => { nx := 0, rows := [] : Heap }) ?_ ?_
      ·
        refine wk_of [] rfl ?_ ?_
        ·
          try simp only [go_sem]
          exact ⟨.same _ trivial, ⟨.same _ trivial, ⟨.same _ trivial, ⟨.same _ trivial, .same _ trivial⟩⟩⟩⟩
        ·
          try simp only [go_sem]
      intro n2 s2 o2 h2 he2 hi2
      try simp only [go_sem]
      refine cut_l ?_
      try simp only [go_sem]
      refine ways_d (fun c3 => ?_) (fun c3 => ?_)
      ·
        replace h2 := if_p c3 h2
        refine cut_l ?_
        try simp only [go_sem]
        obtain ⟨⟨g4_0, g4_1⟩, h2⟩ := of_guard h2
        refine ob ⟨⟨by assumption, by assumption⟩, ⟨by assumption, by omega⟩⟩ ?_
        refine cut_l ?_
        try simp only [go_sem]
        refine ways_n (fun c5 => ?_) (fun c5 => ?_)
        ·
          replace h2 := if_n c5 h2
          obtain rfl := Option.some.inj h2
          obtain rfl := he2 _ rfl
          obtain rfl := Option.some.inj h
          exact .same _ trivial
        ·
          replace h2 := if_p c5 h2
          obtain ⟨⟨g6_0, g6_1⟩, h2⟩ := of_guard h2
          simp only [W64 g6_0 g6_1]
          obtain rfl := Option.some.inj h2
          refine nextL (hi2 _ rfl) ?_
          refine wk_of [] rfl ?_ ?_
          ·
            try simp only [go_sem]
            exact ⟨.same _ trivial, ⟨.same _ trivial, ⟨.same _ trivial, ⟨.same _ trivial, .same _ trivial⟩⟩⟩⟩
          ·
            try simp only [go_sem]
      ·
        replace h2 := if_n c3 h2
        obtain rfl := Option.some.inj h2
        obtain rfl := he2 _ rfl
        refine zend ?_
        refine wk_of [] rfl ?_ ?_
        ·
          try simp only [go_sem]
          exact .same _ trivial
        ·
          try simp only [go_sem]
    subst hz1
    simp only [Sum.elim_inr] at h
    try simp only [go_sem]
    obtain rfl := Option.some.inj h
    exact .same _ trivial
theorem c_slices_IndexFunc_Rect {a0 : (List TRect)} {f1 : (TRect → Option (Bool))} {r : Int} (h : p_slices_IndexFunc_Rect a0 f1 = some r) {g1 : Nat} {k1 : List AVal} (hk1 : nmL k1) (hf1 : ∀ (x0 : TRect) (y : Bool), f1 x0 = some y → PCalls Try.prog g1 (encTRect x0 :: k1) (.bool y)) : PCalls Try.prog 119 [encL 4 encTRect a0, fn g1 k1] (.int .i64 r) := by
  unfold p_slices_IndexFunc_Rect at h
  refine pcalls_of (fun _ => none) (fun _ => []) Try.func119 (by unfold Try.f119; rfl) (by kernel_rfl) (by kernel_rfl) ?_
  simp only [awp_seq]
  simp only [argSlots]
  dsimp only [Try.f119]
  try simp only [go_sem]
  obtain ⟨z0, h0, h⟩ := of_bind h
  refine cut_z z0 (fun (s : Int) => [(4, AVal.int IntKind.i64 s)]) (fun (s : Int) => { nx := 0, rows := [] : Heap }) ?_ (fun e0 hz0 => ?_)
  ·
    try simp only [go_sem]
    refine loop_w h0 (fun (s : Int × Int) => [(8, AVal.int IntKind.i64 (Prod.fst s)), (7, AVal.int IntKind.i64 (↑(List.length a0) : Int)), (4, AVal.int IntKind.i64 (Prod.snd s)), (0, encL 4 encTRect a0), (1, fn g1 k1)]) (fun (s : Int × Int) => { nx := 0, rows := [] : Heap }) ?_ ?_
    ·
      refine wk_of [] rfl ?_ ?_
      ·
        try simp only [go_sem]
        exact ⟨.same _ trivial, ⟨.same _ trivial, ⟨.same _ trivial, ⟨.same _ trivial, .same _ (by simp only [go_sem]; assumption)⟩⟩⟩⟩
      ·
        try simp only [go_sem]
    intro n1 s1 o1 h1 he1 hi1
    try simp only [go_sem]
    refine cut_l ?_
    try simp only [go_sem]
    refine ways_d (fun c2 => ?_) (fun c2 => ?_)
    ·
      replace h1 := if_p c2 h1
      refine cut_l ?_
      try simp only [go_sem]
      obtain ⟨g3, h1⟩ := of_guard h1
      refine ob ⟨by assumption, by assumption⟩ ?_
      obtain ⟨x4, hx4, h1⟩ := of_bind h1
      refine call_p false (hf1 _ _ hx4) ⟨wkE _, lend_self hk1⟩ nofun ?_
      refine cut_l ?_
      try simp only [go_sem]
      refine ways (fun c5 => ?_) (fun c5 => ?_)
      ·
        replace h1 := if_t c5 h1
        try simp only [Bool.and_eq_true, Bool.or_eq_true, Bool.not_eq_true', Bool.not_eq_false', Bool.and_eq_false_imp, Bool.or_eq_false_iff, decide_eq_true_eq, decide_eq_false_iff_not] at c5
        obtain rfl := Option.some.inj h1
        obtain rfl := he1 _ rfl
        obtain rfl := Option.some.inj h
        exact .same _ trivial
      ·
        replace h1 := if_f c5 h1
        try simp only [Bool.and_eq_true, Bool.or_eq_true, Bool.not_eq_true', Bool.not_eq_false', Bool.and_eq_false_imp, Bool.or_eq_false_iff, decide_eq_true_eq, decide_eq_false_iff_not] at c5
        obtain ⟨⟨g6_0, g6_1⟩, h1⟩ := of_guard h1
        simp only [W64 g6_0 g6_1]
        obtain rfl := Option.some.inj h1
        refine nextL (hi1 _ rfl) ?_
        refine wk_of [] rfl ?_ ?_
        ·
          try simp only [go_sem]
          exact ⟨.same _ trivial, ⟨.same _ trivial, ⟨.same _ trivial, ⟨.same _ trivial, .same _ (by simp only [go_sem]; assumption)⟩⟩⟩⟩
        ·
          try simp only [go_sem]
    ·
      replace h1 := if_n c2 h1
      obtain rfl := Option.some.inj h1
      obtain rfl := he1 _ rfl
      refine zend ?_
      refine wk_of [] rfl ?_ ?_
      ·
        try simp only [go_sem]
        exact .same _ trivial
      ·
        try simp only [go_sem]
  subst hz0
  simp only [Sum.elim_inr] at h
  try simp only [go_sem]
  obtain rfl := Option.some.inj h
  exact .same _ trivial
theorem c_slices_Reverse_Rect_o {a0 : (List TRect)} {r : (List TRect)} (h : p_slices_Reverse_Rect_o a0 = some r)  : MCalls Try.prog 23 [.sref (0, 0) 0 4 (List.length a0)] ⟨1, [(0, .one ⟨4, encTRect {}, a0.map encTRect⟩)]⟩ (tup []) ⟨1, [(0, .one ⟨4, encTRect {}, (r).map encTRect⟩)]⟩ := by
  unfold p_slices_Reverse_Rect_o at h
  refine acalls_of (ordOf [(3, [0, 1, 2, 3, 4, 5, 6, 8, 9, 10, 7, 11, 12, 13, 14, 15])]) (fun _ => []) Try.func23 (by unfold Try.f23; rfl) (by kernel_rfl) (by kernel_rfl) ?_
  simp only [awp_seq]
  simp only [argSlots]
  dsimp only [Try.f23]
  try simp only [go_sem]
  obtain ⟨⟨g0_0, g0_1⟩, h⟩ := of_guard h
  simp only [W64 g0_0 g0_1]
  refine cut_l ?_
  try simp only [go_sem]
  refine loop_w h (fun (s : Int × Int × List TRect) => [(3, AVal.int IntKind.i64 (Prod.fst s)), (2, AVal.int IntKind.i64 (Prod.fst (Prod.snd s))), (0, AVal.sref (0, 0) 0 4 (List.length a0))]) (fun (s : Int × Int × List TRect) => { nx := 1, rows := [(0, Ent.one { sz := 4, d := encTRect { : TRect }, l := List.map encTRect (Prod.snd (Prod.snd s)) : Row })] : Heap }) ?_ ?_
  ·
    refine wk_of [(0, some 0)] rfl ?_ ?_
    ·
      try simp only [go_sem]
      exact ⟨.same _ trivial, ⟨.same _ trivial, wkv_sref (rn_some rfl) rfl⟩⟩
    ·
      try simp only [go_sem]
      exact wkR_typed (rn_some rfl) rfl rfl
  intro n1 s1 o1 h1 he1 hi1
  try simp only [go_sem]
  refine cut_l ?_
  try simp only [go_sem]
  refine ways_d (fun c2 => ?_) (fun c2 => ?_)
  ·
    replace h1 := if_p c2 h1
    refine cut_l ?_
    try simp only [go_sem]
    obtain ⟨⟨g3_0, g3_1, g3_2, g3_3, g3_4, g3_5, g3_6, g3_7, g3_8, g3_9, g3_10, g3_11⟩, h1⟩ := of_guard h1
    refine ob ⟨⟨⟨⟨⟨⟨⟨⟨by assumption, by assumption⟩, ⟨by assumption, by assumption⟩⟩, by assumption⟩, by assumption⟩, ⟨by assumption, by assumption⟩⟩, by assumption⟩, ⟨by assumption, by assumption⟩⟩, by assumption⟩ ?_
    simp only [W64 (n := Prod.fst s1 - 1) (by omega) (by omega)]
    simp only [W64 (n := Prod.fst (Prod.snd s1) + 1) (by omega) (by omega)]
    obtain rfl := Option.some.inj h1
    refine nextL (hi1 _ rfl) ?_
    refine wk_of [(0, some 0)] rfl ?_ ?_
    ·
      try simp only [go_sem]
      exact ⟨.same _ trivial, ⟨.same _ trivial, wkv_sref (rn_some rfl) rfl⟩⟩
    ·
      try simp only [go_sem]
      exact wkR_typed (rn_some rfl) rfl rfl
  ·
    replace h1 := if_n c2 h1
    refine ret_o ?_
    try simp only [go_sem]
    obtain rfl := Option.some.inj h1
    obtain rfl := he1 _ rfl
    refine wkm [(0, some 0)] rfl ?_ ?_
    ·
      exact wkv_same (by simp only [go_sem]) rfl
    ·
      try simp only [go_sem]
      exact wkR_typed (rn_some rfl) rfl rfl
theorem c_laysTRect : SlLaysF0.n6 Try.prog ⟨fun | 6 => 87 | 15 => 117 | 14 => 116 | 28 => 138 | 29 => 139 | 20 => 130 | 21 => 131 | 22 => 132 | 23 => 133 | 24 => 134 | 25 => 135 | 26 => 136 | 27 => 137 | 46 => 149 | 47 => 150 | 48 => 151 | 49 => 152 | 50 => 153 | 57 => 158 | n => n, fun | 22 => 22 | 24 => 29 | 25 => 92 | 3 => 3 | 39 => 123 | 0 => 0 | 53 => 145 | 55 => 147 | 4 => 4 | 46 => 139 | 45 => 138 | 50 => 117 | 5 => 5 | 9 => 9 | 66 => 154 | 70 => 158 | 76 => 162 | 77 => 163 | n => n, fun | n => n⟩ where
  mixed := by kernel_rfl
  f6 := ⟨Try.f87.name, by decide, Try.func87.trans (congrArg some (by kernel_rfl))⟩
  f14 := ⟨Try.f116.name, by decide, Try.func116.trans (congrArg some (by kernel_rfl))⟩
  f15 := Try.func117.trans (congrArg some (by kernel_rfl))
  f20 := ⟨Try.f130.name, by decide, Try.func130.trans (congrArg some (by kernel_rfl))⟩
  f21 := ⟨Try.f131.name, by decide, Try.func131.trans (congrArg some (by kernel_rfl))⟩
  f22 := ⟨Try.f132.name, by decide, Try.func132.trans (congrArg some (by kernel_rfl))⟩
  f23 := ⟨Try.f133.name, by decide, Try.func133.trans (congrArg some (by kernel_rfl))⟩
  f24 := ⟨Try.f134.name, by decide, Try.func134.trans (congrArg some (by kernel_rfl))⟩
  f25 := ⟨Try.f135.name, by decide, Try.func135.trans (congrArg some (by kernel_rfl))⟩
  f26 := ⟨Try.f136.name, by decide, Try.func136.trans (congrArg some (by kernel_rfl))⟩
  f27 := ⟨Try.f137.name, by decide, Try.func137.trans (congrArg some (by kernel_rfl))⟩
  f28 := Try.func138.trans (congrArg some (by kernel_rfl))
  f29 := Try.func139.trans (congrArg some (by kernel_rfl))
  f46 := ⟨Try.f149.name, by decide, Try.func149.trans (congrArg some (by kernel_rfl))⟩
  f47 := Try.func150.trans (congrArg some (by kernel_rfl))
  f48 := Try.func151.trans (congrArg some (by kernel_rfl))
  f49 := ⟨Try.f152.name, by decide, Try.func152.trans (congrArg some (by kernel_rfl))⟩
  f50 := ⟨Try.f153.name, by decide, Try.func153.trans (congrArg some (by kernel_rfl))⟩
  f57 := ⟨Try.f158.name, by decide, Try.func158.trans (congrArg some (by kernel_rfl))⟩
  t0 := Try.underlying0
  a0 := Try.isAgg0
  z0 := Try.sizeOf0
  v0 := Try.zeroValue0
  t3 := Try.underlying3
  a3 := Try.isAgg3
  z3 := Try.sizeOf3
  v3 := Try.zeroValue3
  t4 := Try.underlying4
  a4 := Try.isAgg4
  z4 := Try.sizeOf4
  v4 := Try.zeroValue4
  t5 := Try.underlying5
  a5 := Try.isAgg5
  z5 := Try.sizeOf5
  v5 := Try.zeroValue5
  t9 := Try.underlying9
  a9 := Try.isAgg9
  z9 := Try.sizeOf9
  v9 := Try.zeroValue9
  t22 := Try.underlying22
  a22 := Try.isAgg22
  z22 := Try.sizeOf22
  v22 := Try.zeroValue22
  t25 := Try.underlying92
  a25 := Try.isAgg92
  z25 := Try.sizeOf92
  v25 := Try.zeroValue92
  t39 := Try.underlying123
  a39 := Try.isAgg123
  z39 := Try.sizeOf123
  v39 := Try.zeroValue123
  t45 := Try.underlying138
  a45 := Try.isAgg138
  z45 := Try.sizeOf138
  v45 := Try.zeroValue138
  t46 := Try.underlying139
  a46 := Try.isAgg139
  z46 := Try.sizeOf139
  v46 := Try.zeroValue139
  t50 := Try.underlying117
  a50 := Try.isAgg117
  z50 := Try.sizeOf117
  v50 := Try.zeroValue117
  t53 := Try.underlying145
  a53 := Try.isAgg145
  z53 := Try.sizeOf145
  v53 := Try.zeroValue145
  t55 := Try.underlying147
  a55 := Try.isAgg147
  z55 := Try.sizeOf147
  v55 := Try.zeroValue147
  t66 := Try.underlying154
  a66 := Try.isAgg154
  z66 := Try.sizeOf154
  v66 := Try.zeroValue154
  t70 := Try.underlying158
  a70 := Try.isAgg158
  z70 := Try.sizeOf158
  v70 := Try.zeroValue158
  t76 := Try.underlying162
  a76 := Try.isAgg162
  z76 := Try.sizeOf162
  v76 := Try.zeroValue162
  t77 := Try.underlying163
  a77 := Try.isAgg163
  z77 := Try.sizeOf163
  v77 := Try.zeroValue163
theorem c_slices_SortFunc_Rect_o {a0 : List TRect} {f1 : TRect → TRect → Option Int} {r : List TRect} (h : p_slices_SortFunc_Rect_o a0 f1 = some r) {g1 : Nat} (hk1 : nmL []) (hf1 : ∀ (x0 : TRect) (x1 : TRect) (y : Int), f1 x0 x1 = some y → PCalls Try.prog g1 (encTRect x0 :: encTRect x1 :: []) (.int .i64 y)) : MCalls Try.prog 87 [.sref (0, 0) 0 4 (List.length a0), fn g1 []] ⟨1, [(0, .one ⟨4, encTRect {}, a0.map encTRect⟩)]⟩ (tup []) ⟨1, [(0, .one ⟨4, encTRect {}, (r).map encTRect⟩)]⟩ :=
  sortFunc_p (dv := encTRect {}) h c_laysTRect Try.isAgg29 Try.sizeOf29 (by kernel_rfl) clamp_bdd_TRect clamp_id_TRect (fun _ => rfl) (by decide) one_TRect lr_TRect vr_TRect hf1
theorem c_lays189 : Lays.n189 Try.prog ⟨fun | 189 => 89 | 125 => 117 | 257 => 118 | 128 => 138 | 129 => 139 | 294 => 140 | 295 => 141 | 296 => 142 | 297 => 143 | 298 => 144 | 299 => 145 | 216 => 146 | 300 => 147 | 301 => 148 | 328 => 154 | 329 => 150 | 330 => 151 | 331 => 155 | 332 => 156 | 215 => 157 | 343 => 159 | n => n, fun | 28 => 93 | 3 => 3 | 46 => 123 | 0 => 0 | 51 => 145 | 53 => 147 | 4 => 4 | 183 => 139 | 182 => 138 | 131 => 117 | 5 => 5 | 9 => 9 | 218 => 154 | 222 => 158 | 228 => 162 | 229 => 163 | n => n, fun | n => n⟩ where
  mixed := by kernel_rfl
  f125 := Try.func117.trans (congrArg some (by kernel_rfl))
  f128 := Try.func138.trans (congrArg some (by kernel_rfl))
  f129 := Try.func139.trans (congrArg some (by kernel_rfl))
  f189 := Try.func89.trans (congrArg some (by kernel_rfl))
  f215 := Try.func157.trans (congrArg some (by kernel_rfl))
  f216 := Try.func146.trans (congrArg some (by kernel_rfl))
  f257 := Try.func118.trans (congrArg some (by kernel_rfl))
  f294 := Try.func140.trans (congrArg some (by kernel_rfl))
  f295 := Try.func141.trans (congrArg some (by kernel_rfl))
  f296 := Try.func142.trans (congrArg some (by kernel_rfl))
  f297 := Try.func143.trans (congrArg some (by kernel_rfl))
  f298 := Try.func144.trans (congrArg some (by kernel_rfl))
  f299 := Try.func145.trans (congrArg some (by kernel_rfl))
  f300 := Try.func147.trans (congrArg some (by kernel_rfl))
  f301 := Try.func148.trans (congrArg some (by kernel_rfl))
  f328 := Try.func154.trans (congrArg some (by kernel_rfl))
  f329 := Try.func150.trans (congrArg some (by kernel_rfl))
  f330 := Try.func151.trans (congrArg some (by kernel_rfl))
  f331 := Try.func155.trans (congrArg some (by kernel_rfl))
  f332 := Try.func156.trans (congrArg some (by kernel_rfl))
  f343 := Try.func159.trans (congrArg some (by kernel_rfl))
  t0 := Try.underlying0
  a0 := Try.isAgg0
  z0 := Try.sizeOf0
  v0 := Try.zeroValue0
  t3 := Try.underlying3
  a3 := Try.isAgg3
  z3 := Try.sizeOf3
  v3 := Try.zeroValue3
  t4 := Try.underlying4
  a4 := Try.isAgg4
  z4 := Try.sizeOf4
  v4 := Try.zeroValue4
  t5 := Try.underlying5
  a5 := Try.isAgg5
  z5 := Try.sizeOf5
  v5 := Try.zeroValue5
  t9 := Try.underlying9
  a9 := Try.isAgg9
  z9 := Try.sizeOf9
  v9 := Try.zeroValue9
  t28 := Try.underlying93
  a28 := Try.isAgg93
  z28 := Try.sizeOf93
  v28 := Try.zeroValue93
  t46 := Try.underlying123
  a46 := Try.isAgg123
  z46 := Try.sizeOf123
  v46 := Try.zeroValue123
  t51 := Try.underlying145
  a51 := Try.isAgg145
  z51 := Try.sizeOf145
  v51 := Try.zeroValue145
  t53 := Try.underlying147
  a53 := Try.isAgg147
  z53 := Try.sizeOf147
  v53 := Try.zeroValue147
  t131 := Try.underlying117
  a131 := Try.isAgg117
  z131 := Try.sizeOf117
  v131 := Try.zeroValue117
  t182 := Try.underlying138
  a182 := Try.isAgg138
  z182 := Try.sizeOf138
  v182 := Try.zeroValue138
  t183 := Try.underlying139
  a183 := Try.isAgg139
  z183 := Try.sizeOf139
  v183 := Try.zeroValue139
  t218 := Try.underlying154
  a218 := Try.isAgg154
  z218 := Try.sizeOf154
  v218 := Try.zeroValue154
  t222 := Try.underlying158
  a222 := Try.isAgg158
  z222 := Try.sizeOf158
  v222 := Try.zeroValue158
  t228 := Try.underlying162
  a228 := Try.isAgg162
  z228 := Try.sizeOf162
  v228 := Try.zeroValue162
  t229 := Try.underlying163
  a229 := Try.isAgg163
  z229 := Try.sizeOf163
  v229 := Try.zeroValue163
theorem c_slices_Sort_int_o {a0 : List Int} {r : List Int} (h : p_slices_Sort_int_o a0 = some r) : MCalls Try.prog 89 [.sref (0, 0) 0 1 (List.length a0)] ⟨1, [(0, .one ⟨1, .int .i64 0, a0.map encI⟩)]⟩ (tup []) ⟨1, [(0, .one ⟨1, .int .i64 0, (r).map encI⟩)]⟩ := by
  unfold p_slices_Sort_int_o at h
  obtain ⟨h1, h⟩ := of_guard h
  obtain rfl := Option.some.inj h
  exact sortInt_o (by kernel_rfl) (fun blk cap zs w h1 h2 h3 => Any.slices_Sort_int c_lays189 blk 0 cap zs w h1 h2 h3) (fun p cap w => Any.slices_Sort_int_none c_lays189 p cap w) h1
theorem c_shape_IsAt {a0 : Int} {r : Bool} (h : p_shape_IsAt a0 = some r)  : PCalls Try.prog 100 [.int .i64 a0] (.bool r) := by
  unfold p_shape_IsAt at h
  refine pcalls_of (fun _ => none) (fun _ => []) Try.func100 (by unfold Try.f100; rfl) (by kernel_rfl) (by kernel_rfl) ?_
  simp only [awp_seq]
  simp only [argSlots]
  dsimp only [Try.f100]
  try simp only [go_sem]
  obtain ⟨x0, hx0, h⟩ := of_bind h
  refine call_p false (c_shape_within hx0) ⟨.same _ trivial, .same _ trivial, .same _ trivial, trivial⟩ nofun ?_
  obtain rfl := Option.some.inj h
  exact .same _ trivial
theorem c_shape_Set_Told {a0 : (List TShapeBand)} {r : (List TRect) × Int} (h : p_shape_Set_Told a0 = some r)  : PCalls Try.prog 53 [encL 3 encTShapeBand a0] (tup [encL 4 encTRect r.1, .int .i64 r.2]) := by
  unfold p_shape_Set_Told at h
  refine pcalls_of (fun _ => none) (fun _ => []) Try.func53 (by unfold Try.f53; rfl) (by kernel_rfl) (by kernel_rfl) ?_
  simp only [awp_seq]
  simp only [argSlots]
  dsimp only [Try.f53]
  try simp only [go_sem]
  obtain ⟨x0, hx0, h⟩ := of_bind h
  refine call_p false (c_shape_Set_Many hx0) ⟨.same _ trivial, trivial⟩ nofun ?_
  try simp only [go_sem]
  refine cut_l ?_
  try simp only [go_sem]
  refine ways_d (fun c1 => ?_) (fun c1 => ?_)
  ·
    replace h := if_p c1 h
    obtain rfl := Option.some.inj h
    exact wkv_tup ⟨wkv_nilL, .same _ trivial, trivial⟩
  ·
    replace h := if_n c1 h
    obtain ⟨x2, hx2, h⟩ := of_bind h
    refine call_p false (c_shape_Set_Rects hx2) ⟨.same _ trivial, trivial⟩ nofun ?_
    obtain rfl := Option.some.inj h
    exact wkv_same (by simp only [go_sem]) rfl
theorem c_shape_Set_push_o {a0 : (List TShapeBand)} {a1 : TShapeBand} {r : (List TShapeBand)} (h : p_shape_Set_push_o a0 a1 = some r)  : MCalls Try.prog 93 [.sref (0, 0) 0 3 (List.length a0), encTShapeBand a1] ⟨1, [(0, .one ⟨3, encTShapeBand {}, a0.map encTShapeBand⟩)]⟩ (.sref (1, 0) 0 3 (List.length (r))) ⟨2, [(1, .one ⟨3, encTShapeBand {}, (r).map encTShapeBand⟩)]⟩ := by
  unfold p_shape_Set_push_o at h
  refine acalls_of (ordOf [(4, [0, 1, 2, 3, 4, 5, 6, 8, 7, 9, 10, 11, 12, 13, 14, 15, 16, 18, 17, 19, 20, 21])]) (fun _ => []) Try.func93 (by unfold Try.f93; rfl) (by kernel_rfl) (by kernel_rfl) ?_
  simp only [awp_seq]
  simp only [argSlots]
  dsimp only [Try.f93]
  try simp only [go_sem]
  refine ob (by simp) ?_
  refine cut_l ?_
  try simp only [go_sem]
  refine ways (fun c0 => ?_) (fun c0 => ?_)
  ·
    replace h := if_t c0 h
    try simp only [Bool.and_eq_true, Bool.or_eq_true, Bool.not_eq_true', Bool.not_eq_false', Bool.and_eq_false_imp, Bool.or_eq_false_iff, decide_eq_true_eq, decide_eq_false_iff_not] at c0
    refine ret_o ?_
    try simp only [go_sem]
    obtain rfl := Option.some.inj h
    refine wkm [(0, some 0), (1, some 0)] rfl ?_ ?_
    ·
      exact wkv_sref (rn_some rfl) rfl
    ·
      try simp only [go_sem]
      exact wkR_typed (rn_some rfl) rfl rfl
  ·
    replace h := if_f c0 h
    try simp only [Bool.and_eq_true, Bool.or_eq_true, Bool.not_eq_true', Bool.not_eq_false', Bool.and_eq_false_imp, Bool.or_eq_false_iff, decide_eq_true_eq, decide_eq_false_iff_not] at c0
    obtain ⟨⟨g1_0, g1_1⟩, h⟩ := of_guard h
    simp only [W64 g1_0 g1_1]
    obtain ⟨⟨g2_0, g2_1, g2_2, g2_3⟩, h⟩ := of_guard h
    refine ob ⟨⟨⟨by assumption, by assumption⟩, by assumption⟩, by assumption⟩ ?_
    obtain ⟨x3, hx3, h⟩ := of_bind h
    refine qcall_p false (fun hg => c_slices_Equal_int (if_t hg hx3)) (fun _ => ⟨.same _ trivial, .same _ trivial, trivial⟩) nofun ?_
    try simp only [go_sem]
    refine cut_l ?_
    try simp only [go_sem]
    refine ways (fun c4 => ?_) (fun c4 => ?_)
    ·
      replace h := if_t c4 h
      try simp only [Bool.and_eq_true, Bool.or_eq_true, Bool.not_eq_true', Bool.not_eq_false', Bool.and_eq_false_imp, Bool.or_eq_false_iff, decide_eq_true_eq, decide_eq_false_iff_not] at c4
      refine ob ⟨⟨by omega, by omega⟩, by omega⟩ ?_
      refine ret_o ?_
      try simp only [go_sem]
      obtain ⟨g5, h⟩ := of_guard h
      obtain rfl := Option.some.inj h
      refine wkm [(0, some 0), (1, some 0)] rfl ?_ ?_
      ·
        exact wkv_sref (rn_some rfl) (by simp)
      ·
        try simp only [go_sem]
        exact wkR_take (rn_some rfl) rfl rfl
    ·
      replace h := if_f c4 h
      try simp only [Bool.and_eq_true, Bool.or_eq_true, Bool.not_eq_true', Bool.not_eq_false', Bool.and_eq_false_imp, Bool.or_eq_false_iff, decide_eq_true_eq, decide_eq_false_iff_not] at c4
      obtain ⟨g6, h⟩ := of_guard h
      refine ob ⟨by omega, by assumption⟩ ?_
      refine ret_o ?_
      try simp only [go_sem]
      obtain rfl := Option.some.inj h
      refine wkm [(0, some 0), (1, some 10003)] rfl ?_ ?_
      ·
        exact wkv_sref (rn_some rfl) rfl
      ·
        try simp only [go_sem]
        exact wkR_typed (rn_some rfl) rfl rfl
theorem c_shape_stretches_o {a0 : (List TRect)} {r : (List Int) × (List TRect)} (h : p_shape_stretches_o a0 = some r)  : MCalls Try.prog 94 [.sref (0, 0) 0 4 (List.length a0)] ⟨1, [(0, .one ⟨4, encTRect {}, a0.map encTRect⟩)]⟩ (encL 1 encI r.1) ⟨1, [(0, .one ⟨4, encTRect {}, (r.2).map encTRect⟩)]⟩ := by
  unfold p_shape_stretches_o at h
  refine acalls_of (ordOf [(7, [0, 1, 2, 3, 5, 6, 7, 4, 8, 9, 10]), (8, [0, 1, 2, 3, 4, 6, 5, 7, 8, 9, 10])]) (fun _ => []) Try.func94 (by unfold Try.f94; rfl) (by kernel_rfl) (by kernel_rfl) ?_
  simp only [awp_seq]
  simp only [argSlots]
  dsimp only [Try.f94]
  try simp only [go_sem]
  obtain ⟨x0, hx0, h⟩ := of_bind h
  refine call_r false [0] (c_slices_SortFunc_Rect_o hx0 (by simp only [go_sem]) (fun _ _ _ h => c_shape_stretches_1 h)) ⟨wkv_sref rfl rfl, wkv_same (by simp only [go_sem]) rfl, trivial⟩ (wkH_rho (by decide) rfl ⟨⟨by decide, wkR_typed rfl rfl rfl⟩, trivial⟩) rfl (by simp) (by simp) nofun ?_
  try simp only [go_sem]
  obtain ⟨e1, h1, h⟩ := of_bind h
  refine cut_j ([(3, AVal.sref (1, 0) 0 1 (List.length e1)), (2, AVal.nilsl)]) ({ nx := 2, rows := [(1, Ent.one { sz := 1, d := AVal.int IntKind.i64 0, l := List.map encI e1 : Row }), (0, Ent.one { sz := 4, d := encTRect { : TRect }, l := List.map encTRect x0 : Row })] : Heap }) ?_ ?_
  ·
    try simp only [go_sem]
    refine loop_w h1 (fun (s : Int × List Int) => [(11, AVal.int IntKind.i64 (Prod.fst s)), (10, AVal.int IntKind.i64 (↑(List.length a0) : Int)), (9, AVal.sref (0, 0) 0 4 (List.length a0)), (3, AVal.sref (1, 0) 0 1 (List.length (Prod.snd s))), (2, AVal.nilsl)]) (fun (s : Int × List Int) => { nx := 2, rows := [(1, Ent.one { sz := 1, d := AVal.int IntKind.i64 0, l := List.map encI (Prod.snd s) : Row }), (0, Ent.one { sz := 4, d := encTRect { : TRect }, l := List.map encTRect x0 : Row })] : Heap }) ?_ ?_
    ·
      refine wk_of [(0, some 0), (1, none)] rfl ?_ ?_
      ·
        try simp only [go_sem]
        exact ⟨.same _ trivial, ⟨.same _ trivial, ⟨wkv_sref (rn_some rfl) rfl, ⟨wkv_nil (rn_none rfl) rfl, .same _ trivial⟩⟩⟩⟩
      ·
        try simp only [go_sem]
        exact ⟨wkR_nilT (rn_none rfl), wkR_typed (rn_some rfl) rfl rfl⟩
    intro n2 s2 o2 h2 he2 hi2
    try simp only [go_sem]
    refine cut_l ?_
    try simp only [go_sem]
    refine ways_d (fun c3 => ?_) (fun c3 => ?_)
    ·
      replace h2 := if_p c3 h2
      obtain ⟨e4, h4, h2⟩ := of_bind h2
      refine cut_j ([(11, AVal.int IntKind.i64 (Prod.fst s2)), (10, AVal.int IntKind.i64 (↑(List.length a0) : Int)), (9, AVal.sref (0, 0) 0 4 (List.length a0)), (3, AVal.sref (1, 0) 0 1 (List.length e4)), (2, AVal.nilsl)]) ({ nx := 2, rows := [(1, Ent.one { sz := 1, d := AVal.int IntKind.i64 0, l := List.map encI e4 : Row }), (0, Ent.one { sz := 4, d := encTRect { : TRect }, l := List.map encTRect x0 : Row })] : Heap }) ?_ ?_
      ·
        try simp only [go_sem]
        obtain ⟨⟨g5_0, g5_1⟩, h4⟩ := of_guard h4
        refine ob ⟨⟨by assumption, by assumption⟩, by assumption⟩ ?_
        obtain ⟨⟨g6_0, g6_1⟩, h4⟩ := of_guard h4
        simp only [W64 g6_0 g6_1]
        obtain ⟨⟨g7_0, g7_1⟩, h4⟩ := of_guard h4
        refine ob ⟨by assumption, by assumption⟩ ?_
        refine cut_l ?_
        try simp only [go_sem]
        refine ways (fun c8 => ?_) (fun c8 => ?_)
        ·
          replace h4 := if_t c8 h4
          try simp only [Bool.and_eq_true, Bool.or_eq_true, Bool.not_eq_true', Bool.not_eq_false', Bool.and_eq_false_imp, Bool.or_eq_false_iff, decide_eq_true_eq, decide_eq_false_iff_not] at c8
          refine ob ⟨⟨⟨⟨by omega, by omega⟩, by omega⟩, ⟨by omega, by omega⟩⟩, by omega⟩ ?_
          obtain rfl := Option.some.inj h4
          refine wk_of [(0, some 0), (1, some 1)] rfl ?_ ?_
          ·
            try simp only [go_sem]
            exact ⟨.same _ trivial, ⟨.same _ trivial, ⟨wkv_sref (rn_some rfl) rfl, ⟨wkv_sref (rn_some rfl) (by simp), .same _ trivial⟩⟩⟩⟩
          ·
            try simp only [go_sem]
            exact ⟨wkR_typed (rn_some rfl) rfl rfl, wkR_typed (rn_some rfl) rfl rfl⟩
        ·
          replace h4 := if_f c8 h4
          try simp only [Bool.and_eq_true, Bool.or_eq_true, Bool.not_eq_true', Bool.not_eq_false', Bool.and_eq_false_imp, Bool.or_eq_false_iff, decide_eq_true_eq, decide_eq_false_iff_not] at c8
          obtain ⟨g9, h4⟩ := of_guard h4
          refine ob ⟨by omega, by assumption⟩ ?_
          obtain rfl := Option.some.inj h4
          refine wk_of [(0, some 0), (1, some 10005)] rfl ?_ ?_
          ·
            try simp only [go_sem]
            exact ⟨.same _ trivial, ⟨.same _ trivial, ⟨wkv_sref (rn_some rfl) rfl, ⟨wkv_sref (rn_some rfl) rfl, .same _ trivial⟩⟩⟩⟩
          ·
            try simp only [go_sem]
            exact ⟨wkR_typed (rn_some rfl) rfl rfl, wkR_typed (rn_some rfl) rfl rfl⟩
      try simp only [go_sem]
      obtain ⟨⟨g10_0, g10_1⟩, h2⟩ := of_guard h2
      simp only [W64 g10_0 g10_1]
      obtain rfl := Option.some.inj h2
      refine nextL (hi2 _ rfl) ?_
      refine wk_of [(0, some 0), (1, some 1)] rfl ?_ ?_
      ·
        try simp only [go_sem]
        exact ⟨.same _ trivial, ⟨.same _ trivial, ⟨wkv_sref (rn_some rfl) rfl, ⟨wkv_sref (rn_some rfl) rfl, .same _ trivial⟩⟩⟩⟩
      ·
        try simp only [go_sem]
        exact ⟨wkR_typed (rn_some rfl) rfl rfl, wkR_typed (rn_some rfl) rfl rfl⟩
    ·
      replace h2 := if_n c3 h2
      obtain rfl := Option.some.inj h2
      obtain rfl := he2 _ rfl
      refine wk_of [(1, some 1), (0, some 0)] rfl ?_ ?_
      ·
        try simp only [go_sem]
        exact ⟨wkv_sref (rn_some rfl) rfl, .same _ trivial⟩
      ·
        try simp only [go_sem]
        exact ⟨wkR_typed (rn_some rfl) rfl rfl, wkR_typed (rn_some rfl) rfl rfl⟩
  try simp only [go_sem]
  refine ret_o ?_
  try simp only [go_sem]
  obtain rfl := Option.some.inj h
  refine wkm [(0, some 0)] rfl ?_ ?_
  ·
    try simp only [go_sem]
    exact wkv_own rfl (rn_notTo rfl) rfl
  ·
    try simp only [go_sem]
    exact wkR_typed (rn_some rfl) rfl rfl
theorem c_slices_DeleteFunc_Rect_o {a0 : (List TRect)} {f1 : (TRect → Option (Bool))} {r : (List TRect)} (h : p_slices_DeleteFunc_Rect_o a0 f1 = some r) {g1 : Nat} {k1 : List AVal} (hk1 : nmL k1) (hf1 : ∀ (x0 : TRect) (y : Bool), f1 x0 = some y → PCalls Try.prog g1 (encTRect x0 :: k1) (.bool y)) : MCalls Try.prog 91 [.sref (0, 0) 0 4 (List.length a0), fn g1 k1] ⟨1, [(0, .one ⟨4, encTRect {}, a0.map encTRect⟩)]⟩ (.sref (1, 0) 0 4 (List.length (r))) ⟨2, [(1, .one ⟨4, encTRect {}, (r).map encTRect⟩)]⟩ := by
  unfold p_slices_DeleteFunc_Rect_o at h
  refine acalls_of (fun _ => none) (fun _ => []) Try.func91 (by unfold Try.f91; rfl) (by kernel_rfl) (by kernel_rfl) ?_
  simp only [awp_seq]
  simp only [argSlots]
  dsimp only [Try.f91]
  try simp only [go_sem]
  obtain ⟨x0, hx0, h⟩ := of_bind h
  refine call_p true (c_slices_IndexFunc_Rect hx0 hk1 hf1) ⟨wkv_own rfl (R0_ne _) rfl, .same _ (by simp only [go_sem]; assumption), trivial⟩ (fun _ => by simp only [go_sem]) ?_
  try simp only [go_sem]
  refine cut_l ?_
  try simp only [go_sem]
  refine ways_d (fun c1 => ?_) (fun c1 => ?_)
  ·
    replace h := if_p c1 h
    refine ret_o ?_
    try simp only [go_sem]
    obtain rfl := Option.some.inj h
    refine wkm [(0, some 0), (1, some 0)] rfl ?_ ?_
    ·
      exact wkv_sref (rn_some rfl) rfl
    ·
      try simp only [go_sem]
      exact wkR_typed (rn_some rfl) rfl rfl
  ·
    replace h := if_n c1 h
    obtain ⟨⟨g2_0, g2_1⟩, h⟩ := of_guard h
    simp only [W64 g2_0 g2_1]
    obtain ⟨e3, h3, h⟩ := of_bind h
    refine cut_j ([(5, AVal.int IntKind.i64 (Prod.fst e3)), (4, AVal.nilsl), (0, AVal.sref (0, 0) 0 4 (List.length a0))]) ({ nx := 1, rows := [(0, Ent.one { sz := 4, d := encTRect { : TRect }, l := List.map encTRect (Prod.snd e3) : Row })] : Heap }) ?_ ?_
    ·
      try simp only [go_sem]
      refine loop_w h3 (fun (s : Int × Int × List TRect) => [(6, AVal.int IntKind.i64 (Prod.fst s)), (5, AVal.int IntKind.i64 (Prod.fst (Prod.snd s))), (4, AVal.nilsl), (0, AVal.sref (0, 0) 0 4 (List.length a0)), (1, fn g1 k1)]) (fun (s : Int × Int × List TRect) => { nx := 1, rows := [(0, Ent.one { sz := 4, d := encTRect { : TRect }, l := List.map encTRect (Prod.snd (Prod.snd s)) : Row })] : Heap }) ?_ ?_
      ·
        refine wk_of [(0, some 0)] rfl ?_ ?_
        ·
          try simp only [go_sem]
          exact ⟨.same _ trivial, ⟨.same _ trivial, ⟨.same _ trivial, ⟨wkv_sref (rn_some rfl) rfl, .same _ (by simp only [go_sem]; assumption)⟩⟩⟩⟩
        ·
          try simp only [go_sem]
          exact wkR_typed (rn_some rfl) rfl rfl
      intro n4 s4 o4 h4 he4 hi4
      try simp only [go_sem]
      refine cut_l ?_
      try simp only [go_sem]
      refine ways_d (fun c5 => ?_) (fun c5 => ?_)
      ·
        replace h4 := if_p c5 h4
        obtain ⟨e6, h6, h4⟩ := of_bind h4
        refine cut_j ([(6, AVal.int IntKind.i64 (Prod.fst s4)), (5, AVal.int IntKind.i64 (Prod.fst e6)), (4, AVal.nilsl), (0, AVal.sref (0, 0) 0 4 (List.length a0)), (1, fn g1 k1)]) ({ nx := 1, rows := [(0, Ent.one { sz := 4, d := encTRect { : TRect }, l := List.map encTRect (Prod.snd e6) : Row })] : Heap }) ?_ ?_
        ·
          try simp only [go_sem]
          obtain ⟨⟨g7_0, g7_1⟩, h6⟩ := of_guard h6
          refine ob ⟨⟨by assumption, by assumption⟩, by assumption⟩ ?_
          obtain ⟨x8, hx8, h6⟩ := of_bind h6
          refine call_p false (hf1 _ _ hx8) ⟨wkE _, lend_self hk1⟩ nofun ?_
          try simp only [go_sem]
          refine cut_l ?_
          try simp only [go_sem]
          refine ways (fun c9 => ?_) (fun c9 => ?_)
          ·
            replace h6 := if_t c9 h6
            try simp only [Bool.and_eq_true, Bool.or_eq_true, Bool.not_eq_true', Bool.not_eq_false', Bool.and_eq_false_imp, Bool.or_eq_false_iff, decide_eq_true_eq, decide_eq_false_iff_not] at c9
            obtain ⟨⟨g10_0, g10_1, g10_2⟩, h6⟩ := of_guard h6
            refine ob ⟨⟨by assumption, by assumption⟩, by assumption⟩ ?_
            obtain ⟨⟨g11_0, g11_1⟩, h6⟩ := of_guard h6
            simp only [W64 g11_0 g11_1]
            obtain rfl := Option.some.inj h6
            refine wk_of [(0, some 0)] rfl ?_ ?_
            ·
              try simp only [go_sem]
              exact ⟨.same _ trivial, ⟨.same _ trivial, ⟨.same _ trivial, ⟨wkv_sref (rn_some rfl) rfl, .same _ (by simp only [go_sem]; assumption)⟩⟩⟩⟩
            ·
              try simp only [go_sem]
              exact wkR_typed (rn_some rfl) rfl rfl
          ·
            replace h6 := if_f c9 h6
            try simp only [Bool.and_eq_true, Bool.or_eq_true, Bool.not_eq_true', Bool.not_eq_false', Bool.and_eq_false_imp, Bool.or_eq_false_iff, decide_eq_true_eq, decide_eq_false_iff_not] at c9
            obtain rfl := Option.some.inj h6
            refine wk_of [(0, some 0)] rfl ?_ ?_
            ·
              try simp only [go_sem]
              exact ⟨.same _ trivial, ⟨.same _ trivial, ⟨.same _ trivial, ⟨wkv_sref (rn_some rfl) rfl, .same _ (by simp only [go_sem]; assumption)⟩⟩⟩⟩
            ·
              try simp only [go_sem]
              exact wkR_typed (rn_some rfl) rfl rfl
        try simp only [go_sem]
        obtain ⟨⟨g12_0, g12_1⟩, h4⟩ := of_guard h4
        simp only [W64 g12_0 g12_1]
        obtain rfl := Option.some.inj h4
        refine nextL (hi4 _ rfl) ?_
        refine wk_of [(0, some 0)] rfl ?_ ?_
        ·
          try simp only [go_sem]
          exact ⟨.same _ trivial, ⟨.same _ trivial, ⟨.same _ trivial, ⟨wkv_sref (rn_some rfl) rfl, .same _ (by simp only [go_sem]; assumption)⟩⟩⟩⟩
        ·
          try simp only [go_sem]
          exact wkR_typed (rn_some rfl) rfl rfl
      ·
        replace h4 := if_n c5 h4
        obtain rfl := Option.some.inj h4
        obtain rfl := he4 _ rfl
        refine wk_of [(0, some 0)] rfl ?_ ?_
        ·
          try simp only [go_sem]
          exact ⟨.same _ trivial, ⟨.same _ trivial, wkv_sref (rn_some rfl) rfl⟩⟩
        ·
          try simp only [go_sem]
          exact wkR_typed (rn_some rfl) rfl rfl
    try simp only [go_sem]
    obtain ⟨⟨g13_0, g13_1, g13_2⟩, h⟩ := of_guard h
    refine ob ⟨⟨by assumption, by assumption⟩, by assumption⟩ ?_
    refine ob ⟨by assumption, by assumption⟩ ?_
    refine ret_o ?_
    try simp only [go_sem]
    obtain ⟨g14, h⟩ := of_guard h
    obtain rfl := Option.some.inj h
    refine wkm [(0, some 0), (1, some 0)] rfl ?_ ?_
    ·
      exact wkv_sref (rn_some rfl) (by rw [List.length_take]; omega)
    ·
      try simp only [go_sem]
      exact wkR_take (rn_some rfl) rfl rfl
theorem c_shape_SetOf {a0 : (List TRect)} {r : (List TShapeBand)} (h : p_shape_SetOf a0 = some r)  : PCalls Try.prog 52 [encL 4 encTRect a0] (encL 3 encTShapeBand r) := by
  unfold p_shape_SetOf at h
  refine pcalls_of (ordOf [(20, [0, 10, 1, 2, 3, 4, 5, 6, 7, 8, 9, 11, 12])]) (prsOf [(20, [(1, 11), (2, 11), (4, 11), (5, 11), (6, 11), (9, 11), (78, 78)])]) Try.func52 (by unfold Try.f52; rfl) (by kernel_rfl) (by kernel_rfl) ?_
  simp only [awp_seq]
  simp only [argSlots]
  dsimp only [Try.f52]
  try simp only [go_sem]
  obtain ⟨x0, hx0, h⟩ := of_bind h
  refine call_r false [] (c_slices_Clone_Rect_o hx0) ⟨.same _ trivial, trivial⟩ (wkH_rho (by decide) rfl trivial) rfl (by simp) (by simp) nofun ?_
  try simp only [go_sem]
  obtain ⟨x1, hx1, h⟩ := of_bind h
  refine call_r false [0] (c_slices_SortFunc_Rect_o hx1 (by simp only [go_sem]) (fun _ _ _ h => c_shape_SetOf_1 h)) ⟨wkv_sref rfl rfl, wkv_same (by simp only [go_sem]) rfl, trivial⟩ (wkH_rho (by decide) rfl ⟨⟨by decide, wkR_typed rfl rfl rfl⟩, trivial⟩) rfl (by simp) (by simp) nofun ?_
  try simp only [go_sem]
  obtain ⟨e2, h2, h⟩ := of_bind h
  refine cut_j ([(3, AVal.ptr (1, 0) 1 0 0), (0, AVal.sref (0, 0) 0 4 (List.length x0)), (2, AVal.nilsl)]) ({ nx := 3, rows := [(2, Ent.one { sz := 1, d := AVal.int IntKind.i64 0, l := List.map encI e2 : Row }), (0, Ent.one { sz := 4, d := encTRect { : TRect }, l := List.map encTRect x1 : Row }), (1, Ent.one { sz := 1, d := AVal.nilsl, l := [AVal.sref (2, 0) 0 1 (List.length e2)] : Row })] : Heap }) ?_ ?_
  ·
    try simp only [go_sem]
    refine loop_w h2 (fun (s : Int × List Int) => [(16, AVal.int IntKind.i64 (Prod.fst s)), (15, AVal.int IntKind.i64 (↑(List.length x0) : Int)), (14, AVal.sref (0, 0) 0 4 (List.length x0)), (3, AVal.ptr (1, 0) 1 0 0), (0, AVal.sref (0, 0) 0 4 (List.length x0)), (2, AVal.nilsl)]) (fun (s : Int × List Int) => { nx := 3, rows := [(2, Ent.one { sz := 1, d := AVal.int IntKind.i64 0, l := List.map encI (Prod.snd s) : Row }), (0, Ent.one { sz := 4, d := encTRect { : TRect }, l := List.map encTRect x1 : Row }), (1, Ent.one { sz := 1, d := AVal.nilsl, l := [AVal.sref (2, 0) 0 1 (List.length (Prod.snd s))] : Row })] : Heap }) ?_ ?_
    ·
      refine wk_of [(0, some 0), (1, some 1), (2, none)] rfl ?_ ?_
      ·
        try simp only [go_sem]
        exact ⟨.same _ trivial, ⟨.same _ trivial, ⟨wkv_sref (rn_some rfl) rfl, ⟨.ptr _ _ _ _ _ (rn_some rfl), ⟨wkv_sref (rn_some rfl) rfl, .same _ trivial⟩⟩⟩⟩⟩
      ·
        try simp only [go_sem]
        exact ⟨wkR_nilT (rn_none rfl), ⟨wkR_typed (rn_some rfl) rfl rfl, wkR_box (rn_some rfl) rfl (wkv_nil (rn_none rfl) rfl)⟩⟩
    intro n3 s3 o3 h3 he3 hi3
    try simp only [go_sem]
    refine cut_l ?_
    try simp only [go_sem]
    refine ways_d (fun c4 => ?_) (fun c4 => ?_)
    ·
      replace h3 := if_p c4 h3
      refine cut_l ?_
      try simp only [go_sem]
      obtain ⟨⟨g5_0, g5_1⟩, h3⟩ := of_guard h3
      refine ob ⟨⟨by assumption, by assumption⟩, by assumption⟩ ?_
      obtain ⟨g6, h3⟩ := of_guard h3
      refine ob ⟨by omega, by assumption⟩ ?_
      obtain ⟨⟨g7_0, g7_1⟩, h3⟩ := of_guard h3
      simp only [W64 g7_0 g7_1]
      obtain ⟨g8, h3⟩ := of_guard h3
      obtain ⟨g9, h3⟩ := of_guard h3
      obtain rfl := Option.some.inj h3
      refine nextL (hi3 _ rfl) ?_
      refine wk_of [(0, some 0), (1, some 1), (2, some 6)] rfl ?_ ?_
      ·
        try simp only [go_sem]
        exact ⟨.same _ trivial, ⟨.same _ trivial, ⟨wkv_sref (rn_some rfl) rfl, ⟨.ptr _ _ _ _ _ (rn_some rfl), ⟨wkv_sref (rn_some rfl) rfl, .same _ trivial⟩⟩⟩⟩⟩
      ·
        try simp only [go_sem]
        exact ⟨wkR_typed (rn_some rfl) rfl rfl, ⟨wkR_typed (rn_some rfl) rfl rfl, wkR_box (rn_some rfl) rfl (wkv_sref (rn_some rfl) rfl)⟩⟩
    ·
      replace h3 := if_n c4 h3
      obtain ⟨g10, h3⟩ := of_guard h3
      obtain rfl := Option.some.inj h3
      obtain rfl := he3 _ rfl
      refine wk_of [(1, some 1), (0, some 0), (2, some 2)] rfl ?_ ?_
      ·
        try simp only [go_sem]
        exact ⟨.ptr _ _ _ _ _ (rn_some rfl), ⟨wkv_sref (rn_some rfl) rfl, .same _ trivial⟩⟩
      ·
        try simp only [go_sem]
        exact ⟨wkR_typed (rn_some rfl) rfl rfl, ⟨wkR_typed (rn_some rfl) rfl rfl, wkR_box (rn_some rfl) rfl (wkv_sref (rn_some rfl) rfl)⟩⟩
  try simp only [go_sem]
  obtain ⟨x11, hx11, h⟩ := of_bind h
  refine call_r false [2] (c_slices_Sort_int_o hx11) ⟨wkv_sref rfl rfl, trivial⟩ (wkH_rho (by decide) rfl ⟨⟨by decide, wkR_typed rfl rfl rfl⟩, trivial⟩) rfl (by simp) (by simp) nofun ?_
  try simp only [go_sem]
  obtain ⟨g12, h⟩ := of_guard h
  obtain ⟨x13, hx13, h⟩ := of_bind h
  refine call_r false [2] (c_slices_Compact_int_o hx13) ⟨wkv_sref rfl (Eq.symm (by assumption)), trivial⟩ (wkH_rho (by decide) rfl ⟨⟨by decide, wkR_typed rfl rfl rfl⟩, trivial⟩) rfl (by simp) (by simp) nofun ?_
  try simp only [go_sem]
  obtain ⟨e14, h14, h⟩ := of_bind h
  refine cut_j ([(6, encL 3 encTShapeBand e14), (2, AVal.nilsl)]) ({ nx := 7, rows := [] : Heap }) ?_ ?_
  ·
    try simp only [go_sem]
    refine loop_w h14 (fun (s : Int × List TRect × List TShapeBand × Int) => [(9, AVal.ptr (5, 0) 1 0 0), (8, AVal.int IntKind.i64 (Prod.fst s)), (7, AVal.sref (7, 0) 0 4 (List.length (Prod.fst (Prod.snd s)))), (6, AVal.sref (8, 0) 0 3 (List.length (Prod.fst (Prod.snd (Prod.snd s))))), (3, AVal.ptr (1, 0) 1 0 0), (0, AVal.sref (0, 0) 0 4 (List.length x0)), (2, AVal.nilsl)]) (fun (s : Int × List TRect × List TShapeBand × Int) => { nx := 9, rows := [(7, Ent.one { sz := 4, d := encTRect default, l := List.map encTRect (Prod.fst (Prod.snd s)) : Row }), (8, Ent.one { sz := 3, d := encTShapeBand default, l := List.map encTShapeBand (Prod.fst (Prod.snd (Prod.snd s))) : Row }), (5, Ent.one { sz := 1, d := AVal.int IntKind.i64 0, l := [AVal.int IntKind.i64 (Prod.snd (Prod.snd (Prod.snd s)))] : Row }), (3, Ent.one { sz := 1, d := AVal.int IntKind.i64 0, l := List.map encI x13 : Row }), (0, Ent.one { sz := 4, d := encTRect { : TRect }, l := List.map encTRect x1 : Row }), (1, Ent.one { sz := 1, d := AVal.nilsl, l := [AVal.sref (3, 0) 0 1 (List.length x13)] : Row })] : Heap }) ?_ ?_
    ·
      refine wk_of [(5, some 5), (7, none), (8, none), (1, some 1), (0, some 0), (3, some 3)] rfl ?_ ?_
      ·
        try simp only [go_sem]
        exact ⟨.ptr _ _ _ _ _ (rn_some rfl), ⟨.same _ trivial, ⟨wkv_nil (rn_none rfl) rfl, ⟨wkv_nil (rn_none rfl) rfl, ⟨.ptr _ _ _ _ _ (rn_some rfl), ⟨wkv_sref (rn_some rfl) rfl, .same _ trivial⟩⟩⟩⟩⟩⟩
      ·
        try simp only [go_sem]
        exact ⟨wkR_nilT (rn_none rfl), ⟨wkR_nilT (rn_none rfl), ⟨wkR_box (rn_some rfl) rfl (.same _ trivial), ⟨wkR_typed (rn_some rfl) rfl rfl, ⟨wkR_typed (rn_some rfl) rfl rfl, wkR_box (rn_some rfl) rfl (wkv_sref (rn_some rfl) rfl)⟩⟩⟩⟩⟩
    intro n15 s15 o15 h15 he15 hi15
    try simp only [go_sem]
    obtain ⟨⟨g16_0, g16_1⟩, h15⟩ := of_guard h15
    simp only [W64 g16_0 g16_1]
    refine cut_l ?_
    try simp only [go_sem]
    refine ways_d (fun c17 => ?_) (fun c17 => ?_)
    ·
      replace h15 := if_p c17 h15
      obtain ⟨e18, h18, h15⟩ := of_bind h15
      refine cut_j ([(9, AVal.ptr (5, 0) 1 0 0), (8, AVal.int IntKind.i64 (Prod.fst e18)), (7, AVal.sref (7, 0) 0 4 (List.length (Prod.fst (Prod.snd e18)))), (6, AVal.sref (8, 0) 0 3 (List.length (Prod.fst (Prod.snd (Prod.snd e18))))), (3, AVal.ptr (1, 0) 1 0 0), (0, AVal.sref (0, 0) 0 4 (List.length x0)), (2, AVal.nilsl)]) ({ nx := 9, rows := [(7, Ent.one { sz := 4, d := encTRect default, l := List.map encTRect (Prod.fst (Prod.snd e18)) : Row }), (8, Ent.one { sz := 3, d := encTShapeBand default, l := List.map encTShapeBand (Prod.fst (Prod.snd (Prod.snd e18))) : Row }), (5, Ent.one { sz := 1, d := AVal.int IntKind.i64 0, l := [AVal.int IntKind.i64 (Prod.snd (Prod.snd (Prod.snd e18)))] : Row }), (3, Ent.one { sz := 1, d := AVal.int IntKind.i64 0, l := List.map encI x13 : Row }), (0, Ent.one { sz := 4, d := encTRect { : TRect }, l := List.map encTRect x1 : Row }), (1, Ent.one { sz := 1, d := AVal.nilsl, l := [AVal.sref (3, 0) 0 1 (List.length x13)] : Row })] : Heap }) ?_ ?_
      ·
        try simp only [go_sem]
        obtain ⟨x19, hx19, h18⟩ := of_bind h18
        refine call_r true [7] (c_slices_DeleteFunc_Rect_o hx19 (by simp only [go_sem]) (fun _ _ h => c_shape_SetOf_2 h)) ⟨wkv_sref rfl rfl, wkv_fnA rfl ⟨wkv_box rfl (rho_none (by decide)) rfl (by simp only [go_sem]) (wkv_own rfl (rho_none (by decide)) rfl), wkv_box rfl (rho_none (by decide)) rfl (by simp only [go_sem]) (.same _ trivial), trivial⟩, trivial⟩ (wkH_rho (by decide) rfl ⟨⟨by decide, wkR_typed rfl rfl rfl⟩, trivial⟩) rfl (by simp) (by simp) (fun _ => free_rows (by simp only [go_sem]) (by simp only [go_sem])) ?_
        try simp only [go_sem]
        obtain ⟨e20, h20, h18⟩ := of_bind h18
        refine cut_j ([(7, AVal.sref (9, 0) 0 4 (List.length (Prod.snd e20))), (9, AVal.ptr (5, 0) 1 0 0), (8, AVal.int IntKind.i64 (Prod.fst e20)), (6, AVal.sref (8, 0) 0 3 (List.length (Prod.fst (Prod.snd (Prod.snd s15))))), (3, AVal.ptr (1, 0) 1 0 0), (0, AVal.sref (0, 0) 0 4 (List.length x0)), (2, AVal.nilsl)]) ({ nx := 10, rows := [(9, Ent.one { sz := 4, d := encTRect { : TRect }, l := List.map encTRect (Prod.snd e20) : Row }), (8, Ent.one { sz := 3, d := encTShapeBand default, l := List.map encTShapeBand (Prod.fst (Prod.snd (Prod.snd s15))) : Row }), (5, Ent.one { sz := 1, d := AVal.int IntKind.i64 0, l := [AVal.int IntKind.i64 (Prod.snd (Prod.snd (Prod.snd s15)))] : Row }), (3, Ent.one { sz := 1, d := AVal.int IntKind.i64 0, l := List.map encI x13 : Row }), (0, Ent.one { sz := 4, d := encTRect { : TRect }, l := List.map encTRect x1 : Row }), (1, Ent.one { sz := 1, d := AVal.nilsl, l := [AVal.sref (3, 0) 0 1 (List.length x13)] : Row })] : Heap }) ?_ ?_
        ·
          try simp only [go_sem]
          refine loop_w h20 (fun (s : Int × List TRect) => [(7, AVal.sref (9, 0) 0 4 (List.length (Prod.snd s))), (9, AVal.ptr (5, 0) 1 0 0), (8, AVal.int IntKind.i64 (Prod.fst s)), (6, AVal.sref (8, 0) 0 3 (List.length (Prod.fst (Prod.snd (Prod.snd s15))))), (3, AVal.ptr (1, 0) 1 0 0), (0, AVal.sref (0, 0) 0 4 (List.length x0)), (2, AVal.nilsl)]) (fun (s : Int × List TRect) => { nx := 10, rows := [(9, Ent.one { sz := 4, d := encTRect { : TRect }, l := List.map encTRect (Prod.snd s) : Row }), (8, Ent.one { sz := 3, d := encTShapeBand default, l := List.map encTShapeBand (Prod.fst (Prod.snd (Prod.snd s15))) : Row }), (5, Ent.one { sz := 1, d := AVal.int IntKind.i64 0, l := [AVal.int IntKind.i64 (Prod.snd (Prod.snd (Prod.snd s15)))] : Row }), (3, Ent.one { sz := 1, d := AVal.int IntKind.i64 0, l := List.map encI x13 : Row }), (0, Ent.one { sz := 4, d := encTRect { : TRect }, l := List.map encTRect x1 : Row }), (1, Ent.one { sz := 1, d := AVal.nilsl, l := [AVal.sref (3, 0) 0 1 (List.length x13)] : Row })] : Heap }) ?_ ?_
          ·
            refine wk_of [(9, some 9), (5, some 5), (8, some 8), (1, some 1), (0, some 0), (3, some 3)] rfl ?_ ?_
            ·
              try simp only [go_sem]
              exact ⟨wkv_sref (rn_some rfl) rfl, ⟨.ptr _ _ _ _ _ (rn_some rfl), ⟨.same _ trivial, ⟨wkv_sref (rn_some rfl) rfl, ⟨.ptr _ _ _ _ _ (rn_some rfl), ⟨wkv_sref (rn_some rfl) rfl, .same _ trivial⟩⟩⟩⟩⟩⟩
            ·
              try simp only [go_sem]
              exact ⟨wkR_typed (rn_some rfl) rfl rfl, ⟨wkR_typed (rn_some rfl) rfl rfl, ⟨wkR_box (rn_some rfl) rfl (.same _ trivial), ⟨wkR_typed (rn_some rfl) rfl rfl, ⟨wkR_typed (rn_some rfl) rfl rfl, wkR_box (rn_some rfl) rfl (wkv_sref (rn_some rfl) rfl)⟩⟩⟩⟩⟩
          intro n21 s21 o21 h21 he21 hi21
          try simp only [go_sem]
          obtain ⟨⟨g22_0, g22_1, g22_2, g22_3⟩, h21⟩ := of_guard h21
          refine ob ⟨⟨⟨by assumption, by assumption⟩, by assumption⟩, by assumption⟩ ?_
          refine cut_l ?_
          try simp only [go_sem]
          refine ways (fun c23 => ?_) (fun c23 => ?_)
          ·
            replace h21 := if_t c23 h21
            try simp only [Bool.and_eq_true, Bool.or_eq_true, Bool.not_eq_true', Bool.not_eq_false', Bool.and_eq_false_imp, Bool.or_eq_false_iff, decide_eq_true_eq, decide_eq_false_iff_not] at c23
            refine cut_l ?_
            try simp only [go_sem]
            obtain ⟨⟨g24_0, g24_1, g24_2⟩, h21⟩ := of_guard h21
            refine ob ⟨⟨⟨by assumption, by omega⟩, by assumption⟩, ⟨by omega, by assumption⟩⟩ ?_
            obtain ⟨⟨g25_0, g25_1⟩, h21⟩ := of_guard h21
            simp only [W64 g25_0 g25_1]
            obtain ⟨g26, h21⟩ := of_guard h21
            obtain rfl := Option.some.inj h21
            refine nextL (hi21 _ rfl) ?_
            refine wk_of [(9, some 10011), (5, some 5), (8, some 8), (1, some 1), (0, some 0), (3, some 3)] rfl ?_ ?_
            ·
              try simp only [go_sem]
              exact ⟨wkv_sref (rn_some rfl) rfl, ⟨.ptr _ _ _ _ _ (rn_some rfl), ⟨.same _ trivial, ⟨wkv_sref (rn_some rfl) rfl, ⟨.ptr _ _ _ _ _ (rn_some rfl), ⟨wkv_sref (rn_some rfl) rfl, .same _ trivial⟩⟩⟩⟩⟩⟩
            ·
              try simp only [go_sem]
              exact ⟨wkR_typed (rn_some rfl) rfl rfl, ⟨wkR_typed (rn_some rfl) rfl rfl, ⟨wkR_box (rn_some rfl) rfl (.same _ trivial), ⟨wkR_typed (rn_some rfl) rfl rfl, ⟨wkR_typed (rn_some rfl) rfl rfl, wkR_box (rn_some rfl) rfl (wkv_sref (rn_some rfl) rfl)⟩⟩⟩⟩⟩
          ·
            replace h21 := if_f c23 h21
            try simp only [Bool.and_eq_true, Bool.or_eq_true, Bool.not_eq_true', Bool.not_eq_false', Bool.and_eq_false_imp, Bool.or_eq_false_iff, decide_eq_true_eq, decide_eq_false_iff_not] at c23
            obtain ⟨g27, h21⟩ := of_guard h21
            obtain rfl := Option.some.inj h21
            obtain rfl := he21 _ rfl
            refine wk_of [(9, some 9), (5, some 5), (8, some 8), (1, some 1), (0, some 0), (3, some 3)] rfl ?_ ?_
            ·
              try simp only [go_sem]
              exact ⟨wkv_sref (rn_some rfl) rfl, ⟨.ptr _ _ _ _ _ (rn_some rfl), ⟨.same _ trivial, ⟨wkv_sref (rn_some rfl) rfl, ⟨.ptr _ _ _ _ _ (rn_some rfl), ⟨wkv_sref (rn_some rfl) rfl, .same _ trivial⟩⟩⟩⟩⟩⟩
            ·
              try simp only [go_sem]
              exact ⟨wkR_typed (rn_some rfl) rfl rfl, ⟨wkR_typed (rn_some rfl) rfl rfl, ⟨wkR_box (rn_some rfl) rfl (.same _ trivial), ⟨wkR_typed (rn_some rfl) rfl rfl, ⟨wkR_typed (rn_some rfl) rfl rfl, wkR_box (rn_some rfl) rfl (wkv_sref (rn_some rfl) rfl)⟩⟩⟩⟩⟩
        try simp only [go_sem]
        simp only [W64 (n := Prod.snd (Prod.snd (Prod.snd s15)) + 1) (by omega) (by omega)]
        obtain ⟨⟨g28_0, g28_1, g28_2, g28_3⟩, h18⟩ := of_guard h18
        refine ob ⟨⟨⟨⟨by assumption, by omega⟩, by assumption⟩, ⟨by assumption, by assumption⟩⟩, by assumption⟩ ?_
        obtain ⟨x29, hx29, h18⟩ := of_bind h18
        refine rcall_r false [9] (c_shape_stretches_o hx29) ⟨wkv_sref rfl rfl, trivial⟩ (wkH_rho (by decide) rfl ⟨⟨by decide, wkR_typed rfl rfl rfl⟩, trivial⟩) rfl (by decide) (by simp [argNames, namesA]) (by rfl) nofun ?_
        try simp only [go_sem]
        refine ob ⟨by omega, by omega⟩ ?_
        refine ob ⟨by omega, by omega⟩ ?_
        refine ob ⟨by omega, by omega⟩ ?_
        refine ob ⟨by omega, by omega⟩ ?_
        refine ob ⟨by omega, by omega⟩ ?_
        refine ob ⟨by omega, by omega⟩ ?_
        obtain ⟨x30, hx30, h18⟩ := of_bind h18
        refine call_r false [8] (c_shape_Set_push_o hx30) ⟨wkv_sref rfl rfl, wkE _, trivial⟩ (wkH_rho (by decide) rfl ⟨⟨by decide, wkR_typed rfl rfl rfl⟩, trivial⟩) rfl (by simp) (by simp) nofun ?_
        try simp only [go_sem]
        obtain ⟨g31, h18⟩ := of_guard h18
        obtain ⟨g32, h18⟩ := of_guard h18
        obtain rfl := Option.some.inj h18
        refine wk_of [(5, some 5), (7, some 9), (8, some 10010), (1, some 1), (0, some 0), (3, some 3)] rfl ?_ ?_
        ·
          try simp only [go_sem]
          exact ⟨.ptr _ _ _ _ _ (rn_some rfl), ⟨.same _ trivial, ⟨wkv_sref (rn_some rfl) (Eq.symm (by assumption)), ⟨wkv_sref (rn_some rfl) rfl, ⟨.ptr _ _ _ _ _ (rn_some rfl), ⟨wkv_sref (rn_some rfl) rfl, .same _ trivial⟩⟩⟩⟩⟩⟩
        ·
          try simp only [go_sem]
          exact ⟨wkR_typed (rn_some rfl) rfl rfl, ⟨wkR_typed (rn_some rfl) rfl rfl, ⟨wkR_box (rn_some rfl) rfl (.same _ trivial), ⟨wkR_typed (rn_some rfl) rfl rfl, ⟨wkR_typed (rn_some rfl) rfl rfl, wkR_box (rn_some rfl) rfl (wkv_sref (rn_some rfl) rfl)⟩⟩⟩⟩⟩
      try simp only [go_sem]
      obtain ⟨⟨g33_0, g33_1⟩, h15⟩ := of_guard h15
      simp only [W64 g33_0 g33_1]
      obtain ⟨g34, h15⟩ := of_guard h15
      obtain rfl := Option.some.inj h15
      refine nextL (hi15 _ rfl) ?_
      refine wk_of [(5, some 9), (7, some 7), (8, some 8), (1, some 1), (0, some 0), (3, some 3)] rfl ?_ ?_
      ·
        try simp only [go_sem]
        exact ⟨.ptr _ _ _ _ _ (rn_some rfl), ⟨.same _ trivial, ⟨wkv_sref (rn_some rfl) rfl, ⟨wkv_sref (rn_some rfl) rfl, ⟨.ptr _ _ _ _ _ (rn_some rfl), ⟨wkv_sref (rn_some rfl) rfl, .same _ trivial⟩⟩⟩⟩⟩⟩
      ·
        try simp only [go_sem]
        exact ⟨wkR_typed (rn_some rfl) rfl rfl, ⟨wkR_typed (rn_some rfl) rfl rfl, ⟨wkR_box (rn_some rfl) rfl (.same _ trivial), ⟨wkR_typed (rn_some rfl) rfl rfl, ⟨wkR_typed (rn_some rfl) rfl rfl, wkR_box (rn_some rfl) rfl (wkv_sref (rn_some rfl) rfl)⟩⟩⟩⟩⟩
    ·
      replace h15 := if_n c17 h15
      obtain rfl := Option.some.inj h15
      obtain rfl := he15 _ rfl
      refine wk_of [] rfl ?_ ?_
      ·
        try simp only [go_sem]
        exact ⟨wkv_own rfl (rn_notTo rfl) rfl, .same _ trivial⟩
      ·
        try simp only [go_sem]
  try simp only [go_sem]
  obtain rfl := Option.some.inj h
  exact .same _ trivial
theorem c_shape_isRect {a0 : TRect} {r : Bool} (h : p_shape_isRect a0 = some r)  : PCalls Try.prog 56 [encTRect a0] (.bool r) := by
  unfold p_shape_isRect at h
  refine pcalls_of (fun _ => none) (fun _ => []) Try.func56 (by unfold Try.f56; rfl) (by kernel_rfl) (by kernel_rfl) ?_
  simp only [awp_seq]
  simp only [argSlots]
  dsimp only [Try.f56]
  try simp only [go_sem]
  obtain ⟨x0, hx0, h⟩ := of_bind h
  refine call_p false (c_shape_IsAt hx0) ⟨.same _ trivial, trivial⟩ nofun ?_
  try simp only [go_sem]
  obtain ⟨x1, hx1, h⟩ := of_bind h
  refine qcall_p false (fun hg => c_shape_IsAt (if_t hg hx1)) (fun _ => ⟨.same _ trivial, trivial⟩) nofun ?_
  try simp only [go_sem]
  obtain ⟨x2, hx2, h⟩ := of_bind h
  refine qcall_p false (fun hg => c_shape_IsAt (if_t hg hx2)) (fun _ => ⟨.same _ trivial, trivial⟩) nofun ?_
  try simp only [go_sem]
  obtain ⟨x3, hx3, h⟩ := of_bind h
  refine qcall_p false (fun hg => c_shape_IsAt (if_t hg hx3)) (fun _ => ⟨.same _ trivial, trivial⟩) nofun ?_
  try simp only [go_sem]
  obtain rfl := Option.some.inj h
  exact .same _ trivial
theorem c_shape_CheckRects {a0 : (List TRect)} {r : Int} (h : p_shape_CheckRects a0 = some r)  : PCalls Try.prog 16 [encL 4 encTRect a0] (.int .i64 r) := by
  unfold p_shape_CheckRects at h
  refine pcalls_of (fun _ => none) (fun _ => []) Try.func16 (by unfold Try.f16; rfl) (by kernel_rfl) (by kernel_rfl) ?_
  simp only [awp_seq]
  simp only [argSlots]
  dsimp only [Try.f16]
  try simp only [go_sem]
  refine cut_l ?_
  try simp only [go_sem]
  refine ways_d (fun c0 => ?_) (fun c0 => ?_)
  ·
    replace h := if_p c0 h
    obtain rfl := Option.some.inj h
    exact .same _ trivial
  ·
    replace h := if_n c0 h
    obtain ⟨z1, h1, h⟩ := of_bind h
    refine cut_z z1 (fun (s : Int) => [(2, AVal.int IntKind.i64 s)]) (fun (s : Int) => { nx := 0, rows := [] : Heap }) ?_ (fun e1 hz1 => ?_)
    ·
      try simp only [go_sem]
      refine loop_w h1 (fun (s : Int × Int) => [(10, AVal.int IntKind.i64 (Prod.fst s)), (9, AVal.int IntKind.i64 (↑(List.length a0) : Int)), (8, encL 4 encTRect a0), (2, AVal.int IntKind.i64 (Prod.snd s))]) (fun (s : Int × Int) => { nx := 0, rows := [] : Heap }) ?_ ?_
      ·
        refine wk_of [] rfl ?_ ?_
        ·
          try simp only [go_sem]
          exact ⟨.same _ trivial, ⟨.same _ trivial, ⟨.same _ trivial, .same _ trivial⟩⟩⟩
        ·
          try simp only [go_sem]
      intro n2 s2 o2 h2 he2 hi2
      try simp only [go_sem]
      refine cut_l ?_
      try simp only [go_sem]
      refine ways_d (fun c3 => ?_) (fun c3 => ?_)
      ·
        replace h2 := if_p c3 h2
        refine cut_l ?_
        try simp only [go_sem]
        obtain ⟨g4, h2⟩ := of_guard h2
        refine ob ⟨by assumption, by assumption⟩ ?_
        obtain ⟨x5, hx5, h2⟩ := of_bind h2
        refine call_p false (c_shape_isRect hx5) ⟨wkE _, trivial⟩ nofun ?_
        try simp only [go_sem]
        refine cut_l ?_
        try simp only [go_sem]
        refine ways (fun c6 => ?_) (fun c6 => ?_)
        ·
          replace h2 := if_t c6 h2
          try simp only [Bool.and_eq_true, Bool.or_eq_true, Bool.not_eq_true', Bool.not_eq_false', Bool.and_eq_false_imp, Bool.or_eq_false_iff, decide_eq_true_eq, decide_eq_false_iff_not] at c6
          obtain rfl := Option.some.inj h2
          obtain rfl := he2 _ rfl
          obtain rfl := Option.some.inj h
          exact .same _ trivial
        ·
          replace h2 := if_f c6 h2
          try simp only [Bool.and_eq_true, Bool.or_eq_true, Bool.not_eq_true', Bool.not_eq_false', Bool.and_eq_false_imp, Bool.or_eq_false_iff, decide_eq_true_eq, decide_eq_false_iff_not] at c6
          refine ob (by simp) ?_
          refine cut_l ?_
          try simp only [go_sem]
          refine ways (fun c7 => ?_) (fun c7 => ?_)
          ·
            replace h2 := if_t c7 h2
            try simp only [Bool.and_eq_true, Bool.or_eq_true, Bool.not_eq_true', Bool.not_eq_false', Bool.and_eq_false_imp, Bool.or_eq_false_iff, decide_eq_true_eq, decide_eq_false_iff_not] at c7
            obtain rfl := Option.some.inj h2
            obtain rfl := he2 _ rfl
            obtain rfl := Option.some.inj h
            exact .same _ trivial
          ·
            replace h2 := if_f c7 h2
            try simp only [Bool.and_eq_true, Bool.or_eq_true, Bool.not_eq_true', Bool.not_eq_false', Bool.and_eq_false_imp, Bool.or_eq_false_iff, decide_eq_true_eq, decide_eq_false_iff_not] at c7
            simp only [W64 (n := Prod.fst s2 + 1) (by omega) (by omega)]
            obtain rfl := Option.some.inj h2
            refine nextL (hi2 _ rfl) ?_
            refine wk_of [] rfl ?_ ?_
            ·
              try simp only [go_sem]
              exact ⟨.same _ trivial, ⟨.same _ trivial, ⟨.same _ trivial, .same _ trivial⟩⟩⟩
            ·
              try simp only [go_sem]
      ·
        replace h2 := if_n c3 h2
        obtain rfl := Option.some.inj h2
        obtain rfl := he2 _ rfl
        refine zend ?_
        refine wk_of [] rfl ?_ ?_
        ·
          try simp only [go_sem]
          exact .same _ trivial
        ·
          try simp only [go_sem]
    subst hz1
    simp only [Sum.elim_inr] at h
    try simp only [go_sem]
    obtain rfl := Option.some.inj h
    exact .same _ trivial
theorem c_shape_CheckRegion {a0 : (List TRect)} {r : Int} (h : p_shape_CheckRegion a0 = some r)  : PCalls Try.prog 18 [encL 4 encTRect a0] (.int .i64 r) := by
  unfold p_shape_CheckRegion at h
  refine pcalls_of (ordOf [(7, [0, 1, 2, 3, 5, 6, 7, 4, 8, 9, 10, 11, 12])]) (prsOf [(7, [(8, 11)])]) Try.func18 (by unfold Try.f18; rfl) (by kernel_rfl) (by kernel_rfl) ?_
  simp only [awp_seq]
  simp only [argSlots]
  dsimp only [Try.f18]
  try simp only [go_sem]
  obtain ⟨x0, hx0, h⟩ := of_bind h
  refine call_p false (c_shape_CheckRects hx0) ⟨.same _ trivial, trivial⟩ nofun ?_
  try simp only [go_sem]
  refine cut_l ?_
  try simp only [go_sem]
  refine ways_n (fun c1 => ?_) (fun c1 => ?_)
  ·
    replace h := if_n c1 h
    obtain rfl := Option.some.inj h
    exact .same _ trivial
  ·
    replace h := if_p c1 h
    obtain ⟨z2, h2, h⟩ := of_bind h
    refine cut_z z2 (fun (s : Int) => [(2, AVal.int IntKind.i64 s), (0, encL 4 encTRect a0)]) (fun (s : Int) => { nx := 0, rows := [] : Heap }) ?_ (fun e2 hz2 => ?_)
    ·
      try simp only [go_sem]
      refine loop_w h2 (fun (s : Int × Int) => [(4, AVal.int IntKind.i64 (Prod.fst s)), (2, AVal.int IntKind.i64 (Prod.snd s)), (0, encL 4 encTRect a0)]) (fun (s : Int × Int) => { nx := 0, rows := [] : Heap }) ?_ ?_
      ·
        refine wk_of [] rfl ?_ ?_
        ·
          try simp only [go_sem]
          exact ⟨.same _ trivial, ⟨.same _ trivial, .same _ trivial⟩⟩
        ·
          try simp only [go_sem]
      intro n3 s3 o3 h3 he3 hi3
      try simp only [go_sem]
      refine cut_l ?_
      try simp only [go_sem]
      refine ways_d (fun c4 => ?_) (fun c4 => ?_)
      ·
        replace h3 := if_p c4 h3
        refine cut_l ?_
        try simp only [go_sem]
        obtain ⟨⟨g5_0, g5_1⟩, h3⟩ := of_guard h3
        simp only [W64 g5_0 g5_1]
        obtain ⟨⟨g6_0, g6_1⟩, h3⟩ := of_guard h3
        refine ob ⟨⟨by assumption, by omega⟩, ⟨by assumption, by assumption⟩⟩ ?_
        refine ob ⟨by intro h1 h2; simp only [h1, h2, Bool.and_self, Bool.not_true, Bool.not_false, Bool.and_true, Bool.true_and], by simp⟩ ?_
        refine cut_l ?_
        try simp only [go_sem]
        refine ways (fun c7 => ?_) (fun c7 => ?_)
        ·
          replace h3 := if_t c7 h3
          try simp only [Bool.and_eq_true, Bool.or_eq_true, Bool.not_eq_true', Bool.not_eq_false', Bool.and_eq_false_imp, Bool.or_eq_false_iff, decide_eq_true_eq, decide_eq_false_iff_not] at c7
          obtain rfl := Option.some.inj h3
          obtain rfl := he3 _ rfl
          obtain rfl := Option.some.inj h
          exact .same _ trivial
        ·
          replace h3 := if_f c7 h3
          try simp only [Bool.and_eq_true, Bool.or_eq_true, Bool.not_eq_true', Bool.not_eq_false', Bool.and_eq_false_imp, Bool.or_eq_false_iff, decide_eq_true_eq, decide_eq_false_iff_not] at c7
          obtain ⟨⟨g8_0, g8_1⟩, h3⟩ := of_guard h3
          simp only [W64 g8_0 g8_1]
          obtain rfl := Option.some.inj h3
          refine nextL (hi3 _ rfl) ?_
          refine wk_of [] rfl ?_ ?_
          ·
            try simp only [go_sem]
            exact ⟨.same _ trivial, ⟨.same _ trivial, .same _ trivial⟩⟩
          ·
            try simp only [go_sem]
      ·
        replace h3 := if_n c4 h3
        obtain rfl := Option.some.inj h3
        obtain rfl := he3 _ rfl
        refine zend ?_
        refine wk_of [] rfl ?_ ?_
        ·
          try simp only [go_sem]
          exact ⟨.same _ trivial, .same _ trivial⟩
        ·
          try simp only [go_sem]
    subst hz2
    simp only [Sum.elim_inr] at h
    try simp only [go_sem]
    obtain ⟨x9, hx9, h⟩ := of_bind h
    refine call_p false (c_shape_SetOf hx9) ⟨.same _ trivial, trivial⟩ nofun ?_
    obtain ⟨x10, hx10, h⟩ := of_bind h
    refine call_p false (c_shape_Set_Rects hx10) ⟨.same _ trivial, trivial⟩ nofun ?_
    obtain ⟨x11, hx11, h⟩ := of_bind h
    refine call_p false (c_slices_Equal_Rect hx11) ⟨.same _ trivial, .same _ trivial, trivial⟩ nofun ?_
    try simp only [go_sem]
    refine cut_l ?_
    try simp only [go_sem]
    refine ways (fun c12 => ?_) (fun c12 => ?_)
    ·
      replace h := if_t c12 h
      try simp only [Bool.and_eq_true, Bool.or_eq_true, Bool.not_eq_true', Bool.not_eq_false', Bool.and_eq_false_imp, Bool.or_eq_false_iff, decide_eq_true_eq, decide_eq_false_iff_not] at c12
      obtain rfl := Option.some.inj h
      exact .same _ trivial
    ·
      replace h := if_f c12 h
      try simp only [Bool.and_eq_true, Bool.or_eq_true, Bool.not_eq_true', Bool.not_eq_false', Bool.and_eq_false_imp, Bool.or_eq_false_iff, decide_eq_true_eq, decide_eq_false_iff_not] at c12
      obtain rfl := Option.some.inj h
      exact .same _ trivial
theorem c_shape_Region {a0 : (List TRect)} {r : (List TRect) × Int} (h : p_shape_Region a0 = some r)  : PCalls Try.prog 14 [encL 4 encTRect a0] (tup [encL 4 encTRect r.1, .int .i64 r.2]) := by
  unfold p_shape_Region at h
  refine pcalls_of (fun _ => none) (fun _ => []) Try.func14 (by unfold Try.f14; rfl) (by kernel_rfl) (by kernel_rfl) ?_
  simp only [awp_seq]
  simp only [argSlots]
  dsimp only [Try.f14]
  try simp only [go_sem]
  obtain ⟨x0, hx0, h⟩ := of_bind h
  refine call_p false (c_shape_CheckRects hx0) ⟨.same _ trivial, trivial⟩ nofun ?_
  try simp only [go_sem]
  refine cut_l ?_
  try simp only [go_sem]
  refine ways_n (fun c1 => ?_) (fun c1 => ?_)
  ·
    replace h := if_n c1 h
    obtain rfl := Option.some.inj h
    exact wkv_tup ⟨wkv_nilL, .same _ trivial, trivial⟩
  ·
    replace h := if_p c1 h
    obtain ⟨x2, hx2, h⟩ := of_bind h
    refine call_p false (c_shape_SetOf hx2) ⟨.same _ trivial, trivial⟩ nofun ?_
    obtain ⟨x3, hx3, h⟩ := of_bind h
    refine call_p false (c_shape_Set_Told hx3) ⟨.same _ trivial, trivial⟩ nofun ?_
    try simp only [go_sem]
    obtain rfl := Option.some.inj h
    exact wkv_same (by simp only [go_sem]) rfl
theorem c_shape_Area {a0 : (List TRect)} {r : Int × Int} (h : p_shape_Area a0 = some r)  : PCalls Try.prog 49 [encL 4 encTRect a0] (tup [.int .i64 r.1, .int .i64 r.2]) := by
  unfold p_shape_Area at h
  refine pcalls_of (fun _ => none) (fun _ => []) Try.func49 (by unfold Try.f49; rfl) (by kernel_rfl) (by kernel_rfl) ?_
  simp only [awp_seq]
  simp only [argSlots]
  dsimp only [Try.f49]
  try simp only [go_sem]
  obtain ⟨x0, hx0, h⟩ := of_bind h
  refine call_p false (c_shape_CheckRegion hx0) ⟨.same _ trivial, trivial⟩ nofun ?_
  try simp only [go_sem]
  refine cut_l ?_
  try simp only [go_sem]
  refine ways_n (fun c1 => ?_) (fun c1 => ?_)
  ·
    replace h := if_n c1 h
    obtain rfl := Option.some.inj h
    exact wkv_same (by simp only [go_sem]) rfl
  ·
    replace h := if_p c1 h
    obtain ⟨x2, hx2, h⟩ := of_bind h
    refine call_p false (c_shape_AreaOf hx2) ⟨.same _ trivial, trivial⟩ nofun ?_
    obtain rfl := Option.some.inj h
    exact wkv_same (by simp only [go_sem]) rfl
theorem c_law1_awake {r : Bool} (h : p_law1_awake  = some r)  : PCalls Try.prog 21 [] (.bool r) := by
  unfold p_law1_awake at h
  refine pcalls_of (fun _ => none) (fun _ => []) Try.func21 (by unfold Try.f21; rfl) (by kernel_rfl) (by kernel_rfl) ?_
  simp only [awp_seq]
  simp only [argSlots]
  dsimp only [Try.f21]
  try simp only [go_sem]
  obtain ⟨x0, hx0, h⟩ := of_bind h
  refine call_p true (c_shape_Area hx0) ⟨wkv_own rfl (R0_ne _) rfl, trivial⟩ (fun _ => by simp only [go_sem]) ?_
  try simp only [go_sem]
  obtain rfl := Option.some.inj h
  exact .same _ trivial
theorem c_law1_RegionsAreCanonical {a0 : (List TRect)} {r : Bool} (h : p_law1_RegionsAreCanonical a0 = some r)  : PCalls Try.prog 4 [encL 4 encTRect a0] (.bool r) := by
  unfold p_law1_RegionsAreCanonical at h
  refine pcalls_of (fun _ => none) (fun _ => []) Try.func4 (by unfold Try.f4; rfl) (by kernel_rfl) (by kernel_rfl) ?_
  simp only [awp_seq]
  simp only [argSlots]
  dsimp only [Try.f4]
  try simp only [go_sem]
  obtain ⟨x0, hx0, h⟩ := of_bind h
  refine call_p false (c_shape_Region hx0) ⟨.same _ trivial, trivial⟩ nofun ?_
  try simp only [go_sem]
  refine cut_l ?_
  try simp only [go_sem]
  refine ways_n (fun c1 => ?_) (fun c1 => ?_)
  ·
    replace h := if_n c1 h
    obtain ⟨x2, hx2, h⟩ := of_bind h
    refine qcall_p false (fun hg => c_law1_awake (if_t hg hx2)) (fun _ => trivial) nofun ?_
    try simp only [go_sem]
    obtain rfl := Option.some.inj h
    exact .same _ trivial
  ·
    replace h := if_p c1 h
    obtain ⟨x3, hx3, h⟩ := of_bind h
    refine call_r false [] (c_slices_Clone_Rect_o hx3) ⟨.same _ trivial, trivial⟩ (wkH_rho (by decide) rfl trivial) rfl (by simp) (by simp) nofun ?_
    try simp only [go_sem]
    obtain ⟨x4, hx4, h⟩ := of_bind h
    refine call_r false [0] (c_slices_Reverse_Rect_o hx4) ⟨wkv_sref rfl rfl, trivial⟩ (wkH_rho (by decide) rfl ⟨⟨by decide, wkR_typed rfl rfl rfl⟩, trivial⟩) rfl (by simp) (by simp) nofun ?_
    try simp only [go_sem]
    obtain ⟨g5, h⟩ := of_guard h
    obtain ⟨x6, hx6, h⟩ := of_bind h
    refine call_z (c_shape_Region hx6) ⟨wkv_part rfl (R0_ne _) (by omega), trivial⟩ ?_
    try simp only [go_sem]
    obtain ⟨x7, hx7, h⟩ := of_bind h
    refine call_p false (c_shape_Region hx7) ⟨.same _ trivial, trivial⟩ nofun ?_
    try simp only [go_sem]
    obtain ⟨x8, hx8, h⟩ := of_bind h
    refine qcall_p false (fun hg => c_slices_Equal_Rect (if_t hg hx8)) (fun _ => ⟨.same _ trivial, .same _ trivial, trivial⟩) nofun ?_
    try simp only [go_sem]
    obtain ⟨x9, hx9, h⟩ := of_bind h
    refine qcall_p false (fun hg => c_slices_Equal_Rect (if_t hg hx9)) (fun _ => ⟨.same _ trivial, .same _ trivial, trivial⟩) nofun ?_
    try simp only [go_sem]
    obtain ⟨x10, hx10, h⟩ := of_bind h
    refine qcall_p false (fun hg => c_shape_CheckRegion (if_t hg hx10)) (fun _ => ⟨.same _ trivial, trivial⟩) nofun ?_
    try simp only [go_sem]
    obtain ⟨x11, hx11, h⟩ := of_bind h
    refine qcall_p false (fun hg => c_law1_awake (if_t hg hx11)) (fun _ => trivial) nofun ?_
    try simp only [go_sem]
    obtain rfl := Option.some.inj h
    exact .same _ trivial
end Go.Nw
