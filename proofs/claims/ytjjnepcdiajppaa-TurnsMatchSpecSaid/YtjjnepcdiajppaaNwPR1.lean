/- The walks of the functions. -/
import Derived.Test.YtjjnepcdiajppaaNwSortF
import Derived.Test.YtjjnepcdiajppaaNwDR
import Derived.Test.YtjjnepcdiajppaaNwPR0
set_option linter.unusedVariables false
set_option linter.unusedSimpArgs false
set_option maxRecDepth 100000
namespace Go.Nw
open Go.Proofs
theorem c_ref1_Back {a0 : TTurn} {r : TTurn × Int} (h : p_ref1_Back a0 = some r)  : PCalls Try.prog 35 [encTTurn a0] (tup [encTTurn r.1, .int .i64 r.2]) := by
  unfold p_ref1_Back at h
  refine pcalls_of (fun _ => none) (fun _ => []) Try.func35 (by unfold Try.f35; rfl) (by kernel_rfl) (by kernel_rfl) ?_
  simp only [awp_seq]
  simp only [argSlots]
  dsimp only [Try.f35]
  try simp only [go_sem]
  obtain ⟨x0, hx0, h⟩ := of_bind h
  refine call_p false (c_ref1_CheckTurn hx0) ⟨wkE _, trivial⟩ nofun ?_
  try simp only [go_sem]
  refine cut_l ?_
  try simp only [go_sem]
  refine ways_n (fun c1 => ?_) (fun c1 => ?_)
  ·
    replace h := if_n c1 h
    obtain rfl := Option.some.inj h
    exact wkv_same (by simp only [go_sem]) rfl
  ·
    replace h := if_p c1 h
    refine ob (by omega) ?_
    obtain ⟨⟨g2_0, g2_1⟩, h⟩ := of_guard h
    simp only [W64 g2_0 g2_1]
    obtain ⟨e3, h3, h⟩ := of_bind h
    refine cut_j ([(5, AVal.ptr (2, 0) 4 0 0), (3, AVal.int IntKind.i64 0), (2, AVal.ptr (1, 0) 4 0 0), (1, AVal.ptr (0, 0) 4 0 0)]) ({ nx := 4, rows := [(2, Ent.one { sz := 4, d := encTTurn { : TTurn }, l := [encTTurn e3] : Row }), (1, Ent.one { sz := 4, d := encTTurn { : TTurn }, l := [encTTurn { : TTurn }] : Row }), (0, Ent.one { sz := 4, d := encTTurn a0, l := [encTTurn a0] : Row })] : Heap }) ?_ ?_
    ·
      try simp only [go_sem]
      refine ways (fun c4 => ?_) (fun c4 => ?_)
      ·
        replace h3 := if_t c4 h3
        try simp only [Bool.and_eq_true, Bool.or_eq_true, Bool.not_eq_true', Bool.not_eq_false', Bool.and_eq_false_imp, Bool.or_eq_false_iff, decide_eq_true_eq, decide_eq_false_iff_not] at c4
        obtain rfl := Option.some.inj h3
        refine wk_of [(2, some 2), (1, some 1), (0, some 0)] rfl ?_ ?_
        ·
          try simp only [go_sem]
          exact ⟨.ptr _ _ _ _ _ (rn_some rfl), ⟨.same _ trivial, ⟨.ptr _ _ _ _ _ (rn_some rfl), .ptr _ _ _ _ _ (rn_some rfl)⟩⟩⟩
        ·
          try simp only [go_sem]
          exact ⟨wkR_box (rn_some rfl) rfl (wkE _), ⟨wkR_box (rn_some rfl) rfl (wkE _), wkR_box (rn_some rfl) rfl (wkE _)⟩⟩
      ·
        replace h3 := if_f c4 h3
        try simp only [Bool.and_eq_true, Bool.or_eq_true, Bool.not_eq_true', Bool.not_eq_false', Bool.and_eq_false_imp, Bool.or_eq_false_iff, decide_eq_true_eq, decide_eq_false_iff_not] at c4
        obtain rfl := Option.some.inj h3
        refine wk_of [(2, some 2), (1, some 1), (0, some 0)] rfl ?_ ?_
        ·
          try simp only [go_sem]
          exact ⟨.ptr _ _ _ _ _ (rn_some rfl), ⟨.same _ trivial, ⟨.ptr _ _ _ _ _ (rn_some rfl), .ptr _ _ _ _ _ (rn_some rfl)⟩⟩⟩
        ·
          try simp only [go_sem]
          exact ⟨wkR_box (rn_some rfl) rfl (wkE _), ⟨wkR_box (rn_some rfl) rfl (wkE _), wkR_box (rn_some rfl) rfl (wkE _)⟩⟩
    try simp only [go_sem]
    obtain ⟨x5, hx5, h⟩ := of_bind h
    refine call_p false (c_ref1_around hx5) ⟨wkE _, wkE _, trivial⟩ nofun ?_
    try simp only [go_sem]
    obtain ⟨⟨g6_0, g6_1⟩, h⟩ := of_guard h
    simp only [W64 g6_0 g6_1]
    obtain ⟨⟨g7_0, g7_1⟩, h⟩ := of_guard h
    simp only [W64 g7_0 g7_1]
    obtain rfl := Option.some.inj h
    exact wkv_same (by simp only [go_sem]) rfl
theorem c_ref1_Then {a0 : TTurn} {a1 : TTurn} {r : TTurn × Int} (h : p_ref1_Then a0 a1 = some r)  : PCalls Try.prog 33 [encTTurn a0, encTTurn a1] (tup [encTTurn r.1, .int .i64 r.2]) := by
  unfold p_ref1_Then at h
  refine pcalls_of (fun _ => none) (fun _ => []) Try.func33 (by unfold Try.f33; rfl) (by kernel_rfl) (by kernel_rfl) ?_
  simp only [awp_seq]
  simp only [argSlots]
  dsimp only [Try.f33]
  try simp only [go_sem]
  obtain ⟨x0, hx0, h⟩ := of_bind h
  refine call_p false (c_ref1_CheckTurn hx0) ⟨wkE _, trivial⟩ nofun ?_
  try simp only [go_sem]
  refine cut_l ?_
  try simp only [go_sem]
  refine ways_n (fun c1 => ?_) (fun c1 => ?_)
  ·
    replace h := if_n c1 h
    obtain rfl := Option.some.inj h
    exact wkv_same (by simp only [go_sem]) rfl
  ·
    replace h := if_p c1 h
    obtain ⟨x2, hx2, h⟩ := of_bind h
    refine call_p false (c_ref1_CheckTurn hx2) ⟨wkE _, trivial⟩ nofun ?_
    try simp only [go_sem]
    refine cut_l ?_
    try simp only [go_sem]
    refine ways_n (fun c3 => ?_) (fun c3 => ?_)
    ·
      replace h := if_n c3 h
      obtain rfl := Option.some.inj h
      exact wkv_same (by simp only [go_sem]) rfl
    ·
      replace h := if_p c3 h
      obtain ⟨x4, hx4, h⟩ := of_bind h
      refine call_p false (c_ref1_ThenOf hx4) ⟨wkE _, wkE _, trivial⟩ nofun ?_
      try simp only [go_sem]
      obtain ⟨x5, hx5, h⟩ := of_bind h
      refine call_p false (c_ref1_IsPoint hx5) ⟨wkE _, trivial⟩ nofun ?_
      try simp only [go_sem]
      refine cut_l ?_
      try simp only [go_sem]
      refine ways (fun c6 => ?_) (fun c6 => ?_)
      ·
        replace h := if_t c6 h
        try simp only [Bool.and_eq_true, Bool.or_eq_true, Bool.not_eq_true', Bool.not_eq_false', Bool.and_eq_false_imp, Bool.or_eq_false_iff, decide_eq_true_eq, decide_eq_false_iff_not] at c6
        obtain rfl := Option.some.inj h
        exact wkv_same (by simp only [go_sem]) rfl
      ·
        replace h := if_f c6 h
        try simp only [Bool.and_eq_true, Bool.or_eq_true, Bool.not_eq_true', Bool.not_eq_false', Bool.and_eq_false_imp, Bool.or_eq_false_iff, decide_eq_true_eq, decide_eq_false_iff_not] at c6
        obtain rfl := Option.some.inj h
        exact wkv_same (by simp only [go_sem]) rfl
theorem c_ref1_Turned {a0 : TPoint} {a1 : TTurn} {r : TPoint × Int} (h : p_ref1_Turned a0 a1 = some r)  : PCalls Try.prog 29 [encTPoint a0, encTTurn a1] (tup [encTPoint r.1, .int .i64 r.2]) := by
  unfold p_ref1_Turned at h
  refine pcalls_of (fun _ => none) (fun _ => []) Try.func29 (by unfold Try.f29; rfl) (by kernel_rfl) (by kernel_rfl) ?_
  simp only [awp_seq]
  simp only [argSlots]
  dsimp only [Try.f29]
  try simp only [go_sem]
  obtain ⟨x0, hx0, h⟩ := of_bind h
  refine call_p false (c_ref1_CheckTurn hx0) ⟨wkE _, trivial⟩ nofun ?_
  try simp only [go_sem]
  refine cut_l ?_
  try simp only [go_sem]
  refine ways_n (fun c1 => ?_) (fun c1 => ?_)
  ·
    replace h := if_n c1 h
    obtain rfl := Option.some.inj h
    exact wkv_same (by simp only [go_sem]) rfl
  ·
    replace h := if_p c1 h
    obtain ⟨x2, hx2, h⟩ := of_bind h
    refine call_p false (c_ref1_IsPoint hx2) ⟨wkE _, trivial⟩ nofun ?_
    try simp only [go_sem]
    refine cut_l ?_
    try simp only [go_sem]
    refine ways (fun c3 => ?_) (fun c3 => ?_)
    ·
      replace h := if_t c3 h
      try simp only [Bool.and_eq_true, Bool.or_eq_true, Bool.not_eq_true', Bool.not_eq_false', Bool.and_eq_false_imp, Bool.or_eq_false_iff, decide_eq_true_eq, decide_eq_false_iff_not] at c3
      obtain rfl := Option.some.inj h
      exact wkv_same (by simp only [go_sem]) rfl
    ·
      replace h := if_f c3 h
      try simp only [Bool.and_eq_true, Bool.or_eq_true, Bool.not_eq_true', Bool.not_eq_false', Bool.and_eq_false_imp, Bool.or_eq_false_iff, decide_eq_true_eq, decide_eq_false_iff_not] at c3
      obtain ⟨x4, hx4, h⟩ := of_bind h
      refine call_p false (c_ref1_TurnPoint hx4) ⟨wkE _, wkE _, trivial⟩ nofun ?_
      try simp only [go_sem]
      obtain ⟨x5, hx5, h⟩ := of_bind h
      refine call_p false (c_ref1_IsPoint hx5) ⟨wkE _, trivial⟩ nofun ?_
      try simp only [go_sem]
      refine cut_l ?_
      try simp only [go_sem]
      refine ways (fun c6 => ?_) (fun c6 => ?_)
      ·
        replace h := if_t c6 h
        try simp only [Bool.and_eq_true, Bool.or_eq_true, Bool.not_eq_true', Bool.not_eq_false', Bool.and_eq_false_imp, Bool.or_eq_false_iff, decide_eq_true_eq, decide_eq_false_iff_not] at c6
        obtain rfl := Option.some.inj h
        exact wkv_same (by simp only [go_sem]) rfl
      ·
        replace h := if_f c6 h
        try simp only [Bool.and_eq_true, Bool.or_eq_true, Bool.not_eq_true', Bool.not_eq_false', Bool.and_eq_false_imp, Bool.or_eq_false_iff, decide_eq_true_eq, decide_eq_false_iff_not] at c6
        obtain rfl := Option.some.inj h
        exact wkv_same (by simp only [go_sem]) rfl
theorem c_shape_Back {a0 : TTurn} {r : TTurn × Int} (h : p_shape_Back a0 = some r)  : PCalls Try.prog 34 [encTTurn a0] (tup [encTTurn r.1, .int .i64 r.2]) := by
  unfold p_shape_Back at h
  refine pcalls_of (fun _ => none) (fun _ => []) Try.func34 (by unfold Try.f34; rfl) (by kernel_rfl) (by kernel_rfl) ?_
  simp only [awp_seq]
  simp only [argSlots]
  dsimp only [Try.f34]
  try simp only [go_sem]
  obtain ⟨x0, hx0, h⟩ := of_bind h
  refine call_p false (c_shape_CheckTurn hx0) ⟨wkE _, trivial⟩ nofun ?_
  try simp only [go_sem]
  refine cut_l ?_
  try simp only [go_sem]
  refine ways_n (fun c1 => ?_) (fun c1 => ?_)
  ·
    replace h := if_n c1 h
    obtain rfl := Option.some.inj h
    exact wkv_same (by simp only [go_sem]) rfl
  ·
    replace h := if_p c1 h
    obtain ⟨e2, h2, h⟩ := of_bind h
    refine cut_j ([(5, AVal.ptr (2, 0) 4 0 0), (3, AVal.int IntKind.i64 0), (2, AVal.ptr (1, 0) 4 0 0), (1, AVal.ptr (0, 0) 4 0 0)]) ({ nx := 4, rows := [(2, Ent.one { sz := 4, d := encTTurn { : TTurn }, l := [encTTurn e2] : Row }), (1, Ent.one { sz := 4, d := encTTurn { : TTurn }, l := [encTTurn { : TTurn }] : Row }), (0, Ent.one { sz := 4, d := encTTurn a0, l := [encTTurn a0] : Row })] : Heap }) ?_ ?_
    ·
      try simp only [go_sem]
      refine ways (fun c3 => ?_) (fun c3 => ?_)
      ·
        replace h2 := if_t c3 h2
        try simp only [Bool.and_eq_true, Bool.or_eq_true, Bool.not_eq_true', Bool.not_eq_false', Bool.and_eq_false_imp, Bool.or_eq_false_iff, decide_eq_true_eq, decide_eq_false_iff_not] at c3
        refine ob (by omega) ?_
        obtain ⟨⟨g4_0, g4_1⟩, h2⟩ := of_guard h2
        simp only [W64 g4_0 g4_1]
        obtain rfl := Option.some.inj h2
        refine wk_of [(2, some 2), (1, some 1), (0, some 0)] rfl ?_ ?_
        ·
          try simp only [go_sem]
          exact ⟨.ptr _ _ _ _ _ (rn_some rfl), ⟨.same _ trivial, ⟨.ptr _ _ _ _ _ (rn_some rfl), .ptr _ _ _ _ _ (rn_some rfl)⟩⟩⟩
        ·
          try simp only [go_sem]
          exact ⟨wkR_box (rn_some rfl) rfl (wkE _), ⟨wkR_box (rn_some rfl) rfl (wkE _), wkR_box (rn_some rfl) rfl (wkE _)⟩⟩
      ·
        replace h2 := if_f c3 h2
        try simp only [Bool.and_eq_true, Bool.or_eq_true, Bool.not_eq_true', Bool.not_eq_false', Bool.and_eq_false_imp, Bool.or_eq_false_iff, decide_eq_true_eq, decide_eq_false_iff_not] at c3
        obtain rfl := Option.some.inj h2
        refine wk_of [(2, some 2), (1, some 1), (0, some 0)] rfl ?_ ?_
        ·
          try simp only [go_sem]
          exact ⟨.ptr _ _ _ _ _ (rn_some rfl), ⟨.same _ trivial, ⟨.ptr _ _ _ _ _ (rn_some rfl), .ptr _ _ _ _ _ (rn_some rfl)⟩⟩⟩
        ·
          try simp only [go_sem]
          exact ⟨wkR_box (rn_some rfl) rfl (wkE _), ⟨wkR_box (rn_some rfl) rfl (wkE _), wkR_box (rn_some rfl) rfl (wkE _)⟩⟩
    try simp only [go_sem]
    obtain ⟨x5, hx5, h⟩ := of_bind h
    refine call_p false (c_shape_TurnPoint hx5) ⟨wkE _, wkE _, trivial⟩ nofun ?_
    try simp only [go_sem]
    obtain ⟨⟨g6_0, g6_1⟩, h⟩ := of_guard h
    simp only [W64 g6_0 g6_1]
    obtain ⟨⟨g7_0, g7_1⟩, h⟩ := of_guard h
    simp only [W64 g7_0 g7_1]
    obtain rfl := Option.some.inj h
    exact wkv_same (by simp only [go_sem]) rfl
theorem c_shape_CheckRegion {a0 : (List TRect)} {r : Int} (h : p_shape_CheckRegion a0 = some r)  : PCalls Try.prog 18 [encL 4 encTRect a0] (.int .i64 r) := by
  unfold p_shape_CheckRegion at h
  refine pcalls_of (ordOf [(7, [0, 1, 2, 3, 5, 6, 7, 4, 8, 9, 10, 11, 12])]) (prsOf [(7, [(8, 11)])]) Try.func18 (by unfold Try.f18; rfl) (by kernel_rfl) (by kernel_rfl) ?_
  simp only [awp_seq]
  simp only [argSlots]
  dsimp only [Try.f18]
  try simp only [go_sem]
  obtain ⟨x0, hx0, h⟩ := of_bind h
  refine call_p false (c_shape_CheckRects hx0) ⟨.same _ trivial, trivial⟩ nofun ?_
  try simp only [go_sem]
  refine cut_l ?_
  try simp only [go_sem]
  refine ways_n (fun c1 => ?_) (fun c1 => ?_)
  ·
    replace h := if_n c1 h
    obtain rfl := Option.some.inj h
    exact .same _ trivial
  ·
    replace h := if_p c1 h
    obtain ⟨z2, h2, h⟩ := of_bind h
    refine cut_z z2 (fun (s : Int) => [(2, AVal.int IntKind.i64 s), (0, encL 4 encTRect a0)]) (fun (s : Int) => { nx := 0, rows := [] : Heap }) ?_ (fun e2 hz2 => ?_)
    ·
      try simp only [go_sem]
      refine loop_w h2 (fun (s : Int × Int) => [(4, AVal.int IntKind.i64 (Prod.fst s)), (2, AVal.int IntKind.i64 (Prod.snd s)), (0, encL 4 encTRect a0)]) (fun (s : Int × Int) => { nx := 0, rows := [] : Heap }) ?_ ?_
      ·
        refine wk_of [] rfl ?_ ?_
        ·
          try simp only [go_sem]
          exact ⟨.same _ trivial, ⟨.same _ trivial, .same _ trivial⟩⟩
        ·
          try simp only [go_sem]
      intro n3 s3 o3 h3 he3 hi3
      try simp only [go_sem]
      refine cut_l ?_
      try simp only [go_sem]
      refine ways_d (fun c4 => ?_) (fun c4 => ?_)
      ·
        replace h3 := if_p c4 h3
        refine cut_l ?_
        try simp only [go_sem]
        obtain ⟨⟨g5_0, g5_1⟩, h3⟩ := of_guard h3
        simp only [W64 g5_0 g5_1]
        obtain ⟨⟨g6_0, g6_1⟩, h3⟩ := of_guard h3
        refine ob ⟨⟨by assumption, by omega⟩, ⟨by assumption, by assumption⟩⟩ ?_
        refine ob ⟨by intro h1 h2; simp only [h1, h2, Bool.and_self, Bool.not_true, Bool.not_false, Bool.and_true, Bool.true_and], by simp⟩ ?_
        refine cut_l ?_
        try simp only [go_sem]
        refine ways (fun c7 => ?_) (fun c7 => ?_)
        ·
          replace h3 := if_t c7 h3
          try simp only [Bool.and_eq_true, Bool.or_eq_true, Bool.not_eq_true', Bool.not_eq_false', Bool.and_eq_false_imp, Bool.or_eq_false_iff, decide_eq_true_eq, decide_eq_false_iff_not] at c7
          obtain rfl := Option.some.inj h3
          obtain rfl := he3 _ rfl
          obtain rfl := Option.some.inj h
          exact .same _ trivial
        ·
          replace h3 := if_f c7 h3
          try simp only [Bool.and_eq_true, Bool.or_eq_true, Bool.not_eq_true', Bool.not_eq_false', Bool.and_eq_false_imp, Bool.or_eq_false_iff, decide_eq_true_eq, decide_eq_false_iff_not] at c7
          obtain ⟨⟨g8_0, g8_1⟩, h3⟩ := of_guard h3
          simp only [W64 g8_0 g8_1]
          obtain rfl := Option.some.inj h3
          refine nextL (hi3 _ rfl) ?_
          refine wk_of [] rfl ?_ ?_
          ·
            try simp only [go_sem]
            exact ⟨.same _ trivial, ⟨.same _ trivial, .same _ trivial⟩⟩
          ·
            try simp only [go_sem]
      ·
        replace h3 := if_n c4 h3
        obtain rfl := Option.some.inj h3
        obtain rfl := he3 _ rfl
        refine zend ?_
        refine wk_of [] rfl ?_ ?_
        ·
          try simp only [go_sem]
          exact ⟨.same _ trivial, .same _ trivial⟩
        ·
          try simp only [go_sem]
    subst hz2
    simp only [Sum.elim_inr] at h
    try simp only [go_sem]
    obtain ⟨x9, hx9, h⟩ := of_bind h
    refine call_p false (c_shape_SetOf hx9) ⟨.same _ trivial, trivial⟩ nofun ?_
    obtain ⟨x10, hx10, h⟩ := of_bind h
    refine call_p false (c_shape_Set_Rects hx10) ⟨.same _ trivial, trivial⟩ nofun ?_
    obtain ⟨x11, hx11, h⟩ := of_bind h
    refine call_p false (c_slices_Equal_Rect hx11) ⟨.same _ trivial, .same _ trivial, trivial⟩ nofun ?_
    try simp only [go_sem]
    refine cut_l ?_
    try simp only [go_sem]
    refine ways (fun c12 => ?_) (fun c12 => ?_)
    ·
      replace h := if_t c12 h
      try simp only [Bool.and_eq_true, Bool.or_eq_true, Bool.not_eq_true', Bool.not_eq_false', Bool.and_eq_false_imp, Bool.or_eq_false_iff, decide_eq_true_eq, decide_eq_false_iff_not] at c12
      obtain rfl := Option.some.inj h
      exact .same _ trivial
    ·
      replace h := if_f c12 h
      try simp only [Bool.and_eq_true, Bool.or_eq_true, Bool.not_eq_true', Bool.not_eq_false', Bool.and_eq_false_imp, Bool.or_eq_false_iff, decide_eq_true_eq, decide_eq_false_iff_not] at c12
      obtain rfl := Option.some.inj h
      exact .same _ trivial
theorem c_shape_Then {a0 : TTurn} {a1 : TTurn} {r : TTurn × Int} (h : p_shape_Then a0 a1 = some r)  : PCalls Try.prog 32 [encTTurn a0, encTTurn a1] (tup [encTTurn r.1, .int .i64 r.2]) := by
  unfold p_shape_Then at h
  refine pcalls_of (ordOf [(10, [0, 2, 5, 6, 10, 1, 3, 4, 7, 8, 9, 11, 12, 13, 14, 15, 16])]) (fun _ => []) Try.func32 (by unfold Try.f32; rfl) (by kernel_rfl) (by kernel_rfl) ?_
  simp only [awp_seq]
  simp only [argSlots]
  dsimp only [Try.f32]
  try simp only [go_sem]
  obtain ⟨x0, hx0, h⟩ := of_bind h
  refine call_p false (c_shape_CheckTurn hx0) ⟨wkE _, trivial⟩ nofun ?_
  try simp only [go_sem]
  refine cut_l ?_
  try simp only [go_sem]
  refine ways_n (fun c1 => ?_) (fun c1 => ?_)
  ·
    replace h := if_n c1 h
    obtain rfl := Option.some.inj h
    exact wkv_same (by simp only [go_sem]) rfl
  ·
    replace h := if_p c1 h
    obtain ⟨x2, hx2, h⟩ := of_bind h
    refine call_p false (c_shape_CheckTurn hx2) ⟨wkE _, trivial⟩ nofun ?_
    try simp only [go_sem]
    refine cut_l ?_
    try simp only [go_sem]
    refine ways_n (fun c3 => ?_) (fun c3 => ?_)
    ·
      replace h := if_n c3 h
      obtain rfl := Option.some.inj h
      exact wkv_same (by simp only [go_sem]) rfl
    ·
      replace h := if_p c3 h
      obtain ⟨e4, h4, h⟩ := of_bind h
      refine cut_j ([(8, AVal.int IntKind.i64 e4), (5, AVal.int IntKind.i64 0), (4, AVal.ptr (2, 0) 4 0 0), (3, AVal.ptr (1, 0) 4 0 0), (2, AVal.ptr (0, 0) 4 0 0)]) ({ nx := 3, rows := [(2, Ent.one { sz := 4, d := encTTurn { : TTurn }, l := [encTTurn { : TTurn }] : Row }), (1, Ent.one { sz := 4, d := encTTurn a1, l := [encTTurn a1] : Row }), (0, Ent.one { sz := 4, d := encTTurn a0, l := [encTTurn a0] : Row })] : Heap }) ?_ ?_
      ·
        try simp only [go_sem]
        refine ways (fun c5 => ?_) (fun c5 => ?_)
        ·
          replace h4 := if_t c5 h4
          try simp only [Bool.and_eq_true, Bool.or_eq_true, Bool.not_eq_true', Bool.not_eq_false', Bool.and_eq_false_imp, Bool.or_eq_false_iff, decide_eq_true_eq, decide_eq_false_iff_not] at c5
          obtain ⟨⟨g6_0, g6_1⟩, h4⟩ := of_guard h4
          simp only [W64 g6_0 g6_1]
          obtain rfl := Option.some.inj h4
          refine wk_of [(2, some 2), (1, some 1), (0, some 0)] rfl ?_ ?_
          ·
            try simp only [go_sem]
            exact ⟨.same _ trivial, ⟨.same _ trivial, ⟨.ptr _ _ _ _ _ (rn_some rfl), ⟨.ptr _ _ _ _ _ (rn_some rfl), .ptr _ _ _ _ _ (rn_some rfl)⟩⟩⟩⟩
          ·
            try simp only [go_sem]
            exact ⟨wkR_box (rn_some rfl) rfl (wkE _), ⟨wkR_box (rn_some rfl) rfl (wkE _), wkR_box (rn_some rfl) rfl (wkE _)⟩⟩
        ·
          replace h4 := if_f c5 h4
          try simp only [Bool.and_eq_true, Bool.or_eq_true, Bool.not_eq_true', Bool.not_eq_false', Bool.and_eq_false_imp, Bool.or_eq_false_iff, decide_eq_true_eq, decide_eq_false_iff_not] at c5
          obtain rfl := Option.some.inj h4
          refine wk_of [(2, some 2), (1, some 1), (0, some 0)] rfl ?_ ?_
          ·
            try simp only [go_sem]
            exact ⟨.same _ trivial, ⟨.same _ trivial, ⟨.ptr _ _ _ _ _ (rn_some rfl), ⟨.ptr _ _ _ _ _ (rn_some rfl), .ptr _ _ _ _ _ (rn_some rfl)⟩⟩⟩⟩
          ·
            try simp only [go_sem]
            exact ⟨wkR_box (rn_some rfl) rfl (wkE _), ⟨wkR_box (rn_some rfl) rfl (wkE _), wkR_box (rn_some rfl) rfl (wkE _)⟩⟩
      try simp only [go_sem]
      refine ob (by omega) ?_
      obtain ⟨x7, hx7, h⟩ := of_bind h
      refine qcall_p false (fun _ => c_shape_TurnPoint hx7) (fun _ => ⟨wkE _, wkE _, trivial⟩) nofun ?_
      try simp only [go_sem]
      obtain ⟨x8, hx8, h⟩ := of_bind h
      refine call_p false (c_shape_IsPoint hx8) ⟨wkE _, trivial⟩ nofun ?_
      try simp only [go_sem]
      obtain ⟨⟨g9_0, g9_1⟩, h⟩ := of_guard h
      simp only [W64 g9_0 g9_1]
      refine cut_l ?_
      try simp only [go_sem]
      refine ways (fun c10 => ?_) (fun c10 => ?_)
      ·
        replace h := if_t c10 h
        try simp only [Bool.and_eq_true, Bool.or_eq_true, Bool.not_eq_true', Bool.not_eq_false', Bool.and_eq_false_imp, Bool.or_eq_false_iff, decide_eq_true_eq, decide_eq_false_iff_not] at c10
        obtain rfl := Option.some.inj h
        exact wkv_same (by simp only [go_sem]) rfl
      ·
        replace h := if_f c10 h
        try simp only [Bool.and_eq_true, Bool.or_eq_true, Bool.not_eq_true', Bool.not_eq_false', Bool.and_eq_false_imp, Bool.or_eq_false_iff, decide_eq_true_eq, decide_eq_false_iff_not] at c10
        obtain rfl := Option.some.inj h
        exact wkv_same (by simp only [go_sem]) rfl
theorem c_shape_Turned {a0 : TPoint} {a1 : TTurn} {r : TPoint × Int} (h : p_shape_Turned a0 a1 = some r)  : PCalls Try.prog 28 [encTPoint a0, encTTurn a1] (tup [encTPoint r.1, .int .i64 r.2]) := by
  unfold p_shape_Turned at h
  refine pcalls_of (fun _ => none) (fun _ => []) Try.func28 (by unfold Try.f28; rfl) (by kernel_rfl) (by kernel_rfl) ?_
  simp only [awp_seq]
  simp only [argSlots]
  dsimp only [Try.f28]
  try simp only [go_sem]
  obtain ⟨x0, hx0, h⟩ := of_bind h
  refine call_p false (c_shape_CheckTurn hx0) ⟨wkE _, trivial⟩ nofun ?_
  try simp only [go_sem]
  refine cut_l ?_
  try simp only [go_sem]
  refine ways_n (fun c1 => ?_) (fun c1 => ?_)
  ·
    replace h := if_n c1 h
    obtain rfl := Option.some.inj h
    exact wkv_same (by simp only [go_sem]) rfl
  ·
    replace h := if_p c1 h
    obtain ⟨x2, hx2, h⟩ := of_bind h
    refine call_p false (c_shape_IsPoint hx2) ⟨wkE _, trivial⟩ nofun ?_
    try simp only [go_sem]
    refine cut_l ?_
    try simp only [go_sem]
    refine ways (fun c3 => ?_) (fun c3 => ?_)
    ·
      replace h := if_t c3 h
      try simp only [Bool.and_eq_true, Bool.or_eq_true, Bool.not_eq_true', Bool.not_eq_false', Bool.and_eq_false_imp, Bool.or_eq_false_iff, decide_eq_true_eq, decide_eq_false_iff_not] at c3
      obtain rfl := Option.some.inj h
      exact wkv_same (by simp only [go_sem]) rfl
    ·
      replace h := if_f c3 h
      try simp only [Bool.and_eq_true, Bool.or_eq_true, Bool.not_eq_true', Bool.not_eq_false', Bool.and_eq_false_imp, Bool.or_eq_false_iff, decide_eq_true_eq, decide_eq_false_iff_not] at c3
      obtain ⟨x4, hx4, h⟩ := of_bind h
      refine call_p false (c_shape_TurnPoint hx4) ⟨wkE _, wkE _, trivial⟩ nofun ?_
      try simp only [go_sem]
      obtain ⟨x5, hx5, h⟩ := of_bind h
      refine call_p false (c_shape_IsPoint hx5) ⟨wkE _, trivial⟩ nofun ?_
      try simp only [go_sem]
      refine cut_l ?_
      try simp only [go_sem]
      refine ways (fun c6 => ?_) (fun c6 => ?_)
      ·
        replace h := if_t c6 h
        try simp only [Bool.and_eq_true, Bool.or_eq_true, Bool.not_eq_true', Bool.not_eq_false', Bool.and_eq_false_imp, Bool.or_eq_false_iff, decide_eq_true_eq, decide_eq_false_iff_not] at c6
        obtain rfl := Option.some.inj h
        exact wkv_same (by simp only [go_sem]) rfl
      ·
        replace h := if_f c6 h
        try simp only [Bool.and_eq_true, Bool.or_eq_true, Bool.not_eq_true', Bool.not_eq_false', Bool.and_eq_false_imp, Bool.or_eq_false_iff, decide_eq_true_eq, decide_eq_false_iff_not] at c6
        obtain rfl := Option.some.inj h
        exact wkv_same (by simp only [go_sem]) rfl
theorem c_shape_Area {a0 : (List TRect)} {r : Int × Int} (h : p_shape_Area a0 = some r)  : PCalls Try.prog 49 [encL 4 encTRect a0] (tup [.int .i64 r.1, .int .i64 r.2]) := by
  unfold p_shape_Area at h
  refine pcalls_of (fun _ => none) (fun _ => []) Try.func49 (by unfold Try.f49; rfl) (by kernel_rfl) (by kernel_rfl) ?_
  simp only [awp_seq]
  simp only [argSlots]
  dsimp only [Try.f49]
  try simp only [go_sem]
  obtain ⟨x0, hx0, h⟩ := of_bind h
  refine call_p false (c_shape_CheckRegion hx0) ⟨.same _ trivial, trivial⟩ nofun ?_
  try simp only [go_sem]
  refine cut_l ?_
  try simp only [go_sem]
  refine ways_n (fun c1 => ?_) (fun c1 => ?_)
  ·
    replace h := if_n c1 h
    obtain rfl := Option.some.inj h
    exact wkv_same (by simp only [go_sem]) rfl
  ·
    replace h := if_p c1 h
    obtain ⟨x2, hx2, h⟩ := of_bind h
    refine call_p false (c_shape_AreaOf hx2) ⟨.same _ trivial, trivial⟩ nofun ?_
    obtain rfl := Option.some.inj h
    exact wkv_same (by simp only [go_sem]) rfl
theorem c_law1_awake {r : Bool} (h : p_law1_awake  = some r)  : PCalls Try.prog 21 [] (.bool r) := by
  unfold p_law1_awake at h
  refine pcalls_of (fun _ => none) (fun _ => []) Try.func21 (by unfold Try.f21; rfl) (by kernel_rfl) (by kernel_rfl) ?_
  simp only [awp_seq]
  simp only [argSlots]
  dsimp only [Try.f21]
  try simp only [go_sem]
  obtain ⟨x0, hx0, h⟩ := of_bind h
  refine call_p true (c_shape_Area hx0) ⟨wkv_own rfl (R0_ne _) rfl, trivial⟩ (fun _ => by simp only [go_sem]) ?_
  try simp only [go_sem]
  obtain rfl := Option.some.inj h
  exact .same _ trivial
theorem c_law1_TurnsMatchSpec {a0 : TTurn} {a1 : TTurn} {a2 : TPoint} {r : Bool} (h : p_law1_TurnsMatchSpec a0 a1 a2 = some r)  : PCalls Try.prog 6 [encTTurn a0, encTTurn a1, encTPoint a2] (.bool r) := by
  unfold p_law1_TurnsMatchSpec at h
  refine pcalls_of (fun _ => none) (fun _ => []) Try.func6 (by unfold Try.f6; rfl) (by kernel_rfl) (by kernel_rfl) ?_
  simp only [awp_seq]
  simp only [argSlots]
  dsimp only [Try.f6]
  try simp only [go_sem]
  obtain ⟨x0, hx0, h⟩ := of_bind h
  refine call_p false (c_shape_Turned hx0) ⟨wkE _, wkE _, trivial⟩ nofun ?_
  try simp only [go_sem]
  obtain ⟨x1, hx1, h⟩ := of_bind h
  refine call_p false (c_ref1_Turned hx1) ⟨wkE _, wkE _, trivial⟩ nofun ?_
  try simp only [go_sem]
  refine ob (by simp) ?_
  obtain ⟨x2, hx2, h⟩ := of_bind h
  refine qcall_p false (fun hg => c_shape_CheckTurn (if_t hg hx2)) (fun _ => ⟨wkE _, trivial⟩) nofun ?_
  obtain ⟨x3, hx3, h⟩ := of_bind h
  refine qcall_p false (fun hg => c_ref1_CheckTurn (if_t hg hx3)) (fun _ => ⟨wkE _, trivial⟩) nofun ?_
  try simp only [go_sem]
  refine ob (by simp) ?_
  refine cut_l ?_
  try simp only [go_sem]
  refine ways (fun c4 => ?_) (fun c4 => ?_)
  ·
    replace h := if_t c4 h
    try simp only [Bool.and_eq_true, Bool.or_eq_true, Bool.not_eq_true', Bool.not_eq_false', Bool.and_eq_false_imp, Bool.or_eq_false_iff, decide_eq_true_eq, decide_eq_false_iff_not] at c4
    obtain rfl := Option.some.inj h
    exact .same _ trivial
  ·
    replace h := if_f c4 h
    try simp only [Bool.and_eq_true, Bool.or_eq_true, Bool.not_eq_true', Bool.not_eq_false', Bool.and_eq_false_imp, Bool.or_eq_false_iff, decide_eq_true_eq, decide_eq_false_iff_not] at c4
    obtain ⟨x5, hx5, h⟩ := of_bind h
    refine call_p false (c_shape_Then hx5) ⟨wkE _, wkE _, trivial⟩ nofun ?_
    try simp only [go_sem]
    obtain ⟨x6, hx6, h⟩ := of_bind h
    refine call_p false (c_ref1_Then hx6) ⟨wkE _, wkE _, trivial⟩ nofun ?_
    try simp only [go_sem]
    obtain ⟨x7, hx7, h⟩ := of_bind h
    refine call_p false (c_shape_Back hx7) ⟨wkE _, trivial⟩ nofun ?_
    try simp only [go_sem]
    obtain ⟨x8, hx8, h⟩ := of_bind h
    refine call_p false (c_ref1_Back hx8) ⟨wkE _, trivial⟩ nofun ?_
    try simp only [go_sem]
    obtain ⟨x9, hx9, h⟩ := of_bind h
    refine qcall_p false (fun hg => c_law1_awake (if_t hg hx9)) (fun _ => trivial) nofun ?_
    try simp only [go_sem]
    obtain rfl := Option.some.inj h
    exact .same _ trivial
end Go.Nw
