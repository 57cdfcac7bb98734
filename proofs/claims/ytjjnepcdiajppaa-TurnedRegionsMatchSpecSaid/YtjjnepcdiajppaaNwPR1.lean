/- The walks of the functions. -/
import Derived.Test.YtjjnepcdiajppaaNwSortF
import Derived.Test.YtjjnepcdiajppaaNwDR
import Derived.Test.YtjjnepcdiajppaaNwPR0
set_option linter.unusedVariables false
set_option linter.unusedSimpArgs false
set_option maxRecDepth 100000
namespace Go.Nw
open Go.Proofs
theorem c_shape_Set_push_o {a0 : (List TShapeBand)} {a1 : TShapeBand} {r : (List TShapeBand)} (h : p_shape_Set_push_o a0 a1 = some r)  : MCalls Try.prog 93 [.sref (0, 0) 0 3 (List.length a0), encTShapeBand a1] ⟨1, [(0, .one ⟨3, encTShapeBand {}, a0.map encTShapeBand⟩)]⟩ (.sref (1, 0) 0 3 (List.length (r))) ⟨2, [(1, .one ⟨3, encTShapeBand {}, (r).map encTShapeBand⟩)]⟩ := by
  unfold p_shape_Set_push_o at h
  refine acalls_of (ordOf [(4, [0, 1, 2, 3, 4, 5, 6, 8, 7, 9, 10, 11, 12, 13, 14, 15, 16, 18, 17, 19, 20, 21])]) (fun _ => []) Try.func93 (by unfold Try.f93; rfl) (by kernel_rfl) (by kernel_rfl) ?_
  simp only [awp_seq]
  simp only [argSlots]
  dsimp only [Try.f93]
  try simp only [go_sem]
  refine ob (by simp) ?_
  refine cut_l ?_
  try simp only [go_sem]
  refine ways (fun c0 => ?_) (fun c0 => ?_)
  ·
    replace h := if_t c0 h
    try simp only [Bool.and_eq_true, Bool.or_eq_true, Bool.not_eq_true', Bool.not_eq_false', Bool.and_eq_false_imp, Bool.or_eq_false_iff, decide_eq_true_eq, decide_eq_false_iff_not] at c0
    refine ret_o ?_
    try simp only [go_sem]
    obtain rfl := Option.some.inj h
    refine wkm [(0, some 0), (1, some 0)] rfl ?_ ?_
    ·
      exact wkv_sref (rn_some rfl) rfl
    ·
      try simp only [go_sem]
      exact wkR_typed (rn_some rfl) rfl rfl
  ·
    replace h := if_f c0 h
    try simp only [Bool.and_eq_true, Bool.or_eq_true, Bool.not_eq_true', Bool.not_eq_false', Bool.and_eq_false_imp, Bool.or_eq_false_iff, decide_eq_true_eq, decide_eq_false_iff_not] at c0
    obtain ⟨⟨g1_0, g1_1⟩, h⟩ := of_guard h
    simp only [W64 g1_0 g1_1]
    obtain ⟨⟨g2_0, g2_1, g2_2, g2_3⟩, h⟩ := of_guard h
    refine ob ⟨⟨⟨by assumption, by assumption⟩, by assumption⟩, by assumption⟩ ?_
    obtain ⟨x3, hx3, h⟩ := of_bind h
    refine qcall_p false (fun hg => c_slices_Equal_int (if_t hg hx3)) (fun _ => ⟨.same _ trivial, .same _ trivial, trivial⟩) nofun ?_
    try simp only [go_sem]
    refine cut_l ?_
    try simp only [go_sem]
    refine ways (fun c4 => ?_) (fun c4 => ?_)
    ·
      replace h := if_t c4 h
      try simp only [Bool.and_eq_true, Bool.or_eq_true, Bool.not_eq_true', Bool.not_eq_false', Bool.and_eq_false_imp, Bool.or_eq_false_iff, decide_eq_true_eq, decide_eq_false_iff_not] at c4
      refine ob ⟨⟨by omega, by omega⟩, by omega⟩ ?_
      refine ret_o ?_
      try simp only [go_sem]
      obtain ⟨g5, h⟩ := of_guard h
      obtain rfl := Option.some.inj h
      refine wkm [(0, some 0), (1, some 0)] rfl ?_ ?_
      ·
        exact wkv_sref (rn_some rfl) (by simp)
      ·
        try simp only [go_sem]
        exact wkR_take (rn_some rfl) rfl rfl
    ·
      replace h := if_f c4 h
      try simp only [Bool.and_eq_true, Bool.or_eq_true, Bool.not_eq_true', Bool.not_eq_false', Bool.and_eq_false_imp, Bool.or_eq_false_iff, decide_eq_true_eq, decide_eq_false_iff_not] at c4
      obtain ⟨g6, h⟩ := of_guard h
      refine ob ⟨by omega, by assumption⟩ ?_
      refine ret_o ?_
      try simp only [go_sem]
      obtain rfl := Option.some.inj h
      refine wkm [(0, some 0), (1, some 10003)] rfl ?_ ?_
      ·
        exact wkv_sref (rn_some rfl) rfl
      ·
        try simp only [go_sem]
        exact wkR_typed (rn_some rfl) rfl rfl
theorem c_shape_TurnRect {a0 : TRect} {a1 : TTurn} {r : TRect} (h : p_shape_TurnRect a0 a1 = some r)  : PCalls Try.prog 104 [encTRect a0, encTTurn a1] (encTRect r) := by
  unfold p_shape_TurnRect at h
  refine pcalls_of (ordOf [(1, [0, 2, 7, 9, 1, 3, 4, 5, 6, 8, 10, 11, 12, 13, 14, 15, 16, 17])]) (fun _ => []) Try.func104 (by unfold Try.f104; rfl) (by kernel_rfl) (by kernel_rfl) ?_
  simp only [awp_seq]
  simp only [argSlots]
  dsimp only [Try.f104]
  try simp only [go_sem]
  obtain ⟨x0, hx0, h⟩ := of_bind h
  refine qcall_p false (fun _ => c_shape_TurnPoint hx0) (fun _ => ⟨wkE _, wkE _, trivial⟩) nofun ?_
  try simp only [go_sem]
  obtain ⟨x1, hx1, h⟩ := of_bind h
  refine qcall_p false (fun _ => c_shape_TurnPoint hx1) (fun _ => ⟨wkE _, wkE _, trivial⟩) nofun ?_
  try simp only [go_sem]
  obtain rfl := Option.some.inj h
  exact wkE _
theorem c_shape_stretches_o {a0 : (List TRect)} {r : (List Int) × (List TRect)} (h : p_shape_stretches_o a0 = some r)  : MCalls Try.prog 94 [.sref (0, 0) 0 4 (List.length a0)] ⟨1, [(0, .one ⟨4, encTRect {}, a0.map encTRect⟩)]⟩ (encL 1 encI r.1) ⟨1, [(0, .one ⟨4, encTRect {}, (r.2).map encTRect⟩)]⟩ := by
  unfold p_shape_stretches_o at h
  refine acalls_of (ordOf [(7, [0, 1, 2, 3, 5, 6, 7, 4, 8, 9, 10]), (8, [0, 1, 2, 3, 4, 6, 5, 7, 8, 9, 10])]) (fun _ => []) Try.func94 (by unfold Try.f94; rfl) (by kernel_rfl) (by kernel_rfl) ?_
  simp only [awp_seq]
  simp only [argSlots]
  dsimp only [Try.f94]
  try simp only [go_sem]
  obtain ⟨x0, hx0, h⟩ := of_bind h
  refine call_r false [0] (c_slices_SortFunc_Rect_o hx0 (by simp only [go_sem]) (fun _ _ _ h => c_shape_stretches_1 h)) ⟨wkv_sref rfl rfl, wkv_same (by simp only [go_sem]) rfl, trivial⟩ (wkH_rho (by decide) rfl ⟨⟨by decide, wkR_typed rfl rfl rfl⟩, trivial⟩) rfl (by simp) (by simp) nofun ?_
  try simp only [go_sem]
  obtain ⟨e1, h1, h⟩ := of_bind h
  refine cut_j ([(3, AVal.sref (1, 0) 0 1 (List.length e1)), (2, AVal.nilsl)]) ({ nx := 2, rows := [(1, Ent.one { sz := 1, d := AVal.int IntKind.i64 0, l := List.map encI e1 : Row }), (0, Ent.one { sz := 4, d := encTRect { : TRect }, l := List.map encTRect x0 : Row })] : Heap }) ?_ ?_
  ·
    try simp only [go_sem]
    refine loop_w h1 (fun (s : Int × List Int) => [(11, AVal.int IntKind.i64 (Prod.fst s)), (10, AVal.int IntKind.i64 (↑(List.length a0) : Int)), (9, AVal.sref (0, 0) 0 4 (List.length a0)), (3, AVal.sref (1, 0) 0 1 (List.length (Prod.snd s))), (2, AVal.nilsl)]) (fun (s : Int × List Int) => { nx := 2, rows := [(1, Ent.one { sz := 1, d := AVal.int IntKind.i64 0, l := List.map encI (Prod.snd s) : Row }), (0, Ent.one { sz := 4, d := encTRect { : TRect }, l := List.map encTRect x0 : Row })] : Heap }) ?_ ?_
    ·
      refine wk_of [(0, some 0), (1, none)] rfl ?_ ?_
      ·
        try simp only [go_sem]
        exact ⟨.same _ trivial, ⟨.same _ trivial, ⟨wkv_sref (rn_some rfl) rfl, ⟨wkv_nil (rn_none rfl) rfl, .same _ trivial⟩⟩⟩⟩
      ·
        try simp only [go_sem]
        exact ⟨wkR_nilT (rn_none rfl), wkR_typed (rn_some rfl) rfl rfl⟩
    intro n2 s2 o2 h2 he2 hi2
    try simp only [go_sem]
    refine cut_l ?_
    try simp only [go_sem]
    refine ways_d (fun c3 => ?_) (fun c3 => ?_)
    ·
      replace h2 := if_p c3 h2
      obtain ⟨e4, h4, h2⟩ := of_bind h2
      refine cut_j ([(11, AVal.int IntKind.i64 (Prod.fst s2)), (10, AVal.int IntKind.i64 (↑(List.length a0) : Int)), (9, AVal.sref (0, 0) 0 4 (List.length a0)), (3, AVal.sref (1, 0) 0 1 (List.length e4)), (2, AVal.nilsl)]) ({ nx := 2, rows := [(1, Ent.one { sz := 1, d := AVal.int IntKind.i64 0, l := List.map encI e4 : Row }), (0, Ent.one { sz := 4, d := encTRect { : TRect }, l := List.map encTRect x0 : Row })] : Heap }) ?_ ?_
      ·
        try simp only [go_sem]
        obtain ⟨⟨g5_0, g5_1⟩, h4⟩ := of_guard h4
        refine ob ⟨⟨by assumption, by assumption⟩, by assumption⟩ ?_
        obtain ⟨⟨g6_0, g6_1⟩, h4⟩ := of_guard h4
        simp only [W64 g6_0 g6_1]
        obtain ⟨⟨g7_0, g7_1⟩, h4⟩ := of_guard h4
        refine ob ⟨by assumption, by assumption⟩ ?_
        refine cut_l ?_
        try simp only [go_sem]
        refine ways (fun c8 => ?_) (fun c8 => ?_)
        ·
          replace h4 := if_t c8 h4
          try simp only [Bool.and_eq_true, Bool.or_eq_true, Bool.not_eq_true', Bool.not_eq_false', Bool.and_eq_false_imp, Bool.or_eq_false_iff, decide_eq_true_eq, decide_eq_false_iff_not] at c8
          refine ob ⟨⟨⟨⟨by omega, by omega⟩, by omega⟩, ⟨by omega, by omega⟩⟩, by omega⟩ ?_
          obtain rfl := Option.some.inj h4
          refine wk_of [(0, some 0), (1, some 1)] rfl ?_ ?_
          ·
            try simp only [go_sem]
            exact ⟨.same _ trivial, ⟨.same _ trivial, ⟨wkv_sref (rn_some rfl) rfl, ⟨wkv_sref (rn_some rfl) (by simp), .same _ trivial⟩⟩⟩⟩
          ·
            try simp only [go_sem]
            exact ⟨wkR_typed (rn_some rfl) rfl rfl, wkR_typed (rn_some rfl) rfl rfl⟩
        ·
          replace h4 := if_f c8 h4
          try simp only [Bool.and_eq_true, Bool.or_eq_true, Bool.not_eq_true', Bool.not_eq_false', Bool.and_eq_false_imp, Bool.or_eq_false_iff, decide_eq_true_eq, decide_eq_false_iff_not] at c8
          obtain ⟨g9, h4⟩ := of_guard h4
          refine ob ⟨by omega, by assumption⟩ ?_
          obtain rfl := Option.some.inj h4
          refine wk_of [(0, some 0), (1, some 10005)] rfl ?_ ?_
          ·
            try simp only [go_sem]
            exact ⟨.same _ trivial, ⟨.same _ trivial, ⟨wkv_sref (rn_some rfl) rfl, ⟨wkv_sref (rn_some rfl) rfl, .same _ trivial⟩⟩⟩⟩
          ·
            try simp only [go_sem]
            exact ⟨wkR_typed (rn_some rfl) rfl rfl, wkR_typed (rn_some rfl) rfl rfl⟩
      try simp only [go_sem]
      obtain ⟨⟨g10_0, g10_1⟩, h2⟩ := of_guard h2
      simp only [W64 g10_0 g10_1]
      obtain rfl := Option.some.inj h2
      refine nextL (hi2 _ rfl) ?_
      refine wk_of [(0, some 0), (1, some 1)] rfl ?_ ?_
      ·
        try simp only [go_sem]
        exact ⟨.same _ trivial, ⟨.same _ trivial, ⟨wkv_sref (rn_some rfl) rfl, ⟨wkv_sref (rn_some rfl) rfl, .same _ trivial⟩⟩⟩⟩
      ·
        try simp only [go_sem]
        exact ⟨wkR_typed (rn_some rfl) rfl rfl, wkR_typed (rn_some rfl) rfl rfl⟩
    ·
      replace h2 := if_n c3 h2
      obtain rfl := Option.some.inj h2
      obtain rfl := he2 _ rfl
      refine wk_of [(1, some 1), (0, some 0)] rfl ?_ ?_
      ·
        try simp only [go_sem]
        exact ⟨wkv_sref (rn_some rfl) rfl, .same _ trivial⟩
      ·
        try simp only [go_sem]
        exact ⟨wkR_typed (rn_some rfl) rfl rfl, wkR_typed (rn_some rfl) rfl rfl⟩
  try simp only [go_sem]
  refine ret_o ?_
  try simp only [go_sem]
  obtain rfl := Option.some.inj h
  refine wkm [(0, some 0)] rfl ?_ ?_
  ·
    try simp only [go_sem]
    exact wkv_own rfl (rn_notTo rfl) rfl
  ·
    try simp only [go_sem]
    exact wkR_typed (rn_some rfl) rfl rfl
theorem c_slices_DeleteFunc_Rect_o {a0 : (List TRect)} {f1 : (TRect → Option (Bool))} {r : (List TRect)} (h : p_slices_DeleteFunc_Rect_o a0 f1 = some r) {g1 : Nat} {k1 : List AVal} (hk1 : nmL k1) (hf1 : ∀ (x0 : TRect) (y : Bool), f1 x0 = some y → PCalls Try.prog g1 (encTRect x0 :: k1) (.bool y)) : MCalls Try.prog 91 [.sref (0, 0) 0 4 (List.length a0), fn g1 k1] ⟨1, [(0, .one ⟨4, encTRect {}, a0.map encTRect⟩)]⟩ (.sref (1, 0) 0 4 (List.length (r))) ⟨2, [(1, .one ⟨4, encTRect {}, (r).map encTRect⟩)]⟩ := by
  unfold p_slices_DeleteFunc_Rect_o at h
  refine acalls_of (fun _ => none) (fun _ => []) Try.func91 (by unfold Try.f91; rfl) (by kernel_rfl) (by kernel_rfl) ?_
  simp only [awp_seq]
  simp only [argSlots]
  dsimp only [Try.f91]
  try simp only [go_sem]
  obtain ⟨x0, hx0, h⟩ := of_bind h
  refine call_p true (c_slices_IndexFunc_Rect hx0 hk1 hf1) ⟨wkv_own rfl (R0_ne _) rfl, .same _ (by simp only [go_sem]; assumption), trivial⟩ (fun _ => by simp only [go_sem]) ?_
  try simp only [go_sem]
  refine cut_l ?_
  try simp only [go_sem]
  refine ways_d (fun c1 => ?_) (fun c1 => ?_)
  ·
    replace h := if_p c1 h
    refine ret_o ?_
    try simp only [go_sem]
    obtain rfl := Option.some.inj h
    refine wkm [(0, some 0), (1, some 0)] rfl ?_ ?_
    ·
      exact wkv_sref (rn_some rfl) rfl
    ·
      try simp only [go_sem]
      exact wkR_typed (rn_some rfl) rfl rfl
  ·
    replace h := if_n c1 h
    obtain ⟨⟨g2_0, g2_1⟩, h⟩ := of_guard h
    simp only [W64 g2_0 g2_1]
    obtain ⟨e3, h3, h⟩ := of_bind h
    refine cut_j ([(5, AVal.int IntKind.i64 (Prod.fst e3)), (4, AVal.nilsl), (0, AVal.sref (0, 0) 0 4 (List.length a0))]) ({ nx := 1, rows := [(0, Ent.one { sz := 4, d := encTRect { : TRect }, l := List.map encTRect (Prod.snd e3) : Row })] : Heap }) ?_ ?_
    ·
      try simp only [go_sem]
      refine loop_w h3 (fun (s : Int × Int × List TRect) => [(6, AVal.int IntKind.i64 (Prod.fst s)), (5, AVal.int IntKind.i64 (Prod.fst (Prod.snd s))), (4, AVal.nilsl), (0, AVal.sref (0, 0) 0 4 (List.length a0)), (1, fn g1 k1)]) (fun (s : Int × Int × List TRect) => { nx := 1, rows := [(0, Ent.one { sz := 4, d := encTRect { : TRect }, l := List.map encTRect (Prod.snd (Prod.snd s)) : Row })] : Heap }) ?_ ?_
      ·
        refine wk_of [(0, some 0)] rfl ?_ ?_
        ·
          try simp only [go_sem]
          exact ⟨.same _ trivial, ⟨.same _ trivial, ⟨.same _ trivial, ⟨wkv_sref (rn_some rfl) rfl, .same _ (by simp only [go_sem]; assumption)⟩⟩⟩⟩
        ·
          try simp only [go_sem]
          exact wkR_typed (rn_some rfl) rfl rfl
      intro n4 s4 o4 h4 he4 hi4
      try simp only [go_sem]
      refine cut_l ?_
      try simp only [go_sem]
      refine ways_d (fun c5 => ?_) (fun c5 => ?_)
      ·
        replace h4 := if_p c5 h4
        obtain ⟨e6, h6, h4⟩ := of_bind h4
        refine cut_j ([(6, AVal.int IntKind.i64 (Prod.fst s4)), (5, AVal.int IntKind.i64 (Prod.fst e6)), (4, AVal.nilsl), (0, AVal.sref (0, 0) 0 4 (List.length a0)), (1, fn g1 k1)]) ({ nx := 1, rows := [(0, Ent.one { sz := 4, d := encTRect { : TRect }, l := List.map encTRect (Prod.snd e6) : Row })] : Heap }) ?_ ?_
        ·
          try simp only [go_sem]
          obtain ⟨⟨g7_0, g7_1⟩, h6⟩ := of_guard h6
          refine ob ⟨⟨by assumption, by assumption⟩, by assumption⟩ ?_
          obtain ⟨x8, hx8, h6⟩ := of_bind h6
          refine call_p false (hf1 _ _ hx8) ⟨wkE _, lend_self hk1⟩ nofun ?_
          try simp only [go_sem]
          refine cut_l ?_
          try simp only [go_sem]
          refine ways (fun c9 => ?_) (fun c9 => ?_)
          ·
            replace h6 := if_t c9 h6
            try simp only [Bool.and_eq_true, Bool.or_eq_true, Bool.not_eq_true', Bool.not_eq_false', Bool.and_eq_false_imp, Bool.or_eq_false_iff, decide_eq_true_eq, decide_eq_false_iff_not] at c9
            obtain ⟨⟨g10_0, g10_1, g10_2⟩, h6⟩ := of_guard h6
            refine ob ⟨⟨by assumption, by assumption⟩, by assumption⟩ ?_
            obtain ⟨⟨g11_0, g11_1⟩, h6⟩ := of_guard h6
            simp only [W64 g11_0 g11_1]
            obtain rfl := Option.some.inj h6
            refine wk_of [(0, some 0)] rfl ?_ ?_
            ·
              try simp only [go_sem]
              exact ⟨.same _ trivial, ⟨.same _ trivial, ⟨.same _ trivial, ⟨wkv_sref (rn_some rfl) rfl, .same _ (by simp only [go_sem]; assumption)⟩⟩⟩⟩
            ·
              try simp only [go_sem]
              exact wkR_typed (rn_some rfl) rfl rfl
          ·
            replace h6 := if_f c9 h6
            try simp only [Bool.and_eq_true, Bool.or_eq_true, Bool.not_eq_true', Bool.not_eq_false', Bool.and_eq_false_imp, Bool.or_eq_false_iff, decide_eq_true_eq, decide_eq_false_iff_not] at c9
            obtain rfl := Option.some.inj h6
            refine wk_of [(0, some 0)] rfl ?_ ?_
            ·
              try simp only [go_sem]
              exact ⟨.same _ trivial, ⟨.same _ trivial, ⟨.same _ trivial, ⟨wkv_sref (rn_some rfl) rfl, .same _ (by simp only [go_sem]; assumption)⟩⟩⟩⟩
            ·
              try simp only [go_sem]
              exact wkR_typed (rn_some rfl) rfl rfl
        try simp only [go_sem]
        obtain ⟨⟨g12_0, g12_1⟩, h4⟩ := of_guard h4
        simp only [W64 g12_0 g12_1]
        obtain rfl := Option.some.inj h4
        refine nextL (hi4 _ rfl) ?_
        refine wk_of [(0, some 0)] rfl ?_ ?_
        ·
          try simp only [go_sem]
          exact ⟨.same _ trivial, ⟨.same _ trivial, ⟨.same _ trivial, ⟨wkv_sref (rn_some rfl) rfl, .same _ (by simp only [go_sem]; assumption)⟩⟩⟩⟩
        ·
          try simp only [go_sem]
          exact wkR_typed (rn_some rfl) rfl rfl
      ·
        replace h4 := if_n c5 h4
        obtain rfl := Option.some.inj h4
        obtain rfl := he4 _ rfl
        refine wk_of [(0, some 0)] rfl ?_ ?_
        ·
          try simp only [go_sem]
          exact ⟨.same _ trivial, ⟨.same _ trivial, wkv_sref (rn_some rfl) rfl⟩⟩
        ·
          try simp only [go_sem]
          exact wkR_typed (rn_some rfl) rfl rfl
    try simp only [go_sem]
    obtain ⟨⟨g13_0, g13_1, g13_2⟩, h⟩ := of_guard h
    refine ob ⟨⟨by assumption, by assumption⟩, by assumption⟩ ?_
    refine ob ⟨by assumption, by assumption⟩ ?_
    refine ret_o ?_
    try simp only [go_sem]
    obtain ⟨g14, h⟩ := of_guard h
    obtain rfl := Option.some.inj h
    refine wkm [(0, some 0), (1, some 0)] rfl ?_ ?_
    ·
      exact wkv_sref (rn_some rfl) (by rw [List.length_take]; omega)
    ·
      try simp only [go_sem]
      exact wkR_take (rn_some rfl) rfl rfl
theorem c_ref1_Canonical {a0 : (List TRect)} {r : (List TRect)} (h : p_ref1_Canonical a0 = some r)  : PCalls Try.prog 55 [encL 4 encTRect a0] (encL 4 encTRect r) := by
  unfold p_ref1_Canonical at h
  refine pcalls_of (ordOf [(6, [0, 1, 2, 3, 4, 6, 7, 8, 10, 11, 12, 13, 14, 5, 9, 15, 16, 17])]) (fun _ => []) Try.func55 (by unfold Try.f55; rfl) (by kernel_rfl) (by kernel_rfl) ?_
  simp only [awp_seq]
  simp only [argSlots]
  dsimp only [Try.f55]
  try simp only [go_sem]
  obtain ⟨x0, hx0, h⟩ := of_bind h
  refine call_p false (c_ref1_heights hx0) ⟨.same _ trivial, trivial⟩ nofun ?_
  obtain ⟨e1, h1, h⟩ := of_bind h
  refine cut_j ([(4, encL 3 encTEtchhouseref1band e1), (2, AVal.nilsl)]) ({ nx := 0, rows := [] : Heap }) ?_ ?_
  ·
    try simp only [go_sem]
    refine loop_w h1 (fun (s : Int × List TEtchhouseref1band) => [(5, AVal.int IntKind.i64 (Prod.fst s)), (4, AVal.sref (0, 0) 0 3 (List.length (Prod.snd s))), (3, encL 1 encI x0), (2, AVal.nilsl), (0, encL 4 encTRect a0)]) (fun (s : Int × List TEtchhouseref1band) => { nx := 1, rows := [(0, Ent.one { sz := 3, d := encTEtchhouseref1band default, l := List.map encTEtchhouseref1band (Prod.snd s) : Row })] : Heap }) ?_ ?_
    ·
      refine wk_of [(0, none)] rfl ?_ ?_
      ·
        try simp only [go_sem]
        exact ⟨.same _ trivial, ⟨wkv_nil (rn_none rfl) rfl, ⟨.same _ trivial, ⟨.same _ trivial, .same _ trivial⟩⟩⟩⟩
      ·
        try simp only [go_sem]
        exact wkR_nilT (rn_none rfl)
    intro n2 s2 o2 h2 he2 hi2
    try simp only [go_sem]
    refine cut_l ?_
    try simp only [go_sem]
    refine ways_d (fun c3 => ?_) (fun c3 => ?_)
    ·
      replace h2 := if_p c3 h2
      refine cut_l ?_
      try simp only [go_sem]
      obtain ⟨⟨g4_0, g4_1⟩, h2⟩ := of_guard h2
      simp only [W64 g4_0 g4_1]
      obtain ⟨⟨g5_0, g5_1, g5_2⟩, h2⟩ := of_guard h2
      refine ob ⟨⟨⟨by assumption, by omega⟩, ⟨by assumption, by assumption⟩⟩, ⟨by assumption, by omega⟩⟩ ?_
      obtain ⟨x6, hx6, h2⟩ := of_bind h2
      refine qcall_p false (fun _ => c_ref1_row hx6) (fun _ => ⟨.same _ trivial, .same _ trivial, trivial⟩) nofun ?_
      try simp only [go_sem]
      obtain ⟨x7, hx7, h2⟩ := of_bind h2
      refine call_r false [0] (c_ref1_stacked_o hx7) ⟨wkv_sref rfl rfl, wkE _, trivial⟩ (wkH_rho (by decide) rfl ⟨⟨by decide, wkR_typed rfl rfl rfl⟩, trivial⟩) rfl (by simp) (by simp) nofun ?_
      try simp only [go_sem]
      obtain ⟨⟨g8_0, g8_1⟩, h2⟩ := of_guard h2
      simp only [W64 g8_0 g8_1]
      obtain rfl := Option.some.inj h2
      refine nextL (hi2 _ rfl) ?_
      refine wk_of [(0, some 10001)] rfl ?_ ?_
      ·
        try simp only [go_sem]
        exact ⟨.same _ trivial, ⟨wkv_sref (rn_some rfl) rfl, ⟨.same _ trivial, ⟨.same _ trivial, .same _ trivial⟩⟩⟩⟩
      ·
        try simp only [go_sem]
        exact wkR_typed (rn_some rfl) rfl rfl
    ·
      replace h2 := if_n c3 h2
      obtain rfl := Option.some.inj h2
      obtain rfl := he2 _ rfl
      refine wk_of [] rfl ?_ ?_
      ·
        try simp only [go_sem]
        exact ⟨wkv_own rfl (rn_notTo rfl) rfl, .same _ trivial⟩
      ·
        try simp only [go_sem]
  try simp only [go_sem]
  obtain ⟨x9, hx9, h⟩ := of_bind h
  refine call_p false (c_ref1_told hx9) ⟨.same _ trivial, trivial⟩ nofun ?_
  obtain rfl := Option.some.inj h
  exact .same _ trivial
theorem c_ref1_CheckRects {a0 : (List TRect)} {r : Int} (h : p_ref1_CheckRects a0 = some r)  : PCalls Try.prog 17 [encL 4 encTRect a0] (.int .i64 r) := by
  unfold p_ref1_CheckRects at h
  refine pcalls_of (fun _ => none) (fun _ => []) Try.func17 (by unfold Try.f17; rfl) (by kernel_rfl) (by kernel_rfl) ?_
  simp only [awp_seq]
  simp only [argSlots]
  dsimp only [Try.f17]
  try simp only [go_sem]
  refine cut_l ?_
  try simp only [go_sem]
  refine ways_d (fun c0 => ?_) (fun c0 => ?_)
  ·
    replace h := if_p c0 h
    obtain rfl := Option.some.inj h
    exact .same _ trivial
  ·
    replace h := if_n c0 h
    obtain ⟨z1, h1, h⟩ := of_bind h
    refine cut_z z1 (fun (s : Int) => [(2, AVal.int IntKind.i64 s)]) (fun (s : Int) => { nx := 0, rows := [] : Heap }) ?_ (fun e1 hz1 => ?_)
    ·
      try simp only [go_sem]
      refine loop_w h1 (fun (s : Int × Int) => [(3, AVal.int IntKind.i64 (Prod.fst s)), (2, AVal.int IntKind.i64 (Prod.snd s)), (0, encL 4 encTRect a0)]) (fun (s : Int × Int) => { nx := 0, rows := [] : Heap }) ?_ ?_
      ·
        refine wk_of [] rfl ?_ ?_
        ·
          try simp only [go_sem]
          exact ⟨.same _ trivial, ⟨.same _ trivial, .same _ trivial⟩⟩
        ·
          try simp only [go_sem]
      intro n2 s2 o2 h2 he2 hi2
      try simp only [go_sem]
      refine cut_l ?_
      try simp only [go_sem]
      refine ways_d (fun c3 => ?_) (fun c3 => ?_)
      ·
        replace h2 := if_p c3 h2
        refine cut_l ?_
        try simp only [go_sem]
        obtain ⟨g4, h2⟩ := of_guard h2
        refine ob ⟨by assumption, by assumption⟩ ?_
        obtain ⟨x5, hx5, h2⟩ := of_bind h2
        refine call_p false (c_ref1_At hx5) ⟨.same _ trivial, trivial⟩ nofun ?_
        try simp only [go_sem]
        obtain ⟨x6, hx6, h2⟩ := of_bind h2
        refine qcall_p false (fun hg => c_ref1_At (if_t hg hx6)) (fun _ => ⟨.same _ trivial, trivial⟩) nofun ?_
        try simp only [go_sem]
        refine ob (by simp) ?_
        obtain ⟨x7, hx7, h2⟩ := of_bind h2
        refine qcall_p false (fun hg => c_ref1_At (if_t hg hx7)) (fun _ => ⟨.same _ trivial, trivial⟩) nofun ?_
        try simp only [go_sem]
        refine ob (by simp) ?_
        obtain ⟨x8, hx8, h2⟩ := of_bind h2
        refine qcall_p false (fun hg => c_ref1_At (if_t hg hx8)) (fun _ => ⟨.same _ trivial, trivial⟩) nofun ?_
        try simp only [go_sem]
        refine ob (by simp) ?_
        refine cut_l ?_
        try simp only [go_sem]
        refine ways (fun c9 => ?_) (fun c9 => ?_)
        ·
          replace h2 := if_t c9 h2
          try simp only [Bool.and_eq_true, Bool.or_eq_true, Bool.not_eq_true', Bool.not_eq_false', Bool.and_eq_false_imp, Bool.or_eq_false_iff, decide_eq_true_eq, decide_eq_false_iff_not] at c9
          obtain rfl := Option.some.inj h2
          obtain rfl := he2 _ rfl
          obtain rfl := Option.some.inj h
          exact .same _ trivial
        ·
          replace h2 := if_f c9 h2
          try simp only [Bool.and_eq_true, Bool.or_eq_true, Bool.not_eq_true', Bool.not_eq_false', Bool.and_eq_false_imp, Bool.or_eq_false_iff, decide_eq_true_eq, decide_eq_false_iff_not] at c9
          refine ob (by simp) ?_
          refine cut_l ?_
          try simp only [go_sem]
          refine ways (fun c10 => ?_) (fun c10 => ?_)
          ·
            replace h2 := if_t c10 h2
            try simp only [Bool.and_eq_true, Bool.or_eq_true, Bool.not_eq_true', Bool.not_eq_false', Bool.and_eq_false_imp, Bool.or_eq_false_iff, decide_eq_true_eq, decide_eq_false_iff_not] at c10
            obtain rfl := Option.some.inj h2
            obtain rfl := he2 _ rfl
            obtain rfl := Option.some.inj h
            exact .same _ trivial
          ·
            replace h2 := if_f c10 h2
            try simp only [Bool.and_eq_true, Bool.or_eq_true, Bool.not_eq_true', Bool.not_eq_false', Bool.and_eq_false_imp, Bool.or_eq_false_iff, decide_eq_true_eq, decide_eq_false_iff_not] at c10
            simp only [W64 (n := Prod.fst s2 + 1) (by omega) (by omega)]
            obtain rfl := Option.some.inj h2
            refine nextL (hi2 _ rfl) ?_
            refine wk_of [] rfl ?_ ?_
            ·
              try simp only [go_sem]
              exact ⟨.same _ trivial, ⟨.same _ trivial, .same _ trivial⟩⟩
            ·
              try simp only [go_sem]
      ·
        replace h2 := if_n c3 h2
        obtain rfl := Option.some.inj h2
        obtain rfl := he2 _ rfl
        refine zend ?_
        refine wk_of [] rfl ?_ ?_
        ·
          try simp only [go_sem]
          exact .same _ trivial
        ·
          try simp only [go_sem]
    subst hz1
    simp only [Sum.elim_inr] at h
    try simp only [go_sem]
    obtain rfl := Option.some.inj h
    exact .same _ trivial
theorem c_ref1_IsPoint {a0 : TPoint} {r : Bool} (h : p_ref1_IsPoint a0 = some r)  : PCalls Try.prog 63 [encTPoint a0] (.bool r) := by
  unfold p_ref1_IsPoint at h
  refine pcalls_of (fun _ => none) (fun _ => []) Try.func63 (by unfold Try.f63; rfl) (by kernel_rfl) (by kernel_rfl) ?_
  simp only [awp_seq]
  simp only [argSlots]
  dsimp only [Try.f63]
  try simp only [go_sem]
  obtain ⟨x0, hx0, h⟩ := of_bind h
  refine call_p false (c_ref1_At hx0) ⟨.same _ trivial, trivial⟩ nofun ?_
  try simp only [go_sem]
  obtain ⟨x1, hx1, h⟩ := of_bind h
  refine qcall_p false (fun hg => c_ref1_At (if_t hg hx1)) (fun _ => ⟨.same _ trivial, trivial⟩) nofun ?_
  try simp only [go_sem]
  obtain rfl := Option.some.inj h
  exact .same _ trivial
theorem c_ref1_TurnRect {a0 : TRect} {a1 : TTurn} {r : TRect} (h : p_ref1_TurnRect a0 a1 = some r)  : PCalls Try.prog 75 [encTRect a0, encTTurn a1] (encTRect r) := by
  unfold p_ref1_TurnRect at h
  refine pcalls_of (ordOf [(1, [0, 2, 7, 9, 1, 3, 4, 5, 6, 8, 10, 11, 12, 13, 14, 15, 16, 17])]) (fun _ => []) Try.func75 (by unfold Try.f75; rfl) (by kernel_rfl) (by kernel_rfl) ?_
  simp only [awp_seq]
  simp only [argSlots]
  dsimp only [Try.f75]
  try simp only [go_sem]
  obtain ⟨x0, hx0, h⟩ := of_bind h
  refine qcall_p false (fun _ => c_ref1_TurnPoint hx0) (fun _ => ⟨wkE _, wkE _, trivial⟩) nofun ?_
  try simp only [go_sem]
  obtain ⟨x1, hx1, h⟩ := of_bind h
  refine qcall_p false (fun _ => c_ref1_TurnPoint hx1) (fun _ => ⟨wkE _, wkE _, trivial⟩) nofun ?_
  try simp only [go_sem]
  obtain rfl := Option.some.inj h
  exact wkE _
theorem c_shape_IsPoint {a0 : TPoint} {r : Bool} (h : p_shape_IsPoint a0 = some r)  : PCalls Try.prog 61 [encTPoint a0] (.bool r) := by
  unfold p_shape_IsPoint at h
  refine pcalls_of (fun _ => none) (fun _ => []) Try.func61 (by unfold Try.f61; rfl) (by kernel_rfl) (by kernel_rfl) ?_
  simp only [awp_seq]
  simp only [argSlots]
  dsimp only [Try.f61]
  try simp only [go_sem]
  obtain ⟨x0, hx0, h⟩ := of_bind h
  refine call_p false (c_shape_IsAt hx0) ⟨.same _ trivial, trivial⟩ nofun ?_
  try simp only [go_sem]
  obtain ⟨x1, hx1, h⟩ := of_bind h
  refine qcall_p false (fun hg => c_shape_IsAt (if_t hg hx1)) (fun _ => ⟨.same _ trivial, trivial⟩) nofun ?_
  try simp only [go_sem]
  obtain rfl := Option.some.inj h
  exact .same _ trivial
theorem c_shape_SetOf {a0 : (List TRect)} {r : (List TShapeBand)} (h : p_shape_SetOf a0 = some r)  : PCalls Try.prog 52 [encL 4 encTRect a0] (encL 3 encTShapeBand r) := by
  unfold p_shape_SetOf at h
  refine pcalls_of (ordOf [(20, [0, 10, 1, 2, 3, 4, 5, 6, 7, 8, 9, 11, 12])]) (prsOf [(20, [(1, 11), (2, 11), (4, 11), (5, 11), (6, 11), (9, 11), (78, 78)])]) Try.func52 (by unfold Try.f52; rfl) (by kernel_rfl) (by kernel_rfl) ?_
  simp only [awp_seq]
  simp only [argSlots]
  dsimp only [Try.f52]
  try simp only [go_sem]
  obtain ⟨x0, hx0, h⟩ := of_bind h
  refine call_r false [] (c_slices_Clone_Rect_o hx0) ⟨.same _ trivial, trivial⟩ (wkH_rho (by decide) rfl trivial) rfl (by simp) (by simp) nofun ?_
  try simp only [go_sem]
  obtain ⟨x1, hx1, h⟩ := of_bind h
  refine call_r false [0] (c_slices_SortFunc_Rect_o hx1 (by simp only [go_sem]) (fun _ _ _ h => c_shape_SetOf_1 h)) ⟨wkv_sref rfl rfl, wkv_same (by simp only [go_sem]) rfl, trivial⟩ (wkH_rho (by decide) rfl ⟨⟨by decide, wkR_typed rfl rfl rfl⟩, trivial⟩) rfl (by simp) (by simp) nofun ?_
  try simp only [go_sem]
  obtain ⟨e2, h2, h⟩ := of_bind h
  refine cut_j ([(3, AVal.ptr (1, 0) 1 0 0), (0, AVal.sref (0, 0) 0 4 (List.length x0)), (2, AVal.nilsl)]) ({ nx := 3, rows := [(2, Ent.one { sz := 1, d := AVal.int IntKind.i64 0, l := List.map encI e2 : Row }), (0, Ent.one { sz := 4, d := encTRect { : TRect }, l := List.map encTRect x1 : Row }), (1, Ent.one { sz := 1, d := AVal.nilsl, l := [AVal.sref (2, 0) 0 1 (List.length e2)] : Row })] : Heap }) ?_ ?_
  ·
    try simp only [go_sem]
    refine loop_w h2 (fun (s : Int × List Int) => [(16, AVal.int IntKind.i64 (Prod.fst s)), (15, AVal.int IntKind.i64 (↑(List.length x0) : Int)), (14, AVal.sref (0, 0) 0 4 (List.length x0)), (3, AVal.ptr (1, 0) 1 0 0), (0, AVal.sref (0, 0) 0 4 (List.length x0)), (2, AVal.nilsl)]) (fun (s : Int × List Int) => { nx := 3, rows := [(2, Ent.one { sz := 1, d := AVal.int IntKind.i64 0, l := List.map encI (Prod.snd s) : Row }), (0, Ent.one { sz := 4, d := encTRect { : TRect }, l := List.map encTRect x1 : Row }), (1, Ent.one { sz := 1, d := AVal.nilsl, l := [AVal.sref (2, 0) 0 1 (List.length (Prod.snd s))] : Row })] : Heap }) ?_ ?_
    ·
      refine wk_of [(0, some 0), (1, some 1), (2, none)] rfl ?_ ?_
      ·
        try simp only [go_sem]
        exact ⟨.same _ trivial, ⟨.same _ trivial, ⟨wkv_sref (rn_some rfl) rfl, ⟨.ptr _ _ _ _ _ (rn_some rfl), ⟨wkv_sref (rn_some rfl) rfl, .same _ trivial⟩⟩⟩⟩⟩
      ·
        try simp only [go_sem]
        exact ⟨wkR_nilT (rn_none rfl), ⟨wkR_typed (rn_some rfl) rfl rfl, wkR_box (rn_some rfl) rfl (wkv_nil (rn_none rfl) rfl)⟩⟩
    intro n3 s3 o3 h3 he3 hi3
    try simp only [go_sem]
    refine cut_l ?_
    try simp only [go_sem]
    refine ways_d (fun c4 => ?_) (fun c4 => ?_)
    ·
      replace h3 := if_p c4 h3
      refine cut_l ?_
      try simp only [go_sem]
      obtain ⟨⟨g5_0, g5_1⟩, h3⟩ := of_guard h3
      refine ob ⟨⟨by assumption, by assumption⟩, by assumption⟩ ?_
      obtain ⟨g6, h3⟩ := of_guard h3
      refine ob ⟨by omega, by assumption⟩ ?_
      obtain ⟨⟨g7_0, g7_1⟩, h3⟩ := of_guard h3
      simp only [W64 g7_0 g7_1]
      obtain ⟨g8, h3⟩ := of_guard h3
      obtain ⟨g9, h3⟩ := of_guard h3
      obtain rfl := Option.some.inj h3
      refine nextL (hi3 _ rfl) ?_
      refine wk_of [(0, some 0), (1, some 1), (2, some 6)] rfl ?_ ?_
      ·
        try simp only [go_sem]
        exact ⟨.same _ trivial, ⟨.same _ trivial, ⟨wkv_sref (rn_some rfl) rfl, ⟨.ptr _ _ _ _ _ (rn_some rfl), ⟨wkv_sref (rn_some rfl) rfl, .same _ trivial⟩⟩⟩⟩⟩
      ·
        try simp only [go_sem]
        exact ⟨wkR_typed (rn_some rfl) rfl rfl, ⟨wkR_typed (rn_some rfl) rfl rfl, wkR_box (rn_some rfl) rfl (wkv_sref (rn_some rfl) rfl)⟩⟩
    ·
      replace h3 := if_n c4 h3
      obtain ⟨g10, h3⟩ := of_guard h3
      obtain rfl := Option.some.inj h3
      obtain rfl := he3 _ rfl
      refine wk_of [(1, some 1), (0, some 0), (2, some 2)] rfl ?_ ?_
      ·
        try simp only [go_sem]
        exact ⟨.ptr _ _ _ _ _ (rn_some rfl), ⟨wkv_sref (rn_some rfl) rfl, .same _ trivial⟩⟩
      ·
        try simp only [go_sem]
        exact ⟨wkR_typed (rn_some rfl) rfl rfl, ⟨wkR_typed (rn_some rfl) rfl rfl, wkR_box (rn_some rfl) rfl (wkv_sref (rn_some rfl) rfl)⟩⟩
  try simp only [go_sem]
  obtain ⟨x11, hx11, h⟩ := of_bind h
  refine call_r false [2] (c_slices_Sort_int_o hx11) ⟨wkv_sref rfl rfl, trivial⟩ (wkH_rho (by decide) rfl ⟨⟨by decide, wkR_typed rfl rfl rfl⟩, trivial⟩) rfl (by simp) (by simp) nofun ?_
  try simp only [go_sem]
  obtain ⟨g12, h⟩ := of_guard h
  obtain ⟨x13, hx13, h⟩ := of_bind h
  refine call_r false [2] (c_slices_Compact_int_o hx13) ⟨wkv_sref rfl (Eq.symm (by assumption)), trivial⟩ (wkH_rho (by decide) rfl ⟨⟨by decide, wkR_typed rfl rfl rfl⟩, trivial⟩) rfl (by simp) (by simp) nofun ?_
  try simp only [go_sem]
  obtain ⟨e14, h14, h⟩ := of_bind h
  refine cut_j ([(6, encL 3 encTShapeBand e14), (2, AVal.nilsl)]) ({ nx := 7, rows := [] : Heap }) ?_ ?_
  ·
    try simp only [go_sem]
    refine loop_w h14 (fun (s : Int × List TRect × List TShapeBand × Int) => [(9, AVal.ptr (5, 0) 1 0 0), (8, AVal.int IntKind.i64 (Prod.fst s)), (7, AVal.sref (7, 0) 0 4 (List.length (Prod.fst (Prod.snd s)))), (6, AVal.sref (8, 0) 0 3 (List.length (Prod.fst (Prod.snd (Prod.snd s))))), (3, AVal.ptr (1, 0) 1 0 0), (0, AVal.sref (0, 0) 0 4 (List.length x0)), (2, AVal.nilsl)]) (fun (s : Int × List TRect × List TShapeBand × Int) => { nx := 9, rows := [(7, Ent.one { sz := 4, d := encTRect default, l := List.map encTRect (Prod.fst (Prod.snd s)) : Row }), (8, Ent.one { sz := 3, d := encTShapeBand default, l := List.map encTShapeBand (Prod.fst (Prod.snd (Prod.snd s))) : Row }), (5, Ent.one { sz := 1, d := AVal.int IntKind.i64 0, l := [AVal.int IntKind.i64 (Prod.snd (Prod.snd (Prod.snd s)))] : Row }), (3, Ent.one { sz := 1, d := AVal.int IntKind.i64 0, l := List.map encI x13 : Row }), (0, Ent.one { sz := 4, d := encTRect { : TRect }, l := List.map encTRect x1 : Row }), (1, Ent.one { sz := 1, d := AVal.nilsl, l := [AVal.sref (3, 0) 0 1 (List.length x13)] : Row })] : Heap }) ?_ ?_
    ·
      refine wk_of [(5, some 5), (7, none), (8, none), (1, some 1), (0, some 0), (3, some 3)] rfl ?_ ?_
      ·
        try simp only [go_sem]
        exact ⟨.ptr _ _ _ _ _ (rn_some rfl), ⟨.same _ trivial, ⟨wkv_nil (rn_none rfl) rfl, ⟨wkv_nil (rn_none rfl) rfl, ⟨.ptr _ _ _ _ _ (rn_some rfl), ⟨wkv_sref (rn_some rfl) rfl, .same _ trivial⟩⟩⟩⟩⟩⟩
      ·
        try simp only [go_sem]
        exact ⟨wkR_nilT (rn_none rfl), ⟨wkR_nilT (rn_none rfl), ⟨wkR_box (rn_some rfl) rfl (.same _ trivial), ⟨wkR_typed (rn_some rfl) rfl rfl, ⟨wkR_typed (rn_some rfl) rfl rfl, wkR_box (rn_some rfl) rfl (wkv_sref (rn_some rfl) rfl)⟩⟩⟩⟩⟩
    intro n15 s15 o15 h15 he15 hi15
    try simp only [go_sem]
    obtain ⟨⟨g16_0, g16_1⟩, h15⟩ := of_guard h15
    simp only [W64 g16_0 g16_1]
    refine cut_l ?_
    try simp only [go_sem]
    refine ways_d (fun c17 => ?_) (fun c17 => ?_)
    ·
      replace h15 := if_p c17 h15
      obtain ⟨e18, h18, h15⟩ := of_bind h15
      refine cut_j ([(9, AVal.ptr (5, 0) 1 0 0), (8, AVal.int IntKind.i64 (Prod.fst e18)), (7, AVal.sref (7, 0) 0 4 (List.length (Prod.fst (Prod.snd e18)))), (6, AVal.sref (8, 0) 0 3 (List.length (Prod.fst (Prod.snd (Prod.snd e18))))), (3, AVal.ptr (1, 0) 1 0 0), (0, AVal.sref (0, 0) 0 4 (List.length x0)), (2, AVal.nilsl)]) ({ nx := 9, rows := [(7, Ent.one { sz := 4, d := encTRect default, l := List.map encTRect (Prod.fst (Prod.snd e18)) : Row }), (8, Ent.one { sz := 3, d := encTShapeBand default, l := List.map encTShapeBand (Prod.fst (Prod.snd (Prod.snd e18))) : Row }), (5, Ent.one { sz := 1, d := AVal.int IntKind.i64 0, l := [AVal.int IntKind.i64 (Prod.snd (Prod.snd (Prod.snd e18)))] : Row }), (3, Ent.one { sz := 1, d := AVal.int IntKind.i64 0, l := List.map encI x13 : Row }), (0, Ent.one { sz := 4, d := encTRect { : TRect }, l := List.map encTRect x1 : Row }), (1, Ent.one { sz := 1, d := AVal.nilsl, l := [AVal.sref (3, 0) 0 1 (List.length x13)] : Row })] : Heap }) ?_ ?_
      ·
        try simp only [go_sem]
        obtain ⟨x19, hx19, h18⟩ := of_bind h18
        refine call_r true [7] (c_slices_DeleteFunc_Rect_o hx19 (by simp only [go_sem]) (fun _ _ h => c_shape_SetOf_2 h)) ⟨wkv_sref rfl rfl, wkv_fnA rfl ⟨wkv_box rfl (rho_none (by decide)) rfl (by simp only [go_sem]) (wkv_own rfl (rho_none (by decide)) rfl), wkv_box rfl (rho_none (by decide)) rfl (by simp only [go_sem]) (.same _ trivial), trivial⟩, trivial⟩ (wkH_rho (by decide) rfl ⟨⟨by decide, wkR_typed rfl rfl rfl⟩, trivial⟩) rfl (by simp) (by simp) (fun _ => free_rows (by simp only [go_sem]) (by simp only [go_sem])) ?_
        try simp only [go_sem]
        obtain ⟨e20, h20, h18⟩ := of_bind h18
        refine cut_j ([(7, AVal.sref (9, 0) 0 4 (List.length (Prod.snd e20))), (9, AVal.ptr (5, 0) 1 0 0), (8, AVal.int IntKind.i64 (Prod.fst e20)), (6, AVal.sref (8, 0) 0 3 (List.length (Prod.fst (Prod.snd (Prod.snd s15))))), (3, AVal.ptr (1, 0) 1 0 0), (0, AVal.sref (0, 0) 0 4 (List.length x0)), (2, AVal.nilsl)]) ({ nx := 10, rows := [(9, Ent.one { sz := 4, d := encTRect { : TRect }, l := List.map encTRect (Prod.snd e20) : Row }), (8, Ent.one { sz := 3, d := encTShapeBand default, l := List.map encTShapeBand (Prod.fst (Prod.snd (Prod.snd s15))) : Row }), (5, Ent.one { sz := 1, d := AVal.int IntKind.i64 0, l := [AVal.int IntKind.i64 (Prod.snd (Prod.snd (Prod.snd s15)))] : Row }), (3, Ent.one { sz := 1, d := AVal.int IntKind.i64 0, l := List.map encI x13 : Row }), (0, Ent.one { sz := 4, d := encTRect { : TRect }, l := List.map encTRect x1 : Row }), (1, Ent.one { sz := 1, d := AVal.nilsl, l := [AVal.sref (3, 0) 0 1 (List.length x13)] : Row })] : Heap }) ?_ ?_
        ·
          try simp only [go_sem]
          refine loop_w h20 (fun (s : Int × List TRect) => [(7, AVal.sref (9, 0) 0 4 (List.length (Prod.snd s))), (9, AVal.ptr (5, 0) 1 0 0), (8, AVal.int IntKind.i64 (Prod.fst s)), (6, AVal.sref (8, 0) 0 3 (List.length (Prod.fst (Prod.snd (Prod.snd s15))))), (3, AVal.ptr (1, 0) 1 0 0), (0, AVal.sref (0, 0) 0 4 (List.length x0)), (2, AVal.nilsl)]) (fun (s : Int × List TRect) => { nx := 10, rows := [(9, Ent.one { sz := 4, d := encTRect { : TRect }, l := List.map encTRect (Prod.snd s) : Row }), (8, Ent.one { sz := 3, d := encTShapeBand default, l := List.map encTShapeBand (Prod.fst (Prod.snd (Prod.snd s15))) : Row }), (5, Ent.one { sz := 1, d := AVal.int IntKind.i64 0, l := [AVal.int IntKind.i64 (Prod.snd (Prod.snd (Prod.snd s15)))] : Row }), (3, Ent.one { sz := 1, d := AVal.int IntKind.i64 0, l := List.map encI x13 : Row }), (0, Ent.one { sz := 4, d := encTRect { : TRect }, l := List.map encTRect x1 : Row }), (1, Ent.one { sz := 1, d := AVal.nilsl, l := [AVal.sref (3, 0) 0 1 (List.length x13)] : Row })] : Heap }) ?_ ?_
          ·
            refine wk_of [(9, some 9), (5, some 5), (8, some 8), (1, some 1), (0, some 0), (3, some 3)] rfl ?_ ?_
            ·
              try simp only [go_sem]
              exact ⟨wkv_sref (rn_some rfl) rfl, ⟨.ptr _ _ _ _ _ (rn_some rfl), ⟨.same _ trivial, ⟨wkv_sref (rn_some rfl) rfl, ⟨.ptr _ _ _ _ _ (rn_some rfl), ⟨wkv_sref (rn_some rfl) rfl, .same _ trivial⟩⟩⟩⟩⟩⟩
            ·
              try simp only [go_sem]
              exact ⟨wkR_typed (rn_some rfl) rfl rfl, ⟨wkR_typed (rn_some rfl) rfl rfl, ⟨wkR_box (rn_some rfl) rfl (.same _ trivial), ⟨wkR_typed (rn_some rfl) rfl rfl, ⟨wkR_typed (rn_some rfl) rfl rfl, wkR_box (rn_some rfl) rfl (wkv_sref (rn_some rfl) rfl)⟩⟩⟩⟩⟩
          intro n21 s21 o21 h21 he21 hi21
          try simp only [go_sem]
          obtain ⟨⟨g22_0, g22_1, g22_2, g22_3⟩, h21⟩ := of_guard h21
          refine ob ⟨⟨⟨by assumption, by assumption⟩, by assumption⟩, by assumption⟩ ?_
          refine cut_l ?_
          try simp only [go_sem]
          refine ways (fun c23 => ?_) (fun c23 => ?_)
          ·
            replace h21 := if_t c23 h21
            try simp only [Bool.and_eq_true, Bool.or_eq_true, Bool.not_eq_true', Bool.not_eq_false', Bool.and_eq_false_imp, Bool.or_eq_false_iff, decide_eq_true_eq, decide_eq_false_iff_not] at c23
            refine cut_l ?_
            try simp only [go_sem]
            obtain ⟨⟨g24_0, g24_1, g24_2⟩, h21⟩ := of_guard h21
            refine ob ⟨⟨⟨by assumption, by omega⟩, by assumption⟩, ⟨by omega, by assumption⟩⟩ ?_
            obtain ⟨⟨g25_0, g25_1⟩, h21⟩ := of_guard h21
            simp only [W64 g25_0 g25_1]
            obtain ⟨g26, h21⟩ := of_guard h21
            obtain rfl := Option.some.inj h21
            refine nextL (hi21 _ rfl) ?_
            refine wk_of [(9, some 10011), (5, some 5), (8, some 8), (1, some 1), (0, some 0), (3, some 3)] rfl ?_ ?_
            ·
              try simp only [go_sem]
              exact ⟨wkv_sref (rn_some rfl) rfl, ⟨.ptr _ _ _ _ _ (rn_some rfl), ⟨.same _ trivial, ⟨wkv_sref (rn_some rfl) rfl, ⟨.ptr _ _ _ _ _ (rn_some rfl), ⟨wkv_sref (rn_some rfl) rfl, .same _ trivial⟩⟩⟩⟩⟩⟩
            ·
              try simp only [go_sem]
              exact ⟨wkR_typed (rn_some rfl) rfl rfl, ⟨wkR_typed (rn_some rfl) rfl rfl, ⟨wkR_box (rn_some rfl) rfl (.same _ trivial), ⟨wkR_typed (rn_some rfl) rfl rfl, ⟨wkR_typed (rn_some rfl) rfl rfl, wkR_box (rn_some rfl) rfl (wkv_sref (rn_some rfl) rfl)⟩⟩⟩⟩⟩
          ·
            replace h21 := if_f c23 h21
            try simp only [Bool.and_eq_true, Bool.or_eq_true, Bool.not_eq_true', Bool.not_eq_false', Bool.and_eq_false_imp, Bool.or_eq_false_iff, decide_eq_true_eq, decide_eq_false_iff_not] at c23
            obtain ⟨g27, h21⟩ := of_guard h21
            obtain rfl := Option.some.inj h21
            obtain rfl := he21 _ rfl
            refine wk_of [(9, some 9), (5, some 5), (8, some 8), (1, some 1), (0, some 0), (3, some 3)] rfl ?_ ?_
            ·
              try simp only [go_sem]
              exact ⟨wkv_sref (rn_some rfl) rfl, ⟨.ptr _ _ _ _ _ (rn_some rfl), ⟨.same _ trivial, ⟨wkv_sref (rn_some rfl) rfl, ⟨.ptr _ _ _ _ _ (rn_some rfl), ⟨wkv_sref (rn_some rfl) rfl, .same _ trivial⟩⟩⟩⟩⟩⟩
            ·
              try simp only [go_sem]
              exact ⟨wkR_typed (rn_some rfl) rfl rfl, ⟨wkR_typed (rn_some rfl) rfl rfl, ⟨wkR_box (rn_some rfl) rfl (.same _ trivial), ⟨wkR_typed (rn_some rfl) rfl rfl, ⟨wkR_typed (rn_some rfl) rfl rfl, wkR_box (rn_some rfl) rfl (wkv_sref (rn_some rfl) rfl)⟩⟩⟩⟩⟩
        try simp only [go_sem]
        simp only [W64 (n := Prod.snd (Prod.snd (Prod.snd s15)) + 1) (by omega) (by omega)]
        obtain ⟨⟨g28_0, g28_1, g28_2, g28_3⟩, h18⟩ := of_guard h18
        refine ob ⟨⟨⟨⟨by assumption, by omega⟩, by assumption⟩, ⟨by assumption, by assumption⟩⟩, by assumption⟩ ?_
        obtain ⟨x29, hx29, h18⟩ := of_bind h18
        refine rcall_r false [9] (c_shape_stretches_o hx29) ⟨wkv_sref rfl rfl, trivial⟩ (wkH_rho (by decide) rfl ⟨⟨by decide, wkR_typed rfl rfl rfl⟩, trivial⟩) rfl (by decide) (by simp [argNames, namesA]) (by rfl) nofun ?_
        try simp only [go_sem]
        refine ob ⟨by omega, by omega⟩ ?_
        refine ob ⟨by omega, by omega⟩ ?_
        refine ob ⟨by omega, by omega⟩ ?_
        refine ob ⟨by omega, by omega⟩ ?_
        refine ob ⟨by omega, by omega⟩ ?_
        refine ob ⟨by omega, by omega⟩ ?_
        obtain ⟨x30, hx30, h18⟩ := of_bind h18
        refine call_r false [8] (c_shape_Set_push_o hx30) ⟨wkv_sref rfl rfl, wkE _, trivial⟩ (wkH_rho (by decide) rfl ⟨⟨by decide, wkR_typed rfl rfl rfl⟩, trivial⟩) rfl (by simp) (by simp) nofun ?_
        try simp only [go_sem]
        obtain ⟨g31, h18⟩ := of_guard h18
        obtain ⟨g32, h18⟩ := of_guard h18
        obtain rfl := Option.some.inj h18
        refine wk_of [(5, some 5), (7, some 9), (8, some 10010), (1, some 1), (0, some 0), (3, some 3)] rfl ?_ ?_
        ·
          try simp only [go_sem]
          exact ⟨.ptr _ _ _ _ _ (rn_some rfl), ⟨.same _ trivial, ⟨wkv_sref (rn_some rfl) (Eq.symm (by assumption)), ⟨wkv_sref (rn_some rfl) rfl, ⟨.ptr _ _ _ _ _ (rn_some rfl), ⟨wkv_sref (rn_some rfl) rfl, .same _ trivial⟩⟩⟩⟩⟩⟩
        ·
          try simp only [go_sem]
          exact ⟨wkR_typed (rn_some rfl) rfl rfl, ⟨wkR_typed (rn_some rfl) rfl rfl, ⟨wkR_box (rn_some rfl) rfl (.same _ trivial), ⟨wkR_typed (rn_some rfl) rfl rfl, ⟨wkR_typed (rn_some rfl) rfl rfl, wkR_box (rn_some rfl) rfl (wkv_sref (rn_some rfl) rfl)⟩⟩⟩⟩⟩
      try simp only [go_sem]
      obtain ⟨⟨g33_0, g33_1⟩, h15⟩ := of_guard h15
      simp only [W64 g33_0 g33_1]
      obtain ⟨g34, h15⟩ := of_guard h15
      obtain rfl := Option.some.inj h15
      refine nextL (hi15 _ rfl) ?_
      refine wk_of [(5, some 9), (7, some 7), (8, some 8), (1, some 1), (0, some 0), (3, some 3)] rfl ?_ ?_
      ·
        try simp only [go_sem]
        exact ⟨.ptr _ _ _ _ _ (rn_some rfl), ⟨.same _ trivial, ⟨wkv_sref (rn_some rfl) rfl, ⟨wkv_sref (rn_some rfl) rfl, ⟨.ptr _ _ _ _ _ (rn_some rfl), ⟨wkv_sref (rn_some rfl) rfl, .same _ trivial⟩⟩⟩⟩⟩⟩
      ·
        try simp only [go_sem]
        exact ⟨wkR_typed (rn_some rfl) rfl rfl, ⟨wkR_typed (rn_some rfl) rfl rfl, ⟨wkR_box (rn_some rfl) rfl (.same _ trivial), ⟨wkR_typed (rn_some rfl) rfl rfl, ⟨wkR_typed (rn_some rfl) rfl rfl, wkR_box (rn_some rfl) rfl (wkv_sref (rn_some rfl) rfl)⟩⟩⟩⟩⟩
    ·
      replace h15 := if_n c17 h15
      obtain rfl := Option.some.inj h15
      obtain rfl := he15 _ rfl
      refine wk_of [] rfl ?_ ?_
      ·
        try simp only [go_sem]
        exact ⟨wkv_own rfl (rn_notTo rfl) rfl, .same _ trivial⟩
      ·
        try simp only [go_sem]
  try simp only [go_sem]
  obtain rfl := Option.some.inj h
  exact .same _ trivial
theorem c_shape_isRect {a0 : TRect} {r : Bool} (h : p_shape_isRect a0 = some r)  : PCalls Try.prog 56 [encTRect a0] (.bool r) := by
  unfold p_shape_isRect at h
  refine pcalls_of (fun _ => none) (fun _ => []) Try.func56 (by unfold Try.f56; rfl) (by kernel_rfl) (by kernel_rfl) ?_
  simp only [awp_seq]
  simp only [argSlots]
  dsimp only [Try.f56]
  try simp only [go_sem]
  obtain ⟨x0, hx0, h⟩ := of_bind h
  refine call_p false (c_shape_IsAt hx0) ⟨.same _ trivial, trivial⟩ nofun ?_
  try simp only [go_sem]
  obtain ⟨x1, hx1, h⟩ := of_bind h
  refine qcall_p false (fun hg => c_shape_IsAt (if_t hg hx1)) (fun _ => ⟨.same _ trivial, trivial⟩) nofun ?_
  try simp only [go_sem]
  obtain ⟨x2, hx2, h⟩ := of_bind h
  refine qcall_p false (fun hg => c_shape_IsAt (if_t hg hx2)) (fun _ => ⟨.same _ trivial, trivial⟩) nofun ?_
  try simp only [go_sem]
  obtain ⟨x3, hx3, h⟩ := of_bind h
  refine qcall_p false (fun hg => c_shape_IsAt (if_t hg hx3)) (fun _ => ⟨.same _ trivial, trivial⟩) nofun ?_
  try simp only [go_sem]
  obtain rfl := Option.some.inj h
  exact .same _ trivial
theorem c_ref1_CheckRegion {a0 : (List TRect)} {r : Int} (h : p_ref1_CheckRegion a0 = some r)  : PCalls Try.prog 19 [encL 4 encTRect a0] (.int .i64 r) := by
  unfold p_ref1_CheckRegion at h
  refine pcalls_of (ordOf [(7, [0, 1, 2, 3, 5, 6, 7, 4, 8, 9, 10])]) (fun _ => []) Try.func19 (by unfold Try.f19; rfl) (by kernel_rfl) (by kernel_rfl) ?_
  simp only [awp_seq]
  simp only [argSlots]
  dsimp only [Try.f19]
  try simp only [go_sem]
  obtain ⟨x0, hx0, h⟩ := of_bind h
  refine call_p false (c_ref1_CheckRects hx0) ⟨.same _ trivial, trivial⟩ nofun ?_
  try simp only [go_sem]
  refine cut_l ?_
  try simp only [go_sem]
  refine ways_n (fun c1 => ?_) (fun c1 => ?_)
  ·
    replace h := if_n c1 h
    obtain rfl := Option.some.inj h
    exact .same _ trivial
  ·
    replace h := if_p c1 h
    obtain ⟨z2, h2, h⟩ := of_bind h
    refine cut_z z2 (fun (s : Int) => [(2, AVal.int IntKind.i64 s), (0, encL 4 encTRect a0)]) (fun (s : Int) => { nx := 0, rows := [] : Heap }) ?_ (fun e2 hz2 => ?_)
    ·
      try simp only [go_sem]
      refine loop_w h2 (fun (s : Int × Int) => [(4, AVal.int IntKind.i64 (Prod.fst s)), (2, AVal.int IntKind.i64 (Prod.snd s)), (0, encL 4 encTRect a0)]) (fun (s : Int × Int) => { nx := 0, rows := [] : Heap }) ?_ ?_
      ·
        refine wk_of [] rfl ?_ ?_
        ·
          try simp only [go_sem]
          exact ⟨.same _ trivial, ⟨.same _ trivial, .same _ trivial⟩⟩
        ·
          try simp only [go_sem]
      intro n3 s3 o3 h3 he3 hi3
      try simp only [go_sem]
      refine cut_l ?_
      try simp only [go_sem]
      refine ways_d (fun c4 => ?_) (fun c4 => ?_)
      ·
        replace h3 := if_p c4 h3
        refine cut_l ?_
        try simp only [go_sem]
        obtain ⟨⟨g5_0, g5_1⟩, h3⟩ := of_guard h3
        simp only [W64 g5_0 g5_1]
        obtain ⟨⟨g6_0, g6_1⟩, h3⟩ := of_guard h3
        refine ob ⟨⟨by assumption, by omega⟩, ⟨by assumption, by assumption⟩⟩ ?_
        obtain ⟨x7, hx7, h3⟩ := of_bind h3
        refine qcall_p false (fun _ => c_ref1_before hx7) (fun _ => ⟨wkE _, wkE _, trivial⟩) nofun ?_
        try simp only [go_sem]
        refine cut_l ?_
        try simp only [go_sem]
        refine ways (fun c8 => ?_) (fun c8 => ?_)
        ·
          replace h3 := if_t c8 h3
          try simp only [Bool.and_eq_true, Bool.or_eq_true, Bool.not_eq_true', Bool.not_eq_false', Bool.and_eq_false_imp, Bool.or_eq_false_iff, decide_eq_true_eq, decide_eq_false_iff_not] at c8
          obtain rfl := Option.some.inj h3
          obtain rfl := he3 _ rfl
          obtain rfl := Option.some.inj h
          exact .same _ trivial
        ·
          replace h3 := if_f c8 h3
          try simp only [Bool.and_eq_true, Bool.or_eq_true, Bool.not_eq_true', Bool.not_eq_false', Bool.and_eq_false_imp, Bool.or_eq_false_iff, decide_eq_true_eq, decide_eq_false_iff_not] at c8
          obtain ⟨⟨g9_0, g9_1⟩, h3⟩ := of_guard h3
          simp only [W64 g9_0 g9_1]
          obtain rfl := Option.some.inj h3
          refine nextL (hi3 _ rfl) ?_
          refine wk_of [] rfl ?_ ?_
          ·
            try simp only [go_sem]
            exact ⟨.same _ trivial, ⟨.same _ trivial, .same _ trivial⟩⟩
          ·
            try simp only [go_sem]
      ·
        replace h3 := if_n c4 h3
        obtain rfl := Option.some.inj h3
        obtain rfl := he3 _ rfl
        refine zend ?_
        refine wk_of [] rfl ?_ ?_
        ·
          try simp only [go_sem]
          exact ⟨.same _ trivial, .same _ trivial⟩
        ·
          try simp only [go_sem]
    subst hz2
    simp only [Sum.elim_inr] at h
    try simp only [go_sem]
    obtain ⟨x10, hx10, h⟩ := of_bind h
    refine call_p false (c_ref1_Canonical hx10) ⟨.same _ trivial, trivial⟩ nofun ?_
    obtain ⟨x11, hx11, h⟩ := of_bind h
    refine call_p false (c_ref1_SameRects hx11) ⟨.same _ trivial, .same _ trivial, trivial⟩ nofun ?_
    try simp only [go_sem]
    refine cut_l ?_
    try simp only [go_sem]
    refine ways (fun c12 => ?_) (fun c12 => ?_)
    ·
      replace h := if_t c12 h
      try simp only [Bool.and_eq_true, Bool.or_eq_true, Bool.not_eq_true', Bool.not_eq_false', Bool.and_eq_false_imp, Bool.or_eq_false_iff, decide_eq_true_eq, decide_eq_false_iff_not] at c12
      obtain rfl := Option.some.inj h
      exact .same _ trivial
    ·
      replace h := if_f c12 h
      try simp only [Bool.and_eq_true, Bool.or_eq_true, Bool.not_eq_true', Bool.not_eq_false', Bool.and_eq_false_imp, Bool.or_eq_false_iff, decide_eq_true_eq, decide_eq_false_iff_not] at c12
      obtain rfl := Option.some.inj h
      exact .same _ trivial
theorem c_ref1_CheckTurn {a0 : TTurn} {r : Int} (h : p_ref1_CheckTurn a0 = some r)  : PCalls Try.prog 31 [encTTurn a0] (.int .i64 r) := by
  unfold p_ref1_CheckTurn at h
  refine pcalls_of (fun _ => none) (fun _ => []) Try.func31 (by unfold Try.f31; rfl) (by kernel_rfl) (by kernel_rfl) ?_
  simp only [awp_seq]
  simp only [argSlots]
  dsimp only [Try.f31]
  try simp only [go_sem]
  obtain ⟨x0, hx0, h⟩ := of_bind h
  refine call_p false (c_ref1_within hx0) ⟨.same _ trivial, .same _ trivial, .same _ trivial, trivial⟩ nofun ?_
  try simp only [go_sem]
  obtain ⟨x1, hx1, h⟩ := of_bind h
  refine qcall_p false (fun hg => c_ref1_IsPoint (if_t hg hx1)) (fun _ => ⟨wkE _, trivial⟩) nofun ?_
  try simp only [go_sem]
  refine ob (by simp) ?_
  refine cut_l ?_
  try simp only [go_sem]
  refine ways (fun c2 => ?_) (fun c2 => ?_)
  ·
    replace h := if_t c2 h
    try simp only [Bool.and_eq_true, Bool.or_eq_true, Bool.not_eq_true', Bool.not_eq_false', Bool.and_eq_false_imp, Bool.or_eq_false_iff, decide_eq_true_eq, decide_eq_false_iff_not] at c2
    obtain rfl := Option.some.inj h
    exact .same _ trivial
  ·
    replace h := if_f c2 h
    try simp only [Bool.and_eq_true, Bool.or_eq_true, Bool.not_eq_true', Bool.not_eq_false', Bool.and_eq_false_imp, Bool.or_eq_false_iff, decide_eq_true_eq, decide_eq_false_iff_not] at c2
    obtain rfl := Option.some.inj h
    exact .same _ trivial
theorem c_shape_CheckRects {a0 : (List TRect)} {r : Int} (h : p_shape_CheckRects a0 = some r)  : PCalls Try.prog 16 [encL 4 encTRect a0] (.int .i64 r) := by
  unfold p_shape_CheckRects at h
  refine pcalls_of (fun _ => none) (fun _ => []) Try.func16 (by unfold Try.f16; rfl) (by kernel_rfl) (by kernel_rfl) ?_
  simp only [awp_seq]
  simp only [argSlots]
  dsimp only [Try.f16]
  try simp only [go_sem]
  refine cut_l ?_
  try simp only [go_sem]
  refine ways_d (fun c0 => ?_) (fun c0 => ?_)
  ·
    replace h := if_p c0 h
    obtain rfl := Option.some.inj h
    exact .same _ trivial
  ·
    replace h := if_n c0 h
    obtain ⟨z1, h1, h⟩ := of_bind h
    refine cut_z z1 (fun (s : Int) => [(2, AVal.int IntKind.i64 s)]) (fun (s : Int) => { nx := 0, rows := [] : Heap }) ?_ (fun e1 hz1 => ?_)
    ·
      try simp only [go_sem]
      refine loop_w h1 (fun (s : Int × Int) => [(10, AVal.int IntKind.i64 (Prod.fst s)), (9, AVal.int IntKind.i64 (↑(List.length a0) : Int)), (8, encL 4 encTRect a0), (2, AVal.int IntKind.i64 (Prod.snd s))]) (fun (s : Int × Int) => { nx := 0, rows := [] : Heap }) ?_ ?_
      ·
        refine wk_of [] rfl ?_ ?_
        ·
          try simp only [go_sem]
          exact ⟨.same _ trivial, ⟨.same _ trivial, ⟨.same _ trivial, .same _ trivial⟩⟩⟩
        ·
          try simp only [go_sem]
      intro n2 s2 o2 h2 he2 hi2
      try simp only [go_sem]
      refine cut_l ?_
      try simp only [go_sem]
      refine ways_d (fun c3 => ?_) (fun c3 => ?_)
      ·
        replace h2 := if_p c3 h2
        refine cut_l ?_
        try simp only [go_sem]
        obtain ⟨g4, h2⟩ := of_guard h2
        refine ob ⟨by assumption, by assumption⟩ ?_
        obtain ⟨x5, hx5, h2⟩ := of_bind h2
        refine call_p false (c_shape_isRect hx5) ⟨wkE _, trivial⟩ nofun ?_
        try simp only [go_sem]
        refine cut_l ?_
        try simp only [go_sem]
        refine ways (fun c6 => ?_) (fun c6 => ?_)
        ·
          replace h2 := if_t c6 h2
          try simp only [Bool.and_eq_true, Bool.or_eq_true, Bool.not_eq_true', Bool.not_eq_false', Bool.and_eq_false_imp, Bool.or_eq_false_iff, decide_eq_true_eq, decide_eq_false_iff_not] at c6
          obtain rfl := Option.some.inj h2
          obtain rfl := he2 _ rfl
          obtain rfl := Option.some.inj h
          exact .same _ trivial
        ·
          replace h2 := if_f c6 h2
          try simp only [Bool.and_eq_true, Bool.or_eq_true, Bool.not_eq_true', Bool.not_eq_false', Bool.and_eq_false_imp, Bool.or_eq_false_iff, decide_eq_true_eq, decide_eq_false_iff_not] at c6
          refine ob (by simp) ?_
          refine cut_l ?_
          try simp only [go_sem]
          refine ways (fun c7 => ?_) (fun c7 => ?_)
          ·
            replace h2 := if_t c7 h2
            try simp only [Bool.and_eq_true, Bool.or_eq_true, Bool.not_eq_true', Bool.not_eq_false', Bool.and_eq_false_imp, Bool.or_eq_false_iff, decide_eq_true_eq, decide_eq_false_iff_not] at c7
            obtain rfl := Option.some.inj h2
            obtain rfl := he2 _ rfl
            obtain rfl := Option.some.inj h
            exact .same _ trivial
          ·
            replace h2 := if_f c7 h2
            try simp only [Bool.and_eq_true, Bool.or_eq_true, Bool.not_eq_true', Bool.not_eq_false', Bool.and_eq_false_imp, Bool.or_eq_false_iff, decide_eq_true_eq, decide_eq_false_iff_not] at c7
            simp only [W64 (n := Prod.fst s2 + 1) (by omega) (by omega)]
            obtain rfl := Option.some.inj h2
            refine nextL (hi2 _ rfl) ?_
            refine wk_of [] rfl ?_ ?_
            ·
              try simp only [go_sem]
              exact ⟨.same _ trivial, ⟨.same _ trivial, ⟨.same _ trivial, .same _ trivial⟩⟩⟩
            ·
              try simp only [go_sem]
      ·
        replace h2 := if_n c3 h2
        obtain rfl := Option.some.inj h2
        obtain rfl := he2 _ rfl
        refine zend ?_
        refine wk_of [] rfl ?_ ?_
        ·
          try simp only [go_sem]
          exact .same _ trivial
        ·
          try simp only [go_sem]
    subst hz1
    simp only [Sum.elim_inr] at h
    try simp only [go_sem]
    obtain rfl := Option.some.inj h
    exact .same _ trivial
theorem c_shape_CheckTurn {a0 : TTurn} {r : Int} (h : p_shape_CheckTurn a0 = some r)  : PCalls Try.prog 30 [encTTurn a0] (.int .i64 r) := by
  unfold p_shape_CheckTurn at h
  refine pcalls_of (fun _ => none) (fun _ => []) Try.func30 (by unfold Try.f30; rfl) (by kernel_rfl) (by kernel_rfl) ?_
  simp only [awp_seq]
  simp only [argSlots]
  dsimp only [Try.f30]
  try simp only [go_sem]
  obtain ⟨x0, hx0, h⟩ := of_bind h
  refine call_p false (c_shape_within hx0) ⟨.same _ trivial, .same _ trivial, .same _ trivial, trivial⟩ nofun ?_
  try simp only [go_sem]
  obtain ⟨x1, hx1, h⟩ := of_bind h
  refine qcall_p false (fun hg => c_shape_IsPoint (if_t hg hx1)) (fun _ => ⟨wkE _, trivial⟩) nofun ?_
  try simp only [go_sem]
  refine ob (by simp) ?_
  refine cut_l ?_
  try simp only [go_sem]
  refine ways (fun c2 => ?_) (fun c2 => ?_)
  ·
    replace h := if_t c2 h
    try simp only [Bool.and_eq_true, Bool.or_eq_true, Bool.not_eq_true', Bool.not_eq_false', Bool.and_eq_false_imp, Bool.or_eq_false_iff, decide_eq_true_eq, decide_eq_false_iff_not] at c2
    obtain rfl := Option.some.inj h
    exact .same _ trivial
  ·
    replace h := if_f c2 h
    try simp only [Bool.and_eq_true, Bool.or_eq_true, Bool.not_eq_true', Bool.not_eq_false', Bool.and_eq_false_imp, Bool.or_eq_false_iff, decide_eq_true_eq, decide_eq_false_iff_not] at c2
    obtain rfl := Option.some.inj h
    exact .same _ trivial
theorem c_shape_Set_Fits {a0 : (List TShapeBand)} {r : Bool} (h : p_shape_Set_Fits a0 = some r)  : PCalls Try.prog 74 [encL 3 encTShapeBand a0] (.bool r) := by
  unfold p_shape_Set_Fits at h
  refine pcalls_of (fun _ => none) (fun _ => []) Try.func74 (by unfold Try.f74; rfl) (by kernel_rfl) (by kernel_rfl) ?_
  simp only [awp_seq]
  simp only [argSlots]
  dsimp only [Try.f74]
  try simp only [go_sem]
  obtain ⟨x0, hx0, h⟩ := of_bind h
  refine qcall_p false (fun hg => c_shape_Set_Around (if_t hg hx0)) (fun _ => ⟨.same _ trivial, trivial⟩) nofun ?_
  obtain ⟨x1, hx1, h⟩ := of_bind h
  refine qcall_p false (fun hg => c_shape_isRect (if_t hg hx1)) (fun _ => ⟨wkE _, trivial⟩) nofun ?_
  try simp only [go_sem]
  refine ob (by simp) ?_
  obtain rfl := Option.some.inj h
  exact .same _ trivial
theorem c_shape_Set_TurnSet {a0 : (List TShapeBand)} {a1 : TTurn} {r : (List TShapeBand)} (h : p_shape_Set_TurnSet a0 a1 = some r)  : PCalls Try.prog 73 [encL 3 encTShapeBand a0, encTTurn a1] (encL 3 encTShapeBand r) := by
  unfold p_shape_Set_TurnSet at h
  refine pcalls_of (fun _ => none) (fun _ => []) Try.func73 (by unfold Try.f73; rfl) (by kernel_rfl) (by kernel_rfl) ?_
  simp only [awp_seq]
  simp only [argSlots]
  dsimp only [Try.f73]
  try simp only [go_sem]
  obtain ⟨x0, hx0, h⟩ := of_bind h
  refine call_r false [] (c_shape_Set_Rects_o hx0) ⟨.same _ trivial, trivial⟩ (wkH_rho (by decide) rfl trivial) rfl (by simp) (by simp) nofun ?_
  try simp only [go_sem]
  obtain ⟨e1, h1, h⟩ := of_bind h
  refine cut_j ([(5, AVal.sref (1, 0) 0 4 (List.length x0)), (4, AVal.nilsl)]) ({ nx := 2, rows := [(1, Ent.one { sz := 4, d := encTRect { : TRect }, l := List.map encTRect e1 : Row })] : Heap }) ?_ ?_
  ·
    try simp only [go_sem]
    refine loop_w h1 (fun (s : Int × List TRect) => [(11, AVal.int IntKind.i64 (Prod.fst s)), (10, AVal.int IntKind.i64 (↑(List.length x0) : Int)), (5, AVal.sref (1, 0) 0 4 (List.length x0)), (4, AVal.nilsl), (3, AVal.ptr (0, 0) 4 0 0)]) (fun (s : Int × List TRect) => { nx := 2, rows := [(1, Ent.one { sz := 4, d := encTRect { : TRect }, l := List.map encTRect (Prod.snd s) : Row }), (0, Ent.one { sz := 4, d := encTTurn a1, l := [encTTurn a1] : Row })] : Heap }) ?_ ?_
    ·
      refine wk_of [(1, some 1), (0, some 0)] rfl ?_ ?_
      ·
        try simp only [go_sem]
        exact ⟨.same _ trivial, ⟨.same _ trivial, ⟨wkv_sref (rn_some rfl) rfl, ⟨.same _ trivial, .ptr _ _ _ _ _ (rn_some rfl)⟩⟩⟩⟩
      ·
        try simp only [go_sem]
        exact ⟨wkR_typed (rn_some rfl) rfl rfl, wkR_box (rn_some rfl) rfl (wkE _)⟩
    intro n2 s2 o2 h2 he2 hi2
    try simp only [go_sem]
    refine cut_l ?_
    try simp only [go_sem]
    refine ways_d (fun c3 => ?_) (fun c3 => ?_)
    ·
      replace h2 := if_p c3 h2
      refine cut_l ?_
      try simp only [go_sem]
      obtain ⟨⟨g4_0, g4_1⟩, h2⟩ := of_guard h2
      refine ob ⟨⟨by assumption, by assumption⟩, by assumption⟩ ?_
      obtain ⟨x5, hx5, h2⟩ := of_bind h2
      refine qcall_p false (fun _ => c_shape_TurnRect hx5) (fun _ => ⟨wkE _, wkE _, trivial⟩) nofun ?_
      try simp only [go_sem]
      refine ob ⟨⟨by assumption, by assumption⟩, by assumption⟩ ?_
      obtain ⟨⟨g6_0, g6_1⟩, h2⟩ := of_guard h2
      simp only [W64 g6_0 g6_1]
      obtain ⟨g7, h2⟩ := of_guard h2
      obtain rfl := Option.some.inj h2
      refine nextL (hi2 _ rfl) ?_
      refine wk_of [(1, some 1), (0, some 0)] rfl ?_ ?_
      ·
        try simp only [go_sem]
        exact ⟨.same _ trivial, ⟨.same _ trivial, ⟨wkv_sref (rn_some rfl) rfl, ⟨.same _ trivial, .ptr _ _ _ _ _ (rn_some rfl)⟩⟩⟩⟩
      ·
        try simp only [go_sem]
        exact ⟨wkR_typed (rn_some rfl) rfl rfl, wkR_box (rn_some rfl) rfl (wkE _)⟩
    ·
      replace h2 := if_n c3 h2
      obtain ⟨g8, h2⟩ := of_guard h2
      obtain rfl := Option.some.inj h2
      obtain rfl := he2 _ rfl
      refine wk_of [(1, some 1)] rfl ?_ ?_
      ·
        try simp only [go_sem]
        exact ⟨wkv_sref (rn_some rfl) rfl, .same _ trivial⟩
      ·
        try simp only [go_sem]
        exact wkR_typed (rn_some rfl) rfl rfl
  try simp only [go_sem]
  obtain ⟨g9, h⟩ := of_guard h
  obtain ⟨x10, hx10, h⟩ := of_bind h
  refine call_z (c_shape_SetOf hx10) ⟨wkv_part rfl (R0_ne _) (by omega), trivial⟩ ?_
  try simp only [go_sem]
  obtain rfl := Option.some.inj h
  exact .same _ trivial
theorem c_ref1_TurnedRegion {a0 : (List TRect)} {a1 : TTurn} {r : (List TRect) × Int} (h : p_ref1_TurnedRegion a0 a1 = some r)  : PCalls Try.prog 37 [encL 4 encTRect a0, encTTurn a1] (tup [encL 4 encTRect r.1, .int .i64 r.2]) := by
  unfold p_ref1_TurnedRegion at h
  refine pcalls_of (fun _ => none) (fun _ => []) Try.func37 (by unfold Try.f37; rfl) (by kernel_rfl) (by kernel_rfl) ?_
  simp only [awp_seq]
  simp only [argSlots]
  dsimp only [Try.f37]
  try simp only [go_sem]
  obtain ⟨x0, hx0, h⟩ := of_bind h
  refine call_p false (c_ref1_CheckRegion hx0) ⟨.same _ trivial, trivial⟩ nofun ?_
  try simp only [go_sem]
  refine cut_l ?_
  try simp only [go_sem]
  refine ways_n (fun c1 => ?_) (fun c1 => ?_)
  ·
    replace h := if_n c1 h
    obtain rfl := Option.some.inj h
    exact wkv_tup ⟨wkv_nilL, .same _ trivial, trivial⟩
  ·
    replace h := if_p c1 h
    obtain ⟨x2, hx2, h⟩ := of_bind h
    refine call_p false (c_ref1_CheckTurn hx2) ⟨wkE _, trivial⟩ nofun ?_
    try simp only [go_sem]
    refine cut_l ?_
    try simp only [go_sem]
    refine ways_n (fun c3 => ?_) (fun c3 => ?_)
    ·
      replace h := if_n c3 h
      obtain rfl := Option.some.inj h
      exact wkv_tup ⟨wkv_nilL, .same _ trivial, trivial⟩
    ·
      replace h := if_p c3 h
      obtain ⟨z4, h4, h⟩ := of_bind h
      refine cut_z z4 (fun (s : List TRect × Int × List TRect) => [(8, encL 4 encTRect (Prod.fst s)), (5, AVal.int IntKind.i64 (Prod.fst (Prod.snd s))), (4, encL 4 encTRect (Prod.snd (Prod.snd s)))]) (fun (s : List TRect × Int × List TRect) => { nx := 1, rows := [] : Heap }) ?_ (fun e4 hz4 => ?_)
      ·
        try simp only [go_sem]
        refine loop_w h4 (fun (s : Int × List TRect × Int × List TRect) => [(9, AVal.int IntKind.i64 (Prod.fst s)), (8, AVal.sref (1, 0) 0 4 (List.length (Prod.fst (Prod.snd s)))), (5, AVal.int IntKind.i64 (Prod.fst (Prod.snd (Prod.snd s)))), (4, encL 4 encTRect (Prod.snd (Prod.snd (Prod.snd s)))), (3, AVal.ptr (0, 0) 4 0 0), (0, encL 4 encTRect a0)]) (fun (s : Int × List TRect × Int × List TRect) => { nx := 2, rows := [(1, Ent.one { sz := 4, d := encTRect default, l := List.map encTRect (Prod.fst (Prod.snd s)) : Row }), (0, Ent.one { sz := 4, d := encTTurn a1, l := [encTTurn a1] : Row })] : Heap }) ?_ ?_
        ·
          refine wk_of [(1, none), (0, some 0)] rfl ?_ ?_
          ·
            try simp only [go_sem]
            exact ⟨.same _ trivial, ⟨wkv_nil (rn_none rfl) rfl, ⟨.same _ trivial, ⟨wkv_nilL, ⟨.ptr _ _ _ _ _ (rn_some rfl), .same _ trivial⟩⟩⟩⟩⟩
          ·
            try simp only [go_sem]
            exact ⟨wkR_nilT (rn_none rfl), wkR_box (rn_some rfl) rfl (wkE _)⟩
        intro n5 s5 o5 h5 he5 hi5
        try simp only [go_sem]
        refine cut_l ?_
        try simp only [go_sem]
        refine ways_d (fun c6 => ?_) (fun c6 => ?_)
        ·
          replace h5 := if_p c6 h5
          refine cut_l ?_
          try simp only [go_sem]
          obtain ⟨g7, h5⟩ := of_guard h5
          refine ob ⟨by assumption, by assumption⟩ ?_
          obtain ⟨x8, hx8, h5⟩ := of_bind h5
          refine qcall_p false (fun _ => c_ref1_TurnRect hx8) (fun _ => ⟨wkE _, wkE _, trivial⟩) nofun ?_
          try simp only [go_sem]
          obtain ⟨x9, hx9, h5⟩ := of_bind h5
          refine call_p false (c_ref1_At hx9) ⟨.same _ trivial, trivial⟩ nofun ?_
          try simp only [go_sem]
          obtain ⟨x10, hx10, h5⟩ := of_bind h5
          refine qcall_p false (fun hg => c_ref1_At (if_t hg hx10)) (fun _ => ⟨.same _ trivial, trivial⟩) nofun ?_
          try simp only [go_sem]
          refine ob (by simp) ?_
          obtain ⟨x11, hx11, h5⟩ := of_bind h5
          refine qcall_p false (fun hg => c_ref1_At (if_t hg hx11)) (fun _ => ⟨.same _ trivial, trivial⟩) nofun ?_
          try simp only [go_sem]
          refine ob (by simp) ?_
          obtain ⟨x12, hx12, h5⟩ := of_bind h5
          refine qcall_p false (fun hg => c_ref1_At (if_t hg hx12)) (fun _ => ⟨.same _ trivial, trivial⟩) nofun ?_
          try simp only [go_sem]
          refine ob (by simp) ?_
          refine cut_l ?_
          try simp only [go_sem]
          refine ways (fun c13 => ?_) (fun c13 => ?_)
          ·
            replace h5 := if_t c13 h5
            try simp only [Bool.and_eq_true, Bool.or_eq_true, Bool.not_eq_true', Bool.not_eq_false', Bool.and_eq_false_imp, Bool.or_eq_false_iff, decide_eq_true_eq, decide_eq_false_iff_not] at c13
            obtain rfl := Option.some.inj h5
            obtain rfl := he5 _ rfl
            obtain rfl := Option.some.inj h
            exact wkv_tup ⟨wkv_nilL, .same _ trivial, trivial⟩
          ·
            replace h5 := if_f c13 h5
            try simp only [Bool.and_eq_true, Bool.or_eq_true, Bool.not_eq_true', Bool.not_eq_false', Bool.and_eq_false_imp, Bool.or_eq_false_iff, decide_eq_true_eq, decide_eq_false_iff_not] at c13
            obtain ⟨g14, h5⟩ := of_guard h5
            refine ob ⟨by omega, by assumption⟩ ?_
            obtain ⟨⟨g15_0, g15_1⟩, h5⟩ := of_guard h5
            simp only [W64 g15_0 g15_1]
            obtain rfl := Option.some.inj h5
            refine nextL (hi5 _ rfl) ?_
            refine wk_of [(1, some 10003), (0, some 0)] rfl ?_ ?_
            ·
              try simp only [go_sem]
              exact ⟨.same _ trivial, ⟨wkv_sref (rn_some rfl) rfl, ⟨.same _ trivial, ⟨.same _ trivial, ⟨.ptr _ _ _ _ _ (rn_some rfl), .same _ trivial⟩⟩⟩⟩⟩
            ·
              try simp only [go_sem]
              exact ⟨wkR_typed (rn_some rfl) rfl rfl, wkR_box (rn_some rfl) rfl (wkE _)⟩
        ·
          replace h5 := if_n c6 h5
          obtain rfl := Option.some.inj h5
          obtain rfl := he5 _ rfl
          refine zend ?_
          refine wk_of [] rfl ?_ ?_
          ·
            try simp only [go_sem]
            exact ⟨wkv_own rfl (rn_notTo rfl) rfl, ⟨.same _ trivial, .same _ trivial⟩⟩
          ·
            try simp only [go_sem]
      subst hz4
      simp only [Sum.elim_inr] at h
      try simp only [go_sem]
      obtain ⟨x16, hx16, h⟩ := of_bind h
      refine call_p false (c_ref1_Canonical hx16) ⟨.same _ trivial, trivial⟩ nofun ?_
      obtain ⟨x17, hx17, h⟩ := of_bind h
      refine call_p false (c_ref1_limited hx17) ⟨.same _ trivial, trivial⟩ nofun ?_
      try simp only [go_sem]
      obtain rfl := Option.some.inj h
      exact wkv_same (by simp only [go_sem]) rfl
theorem c_shape_CheckRegion {a0 : (List TRect)} {r : Int} (h : p_shape_CheckRegion a0 = some r)  : PCalls Try.prog 18 [encL 4 encTRect a0] (.int .i64 r) := by
  unfold p_shape_CheckRegion at h
  refine pcalls_of (ordOf [(7, [0, 1, 2, 3, 5, 6, 7, 4, 8, 9, 10, 11, 12])]) (prsOf [(7, [(8, 11)])]) Try.func18 (by unfold Try.f18; rfl) (by kernel_rfl) (by kernel_rfl) ?_
  simp only [awp_seq]
  simp only [argSlots]
  dsimp only [Try.f18]
  try simp only [go_sem]
  obtain ⟨x0, hx0, h⟩ := of_bind h
  refine call_p false (c_shape_CheckRects hx0) ⟨.same _ trivial, trivial⟩ nofun ?_
  try simp only [go_sem]
  refine cut_l ?_
  try simp only [go_sem]
  refine ways_n (fun c1 => ?_) (fun c1 => ?_)
  ·
    replace h := if_n c1 h
    obtain rfl := Option.some.inj h
    exact .same _ trivial
  ·
    replace h := if_p c1 h
    obtain ⟨z2, h2, h⟩ := of_bind h
    refine cut_z z2 (fun (s : Int) => [(2, AVal.int IntKind.i64 s), (0, encL 4 encTRect a0)]) (fun (s : Int) => { nx := 0, rows := [] : Heap }) ?_ (fun e2 hz2 => ?_)
    ·
      try simp only [go_sem]
      refine loop_w h2 (fun (s : Int × Int) => [(4, AVal.int IntKind.i64 (Prod.fst s)), (2, AVal.int IntKind.i64 (Prod.snd s)), (0, encL 4 encTRect a0)]) (fun (s : Int × Int) => { nx := 0, rows := [] : Heap }) ?_ ?_
      ·
        refine wk_of [] rfl ?_ ?_
        ·
          try simp only [go_sem]
          exact ⟨.same _ trivial, ⟨.same _ trivial, .same _ trivial⟩⟩
        ·
          try simp only [go_sem]
      intro n3 s3 o3 h3 he3 hi3
      try simp only [go_sem]
      refine cut_l ?_
      try simp only [go_sem]
      refine ways_d (fun c4 => ?_) (fun c4 => ?_)
      ·
        replace h3 := if_p c4 h3
        refine cut_l ?_
        try simp only [go_sem]
        obtain ⟨⟨g5_0, g5_1⟩, h3⟩ := of_guard h3
        simp only [W64 g5_0 g5_1]
        obtain ⟨⟨g6_0, g6_1⟩, h3⟩ := of_guard h3
        refine ob ⟨⟨by assumption, by omega⟩, ⟨by assumption, by assumption⟩⟩ ?_
        refine ob ⟨by intro h1 h2; simp only [h1, h2, Bool.and_self, Bool.not_true, Bool.not_false, Bool.and_true, Bool.true_and], by simp⟩ ?_
        refine cut_l ?_
        try simp only [go_sem]
        refine ways (fun c7 => ?_) (fun c7 => ?_)
        ·
          replace h3 := if_t c7 h3
          try simp only [Bool.and_eq_true, Bool.or_eq_true, Bool.not_eq_true', Bool.not_eq_false', Bool.and_eq_false_imp, Bool.or_eq_false_iff, decide_eq_true_eq, decide_eq_false_iff_not] at c7
          obtain rfl := Option.some.inj h3
          obtain rfl := he3 _ rfl
          obtain rfl := Option.some.inj h
          exact .same _ trivial
        ·
          replace h3 := if_f c7 h3
          try simp only [Bool.and_eq_true, Bool.or_eq_true, Bool.not_eq_true', Bool.not_eq_false', Bool.and_eq_false_imp, Bool.or_eq_false_iff, decide_eq_true_eq, decide_eq_false_iff_not] at c7
          obtain ⟨⟨g8_0, g8_1⟩, h3⟩ := of_guard h3
          simp only [W64 g8_0 g8_1]
          obtain rfl := Option.some.inj h3
          refine nextL (hi3 _ rfl) ?_
          refine wk_of [] rfl ?_ ?_
          ·
            try simp only [go_sem]
            exact ⟨.same _ trivial, ⟨.same _ trivial, .same _ trivial⟩⟩
          ·
            try simp only [go_sem]
      ·
        replace h3 := if_n c4 h3
        obtain rfl := Option.some.inj h3
        obtain rfl := he3 _ rfl
        refine zend ?_
        refine wk_of [] rfl ?_ ?_
        ·
          try simp only [go_sem]
          exact ⟨.same _ trivial, .same _ trivial⟩
        ·
          try simp only [go_sem]
    subst hz2
    simp only [Sum.elim_inr] at h
    try simp only [go_sem]
    obtain ⟨x9, hx9, h⟩ := of_bind h
    refine call_p false (c_shape_SetOf hx9) ⟨.same _ trivial, trivial⟩ nofun ?_
    obtain ⟨x10, hx10, h⟩ := of_bind h
    refine call_p false (c_shape_Set_Rects hx10) ⟨.same _ trivial, trivial⟩ nofun ?_
    obtain ⟨x11, hx11, h⟩ := of_bind h
    refine call_p false (c_slices_Equal_Rect hx11) ⟨.same _ trivial, .same _ trivial, trivial⟩ nofun ?_
    try simp only [go_sem]
    refine cut_l ?_
    try simp only [go_sem]
    refine ways (fun c12 => ?_) (fun c12 => ?_)
    ·
      replace h := if_t c12 h
      try simp only [Bool.and_eq_true, Bool.or_eq_true, Bool.not_eq_true', Bool.not_eq_false', Bool.and_eq_false_imp, Bool.or_eq_false_iff, decide_eq_true_eq, decide_eq_false_iff_not] at c12
      obtain rfl := Option.some.inj h
      exact .same _ trivial
    ·
      replace h := if_f c12 h
      try simp only [Bool.and_eq_true, Bool.or_eq_true, Bool.not_eq_true', Bool.not_eq_false', Bool.and_eq_false_imp, Bool.or_eq_false_iff, decide_eq_true_eq, decide_eq_false_iff_not] at c12
      obtain rfl := Option.some.inj h
      exact .same _ trivial
theorem c_shape_Area {a0 : (List TRect)} {r : Int × Int} (h : p_shape_Area a0 = some r)  : PCalls Try.prog 49 [encL 4 encTRect a0] (tup [.int .i64 r.1, .int .i64 r.2]) := by
  unfold p_shape_Area at h
  refine pcalls_of (fun _ => none) (fun _ => []) Try.func49 (by unfold Try.f49; rfl) (by kernel_rfl) (by kernel_rfl) ?_
  simp only [awp_seq]
  simp only [argSlots]
  dsimp only [Try.f49]
  try simp only [go_sem]
  obtain ⟨x0, hx0, h⟩ := of_bind h
  refine call_p false (c_shape_CheckRegion hx0) ⟨.same _ trivial, trivial⟩ nofun ?_
  try simp only [go_sem]
  refine cut_l ?_
  try simp only [go_sem]
  refine ways_n (fun c1 => ?_) (fun c1 => ?_)
  ·
    replace h := if_n c1 h
    obtain rfl := Option.some.inj h
    exact wkv_same (by simp only [go_sem]) rfl
  ·
    replace h := if_p c1 h
    obtain ⟨x2, hx2, h⟩ := of_bind h
    refine call_p false (c_shape_AreaOf hx2) ⟨.same _ trivial, trivial⟩ nofun ?_
    obtain rfl := Option.some.inj h
    exact wkv_same (by simp only [go_sem]) rfl
theorem c_shape_TurnedRegion {a0 : (List TRect)} {a1 : TTurn} {r : (List TRect) × Int} (h : p_shape_TurnedRegion a0 a1 = some r)  : PCalls Try.prog 36 [encL 4 encTRect a0, encTTurn a1] (tup [encL 4 encTRect r.1, .int .i64 r.2]) := by
  unfold p_shape_TurnedRegion at h
  refine pcalls_of (fun _ => none) (fun _ => []) Try.func36 (by unfold Try.f36; rfl) (by kernel_rfl) (by kernel_rfl) ?_
  simp only [awp_seq]
  simp only [argSlots]
  dsimp only [Try.f36]
  try simp only [go_sem]
  obtain ⟨x0, hx0, h⟩ := of_bind h
  refine call_p false (c_shape_CheckRegion hx0) ⟨.same _ trivial, trivial⟩ nofun ?_
  try simp only [go_sem]
  refine cut_l ?_
  try simp only [go_sem]
  refine ways_n (fun c1 => ?_) (fun c1 => ?_)
  ·
    replace h := if_n c1 h
    obtain rfl := Option.some.inj h
    exact wkv_tup ⟨wkv_nilL, .same _ trivial, trivial⟩
  ·
    replace h := if_p c1 h
    obtain ⟨x2, hx2, h⟩ := of_bind h
    refine call_p false (c_shape_CheckTurn hx2) ⟨wkE _, trivial⟩ nofun ?_
    try simp only [go_sem]
    refine cut_l ?_
    try simp only [go_sem]
    refine ways_n (fun c3 => ?_) (fun c3 => ?_)
    ·
      replace h := if_n c3 h
      obtain rfl := Option.some.inj h
      exact wkv_tup ⟨wkv_nilL, .same _ trivial, trivial⟩
    ·
      replace h := if_p c3 h
      obtain ⟨x4, hx4, h⟩ := of_bind h
      refine qcall_p false (fun _ => c_shape_SetOf hx4) (fun _ => ⟨.same _ trivial, trivial⟩) nofun ?_
      obtain ⟨x5, hx5, h⟩ := of_bind h
      refine qcall_p false (fun _ => c_shape_Set_TurnSet hx5) (fun _ => ⟨.same _ trivial, wkE _, trivial⟩) nofun ?_
      obtain ⟨x6, hx6, h⟩ := of_bind h
      refine call_p false (c_shape_Set_Fits hx6) ⟨.same _ trivial, trivial⟩ nofun ?_
      try simp only [go_sem]
      refine cut_l ?_
      try simp only [go_sem]
      refine ways (fun c7 => ?_) (fun c7 => ?_)
      ·
        replace h := if_t c7 h
        try simp only [Bool.and_eq_true, Bool.or_eq_true, Bool.not_eq_true', Bool.not_eq_false', Bool.and_eq_false_imp, Bool.or_eq_false_iff, decide_eq_true_eq, decide_eq_false_iff_not] at c7
        obtain rfl := Option.some.inj h
        exact wkv_tup ⟨wkv_nilL, .same _ trivial, trivial⟩
      ·
        replace h := if_f c7 h
        try simp only [Bool.and_eq_true, Bool.or_eq_true, Bool.not_eq_true', Bool.not_eq_false', Bool.and_eq_false_imp, Bool.or_eq_false_iff, decide_eq_true_eq, decide_eq_false_iff_not] at c7
        obtain ⟨x8, hx8, h⟩ := of_bind h
        refine call_p false (c_shape_Set_Told hx8) ⟨.same _ trivial, trivial⟩ nofun ?_
        try simp only [go_sem]
        obtain rfl := Option.some.inj h
        exact wkv_same (by simp only [go_sem]) rfl
theorem c_law1_awake {r : Bool} (h : p_law1_awake  = some r)  : PCalls Try.prog 21 [] (.bool r) := by
  unfold p_law1_awake at h
  refine pcalls_of (fun _ => none) (fun _ => []) Try.func21 (by unfold Try.f21; rfl) (by kernel_rfl) (by kernel_rfl) ?_
  simp only [awp_seq]
  simp only [argSlots]
  dsimp only [Try.f21]
  try simp only [go_sem]
  obtain ⟨x0, hx0, h⟩ := of_bind h
  refine call_p true (c_shape_Area hx0) ⟨wkv_own rfl (R0_ne _) rfl, trivial⟩ (fun _ => by simp only [go_sem]) ?_
  try simp only [go_sem]
  obtain rfl := Option.some.inj h
  exact .same _ trivial
theorem c_law1_TurnedRegionsMatchSpec {a0 : (List TRect)} {a1 : TTurn} {r : Bool} (h : p_law1_TurnedRegionsMatchSpec a0 a1 = some r)  : PCalls Try.prog 8 [encL 4 encTRect a0, encTTurn a1] (.bool r) := by
  unfold p_law1_TurnedRegionsMatchSpec at h
  refine pcalls_of (fun _ => none) (fun _ => []) Try.func8 (by unfold Try.f8; rfl) (by kernel_rfl) (by kernel_rfl) ?_
  simp only [awp_seq]
  simp only [argSlots]
  dsimp only [Try.f8]
  try simp only [go_sem]
  obtain ⟨x0, hx0, h⟩ := of_bind h
  refine call_p false (c_shape_TurnedRegion hx0) ⟨.same _ trivial, wkE _, trivial⟩ nofun ?_
  try simp only [go_sem]
  obtain ⟨x1, hx1, h⟩ := of_bind h
  refine call_p false (c_ref1_TurnedRegion hx1) ⟨.same _ trivial, wkE _, trivial⟩ nofun ?_
  try simp only [go_sem]
  obtain ⟨x2, hx2, h⟩ := of_bind h
  refine call_p false (c_slices_Equal_Rect hx2) ⟨.same _ trivial, .same _ trivial, trivial⟩ nofun ?_
  try simp only [go_sem]
  obtain ⟨x3, hx3, h⟩ := of_bind h
  refine qcall_p false (fun hg => c_law1_awake (if_t hg hx3)) (fun _ => trivial) nofun ?_
  try simp only [go_sem]
  obtain rfl := Option.some.inj h
  exact .same _ trivial
end Go.Nw
