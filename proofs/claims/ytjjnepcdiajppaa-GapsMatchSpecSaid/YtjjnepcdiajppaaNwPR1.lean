/- The walks of the functions. -/
import Derived.Test.YtjjnepcdiajppaaNwSortF
import Derived.Test.YtjjnepcdiajppaaNwDR
import Derived.Test.YtjjnepcdiajppaaNwPR0
set_option linter.unusedVariables false
set_option linter.unusedSimpArgs false
set_option maxRecDepth 100000
namespace Go.Nw
open Go.Proofs
theorem c_shape_stretches_o {a0 : (List TRect)} {r : (List Int) × (List TRect)} (h : p_shape_stretches_o a0 = some r)  : MCalls Try.prog 94 [.sref (0, 0) 0 4 (List.length a0)] ⟨1, [(0, .one ⟨4, encTRect {}, a0.map encTRect⟩)]⟩ (encL 1 encI r.1) ⟨1, [(0, .one ⟨4, encTRect {}, (r.2).map encTRect⟩)]⟩ := by
  unfold p_shape_stretches_o at h
  refine acalls_of (ordOf [(7, [0, 1, 2, 3, 5, 6, 7, 4, 8, 9, 10]), (8, [0, 1, 2, 3, 4, 6, 5, 7, 8, 9, 10])]) (fun _ => []) Try.func94 (by unfold Try.f94; rfl) (by kernel_rfl) (by kernel_rfl) ?_
  simp only [awp_seq]
  simp only [argSlots]
  dsimp only [Try.f94]
  try simp only [go_sem]
  obtain ⟨x0, hx0, h⟩ := of_bind h
  refine call_r false [0] (c_slices_SortFunc_Rect_o hx0 (by simp only [go_sem]) (fun _ _ _ h => c_shape_stretches_1 h)) ⟨wkv_sref rfl rfl, wkv_same (by simp only [go_sem]) rfl, trivial⟩ (wkH_rho (by decide) rfl ⟨⟨by decide, wkR_typed rfl rfl rfl⟩, trivial⟩) rfl (by simp) (by simp) nofun ?_
  try simp only [go_sem]
  obtain ⟨e1, h1, h⟩ := of_bind h
  refine cut_j ([(3, AVal.sref (1, 0) 0 1 (List.length e1)), (2, AVal.nilsl)]) ({ nx := 2, rows := [(1, Ent.one { sz := 1, d := AVal.int IntKind.i64 0, l := List.map encI e1 : Row }), (0, Ent.one { sz := 4, d := encTRect { : TRect }, l := List.map encTRect x0 : Row })] : Heap }) ?_ ?_
  ·
    try simp only [go_sem]
    refine loop_w h1 (fun (s : Int × List Int) => [(11, AVal.int IntKind.i64 (Prod.fst s)), (10, AVal.int IntKind.i64 (↑(List.length a0) : Int)), (9, AVal.sref (0, 0) 0 4 (List.length a0)), (3, AVal.sref (1, 0) 0 1 (List.length (Prod.snd s))), (2, AVal.nilsl)]) (fun (s : Int × List Int) => { nx := 2, rows := [(1, Ent.one { sz := 1, d := AVal.int IntKind.i64 0, l := List.map encI (Prod.snd s) : Row }), (0, Ent.one { sz := 4, d := encTRect { : TRect }, l := List.map encTRect x0 : Row })] : Heap }) ?_ ?_
    ·
      refine wk_of [(0, some 0), (1, none)] rfl ?_ ?_
      ·
        try simp only [go_sem]
        exact ⟨.same _ trivial, ⟨.same _ trivial, ⟨wkv_sref (rn_some rfl) rfl, ⟨wkv_nil (rn_none rfl) rfl, .same _ trivial⟩⟩⟩⟩
      ·
        try simp only [go_sem]
        exact ⟨wkR_nilT (rn_none rfl), wkR_typed (rn_some rfl) rfl rfl⟩
    intro n2 s2 o2 h2 he2 hi2
    try simp only [go_sem]
    refine cut_l ?_
    try simp only [go_sem]
    refine ways_d (fun c3 => ?_) (fun c3 => ?_)
    ·
      replace h2 := if_p c3 h2
      obtain ⟨e4, h4, h2⟩ := of_bind h2
      refine cut_j ([(11, AVal.int IntKind.i64 (Prod.fst s2)), (10, AVal.int IntKind.i64 (↑(List.length a0) : Int)), (9, AVal.sref (0, 0) 0 4 (List.length a0)), (3, AVal.sref (1, 0) 0 1 (List.length e4)), (2, AVal.nilsl)]) ({ nx := 2, rows := [(1, Ent.one { sz := 1, d := AVal.int IntKind.i64 0, l := List.map encI e4 : Row }), (0, Ent.one { sz := 4, d := encTRect { : TRect }, l := List.map encTRect x0 : Row })] : Heap }) ?_ ?_
      ·
        try simp only [go_sem]
        obtain ⟨⟨g5_0, g5_1⟩, h4⟩ := of_guard h4
        refine ob ⟨⟨by assumption, by assumption⟩, by assumption⟩ ?_
        obtain ⟨⟨g6_0, g6_1⟩, h4⟩ := of_guard h4
        simp only [W64 g6_0 g6_1]
        obtain ⟨⟨g7_0, g7_1⟩, h4⟩ := of_guard h4
        refine ob ⟨by assumption, by assumption⟩ ?_
        refine cut_l ?_
        try simp only [go_sem]
        refine ways (fun c8 => ?_) (fun c8 => ?_)
        ·
          replace h4 := if_t c8 h4
          try simp only [Bool.and_eq_true, Bool.or_eq_true, Bool.not_eq_true', Bool.not_eq_false', Bool.and_eq_false_imp, Bool.or_eq_false_iff, decide_eq_true_eq, decide_eq_false_iff_not] at c8
          refine ob ⟨⟨⟨⟨by omega, by omega⟩, by omega⟩, ⟨by omega, by omega⟩⟩, by omega⟩ ?_
          obtain rfl := Option.some.inj h4
          refine wk_of [(0, some 0), (1, some 1)] rfl ?_ ?_
          ·
            try simp only [go_sem]
            exact ⟨.same _ trivial, ⟨.same _ trivial, ⟨wkv_sref (rn_some rfl) rfl, ⟨wkv_sref (rn_some rfl) (by simp), .same _ trivial⟩⟩⟩⟩
          ·
            try simp only [go_sem]
            exact ⟨wkR_typed (rn_some rfl) rfl rfl, wkR_typed (rn_some rfl) rfl rfl⟩
        ·
          replace h4 := if_f c8 h4
          try simp only [Bool.and_eq_true, Bool.or_eq_true, Bool.not_eq_true', Bool.not_eq_false', Bool.and_eq_false_imp, Bool.or_eq_false_iff, decide_eq_true_eq, decide_eq_false_iff_not] at c8
          obtain ⟨g9, h4⟩ := of_guard h4
          refine ob ⟨by omega, by assumption⟩ ?_
          obtain rfl := Option.some.inj h4
          refine wk_of [(0, some 0), (1, some 10005)] rfl ?_ ?_
          ·
            try simp only [go_sem]
            exact ⟨.same _ trivial, ⟨.same _ trivial, ⟨wkv_sref (rn_some rfl) rfl, ⟨wkv_sref (rn_some rfl) rfl, .same _ trivial⟩⟩⟩⟩
          ·
            try simp only [go_sem]
            exact ⟨wkR_typed (rn_some rfl) rfl rfl, wkR_typed (rn_some rfl) rfl rfl⟩
      try simp only [go_sem]
      obtain ⟨⟨g10_0, g10_1⟩, h2⟩ := of_guard h2
      simp only [W64 g10_0 g10_1]
      obtain rfl := Option.some.inj h2
      refine nextL (hi2 _ rfl) ?_
      refine wk_of [(0, some 0), (1, some 1)] rfl ?_ ?_
      ·
        try simp only [go_sem]
        exact ⟨.same _ trivial, ⟨.same _ trivial, ⟨wkv_sref (rn_some rfl) rfl, ⟨wkv_sref (rn_some rfl) rfl, .same _ trivial⟩⟩⟩⟩
      ·
        try simp only [go_sem]
        exact ⟨wkR_typed (rn_some rfl) rfl rfl, wkR_typed (rn_some rfl) rfl rfl⟩
    ·
      replace h2 := if_n c3 h2
      obtain rfl := Option.some.inj h2
      obtain rfl := he2 _ rfl
      refine wk_of [(1, some 1), (0, some 0)] rfl ?_ ?_
      ·
        try simp only [go_sem]
        exact ⟨wkv_sref (rn_some rfl) rfl, .same _ trivial⟩
      ·
        try simp only [go_sem]
        exact ⟨wkR_typed (rn_some rfl) rfl rfl, wkR_typed (rn_some rfl) rfl rfl⟩
  try simp only [go_sem]
  refine ret_o ?_
  try simp only [go_sem]
  obtain rfl := Option.some.inj h
  refine wkm [(0, some 0)] rfl ?_ ?_
  ·
    try simp only [go_sem]
    exact wkv_own rfl (rn_notTo rfl) rfl
  ·
    try simp only [go_sem]
    exact wkR_typed (rn_some rfl) rfl rfl
theorem c_slices_DeleteFunc_Rect_o {a0 : (List TRect)} {f1 : (TRect → Option (Bool))} {r : (List TRect)} (h : p_slices_DeleteFunc_Rect_o a0 f1 = some r) {g1 : Nat} {k1 : List AVal} (hk1 : nmL k1) (hf1 : ∀ (x0 : TRect) (y : Bool), f1 x0 = some y → PCalls Try.prog g1 (encTRect x0 :: k1) (.bool y)) : MCalls Try.prog 91 [.sref (0, 0) 0 4 (List.length a0), fn g1 k1] ⟨1, [(0, .one ⟨4, encTRect {}, a0.map encTRect⟩)]⟩ (.sref (1, 0) 0 4 (List.length (r))) ⟨2, [(1, .one ⟨4, encTRect {}, (r).map encTRect⟩)]⟩ := by
  unfold p_slices_DeleteFunc_Rect_o at h
  refine acalls_of (fun _ => none) (fun _ => []) Try.func91 (by unfold Try.f91; rfl) (by kernel_rfl) (by kernel_rfl) ?_
  simp only [awp_seq]
  simp only [argSlots]
  dsimp only [Try.f91]
  try simp only [go_sem]
  obtain ⟨x0, hx0, h⟩ := of_bind h
  refine call_p true (c_slices_IndexFunc_Rect hx0 hk1 hf1) ⟨wkv_own rfl (R0_ne _) rfl, .same _ (by simp only [go_sem]; assumption), trivial⟩ (fun _ => by simp only [go_sem]) ?_
  try simp only [go_sem]
  refine cut_l ?_
  try simp only [go_sem]
  refine ways_d (fun c1 => ?_) (fun c1 => ?_)
  ·
    replace h := if_p c1 h
    refine ret_o ?_
    try simp only [go_sem]
    obtain rfl := Option.some.inj h
    refine wkm [(0, some 0), (1, some 0)] rfl ?_ ?_
    ·
      exact wkv_sref (rn_some rfl) rfl
    ·
      try simp only [go_sem]
      exact wkR_typed (rn_some rfl) rfl rfl
  ·
    replace h := if_n c1 h
    obtain ⟨⟨g2_0, g2_1⟩, h⟩ := of_guard h
    simp only [W64 g2_0 g2_1]
    obtain ⟨e3, h3, h⟩ := of_bind h
    refine cut_j ([(5, AVal.int IntKind.i64 (Prod.fst e3)), (4, AVal.nilsl), (0, AVal.sref (0, 0) 0 4 (List.length a0))]) ({ nx := 1, rows := [(0, Ent.one { sz := 4, d := encTRect { : TRect }, l := List.map encTRect (Prod.snd e3) : Row })] : Heap }) ?_ ?_
    ·
      try simp only [go_sem]
      refine loop_w h3 (fun (s : Int × Int × List TRect) => [(6, AVal.int IntKind.i64 (Prod.fst s)), (5, AVal.int IntKind.i64 (Prod.fst (Prod.snd s))), (4, AVal.nilsl), (0, AVal.sref (0, 0) 0 4 (List.length a0)), (1, fn g1 k1)]) (fun (s : Int × Int × List TRect) => { nx := 1, rows := [(0, Ent.one { sz := 4, d := encTRect { : TRect }, l := List.map encTRect (Prod.snd (Prod.snd s)) : Row })] : Heap }) ?_ ?_
      ·
        refine wk_of [(0, some 0)] rfl ?_ ?_
        ·
          try simp only [go_sem]
          exact ⟨.same _ trivial, ⟨.same _ trivial, ⟨.same _ trivial, ⟨wkv_sref (rn_some rfl) rfl, .same _ (by simp only [go_sem]; assumption)⟩⟩⟩⟩
        ·
          try simp only [go_sem]
          exact wkR_typed (rn_some rfl) rfl rfl
      intro n4 s4 o4 h4 he4 hi4
      try simp only [go_sem]
      refine cut_l ?_
      try simp only [go_sem]
      refine ways_d (fun c5 => ?_) (fun c5 => ?_)
      ·
        replace h4 := if_p c5 h4
        obtain ⟨e6, h6, h4⟩ := of_bind h4
        refine cut_j ([(6, AVal.int IntKind.i64 (Prod.fst s4)), (5, AVal.int IntKind.i64 (Prod.fst e6)), (4, AVal.nilsl), (0, AVal.sref (0, 0) 0 4 (List.length a0)), (1, fn g1 k1)]) ({ nx := 1, rows := [(0, Ent.one { sz := 4, d := encTRect { : TRect }, l := List.map encTRect (Prod.snd e6) : Row })] : Heap }) ?_ ?_
        ·
          try simp only [go_sem]
          obtain ⟨⟨g7_0, g7_1⟩, h6⟩ := of_guard h6
          refine ob ⟨⟨by assumption, by assumption⟩, by assumption⟩ ?_
          obtain ⟨x8, hx8, h6⟩ := of_bind h6
          refine call_p false (hf1 _ _ hx8) ⟨wkE _, lend_self hk1⟩ nofun ?_
          try simp only [go_sem]
          refine cut_l ?_
          try simp only [go_sem]
          refine ways (fun c9 => ?_) (fun c9 => ?_)
          ·
            replace h6 := if_t c9 h6
            try simp only [Bool.and_eq_true, Bool.or_eq_true, Bool.not_eq_true', Bool.not_eq_false', Bool.and_eq_false_imp, Bool.or_eq_false_iff, decide_eq_true_eq, decide_eq_false_iff_not] at c9
            obtain ⟨⟨g10_0, g10_1, g10_2⟩, h6⟩ := of_guard h6
            refine ob ⟨⟨by assumption, by assumption⟩, by assumption⟩ ?_
            obtain ⟨⟨g11_0, g11_1⟩, h6⟩ := of_guard h6
            simp only [W64 g11_0 g11_1]
            obtain rfl := Option.some.inj h6
            refine wk_of [(0, some 0)] rfl ?_ ?_
            ·
              try simp only [go_sem]
              exact ⟨.same _ trivial, ⟨.same _ trivial, ⟨.same _ trivial, ⟨wkv_sref (rn_some rfl) rfl, .same _ (by simp only [go_sem]; assumption)⟩⟩⟩⟩
            ·
              try simp only [go_sem]
              exact wkR_typed (rn_some rfl) rfl rfl
          ·
            replace h6 := if_f c9 h6
            try simp only [Bool.and_eq_true, Bool.or_eq_true, Bool.not_eq_true', Bool.not_eq_false', Bool.and_eq_false_imp, Bool.or_eq_false_iff, decide_eq_true_eq, decide_eq_false_iff_not] at c9
            obtain rfl := Option.some.inj h6
            refine wk_of [(0, some 0)] rfl ?_ ?_
            ·
              try simp only [go_sem]
              exact ⟨.same _ trivial, ⟨.same _ trivial, ⟨.same _ trivial, ⟨wkv_sref (rn_some rfl) rfl, .same _ (by simp only [go_sem]; assumption)⟩⟩⟩⟩
            ·
              try simp only [go_sem]
              exact wkR_typed (rn_some rfl) rfl rfl
        try simp only [go_sem]
        obtain ⟨⟨g12_0, g12_1⟩, h4⟩ := of_guard h4
        simp only [W64 g12_0 g12_1]
        obtain rfl := Option.some.inj h4
        refine nextL (hi4 _ rfl) ?_
        refine wk_of [(0, some 0)] rfl ?_ ?_
        ·
          try simp only [go_sem]
          exact ⟨.same _ trivial, ⟨.same _ trivial, ⟨.same _ trivial, ⟨wkv_sref (rn_some rfl) rfl, .same _ (by simp only [go_sem]; assumption)⟩⟩⟩⟩
        ·
          try simp only [go_sem]
          exact wkR_typed (rn_some rfl) rfl rfl
      ·
        replace h4 := if_n c5 h4
        obtain rfl := Option.some.inj h4
        obtain rfl := he4 _ rfl
        refine wk_of [(0, some 0)] rfl ?_ ?_
        ·
          try simp only [go_sem]
          exact ⟨.same _ trivial, ⟨.same _ trivial, wkv_sref (rn_some rfl) rfl⟩⟩
        ·
          try simp only [go_sem]
          exact wkR_typed (rn_some rfl) rfl rfl
    try simp only [go_sem]
    obtain ⟨⟨g13_0, g13_1, g13_2⟩, h⟩ := of_guard h
    refine ob ⟨⟨by assumption, by assumption⟩, by assumption⟩ ?_
    refine ob ⟨by assumption, by assumption⟩ ?_
    refine ret_o ?_
    try simp only [go_sem]
    obtain ⟨g14, h⟩ := of_guard h
    obtain rfl := Option.some.inj h
    refine wkm [(0, some 0), (1, some 0)] rfl ?_ ?_
    ·
      exact wkv_sref (rn_some rfl) (by rw [List.length_take]; omega)
    ·
      try simp only [go_sem]
      exact wkR_take (rn_some rfl) rfl rfl
theorem c_ref1_Canonical {a0 : (List TRect)} {r : (List TRect)} (h : p_ref1_Canonical a0 = some r)  : PCalls Try.prog 55 [encL 4 encTRect a0] (encL 4 encTRect r) := by
  unfold p_ref1_Canonical at h
  refine pcalls_of (ordOf [(6, [0, 1, 2, 3, 4, 6, 7, 8, 10, 11, 12, 13, 14, 5, 9, 15, 16, 17])]) (fun _ => []) Try.func55 (by unfold Try.f55; rfl) (by kernel_rfl) (by kernel_rfl) ?_
  simp only [awp_seq]
  simp only [argSlots]
  dsimp only [Try.f55]
  try simp only [go_sem]
  obtain ⟨x0, hx0, h⟩ := of_bind h
  refine call_p false (c_ref1_heights hx0) ⟨.same _ trivial, trivial⟩ nofun ?_
  obtain ⟨e1, h1, h⟩ := of_bind h
  refine cut_j ([(4, encL 3 encTEtchhouseref1band e1), (2, AVal.nilsl)]) ({ nx := 0, rows := [] : Heap }) ?_ ?_
  ·
    try simp only [go_sem]
    refine loop_w h1 (fun (s : Int × List TEtchhouseref1band) => [(5, AVal.int IntKind.i64 (Prod.fst s)), (4, AVal.sref (0, 0) 0 3 (List.length (Prod.snd s))), (3, encL 1 encI x0), (2, AVal.nilsl), (0, encL 4 encTRect a0)]) (fun (s : Int × List TEtchhouseref1band) => { nx := 1, rows := [(0, Ent.one { sz := 3, d := encTEtchhouseref1band default, l := List.map encTEtchhouseref1band (Prod.snd s) : Row })] : Heap }) ?_ ?_
    ·
      refine wk_of [(0, none)] rfl ?_ ?_
      ·
        try simp only [go_sem]
        exact ⟨.same _ trivial, ⟨wkv_nil (rn_none rfl) rfl, ⟨.same _ trivial, ⟨.same _ trivial, .same _ trivial⟩⟩⟩⟩
      ·
        try simp only [go_sem]
        exact wkR_nilT (rn_none rfl)
    intro n2 s2 o2 h2 he2 hi2
    try simp only [go_sem]
    refine cut_l ?_
    try simp only [go_sem]
    refine ways_d (fun c3 => ?_) (fun c3 => ?_)
    ·
      replace h2 := if_p c3 h2
      refine cut_l ?_
      try simp only [go_sem]
      obtain ⟨⟨g4_0, g4_1⟩, h2⟩ := of_guard h2
      simp only [W64 g4_0 g4_1]
      obtain ⟨⟨g5_0, g5_1, g5_2⟩, h2⟩ := of_guard h2
      refine ob ⟨⟨⟨by assumption, by omega⟩, ⟨by assumption, by assumption⟩⟩, ⟨by assumption, by omega⟩⟩ ?_
      obtain ⟨x6, hx6, h2⟩ := of_bind h2
      refine qcall_p false (fun _ => c_ref1_row hx6) (fun _ => ⟨.same _ trivial, .same _ trivial, trivial⟩) nofun ?_
      try simp only [go_sem]
      obtain ⟨x7, hx7, h2⟩ := of_bind h2
      refine call_r false [0] (c_ref1_stacked_o hx7) ⟨wkv_sref rfl rfl, wkE _, trivial⟩ (wkH_rho (by decide) rfl ⟨⟨by decide, wkR_typed rfl rfl rfl⟩, trivial⟩) rfl (by simp) (by simp) nofun ?_
      try simp only [go_sem]
      obtain ⟨⟨g8_0, g8_1⟩, h2⟩ := of_guard h2
      simp only [W64 g8_0 g8_1]
      obtain rfl := Option.some.inj h2
      refine nextL (hi2 _ rfl) ?_
      refine wk_of [(0, some 10001)] rfl ?_ ?_
      ·
        try simp only [go_sem]
        exact ⟨.same _ trivial, ⟨wkv_sref (rn_some rfl) rfl, ⟨.same _ trivial, ⟨.same _ trivial, .same _ trivial⟩⟩⟩⟩
      ·
        try simp only [go_sem]
        exact wkR_typed (rn_some rfl) rfl rfl
    ·
      replace h2 := if_n c3 h2
      obtain rfl := Option.some.inj h2
      obtain rfl := he2 _ rfl
      refine wk_of [] rfl ?_ ?_
      ·
        try simp only [go_sem]
        exact ⟨wkv_own rfl (rn_notTo rfl) rfl, .same _ trivial⟩
      ·
        try simp only [go_sem]
  try simp only [go_sem]
  obtain ⟨x9, hx9, h⟩ := of_bind h
  refine call_p false (c_ref1_told hx9) ⟨.same _ trivial, trivial⟩ nofun ?_
  obtain rfl := Option.some.inj h
  exact .same _ trivial
theorem c_ref1_CheckRects {a0 : (List TRect)} {r : Int} (h : p_ref1_CheckRects a0 = some r)  : PCalls Try.prog 17 [encL 4 encTRect a0] (.int .i64 r) := by
  unfold p_ref1_CheckRects at h
  refine pcalls_of (fun _ => none) (fun _ => []) Try.func17 (by unfold Try.f17; rfl) (by kernel_rfl) (by kernel_rfl) ?_
  simp only [awp_seq]
  simp only [argSlots]
  dsimp only [Try.f17]
  try simp only [go_sem]
  refine cut_l ?_
  try simp only [go_sem]
  refine ways_d (fun c0 => ?_) (fun c0 => ?_)
  ·
    replace h := if_p c0 h
    obtain rfl := Option.some.inj h
    exact .same _ trivial
  ·
    replace h := if_n c0 h
    obtain ⟨z1, h1, h⟩ := of_bind h
    refine cut_z z1 (fun (s : Int) => [(2, AVal.int IntKind.i64 s)]) (fun (s : Int) => { nx := 0, rows := [] : Heap }) ?_ (fun e1 hz1 => ?_)
    ·
      try simp only [go_sem]
      refine loop_w h1 (fun (s : Int × Int) => [(3, AVal.int IntKind.i64 (Prod.fst s)), (2, AVal.int IntKind.i64 (Prod.snd s)), (0, encL 4 encTRect a0)]) (fun (s : Int × Int) => { nx := 0, rows := [] : Heap }) ?_ ?_
      ·
        refine wk_of [] rfl ?_ ?_
        ·
          try simp only [go_sem]
          exact ⟨.same _ trivial, ⟨.same _ trivial, .same _ trivial⟩⟩
        ·
          try simp only [go_sem]
      intro n2 s2 o2 h2 he2 hi2
      try simp only [go_sem]
      refine cut_l ?_
      try simp only [go_sem]
      refine ways_d (fun c3 => ?_) (fun c3 => ?_)
      ·
        replace h2 := if_p c3 h2
        refine cut_l ?_
        try simp only [go_sem]
        obtain ⟨g4, h2⟩ := of_guard h2
        refine ob ⟨by assumption, by assumption⟩ ?_
        obtain ⟨x5, hx5, h2⟩ := of_bind h2
        refine call_p false (c_ref1_At hx5) ⟨.same _ trivial, trivial⟩ nofun ?_
        try simp only [go_sem]
        obtain ⟨x6, hx6, h2⟩ := of_bind h2
        refine qcall_p false (fun hg => c_ref1_At (if_t hg hx6)) (fun _ => ⟨.same _ trivial, trivial⟩) nofun ?_
        try simp only [go_sem]
        refine ob (by simp) ?_
        obtain ⟨x7, hx7, h2⟩ := of_bind h2
        refine qcall_p false (fun hg => c_ref1_At (if_t hg hx7)) (fun _ => ⟨.same _ trivial, trivial⟩) nofun ?_
        try simp only [go_sem]
        refine ob (by simp) ?_
        obtain ⟨x8, hx8, h2⟩ := of_bind h2
        refine qcall_p false (fun hg => c_ref1_At (if_t hg hx8)) (fun _ => ⟨.same _ trivial, trivial⟩) nofun ?_
        try simp only [go_sem]
        refine ob (by simp) ?_
        refine cut_l ?_
        try simp only [go_sem]
        refine ways (fun c9 => ?_) (fun c9 => ?_)
        ·
          replace h2 := if_t c9 h2
          try simp only [Bool.and_eq_true, Bool.or_eq_true, Bool.not_eq_true', Bool.not_eq_false', Bool.and_eq_false_imp, Bool.or_eq_false_iff, decide_eq_true_eq, decide_eq_false_iff_not] at c9
          obtain rfl := Option.some.inj h2
          obtain rfl := he2 _ rfl
          obtain rfl := Option.some.inj h
          exact .same _ trivial
        ·
          replace h2 := if_f c9 h2
          try simp only [Bool.and_eq_true, Bool.or_eq_true, Bool.not_eq_true', Bool.not_eq_false', Bool.and_eq_false_imp, Bool.or_eq_false_iff, decide_eq_true_eq, decide_eq_false_iff_not] at c9
          refine ob (by simp) ?_
          refine cut_l ?_
          try simp only [go_sem]
          refine ways (fun c10 => ?_) (fun c10 => ?_)
          ·
            replace h2 := if_t c10 h2
            try simp only [Bool.and_eq_true, Bool.or_eq_true, Bool.not_eq_true', Bool.not_eq_false', Bool.and_eq_false_imp, Bool.or_eq_false_iff, decide_eq_true_eq, decide_eq_false_iff_not] at c10
            obtain rfl := Option.some.inj h2
            obtain rfl := he2 _ rfl
            obtain rfl := Option.some.inj h
            exact .same _ trivial
          ·
            replace h2 := if_f c10 h2
            try simp only [Bool.and_eq_true, Bool.or_eq_true, Bool.not_eq_true', Bool.not_eq_false', Bool.and_eq_false_imp, Bool.or_eq_false_iff, decide_eq_true_eq, decide_eq_false_iff_not] at c10
            simp only [W64 (n := Prod.fst s2 + 1) (by omega) (by omega)]
            obtain rfl := Option.some.inj h2
            refine nextL (hi2 _ rfl) ?_
            refine wk_of [] rfl ?_ ?_
            ·
              try simp only [go_sem]
              exact ⟨.same _ trivial, ⟨.same _ trivial, .same _ trivial⟩⟩
            ·
              try simp only [go_sem]
      ·
        replace h2 := if_n c3 h2
        obtain rfl := Option.some.inj h2
        obtain rfl := he2 _ rfl
        refine zend ?_
        refine wk_of [] rfl ?_ ?_
        ·
          try simp only [go_sem]
          exact .same _ trivial
        ·
          try simp only [go_sem]
    subst hz1
    simp only [Sum.elim_inr] at h
    try simp only [go_sem]
    obtain rfl := Option.some.inj h
    exact .same _ trivial
theorem c_ref1_farRegions {a0 : (List TRect)} {a1 : (List TRect)} {r : Int} (h : p_ref1_farRegions a0 a1 = some r)  : PCalls Try.prog 77 [encL 4 encTRect a0, encL 4 encTRect a1] (.int .i64 r) := by
  unfold p_ref1_farRegions at h
  refine pcalls_of (ordOf [(1, [0, 1, 3, 4, 2, 5, 6, 7]), (8, [0, 1, 2, 3, 5, 6, 7, 4, 8, 9, 10, 11])]) (fun _ => []) Try.func77 (by unfold Try.f77; rfl) (by kernel_rfl) (by kernel_rfl) ?_
  simp only [awp_seq]
  simp only [argSlots]
  dsimp only [Try.f77]
  try simp only [go_sem]
  obtain ⟨⟨g0_0, g0_1⟩, h⟩ := of_guard h
  refine ob ⟨⟨by omega, by assumption⟩, ⟨by omega, by assumption⟩⟩ ?_
  obtain ⟨x1, hx1, h⟩ := of_bind h
  refine qcall_p false (fun _ => c_ref1_farRects hx1) (fun _ => ⟨wkE _, wkE _, trivial⟩) nofun ?_
  obtain ⟨e2, h2, h⟩ := of_bind h
  refine cut_j ([(5, AVal.int IntKind.i64 e2), (4, AVal.int IntKind.i64 0)]) ({ nx := 10000, rows := [] : Heap }) ?_ ?_
  ·
    try simp only [go_sem]
    refine loop_w h2 (fun (s : Int × Int) => [(6, AVal.int IntKind.i64 (Prod.fst s)), (5, AVal.int IntKind.i64 (Prod.snd s)), (4, AVal.int IntKind.i64 0), (0, encL 4 encTRect a0), (1, encL 4 encTRect a1)]) (fun (s : Int × Int) => { nx := 10000, rows := [] : Heap }) ?_ ?_
    ·
      refine wk_of [] rfl ?_ ?_
      ·
        try simp only [go_sem]
        exact ⟨.same _ trivial, ⟨.same _ trivial, ⟨.same _ trivial, ⟨.same _ trivial, .same _ trivial⟩⟩⟩⟩
      ·
        try simp only [go_sem]
    intro n3 s3 o3 h3 he3 hi3
    try simp only [go_sem]
    refine cut_l ?_
    try simp only [go_sem]
    refine ways_d (fun c4 => ?_) (fun c4 => ?_)
    ·
      replace h3 := if_p c4 h3
      obtain ⟨e5, h5, h3⟩ := of_bind h3
      refine cut_j ([(6, AVal.int IntKind.i64 (Prod.fst s3)), (5, AVal.int IntKind.i64 e5), (4, AVal.int IntKind.i64 0), (0, encL 4 encTRect a0), (1, encL 4 encTRect a1)]) ({ nx := 10000, rows := [] : Heap }) ?_ ?_
      ·
        try simp only [go_sem]
        refine cut_l ?_
        try simp only [go_sem]
        refine loop_w h5 (fun (s : Int × Int) => [(7, AVal.int IntKind.i64 (Prod.fst s)), (6, AVal.int IntKind.i64 (Prod.fst s3)), (5, AVal.int IntKind.i64 (Prod.snd s)), (4, AVal.int IntKind.i64 0), (0, encL 4 encTRect a0), (1, encL 4 encTRect a1)]) (fun (s : Int × Int) => { nx := 10000, rows := [] : Heap }) ?_ ?_
        ·
          refine wk_of [] rfl ?_ ?_
          ·
            try simp only [go_sem]
            exact ⟨.same _ trivial, ⟨.same _ trivial, ⟨.same _ trivial, ⟨.same _ trivial, ⟨.same _ trivial, .same _ trivial⟩⟩⟩⟩⟩
          ·
            try simp only [go_sem]
        intro n6 s6 o6 h6 he6 hi6
        try simp only [go_sem]
        refine cut_l ?_
        try simp only [go_sem]
        refine ways_d (fun c7 => ?_) (fun c7 => ?_)
        ·
          replace h6 := if_p c7 h6
          refine cut_l ?_
          try simp only [go_sem]
          obtain ⟨⟨g8_0, g8_1⟩, h6⟩ := of_guard h6
          refine ob ⟨⟨by assumption, by assumption⟩, ⟨by assumption, by assumption⟩⟩ ?_
          obtain ⟨x9, hx9, h6⟩ := of_bind h6
          refine qcall_p false (fun _ => c_ref1_farRects hx9) (fun _ => ⟨wkE _, wkE _, trivial⟩) nofun ?_
          try simp only [go_sem]
          obtain ⟨⟨g10_0, g10_1⟩, h6⟩ := of_guard h6
          simp only [W64 g10_0 g10_1]
          obtain rfl := Option.some.inj h6
          refine nextL (hi6 _ rfl) ?_
          refine wk_of [] rfl ?_ ?_
          ·
            try simp only [go_sem]
            exact ⟨.same _ trivial, ⟨.same _ trivial, ⟨.same _ trivial, ⟨.same _ trivial, ⟨.same _ trivial, .same _ trivial⟩⟩⟩⟩⟩
          ·
            try simp only [go_sem]
        ·
          replace h6 := if_n c7 h6
          obtain rfl := Option.some.inj h6
          obtain rfl := he6 _ rfl
          refine wk_of [] rfl ?_ ?_
          ·
            try simp only [go_sem]
            exact ⟨.same _ trivial, ⟨.same _ trivial, ⟨.same _ trivial, ⟨.same _ trivial, .same _ trivial⟩⟩⟩⟩
          ·
            try simp only [go_sem]
      try simp only [go_sem]
      obtain ⟨⟨g11_0, g11_1⟩, h3⟩ := of_guard h3
      simp only [W64 g11_0 g11_1]
      obtain rfl := Option.some.inj h3
      refine nextL (hi3 _ rfl) ?_
      refine wk_of [] rfl ?_ ?_
      ·
        try simp only [go_sem]
        exact ⟨.same _ trivial, ⟨.same _ trivial, ⟨.same _ trivial, ⟨.same _ trivial, .same _ trivial⟩⟩⟩⟩
      ·
        try simp only [go_sem]
    ·
      replace h3 := if_n c4 h3
      obtain rfl := Option.some.inj h3
      obtain rfl := he3 _ rfl
      refine wk_of [] rfl ?_ ?_
      ·
        try simp only [go_sem]
        exact ⟨.same _ trivial, .same _ trivial⟩
      ·
        try simp only [go_sem]
  try simp only [go_sem]
  obtain rfl := Option.some.inj h
  exact .same _ trivial
theorem c_shape_GapOf {a0 : (List TRect)} {a1 : (List TRect)} {r : TGap} (h : p_shape_GapOf a0 a1 = some r)  : PCalls Try.prog 76 [encL 4 encTRect a0, encL 4 encTRect a1] (encTGap r) := by
  unfold p_shape_GapOf at h
  refine pcalls_of (fun _ => none) (fun _ => []) Try.func76 (by unfold Try.f76; rfl) (by kernel_rfl) (by kernel_rfl) ?_
  simp only [awp_seq]
  simp only [argSlots]
  dsimp only [Try.f76]
  try simp only [go_sem]
  obtain ⟨e0, h0, h⟩ := of_bind h
  refine cut_j ([(5, AVal.int IntKind.i64 e0), (4, AVal.ptr (0, 0) 7 0 0), (0, encL 4 encTRect a0), (1, encL 4 encTRect a1)]) ({ nx := 1, rows := [(0, Ent.one { sz := 7, d := encTGap { : TGap }, l := [encTGap { : TGap }] : Row })] : Heap }) ?_ ?_
  ·
    try simp only [go_sem]
    refine loop_w h0 (fun (s : Int × Int) => [(24, AVal.int IntKind.i64 (Prod.fst s)), (23, AVal.int IntKind.i64 (↑(List.length a0) : Int)), (22, encL 4 encTRect a0), (5, AVal.int IntKind.i64 (Prod.snd s)), (4, AVal.ptr (0, 0) 7 0 0), (0, encL 4 encTRect a0), (1, encL 4 encTRect a1)]) (fun (s : Int × Int) => { nx := 1, rows := [(0, Ent.one { sz := 7, d := encTGap { : TGap }, l := [encTGap { : TGap }] : Row })] : Heap }) ?_ ?_
    ·
      refine wk_of [(0, some 0)] rfl ?_ ?_
      ·
        try simp only [go_sem]
        exact ⟨.same _ trivial, ⟨.same _ trivial, ⟨.same _ trivial, ⟨.same _ trivial, ⟨.ptr _ _ _ _ _ (rn_some rfl), ⟨.same _ trivial, .same _ trivial⟩⟩⟩⟩⟩⟩
      ·
        try simp only [go_sem]
        exact wkR_box (rn_some rfl) rfl (wkE _)
    intro n1 s1 o1 h1 he1 hi1
    try simp only [go_sem]
    refine cut_l ?_
    try simp only [go_sem]
    refine ways_d (fun c2 => ?_) (fun c2 => ?_)
    ·
      replace h1 := if_p c2 h1
      obtain ⟨e3, h3, h1⟩ := of_bind h1
      refine cut_j ([(24, AVal.int IntKind.i64 (Prod.fst s1)), (23, AVal.int IntKind.i64 (↑(List.length a0) : Int)), (22, encL 4 encTRect a0), (5, AVal.int IntKind.i64 e3), (4, AVal.ptr (0, 0) 7 0 0), (0, encL 4 encTRect a0), (1, encL 4 encTRect a1)]) ({ nx := 1, rows := [(0, Ent.one { sz := 7, d := encTGap { : TGap }, l := [encTGap { : TGap }] : Row })] : Heap }) ?_ ?_
      ·
        try simp only [go_sem]
        obtain ⟨g4, h3⟩ := of_guard h3
        refine ob ⟨by assumption, by assumption⟩ ?_
        refine cut_l ?_
        try simp only [go_sem]
        refine loop_w h3 (fun (s : Int × Int) => [(30, AVal.int IntKind.i64 (Prod.fst s)), (29, AVal.int IntKind.i64 (↑(List.length a1) : Int)), (28, encL 4 encTRect a1), (7, AVal.ptr (1, 0) 4 0 0), (24, AVal.int IntKind.i64 (Prod.fst s1)), (23, AVal.int IntKind.i64 (↑(List.length a0) : Int)), (22, encL 4 encTRect a0), (5, AVal.int IntKind.i64 (Prod.snd s)), (4, AVal.ptr (0, 0) 7 0 0), (0, encL 4 encTRect a0), (1, encL 4 encTRect a1)]) (fun (s : Int × Int) => { nx := 3, rows := [(1, Ent.one { sz := 4, d := encTRect { : TRect }, l := [encTRect (List.getD a0 (Int.toNat (Prod.fst s1)) default)] : Row }), (0, Ent.one { sz := 7, d := encTGap { : TGap }, l := [encTGap { : TGap }] : Row })] : Heap }) ?_ ?_
        ·
          refine wk_of [(1, some 1), (0, some 0)] rfl ?_ ?_
          ·
            try simp only [go_sem]
            exact ⟨.same _ trivial, ⟨.same _ trivial, ⟨.same _ trivial, ⟨.ptr _ _ _ _ _ (rn_some rfl), ⟨.same _ trivial, ⟨.same _ trivial, ⟨.same _ trivial, ⟨.same _ trivial, ⟨.ptr _ _ _ _ _ (rn_some rfl), ⟨.same _ trivial, .same _ trivial⟩⟩⟩⟩⟩⟩⟩⟩⟩⟩
          ·
            try simp only [go_sem]
            exact ⟨wkR_box (rn_some rfl) rfl (wkE _), wkR_box (rn_some rfl) rfl (wkE _)⟩
        intro n5 s5 o5 h5 he5 hi5
        try simp only [go_sem]
        refine cut_l ?_
        try simp only [go_sem]
        refine ways_d (fun c6 => ?_) (fun c6 => ?_)
        ·
          replace h5 := if_p c6 h5
          obtain ⟨e7, h7, h5⟩ := of_bind h5
          refine cut_j ([(30, AVal.int IntKind.i64 (Prod.fst s5)), (29, AVal.int IntKind.i64 (↑(List.length a1) : Int)), (28, encL 4 encTRect a1), (7, AVal.ptr (1, 0) 4 0 0), (24, AVal.int IntKind.i64 (Prod.fst s1)), (23, AVal.int IntKind.i64 (↑(List.length a0) : Int)), (22, encL 4 encTRect a0), (5, AVal.int IntKind.i64 e7), (4, AVal.ptr (0, 0) 7 0 0), (0, encL 4 encTRect a0), (1, encL 4 encTRect a1)]) ({ nx := 3, rows := [(1, Ent.one { sz := 4, d := encTRect { : TRect }, l := [encTRect (List.getD a0 (Int.toNat (Prod.fst s1)) default)] : Row }), (0, Ent.one { sz := 7, d := encTGap { : TGap }, l := [encTGap { : TGap }] : Row })] : Heap }) ?_ ?_
          ·
            try simp only [go_sem]
            obtain ⟨g8, h7⟩ := of_guard h7
            refine ob ⟨by assumption, by assumption⟩ ?_
            obtain ⟨x9, hx9, h7⟩ := of_bind h7
            refine call_p false (c_shape_Far hx9) ⟨wkE _, wkE _, trivial⟩ nofun ?_
            try simp only [go_sem]
            refine ob (by simp) ?_
            refine cut_l ?_
            try simp only [go_sem]
            refine ways (fun c10 => ?_) (fun c10 => ?_)
            ·
              replace h7 := if_t c10 h7
              try simp only [Bool.and_eq_true, Bool.or_eq_true, Bool.not_eq_true', Bool.not_eq_false', Bool.and_eq_false_imp, Bool.or_eq_false_iff, decide_eq_true_eq, decide_eq_false_iff_not] at c10
              obtain rfl := Option.some.inj h7
              refine wk_of [(1, some 1), (0, some 0)] rfl ?_ ?_
              ·
                try simp only [go_sem]
                exact ⟨.same _ trivial, ⟨.same _ trivial, ⟨.same _ trivial, ⟨.ptr _ _ _ _ _ (rn_some rfl), ⟨.same _ trivial, ⟨.same _ trivial, ⟨.same _ trivial, ⟨.same _ trivial, ⟨.ptr _ _ _ _ _ (rn_some rfl), ⟨.same _ trivial, .same _ trivial⟩⟩⟩⟩⟩⟩⟩⟩⟩⟩
              ·
                try simp only [go_sem]
                exact ⟨wkR_box (rn_some rfl) rfl (wkE _), wkR_box (rn_some rfl) rfl (wkE _)⟩
            ·
              replace h7 := if_f c10 h7
              try simp only [Bool.and_eq_true, Bool.or_eq_true, Bool.not_eq_true', Bool.not_eq_false', Bool.and_eq_false_imp, Bool.or_eq_false_iff, decide_eq_true_eq, decide_eq_false_iff_not] at c10
              obtain rfl := Option.some.inj h7
              refine wk_of [(1, some 1), (0, some 0)] rfl ?_ ?_
              ·
                try simp only [go_sem]
                exact ⟨.same _ trivial, ⟨.same _ trivial, ⟨.same _ trivial, ⟨.ptr _ _ _ _ _ (rn_some rfl), ⟨.same _ trivial, ⟨.same _ trivial, ⟨.same _ trivial, ⟨.same _ trivial, ⟨.ptr _ _ _ _ _ (rn_some rfl), ⟨.same _ trivial, .same _ trivial⟩⟩⟩⟩⟩⟩⟩⟩⟩⟩
              ·
                try simp only [go_sem]
                exact ⟨wkR_box (rn_some rfl) rfl (wkE _), wkR_box (rn_some rfl) rfl (wkE _)⟩
          try simp only [go_sem]
          obtain ⟨⟨g11_0, g11_1⟩, h5⟩ := of_guard h5
          simp only [W64 g11_0 g11_1]
          obtain rfl := Option.some.inj h5
          refine nextL (hi5 _ rfl) ?_
          refine wk_of [(1, some 1), (0, some 0)] rfl ?_ ?_
          ·
            try simp only [go_sem]
            exact ⟨.same _ trivial, ⟨.same _ trivial, ⟨.same _ trivial, ⟨.ptr _ _ _ _ _ (rn_some rfl), ⟨.same _ trivial, ⟨.same _ trivial, ⟨.same _ trivial, ⟨.same _ trivial, ⟨.ptr _ _ _ _ _ (rn_some rfl), ⟨.same _ trivial, .same _ trivial⟩⟩⟩⟩⟩⟩⟩⟩⟩⟩
          ·
            try simp only [go_sem]
            exact ⟨wkR_box (rn_some rfl) rfl (wkE _), wkR_box (rn_some rfl) rfl (wkE _)⟩
        ·
          replace h5 := if_n c6 h5
          obtain rfl := Option.some.inj h5
          obtain rfl := he5 _ rfl
          refine wk_of [(0, some 0)] rfl ?_ ?_
          ·
            try simp only [go_sem]
            exact ⟨.same _ trivial, ⟨.same _ trivial, ⟨.same _ trivial, ⟨.same _ trivial, ⟨.ptr _ _ _ _ _ (rn_some rfl), ⟨.same _ trivial, .same _ trivial⟩⟩⟩⟩⟩⟩
          ·
            try simp only [go_sem]
            exact wkR_box (rn_some rfl) rfl (wkE _)
      try simp only [go_sem]
      obtain ⟨⟨g12_0, g12_1⟩, h1⟩ := of_guard h1
      simp only [W64 g12_0 g12_1]
      obtain rfl := Option.some.inj h1
      refine nextL (hi1 _ rfl) ?_
      refine wk_of [(0, some 0)] rfl ?_ ?_
      ·
        try simp only [go_sem]
        exact ⟨.same _ trivial, ⟨.same _ trivial, ⟨.same _ trivial, ⟨.same _ trivial, ⟨.ptr _ _ _ _ _ (rn_some rfl), ⟨.same _ trivial, .same _ trivial⟩⟩⟩⟩⟩⟩
      ·
        try simp only [go_sem]
        exact wkR_box (rn_some rfl) rfl (wkE _)
    ·
      replace h1 := if_n c2 h1
      obtain rfl := Option.some.inj h1
      obtain rfl := he1 _ rfl
      refine wk_of [(0, some 0)] rfl ?_ ?_
      ·
        try simp only [go_sem]
        exact ⟨.same _ trivial, ⟨.ptr _ _ _ _ _ (rn_some rfl), ⟨.same _ trivial, .same _ trivial⟩⟩⟩
      ·
        try simp only [go_sem]
        exact wkR_box (rn_some rfl) rfl (wkE _)
  try simp only [go_sem]
  obtain ⟨⟨g13_0, g13_1⟩, h⟩ := of_guard h
  simp only [W64 g13_0 g13_1]
  obtain ⟨e14, h14, h⟩ := of_bind h
  refine cut_j ([(12, AVal.bool (Prod.fst e14)), (11, AVal.ptr (1, 0) 7 0 0), (5, AVal.int IntKind.i64 e0), (4, AVal.ptr (0, 0) 7 0 0), (1, encL 4 encTRect a1)]) ({ nx := 3, rows := [(1, Ent.one { sz := 7, d := encTGap { : TGap }, l := [encTGap (Prod.snd e14)] : Row }), (0, Ent.one { sz := 7, d := encTGap { : TGap }, l := [encTGap { : TGap }] : Row })] : Heap }) ?_ ?_
  ·
    try simp only [go_sem]
    refine loop_w h14 (fun (s : Int × Bool × TGap) => [(52, AVal.int IntKind.i64 (Prod.fst s)), (51, AVal.int IntKind.i64 (↑(List.length a0) : Int)), (50, encL 4 encTRect a0), (12, AVal.bool (Prod.fst (Prod.snd s))), (11, AVal.ptr (1, 0) 7 0 0), (5, AVal.int IntKind.i64 e0), (4, AVal.ptr (0, 0) 7 0 0), (1, encL 4 encTRect a1)]) (fun (s : Int × Bool × TGap) => { nx := 3, rows := [(1, Ent.one { sz := 7, d := encTGap { : TGap }, l := [encTGap (Prod.snd (Prod.snd s))] : Row }), (0, Ent.one { sz := 7, d := encTGap { : TGap }, l := [encTGap { : TGap }] : Row })] : Heap }) ?_ ?_
    ·
      refine wk_of [(1, some 1), (0, some 0)] rfl ?_ ?_
      ·
        try simp only [go_sem]
        exact ⟨.same _ trivial, ⟨.same _ trivial, ⟨.same _ trivial, ⟨.same _ trivial, ⟨.ptr _ _ _ _ _ (rn_some rfl), ⟨.same _ trivial, ⟨.ptr _ _ _ _ _ (rn_some rfl), .same _ trivial⟩⟩⟩⟩⟩⟩⟩
      ·
        try simp only [go_sem]
        exact ⟨wkR_box (rn_some rfl) rfl (wkE _), wkR_box (rn_some rfl) rfl (wkE _)⟩
    intro n15 s15 o15 h15 he15 hi15
    try simp only [go_sem]
    refine cut_l ?_
    try simp only [go_sem]
    refine ways_d (fun c16 => ?_) (fun c16 => ?_)
    ·
      replace h15 := if_p c16 h15
      obtain ⟨e17, h17, h15⟩ := of_bind h15
      refine cut_j ([(52, AVal.int IntKind.i64 (Prod.fst s15)), (51, AVal.int IntKind.i64 (↑(List.length a0) : Int)), (50, encL 4 encTRect a0), (12, AVal.bool (Prod.fst e17)), (11, AVal.ptr (1, 0) 7 0 0), (5, AVal.int IntKind.i64 e0), (4, AVal.ptr (0, 0) 7 0 0), (1, encL 4 encTRect a1)]) ({ nx := 3, rows := [(1, Ent.one { sz := 7, d := encTGap { : TGap }, l := [encTGap (Prod.snd e17)] : Row }), (0, Ent.one { sz := 7, d := encTGap { : TGap }, l := [encTGap { : TGap }] : Row })] : Heap }) ?_ ?_
      ·
        try simp only [go_sem]
        obtain ⟨g18, h17⟩ := of_guard h17
        refine ob ⟨by assumption, by assumption⟩ ?_
        refine cut_l ?_
        try simp only [go_sem]
        refine loop_w h17 (fun (s : Int × Bool × TGap) => [(58, AVal.int IntKind.i64 (Prod.fst s)), (57, AVal.int IntKind.i64 (↑(List.length a1) : Int)), (56, encL 4 encTRect a1), (14, AVal.ptr (3, 0) 4 0 0), (52, AVal.int IntKind.i64 (Prod.fst s15)), (51, AVal.int IntKind.i64 (↑(List.length a0) : Int)), (50, encL 4 encTRect a0), (12, AVal.bool (Prod.fst (Prod.snd s))), (11, AVal.ptr (1, 0) 7 0 0), (5, AVal.int IntKind.i64 e0), (4, AVal.ptr (0, 0) 7 0 0), (1, encL 4 encTRect a1)]) (fun (s : Int × Bool × TGap) => { nx := 5, rows := [(3, Ent.one { sz := 4, d := encTRect { : TRect }, l := [encTRect (List.getD a0 (Int.toNat (Prod.fst s15)) default)] : Row }), (1, Ent.one { sz := 7, d := encTGap { : TGap }, l := [encTGap (Prod.snd (Prod.snd s))] : Row }), (0, Ent.one { sz := 7, d := encTGap { : TGap }, l := [encTGap { : TGap }] : Row })] : Heap }) ?_ ?_
        ·
          refine wk_of [(3, some 3), (1, some 1), (0, some 0)] rfl ?_ ?_
          ·
            try simp only [go_sem]
            exact ⟨.same _ trivial, ⟨.same _ trivial, ⟨.same _ trivial, ⟨.ptr _ _ _ _ _ (rn_some rfl), ⟨.same _ trivial, ⟨.same _ trivial, ⟨.same _ trivial, ⟨.same _ trivial, ⟨.ptr _ _ _ _ _ (rn_some rfl), ⟨.same _ trivial, ⟨.ptr _ _ _ _ _ (rn_some rfl), .same _ trivial⟩⟩⟩⟩⟩⟩⟩⟩⟩⟩⟩
          ·
            try simp only [go_sem]
            exact ⟨wkR_box (rn_some rfl) rfl (wkE _), ⟨wkR_box (rn_some rfl) rfl (wkE _), wkR_box (rn_some rfl) rfl (wkE _)⟩⟩
        intro n19 s19 o19 h19 he19 hi19
        try simp only [go_sem]
        refine cut_l ?_
        try simp only [go_sem]
        refine ways_d (fun c20 => ?_) (fun c20 => ?_)
        ·
          replace h19 := if_p c20 h19
          obtain ⟨e21, h21, h19⟩ := of_bind h19
          refine cut_j ([(58, AVal.int IntKind.i64 (Prod.fst s19)), (57, AVal.int IntKind.i64 (↑(List.length a1) : Int)), (56, encL 4 encTRect a1), (14, AVal.ptr (3, 0) 4 0 0), (52, AVal.int IntKind.i64 (Prod.fst s15)), (51, AVal.int IntKind.i64 (↑(List.length a0) : Int)), (50, encL 4 encTRect a0), (12, AVal.bool (Prod.fst e21)), (11, AVal.ptr (1, 0) 7 0 0), (5, AVal.int IntKind.i64 e0), (4, AVal.ptr (0, 0) 7 0 0), (1, encL 4 encTRect a1)]) ({ nx := 5, rows := [(3, Ent.one { sz := 4, d := encTRect { : TRect }, l := [encTRect (List.getD a0 (Int.toNat (Prod.fst s15)) default)] : Row }), (1, Ent.one { sz := 7, d := encTGap { : TGap }, l := [encTGap (Prod.snd e21)] : Row }), (0, Ent.one { sz := 7, d := encTGap { : TGap }, l := [encTGap { : TGap }] : Row })] : Heap }) ?_ ?_
          ·
            try simp only [go_sem]
            obtain ⟨g22, h21⟩ := of_guard h21
            refine ob ⟨by assumption, by assumption⟩ ?_
            obtain ⟨x23, hx23, h21⟩ := of_bind h21
            refine call_p false (c_shape_near hx23) ⟨wkE _, wkE _, .same _ trivial, trivial⟩ nofun ?_
            try simp only [go_sem]
            obtain ⟨x24, hx24, h21⟩ := of_bind h21
            refine call_p false (c_shape_Far hx24) ⟨wkE _, wkE _, trivial⟩ nofun ?_
            try simp only [go_sem]
            obtain ⟨x25, hx25, h21⟩ := of_bind h21
            refine qcall_p false (fun hg => c_shape_less (if_t hg hx25)) (fun _ => ⟨wkE _, wkE _, trivial⟩) nofun ?_
            try simp only [go_sem]
            refine ob (by intro h1 h2; simp only [h1, h2, Bool.and_self, Bool.not_true, Bool.not_false, Bool.and_true, Bool.true_and]) ?_
            refine cut_l ?_
            try simp only [go_sem]
            refine ways (fun c26 => ?_) (fun c26 => ?_)
            ·
              replace h21 := if_t c26 h21
              try simp only [Bool.and_eq_true, Bool.or_eq_true, Bool.not_eq_true', Bool.not_eq_false', Bool.and_eq_false_imp, Bool.or_eq_false_iff, decide_eq_true_eq, decide_eq_false_iff_not] at c26
              obtain rfl := Option.some.inj h21
              refine wk_of [(3, some 3), (1, some 1), (0, some 0)] rfl ?_ ?_
              ·
                try simp only [go_sem]
                exact ⟨.same _ trivial, ⟨.same _ trivial, ⟨.same _ trivial, ⟨.ptr _ _ _ _ _ (rn_some rfl), ⟨.same _ trivial, ⟨.same _ trivial, ⟨.same _ trivial, ⟨.same _ trivial, ⟨.ptr _ _ _ _ _ (rn_some rfl), ⟨.same _ trivial, ⟨.ptr _ _ _ _ _ (rn_some rfl), .same _ trivial⟩⟩⟩⟩⟩⟩⟩⟩⟩⟩⟩
              ·
                try simp only [go_sem]
                exact ⟨wkR_box (rn_some rfl) rfl (wkE _), ⟨wkR_box (rn_some rfl) rfl (wkE _), wkR_box (rn_some rfl) rfl (wkE _)⟩⟩
            ·
              replace h21 := if_f c26 h21
              try simp only [Bool.and_eq_true, Bool.or_eq_true, Bool.not_eq_true', Bool.not_eq_false', Bool.and_eq_false_imp, Bool.or_eq_false_iff, decide_eq_true_eq, decide_eq_false_iff_not] at c26
              obtain rfl := Option.some.inj h21
              refine wk_of [(3, some 3), (1, some 1), (0, some 0)] rfl ?_ ?_
              ·
                try simp only [go_sem]
                exact ⟨.same _ trivial, ⟨.same _ trivial, ⟨.same _ trivial, ⟨.ptr _ _ _ _ _ (rn_some rfl), ⟨.same _ trivial, ⟨.same _ trivial, ⟨.same _ trivial, ⟨.same _ trivial, ⟨.ptr _ _ _ _ _ (rn_some rfl), ⟨.same _ trivial, ⟨.ptr _ _ _ _ _ (rn_some rfl), .same _ trivial⟩⟩⟩⟩⟩⟩⟩⟩⟩⟩⟩
              ·
                try simp only [go_sem]
                exact ⟨wkR_box (rn_some rfl) rfl (wkE _), ⟨wkR_box (rn_some rfl) rfl (wkE _), wkR_box (rn_some rfl) rfl (wkE _)⟩⟩
          try simp only [go_sem]
          obtain ⟨⟨g27_0, g27_1⟩, h19⟩ := of_guard h19
          simp only [W64 g27_0 g27_1]
          obtain rfl := Option.some.inj h19
          refine nextL (hi19 _ rfl) ?_
          refine wk_of [(3, some 3), (1, some 1), (0, some 0)] rfl ?_ ?_
          ·
            try simp only [go_sem]
            exact ⟨.same _ trivial, ⟨.same _ trivial, ⟨.same _ trivial, ⟨.ptr _ _ _ _ _ (rn_some rfl), ⟨.same _ trivial, ⟨.same _ trivial, ⟨.same _ trivial, ⟨.same _ trivial, ⟨.ptr _ _ _ _ _ (rn_some rfl), ⟨.same _ trivial, ⟨.ptr _ _ _ _ _ (rn_some rfl), .same _ trivial⟩⟩⟩⟩⟩⟩⟩⟩⟩⟩⟩
          ·
            try simp only [go_sem]
            exact ⟨wkR_box (rn_some rfl) rfl (wkE _), ⟨wkR_box (rn_some rfl) rfl (wkE _), wkR_box (rn_some rfl) rfl (wkE _)⟩⟩
        ·
          replace h19 := if_n c20 h19
          obtain rfl := Option.some.inj h19
          obtain rfl := he19 _ rfl
          refine wk_of [(1, some 1), (0, some 0)] rfl ?_ ?_
          ·
            try simp only [go_sem]
            exact ⟨.same _ trivial, ⟨.same _ trivial, ⟨.same _ trivial, ⟨.same _ trivial, ⟨.ptr _ _ _ _ _ (rn_some rfl), ⟨.same _ trivial, ⟨.ptr _ _ _ _ _ (rn_some rfl), .same _ trivial⟩⟩⟩⟩⟩⟩⟩
          ·
            try simp only [go_sem]
            exact ⟨wkR_box (rn_some rfl) rfl (wkE _), wkR_box (rn_some rfl) rfl (wkE _)⟩
      try simp only [go_sem]
      obtain ⟨⟨g28_0, g28_1⟩, h15⟩ := of_guard h15
      simp only [W64 g28_0 g28_1]
      obtain rfl := Option.some.inj h15
      refine nextL (hi15 _ rfl) ?_
      refine wk_of [(1, some 1), (0, some 0)] rfl ?_ ?_
      ·
        try simp only [go_sem]
        exact ⟨.same _ trivial, ⟨.same _ trivial, ⟨.same _ trivial, ⟨.same _ trivial, ⟨.ptr _ _ _ _ _ (rn_some rfl), ⟨.same _ trivial, ⟨.ptr _ _ _ _ _ (rn_some rfl), .same _ trivial⟩⟩⟩⟩⟩⟩⟩
      ·
        try simp only [go_sem]
        exact ⟨wkR_box (rn_some rfl) rfl (wkE _), wkR_box (rn_some rfl) rfl (wkE _)⟩
    ·
      replace h15 := if_n c16 h15
      obtain rfl := Option.some.inj h15
      obtain rfl := he15 _ rfl
      refine wk_of [(1, some 1), (0, some 0)] rfl ?_ ?_
      ·
        try simp only [go_sem]
        exact ⟨.same _ trivial, ⟨.ptr _ _ _ _ _ (rn_some rfl), ⟨.same _ trivial, ⟨.ptr _ _ _ _ _ (rn_some rfl), .same _ trivial⟩⟩⟩⟩
      ·
        try simp only [go_sem]
        exact ⟨wkR_box (rn_some rfl) rfl (wkE _), wkR_box (rn_some rfl) rfl (wkE _)⟩
  try simp only [go_sem]
  obtain ⟨⟨g29_0, g29_1⟩, h⟩ := of_guard h
  simp only [W64 g29_0 g29_1]
  obtain ⟨⟨g30_0, g30_1⟩, h⟩ := of_guard h
  simp only [W64 g30_0 g30_1]
  obtain ⟨e31, h31, h⟩ := of_bind h
  refine cut_j ([(11, AVal.ptr (1, 0) 7 0 0), (4, AVal.ptr (0, 0) 7 0 0)]) ({ nx := 5, rows := [(1, Ent.one { sz := 7, d := encTGap { : TGap }, l := [encTGap e31] : Row }), (0, Ent.one { sz := 7, d := encTGap { : TGap }, l := [encTGap { : TGap }] : Row })] : Heap }) ?_ ?_
  ·
    try simp only [go_sem]
    refine loop_w h31 (fun (s : Int × Bool × TGap) => [(102, AVal.int IntKind.i64 (Prod.fst s)), (101, AVal.int IntKind.i64 (↑(List.length a1) : Int)), (100, encL 4 encTRect a1), (12, AVal.bool (Prod.fst (Prod.snd s))), (18, AVal.ptr (3, 0) 4 0 0), (11, AVal.ptr (1, 0) 7 0 0), (5, AVal.int IntKind.i64 e0), (4, AVal.ptr (0, 0) 7 0 0)]) (fun (s : Int × Bool × TGap) => { nx := 5, rows := [(3, Ent.one { sz := 4, d := encTRect { : TRect }, l := [encTRect { X0 := TPoint.X (TGap.From (Prod.snd e14)), Y0 := TPoint.Y (TGap.From (Prod.snd e14)), X1 := TPoint.X (TGap.From (Prod.snd e14)) + 1, Y1 := TPoint.Y (TGap.From (Prod.snd e14)) + 1 : TRect }] : Row }), (1, Ent.one { sz := 7, d := encTGap { : TGap }, l := [encTGap (Prod.snd (Prod.snd s))] : Row }), (0, Ent.one { sz := 7, d := encTGap { : TGap }, l := [encTGap { : TGap }] : Row })] : Heap }) ?_ ?_
    ·
      refine wk_of [(3, some 3), (1, some 1), (0, some 0)] rfl ?_ ?_
      ·
        try simp only [go_sem]
        exact ⟨.same _ trivial, ⟨.same _ trivial, ⟨.same _ trivial, ⟨.same _ trivial, ⟨.ptr _ _ _ _ _ (rn_some rfl), ⟨.ptr _ _ _ _ _ (rn_some rfl), ⟨.same _ trivial, .ptr _ _ _ _ _ (rn_some rfl)⟩⟩⟩⟩⟩⟩⟩
      ·
        try simp only [go_sem]
        exact ⟨wkR_box (rn_some rfl) rfl (wkE _), ⟨wkR_box (rn_some rfl) rfl (wkE _), wkR_box (rn_some rfl) rfl (wkE _)⟩⟩
    intro n32 s32 o32 h32 he32 hi32
    try simp only [go_sem]
    refine cut_l ?_
    try simp only [go_sem]
    refine ways_d (fun c33 => ?_) (fun c33 => ?_)
    ·
      replace h32 := if_p c33 h32
      obtain ⟨e34, h34, h32⟩ := of_bind h32
      refine cut_j ([(102, AVal.int IntKind.i64 (Prod.fst s32)), (101, AVal.int IntKind.i64 (↑(List.length a1) : Int)), (100, encL 4 encTRect a1), (12, AVal.bool (Prod.fst e34)), (18, AVal.ptr (3, 0) 4 0 0), (11, AVal.ptr (1, 0) 7 0 0), (5, AVal.int IntKind.i64 e0), (4, AVal.ptr (0, 0) 7 0 0)]) ({ nx := 5, rows := [(3, Ent.one { sz := 4, d := encTRect { : TRect }, l := [encTRect { X0 := TPoint.X (TGap.From (Prod.snd e14)), Y0 := TPoint.Y (TGap.From (Prod.snd e14)), X1 := TPoint.X (TGap.From (Prod.snd e14)) + 1, Y1 := TPoint.Y (TGap.From (Prod.snd e14)) + 1 : TRect }] : Row }), (1, Ent.one { sz := 7, d := encTGap { : TGap }, l := [encTGap (Prod.snd e34)] : Row }), (0, Ent.one { sz := 7, d := encTGap { : TGap }, l := [encTGap { : TGap }] : Row })] : Heap }) ?_ ?_
      ·
        try simp only [go_sem]
        obtain ⟨g35, h34⟩ := of_guard h34
        refine ob ⟨by assumption, by assumption⟩ ?_
        obtain ⟨x36, hx36, h34⟩ := of_bind h34
        refine call_p false (c_shape_near hx36) ⟨wkE _, wkE _, .same _ trivial, trivial⟩ nofun ?_
        try simp only [go_sem]
        obtain ⟨x37, hx37, h34⟩ := of_bind h34
        refine call_p false (c_shape_Far hx37) ⟨wkE _, wkE _, trivial⟩ nofun ?_
        try simp only [go_sem]
        obtain ⟨x38, hx38, h34⟩ := of_bind h34
        refine qcall_p false (fun hg => c_shape_less (if_t hg hx38)) (fun _ => ⟨wkE _, wkE _, trivial⟩) nofun ?_
        try simp only [go_sem]
        refine ob (by intro h1 h2; simp only [h1, h2, Bool.and_self, Bool.not_true, Bool.not_false, Bool.and_true, Bool.true_and]) ?_
        refine cut_l ?_
        try simp only [go_sem]
        refine ways (fun c39 => ?_) (fun c39 => ?_)
        ·
          replace h34 := if_t c39 h34
          try simp only [Bool.and_eq_true, Bool.or_eq_true, Bool.not_eq_true', Bool.not_eq_false', Bool.and_eq_false_imp, Bool.or_eq_false_iff, decide_eq_true_eq, decide_eq_false_iff_not] at c39
          obtain rfl := Option.some.inj h34
          refine wk_of [(3, some 3), (1, some 1), (0, some 0)] rfl ?_ ?_
          ·
            try simp only [go_sem]
            exact ⟨.same _ trivial, ⟨.same _ trivial, ⟨.same _ trivial, ⟨.same _ trivial, ⟨.ptr _ _ _ _ _ (rn_some rfl), ⟨.ptr _ _ _ _ _ (rn_some rfl), ⟨.same _ trivial, .ptr _ _ _ _ _ (rn_some rfl)⟩⟩⟩⟩⟩⟩⟩
          ·
            try simp only [go_sem]
            exact ⟨wkR_box (rn_some rfl) rfl (wkE _), ⟨wkR_box (rn_some rfl) rfl (wkE _), wkR_box (rn_some rfl) rfl (wkE _)⟩⟩
        ·
          replace h34 := if_f c39 h34
          try simp only [Bool.and_eq_true, Bool.or_eq_true, Bool.not_eq_true', Bool.not_eq_false', Bool.and_eq_false_imp, Bool.or_eq_false_iff, decide_eq_true_eq, decide_eq_false_iff_not] at c39
          obtain rfl := Option.some.inj h34
          refine wk_of [(3, some 3), (1, some 1), (0, some 0)] rfl ?_ ?_
          ·
            try simp only [go_sem]
            exact ⟨.same _ trivial, ⟨.same _ trivial, ⟨.same _ trivial, ⟨.same _ trivial, ⟨.ptr _ _ _ _ _ (rn_some rfl), ⟨.ptr _ _ _ _ _ (rn_some rfl), ⟨.same _ trivial, .ptr _ _ _ _ _ (rn_some rfl)⟩⟩⟩⟩⟩⟩⟩
          ·
            try simp only [go_sem]
            exact ⟨wkR_box (rn_some rfl) rfl (wkE _), ⟨wkR_box (rn_some rfl) rfl (wkE _), wkR_box (rn_some rfl) rfl (wkE _)⟩⟩
      try simp only [go_sem]
      obtain ⟨⟨g40_0, g40_1⟩, h32⟩ := of_guard h32
      simp only [W64 g40_0 g40_1]
      obtain rfl := Option.some.inj h32
      refine nextL (hi32 _ rfl) ?_
      refine wk_of [(3, some 3), (1, some 1), (0, some 0)] rfl ?_ ?_
      ·
        try simp only [go_sem]
        exact ⟨.same _ trivial, ⟨.same _ trivial, ⟨.same _ trivial, ⟨.same _ trivial, ⟨.ptr _ _ _ _ _ (rn_some rfl), ⟨.ptr _ _ _ _ _ (rn_some rfl), ⟨.same _ trivial, .ptr _ _ _ _ _ (rn_some rfl)⟩⟩⟩⟩⟩⟩⟩
      ·
        try simp only [go_sem]
        exact ⟨wkR_box (rn_some rfl) rfl (wkE _), ⟨wkR_box (rn_some rfl) rfl (wkE _), wkR_box (rn_some rfl) rfl (wkE _)⟩⟩
    ·
      replace h32 := if_n c33 h32
      obtain rfl := Option.some.inj h32
      obtain rfl := he32 _ rfl
      refine wk_of [(1, some 1), (0, some 0)] rfl ?_ ?_
      ·
        try simp only [go_sem]
        exact ⟨.ptr _ _ _ _ _ (rn_some rfl), .ptr _ _ _ _ _ (rn_some rfl)⟩
      ·
        try simp only [go_sem]
        exact ⟨wkR_box (rn_some rfl) rfl (wkE _), wkR_box (rn_some rfl) rfl (wkE _)⟩
  try simp only [go_sem]
  obtain rfl := Option.some.inj h
  exact wkE _
theorem c_shape_SetOf {a0 : (List TRect)} {r : (List TShapeBand)} (h : p_shape_SetOf a0 = some r)  : PCalls Try.prog 52 [encL 4 encTRect a0] (encL 3 encTShapeBand r) := by
  unfold p_shape_SetOf at h
  refine pcalls_of (ordOf [(20, [0, 10, 1, 2, 3, 4, 5, 6, 7, 8, 9, 11, 12])]) (prsOf [(20, [(1, 11), (2, 11), (4, 11), (5, 11), (6, 11), (9, 11), (78, 78)])]) Try.func52 (by unfold Try.f52; rfl) (by kernel_rfl) (by kernel_rfl) ?_
  simp only [awp_seq]
  simp only [argSlots]
  dsimp only [Try.f52]
  try simp only [go_sem]
  obtain ⟨x0, hx0, h⟩ := of_bind h
  refine call_r false [] (c_slices_Clone_Rect_o hx0) ⟨.same _ trivial, trivial⟩ (wkH_rho (by decide) rfl trivial) rfl (by simp) (by simp) nofun ?_
  try simp only [go_sem]
  obtain ⟨x1, hx1, h⟩ := of_bind h
  refine call_r false [0] (c_slices_SortFunc_Rect_o hx1 (by simp only [go_sem]) (fun _ _ _ h => c_shape_SetOf_1 h)) ⟨wkv_sref rfl rfl, wkv_same (by simp only [go_sem]) rfl, trivial⟩ (wkH_rho (by decide) rfl ⟨⟨by decide, wkR_typed rfl rfl rfl⟩, trivial⟩) rfl (by simp) (by simp) nofun ?_
  try simp only [go_sem]
  obtain ⟨e2, h2, h⟩ := of_bind h
  refine cut_j ([(3, AVal.ptr (1, 0) 1 0 0), (0, AVal.sref (0, 0) 0 4 (List.length x0)), (2, AVal.nilsl)]) ({ nx := 3, rows := [(2, Ent.one { sz := 1, d := AVal.int IntKind.i64 0, l := List.map encI e2 : Row }), (0, Ent.one { sz := 4, d := encTRect { : TRect }, l := List.map encTRect x1 : Row }), (1, Ent.one { sz := 1, d := AVal.nilsl, l := [AVal.sref (2, 0) 0 1 (List.length e2)] : Row })] : Heap }) ?_ ?_
  ·
    try simp only [go_sem]
    refine loop_w h2 (fun (s : Int × List Int) => [(16, AVal.int IntKind.i64 (Prod.fst s)), (15, AVal.int IntKind.i64 (↑(List.length x0) : Int)), (14, AVal.sref (0, 0) 0 4 (List.length x0)), (3, AVal.ptr (1, 0) 1 0 0), (0, AVal.sref (0, 0) 0 4 (List.length x0)), (2, AVal.nilsl)]) (fun (s : Int × List Int) => { nx := 3, rows := [(2, Ent.one { sz := 1, d := AVal.int IntKind.i64 0, l := List.map encI (Prod.snd s) : Row }), (0, Ent.one { sz := 4, d := encTRect { : TRect }, l := List.map encTRect x1 : Row }), (1, Ent.one { sz := 1, d := AVal.nilsl, l := [AVal.sref (2, 0) 0 1 (List.length (Prod.snd s))] : Row })] : Heap }) ?_ ?_
    ·
      refine wk_of [(0, some 0), (1, some 1), (2, none)] rfl ?_ ?_
      ·
        try simp only [go_sem]
        exact ⟨.same _ trivial, ⟨.same _ trivial, ⟨wkv_sref (rn_some rfl) rfl, ⟨.ptr _ _ _ _ _ (rn_some rfl), ⟨wkv_sref (rn_some rfl) rfl, .same _ trivial⟩⟩⟩⟩⟩
      ·
        try simp only [go_sem]
        exact ⟨wkR_nilT (rn_none rfl), ⟨wkR_typed (rn_some rfl) rfl rfl, wkR_box (rn_some rfl) rfl (wkv_nil (rn_none rfl) rfl)⟩⟩
    intro n3 s3 o3 h3 he3 hi3
    try simp only [go_sem]
    refine cut_l ?_
    try simp only [go_sem]
    refine ways_d (fun c4 => ?_) (fun c4 => ?_)
    ·
      replace h3 := if_p c4 h3
      refine cut_l ?_
      try simp only [go_sem]
      obtain ⟨⟨g5_0, g5_1⟩, h3⟩ := of_guard h3
      refine ob ⟨⟨by assumption, by assumption⟩, by assumption⟩ ?_
      obtain ⟨g6, h3⟩ := of_guard h3
      refine ob ⟨by omega, by assumption⟩ ?_
      obtain ⟨⟨g7_0, g7_1⟩, h3⟩ := of_guard h3
      simp only [W64 g7_0 g7_1]
      obtain ⟨g8, h3⟩ := of_guard h3
      obtain ⟨g9, h3⟩ := of_guard h3
      obtain rfl := Option.some.inj h3
      refine nextL (hi3 _ rfl) ?_
      refine wk_of [(0, some 0), (1, some 1), (2, some 6)] rfl ?_ ?_
      ·
        try simp only [go_sem]
        exact ⟨.same _ trivial, ⟨.same _ trivial, ⟨wkv_sref (rn_some rfl) rfl, ⟨.ptr _ _ _ _ _ (rn_some rfl), ⟨wkv_sref (rn_some rfl) rfl, .same _ trivial⟩⟩⟩⟩⟩
      ·
        try simp only [go_sem]
        exact ⟨wkR_typed (rn_some rfl) rfl rfl, ⟨wkR_typed (rn_some rfl) rfl rfl, wkR_box (rn_some rfl) rfl (wkv_sref (rn_some rfl) rfl)⟩⟩
    ·
      replace h3 := if_n c4 h3
      obtain ⟨g10, h3⟩ := of_guard h3
      obtain rfl := Option.some.inj h3
      obtain rfl := he3 _ rfl
      refine wk_of [(1, some 1), (0, some 0), (2, some 2)] rfl ?_ ?_
      ·
        try simp only [go_sem]
        exact ⟨.ptr _ _ _ _ _ (rn_some rfl), ⟨wkv_sref (rn_some rfl) rfl, .same _ trivial⟩⟩
      ·
        try simp only [go_sem]
        exact ⟨wkR_typed (rn_some rfl) rfl rfl, ⟨wkR_typed (rn_some rfl) rfl rfl, wkR_box (rn_some rfl) rfl (wkv_sref (rn_some rfl) rfl)⟩⟩
  try simp only [go_sem]
  obtain ⟨x11, hx11, h⟩ := of_bind h
  refine call_r false [2] (c_slices_Sort_int_o hx11) ⟨wkv_sref rfl rfl, trivial⟩ (wkH_rho (by decide) rfl ⟨⟨by decide, wkR_typed rfl rfl rfl⟩, trivial⟩) rfl (by simp) (by simp) nofun ?_
  try simp only [go_sem]
  obtain ⟨g12, h⟩ := of_guard h
  obtain ⟨x13, hx13, h⟩ := of_bind h
  refine call_r false [2] (c_slices_Compact_int_o hx13) ⟨wkv_sref rfl (Eq.symm (by assumption)), trivial⟩ (wkH_rho (by decide) rfl ⟨⟨by decide, wkR_typed rfl rfl rfl⟩, trivial⟩) rfl (by simp) (by simp) nofun ?_
  try simp only [go_sem]
  obtain ⟨e14, h14, h⟩ := of_bind h
  refine cut_j ([(6, encL 3 encTShapeBand e14), (2, AVal.nilsl)]) ({ nx := 7, rows := [] : Heap }) ?_ ?_
  ·
    try simp only [go_sem]
    refine loop_w h14 (fun (s : Int × List TRect × List TShapeBand × Int) => [(9, AVal.ptr (5, 0) 1 0 0), (8, AVal.int IntKind.i64 (Prod.fst s)), (7, AVal.sref (7, 0) 0 4 (List.length (Prod.fst (Prod.snd s)))), (6, AVal.sref (8, 0) 0 3 (List.length (Prod.fst (Prod.snd (Prod.snd s))))), (3, AVal.ptr (1, 0) 1 0 0), (0, AVal.sref (0, 0) 0 4 (List.length x0)), (2, AVal.nilsl)]) (fun (s : Int × List TRect × List TShapeBand × Int) => { nx := 9, rows := [(7, Ent.one { sz := 4, d := encTRect default, l := List.map encTRect (Prod.fst (Prod.snd s)) : Row }), (8, Ent.one { sz := 3, d := encTShapeBand default, l := List.map encTShapeBand (Prod.fst (Prod.snd (Prod.snd s))) : Row }), (5, Ent.one { sz := 1, d := AVal.int IntKind.i64 0, l := [AVal.int IntKind.i64 (Prod.snd (Prod.snd (Prod.snd s)))] : Row }), (3, Ent.one { sz := 1, d := AVal.int IntKind.i64 0, l := List.map encI x13 : Row }), (0, Ent.one { sz := 4, d := encTRect { : TRect }, l := List.map encTRect x1 : Row }), (1, Ent.one { sz := 1, d := AVal.nilsl, l := [AVal.sref (3, 0) 0 1 (List.length x13)] : Row })] : Heap }) ?_ ?_
    ·
      refine wk_of [(5, some 5), (7, none), (8, none), (1, some 1), (0, some 0), (3, some 3)] rfl ?_ ?_
      ·
        try simp only [go_sem]
        exact ⟨.ptr _ _ _ _ _ (rn_some rfl), ⟨.same _ trivial, ⟨wkv_nil (rn_none rfl) rfl, ⟨wkv_nil (rn_none rfl) rfl, ⟨.ptr _ _ _ _ _ (rn_some rfl), ⟨wkv_sref (rn_some rfl) rfl, .same _ trivial⟩⟩⟩⟩⟩⟩
      ·
        try simp only [go_sem]
        exact ⟨wkR_nilT (rn_none rfl), ⟨wkR_nilT (rn_none rfl), ⟨wkR_box (rn_some rfl) rfl (.same _ trivial), ⟨wkR_typed (rn_some rfl) rfl rfl, ⟨wkR_typed (rn_some rfl) rfl rfl, wkR_box (rn_some rfl) rfl (wkv_sref (rn_some rfl) rfl)⟩⟩⟩⟩⟩
    intro n15 s15 o15 h15 he15 hi15
    try simp only [go_sem]
    obtain ⟨⟨g16_0, g16_1⟩, h15⟩ := of_guard h15
    simp only [W64 g16_0 g16_1]
    refine cut_l ?_
    try simp only [go_sem]
    refine ways_d (fun c17 => ?_) (fun c17 => ?_)
    ·
      replace h15 := if_p c17 h15
      obtain ⟨e18, h18, h15⟩ := of_bind h15
      refine cut_j ([(9, AVal.ptr (5, 0) 1 0 0), (8, AVal.int IntKind.i64 (Prod.fst e18)), (7, AVal.sref (7, 0) 0 4 (List.length (Prod.fst (Prod.snd e18)))), (6, AVal.sref (8, 0) 0 3 (List.length (Prod.fst (Prod.snd (Prod.snd e18))))), (3, AVal.ptr (1, 0) 1 0 0), (0, AVal.sref (0, 0) 0 4 (List.length x0)), (2, AVal.nilsl)]) ({ nx := 9, rows := [(7, Ent.one { sz := 4, d := encTRect default, l := List.map encTRect (Prod.fst (Prod.snd e18)) : Row }), (8, Ent.one { sz := 3, d := encTShapeBand default, l := List.map encTShapeBand (Prod.fst (Prod.snd (Prod.snd e18))) : Row }), (5, Ent.one { sz := 1, d := AVal.int IntKind.i64 0, l := [AVal.int IntKind.i64 (Prod.snd (Prod.snd (Prod.snd e18)))] : Row }), (3, Ent.one { sz := 1, d := AVal.int IntKind.i64 0, l := List.map encI x13 : Row }), (0, Ent.one { sz := 4, d := encTRect { : TRect }, l := List.map encTRect x1 : Row }), (1, Ent.one { sz := 1, d := AVal.nilsl, l := [AVal.sref (3, 0) 0 1 (List.length x13)] : Row })] : Heap }) ?_ ?_
      ·
        try simp only [go_sem]
        obtain ⟨x19, hx19, h18⟩ := of_bind h18
        refine call_r true [7] (c_slices_DeleteFunc_Rect_o hx19 (by simp only [go_sem]) (fun _ _ h => c_shape_SetOf_2 h)) ⟨wkv_sref rfl rfl, wkv_fnA rfl ⟨wkv_box rfl (rho_none (by decide)) rfl (by simp only [go_sem]) (wkv_own rfl (rho_none (by decide)) rfl), wkv_box rfl (rho_none (by decide)) rfl (by simp only [go_sem]) (.same _ trivial), trivial⟩, trivial⟩ (wkH_rho (by decide) rfl ⟨⟨by decide, wkR_typed rfl rfl rfl⟩, trivial⟩) rfl (by simp) (by simp) (fun _ => free_rows (by simp only [go_sem]) (by simp only [go_sem])) ?_
        try simp only [go_sem]
        obtain ⟨e20, h20, h18⟩ := of_bind h18
        refine cut_j ([(7, AVal.sref (9, 0) 0 4 (List.length (Prod.snd e20))), (9, AVal.ptr (5, 0) 1 0 0), (8, AVal.int IntKind.i64 (Prod.fst e20)), (6, AVal.sref (8, 0) 0 3 (List.length (Prod.fst (Prod.snd (Prod.snd s15))))), (3, AVal.ptr (1, 0) 1 0 0), (0, AVal.sref (0, 0) 0 4 (List.length x0)), (2, AVal.nilsl)]) ({ nx := 10, rows := [(9, Ent.one { sz := 4, d := encTRect { : TRect }, l := List.map encTRect (Prod.snd e20) : Row }), (8, Ent.one { sz := 3, d := encTShapeBand default, l := List.map encTShapeBand (Prod.fst (Prod.snd (Prod.snd s15))) : Row }), (5, Ent.one { sz := 1, d := AVal.int IntKind.i64 0, l := [AVal.int IntKind.i64 (Prod.snd (Prod.snd (Prod.snd s15)))] : Row }), (3, Ent.one { sz := 1, d := AVal.int IntKind.i64 0, l := List.map encI x13 : Row }), (0, Ent.one { sz := 4, d := encTRect { : TRect }, l := List.map encTRect x1 : Row }), (1, Ent.one { sz := 1, d := AVal.nilsl, l := [AVal.sref (3, 0) 0 1 (List.length x13)] : Row })] : Heap }) ?_ ?_
        ·
          try simp only [go_sem]
          refine loop_w h20 (fun (s : Int × List TRect) => [(7, AVal.sref (9, 0) 0 4 (List.length (Prod.snd s))), (9, AVal.ptr (5, 0) 1 0 0), (8, AVal.int IntKind.i64 (Prod.fst s)), (6, AVal.sref (8, 0) 0 3 (List.length (Prod.fst (Prod.snd (Prod.snd s15))))), (3, AVal.ptr (1, 0) 1 0 0), (0, AVal.sref (0, 0) 0 4 (List.length x0)), (2, AVal.nilsl)]) (fun (s : Int × List TRect) => { nx := 10, rows := [(9, Ent.one { sz := 4, d := encTRect { : TRect }, l := List.map encTRect (Prod.snd s) : Row }), (8, Ent.one { sz := 3, d := encTShapeBand default, l := List.map encTShapeBand (Prod.fst (Prod.snd (Prod.snd s15))) : Row }), (5, Ent.one { sz := 1, d := AVal.int IntKind.i64 0, l := [AVal.int IntKind.i64 (Prod.snd (Prod.snd (Prod.snd s15)))] : Row }), (3, Ent.one { sz := 1, d := AVal.int IntKind.i64 0, l := List.map encI x13 : Row }), (0, Ent.one { sz := 4, d := encTRect { : TRect }, l := List.map encTRect x1 : Row }), (1, Ent.one { sz := 1, d := AVal.nilsl, l := [AVal.sref (3, 0) 0 1 (List.length x13)] : Row })] : Heap }) ?_ ?_
          ·
            refine wk_of [(9, some 9), (5, some 5), (8, some 8), (1, some 1), (0, some 0), (3, some 3)] rfl ?_ ?_
            ·
              try simp only [go_sem]
              exact ⟨wkv_sref (rn_some rfl) rfl, ⟨.ptr _ _ _ _ _ (rn_some rfl), ⟨.same _ trivial, ⟨wkv_sref (rn_some rfl) rfl, ⟨.ptr _ _ _ _ _ (rn_some rfl), ⟨wkv_sref (rn_some rfl) rfl, .same _ trivial⟩⟩⟩⟩⟩⟩
            ·
              try simp only [go_sem]
              exact ⟨wkR_typed (rn_some rfl) rfl rfl, ⟨wkR_typed (rn_some rfl) rfl rfl, ⟨wkR_box (rn_some rfl) rfl (.same _ trivial), ⟨wkR_typed (rn_some rfl) rfl rfl, ⟨wkR_typed (rn_some rfl) rfl rfl, wkR_box (rn_some rfl) rfl (wkv_sref (rn_some rfl) rfl)⟩⟩⟩⟩⟩
          intro n21 s21 o21 h21 he21 hi21
          try simp only [go_sem]
          obtain ⟨⟨g22_0, g22_1, g22_2, g22_3⟩, h21⟩ := of_guard h21
          refine ob ⟨⟨⟨by assumption, by assumption⟩, by assumption⟩, by assumption⟩ ?_
          refine cut_l ?_
          try simp only [go_sem]
          refine ways (fun c23 => ?_) (fun c23 => ?_)
          ·
            replace h21 := if_t c23 h21
            try simp only [Bool.and_eq_true, Bool.or_eq_true, Bool.not_eq_true', Bool.not_eq_false', Bool.and_eq_false_imp, Bool.or_eq_false_iff, decide_eq_true_eq, decide_eq_false_iff_not] at c23
            refine cut_l ?_
            try simp only [go_sem]
            obtain ⟨⟨g24_0, g24_1, g24_2⟩, h21⟩ := of_guard h21
            refine ob ⟨⟨⟨by assumption, by omega⟩, by assumption⟩, ⟨by omega, by assumption⟩⟩ ?_
            obtain ⟨⟨g25_0, g25_1⟩, h21⟩ := of_guard h21
            simp only [W64 g25_0 g25_1]
            obtain ⟨g26, h21⟩ := of_guard h21
            obtain rfl := Option.some.inj h21
            refine nextL (hi21 _ rfl) ?_
            refine wk_of [(9, some 10011), (5, some 5), (8, some 8), (1, some 1), (0, some 0), (3, some 3)] rfl ?_ ?_
            ·
              try simp only [go_sem]
              exact ⟨wkv_sref (rn_some rfl) rfl, ⟨.ptr _ _ _ _ _ (rn_some rfl), ⟨.same _ trivial, ⟨wkv_sref (rn_some rfl) rfl, ⟨.ptr _ _ _ _ _ (rn_some rfl), ⟨wkv_sref (rn_some rfl) rfl, .same _ trivial⟩⟩⟩⟩⟩⟩
            ·
              try simp only [go_sem]
              exact ⟨wkR_typed (rn_some rfl) rfl rfl, ⟨wkR_typed (rn_some rfl) rfl rfl, ⟨wkR_box (rn_some rfl) rfl (.same _ trivial), ⟨wkR_typed (rn_some rfl) rfl rfl, ⟨wkR_typed (rn_some rfl) rfl rfl, wkR_box (rn_some rfl) rfl (wkv_sref (rn_some rfl) rfl)⟩⟩⟩⟩⟩
          ·
            replace h21 := if_f c23 h21
            try simp only [Bool.and_eq_true, Bool.or_eq_true, Bool.not_eq_true', Bool.not_eq_false', Bool.and_eq_false_imp, Bool.or_eq_false_iff, decide_eq_true_eq, decide_eq_false_iff_not] at c23
            obtain ⟨g27, h21⟩ := of_guard h21
            obtain rfl := Option.some.inj h21
            obtain rfl := he21 _ rfl
            refine wk_of [(9, some 9), (5, some 5), (8, some 8), (1, some 1), (0, some 0), (3, some 3)] rfl ?_ ?_
            ·
              try simp only [go_sem]
              exact ⟨wkv_sref (rn_some rfl) rfl, ⟨.ptr _ _ _ _ _ (rn_some rfl), ⟨.same _ trivial, ⟨wkv_sref (rn_some rfl) rfl, ⟨.ptr _ _ _ _ _ (rn_some rfl), ⟨wkv_sref (rn_some rfl) rfl, .same _ trivial⟩⟩⟩⟩⟩⟩
            ·
              try simp only [go_sem]
              exact ⟨wkR_typed (rn_some rfl) rfl rfl, ⟨wkR_typed (rn_some rfl) rfl rfl, ⟨wkR_box (rn_some rfl) rfl (.same _ trivial), ⟨wkR_typed (rn_some rfl) rfl rfl, ⟨wkR_typed (rn_some rfl) rfl rfl, wkR_box (rn_some rfl) rfl (wkv_sref (rn_some rfl) rfl)⟩⟩⟩⟩⟩
        try simp only [go_sem]
        simp only [W64 (n := Prod.snd (Prod.snd (Prod.snd s15)) + 1) (by omega) (by omega)]
        obtain ⟨⟨g28_0, g28_1, g28_2, g28_3⟩, h18⟩ := of_guard h18
        refine ob ⟨⟨⟨⟨by assumption, by omega⟩, by assumption⟩, ⟨by assumption, by assumption⟩⟩, by assumption⟩ ?_
        obtain ⟨x29, hx29, h18⟩ := of_bind h18
        refine rcall_r false [9] (c_shape_stretches_o hx29) ⟨wkv_sref rfl rfl, trivial⟩ (wkH_rho (by decide) rfl ⟨⟨by decide, wkR_typed rfl rfl rfl⟩, trivial⟩) rfl (by decide) (by simp [argNames, namesA]) (by rfl) nofun ?_
        try simp only [go_sem]
        refine ob ⟨by omega, by omega⟩ ?_
        refine ob ⟨by omega, by omega⟩ ?_
        refine ob ⟨by omega, by omega⟩ ?_
        refine ob ⟨by omega, by omega⟩ ?_
        refine ob ⟨by omega, by omega⟩ ?_
        refine ob ⟨by omega, by omega⟩ ?_
        obtain ⟨x30, hx30, h18⟩ := of_bind h18
        refine call_r false [8] (c_shape_Set_push_o hx30) ⟨wkv_sref rfl rfl, wkE _, trivial⟩ (wkH_rho (by decide) rfl ⟨⟨by decide, wkR_typed rfl rfl rfl⟩, trivial⟩) rfl (by simp) (by simp) nofun ?_
        try simp only [go_sem]
        obtain ⟨g31, h18⟩ := of_guard h18
        obtain ⟨g32, h18⟩ := of_guard h18
        obtain rfl := Option.some.inj h18
        refine wk_of [(5, some 5), (7, some 9), (8, some 10010), (1, some 1), (0, some 0), (3, some 3)] rfl ?_ ?_
        ·
          try simp only [go_sem]
          exact ⟨.ptr _ _ _ _ _ (rn_some rfl), ⟨.same _ trivial, ⟨wkv_sref (rn_some rfl) (Eq.symm (by assumption)), ⟨wkv_sref (rn_some rfl) rfl, ⟨.ptr _ _ _ _ _ (rn_some rfl), ⟨wkv_sref (rn_some rfl) rfl, .same _ trivial⟩⟩⟩⟩⟩⟩
        ·
          try simp only [go_sem]
          exact ⟨wkR_typed (rn_some rfl) rfl rfl, ⟨wkR_typed (rn_some rfl) rfl rfl, ⟨wkR_box (rn_some rfl) rfl (.same _ trivial), ⟨wkR_typed (rn_some rfl) rfl rfl, ⟨wkR_typed (rn_some rfl) rfl rfl, wkR_box (rn_some rfl) rfl (wkv_sref (rn_some rfl) rfl)⟩⟩⟩⟩⟩
      try simp only [go_sem]
      obtain ⟨⟨g33_0, g33_1⟩, h15⟩ := of_guard h15
      simp only [W64 g33_0 g33_1]
      obtain ⟨g34, h15⟩ := of_guard h15
      obtain rfl := Option.some.inj h15
      refine nextL (hi15 _ rfl) ?_
      refine wk_of [(5, some 9), (7, some 7), (8, some 8), (1, some 1), (0, some 0), (3, some 3)] rfl ?_ ?_
      ·
        try simp only [go_sem]
        exact ⟨.ptr _ _ _ _ _ (rn_some rfl), ⟨.same _ trivial, ⟨wkv_sref (rn_some rfl) rfl, ⟨wkv_sref (rn_some rfl) rfl, ⟨.ptr _ _ _ _ _ (rn_some rfl), ⟨wkv_sref (rn_some rfl) rfl, .same _ trivial⟩⟩⟩⟩⟩⟩
      ·
        try simp only [go_sem]
        exact ⟨wkR_typed (rn_some rfl) rfl rfl, ⟨wkR_typed (rn_some rfl) rfl rfl, ⟨wkR_box (rn_some rfl) rfl (.same _ trivial), ⟨wkR_typed (rn_some rfl) rfl rfl, ⟨wkR_typed (rn_some rfl) rfl rfl, wkR_box (rn_some rfl) rfl (wkv_sref (rn_some rfl) rfl)⟩⟩⟩⟩⟩
    ·
      replace h15 := if_n c17 h15
      obtain rfl := Option.some.inj h15
      obtain rfl := he15 _ rfl
      refine wk_of [] rfl ?_ ?_
      ·
        try simp only [go_sem]
        exact ⟨wkv_own rfl (rn_notTo rfl) rfl, .same _ trivial⟩
      ·
        try simp only [go_sem]
  try simp only [go_sem]
  obtain rfl := Option.some.inj h
  exact .same _ trivial
theorem c_shape_isRect {a0 : TRect} {r : Bool} (h : p_shape_isRect a0 = some r)  : PCalls Try.prog 56 [encTRect a0] (.bool r) := by
  unfold p_shape_isRect at h
  refine pcalls_of (fun _ => none) (fun _ => []) Try.func56 (by unfold Try.f56; rfl) (by kernel_rfl) (by kernel_rfl) ?_
  simp only [awp_seq]
  simp only [argSlots]
  dsimp only [Try.f56]
  try simp only [go_sem]
  obtain ⟨x0, hx0, h⟩ := of_bind h
  refine call_p false (c_shape_IsAt hx0) ⟨.same _ trivial, trivial⟩ nofun ?_
  try simp only [go_sem]
  obtain ⟨x1, hx1, h⟩ := of_bind h
  refine qcall_p false (fun hg => c_shape_IsAt (if_t hg hx1)) (fun _ => ⟨.same _ trivial, trivial⟩) nofun ?_
  try simp only [go_sem]
  obtain ⟨x2, hx2, h⟩ := of_bind h
  refine qcall_p false (fun hg => c_shape_IsAt (if_t hg hx2)) (fun _ => ⟨.same _ trivial, trivial⟩) nofun ?_
  try simp only [go_sem]
  obtain ⟨x3, hx3, h⟩ := of_bind h
  refine qcall_p false (fun hg => c_shape_IsAt (if_t hg hx3)) (fun _ => ⟨.same _ trivial, trivial⟩) nofun ?_
  try simp only [go_sem]
  obtain rfl := Option.some.inj h
  exact .same _ trivial
theorem c_ref1_CheckRegion {a0 : (List TRect)} {r : Int} (h : p_ref1_CheckRegion a0 = some r)  : PCalls Try.prog 19 [encL 4 encTRect a0] (.int .i64 r) := by
  unfold p_ref1_CheckRegion at h
  refine pcalls_of (ordOf [(7, [0, 1, 2, 3, 5, 6, 7, 4, 8, 9, 10])]) (fun _ => []) Try.func19 (by unfold Try.f19; rfl) (by kernel_rfl) (by kernel_rfl) ?_
  simp only [awp_seq]
  simp only [argSlots]
  dsimp only [Try.f19]
  try simp only [go_sem]
  obtain ⟨x0, hx0, h⟩ := of_bind h
  refine call_p false (c_ref1_CheckRects hx0) ⟨.same _ trivial, trivial⟩ nofun ?_
  try simp only [go_sem]
  refine cut_l ?_
  try simp only [go_sem]
  refine ways_n (fun c1 => ?_) (fun c1 => ?_)
  ·
    replace h := if_n c1 h
    obtain rfl := Option.some.inj h
    exact .same _ trivial
  ·
    replace h := if_p c1 h
    obtain ⟨z2, h2, h⟩ := of_bind h
    refine cut_z z2 (fun (s : Int) => [(2, AVal.int IntKind.i64 s), (0, encL 4 encTRect a0)]) (fun (s : Int) => { nx := 0, rows := [] : Heap }) ?_ (fun e2 hz2 => ?_)
    ·
      try simp only [go_sem]
      refine loop_w h2 (fun (s : Int × Int) => [(4, AVal.int IntKind.i64 (Prod.fst s)), (2, AVal.int IntKind.i64 (Prod.snd s)), (0, encL 4 encTRect a0)]) (fun (s : Int × Int) => { nx := 0, rows := [] : Heap }) ?_ ?_
      ·
        refine wk_of [] rfl ?_ ?_
        ·
          try simp only [go_sem]
          exact ⟨.same _ trivial, ⟨.same _ trivial, .same _ trivial⟩⟩
        ·
          try simp only [go_sem]
      intro n3 s3 o3 h3 he3 hi3
      try simp only [go_sem]
      refine cut_l ?_
      try simp only [go_sem]
      refine ways_d (fun c4 => ?_) (fun c4 => ?_)
      ·
        replace h3 := if_p c4 h3
        refine cut_l ?_
        try simp only [go_sem]
        obtain ⟨⟨g5_0, g5_1⟩, h3⟩ := of_guard h3
        simp only [W64 g5_0 g5_1]
        obtain ⟨⟨g6_0, g6_1⟩, h3⟩ := of_guard h3
        refine ob ⟨⟨by assumption, by omega⟩, ⟨by assumption, by assumption⟩⟩ ?_
        obtain ⟨x7, hx7, h3⟩ := of_bind h3
        refine qcall_p false (fun _ => c_ref1_before hx7) (fun _ => ⟨wkE _, wkE _, trivial⟩) nofun ?_
        try simp only [go_sem]
        refine cut_l ?_
        try simp only [go_sem]
        refine ways (fun c8 => ?_) (fun c8 => ?_)
        ·
          replace h3 := if_t c8 h3
          try simp only [Bool.and_eq_true, Bool.or_eq_true, Bool.not_eq_true', Bool.not_eq_false', Bool.and_eq_false_imp, Bool.or_eq_false_iff, decide_eq_true_eq, decide_eq_false_iff_not] at c8
          obtain rfl := Option.some.inj h3
          obtain rfl := he3 _ rfl
          obtain rfl := Option.some.inj h
          exact .same _ trivial
        ·
          replace h3 := if_f c8 h3
          try simp only [Bool.and_eq_true, Bool.or_eq_true, Bool.not_eq_true', Bool.not_eq_false', Bool.and_eq_false_imp, Bool.or_eq_false_iff, decide_eq_true_eq, decide_eq_false_iff_not] at c8
          obtain ⟨⟨g9_0, g9_1⟩, h3⟩ := of_guard h3
          simp only [W64 g9_0 g9_1]
          obtain rfl := Option.some.inj h3
          refine nextL (hi3 _ rfl) ?_
          refine wk_of [] rfl ?_ ?_
          ·
            try simp only [go_sem]
            exact ⟨.same _ trivial, ⟨.same _ trivial, .same _ trivial⟩⟩
          ·
            try simp only [go_sem]
      ·
        replace h3 := if_n c4 h3
        obtain rfl := Option.some.inj h3
        obtain rfl := he3 _ rfl
        refine zend ?_
        refine wk_of [] rfl ?_ ?_
        ·
          try simp only [go_sem]
          exact ⟨.same _ trivial, .same _ trivial⟩
        ·
          try simp only [go_sem]
    subst hz2
    simp only [Sum.elim_inr] at h
    try simp only [go_sem]
    obtain ⟨x10, hx10, h⟩ := of_bind h
    refine call_p false (c_ref1_Canonical hx10) ⟨.same _ trivial, trivial⟩ nofun ?_
    obtain ⟨x11, hx11, h⟩ := of_bind h
    refine call_p false (c_ref1_SameRects hx11) ⟨.same _ trivial, .same _ trivial, trivial⟩ nofun ?_
    try simp only [go_sem]
    refine cut_l ?_
    try simp only [go_sem]
    refine ways (fun c12 => ?_) (fun c12 => ?_)
    ·
      replace h := if_t c12 h
      try simp only [Bool.and_eq_true, Bool.or_eq_true, Bool.not_eq_true', Bool.not_eq_false', Bool.and_eq_false_imp, Bool.or_eq_false_iff, decide_eq_true_eq, decide_eq_false_iff_not] at c12
      obtain rfl := Option.some.inj h
      exact .same _ trivial
    ·
      replace h := if_f c12 h
      try simp only [Bool.and_eq_true, Bool.or_eq_true, Bool.not_eq_true', Bool.not_eq_false', Bool.and_eq_false_imp, Bool.or_eq_false_iff, decide_eq_true_eq, decide_eq_false_iff_not] at c12
      obtain rfl := Option.some.inj h
      exact .same _ trivial
theorem c_ref1_GapOf {a0 : (List TRect)} {a1 : (List TRect)} {r : TGap} (h : p_ref1_GapOf a0 a1 = some r)  : PCalls Try.prog 78 [encL 4 encTRect a0, encL 4 encTRect a1] (encTGap r) := by
  unfold p_ref1_GapOf at h
  refine pcalls_of (fun _ => none) (fun _ => []) Try.func78 (by unfold Try.f78; rfl) (by kernel_rfl) (by kernel_rfl) ?_
  simp only [awp_seq]
  simp only [argSlots]
  dsimp only [Try.f78]
  try simp only [go_sem]
  obtain ⟨x0, hx0, h⟩ := of_bind h
  refine call_p false (c_ref1_farRegions hx0) ⟨.same _ trivial, .same _ trivial, trivial⟩ nofun ?_
  obtain ⟨x1, hx1, h⟩ := of_bind h
  refine call_p false (c_ref1_nearest hx1) ⟨.same _ trivial, .same _ trivial, .same _ trivial, trivial⟩ nofun ?_
  try simp only [go_sem]
  obtain ⟨x2, hx2, h⟩ := of_bind h
  refine call_p true (c_ref1_nearest hx2) ⟨.same _ trivial, wkv_own rfl (R0_ne _) rfl, .same _ trivial, trivial⟩ (fun _ => by simp only [go_sem]) ?_
  try simp only [go_sem]
  obtain ⟨⟨g3_0, g3_1⟩, h⟩ := of_guard h
  simp only [W64 g3_0 g3_1]
  obtain ⟨⟨g4_0, g4_1⟩, h⟩ := of_guard h
  simp only [W64 g4_0 g4_1]
  obtain ⟨⟨g5_0, g5_1⟩, h⟩ := of_guard h
  simp only [W64 g5_0 g5_1]
  obtain rfl := Option.some.inj h
  exact wkE _
theorem c_shape_CheckRects {a0 : (List TRect)} {r : Int} (h : p_shape_CheckRects a0 = some r)  : PCalls Try.prog 16 [encL 4 encTRect a0] (.int .i64 r) := by
  unfold p_shape_CheckRects at h
  refine pcalls_of (fun _ => none) (fun _ => []) Try.func16 (by unfold Try.f16; rfl) (by kernel_rfl) (by kernel_rfl) ?_
  simp only [awp_seq]
  simp only [argSlots]
  dsimp only [Try.f16]
  try simp only [go_sem]
  refine cut_l ?_
  try simp only [go_sem]
  refine ways_d (fun c0 => ?_) (fun c0 => ?_)
  ·
    replace h := if_p c0 h
    obtain rfl := Option.some.inj h
    exact .same _ trivial
  ·
    replace h := if_n c0 h
    obtain ⟨z1, h1, h⟩ := of_bind h
    refine cut_z z1 (fun (s : Int) => [(2, AVal.int IntKind.i64 s)]) (fun (s : Int) => { nx := 0, rows := [] : Heap }) ?_ (fun e1 hz1 => ?_)
    ·
      try simp only [go_sem]
      refine loop_w h1 (fun (s : Int × Int) => [(10, AVal.int IntKind.i64 (Prod.fst s)), (9, AVal.int IntKind.i64 (↑(List.length a0) : Int)), (8, encL 4 encTRect a0), (2, AVal.int IntKind.i64 (Prod.snd s))]) (fun (s : Int × Int) => { nx := 0, rows := [] : Heap }) ?_ ?_
      ·
        refine wk_of [] rfl ?_ ?_
        ·
          try simp only [go_sem]
          exact ⟨.same _ trivial, ⟨.same _ trivial, ⟨.same _ trivial, .same _ trivial⟩⟩⟩
        ·
          try simp only [go_sem]
      intro n2 s2 o2 h2 he2 hi2
      try simp only [go_sem]
      refine cut_l ?_
      try simp only [go_sem]
      refine ways_d (fun c3 => ?_) (fun c3 => ?_)
      ·
        replace h2 := if_p c3 h2
        refine cut_l ?_
        try simp only [go_sem]
        obtain ⟨g4, h2⟩ := of_guard h2
        refine ob ⟨by assumption, by assumption⟩ ?_
        obtain ⟨x5, hx5, h2⟩ := of_bind h2
        refine call_p false (c_shape_isRect hx5) ⟨wkE _, trivial⟩ nofun ?_
        try simp only [go_sem]
        refine cut_l ?_
        try simp only [go_sem]
        refine ways (fun c6 => ?_) (fun c6 => ?_)
        ·
          replace h2 := if_t c6 h2
          try simp only [Bool.and_eq_true, Bool.or_eq_true, Bool.not_eq_true', Bool.not_eq_false', Bool.and_eq_false_imp, Bool.or_eq_false_iff, decide_eq_true_eq, decide_eq_false_iff_not] at c6
          obtain rfl := Option.some.inj h2
          obtain rfl := he2 _ rfl
          obtain rfl := Option.some.inj h
          exact .same _ trivial
        ·
          replace h2 := if_f c6 h2
          try simp only [Bool.and_eq_true, Bool.or_eq_true, Bool.not_eq_true', Bool.not_eq_false', Bool.and_eq_false_imp, Bool.or_eq_false_iff, decide_eq_true_eq, decide_eq_false_iff_not] at c6
          refine ob (by simp) ?_
          refine cut_l ?_
          try simp only [go_sem]
          refine ways (fun c7 => ?_) (fun c7 => ?_)
          ·
            replace h2 := if_t c7 h2
            try simp only [Bool.and_eq_true, Bool.or_eq_true, Bool.not_eq_true', Bool.not_eq_false', Bool.and_eq_false_imp, Bool.or_eq_false_iff, decide_eq_true_eq, decide_eq_false_iff_not] at c7
            obtain rfl := Option.some.inj h2
            obtain rfl := he2 _ rfl
            obtain rfl := Option.some.inj h
            exact .same _ trivial
          ·
            replace h2 := if_f c7 h2
            try simp only [Bool.and_eq_true, Bool.or_eq_true, Bool.not_eq_true', Bool.not_eq_false', Bool.and_eq_false_imp, Bool.or_eq_false_iff, decide_eq_true_eq, decide_eq_false_iff_not] at c7
            simp only [W64 (n := Prod.fst s2 + 1) (by omega) (by omega)]
            obtain rfl := Option.some.inj h2
            refine nextL (hi2 _ rfl) ?_
            refine wk_of [] rfl ?_ ?_
            ·
              try simp only [go_sem]
              exact ⟨.same _ trivial, ⟨.same _ trivial, ⟨.same _ trivial, .same _ trivial⟩⟩⟩
            ·
              try simp only [go_sem]
      ·
        replace h2 := if_n c3 h2
        obtain rfl := Option.some.inj h2
        obtain rfl := he2 _ rfl
        refine zend ?_
        refine wk_of [] rfl ?_ ?_
        ·
          try simp only [go_sem]
          exact .same _ trivial
        ·
          try simp only [go_sem]
    subst hz1
    simp only [Sum.elim_inr] at h
    try simp only [go_sem]
    obtain rfl := Option.some.inj h
    exact .same _ trivial
theorem c_ref1_Gaps {a0 : (List (List TRect))} {a1 : Int} {r : (List TGap) × Int} (h : p_ref1_Gaps a0 a1 = some r)  : PCalls Try.prog 39 [encL 1 (encL 4 encTRect) a0, .int .i64 a1] (tup [encL 7 encTGap r.1, .int .i64 r.2]) := by
  unfold p_ref1_Gaps at h
  refine pcalls_of (ordOf [(24, [0, 1, 2, 4, 5, 6, 3, 7, 8, 9]), (26, [0, 1, 2, 4, 5, 6, 10, 3, 7, 8, 9, 11]), (27, [0, 1, 2, 4, 5, 6, 3, 7, 8, 9, 10])]) (fun _ => []) Try.func39 (by unfold Try.f39; rfl) (by kernel_rfl) (by kernel_rfl) ?_
  simp only [awp_seq]
  simp only [argSlots]
  dsimp only [Try.f39]
  try simp only [go_sem]
  obtain ⟨e0, h0, h⟩ := of_bind h
  refine cut_j ([(6, AVal.int IntKind.i64 e0), (5, AVal.int IntKind.i64 0), (4, AVal.nilsl), (0, encL 1 (encL 4 encTRect) a0), (1, AVal.int IntKind.i64 a1)]) ({ nx := 0, rows := [] : Heap }) ?_ ?_
  ·
    try simp only [go_sem]
    refine loop_w h0 (fun (s : Int × Int) => [(7, AVal.int IntKind.i64 (Prod.fst s)), (6, AVal.int IntKind.i64 (Prod.snd s)), (5, AVal.int IntKind.i64 0), (4, AVal.nilsl), (0, encL 1 (encL 4 encTRect) a0), (1, AVal.int IntKind.i64 a1)]) (fun (s : Int × Int) => { nx := 0, rows := [] : Heap }) ?_ ?_
    ·
      refine wk_of [] rfl ?_ ?_
      ·
        try simp only [go_sem]
        exact ⟨.same _ trivial, ⟨.same _ trivial, ⟨.same _ trivial, ⟨.same _ trivial, ⟨.same _ trivial, .same _ trivial⟩⟩⟩⟩⟩
      ·
        try simp only [go_sem]
    intro n1 s1 o1 h1 he1 hi1
    try simp only [go_sem]
    refine cut_l ?_
    try simp only [go_sem]
    refine ways_d (fun c2 => ?_) (fun c2 => ?_)
    ·
      replace h1 := if_p c2 h1
      refine cut_l ?_
      try simp only [go_sem]
      obtain ⟨g3, h1⟩ := of_guard h1
      refine ob ⟨by assumption, by assumption⟩ ?_
      obtain ⟨⟨g4_0, g4_1⟩, h1⟩ := of_guard h1
      simp only [W64 g4_0 g4_1]
      obtain rfl := Option.some.inj h1
      refine nextL (hi1 _ rfl) ?_
      refine wk_of [] rfl ?_ ?_
      ·
        try simp only [go_sem]
        exact ⟨.same _ trivial, ⟨.same _ trivial, ⟨.same _ trivial, ⟨.same _ trivial, ⟨.same _ trivial, .same _ trivial⟩⟩⟩⟩⟩
      ·
        try simp only [go_sem]
    ·
      replace h1 := if_n c2 h1
      obtain rfl := Option.some.inj h1
      obtain rfl := he1 _ rfl
      refine wk_of [] rfl ?_ ?_
      ·
        try simp only [go_sem]
        exact ⟨.same _ trivial, ⟨.same _ trivial, ⟨.same _ trivial, ⟨.same _ trivial, .same _ trivial⟩⟩⟩⟩
      ·
        try simp only [go_sem]
  try simp only [go_sem]
  refine ob (by simp) ?_
  refine cut_l ?_
  try simp only [go_sem]
  refine ways (fun c5 => ?_) (fun c5 => ?_)
  ·
    replace h := if_t c5 h
    try simp only [Bool.and_eq_true, Bool.or_eq_true, Bool.not_eq_true', Bool.not_eq_false', Bool.and_eq_false_imp, Bool.or_eq_false_iff, decide_eq_true_eq, decide_eq_false_iff_not] at c5
    obtain rfl := Option.some.inj h
    exact wkv_tup ⟨wkv_nilL, .same _ trivial, trivial⟩
  ·
    replace h := if_f c5 h
    try simp only [Bool.and_eq_true, Bool.or_eq_true, Bool.not_eq_true', Bool.not_eq_false', Bool.and_eq_false_imp, Bool.or_eq_false_iff, decide_eq_true_eq, decide_eq_false_iff_not] at c5
    obtain ⟨z6, h6, h⟩ := of_bind h
    refine cut_z z6 (fun (s : Int × List TGap) => [(5, AVal.int IntKind.i64 (Prod.fst s)), (4, encL 7 encTGap (Prod.snd s)), (0, encL 1 (encL 4 encTRect) a0), (1, AVal.int IntKind.i64 a1)]) (fun (s : Int × List TGap) => { nx := 0, rows := [] : Heap }) ?_ (fun e6 hz6 => ?_)
    ·
      try simp only [go_sem]
      refine loop_w h6 (fun (s : Int × Int × List TGap) => [(8, AVal.int IntKind.i64 (Prod.fst s)), (5, AVal.int IntKind.i64 (Prod.fst (Prod.snd s))), (4, encL 7 encTGap (Prod.snd (Prod.snd s))), (0, encL 1 (encL 4 encTRect) a0), (1, AVal.int IntKind.i64 a1)]) (fun (s : Int × Int × List TGap) => { nx := 0, rows := [] : Heap }) ?_ ?_
      ·
        refine wk_of [] rfl ?_ ?_
        ·
          try simp only [go_sem]
          exact ⟨.same _ trivial, ⟨.same _ trivial, ⟨wkv_nilL, ⟨.same _ trivial, .same _ trivial⟩⟩⟩⟩
        ·
          try simp only [go_sem]
      intro n7 s7 o7 h7 he7 hi7
      try simp only [go_sem]
      refine cut_l ?_
      try simp only [go_sem]
      refine ways_d (fun c8 => ?_) (fun c8 => ?_)
      ·
        replace h7 := if_p c8 h7
        refine cut_l ?_
        try simp only [go_sem]
        obtain ⟨g9, h7⟩ := of_guard h7
        refine ob ⟨by assumption, by assumption⟩ ?_
        obtain ⟨x10, hx10, h7⟩ := of_bind h7
        refine call_p false (c_ref1_CheckRegion hx10) ⟨.same _ trivial, trivial⟩ nofun ?_
        try simp only [go_sem]
        refine cut_l ?_
        try simp only [go_sem]
        refine ways_n (fun c11 => ?_) (fun c11 => ?_)
        ·
          replace h7 := if_n c11 h7
          obtain rfl := Option.some.inj h7
          obtain rfl := he7 _ rfl
          obtain rfl := Option.some.inj h
          exact wkv_tup ⟨wkv_nilL, .same _ trivial, trivial⟩
        ·
          replace h7 := if_p c11 h7
          simp only [W64 (n := Prod.fst s7 + 1) (by omega) (by omega)]
          obtain rfl := Option.some.inj h7
          refine nextL (hi7 _ rfl) ?_
          refine wk_of [] rfl ?_ ?_
          ·
            try simp only [go_sem]
            exact ⟨.same _ trivial, ⟨.same _ trivial, ⟨.same _ trivial, ⟨.same _ trivial, .same _ trivial⟩⟩⟩⟩
          ·
            try simp only [go_sem]
      ·
        replace h7 := if_n c8 h7
        obtain rfl := Option.some.inj h7
        obtain rfl := he7 _ rfl
        refine zend ?_
        refine wk_of [] rfl ?_ ?_
        ·
          try simp only [go_sem]
          exact ⟨.same _ trivial, ⟨.same _ trivial, ⟨.same _ trivial, .same _ trivial⟩⟩⟩
        ·
          try simp only [go_sem]
    subst hz6
    simp only [Sum.elim_inr] at h
    try simp only [go_sem]
    obtain ⟨x12, hx12, h⟩ := of_bind h
    refine call_p false (c_ref1_within hx12) ⟨.same _ trivial, .same _ trivial, .same _ trivial, trivial⟩ nofun ?_
    try simp only [go_sem]
    refine cut_l ?_
    try simp only [go_sem]
    refine ways (fun c13 => ?_) (fun c13 => ?_)
    ·
      replace h := if_t c13 h
      try simp only [Bool.and_eq_true, Bool.or_eq_true, Bool.not_eq_true', Bool.not_eq_false', Bool.and_eq_false_imp, Bool.or_eq_false_iff, decide_eq_true_eq, decide_eq_false_iff_not] at c13
      obtain rfl := Option.some.inj h
      exact wkv_tup ⟨wkv_nilL, .same _ trivial, trivial⟩
    ·
      replace h := if_f c13 h
      try simp only [Bool.and_eq_true, Bool.or_eq_true, Bool.not_eq_true', Bool.not_eq_false', Bool.and_eq_false_imp, Bool.or_eq_false_iff, decide_eq_true_eq, decide_eq_false_iff_not] at c13
      obtain ⟨z14, h14, h⟩ := of_bind h
      refine cut_z z14 (fun (s : List TGap × Int × List TGap) => [(10, encL 7 encTGap (Prod.fst s)), (5, AVal.int IntKind.i64 (Prod.fst (Prod.snd s))), (4, encL 7 encTGap (Prod.snd (Prod.snd s)))]) (fun (s : List TGap × Int × List TGap) => { nx := 0, rows := [] : Heap }) ?_ (fun e14 hz14 => ?_)
      ·
        try simp only [go_sem]
        refine loop_w h14 (fun (s : Int × List TGap × Int × List TGap) => [(11, AVal.int IntKind.i64 (Prod.fst s)), (10, AVal.sref (0, 0) 0 7 (List.length (Prod.fst (Prod.snd s)))), (5, AVal.int IntKind.i64 (Prod.fst (Prod.snd (Prod.snd s)))), (4, encL 7 encTGap (Prod.snd (Prod.snd (Prod.snd s)))), (0, encL 1 (encL 4 encTRect) a0), (1, AVal.int IntKind.i64 a1)]) (fun (s : Int × List TGap × Int × List TGap) => { nx := 1, rows := [(0, Ent.one { sz := 7, d := encTGap default, l := List.map encTGap (Prod.fst (Prod.snd s)) : Row })] : Heap }) ?_ ?_
        ·
          refine wk_of [(0, none)] rfl ?_ ?_
          ·
            try simp only [go_sem]
            exact ⟨.same _ trivial, ⟨wkv_nil (rn_none rfl) rfl, ⟨.same _ trivial, ⟨.same _ trivial, ⟨.same _ trivial, .same _ trivial⟩⟩⟩⟩⟩
          ·
            try simp only [go_sem]
            exact wkR_nilT (rn_none rfl)
        intro n15 s15 o15 h15 he15 hi15
        try simp only [go_sem]
        refine cut_l ?_
        try simp only [go_sem]
        refine ways_d (fun c16 => ?_) (fun c16 => ?_)
        ·
          replace h15 := if_p c16 h15
          obtain ⟨z17, h17, h15⟩ := of_bind h15
          refine cut_z z17 (fun (s : Int × List TGap × List TGap) => [(11, AVal.int IntKind.i64 (Prod.fst s15)), (10, AVal.sref (0, 0) 0 7 (List.length (Prod.snd (Prod.snd s)))), (5, AVal.int IntKind.i64 (Prod.fst s)), (4, encL 7 encTGap (Prod.fst (Prod.snd s))), (0, encL 1 (encL 4 encTRect) a0), (1, AVal.int IntKind.i64 a1)]) (fun (s : Int × List TGap × List TGap) => { nx := 1, rows := [(0, Ent.one { sz := 7, d := encTGap default, l := List.map encTGap (Prod.snd (Prod.snd s)) : Row })] : Heap }) ?_ (fun e17 hz17 => ?_)
          ·
            try simp only [go_sem]
            obtain ⟨⟨g18_0, g18_1⟩, h17⟩ := of_guard h17
            simp only [W64 g18_0 g18_1]
            refine cut_l ?_
            try simp only [go_sem]
            refine loop_w h17 (fun (s : Int × Int × List TGap × List TGap) => [(12, AVal.int IntKind.i64 (Prod.fst s)), (11, AVal.int IntKind.i64 (Prod.fst s15)), (10, AVal.sref (0, 0) 0 7 (List.length (Prod.snd (Prod.snd (Prod.snd s))))), (5, AVal.int IntKind.i64 (Prod.fst (Prod.snd s))), (4, encL 7 encTGap (Prod.fst (Prod.snd (Prod.snd s)))), (0, encL 1 (encL 4 encTRect) a0), (1, AVal.int IntKind.i64 a1)]) (fun (s : Int × Int × List TGap × List TGap) => { nx := 1, rows := [(0, Ent.one { sz := 7, d := encTGap default, l := List.map encTGap (Prod.snd (Prod.snd (Prod.snd s))) : Row })] : Heap }) ?_ ?_
            ·
              refine wk_of [(0, some 0)] rfl ?_ ?_
              ·
                try simp only [go_sem]
                exact ⟨.same _ trivial, ⟨.same _ trivial, ⟨wkv_sref (rn_some rfl) rfl, ⟨.same _ trivial, ⟨.same _ trivial, ⟨.same _ trivial, .same _ trivial⟩⟩⟩⟩⟩⟩
              ·
                try simp only [go_sem]
                exact wkR_typed (rn_some rfl) rfl rfl
            intro n19 s19 o19 h19 he19 hi19
            try simp only [go_sem]
            refine cut_l ?_
            try simp only [go_sem]
            refine ways_d (fun c20 => ?_) (fun c20 => ?_)
            ·
              replace h19 := if_p c20 h19
              obtain ⟨z21, h21, h19⟩ := of_bind h19
              refine cut_z z21 (fun (s : Int × List TGap × List TGap) => [(12, AVal.int IntKind.i64 (Prod.fst s19)), (11, AVal.int IntKind.i64 (Prod.fst s15)), (10, AVal.sref (0, 0) 0 7 (List.length (Prod.snd (Prod.snd s)))), (5, AVal.int IntKind.i64 (Prod.fst s)), (4, encL 7 encTGap (Prod.fst (Prod.snd s))), (0, encL 1 (encL 4 encTRect) a0), (1, AVal.int IntKind.i64 a1)]) (fun (s : Int × List TGap × List TGap) => { nx := 1, rows := [(0, Ent.one { sz := 7, d := encTGap default, l := List.map encTGap (Prod.snd (Prod.snd s)) : Row })] : Heap }) ?_ (fun e21 hz21 => ?_)
              ·
                try simp only [go_sem]
                obtain ⟨⟨g22_0, g22_1⟩, h21⟩ := of_guard h21
                refine ob ⟨⟨⟨by assumption, by assumption⟩, by assumption⟩, by simp⟩ ?_
                refine cut_l ?_
                try simp only [go_sem]
                refine ways (fun c23 => ?_) (fun c23 => ?_)
                ·
                  replace h21 := if_t c23 h21
                  try simp only [Bool.and_eq_true, Bool.or_eq_true, Bool.not_eq_true', Bool.not_eq_false', Bool.and_eq_false_imp, Bool.or_eq_false_iff, decide_eq_true_eq, decide_eq_false_iff_not] at c23
                  obtain rfl := Option.some.inj h21
                  refine zend ?_
                  refine wk_of [(0, some 0)] rfl ?_ ?_
                  ·
                    try simp only [go_sem]
                    exact ⟨.same _ trivial, ⟨.same _ trivial, ⟨wkv_sref (rn_some rfl) rfl, ⟨.same _ trivial, ⟨.same _ trivial, ⟨.same _ trivial, .same _ trivial⟩⟩⟩⟩⟩⟩
                  ·
                    try simp only [go_sem]
                    exact wkR_typed (rn_some rfl) rfl rfl
                ·
                  replace h21 := if_f c23 h21
                  try simp only [Bool.and_eq_true, Bool.or_eq_true, Bool.not_eq_true', Bool.not_eq_false', Bool.and_eq_false_imp, Bool.or_eq_false_iff, decide_eq_true_eq, decide_eq_false_iff_not] at c23
                  obtain ⟨g24, h21⟩ := of_guard h21
                  refine ob ⟨⟨by assumption, by assumption⟩, ⟨by assumption, by assumption⟩⟩ ?_
                  obtain ⟨x25, hx25, h21⟩ := of_bind h21
                  refine qcall_p false (fun _ => c_ref1_farRegions hx25) (fun _ => ⟨.same _ trivial, .same _ trivial, trivial⟩) nofun ?_
                  try simp only [go_sem]
                  refine cut_l ?_
                  try simp only [go_sem]
                  refine ways_d (fun c26 => ?_) (fun c26 => ?_)
                  ·
                    replace h21 := if_p c26 h21
                    obtain rfl := Option.some.inj h21
                    obtain rfl := Option.some.inj h19
                    obtain rfl := he19 _ rfl
                    obtain rfl := Option.some.inj h15
                    obtain rfl := he15 _ rfl
                    obtain rfl := Option.some.inj h
                    exact wkv_tup ⟨wkv_nilL, .same _ trivial, trivial⟩
                  ·
                    replace h21 := if_n c26 h21
                    refine ob ⟨⟨by assumption, by assumption⟩, ⟨by assumption, by assumption⟩⟩ ?_
                    obtain ⟨x27, hx27, h21⟩ := of_bind h21
                    refine qcall_p false (fun _ => c_ref1_farRegions hx27) (fun _ => ⟨.same _ trivial, .same _ trivial, trivial⟩) nofun ?_
                    try simp only [go_sem]
                    obtain ⟨⟨g28_0, g28_1⟩, h21⟩ := of_guard h21
                    simp only [W64 g28_0 g28_1]
                    refine cut_l ?_
                    try simp only [go_sem]
                    refine ways_d (fun c29 => ?_) (fun c29 => ?_)
                    ·
                      replace h21 := if_p c29 h21
                      refine ob ⟨⟨by assumption, by assumption⟩, ⟨by assumption, by assumption⟩⟩ ?_
                      obtain ⟨x30, hx30, h21⟩ := of_bind h21
                      refine qcall_p false (fun _ => c_ref1_GapOf hx30) (fun _ => ⟨.same _ trivial, .same _ trivial, trivial⟩) nofun ?_
                      try simp only [go_sem]
                      obtain ⟨g31, h21⟩ := of_guard h21
                      refine ob ⟨by omega, by assumption⟩ ?_
                      obtain rfl := Option.some.inj h21
                      refine zend ?_
                      refine wk_of [(0, some 30004)] rfl ?_ ?_
                      ·
                        try simp only [go_sem]
                        exact ⟨.same _ trivial, ⟨.same _ trivial, ⟨wkv_sref (rn_some rfl) rfl, ⟨.same _ trivial, ⟨.same _ trivial, ⟨.same _ trivial, .same _ trivial⟩⟩⟩⟩⟩⟩
                      ·
                        try simp only [go_sem]
                        exact wkR_typed (rn_some rfl) rfl rfl
                    ·
                      replace h21 := if_n c29 h21
                      obtain rfl := Option.some.inj h21
                      refine zend ?_
                      refine wk_of [(0, some 0)] rfl ?_ ?_
                      ·
                        try simp only [go_sem]
                        exact ⟨.same _ trivial, ⟨.same _ trivial, ⟨wkv_sref (rn_some rfl) rfl, ⟨.same _ trivial, ⟨.same _ trivial, ⟨.same _ trivial, .same _ trivial⟩⟩⟩⟩⟩⟩
                      ·
                        try simp only [go_sem]
                        exact wkR_typed (rn_some rfl) rfl rfl
              subst hz21
              simp only [Sum.elim_inr] at h19
              try simp only [go_sem]
              obtain ⟨⟨g32_0, g32_1⟩, h19⟩ := of_guard h19
              simp only [W64 g32_0 g32_1]
              obtain rfl := Option.some.inj h19
              refine nextL (hi19 _ rfl) ?_
              refine wk_of [(0, some 0)] rfl ?_ ?_
              ·
                try simp only [go_sem]
                exact ⟨.same _ trivial, ⟨.same _ trivial, ⟨wkv_sref (rn_some rfl) rfl, ⟨.same _ trivial, ⟨.same _ trivial, ⟨.same _ trivial, .same _ trivial⟩⟩⟩⟩⟩⟩
              ·
                try simp only [go_sem]
                exact wkR_typed (rn_some rfl) rfl rfl
            ·
              replace h19 := if_n c20 h19
              obtain rfl := Option.some.inj h19
              obtain rfl := he19 _ rfl
              refine zend ?_
              refine wk_of [(0, some 0)] rfl ?_ ?_
              ·
                try simp only [go_sem]
                exact ⟨.same _ trivial, ⟨wkv_sref (rn_some rfl) rfl, ⟨.same _ trivial, ⟨.same _ trivial, ⟨.same _ trivial, .same _ trivial⟩⟩⟩⟩⟩
              ·
                try simp only [go_sem]
                exact wkR_typed (rn_some rfl) rfl rfl
          subst hz17
          simp only [Sum.elim_inr] at h15
          try simp only [go_sem]
          obtain ⟨⟨g33_0, g33_1⟩, h15⟩ := of_guard h15
          simp only [W64 g33_0 g33_1]
          obtain rfl := Option.some.inj h15
          refine nextL (hi15 _ rfl) ?_
          refine wk_of [(0, some 0)] rfl ?_ ?_
          ·
            try simp only [go_sem]
            exact ⟨.same _ trivial, ⟨wkv_sref (rn_some rfl) rfl, ⟨.same _ trivial, ⟨.same _ trivial, ⟨.same _ trivial, .same _ trivial⟩⟩⟩⟩⟩
          ·
            try simp only [go_sem]
            exact wkR_typed (rn_some rfl) rfl rfl
        ·
          replace h15 := if_n c16 h15
          obtain rfl := Option.some.inj h15
          obtain rfl := he15 _ rfl
          refine zend ?_
          refine wk_of [] rfl ?_ ?_
          ·
            try simp only [go_sem]
            exact ⟨wkv_own rfl (rn_notTo rfl) rfl, ⟨.same _ trivial, .same _ trivial⟩⟩
          ·
            try simp only [go_sem]
      subst hz14
      simp only [Sum.elim_inr] at h
      try simp only [go_sem]
      obtain rfl := Option.some.inj h
      exact wkv_same (by simp only [go_sem]) rfl
end Go.Nw
