/- The walks of the functions. -/
import Derived.Test.YtjjnepcdiajppaaNwSortF
import Derived.Test.YtjjnepcdiajppaaNwDR
import Derived.Test.YtjjnepcdiajppaaNwPR0
set_option linter.unusedVariables false
set_option linter.unusedSimpArgs false
set_option maxRecDepth 100000
namespace Go.Nw
open Go.Proofs
theorem c_shape_SetOf {a0 : (List TRect)} {r : (List TShapeBand)} (h : p_shape_SetOf a0 = some r)  : PCalls Try.prog 52 [encL 4 encTRect a0] (encL 3 encTShapeBand r) := by
  unfold p_shape_SetOf at h
  refine pcalls_of (ordOf [(20, [0, 10, 1, 2, 3, 4, 5, 6, 7, 8, 9, 11, 12])]) (prsOf [(20, [(1, 11), (2, 11), (4, 11), (5, 11), (6, 11), (9, 11), (78, 78)])]) Try.func52 (by unfold Try.f52; rfl) (by kernel_rfl) (by kernel_rfl) ?_
  simp only [awp_seq]
  simp only [argSlots]
  dsimp only [Try.f52]
  try simp only [go_sem]
  obtain ⟨x0, hx0, h⟩ := of_bind h
  refine call_r false [] (c_slices_Clone_Rect_o hx0) ⟨.same _ trivial, trivial⟩ (wkH_rho (by decide) rfl trivial) rfl (by simp) (by simp) nofun ?_
  try simp only [go_sem]
  obtain ⟨x1, hx1, h⟩ := of_bind h
  refine call_r false [0] (c_slices_SortFunc_Rect_o hx1 (by simp only [go_sem]) (fun _ _ _ h => c_shape_SetOf_1 h)) ⟨wkv_sref rfl rfl, wkv_same (by simp only [go_sem]) rfl, trivial⟩ (wkH_rho (by decide) rfl ⟨⟨by decide, wkR_typed rfl rfl rfl⟩, trivial⟩) rfl (by simp) (by simp) nofun ?_
  try simp only [go_sem]
  obtain ⟨e2, h2, h⟩ := of_bind h
  refine cut_j ([(3, AVal.ptr (1, 0) 1 0 0), (0, AVal.sref (0, 0) 0 4 (List.length x0)), (2, AVal.nilsl)]) ({ nx := 3, rows := [(2, Ent.one { sz := 1, d := AVal.int IntKind.i64 0, l := List.map encI e2 : Row }), (0, Ent.one { sz := 4, d := encTRect { : TRect }, l := List.map encTRect x1 : Row }), (1, Ent.one { sz := 1, d := AVal.nilsl, l := [AVal.sref (2, 0) 0 1 (List.length e2)] : Row })] : Heap }) ?_ ?_
  ·
    try simp only [go_sem]
    refine loop_w h2 (fun (s : Int × List Int) => [(16, AVal.int IntKind.i64 (Prod.fst s)), (15, AVal.int IntKind.i64 (↑(List.length x0) : Int)), (14, AVal.sref (0, 0) 0 4 (List.length x0)), (3, AVal.ptr (1, 0) 1 0 0), (0, AVal.sref (0, 0) 0 4 (List.length x0)), (2, AVal.nilsl)]) (fun (s : Int × List Int) => { nx := 3, rows := [(2, Ent.one { sz := 1, d := AVal.int IntKind.i64 0, l := List.map encI (Prod.snd s) : Row }), (0, Ent.one { sz := 4, d := encTRect { : TRect }, l := List.map encTRect x1 : Row }), (1, Ent.one { sz := 1, d := AVal.nilsl, l := [AVal.sref (2, 0) 0 1 (List.length (Prod.snd s))] : Row })] : Heap }) ?_ ?_
    ·
      refine wk_of [(0, some 0), (1, some 1), (2, none)] rfl ?_ ?_
      ·
        try simp only [go_sem]
        exact ⟨.same _ trivial, ⟨.same _ trivial, ⟨wkv_sref (rn_some rfl) rfl, ⟨.ptr _ _ _ _ _ (rn_some rfl), ⟨wkv_sref (rn_some rfl) rfl, .same _ trivial⟩⟩⟩⟩⟩
      ·
        try simp only [go_sem]
        exact ⟨wkR_nilT (rn_none rfl), ⟨wkR_typed (rn_some rfl) rfl rfl, wkR_box (rn_some rfl) rfl (wkv_nil (rn_none rfl) rfl)⟩⟩
    intro n3 s3 o3 h3 he3 hi3
    try simp only [go_sem]
    refine cut_l ?_
    try simp only [go_sem]
    refine ways_d (fun c4 => ?_) (fun c4 => ?_)
    ·
      replace h3 := if_p c4 h3
      refine cut_l ?_
      try simp only [go_sem]
      obtain ⟨⟨g5_0, g5_1⟩, h3⟩ := of_guard h3
      refine ob ⟨⟨by assumption, by assumption⟩, by assumption⟩ ?_
      obtain ⟨g6, h3⟩ := of_guard h3
      refine ob ⟨by omega, by assumption⟩ ?_
      obtain ⟨⟨g7_0, g7_1⟩, h3⟩ := of_guard h3
      simp only [W64 g7_0 g7_1]
      obtain ⟨g8, h3⟩ := of_guard h3
      obtain ⟨g9, h3⟩ := of_guard h3
      obtain rfl := Option.some.inj h3
      refine nextL (hi3 _ rfl) ?_
      refine wk_of [(0, some 0), (1, some 1), (2, some 6)] rfl ?_ ?_
      ·
        try simp only [go_sem]
        exact ⟨.same _ trivial, ⟨.same _ trivial, ⟨wkv_sref (rn_some rfl) rfl, ⟨.ptr _ _ _ _ _ (rn_some rfl), ⟨wkv_sref (rn_some rfl) rfl, .same _ trivial⟩⟩⟩⟩⟩
      ·
        try simp only [go_sem]
        exact ⟨wkR_typed (rn_some rfl) rfl rfl, ⟨wkR_typed (rn_some rfl) rfl rfl, wkR_box (rn_some rfl) rfl (wkv_sref (rn_some rfl) rfl)⟩⟩
    ·
      replace h3 := if_n c4 h3
      obtain ⟨g10, h3⟩ := of_guard h3
      obtain rfl := Option.some.inj h3
      obtain rfl := he3 _ rfl
      refine wk_of [(1, some 1), (0, some 0), (2, some 2)] rfl ?_ ?_
      ·
        try simp only [go_sem]
        exact ⟨.ptr _ _ _ _ _ (rn_some rfl), ⟨wkv_sref (rn_some rfl) rfl, .same _ trivial⟩⟩
      ·
        try simp only [go_sem]
        exact ⟨wkR_typed (rn_some rfl) rfl rfl, ⟨wkR_typed (rn_some rfl) rfl rfl, wkR_box (rn_some rfl) rfl (wkv_sref (rn_some rfl) rfl)⟩⟩
  try simp only [go_sem]
  obtain ⟨x11, hx11, h⟩ := of_bind h
  refine call_r false [2] (c_slices_Sort_int_o hx11) ⟨wkv_sref rfl rfl, trivial⟩ (wkH_rho (by decide) rfl ⟨⟨by decide, wkR_typed rfl rfl rfl⟩, trivial⟩) rfl (by simp) (by simp) nofun ?_
  try simp only [go_sem]
  obtain ⟨g12, h⟩ := of_guard h
  obtain ⟨x13, hx13, h⟩ := of_bind h
  refine call_r false [2] (c_slices_Compact_int_o hx13) ⟨wkv_sref rfl (Eq.symm (by assumption)), trivial⟩ (wkH_rho (by decide) rfl ⟨⟨by decide, wkR_typed rfl rfl rfl⟩, trivial⟩) rfl (by simp) (by simp) nofun ?_
  try simp only [go_sem]
  obtain ⟨e14, h14, h⟩ := of_bind h
  refine cut_j ([(6, encL 3 encTShapeBand e14), (2, AVal.nilsl)]) ({ nx := 7, rows := [] : Heap }) ?_ ?_
  ·
    try simp only [go_sem]
    refine loop_w h14 (fun (s : Int × List TRect × List TShapeBand × Int) => [(9, AVal.ptr (5, 0) 1 0 0), (8, AVal.int IntKind.i64 (Prod.fst s)), (7, AVal.sref (7, 0) 0 4 (List.length (Prod.fst (Prod.snd s)))), (6, AVal.sref (8, 0) 0 3 (List.length (Prod.fst (Prod.snd (Prod.snd s))))), (3, AVal.ptr (1, 0) 1 0 0), (0, AVal.sref (0, 0) 0 4 (List.length x0)), (2, AVal.nilsl)]) (fun (s : Int × List TRect × List TShapeBand × Int) => { nx := 9, rows := [(7, Ent.one { sz := 4, d := encTRect default, l := List.map encTRect (Prod.fst (Prod.snd s)) : Row }), (8, Ent.one { sz := 3, d := encTShapeBand default, l := List.map encTShapeBand (Prod.fst (Prod.snd (Prod.snd s))) : Row }), (5, Ent.one { sz := 1, d := AVal.int IntKind.i64 0, l := [AVal.int IntKind.i64 (Prod.snd (Prod.snd (Prod.snd s)))] : Row }), (3, Ent.one { sz := 1, d := AVal.int IntKind.i64 0, l := List.map encI x13 : Row }), (0, Ent.one { sz := 4, d := encTRect { : TRect }, l := List.map encTRect x1 : Row }), (1, Ent.one { sz := 1, d := AVal.nilsl, l := [AVal.sref (3, 0) 0 1 (List.length x13)] : Row })] : Heap }) ?_ ?_
    ·
      refine wk_of [(5, some 5), (7, none), (8, none), (1, some 1), (0, some 0), (3, some 3)] rfl ?_ ?_
      ·
        try simp only [go_sem]
        exact ⟨.ptr _ _ _ _ _ (rn_some rfl), ⟨.same _ trivial, ⟨wkv_nil (rn_none rfl) rfl, ⟨wkv_nil (rn_none rfl) rfl, ⟨.ptr _ _ _ _ _ (rn_some rfl), ⟨wkv_sref (rn_some rfl) rfl, .same _ trivial⟩⟩⟩⟩⟩⟩
      ·
        try simp only [go_sem]
        exact ⟨wkR_nilT (rn_none rfl), ⟨wkR_nilT (rn_none rfl), ⟨wkR_box (rn_some rfl) rfl (.same _ trivial), ⟨wkR_typed (rn_some rfl) rfl rfl, ⟨wkR_typed (rn_some rfl) rfl rfl, wkR_box (rn_some rfl) rfl (wkv_sref (rn_some rfl) rfl)⟩⟩⟩⟩⟩
    intro n15 s15 o15 h15 he15 hi15
    try simp only [go_sem]
    obtain ⟨⟨g16_0, g16_1⟩, h15⟩ := of_guard h15
    simp only [W64 g16_0 g16_1]
    refine cut_l ?_
    try simp only [go_sem]
    refine ways_d (fun c17 => ?_) (fun c17 => ?_)
    ·
      replace h15 := if_p c17 h15
      obtain ⟨e18, h18, h15⟩ := of_bind h15
      refine cut_j ([(9, AVal.ptr (5, 0) 1 0 0), (8, AVal.int IntKind.i64 (Prod.fst e18)), (7, AVal.sref (7, 0) 0 4 (List.length (Prod.fst (Prod.snd e18)))), (6, AVal.sref (8, 0) 0 3 (List.length (Prod.fst (Prod.snd (Prod.snd e18))))), (3, AVal.ptr (1, 0) 1 0 0), (0, AVal.sref (0, 0) 0 4 (List.length x0)), (2, AVal.nilsl)]) ({ nx := 9, rows := [(7, Ent.one { sz := 4, d := encTRect default, l := List.map encTRect (Prod.fst (Prod.snd e18)) : Row }), (8, Ent.one { sz := 3, d := encTShapeBand default, l := List.map encTShapeBand (Prod.fst (Prod.snd (Prod.snd e18))) : Row }), (5, Ent.one { sz := 1, d := AVal.int IntKind.i64 0, l := [AVal.int IntKind.i64 (Prod.snd (Prod.snd (Prod.snd e18)))] : Row }), (3, Ent.one { sz := 1, d := AVal.int IntKind.i64 0, l := List.map encI x13 : Row }), (0, Ent.one { sz := 4, d := encTRect { : TRect }, l := List.map encTRect x1 : Row }), (1, Ent.one { sz := 1, d := AVal.nilsl, l := [AVal.sref (3, 0) 0 1 (List.length x13)] : Row })] : Heap }) ?_ ?_
      ·
        try simp only [go_sem]
        obtain ⟨x19, hx19, h18⟩ := of_bind h18
        refine call_r true [7] (c_slices_DeleteFunc_Rect_o hx19 (by simp only [go_sem]) (fun _ _ h => c_shape_SetOf_2 h)) ⟨wkv_sref rfl rfl, wkv_fnA rfl ⟨wkv_box rfl (rho_none (by decide)) rfl (by simp only [go_sem]) (wkv_own rfl (rho_none (by decide)) rfl), wkv_box rfl (rho_none (by decide)) rfl (by simp only [go_sem]) (.same _ trivial), trivial⟩, trivial⟩ (wkH_rho (by decide) rfl ⟨⟨by decide, wkR_typed rfl rfl rfl⟩, trivial⟩) rfl (by simp) (by simp) (fun _ => free_rows (by simp only [go_sem]) (by simp only [go_sem])) ?_
        try simp only [go_sem]
        obtain ⟨e20, h20, h18⟩ := of_bind h18
        refine cut_j ([(7, AVal.sref (9, 0) 0 4 (List.length (Prod.snd e20))), (9, AVal.ptr (5, 0) 1 0 0), (8, AVal.int IntKind.i64 (Prod.fst e20)), (6, AVal.sref (8, 0) 0 3 (List.length (Prod.fst (Prod.snd (Prod.snd s15))))), (3, AVal.ptr (1, 0) 1 0 0), (0, AVal.sref (0, 0) 0 4 (List.length x0)), (2, AVal.nilsl)]) ({ nx := 10, rows := [(9, Ent.one { sz := 4, d := encTRect { : TRect }, l := List.map encTRect (Prod.snd e20) : Row }), (8, Ent.one { sz := 3, d := encTShapeBand default, l := List.map encTShapeBand (Prod.fst (Prod.snd (Prod.snd s15))) : Row }), (5, Ent.one { sz := 1, d := AVal.int IntKind.i64 0, l := [AVal.int IntKind.i64 (Prod.snd (Prod.snd (Prod.snd s15)))] : Row }), (3, Ent.one { sz := 1, d := AVal.int IntKind.i64 0, l := List.map encI x13 : Row }), (0, Ent.one { sz := 4, d := encTRect { : TRect }, l := List.map encTRect x1 : Row }), (1, Ent.one { sz := 1, d := AVal.nilsl, l := [AVal.sref (3, 0) 0 1 (List.length x13)] : Row })] : Heap }) ?_ ?_
        ·
          try simp only [go_sem]
          refine loop_w h20 (fun (s : Int × List TRect) => [(7, AVal.sref (9, 0) 0 4 (List.length (Prod.snd s))), (9, AVal.ptr (5, 0) 1 0 0), (8, AVal.int IntKind.i64 (Prod.fst s)), (6, AVal.sref (8, 0) 0 3 (List.length (Prod.fst (Prod.snd (Prod.snd s15))))), (3, AVal.ptr (1, 0) 1 0 0), (0, AVal.sref (0, 0) 0 4 (List.length x0)), (2, AVal.nilsl)]) (fun (s : Int × List TRect) => { nx := 10, rows := [(9, Ent.one { sz := 4, d := encTRect { : TRect }, l := List.map encTRect (Prod.snd s) : Row }), (8, Ent.one { sz := 3, d := encTShapeBand default, l := List.map encTShapeBand (Prod.fst (Prod.snd (Prod.snd s15))) : Row }), (5, Ent.one { sz := 1, d := AVal.int IntKind.i64 0, l := [AVal.int IntKind.i64 (Prod.snd (Prod.snd (Prod.snd s15)))] : Row }), (3, Ent.one { sz := 1, d := AVal.int IntKind.i64 0, l := List.map encI x13 : Row }), (0, Ent.one { sz := 4, d := encTRect { : TRect }, l := List.map encTRect x1 : Row }), (1, Ent.one { sz := 1, d := AVal.nilsl, l := [AVal.sref (3, 0) 0 1 (List.length x13)] : Row })] : Heap }) ?_ ?_
          ·
            refine wk_of [(9, some 9), (5, some 5), (8, some 8), (1, some 1), (0, some 0), (3, some 3)] rfl ?_ ?_
            ·
              try simp only [go_sem]
              exact ⟨wkv_sref (rn_some rfl) rfl, ⟨.ptr _ _ _ _ _ (rn_some rfl), ⟨.same _ trivial, ⟨wkv_sref (rn_some rfl) rfl, ⟨.ptr _ _ _ _ _ (rn_some rfl), ⟨wkv_sref (rn_some rfl) rfl, .same _ trivial⟩⟩⟩⟩⟩⟩
            ·
              try simp only [go_sem]
              exact ⟨wkR_typed (rn_some rfl) rfl rfl, ⟨wkR_typed (rn_some rfl) rfl rfl, ⟨wkR_box (rn_some rfl) rfl (.same _ trivial), ⟨wkR_typed (rn_some rfl) rfl rfl, ⟨wkR_typed (rn_some rfl) rfl rfl, wkR_box (rn_some rfl) rfl (wkv_sref (rn_some rfl) rfl)⟩⟩⟩⟩⟩
          intro n21 s21 o21 h21 he21 hi21
          try simp only [go_sem]
          obtain ⟨⟨g22_0, g22_1, g22_2, g22_3⟩, h21⟩ := of_guard h21
          refine ob ⟨⟨⟨by assumption, by assumption⟩, by assumption⟩, by assumption⟩ ?_
          refine cut_l ?_
          try simp only [go_sem]
          refine ways (fun c23 => ?_) (fun c23 => ?_)
          ·
            replace h21 := if_t c23 h21
            try simp only [Bool.and_eq_true, Bool.or_eq_true, Bool.not_eq_true', Bool.not_eq_false', Bool.and_eq_false_imp, Bool.or_eq_false_iff, decide_eq_true_eq, decide_eq_false_iff_not] at c23
            refine cut_l ?_
            try simp only [go_sem]
            obtain ⟨⟨g24_0, g24_1, g24_2⟩, h21⟩ := of_guard h21
            refine ob ⟨⟨⟨by assumption, by omega⟩, by assumption⟩, ⟨by omega, by assumption⟩⟩ ?_
            obtain ⟨⟨g25_0, g25_1⟩, h21⟩ := of_guard h21
            simp only [W64 g25_0 g25_1]
            obtain ⟨g26, h21⟩ := of_guard h21
            obtain rfl := Option.some.inj h21
            refine nextL (hi21 _ rfl) ?_
            refine wk_of [(9, some 10011), (5, some 5), (8, some 8), (1, some 1), (0, some 0), (3, some 3)] rfl ?_ ?_
            ·
              try simp only [go_sem]
              exact ⟨wkv_sref (rn_some rfl) rfl, ⟨.ptr _ _ _ _ _ (rn_some rfl), ⟨.same _ trivial, ⟨wkv_sref (rn_some rfl) rfl, ⟨.ptr _ _ _ _ _ (rn_some rfl), ⟨wkv_sref (rn_some rfl) rfl, .same _ trivial⟩⟩⟩⟩⟩⟩
            ·
              try simp only [go_sem]
              exact ⟨wkR_typed (rn_some rfl) rfl rfl, ⟨wkR_typed (rn_some rfl) rfl rfl, ⟨wkR_box (rn_some rfl) rfl (.same _ trivial), ⟨wkR_typed (rn_some rfl) rfl rfl, ⟨wkR_typed (rn_some rfl) rfl rfl, wkR_box (rn_some rfl) rfl (wkv_sref (rn_some rfl) rfl)⟩⟩⟩⟩⟩
          ·
            replace h21 := if_f c23 h21
            try simp only [Bool.and_eq_true, Bool.or_eq_true, Bool.not_eq_true', Bool.not_eq_false', Bool.and_eq_false_imp, Bool.or_eq_false_iff, decide_eq_true_eq, decide_eq_false_iff_not] at c23
            obtain ⟨g27, h21⟩ := of_guard h21
            obtain rfl := Option.some.inj h21
            obtain rfl := he21 _ rfl
            refine wk_of [(9, some 9), (5, some 5), (8, some 8), (1, some 1), (0, some 0), (3, some 3)] rfl ?_ ?_
            ·
              try simp only [go_sem]
              exact ⟨wkv_sref (rn_some rfl) rfl, ⟨.ptr _ _ _ _ _ (rn_some rfl), ⟨.same _ trivial, ⟨wkv_sref (rn_some rfl) rfl, ⟨.ptr _ _ _ _ _ (rn_some rfl), ⟨wkv_sref (rn_some rfl) rfl, .same _ trivial⟩⟩⟩⟩⟩⟩
            ·
              try simp only [go_sem]
              exact ⟨wkR_typed (rn_some rfl) rfl rfl, ⟨wkR_typed (rn_some rfl) rfl rfl, ⟨wkR_box (rn_some rfl) rfl (.same _ trivial), ⟨wkR_typed (rn_some rfl) rfl rfl, ⟨wkR_typed (rn_some rfl) rfl rfl, wkR_box (rn_some rfl) rfl (wkv_sref (rn_some rfl) rfl)⟩⟩⟩⟩⟩
        try simp only [go_sem]
        simp only [W64 (n := Prod.snd (Prod.snd (Prod.snd s15)) + 1) (by omega) (by omega)]
        obtain ⟨⟨g28_0, g28_1, g28_2, g28_3⟩, h18⟩ := of_guard h18
        refine ob ⟨⟨⟨⟨by assumption, by omega⟩, by assumption⟩, ⟨by assumption, by assumption⟩⟩, by assumption⟩ ?_
        obtain ⟨x29, hx29, h18⟩ := of_bind h18
        refine rcall_r false [9] (c_shape_stretches_o hx29) ⟨wkv_sref rfl rfl, trivial⟩ (wkH_rho (by decide) rfl ⟨⟨by decide, wkR_typed rfl rfl rfl⟩, trivial⟩) rfl (by decide) (by simp [argNames, namesA]) (by rfl) nofun ?_
        try simp only [go_sem]
        refine ob ⟨by omega, by omega⟩ ?_
        refine ob ⟨by omega, by omega⟩ ?_
        refine ob ⟨by omega, by omega⟩ ?_
        refine ob ⟨by omega, by omega⟩ ?_
        refine ob ⟨by omega, by omega⟩ ?_
        refine ob ⟨by omega, by omega⟩ ?_
        obtain ⟨x30, hx30, h18⟩ := of_bind h18
        refine call_r false [8] (c_shape_Set_push_o hx30) ⟨wkv_sref rfl rfl, wkE _, trivial⟩ (wkH_rho (by decide) rfl ⟨⟨by decide, wkR_typed rfl rfl rfl⟩, trivial⟩) rfl (by simp) (by simp) nofun ?_
        try simp only [go_sem]
        obtain ⟨g31, h18⟩ := of_guard h18
        obtain ⟨g32, h18⟩ := of_guard h18
        obtain rfl := Option.some.inj h18
        refine wk_of [(5, some 5), (7, some 9), (8, some 10010), (1, some 1), (0, some 0), (3, some 3)] rfl ?_ ?_
        ·
          try simp only [go_sem]
          exact ⟨.ptr _ _ _ _ _ (rn_some rfl), ⟨.same _ trivial, ⟨wkv_sref (rn_some rfl) (Eq.symm (by assumption)), ⟨wkv_sref (rn_some rfl) rfl, ⟨.ptr _ _ _ _ _ (rn_some rfl), ⟨wkv_sref (rn_some rfl) rfl, .same _ trivial⟩⟩⟩⟩⟩⟩
        ·
          try simp only [go_sem]
          exact ⟨wkR_typed (rn_some rfl) rfl rfl, ⟨wkR_typed (rn_some rfl) rfl rfl, ⟨wkR_box (rn_some rfl) rfl (.same _ trivial), ⟨wkR_typed (rn_some rfl) rfl rfl, ⟨wkR_typed (rn_some rfl) rfl rfl, wkR_box (rn_some rfl) rfl (wkv_sref (rn_some rfl) rfl)⟩⟩⟩⟩⟩
      try simp only [go_sem]
      obtain ⟨⟨g33_0, g33_1⟩, h15⟩ := of_guard h15
      simp only [W64 g33_0 g33_1]
      obtain ⟨g34, h15⟩ := of_guard h15
      obtain rfl := Option.some.inj h15
      refine nextL (hi15 _ rfl) ?_
      refine wk_of [(5, some 9), (7, some 7), (8, some 8), (1, some 1), (0, some 0), (3, some 3)] rfl ?_ ?_
      ·
        try simp only [go_sem]
        exact ⟨.ptr _ _ _ _ _ (rn_some rfl), ⟨.same _ trivial, ⟨wkv_sref (rn_some rfl) rfl, ⟨wkv_sref (rn_some rfl) rfl, ⟨.ptr _ _ _ _ _ (rn_some rfl), ⟨wkv_sref (rn_some rfl) rfl, .same _ trivial⟩⟩⟩⟩⟩⟩
      ·
        try simp only [go_sem]
        exact ⟨wkR_typed (rn_some rfl) rfl rfl, ⟨wkR_typed (rn_some rfl) rfl rfl, ⟨wkR_box (rn_some rfl) rfl (.same _ trivial), ⟨wkR_typed (rn_some rfl) rfl rfl, ⟨wkR_typed (rn_some rfl) rfl rfl, wkR_box (rn_some rfl) rfl (wkv_sref (rn_some rfl) rfl)⟩⟩⟩⟩⟩
    ·
      replace h15 := if_n c17 h15
      obtain rfl := Option.some.inj h15
      obtain rfl := he15 _ rfl
      refine wk_of [] rfl ?_ ?_
      ·
        try simp only [go_sem]
        exact ⟨wkv_own rfl (rn_notTo rfl) rfl, .same _ trivial⟩
      ·
        try simp only [go_sem]
  try simp only [go_sem]
  obtain rfl := Option.some.inj h
  exact .same _ trivial
theorem c_shape_isRect {a0 : TRect} {r : Bool} (h : p_shape_isRect a0 = some r)  : PCalls Try.prog 56 [encTRect a0] (.bool r) := by
  unfold p_shape_isRect at h
  refine pcalls_of (fun _ => none) (fun _ => []) Try.func56 (by unfold Try.f56; rfl) (by kernel_rfl) (by kernel_rfl) ?_
  simp only [awp_seq]
  simp only [argSlots]
  dsimp only [Try.f56]
  try simp only [go_sem]
  obtain ⟨x0, hx0, h⟩ := of_bind h
  refine call_p false (c_shape_IsAt hx0) ⟨.same _ trivial, trivial⟩ nofun ?_
  try simp only [go_sem]
  obtain ⟨x1, hx1, h⟩ := of_bind h
  refine qcall_p false (fun hg => c_shape_IsAt (if_t hg hx1)) (fun _ => ⟨.same _ trivial, trivial⟩) nofun ?_
  try simp only [go_sem]
  obtain ⟨x2, hx2, h⟩ := of_bind h
  refine qcall_p false (fun hg => c_shape_IsAt (if_t hg hx2)) (fun _ => ⟨.same _ trivial, trivial⟩) nofun ?_
  try simp only [go_sem]
  obtain ⟨x3, hx3, h⟩ := of_bind h
  refine qcall_p false (fun hg => c_shape_IsAt (if_t hg hx3)) (fun _ => ⟨.same _ trivial, trivial⟩) nofun ?_
  try simp only [go_sem]
  obtain rfl := Option.some.inj h
  exact .same _ trivial
theorem c_shape_CheckRects {a0 : (List TRect)} {r : Int} (h : p_shape_CheckRects a0 = some r)  : PCalls Try.prog 16 [encL 4 encTRect a0] (.int .i64 r) := by
  unfold p_shape_CheckRects at h
  refine pcalls_of (fun _ => none) (fun _ => []) Try.func16 (by unfold Try.f16; rfl) (by kernel_rfl) (by kernel_rfl) ?_
  simp only [awp_seq]
  simp only [argSlots]
  dsimp only [Try.f16]
  try simp only [go_sem]
  refine cut_l ?_
  try simp only [go_sem]
  refine ways_d (fun c0 => ?_) (fun c0 => ?_)
  ·
    replace h := if_p c0 h
    obtain rfl := Option.some.inj h
    exact .same _ trivial
  ·
    replace h := if_n c0 h
    obtain ⟨z1, h1, h⟩ := of_bind h
    refine cut_z z1 (fun (s : Int) => [(2, AVal.int IntKind.i64 s)]) (fun (s : Int) => { nx := 0, rows := [] : Heap }) ?_ (fun e1 hz1 => ?_)
    ·
      try simp only [go_sem]
      refine loop_w h1 (fun (s : Int × Int) => [(10, AVal.int IntKind.i64 (Prod.fst s)), (9, AVal.int IntKind.i64 (↑(List.length a0) : Int)), (8, encL 4 encTRect a0), (2, AVal.int IntKind.i64 (Prod.snd s))]) (fun (s : Int × Int) => { nx := 0, rows := [] : Heap }) ?_ ?_
      ·
        refine wk_of [] rfl ?_ ?_
        ·
          try simp only [go_sem]
          exact ⟨.same _ trivial, ⟨.same _ trivial, ⟨.same _ trivial, .same _ trivial⟩⟩⟩
        ·
          try simp only [go_sem]
      intro n2 s2 o2 h2 he2 hi2
      try simp only [go_sem]
      refine cut_l ?_
      try simp only [go_sem]
      refine ways_d (fun c3 => ?_) (fun c3 => ?_)
      ·
        replace h2 := if_p c3 h2
        refine cut_l ?_
        try simp only [go_sem]
        obtain ⟨g4, h2⟩ := of_guard h2
        refine ob ⟨by assumption, by assumption⟩ ?_
        obtain ⟨x5, hx5, h2⟩ := of_bind h2
        refine call_p false (c_shape_isRect hx5) ⟨wkE _, trivial⟩ nofun ?_
        try simp only [go_sem]
        refine cut_l ?_
        try simp only [go_sem]
        refine ways (fun c6 => ?_) (fun c6 => ?_)
        ·
          replace h2 := if_t c6 h2
          try simp only [Bool.and_eq_true, Bool.or_eq_true, Bool.not_eq_true', Bool.not_eq_false', Bool.and_eq_false_imp, Bool.or_eq_false_iff, decide_eq_true_eq, decide_eq_false_iff_not] at c6
          obtain rfl := Option.some.inj h2
          obtain rfl := he2 _ rfl
          obtain rfl := Option.some.inj h
          exact .same _ trivial
        ·
          replace h2 := if_f c6 h2
          try simp only [Bool.and_eq_true, Bool.or_eq_true, Bool.not_eq_true', Bool.not_eq_false', Bool.and_eq_false_imp, Bool.or_eq_false_iff, decide_eq_true_eq, decide_eq_false_iff_not] at c6
          refine ob (by simp) ?_
          refine cut_l ?_
          try simp only [go_sem]
          refine ways (fun c7 => ?_) (fun c7 => ?_)
          ·
            replace h2 := if_t c7 h2
            try simp only [Bool.and_eq_true, Bool.or_eq_true, Bool.not_eq_true', Bool.not_eq_false', Bool.and_eq_false_imp, Bool.or_eq_false_iff, decide_eq_true_eq, decide_eq_false_iff_not] at c7
            obtain rfl := Option.some.inj h2
            obtain rfl := he2 _ rfl
            obtain rfl := Option.some.inj h
            exact .same _ trivial
          ·
            replace h2 := if_f c7 h2
            try simp only [Bool.and_eq_true, Bool.or_eq_true, Bool.not_eq_true', Bool.not_eq_false', Bool.and_eq_false_imp, Bool.or_eq_false_iff, decide_eq_true_eq, decide_eq_false_iff_not] at c7
            simp only [W64 (n := Prod.fst s2 + 1) (by omega) (by omega)]
            obtain rfl := Option.some.inj h2
            refine nextL (hi2 _ rfl) ?_
            refine wk_of [] rfl ?_ ?_
            ·
              try simp only [go_sem]
              exact ⟨.same _ trivial, ⟨.same _ trivial, ⟨.same _ trivial, .same _ trivial⟩⟩⟩
            ·
              try simp only [go_sem]
      ·
        replace h2 := if_n c3 h2
        obtain rfl := Option.some.inj h2
        obtain rfl := he2 _ rfl
        refine zend ?_
        refine wk_of [] rfl ?_ ?_
        ·
          try simp only [go_sem]
          exact .same _ trivial
        ·
          try simp only [go_sem]
    subst hz1
    simp only [Sum.elim_inr] at h
    try simp only [go_sem]
    obtain rfl := Option.some.inj h
    exact .same _ trivial
theorem c_shape_Set_And {a0 : (List TShapeBand)} {a1 : (List TShapeBand)} {r : (List TShapeBand)} (h : p_shape_Set_And a0 a1 = some r)  : PCalls Try.prog 83 [encL 3 encTShapeBand a0, encL 3 encTShapeBand a1] (encL 3 encTShapeBand r) := by
  unfold p_shape_Set_And at h
  refine pcalls_of (fun _ => none) (fun _ => []) Try.func83 (by unfold Try.f83; rfl) (by kernel_rfl) (by kernel_rfl) ?_
  simp only [awp_seq]
  simp only [argSlots]
  dsimp only [Try.f83]
  try simp only [go_sem]
  obtain ⟨x0, hx0, h⟩ := of_bind h
  refine call_p false (c_shape_Merge hx0 (by simp only [go_sem]) (fun _ _ _ h => c_shape_Set_And_1 h)) ⟨.same _ trivial, .same _ trivial, wkv_same (by simp only [go_sem]) rfl, trivial⟩ nofun ?_
  obtain rfl := Option.some.inj h
  exact .same _ trivial
theorem c_shape_Set_Less {a0 : (List TShapeBand)} {a1 : (List TShapeBand)} {r : (List TShapeBand)} (h : p_shape_Set_Less a0 a1 = some r)  : PCalls Try.prog 84 [encL 3 encTShapeBand a0, encL 3 encTShapeBand a1] (encL 3 encTShapeBand r) := by
  unfold p_shape_Set_Less at h
  refine pcalls_of (fun _ => none) (fun _ => []) Try.func84 (by unfold Try.f84; rfl) (by kernel_rfl) (by kernel_rfl) ?_
  simp only [awp_seq]
  simp only [argSlots]
  dsimp only [Try.f84]
  try simp only [go_sem]
  obtain ⟨x0, hx0, h⟩ := of_bind h
  refine call_p false (c_shape_Merge hx0 (by simp only [go_sem]) (fun _ _ _ h => c_shape_Set_Less_1 h)) ⟨.same _ trivial, .same _ trivial, wkv_same (by simp only [go_sem]) rfl, trivial⟩ nofun ?_
  obtain rfl := Option.some.inj h
  exact .same _ trivial
theorem c_shape_Set_Or {a0 : (List TShapeBand)} {a1 : (List TShapeBand)} {r : (List TShapeBand)} (h : p_shape_Set_Or a0 a1 = some r)  : PCalls Try.prog 81 [encL 3 encTShapeBand a0, encL 3 encTShapeBand a1] (encL 3 encTShapeBand r) := by
  unfold p_shape_Set_Or at h
  refine pcalls_of (fun _ => none) (fun _ => []) Try.func81 (by unfold Try.f81; rfl) (by kernel_rfl) (by kernel_rfl) ?_
  simp only [awp_seq]
  simp only [argSlots]
  dsimp only [Try.f81]
  try simp only [go_sem]
  obtain ⟨x0, hx0, h⟩ := of_bind h
  refine call_p false (c_shape_Merge hx0 (by simp only [go_sem]) (fun _ _ _ h => c_shape_Set_Or_1 h)) ⟨.same _ trivial, .same _ trivial, wkv_same (by simp only [go_sem]) rfl, trivial⟩ nofun ?_
  obtain rfl := Option.some.inj h
  exact .same _ trivial
theorem c_shape_CheckRegion {a0 : (List TRect)} {r : Int} (h : p_shape_CheckRegion a0 = some r)  : PCalls Try.prog 18 [encL 4 encTRect a0] (.int .i64 r) := by
  unfold p_shape_CheckRegion at h
  refine pcalls_of (ordOf [(7, [0, 1, 2, 3, 5, 6, 7, 4, 8, 9, 10, 11, 12])]) (prsOf [(7, [(8, 11)])]) Try.func18 (by unfold Try.f18; rfl) (by kernel_rfl) (by kernel_rfl) ?_
  simp only [awp_seq]
  simp only [argSlots]
  dsimp only [Try.f18]
  try simp only [go_sem]
  obtain ⟨x0, hx0, h⟩ := of_bind h
  refine call_p false (c_shape_CheckRects hx0) ⟨.same _ trivial, trivial⟩ nofun ?_
  try simp only [go_sem]
  refine cut_l ?_
  try simp only [go_sem]
  refine ways_n (fun c1 => ?_) (fun c1 => ?_)
  ·
    replace h := if_n c1 h
    obtain rfl := Option.some.inj h
    exact .same _ trivial
  ·
    replace h := if_p c1 h
    obtain ⟨z2, h2, h⟩ := of_bind h
    refine cut_z z2 (fun (s : Int) => [(2, AVal.int IntKind.i64 s), (0, encL 4 encTRect a0)]) (fun (s : Int) => { nx := 0, rows := [] : Heap }) ?_ (fun e2 hz2 => ?_)
    ·
      try simp only [go_sem]
      refine loop_w h2 (fun (s : Int × Int) => [(4, AVal.int IntKind.i64 (Prod.fst s)), (2, AVal.int IntKind.i64 (Prod.snd s)), (0, encL 4 encTRect a0)]) (fun (s : Int × Int) => { nx := 0, rows := [] : Heap }) ?_ ?_
      ·
        refine wk_of [] rfl ?_ ?_
        ·
          try simp only [go_sem]
          exact ⟨.same _ trivial, ⟨.same _ trivial, .same _ trivial⟩⟩
        ·
          try simp only [go_sem]
      intro n3 s3 o3 h3 he3 hi3
      try simp only [go_sem]
      refine cut_l ?_
      try simp only [go_sem]
      refine ways_d (fun c4 => ?_) (fun c4 => ?_)
      ·
        replace h3 := if_p c4 h3
        refine cut_l ?_
        try simp only [go_sem]
        obtain ⟨⟨g5_0, g5_1⟩, h3⟩ := of_guard h3
        simp only [W64 g5_0 g5_1]
        obtain ⟨⟨g6_0, g6_1⟩, h3⟩ := of_guard h3
        refine ob ⟨⟨by assumption, by omega⟩, ⟨by assumption, by assumption⟩⟩ ?_
        refine ob ⟨by intro h1 h2; simp only [h1, h2, Bool.and_self, Bool.not_true, Bool.not_false, Bool.and_true, Bool.true_and], by simp⟩ ?_
        refine cut_l ?_
        try simp only [go_sem]
        refine ways (fun c7 => ?_) (fun c7 => ?_)
        ·
          replace h3 := if_t c7 h3
          try simp only [Bool.and_eq_true, Bool.or_eq_true, Bool.not_eq_true', Bool.not_eq_false', Bool.and_eq_false_imp, Bool.or_eq_false_iff, decide_eq_true_eq, decide_eq_false_iff_not] at c7
          obtain rfl := Option.some.inj h3
          obtain rfl := he3 _ rfl
          obtain rfl := Option.some.inj h
          exact .same _ trivial
        ·
          replace h3 := if_f c7 h3
          try simp only [Bool.and_eq_true, Bool.or_eq_true, Bool.not_eq_true', Bool.not_eq_false', Bool.and_eq_false_imp, Bool.or_eq_false_iff, decide_eq_true_eq, decide_eq_false_iff_not] at c7
          obtain ⟨⟨g8_0, g8_1⟩, h3⟩ := of_guard h3
          simp only [W64 g8_0 g8_1]
          obtain rfl := Option.some.inj h3
          refine nextL (hi3 _ rfl) ?_
          refine wk_of [] rfl ?_ ?_
          ·
            try simp only [go_sem]
            exact ⟨.same _ trivial, ⟨.same _ trivial, .same _ trivial⟩⟩
          ·
            try simp only [go_sem]
      ·
        replace h3 := if_n c4 h3
        obtain rfl := Option.some.inj h3
        obtain rfl := he3 _ rfl
        refine zend ?_
        refine wk_of [] rfl ?_ ?_
        ·
          try simp only [go_sem]
          exact ⟨.same _ trivial, .same _ trivial⟩
        ·
          try simp only [go_sem]
    subst hz2
    simp only [Sum.elim_inr] at h
    try simp only [go_sem]
    obtain ⟨x9, hx9, h⟩ := of_bind h
    refine call_p false (c_shape_SetOf hx9) ⟨.same _ trivial, trivial⟩ nofun ?_
    obtain ⟨x10, hx10, h⟩ := of_bind h
    refine call_p false (c_shape_Set_Rects hx10) ⟨.same _ trivial, trivial⟩ nofun ?_
    obtain ⟨x11, hx11, h⟩ := of_bind h
    refine call_p false (c_slices_Equal_Rect hx11) ⟨.same _ trivial, .same _ trivial, trivial⟩ nofun ?_
    try simp only [go_sem]
    refine cut_l ?_
    try simp only [go_sem]
    refine ways (fun c12 => ?_) (fun c12 => ?_)
    ·
      replace h := if_t c12 h
      try simp only [Bool.and_eq_true, Bool.or_eq_true, Bool.not_eq_true', Bool.not_eq_false', Bool.and_eq_false_imp, Bool.or_eq_false_iff, decide_eq_true_eq, decide_eq_false_iff_not] at c12
      obtain rfl := Option.some.inj h
      exact .same _ trivial
    ·
      replace h := if_f c12 h
      try simp only [Bool.and_eq_true, Bool.or_eq_true, Bool.not_eq_true', Bool.not_eq_false', Bool.and_eq_false_imp, Bool.or_eq_false_iff, decide_eq_true_eq, decide_eq_false_iff_not] at c12
      obtain rfl := Option.some.inj h
      exact .same _ trivial
theorem c_shape_Area {a0 : (List TRect)} {r : Int × Int} (h : p_shape_Area a0 = some r)  : PCalls Try.prog 49 [encL 4 encTRect a0] (tup [.int .i64 r.1, .int .i64 r.2]) := by
  unfold p_shape_Area at h
  refine pcalls_of (fun _ => none) (fun _ => []) Try.func49 (by unfold Try.f49; rfl) (by kernel_rfl) (by kernel_rfl) ?_
  simp only [awp_seq]
  simp only [argSlots]
  dsimp only [Try.f49]
  try simp only [go_sem]
  obtain ⟨x0, hx0, h⟩ := of_bind h
  refine call_p false (c_shape_CheckRegion hx0) ⟨.same _ trivial, trivial⟩ nofun ?_
  try simp only [go_sem]
  refine cut_l ?_
  try simp only [go_sem]
  refine ways_n (fun c1 => ?_) (fun c1 => ?_)
  ·
    replace h := if_n c1 h
    obtain rfl := Option.some.inj h
    exact wkv_same (by simp only [go_sem]) rfl
  ·
    replace h := if_p c1 h
    obtain ⟨x2, hx2, h⟩ := of_bind h
    refine call_p false (c_shape_AreaOf hx2) ⟨.same _ trivial, trivial⟩ nofun ?_
    obtain rfl := Option.some.inj h
    exact wkv_same (by simp only [go_sem]) rfl
theorem c_shape_two {a0 : (List TRect)} {a1 : (List TRect)} {f2 : ((List TShapeBand) → (List TShapeBand) → Option ((List TShapeBand)))} {r : (List TRect) × Int} (h : p_shape_two a0 a1 f2 = some r) {g2 : Nat} {k2 : List AVal} (hk2 : nmL k2) (hf2 : ∀ (x0 : (List TShapeBand)) (x1 : (List TShapeBand)) (y : (List TShapeBand)), f2 x0 x1 = some y → PCalls Try.prog g2 (encL 3 encTShapeBand x0 :: encL 3 encTShapeBand x1 :: k2) (encL 3 encTShapeBand y)) : PCalls Try.prog 80 [encL 4 encTRect a0, encL 4 encTRect a1, fn g2 k2] (tup [encL 4 encTRect r.1, .int .i64 r.2]) := by
  unfold p_shape_two at h
  refine pcalls_of (fun _ => none) (fun _ => []) Try.func80 (by unfold Try.f80; rfl) (by kernel_rfl) (by kernel_rfl) ?_
  simp only [awp_seq]
  simp only [argSlots]
  dsimp only [Try.f80]
  try simp only [go_sem]
  obtain ⟨x0, hx0, h⟩ := of_bind h
  refine call_p false (c_shape_CheckRegion hx0) ⟨.same _ trivial, trivial⟩ nofun ?_
  try simp only [go_sem]
  refine cut_l ?_
  try simp only [go_sem]
  refine ways_n (fun c1 => ?_) (fun c1 => ?_)
  ·
    replace h := if_n c1 h
    obtain rfl := Option.some.inj h
    exact wkv_tup ⟨wkv_nilL, .same _ trivial, trivial⟩
  ·
    replace h := if_p c1 h
    obtain ⟨x2, hx2, h⟩ := of_bind h
    refine call_p false (c_shape_CheckRegion hx2) ⟨.same _ trivial, trivial⟩ nofun ?_
    try simp only [go_sem]
    refine cut_l ?_
    try simp only [go_sem]
    refine ways_n (fun c3 => ?_) (fun c3 => ?_)
    ·
      replace h := if_n c3 h
      obtain rfl := Option.some.inj h
      exact wkv_tup ⟨wkv_nilL, .same _ trivial, trivial⟩
    ·
      replace h := if_p c3 h
      obtain ⟨x4, hx4, h⟩ := of_bind h
      refine call_p false (c_shape_SetOf hx4) ⟨.same _ trivial, trivial⟩ nofun ?_
      obtain ⟨x5, hx5, h⟩ := of_bind h
      refine call_p false (c_shape_SetOf hx5) ⟨.same _ trivial, trivial⟩ nofun ?_
      obtain ⟨x6, hx6, h⟩ := of_bind h
      refine call_p false (hf2 _ _ _ hx6) ⟨.same _ trivial, .same _ trivial, lend_self hk2⟩ nofun ?_
      obtain ⟨x7, hx7, h⟩ := of_bind h
      refine call_p false (c_shape_Set_Told hx7) ⟨.same _ trivial, trivial⟩ nofun ?_
      try simp only [go_sem]
      obtain rfl := Option.some.inj h
      exact wkv_same (by simp only [go_sem]) rfl
theorem c_law1_area {a0 : (List TRect)} {r : Int} (h : p_law1_area a0 = some r)  : PCalls Try.prog 42 [encL 4 encTRect a0] (.int .i64 r) := by
  unfold p_law1_area at h
  refine pcalls_of (fun _ => none) (fun _ => []) Try.func42 (by unfold Try.f42; rfl) (by kernel_rfl) (by kernel_rfl) ?_
  simp only [awp_seq]
  simp only [argSlots]
  dsimp only [Try.f42]
  try simp only [go_sem]
  obtain ⟨x0, hx0, h⟩ := of_bind h
  refine call_p false (c_shape_Area hx0) ⟨.same _ trivial, trivial⟩ nofun ?_
  try simp only [go_sem]
  refine cut_l ?_
  try simp only [go_sem]
  refine ways_n (fun c1 => ?_) (fun c1 => ?_)
  ·
    replace h := if_n c1 h
    obtain rfl := Option.some.inj h
    exact .same _ trivial
  ·
    replace h := if_p c1 h
    obtain rfl := Option.some.inj h
    exact .same _ trivial
theorem c_law1_awake {r : Bool} (h : p_law1_awake  = some r)  : PCalls Try.prog 21 [] (.bool r) := by
  unfold p_law1_awake at h
  refine pcalls_of (fun _ => none) (fun _ => []) Try.func21 (by unfold Try.f21; rfl) (by kernel_rfl) (by kernel_rfl) ?_
  simp only [awp_seq]
  simp only [argSlots]
  dsimp only [Try.f21]
  try simp only [go_sem]
  obtain ⟨x0, hx0, h⟩ := of_bind h
  refine call_p true (c_shape_Area hx0) ⟨wkv_own rfl (R0_ne _) rfl, trivial⟩ (fun _ => by simp only [go_sem]) ?_
  try simp only [go_sem]
  obtain rfl := Option.some.inj h
  exact .same _ trivial
theorem c_shape_Both {a0 : (List TRect)} {a1 : (List TRect)} {r : (List TRect) × Int} (h : p_shape_Both a0 a1 = some r)  : PCalls Try.prog 45 [encL 4 encTRect a0, encL 4 encTRect a1] (tup [encL 4 encTRect r.1, .int .i64 r.2]) := by
  unfold p_shape_Both at h
  refine pcalls_of (fun _ => none) (fun _ => []) Try.func45 (by unfold Try.f45; rfl) (by kernel_rfl) (by kernel_rfl) ?_
  simp only [awp_seq]
  simp only [argSlots]
  dsimp only [Try.f45]
  try simp only [go_sem]
  obtain ⟨x0, hx0, h⟩ := of_bind h
  refine call_p false (c_shape_two hx0 (by simp only [go_sem]) (fun _ _ _ h => c_shape_Set_And h)) ⟨.same _ trivial, .same _ trivial, wkv_same (by simp only [go_sem]) rfl, trivial⟩ nofun ?_
  try simp only [go_sem]
  obtain rfl := Option.some.inj h
  exact wkv_same (by simp only [go_sem]) rfl
theorem c_shape_Minus {a0 : (List TRect)} {a1 : (List TRect)} {r : (List TRect) × Int} (h : p_shape_Minus a0 a1 = some r)  : PCalls Try.prog 47 [encL 4 encTRect a0, encL 4 encTRect a1] (tup [encL 4 encTRect r.1, .int .i64 r.2]) := by
  unfold p_shape_Minus at h
  refine pcalls_of (fun _ => none) (fun _ => []) Try.func47 (by unfold Try.f47; rfl) (by kernel_rfl) (by kernel_rfl) ?_
  simp only [awp_seq]
  simp only [argSlots]
  dsimp only [Try.f47]
  try simp only [go_sem]
  obtain ⟨x0, hx0, h⟩ := of_bind h
  refine call_p false (c_shape_two hx0 (by simp only [go_sem]) (fun _ _ _ h => c_shape_Set_Less h)) ⟨.same _ trivial, .same _ trivial, wkv_same (by simp only [go_sem]) rfl, trivial⟩ nofun ?_
  try simp only [go_sem]
  obtain rfl := Option.some.inj h
  exact wkv_same (by simp only [go_sem]) rfl
theorem c_shape_Union {a0 : (List TRect)} {a1 : (List TRect)} {r : (List TRect) × Int} (h : p_shape_Union a0 a1 = some r)  : PCalls Try.prog 43 [encL 4 encTRect a0, encL 4 encTRect a1] (tup [encL 4 encTRect r.1, .int .i64 r.2]) := by
  unfold p_shape_Union at h
  refine pcalls_of (fun _ => none) (fun _ => []) Try.func43 (by unfold Try.f43; rfl) (by kernel_rfl) (by kernel_rfl) ?_
  simp only [awp_seq]
  simp only [argSlots]
  dsimp only [Try.f43]
  try simp only [go_sem]
  obtain ⟨x0, hx0, h⟩ := of_bind h
  refine call_p false (c_shape_two hx0 (by simp only [go_sem]) (fun _ _ _ h => c_shape_Set_Or h)) ⟨.same _ trivial, .same _ trivial, wkv_same (by simp only [go_sem]) rfl, trivial⟩ nofun ?_
  try simp only [go_sem]
  obtain rfl := Option.some.inj h
  exact wkv_same (by simp only [go_sem]) rfl
theorem c_law1_SetsAddUp {a0 : (List TRect)} {a1 : (List TRect)} {r : Bool} (h : p_law1_SetsAddUp a0 a1 = some r)  : PCalls Try.prog 12 [encL 4 encTRect a0, encL 4 encTRect a1] (.bool r) := by
  unfold p_law1_SetsAddUp at h
  refine pcalls_of (fun _ => none) (fun _ => []) Try.func12 (by unfold Try.f12; rfl) (by kernel_rfl) (by kernel_rfl) ?_
  simp only [awp_seq]
  simp only [argSlots]
  dsimp only [Try.f12]
  try simp only [go_sem]
  obtain ⟨x0, hx0, h⟩ := of_bind h
  refine call_p false (c_shape_Union hx0) ⟨.same _ trivial, .same _ trivial, trivial⟩ nofun ?_
  try simp only [go_sem]
  obtain ⟨x1, hx1, h⟩ := of_bind h
  refine call_p false (c_shape_Both hx1) ⟨.same _ trivial, .same _ trivial, trivial⟩ nofun ?_
  try simp only [go_sem]
  obtain ⟨x2, hx2, h⟩ := of_bind h
  refine call_p false (c_shape_Minus hx2) ⟨.same _ trivial, .same _ trivial, trivial⟩ nofun ?_
  try simp only [go_sem]
  refine ob ⟨by simp, by simp⟩ ?_
  refine cut_l ?_
  try simp only [go_sem]
  refine ways (fun c3 => ?_) (fun c3 => ?_)
  ·
    replace h := if_t c3 h
    try simp only [Bool.and_eq_true, Bool.or_eq_true, Bool.not_eq_true', Bool.not_eq_false', Bool.and_eq_false_imp, Bool.or_eq_false_iff, decide_eq_true_eq, decide_eq_false_iff_not] at c3
    refine ob (by simp) ?_
    obtain ⟨x4, hx4, h⟩ := of_bind h
    refine qcall_p false (fun hg => c_law1_awake (if_t hg hx4)) (fun _ => trivial) nofun ?_
    try simp only [go_sem]
    obtain rfl := Option.some.inj h
    exact .same _ trivial
  ·
    replace h := if_f c3 h
    try simp only [Bool.and_eq_true, Bool.or_eq_true, Bool.not_eq_true', Bool.not_eq_false', Bool.and_eq_false_imp, Bool.or_eq_false_iff, decide_eq_true_eq, decide_eq_false_iff_not] at c3
    obtain ⟨x5, hx5, h⟩ := of_bind h
    refine call_p false (c_shape_Union hx5) ⟨.same _ trivial, .same _ trivial, trivial⟩ nofun ?_
    try simp only [go_sem]
    obtain ⟨x6, hx6, h⟩ := of_bind h
    refine call_p false (c_shape_Both hx6) ⟨.same _ trivial, .same _ trivial, trivial⟩ nofun ?_
    try simp only [go_sem]
    obtain ⟨x7, hx7, h⟩ := of_bind h
    refine qcall_p false (fun hg => c_slices_Equal_Rect (if_t hg hx7)) (fun _ => ⟨.same _ trivial, .same _ trivial, trivial⟩) nofun ?_
    try simp only [go_sem]
    obtain ⟨x8, hx8, h⟩ := of_bind h
    refine qcall_p false (fun hg => c_law1_area (if_t hg hx8)) (fun _ => ⟨.same _ trivial, trivial⟩) nofun ?_
    obtain ⟨x9, hx9, h⟩ := of_bind h
    refine qcall_p false (fun hg => c_law1_area (if_t hg hx9)) (fun _ => ⟨.same _ trivial, trivial⟩) nofun ?_
    try simp only [go_sem]
    obtain ⟨x10, hx10, h⟩ := of_bind h
    refine qcall_p false (fun hg => c_law1_area (if_t hg hx10)) (fun _ => ⟨.same _ trivial, trivial⟩) nofun ?_
    obtain ⟨x11, hx11, h⟩ := of_bind h
    refine qcall_p false (fun hg => c_law1_area (if_t hg hx11)) (fun _ => ⟨.same _ trivial, trivial⟩) nofun ?_
    try simp only [go_sem]
    obtain ⟨⟨g12_0, g12_1⟩, h⟩ := of_guard h
    simp only [W64 g12_0 g12_1]
    obtain ⟨⟨g13_0, g13_1⟩, h⟩ := of_guard h
    simp only [W64 g13_0 g13_1]
    obtain ⟨x14, hx14, h⟩ := of_bind h
    refine qcall_p false (fun hg => c_law1_area (if_t hg hx14)) (fun _ => ⟨.same _ trivial, trivial⟩) nofun ?_
    obtain ⟨x15, hx15, h⟩ := of_bind h
    refine qcall_p false (fun hg => c_law1_area (if_t hg hx15)) (fun _ => ⟨.same _ trivial, trivial⟩) nofun ?_
    try simp only [go_sem]
    obtain ⟨x16, hx16, h⟩ := of_bind h
    refine qcall_p false (fun hg => c_law1_area (if_t hg hx16)) (fun _ => ⟨.same _ trivial, trivial⟩) nofun ?_
    try simp only [go_sem]
    obtain ⟨⟨g17_0, g17_1⟩, h⟩ := of_guard h
    simp only [W64 g17_0 g17_1]
    obtain ⟨x18, hx18, h⟩ := of_bind h
    refine qcall_p false (fun hg => c_law1_awake (if_t hg hx18)) (fun _ => trivial) nofun ?_
    try simp only [go_sem]
    obtain rfl := Option.some.inj h
    exact .same _ trivial
end Go.Nw
