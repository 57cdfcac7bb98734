/- The walks of the functions. -/
import Derived.Test.YtngdglmimlfefaaNwGlue
import Derived.Test.YtngdglmimlfefaaNwDA
import Derived.Test.YtngdglmimlfefaaNwPA0
set_option linter.unusedVariables false
set_option linter.unusedSimpArgs false
set_option maxRecDepth 100000
namespace Go.Nw
open Go.Proofs
theorem c_ref9_Tabs {a0 : TPanel} {a1 : Int} {a2 : Int} {r : (List TPoint) × Int} (h : p_ref9_Tabs a0 a1 a2 = some r)  : PCalls Try.prog 19 [encTPanel a0, .int .i64 a1, .int .i64 a2] (tup [encL 2 encTPoint r.1, .int .i64 r.2]) := by
  unfold p_ref9_Tabs at h
  refine pcalls_of (ordOf [(8, [1, 3, 0, 2, 4, 5, 6, 7, 8]), (9, [0, 2, 5, 7, 1, 3, 4, 10, 6, 8, 9, 11])]) (fun _ => []) Try.func19 (by unfold Try.f19; rfl) (by kernel_rfl) (by kernel_rfl) ?_
  simp only [awp_seq]
  simp only [argSlots]
  dsimp only [Try.f19]
  try simp only [go_sem]
  obtain ⟨x0, hx0, h⟩ := of_bind h
  refine call_p false (c_ref9_CheckPanel hx0) ⟨wkE _, trivial⟩ nofun ?_
  try simp only [go_sem]
  refine cut_l ?_
  try simp only [go_sem]
  refine ways_n (fun c1 => ?_) (fun c1 => ?_)
  ·
    replace h := if_n c1 h
    obtain rfl := Option.some.inj h
    exact wkv_tup ⟨wkv_nilL, .same _ trivial, trivial⟩
  ·
    replace h := if_p c1 h
    obtain ⟨⟨g2_0, g2_1⟩, h⟩ := of_guard h
    simp only [W64 g2_0 g2_1]
    obtain ⟨x3, hx3, h⟩ := of_bind h
    refine call_p false (c_ref9_within hx3) ⟨.same _ trivial, .same _ trivial, .same _ trivial, trivial⟩ nofun ?_
    try simp only [go_sem]
    refine cut_l ?_
    try simp only [go_sem]
    refine ways (fun c4 => ?_) (fun c4 => ?_)
    ·
      replace h := if_t c4 h
      try simp only [Bool.and_eq_true, Bool.or_eq_true, Bool.not_eq_true', Bool.not_eq_false', Bool.and_eq_false_imp, Bool.or_eq_false_iff, decide_eq_true_eq, decide_eq_false_iff_not] at c4
      obtain rfl := Option.some.inj h
      exact wkv_tup ⟨wkv_nilL, .same _ trivial, trivial⟩
    ·
      replace h := if_f c4 h
      try simp only [Bool.and_eq_true, Bool.or_eq_true, Bool.not_eq_true', Bool.not_eq_false', Bool.and_eq_false_imp, Bool.or_eq_false_iff, decide_eq_true_eq, decide_eq_false_iff_not] at c4
      obtain ⟨x5, hx5, h⟩ := of_bind h
      refine call_p false (c_ref9_within hx5) ⟨.same _ trivial, .same _ trivial, .same _ trivial, trivial⟩ nofun ?_
      try simp only [go_sem]
      refine cut_l ?_
      try simp only [go_sem]
      refine ways (fun c6 => ?_) (fun c6 => ?_)
      ·
        replace h := if_t c6 h
        try simp only [Bool.and_eq_true, Bool.or_eq_true, Bool.not_eq_true', Bool.not_eq_false', Bool.and_eq_false_imp, Bool.or_eq_false_iff, decide_eq_true_eq, decide_eq_false_iff_not] at c6
        obtain rfl := Option.some.inj h
        exact wkv_tup ⟨wkv_nilL, .same _ trivial, trivial⟩
      ·
        replace h := if_f c6 h
        try simp only [Bool.and_eq_true, Bool.or_eq_true, Bool.not_eq_true', Bool.not_eq_false', Bool.and_eq_false_imp, Bool.or_eq_false_iff, decide_eq_true_eq, decide_eq_false_iff_not] at c6
        obtain ⟨⟨g7_0, g7_1⟩, h⟩ := of_guard h
        refine ob ⟨by assumption, by assumption⟩ ?_
        obtain ⟨x8, hx8, h⟩ := of_bind h
        refine qcall_p false (fun _ => c_ref9_cellOf hx8) (fun _ => ⟨wkE _, wkE _, trivial⟩) nofun ?_
        try simp only [go_sem]
        obtain ⟨⟨g9_0, g9_1⟩, h⟩ := of_guard h
        simp only [W64 g9_0 g9_1]
        obtain ⟨x10, hx10, h⟩ := of_bind h
        refine call_p false (c_ref9_parts hx10) ⟨.same _ trivial, .same _ trivial, trivial⟩ nofun ?_
        try simp only [go_sem]
        obtain ⟨⟨g11_0, g11_1⟩, h⟩ := of_guard h
        simp only [W64 g11_0 g11_1]
        obtain ⟨x12, hx12, h⟩ := of_bind h
        refine call_p false (c_ref9_parts hx12) ⟨.same _ trivial, .same _ trivial, trivial⟩ nofun ?_
        try simp only [go_sem]
        obtain ⟨⟨g13_0, g13_1⟩, h⟩ := of_guard h
        simp only [W64 g13_0 g13_1]
        obtain ⟨⟨g14_0, g14_1⟩, h⟩ := of_guard h
        simp only [W64 g14_0 g14_1]
        obtain ⟨⟨g15_0, g15_1⟩, h⟩ := of_guard h
        simp only [W64 g15_0 g15_1]
        obtain ⟨⟨g16_0, g16_1⟩, h⟩ := of_guard h
        simp only [W64 g16_0 g16_1]
        obtain ⟨⟨g17_0, g17_1⟩, h⟩ := of_guard h
        simp only [W64 g17_0 g17_1]
        refine cut_l ?_
        try simp only [go_sem]
        refine ways_d (fun c18 => ?_) (fun c18 => ?_)
        ·
          replace h := if_p c18 h
          obtain rfl := Option.some.inj h
          exact wkv_tup ⟨wkv_nilL, .same _ trivial, trivial⟩
        ·
          replace h := if_n c18 h
          obtain ⟨e19, h19, h⟩ := of_bind h
          refine cut_j ([(12, AVal.sref (20001, 0) 0 2 (List.length e19)), (7, AVal.int IntKind.i64 0), (6, AVal.nilsl)]) ({ nx := 20002, rows := [(20001, Ent.one { sz := 2, d := encTPoint default, l := List.map encTPoint e19 : Row })] : Heap }) ?_ ?_
          ·
            try simp only [go_sem]
            refine loop_w h19 (fun (s : Int × List TPoint) => [(13, AVal.int IntKind.i64 (Prod.fst s)), (12, AVal.sref (20001, 0) 0 2 (List.length (Prod.snd s))), (11, AVal.int IntKind.i64 (TRect.Y1 x8 - TRect.Y0 x8)), (10, AVal.int IntKind.i64 (TRect.X1 x8 - TRect.X0 x8)), (9, AVal.ptr (10, 0) 4 0 0), (7, AVal.int IntKind.i64 0), (6, AVal.nilsl), (2, AVal.int IntKind.i64 a2)]) (fun (s : Int × List TPoint) => { nx := 20002, rows := [(20001, Ent.one { sz := 2, d := encTPoint default, l := List.map encTPoint (Prod.snd s) : Row }), (10, Ent.one { sz := 4, d := encTRect { : TRect }, l := [encTRect x8] : Row })] : Heap }) ?_ ?_
            ·
              refine wk_of [(20001, none), (10, some 10)] rfl ?_ ?_
              ·
                try simp only [go_sem]
                exact ⟨.same _ trivial, ⟨wkv_nil (rn_none rfl) rfl, ⟨.same _ trivial, ⟨.same _ trivial, ⟨.ptr _ _ _ _ _ (rn_some rfl), ⟨.same _ trivial, ⟨.same _ trivial, .same _ trivial⟩⟩⟩⟩⟩⟩⟩
              ·
                try simp only [go_sem]
                exact ⟨wkR_nilT (rn_none rfl), wkR_box (rn_some rfl) rfl (wkE _)⟩
            intro n20 s20 o20 h20 he20 hi20
            try simp only [go_sem]
            refine cut_l ?_
            try simp only [go_sem]
            refine ways_d (fun c21 => ?_) (fun c21 => ?_)
            ·
              replace h20 := if_p c21 h20
              obtain ⟨e22, h22, h20⟩ := of_bind h20
              refine cut_j ([(13, AVal.int IntKind.i64 (Prod.fst s20)), (12, AVal.sref (20001, 0) 0 2 (List.length e22)), (11, AVal.int IntKind.i64 (TRect.Y1 x8 - TRect.Y0 x8)), (10, AVal.int IntKind.i64 (TRect.X1 x8 - TRect.X0 x8)), (9, AVal.ptr (10, 0) 4 0 0), (7, AVal.int IntKind.i64 0), (6, AVal.nilsl), (2, AVal.int IntKind.i64 a2)]) ({ nx := 20002, rows := [(20001, Ent.one { sz := 2, d := encTPoint default, l := List.map encTPoint e22 : Row }), (10, Ent.one { sz := 4, d := encTRect { : TRect }, l := [encTRect x8] : Row })] : Heap }) ?_ ?_
              ·
                try simp only [go_sem]
                refine ob (by omega) ?_
                obtain ⟨e23, h23, h22⟩ := of_bind h22
                refine cut_j ([(14, AVal.int IntKind.i64 e23), (13, AVal.int IntKind.i64 (Prod.fst s20)), (12, AVal.sref (20001, 0) 0 2 (List.length (Prod.snd s20))), (11, AVal.int IntKind.i64 (TRect.Y1 x8 - TRect.Y0 x8)), (10, AVal.int IntKind.i64 (TRect.X1 x8 - TRect.X0 x8)), (9, AVal.ptr (10, 0) 4 0 0), (7, AVal.int IntKind.i64 0), (6, AVal.nilsl), (2, AVal.int IntKind.i64 a2)]) ({ nx := 20002, rows := [(20001, Ent.one { sz := 2, d := encTPoint default, l := List.map encTPoint (Prod.snd s20) : Row }), (10, Ent.one { sz := 4, d := encTRect { : TRect }, l := [encTRect x8] : Row })] : Heap }) ?_ ?_
                ·
                  try simp only [go_sem]
                  refine ways_d (fun c24 => ?_) (fun c24 => ?_)
                  ·
                    replace h23 := if_p c24 h23
                    obtain rfl := Option.some.inj h23
                    refine wk_of [(20001, some 20001), (10, some 10)] rfl ?_ ?_
                    ·
                      try simp only [go_sem]
                      exact ⟨.same _ trivial, ⟨.same _ trivial, ⟨wkv_sref (rn_some rfl) rfl, ⟨.same _ trivial, ⟨.same _ trivial, ⟨.ptr _ _ _ _ _ (rn_some rfl), ⟨.same _ trivial, ⟨.same _ trivial, .same _ trivial⟩⟩⟩⟩⟩⟩⟩⟩
                    ·
                      try simp only [go_sem]
                      exact ⟨wkR_typed (rn_some rfl) rfl rfl, wkR_box (rn_some rfl) rfl (wkE _)⟩
                  ·
                    replace h23 := if_n c24 h23
                    obtain rfl := Option.some.inj h23
                    refine wk_of [(20001, some 20001), (10, some 10)] rfl ?_ ?_
                    ·
                      try simp only [go_sem]
                      exact ⟨.same _ trivial, ⟨.same _ trivial, ⟨wkv_sref (rn_some rfl) rfl, ⟨.same _ trivial, ⟨.same _ trivial, ⟨.ptr _ _ _ _ _ (rn_some rfl), ⟨.same _ trivial, ⟨.same _ trivial, .same _ trivial⟩⟩⟩⟩⟩⟩⟩⟩
                    ·
                      try simp only [go_sem]
                      exact ⟨wkR_typed (rn_some rfl) rfl rfl, wkR_box (rn_some rfl) rfl (wkE _)⟩
                try simp only [go_sem]
                obtain ⟨x25, hx25, h22⟩ := of_bind h22
                refine call_p false (c_ref9_parts hx25) ⟨.same _ trivial, .same _ trivial, trivial⟩ nofun ?_
                refine cut_l ?_
                try simp only [go_sem]
                refine loop_w h22 (fun (s : Int × List TPoint) => [(16, AVal.int IntKind.i64 (Prod.fst s)), (15, AVal.int IntKind.i64 x25), (14, AVal.int IntKind.i64 e23), (13, AVal.int IntKind.i64 (Prod.fst s20)), (12, AVal.sref (20001, 0) 0 2 (List.length (Prod.snd s))), (11, AVal.int IntKind.i64 (TRect.Y1 x8 - TRect.Y0 x8)), (10, AVal.int IntKind.i64 (TRect.X1 x8 - TRect.X0 x8)), (9, AVal.ptr (10, 0) 4 0 0), (7, AVal.int IntKind.i64 0), (6, AVal.nilsl), (2, AVal.int IntKind.i64 a2)]) (fun (s : Int × List TPoint) => { nx := 20002, rows := [(20001, Ent.one { sz := 2, d := encTPoint default, l := List.map encTPoint (Prod.snd s) : Row }), (10, Ent.one { sz := 4, d := encTRect { : TRect }, l := [encTRect x8] : Row })] : Heap }) ?_ ?_
                ·
                  refine wk_of [(20001, some 20001), (10, some 10)] rfl ?_ ?_
                  ·
                    try simp only [go_sem]
                    exact ⟨.same _ trivial, ⟨.same _ trivial, ⟨.same _ trivial, ⟨.same _ trivial, ⟨wkv_sref (rn_some rfl) rfl, ⟨.same _ trivial, ⟨.same _ trivial, ⟨.ptr _ _ _ _ _ (rn_some rfl), ⟨.same _ trivial, ⟨.same _ trivial, .same _ trivial⟩⟩⟩⟩⟩⟩⟩⟩⟩⟩
                  ·
                    try simp only [go_sem]
                    exact ⟨wkR_typed (rn_some rfl) rfl rfl, wkR_box (rn_some rfl) rfl (wkE _)⟩
                intro n26 s26 o26 h26 he26 hi26
                try simp only [go_sem]
                refine cut_l ?_
                try simp only [go_sem]
                refine ways_d (fun c27 => ?_) (fun c27 => ?_)
                ·
                  replace h26 := if_p c27 h26
                  obtain ⟨e28, h28, h26⟩ := of_bind h26
                  refine cut_j ([(16, AVal.int IntKind.i64 (Prod.fst s26)), (15, AVal.int IntKind.i64 x25), (14, AVal.int IntKind.i64 e23), (13, AVal.int IntKind.i64 (Prod.fst s20)), (12, AVal.sref (20001, 0) 0 2 (List.length e28)), (11, AVal.int IntKind.i64 (TRect.Y1 x8 - TRect.Y0 x8)), (10, AVal.int IntKind.i64 (TRect.X1 x8 - TRect.X0 x8)), (9, AVal.ptr (10, 0) 4 0 0), (7, AVal.int IntKind.i64 0), (6, AVal.nilsl), (2, AVal.int IntKind.i64 a2)]) ({ nx := 20002, rows := [(20001, Ent.one { sz := 2, d := encTPoint default, l := List.map encTPoint e28 : Row }), (10, Ent.one { sz := 4, d := encTRect { : TRect }, l := [encTRect x8] : Row })] : Heap }) ?_ ?_
                  ·
                    try simp only [go_sem]
                    obtain ⟨g29, h28⟩ := of_guard h28
                    refine ob (by assumption) ?_
                    obtain ⟨⟨g30_0, g30_1⟩, h28⟩ := of_guard h28
                    simp only [W64 g30_0 g30_1]
                    obtain ⟨⟨g31_0, g31_1⟩, h28⟩ := of_guard h28
                    simp only [W64 g31_0 g31_1]
                    refine cut_l ?_
                    try simp only [go_sem]
                    refine cut_l ?_
                    try simp only [go_sem]
                    refine ways_d (fun c32 => ?_) (fun c32 => ?_)
                    ·
                      replace h28 := if_p c32 h28
                      obtain ⟨g33, h28⟩ := of_guard h28
                      refine ob ⟨by omega, by assumption⟩ ?_
                      obtain ⟨⟨g34_0, g34_1⟩, h28⟩ := of_guard h28
                      simp only [W64 g34_0 g34_1]
                      obtain rfl := Option.some.inj h28
                      refine wk_of [(20001, some 20003), (10, some 10)] rfl ?_ ?_
                      ·
                        try simp only [go_sem]
                        exact ⟨.same _ trivial, ⟨.same _ trivial, ⟨.same _ trivial, ⟨.same _ trivial, ⟨wkv_sref (rn_some rfl) rfl, ⟨.same _ trivial, ⟨.same _ trivial, ⟨.ptr _ _ _ _ _ (rn_some rfl), ⟨.same _ trivial, ⟨.same _ trivial, .same _ trivial⟩⟩⟩⟩⟩⟩⟩⟩⟩⟩
                      ·
                        try simp only [go_sem]
                        exact ⟨wkR_typed (rn_some rfl) rfl rfl, wkR_box (rn_some rfl) rfl (wkE _)⟩
                    ·
                      replace h28 := if_n c32 h28
                      refine cut_l ?_
                      try simp only [go_sem]
                      refine ways_d (fun c35 => ?_) (fun c35 => ?_)
                      ·
                        replace h28 := if_p c35 h28
                        obtain ⟨g36, h28⟩ := of_guard h28
                        refine ob ⟨by omega, by assumption⟩ ?_
                        obtain ⟨⟨g37_0, g37_1⟩, h28⟩ := of_guard h28
                        simp only [W64 g37_0 g37_1]
                        obtain rfl := Option.some.inj h28
                        refine wk_of [(20001, some 20003), (10, some 10)] rfl ?_ ?_
                        ·
                          try simp only [go_sem]
                          exact ⟨.same _ trivial, ⟨.same _ trivial, ⟨.same _ trivial, ⟨.same _ trivial, ⟨wkv_sref (rn_some rfl) rfl, ⟨.same _ trivial, ⟨.same _ trivial, ⟨.ptr _ _ _ _ _ (rn_some rfl), ⟨.same _ trivial, ⟨.same _ trivial, .same _ trivial⟩⟩⟩⟩⟩⟩⟩⟩⟩⟩
                        ·
                          try simp only [go_sem]
                          exact ⟨wkR_typed (rn_some rfl) rfl rfl, wkR_box (rn_some rfl) rfl (wkE _)⟩
                      ·
                        replace h28 := if_n c35 h28
                        refine cut_l ?_
                        try simp only [go_sem]
                        refine ways_d (fun c38 => ?_) (fun c38 => ?_)
                        ·
                          replace h28 := if_p c38 h28
                          obtain ⟨g39, h28⟩ := of_guard h28
                          refine ob ⟨by omega, by assumption⟩ ?_
                          obtain ⟨⟨g40_0, g40_1⟩, h28⟩ := of_guard h28
                          simp only [W64 g40_0 g40_1]
                          obtain rfl := Option.some.inj h28
                          refine wk_of [(20001, some 20003), (10, some 10)] rfl ?_ ?_
                          ·
                            try simp only [go_sem]
                            exact ⟨.same _ trivial, ⟨.same _ trivial, ⟨.same _ trivial, ⟨.same _ trivial, ⟨wkv_sref (rn_some rfl) rfl, ⟨.same _ trivial, ⟨.same _ trivial, ⟨.ptr _ _ _ _ _ (rn_some rfl), ⟨.same _ trivial, ⟨.same _ trivial, .same _ trivial⟩⟩⟩⟩⟩⟩⟩⟩⟩⟩
                          ·
                            try simp only [go_sem]
                            exact ⟨wkR_typed (rn_some rfl) rfl rfl, wkR_box (rn_some rfl) rfl (wkE _)⟩
                        ·
                          replace h28 := if_n c38 h28
                          refine cut_l ?_
                          try simp only [go_sem]
                          refine ways_d (fun c41 => ?_) (fun c41 => ?_)
                          ·
                            replace h28 := if_p c41 h28
                            obtain ⟨g42, h28⟩ := of_guard h28
                            refine ob ⟨by omega, by assumption⟩ ?_
                            obtain ⟨⟨g43_0, g43_1⟩, h28⟩ := of_guard h28
                            simp only [W64 g43_0 g43_1]
                            obtain rfl := Option.some.inj h28
                            refine wk_of [(20001, some 20003), (10, some 10)] rfl ?_ ?_
                            ·
                              try simp only [go_sem]
                              exact ⟨.same _ trivial, ⟨.same _ trivial, ⟨.same _ trivial, ⟨.same _ trivial, ⟨wkv_sref (rn_some rfl) rfl, ⟨.same _ trivial, ⟨.same _ trivial, ⟨.ptr _ _ _ _ _ (rn_some rfl), ⟨.same _ trivial, ⟨.same _ trivial, .same _ trivial⟩⟩⟩⟩⟩⟩⟩⟩⟩⟩
                            ·
                              try simp only [go_sem]
                              exact ⟨wkR_typed (rn_some rfl) rfl rfl, wkR_box (rn_some rfl) rfl (wkE _)⟩
                          ·
                            replace h28 := if_n c41 h28
                            obtain rfl := Option.some.inj h28
                            refine wk_of [(20001, some 20001), (10, some 10)] rfl ?_ ?_
                            ·
                              try simp only [go_sem]
                              exact ⟨.same _ trivial, ⟨.same _ trivial, ⟨.same _ trivial, ⟨.same _ trivial, ⟨wkv_sref (rn_some rfl) rfl, ⟨.same _ trivial, ⟨.same _ trivial, ⟨.ptr _ _ _ _ _ (rn_some rfl), ⟨.same _ trivial, ⟨.same _ trivial, .same _ trivial⟩⟩⟩⟩⟩⟩⟩⟩⟩⟩
                            ·
                              try simp only [go_sem]
                              exact ⟨wkR_typed (rn_some rfl) rfl rfl, wkR_box (rn_some rfl) rfl (wkE _)⟩
                  try simp only [go_sem]
                  obtain ⟨⟨g44_0, g44_1⟩, h26⟩ := of_guard h26
                  simp only [W64 g44_0 g44_1]
                  obtain rfl := Option.some.inj h26
                  refine nextL (hi26 _ rfl) ?_
                  refine wk_of [(20001, some 20001), (10, some 10)] rfl ?_ ?_
                  ·
                    try simp only [go_sem]
                    exact ⟨.same _ trivial, ⟨.same _ trivial, ⟨.same _ trivial, ⟨.same _ trivial, ⟨wkv_sref (rn_some rfl) rfl, ⟨.same _ trivial, ⟨.same _ trivial, ⟨.ptr _ _ _ _ _ (rn_some rfl), ⟨.same _ trivial, ⟨.same _ trivial, .same _ trivial⟩⟩⟩⟩⟩⟩⟩⟩⟩⟩
                  ·
                    try simp only [go_sem]
                    exact ⟨wkR_typed (rn_some rfl) rfl rfl, wkR_box (rn_some rfl) rfl (wkE _)⟩
                ·
                  replace h26 := if_n c27 h26
                  obtain rfl := Option.some.inj h26
                  obtain rfl := he26 _ rfl
                  refine wk_of [(20001, some 20001), (10, some 10)] rfl ?_ ?_
                  ·
                    try simp only [go_sem]
                    exact ⟨.same _ trivial, ⟨wkv_sref (rn_some rfl) rfl, ⟨.same _ trivial, ⟨.same _ trivial, ⟨.ptr _ _ _ _ _ (rn_some rfl), ⟨.same _ trivial, ⟨.same _ trivial, .same _ trivial⟩⟩⟩⟩⟩⟩⟩
                  ·
                    try simp only [go_sem]
                    exact ⟨wkR_typed (rn_some rfl) rfl rfl, wkR_box (rn_some rfl) rfl (wkE _)⟩
              try simp only [go_sem]
              obtain ⟨⟨g45_0, g45_1⟩, h20⟩ := of_guard h20
              simp only [W64 g45_0 g45_1]
              obtain rfl := Option.some.inj h20
              refine nextL (hi20 _ rfl) ?_
              refine wk_of [(20001, some 20001), (10, some 10)] rfl ?_ ?_
              ·
                try simp only [go_sem]
                exact ⟨.same _ trivial, ⟨wkv_sref (rn_some rfl) rfl, ⟨.same _ trivial, ⟨.same _ trivial, ⟨.ptr _ _ _ _ _ (rn_some rfl), ⟨.same _ trivial, ⟨.same _ trivial, .same _ trivial⟩⟩⟩⟩⟩⟩⟩
              ·
                try simp only [go_sem]
                exact ⟨wkR_typed (rn_some rfl) rfl rfl, wkR_box (rn_some rfl) rfl (wkE _)⟩
            ·
              replace h20 := if_n c21 h20
              obtain rfl := Option.some.inj h20
              obtain rfl := he20 _ rfl
              refine wk_of [(20001, some 20001)] rfl ?_ ?_
              ·
                try simp only [go_sem]
                exact ⟨wkv_sref (rn_some rfl) rfl, ⟨.same _ trivial, .same _ trivial⟩⟩
              ·
                try simp only [go_sem]
                exact wkR_typed (rn_some rfl) rfl rfl
          try simp only [go_sem]
          obtain rfl := Option.some.inj h
          exact wkv_tup ⟨wkv_own rfl (R0_ne _) rfl, .same _ trivial, trivial⟩
theorem c_panel_Tabs {a0 : TPanel} {a1 : Int} {a2 : Int} {r : (List TPoint) × Int} (h : p_panel_Tabs a0 a1 a2 = some r)  : PCalls Try.prog 17 [encTPanel a0, .int .i64 a1, .int .i64 a2] (tup [encL 2 encTPoint r.1, .int .i64 r.2]) := by
  unfold p_panel_Tabs at h
  refine pcalls_of (ordOf [(30, [0, 1, 3, 5, 8, 10, 13, 15, 17, 20, 22, 2, 4, 6, 7, 9, 11, 12, 14, 16, 18, 19, 21, 23, 24, 25, 26, 27, 28])]) (fun _ => []) Try.func17 (by unfold Try.f17; rfl) (by kernel_rfl) (by kernel_rfl) ?_
  simp only [awp_seq]
  simp only [argSlots]
  dsimp only [Try.f17]
  try simp only [go_sem]
  obtain ⟨x0, hx0, h⟩ := of_bind h
  refine call_p false (c_panel_open hx0) ⟨wkE _, trivial⟩ nofun ?_
  try simp only [go_sem]
  refine cut_l ?_
  try simp only [go_sem]
  refine ways_n (fun c1 => ?_) (fun c1 => ?_)
  ·
    replace h := if_n c1 h
    obtain rfl := Option.some.inj h
    exact wkv_tup ⟨wkv_nilL, .same _ trivial, trivial⟩
  ·
    replace h := if_p c1 h
    obtain ⟨⟨g2_0, g2_1⟩, h⟩ := of_guard h
    simp only [W64 g2_0 g2_1]
    obtain ⟨x3, hx3, h⟩ := of_bind h
    refine call_p false (c_panel_within hx3) ⟨.same _ trivial, .same _ trivial, .same _ trivial, trivial⟩ nofun ?_
    try simp only [go_sem]
    refine cut_l ?_
    try simp only [go_sem]
    refine ways (fun c4 => ?_) (fun c4 => ?_)
    ·
      replace h := if_t c4 h
      try simp only [Bool.and_eq_true, Bool.or_eq_true, Bool.not_eq_true', Bool.not_eq_false', Bool.and_eq_false_imp, Bool.or_eq_false_iff, decide_eq_true_eq, decide_eq_false_iff_not] at c4
      obtain rfl := Option.some.inj h
      exact wkv_tup ⟨wkv_nilL, .same _ trivial, trivial⟩
    ·
      replace h := if_f c4 h
      try simp only [Bool.and_eq_true, Bool.or_eq_true, Bool.not_eq_true', Bool.not_eq_false', Bool.and_eq_false_imp, Bool.or_eq_false_iff, decide_eq_true_eq, decide_eq_false_iff_not] at c4
      obtain ⟨x5, hx5, h⟩ := of_bind h
      refine call_p false (c_panel_within hx5) ⟨.same _ trivial, .same _ trivial, .same _ trivial, trivial⟩ nofun ?_
      try simp only [go_sem]
      refine cut_l ?_
      try simp only [go_sem]
      refine ways (fun c6 => ?_) (fun c6 => ?_)
      ·
        replace h := if_t c6 h
        try simp only [Bool.and_eq_true, Bool.or_eq_true, Bool.not_eq_true', Bool.not_eq_false', Bool.and_eq_false_imp, Bool.or_eq_false_iff, decide_eq_true_eq, decide_eq_false_iff_not] at c6
        obtain rfl := Option.some.inj h
        exact wkv_tup ⟨wkv_nilL, .same _ trivial, trivial⟩
      ·
        replace h := if_f c6 h
        try simp only [Bool.and_eq_true, Bool.or_eq_true, Bool.not_eq_true', Bool.not_eq_false', Bool.and_eq_false_imp, Bool.or_eq_false_iff, decide_eq_true_eq, decide_eq_false_iff_not] at c6
        obtain ⟨⟨g7_0, g7_1⟩, h⟩ := of_guard h
        refine ob ⟨by assumption, by assumption⟩ ?_
        obtain ⟨e8, h8, h⟩ := of_bind h
        refine cut_j ([(13, AVal.int IntKind.i64 e8), (12, fn 50 [AVal.ptr (2, 0) 4 0 0, AVal.ptr (1, 0) 1 0 0]), (11, AVal.sref (4, 0) 0 2 4), (7, AVal.int IntKind.i64 0), (6, AVal.nilsl)]) ({ nx := 5, rows := [(4, Ent.one { sz := 2, d := encTPoint { : TPoint }, l := List.map encTPoint [{ X := TRect.X0 (List.getD (Prod.fst x0) (Int.toNat a1) default), Y := TRect.Y0 (List.getD (Prod.fst x0) (Int.toNat a1) default) : TPoint }, { X := TRect.X1 (List.getD (Prod.fst x0) (Int.toNat a1) default), Y := TRect.Y0 (List.getD (Prod.fst x0) (Int.toNat a1) default) : TPoint }, { X := TRect.X1 (List.getD (Prod.fst x0) (Int.toNat a1) default), Y := TRect.Y1 (List.getD (Prod.fst x0) (Int.toNat a1) default) : TPoint }, { X := TRect.X0 (List.getD (Prod.fst x0) (Int.toNat a1) default), Y := TRect.Y1 (List.getD (Prod.fst x0) (Int.toNat a1) default) : TPoint }] : Row }), (2, Ent.one { sz := 4, d := encTRect { : TRect }, l := [encTRect (List.getD (Prod.fst x0) (Int.toNat a1) default)] : Row }), (1, Ent.one { sz := 1, d := AVal.int IntKind.i64 a2, l := [AVal.int IntKind.i64 a2] : Row })] : Heap }) ?_ ?_
        ·
          try simp only [go_sem]
          refine loop_w h8 (fun (s : Int × Int) => [(70, AVal.int IntKind.i64 (Prod.fst s)), (69, AVal.int IntKind.i64 (↑4 : Int)), (13, AVal.int IntKind.i64 (Prod.snd s)), (12, fn 50 [AVal.ptr (2, 0) 4 0 0, AVal.ptr (1, 0) 1 0 0]), (11, AVal.sref (4, 0) 0 2 4), (7, AVal.int IntKind.i64 0), (6, AVal.nilsl)]) (fun (s : Int × Int) => { nx := 5, rows := [(4, Ent.one { sz := 2, d := encTPoint { : TPoint }, l := List.map encTPoint [{ X := TRect.X0 (List.getD (Prod.fst x0) (Int.toNat a1) default), Y := TRect.Y0 (List.getD (Prod.fst x0) (Int.toNat a1) default) : TPoint }, { X := TRect.X1 (List.getD (Prod.fst x0) (Int.toNat a1) default), Y := TRect.Y0 (List.getD (Prod.fst x0) (Int.toNat a1) default) : TPoint }, { X := TRect.X1 (List.getD (Prod.fst x0) (Int.toNat a1) default), Y := TRect.Y1 (List.getD (Prod.fst x0) (Int.toNat a1) default) : TPoint }, { X := TRect.X0 (List.getD (Prod.fst x0) (Int.toNat a1) default), Y := TRect.Y1 (List.getD (Prod.fst x0) (Int.toNat a1) default) : TPoint }] : Row }), (2, Ent.one { sz := 4, d := encTRect { : TRect }, l := [encTRect (List.getD (Prod.fst x0) (Int.toNat a1) default)] : Row }), (1, Ent.one { sz := 1, d := AVal.int IntKind.i64 a2, l := [AVal.int IntKind.i64 a2] : Row })] : Heap }) ?_ ?_
          ·
            refine wk_of [(4, some 4), (2, some 2), (1, some 1)] rfl ?_ ?_
            ·
              try simp only [go_sem]
              exact ⟨.same _ trivial, ⟨.same _ trivial, ⟨.same _ trivial, ⟨wkv_fnA rfl ⟨.ptr _ _ _ _ _ (rn_some rfl), .ptr _ _ _ _ _ (rn_some rfl), trivial⟩, ⟨wkv_sref (rn_some rfl) rfl, ⟨.same _ trivial, .same _ trivial⟩⟩⟩⟩⟩⟩
            ·
              try simp only [go_sem]
              exact ⟨wkR_typed (rn_some rfl) rfl rfl, ⟨wkR_box (rn_some rfl) rfl (wkE _), wkR_box (rn_some rfl) rfl (.same _ trivial)⟩⟩
          intro n9 s9 o9 h9 he9 hi9
          try simp only [go_sem]
          refine cut_l ?_
          try simp only [go_sem]
          refine ways_d (fun c10 => ?_) (fun c10 => ?_)
          ·
            replace h9 := if_p c10 h9
            refine cut_l ?_
            try simp only [go_sem]
            obtain ⟨x11, hx11, h9⟩ := of_bind h9
            refine call_p true (c_panel_Tabs_1 hx11) ⟨.same _ trivial, wkv_box rfl (R0_ne _) rfl (by simp only [go_sem]) (wkE _), wkv_box rfl (R0_ne _) rfl (by simp only [go_sem]) (.same _ trivial), trivial⟩ (fun _ => by simp only [go_sem]) ?_
            try simp only [go_sem]
            obtain ⟨⟨g12_0, g12_1⟩, h9⟩ := of_guard h9
            simp only [W64 g12_0 g12_1]
            obtain ⟨⟨g13_0, g13_1⟩, h9⟩ := of_guard h9
            simp only [W64 g13_0 g13_1]
            obtain ⟨⟨g14_0, g14_1⟩, h9⟩ := of_guard h9
            simp only [W64 g14_0 g14_1]
            obtain rfl := Option.some.inj h9
            refine nextL (hi9 _ rfl) ?_
            refine wk_of [(4, some 4), (2, some 2), (1, some 1)] rfl ?_ ?_
            ·
              try simp only [go_sem]
              exact ⟨.same _ trivial, ⟨.same _ trivial, ⟨.same _ trivial, ⟨wkv_fnA rfl ⟨.ptr _ _ _ _ _ (rn_some rfl), .ptr _ _ _ _ _ (rn_some rfl), trivial⟩, ⟨wkv_sref (rn_some rfl) rfl, ⟨.same _ trivial, .same _ trivial⟩⟩⟩⟩⟩⟩
            ·
              try simp only [go_sem]
              exact ⟨wkR_typed (rn_some rfl) rfl rfl, ⟨wkR_box (rn_some rfl) rfl (wkE _), wkR_box (rn_some rfl) rfl (.same _ trivial)⟩⟩
          ·
            replace h9 := if_n c10 h9
            obtain rfl := Option.some.inj h9
            obtain rfl := he9 _ rfl
            refine wk_of [(4, some 4), (2, some 2), (1, some 1)] rfl ?_ ?_
            ·
              try simp only [go_sem]
              exact ⟨.same _ trivial, ⟨wkv_fnA rfl ⟨.ptr _ _ _ _ _ (rn_some rfl), .ptr _ _ _ _ _ (rn_some rfl), trivial⟩, ⟨wkv_sref (rn_some rfl) rfl, ⟨.same _ trivial, .same _ trivial⟩⟩⟩⟩
            ·
              try simp only [go_sem]
              exact ⟨wkR_typed (rn_some rfl) rfl rfl, ⟨wkR_box (rn_some rfl) rfl (wkE _), wkR_box (rn_some rfl) rfl (.same _ trivial)⟩⟩
        try simp only [go_sem]
        refine cut_l ?_
        try simp only [go_sem]
        refine ways_d (fun c15 => ?_) (fun c15 => ?_)
        ·
          replace h := if_p c15 h
          obtain rfl := Option.some.inj h
          exact wkv_tup ⟨wkv_nilL, .same _ trivial, trivial⟩
        ·
          replace h := if_n c15 h
          obtain ⟨e16, h16, h⟩ := of_bind h
          refine cut_j ([(17, AVal.sref (5, 0) 0 2 (List.length e16)), (7, AVal.int IntKind.i64 0), (6, AVal.nilsl)]) ({ nx := 6, rows := [(5, Ent.one { sz := 2, d := encTPoint default, l := List.map encTPoint e16 : Row })] : Heap }) ?_ ?_
          ·
            try simp only [go_sem]
            refine loop_w h16 (fun (s : Int × List TPoint × List TPoint × TRect × Int) => [(88, AVal.int IntKind.i64 (Prod.fst s)), (87, AVal.int IntKind.i64 (↑4 : Int)), (86, AVal.sref (4, 0) 0 2 4), (17, AVal.sref (5, 0) 0 2 (List.length (Prod.fst (Prod.snd s)))), (12, fn 50 [AVal.ptr (2, 0) 4 0 0, AVal.ptr (1, 0) 1 0 0]), (11, AVal.sref (4, 0) 0 2 4), (7, AVal.int IntKind.i64 0), (6, AVal.nilsl)]) (fun (s : Int × List TPoint × List TPoint × TRect × Int) => { nx := 6, rows := [(5, Ent.one { sz := 2, d := encTPoint default, l := List.map encTPoint (Prod.fst (Prod.snd s)) : Row }), (4, Ent.one { sz := 2, d := encTPoint { : TPoint }, l := List.map encTPoint (Prod.fst (Prod.snd (Prod.snd s))) : Row }), (2, Ent.one { sz := 4, d := encTRect { : TRect }, l := [encTRect (Prod.fst (Prod.snd (Prod.snd (Prod.snd s))))] : Row }), (1, Ent.one { sz := 1, d := AVal.int IntKind.i64 a2, l := [AVal.int IntKind.i64 (Prod.snd (Prod.snd (Prod.snd (Prod.snd s))))] : Row })] : Heap }) ?_ ?_
            ·
              refine wk_of [(4, some 4), (5, none), (2, some 2), (1, some 1)] rfl ?_ ?_
              ·
                try simp only [go_sem]
                exact ⟨.same _ trivial, ⟨.same _ trivial, ⟨wkv_sref (rn_some rfl) rfl, ⟨wkv_nil (rn_none rfl) rfl, ⟨wkv_fnA rfl ⟨.ptr _ _ _ _ _ (rn_some rfl), .ptr _ _ _ _ _ (rn_some rfl), trivial⟩, ⟨wkv_sref (rn_some rfl) rfl, ⟨.same _ trivial, .same _ trivial⟩⟩⟩⟩⟩⟩⟩
              ·
                try simp only [go_sem]
                exact ⟨wkR_nilT (rn_none rfl), ⟨wkR_typed (rn_some rfl) rfl rfl, ⟨wkR_box (rn_some rfl) rfl (wkE _), wkR_box (rn_some rfl) rfl (.same _ trivial)⟩⟩⟩
            intro n17 s17 o17 h17 he17 hi17
            try simp only [go_sem]
            refine cut_l ?_
            try simp only [go_sem]
            refine ways_d (fun c18 => ?_) (fun c18 => ?_)
            ·
              replace h17 := if_p c18 h17
              obtain ⟨e19, h19, h17⟩ := of_bind h17
              refine cut_j ([(88, AVal.int IntKind.i64 (Prod.fst s17)), (87, AVal.int IntKind.i64 4), (86, AVal.sref (4, 0) 0 2 4), (17, AVal.sref (5, 0) 0 2 (List.length (Prod.fst e19))), (12, fn 50 [AVal.ptr (2, 0) 4 0 0, AVal.ptr (1, 0) 1 0 0]), (11, AVal.sref (4, 0) 0 2 4), (7, AVal.int IntKind.i64 0), (6, AVal.nilsl)]) ({ nx := 6, rows := [(5, Ent.one { sz := 2, d := encTPoint default, l := List.map encTPoint (Prod.fst e19) : Row }), (4, Ent.one { sz := 2, d := encTPoint { : TPoint }, l := List.map encTPoint (Prod.fst (Prod.snd e19)) : Row }), (2, Ent.one { sz := 4, d := encTRect { : TRect }, l := [encTRect (Prod.fst (Prod.snd (Prod.snd e19)))] : Row }), (1, Ent.one { sz := 1, d := AVal.int IntKind.i64 a2, l := [AVal.int IntKind.i64 (Prod.snd (Prod.snd (Prod.snd e19)))] : Row })] : Heap }) ?_ ?_
              ·
                try simp only [go_sem]
                obtain ⟨⟨g20_0, g20_1⟩, h19⟩ := of_guard h19
                refine ob ⟨⟨by assumption, by assumption⟩, by assumption⟩ ?_
                simp only [W64 (n := Prod.fst s17 + 1) (by omega) (by omega)]
                obtain ⟨⟨g21_0, g21_1, g21_2⟩, h19⟩ := of_guard h19
                refine ob ⟨⟨by omega, ⟨by assumption, by assumption⟩⟩, by assumption⟩ ?_
                obtain ⟨x22, hx22, h19⟩ := of_bind h19
                refine call_p true (c_panel_Tabs_1 hx22) ⟨.same _ trivial, wkv_box rfl (R0_ne _) rfl (by simp only [go_sem]) (wkE _), wkv_box rfl (R0_ne _) rfl (by simp only [go_sem]) (.same _ trivial), trivial⟩ (fun _ => by simp only [go_sem]) ?_
                try simp only [go_sem]
                refine cut_l ?_
                try simp only [go_sem]
                refine loop_w h19 (fun (s : Int × List TPoint) => [(23, AVal.int IntKind.i64 (Prod.fst s)), (22, AVal.int IntKind.i64 (Prod.snd x22)), (21, AVal.int IntKind.i64 (Prod.fst x22)), (20, AVal.ptr (8, 0) 2 0 0), (19, AVal.ptr (6, 0) 2 0 0), (88, AVal.int IntKind.i64 (Prod.fst s17)), (87, AVal.int IntKind.i64 4), (86, AVal.sref (4, 0) 0 2 4), (17, AVal.sref (5, 0) 0 2 (List.length (Prod.snd s))), (12, fn 50 [AVal.ptr (2, 0) 4 0 0, AVal.ptr (1, 0) 1 0 0]), (11, AVal.sref (4, 0) 0 2 4), (7, AVal.int IntKind.i64 0), (6, AVal.nilsl)]) (fun (s : Int × List TPoint) => { nx := 10, rows := [(8, Ent.one { sz := 2, d := encTPoint { : TPoint }, l := [encTPoint (List.getD (Prod.fst (Prod.snd (Prod.snd s17))) (Int.toNat (Int.tmod (Prod.fst s17 + 1) 4)) default)] : Row }), (6, Ent.one { sz := 2, d := encTPoint { : TPoint }, l := [encTPoint (List.getD (Prod.fst (Prod.snd (Prod.snd s17))) (Int.toNat (Prod.fst s17)) default)] : Row }), (5, Ent.one { sz := 2, d := encTPoint default, l := List.map encTPoint (Prod.snd s) : Row }), (4, Ent.one { sz := 2, d := encTPoint { : TPoint }, l := List.map encTPoint (Prod.fst (Prod.snd (Prod.snd s17))) : Row }), (2, Ent.one { sz := 4, d := encTRect { : TRect }, l := [encTRect (Prod.fst (Prod.snd (Prod.snd (Prod.snd s17))))] : Row }), (1, Ent.one { sz := 1, d := AVal.int IntKind.i64 a2, l := [AVal.int IntKind.i64 (Prod.snd (Prod.snd (Prod.snd (Prod.snd s17))))] : Row })] : Heap }) ?_ ?_
                ·
                  refine wk_of [(8, some 8), (6, some 6), (4, some 4), (5, some 5), (2, some 2), (1, some 1)] rfl ?_ ?_
                  ·
                    try simp only [go_sem]
                    exact ⟨.same _ trivial, ⟨.same _ trivial, ⟨.same _ trivial, ⟨.ptr _ _ _ _ _ (rn_some rfl), ⟨.ptr _ _ _ _ _ (rn_some rfl), ⟨.same _ trivial, ⟨.same _ trivial, ⟨wkv_sref (rn_some rfl) rfl, ⟨wkv_sref (rn_some rfl) rfl, ⟨wkv_fnA rfl ⟨.ptr _ _ _ _ _ (rn_some rfl), .ptr _ _ _ _ _ (rn_some rfl), trivial⟩, ⟨wkv_sref (rn_some rfl) rfl, ⟨.same _ trivial, .same _ trivial⟩⟩⟩⟩⟩⟩⟩⟩⟩⟩⟩⟩
                  ·
                    try simp only [go_sem]
                    exact ⟨wkR_box (rn_some rfl) rfl (wkE _), ⟨wkR_box (rn_some rfl) rfl (wkE _), ⟨wkR_typed (rn_some rfl) rfl rfl, ⟨wkR_typed (rn_some rfl) rfl rfl, ⟨wkR_box (rn_some rfl) rfl (wkE _), wkR_box (rn_some rfl) rfl (.same _ trivial)⟩⟩⟩⟩⟩
                intro n23 s23 o23 h23 he23 hi23
                try simp only [go_sem]
                refine cut_l ?_
                try simp only [go_sem]
                refine ways_d (fun c24 => ?_) (fun c24 => ?_)
                ·
                  replace h23 := if_p c24 h23
                  refine cut_l ?_
                  try simp only [go_sem]
                  obtain ⟨g25, h23⟩ := of_guard h23
                  refine ob (by assumption) ?_
                  obtain ⟨⟨g26_0, g26_1⟩, h23⟩ := of_guard h23
                  refine ob ⟨by assumption, ⟨by omega, by assumption⟩⟩ ?_
                  obtain ⟨⟨g27_0, g27_1⟩, h23⟩ := of_guard h23
                  simp only [W64 g27_0 g27_1]
                  obtain ⟨⟨g28_0, g28_1⟩, h23⟩ := of_guard h23
                  simp only [W64 g28_0 g28_1]
                  obtain ⟨⟨g29_0, g29_1⟩, h23⟩ := of_guard h23
                  simp only [W64 g29_0 g29_1]
                  obtain ⟨⟨g30_0, g30_1⟩, h23⟩ := of_guard h23
                  simp only [W64 g30_0 g30_1]
                  obtain ⟨⟨g31_0, g31_1⟩, h23⟩ := of_guard h23
                  simp only [W64 g31_0 g31_1]
                  obtain ⟨⟨g32_0, g32_1⟩, h23⟩ := of_guard h23
                  simp only [W64 g32_0 g32_1]
                  obtain ⟨⟨g33_0, g33_1⟩, h23⟩ := of_guard h23
                  simp only [W64 g33_0 g33_1]
                  obtain ⟨⟨g34_0, g34_1⟩, h23⟩ := of_guard h23
                  simp only [W64 g34_0 g34_1]
                  obtain ⟨⟨g35_0, g35_1⟩, h23⟩ := of_guard h23
                  simp only [W64 g35_0 g35_1]
                  obtain ⟨⟨g36_0, g36_1⟩, h23⟩ := of_guard h23
                  simp only [W64 g36_0 g36_1]
                  obtain ⟨⟨g37_0, g37_1⟩, h23⟩ := of_guard h23
                  simp only [W64 g37_0 g37_1]
                  obtain rfl := Option.some.inj h23
                  refine nextL (hi23 _ rfl) ?_
                  refine wk_of [(8, some 8), (6, some 6), (4, some 4), (5, some 152), (2, some 2), (1, some 1)] rfl ?_ ?_
                  ·
                    try simp only [go_sem]
                    exact ⟨.same _ trivial, ⟨.same _ trivial, ⟨.same _ trivial, ⟨.ptr _ _ _ _ _ (rn_some rfl), ⟨.ptr _ _ _ _ _ (rn_some rfl), ⟨.same _ trivial, ⟨.same _ trivial, ⟨wkv_sref (rn_some rfl) rfl, ⟨wkv_sref (rn_some rfl) rfl, ⟨wkv_fnA rfl ⟨.ptr _ _ _ _ _ (rn_some rfl), .ptr _ _ _ _ _ (rn_some rfl), trivial⟩, ⟨wkv_sref (rn_some rfl) rfl, ⟨.same _ trivial, .same _ trivial⟩⟩⟩⟩⟩⟩⟩⟩⟩⟩⟩⟩
                  ·
                    try simp only [go_sem]
                    exact ⟨wkR_box (rn_some rfl) rfl (wkE _), ⟨wkR_box (rn_some rfl) rfl (wkE _), ⟨wkR_typed (rn_some rfl) rfl rfl, ⟨wkR_typed (rn_some rfl) rfl rfl, ⟨wkR_box (rn_some rfl) rfl (wkE _), wkR_box (rn_some rfl) rfl (.same _ trivial)⟩⟩⟩⟩⟩
                ·
                  replace h23 := if_n c24 h23
                  obtain rfl := Option.some.inj h23
                  obtain rfl := he23 _ rfl
                  refine wk_of [(4, some 4), (5, some 5), (2, some 2), (1, some 1)] rfl ?_ ?_
                  ·
                    try simp only [go_sem]
                    exact ⟨.same _ trivial, ⟨.same _ trivial, ⟨wkv_sref (rn_some rfl) rfl, ⟨wkv_sref (rn_some rfl) rfl, ⟨wkv_fnA rfl ⟨.ptr _ _ _ _ _ (rn_some rfl), .ptr _ _ _ _ _ (rn_some rfl), trivial⟩, ⟨wkv_sref (rn_some rfl) rfl, ⟨.same _ trivial, .same _ trivial⟩⟩⟩⟩⟩⟩⟩
                  ·
                    try simp only [go_sem]
                    exact ⟨wkR_typed (rn_some rfl) rfl rfl, ⟨wkR_typed (rn_some rfl) rfl rfl, ⟨wkR_box (rn_some rfl) rfl (wkE _), wkR_box (rn_some rfl) rfl (.same _ trivial)⟩⟩⟩
              try simp only [go_sem]
              obtain ⟨⟨g38_0, g38_1⟩, h17⟩ := of_guard h17
              simp only [W64 g38_0 g38_1]
              obtain rfl := Option.some.inj h17
              refine nextL (hi17 _ rfl) ?_
              refine wk_of [(4, some 4), (5, some 5), (2, some 2), (1, some 1)] rfl ?_ ?_
              ·
                try simp only [go_sem]
                exact ⟨.same _ trivial, ⟨.same _ trivial, ⟨wkv_sref (rn_some rfl) rfl, ⟨wkv_sref (rn_some rfl) rfl, ⟨wkv_fnA rfl ⟨.ptr _ _ _ _ _ (rn_some rfl), .ptr _ _ _ _ _ (rn_some rfl), trivial⟩, ⟨wkv_sref (rn_some rfl) rfl, ⟨.same _ trivial, .same _ trivial⟩⟩⟩⟩⟩⟩⟩
              ·
                try simp only [go_sem]
                exact ⟨wkR_typed (rn_some rfl) rfl rfl, ⟨wkR_typed (rn_some rfl) rfl rfl, ⟨wkR_box (rn_some rfl) rfl (wkE _), wkR_box (rn_some rfl) rfl (.same _ trivial)⟩⟩⟩
            ·
              replace h17 := if_n c18 h17
              obtain rfl := Option.some.inj h17
              obtain rfl := he17 _ rfl
              refine wk_of [(5, some 5)] rfl ?_ ?_
              ·
                try simp only [go_sem]
                exact ⟨wkv_sref (rn_some rfl) rfl, ⟨.same _ trivial, .same _ trivial⟩⟩
              ·
                try simp only [go_sem]
                exact wkR_typed (rn_some rfl) rfl rfl
          try simp only [go_sem]
          obtain rfl := Option.some.inj h
          exact wkv_tup ⟨wkv_own rfl (R0_ne _) rfl, .same _ trivial, trivial⟩
theorem c_panel_Use {a0 : TPanel} {r : TShare × Int} (h : p_panel_Use a0 = some r)  : PCalls Try.prog 48 [encTPanel a0] (tup [encTShare r.1, .int .i64 r.2]) := by
  unfold p_panel_Use at h
  refine pcalls_of (ordOf [(4, [0, 2, 4, 1, 3, 5, 6, 7, 8, 9])]) (fun _ => []) Try.func48 (by unfold Try.f48; rfl) (by kernel_rfl) (by kernel_rfl) ?_
  simp only [awp_seq]
  simp only [argSlots]
  dsimp only [Try.f48]
  try simp only [go_sem]
  obtain ⟨x0, hx0, h⟩ := of_bind h
  refine call_p false (c_panel_open hx0) ⟨wkE _, trivial⟩ nofun ?_
  try simp only [go_sem]
  refine cut_l ?_
  try simp only [go_sem]
  refine ways_n (fun c1 => ?_) (fun c1 => ?_)
  ·
    replace h := if_n c1 h
    obtain rfl := Option.some.inj h
    exact wkv_same (by simp only [go_sem]) rfl
  ·
    replace h := if_p c1 h
    obtain ⟨x2, hx2, h⟩ := of_bind h
    refine qcall_p false (fun _ => c_shape_AreaOf hx2) (fun _ => ⟨.same _ trivial, trivial⟩) nofun ?_
    obtain ⟨⟨g3_0, g3_1⟩, h⟩ := of_guard h
    simp only [W64 g3_0 g3_1]
    obtain ⟨x4, hx4, h⟩ := of_bind h
    refine qcall_p false (fun _ => c_panel_Lowest hx4) (fun _ => ⟨.same _ trivial, .same _ trivial, trivial⟩) nofun ?_
    try simp only [go_sem]
    obtain rfl := Option.some.inj h
    exact wkv_same (by simp only [go_sem]) rfl
theorem c_law9_awake {r : Bool} (h : p_law9_awake  = some r)  : PCalls Try.prog 16 [] (.bool r) := by
  unfold p_law9_awake at h
  refine pcalls_of (fun _ => none) (fun _ => []) Try.func16 (by unfold Try.f16; rfl) (by kernel_rfl) (by kernel_rfl) ?_
  simp only [awp_seq]
  simp only [argSlots]
  dsimp only [Try.f16]
  try simp only [go_sem]
  obtain ⟨x0, hx0, h⟩ := of_bind h
  refine call_p false (c_panel_Use hx0) ⟨wkv_aggA rfl ⟨.same _ trivial, .same _ trivial, .same _ trivial, .same _ trivial, wkv_nilL, wkv_nilL, wkv_nilL, trivial⟩, trivial⟩ nofun ?_
  try simp only [go_sem]
  obtain rfl := Option.some.inj h
  exact .same _ trivial
theorem c_law9_TabsMatchSpec {a0 : TPanel} {a1 : Int} {a2 : Int} {r : Bool} (h : p_law9_TabsMatchSpec a0 a1 a2 = some r)  : PCalls Try.prog 5 [encTPanel a0, .int .i64 a1, .int .i64 a2] (.bool r) := by
  unfold p_law9_TabsMatchSpec at h
  refine pcalls_of (fun _ => none) (fun _ => []) Try.func5 (by unfold Try.f5; rfl) (by kernel_rfl) (by kernel_rfl) ?_
  simp only [awp_seq]
  simp only [argSlots]
  dsimp only [Try.f5]
  try simp only [go_sem]
  obtain ⟨x0, hx0, h⟩ := of_bind h
  refine call_p false (c_panel_Tabs hx0) ⟨wkE _, .same _ trivial, .same _ trivial, trivial⟩ nofun ?_
  try simp only [go_sem]
  obtain ⟨x1, hx1, h⟩ := of_bind h
  refine call_p false (c_ref9_Tabs hx1) ⟨wkE _, .same _ trivial, .same _ trivial, trivial⟩ nofun ?_
  try simp only [go_sem]
  obtain ⟨x2, hx2, h⟩ := of_bind h
  refine call_p false (c_slices_Equal_Point hx2) ⟨.same _ trivial, .same _ trivial, trivial⟩ nofun ?_
  try simp only [go_sem]
  obtain ⟨x3, hx3, h⟩ := of_bind h
  refine qcall_p false (fun hg => c_law9_awake (if_t hg hx3)) (fun _ => trivial) nofun ?_
  try simp only [go_sem]
  obtain rfl := Option.some.inj h
  exact .same _ trivial
end Go.Nw
