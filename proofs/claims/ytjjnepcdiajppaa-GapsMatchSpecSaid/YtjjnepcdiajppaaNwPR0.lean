/- The walks of the functions. -/
import Derived.Test.YtjjnepcdiajppaaNwSortF
import Derived.Test.YtjjnepcdiajppaaNwDR
set_option linter.unusedVariables false
set_option linter.unusedSimpArgs false
set_option maxRecDepth 100000
namespace Go.Nw
open Go.Proofs
theorem c_ref1_SameRects {a0 : (List TRect)} {a1 : (List TRect)} {r : Bool} (h : p_ref1_SameRects a0 a1 = some r)  : PCalls Try.prog 60 [encL 4 encTRect a0, encL 4 encTRect a1] (.bool r) := by
  unfold p_ref1_SameRects at h
  refine pcalls_of (ordOf [(6, [0, 1, 2, 4, 5, 6, 3, 7, 8])]) (fun _ => []) Try.func60 (by unfold Try.f60; rfl) (by kernel_rfl) (by kernel_rfl) ?_
  simp only [awp_seq]
  simp only [argSlots]
  dsimp only [Try.f60]
  try simp only [go_sem]
  refine cut_l ?_
  try simp only [go_sem]
  refine ways_n (fun c0 => ?_) (fun c0 => ?_)
  ·
    replace h := if_n c0 h
    obtain rfl := Option.some.inj h
    exact .same _ trivial
  ·
    replace h := if_p c0 h
    obtain ⟨z1, h1, h⟩ := of_bind h
    refine cut_z z1 (fun (s : Bool) => [(4, AVal.bool s)]) (fun (s : Bool) => { nx := 0, rows := [] : Heap }) ?_ (fun e1 hz1 => ?_)
    ·
      try simp only [go_sem]
      refine loop_w h1 (fun (s : Int × Bool) => [(5, AVal.int IntKind.i64 (Prod.fst s)), (4, AVal.bool (Prod.snd s)), (0, encL 4 encTRect a0), (1, encL 4 encTRect a1)]) (fun (s : Int × Bool) => { nx := 0, rows := [] : Heap }) ?_ ?_
      ·
        refine wk_of [] rfl ?_ ?_
        ·
          try simp only [go_sem]
          exact ⟨.same _ trivial, ⟨.same _ trivial, ⟨.same _ trivial, .same _ trivial⟩⟩⟩
        ·
          try simp only [go_sem]
      intro n2 s2 o2 h2 he2 hi2
      try simp only [go_sem]
      refine cut_l ?_
      try simp only [go_sem]
      refine ways_d (fun c3 => ?_) (fun c3 => ?_)
      ·
        replace h2 := if_p c3 h2
        refine cut_l ?_
        try simp only [go_sem]
        obtain ⟨⟨g4_0, g4_1⟩, h2⟩ := of_guard h2
        refine ob ⟨⟨by assumption, by assumption⟩, ⟨by assumption, by omega⟩⟩ ?_
        refine cut_l ?_
        try simp only [go_sem]
        refine ways_n (fun c5 => ?_) (fun c5 => ?_)
        ·
          replace h2 := if_n c5 h2
          obtain rfl := Option.some.inj h2
          obtain rfl := he2 _ rfl
          obtain rfl := Option.some.inj h
          exact .same _ trivial
        ·
          replace h2 := if_p c5 h2
          obtain ⟨⟨g6_0, g6_1⟩, h2⟩ := of_guard h2
          simp only [W64 g6_0 g6_1]
          obtain rfl := Option.some.inj h2
          refine nextL (hi2 _ rfl) ?_
          refine wk_of [] rfl ?_ ?_
          ·
            try simp only [go_sem]
            exact ⟨.same _ trivial, ⟨.same _ trivial, ⟨.same _ trivial, .same _ trivial⟩⟩⟩
          ·
            try simp only [go_sem]
      ·
        replace h2 := if_n c3 h2
        obtain rfl := Option.some.inj h2
        obtain rfl := he2 _ rfl
        refine zend ?_
        refine wk_of [] rfl ?_ ?_
        ·
          try simp only [go_sem]
          exact .same _ trivial
        ·
          try simp only [go_sem]
    subst hz1
    simp only [Sum.elim_inr] at h
    try simp only [go_sem]
    obtain rfl := Option.some.inj h
    exact .same _ trivial
theorem c_ref1_before {a0 : TRect} {a1 : TRect} {r : Bool} (h : p_ref1_before a0 a1 = some r)  : PCalls Try.prog 59 [encTRect a0, encTRect a1] (.bool r) := by
  unfold p_ref1_before at h
  refine pcalls_of (fun _ => none) (fun _ => []) Try.func59 (by unfold Try.f59; rfl) (by kernel_rfl) (by kernel_rfl) ?_
  simp only [awp_seq]
  simp only [argSlots]
  dsimp only [Try.f59]
  try simp only [go_sem]
  refine ob ⟨by intro h1 h2; simp only [h1, h2, Bool.and_self, Bool.not_true, Bool.not_false, Bool.and_true, Bool.true_and], by simp⟩ ?_
  obtain rfl := Option.some.inj h
  exact .same _ trivial
theorem c_ref1_far {a0 : Int} {a1 : Int} {a2 : Int} {a3 : Int} {r : Int} (h : p_ref1_far a0 a1 a2 a3 = some r)  : PCalls Try.prog 126 [.int .i64 a0, .int .i64 a1, .int .i64 a2, .int .i64 a3] (.int .i64 r) := by
  unfold p_ref1_far at h
  refine pcalls_of (fun _ => none) (fun _ => []) Try.func126 (by unfold Try.f126; rfl) (by kernel_rfl) (by kernel_rfl) ?_
  simp only [awp_seq]
  simp only [argSlots]
  dsimp only [Try.f126]
  try simp only [go_sem]
  obtain ⟨⟨g0_0, g0_1⟩, h⟩ := of_guard h
  simp only [W64 g0_0 g0_1]
  obtain ⟨⟨g1_0, g1_1⟩, h⟩ := of_guard h
  simp only [W64 g1_0 g1_1]
  obtain ⟨⟨g2_0, g2_1⟩, h⟩ := of_guard h
  simp only [W64 g2_0 g2_1]
  obtain ⟨⟨g3_0, g3_1⟩, h⟩ := of_guard h
  simp only [W64 g3_0 g3_1]
  obtain rfl := Option.some.inj h
  exact .same _ trivial
theorem c_ref1_joined {a0 : (List TEtchhouseref1span)} {a1 : TEtchhouseref1span} {r : (List TEtchhouseref1span)} (h : p_ref1_joined a0 a1 = some r)  : PCalls Try.prog 124 [encL 2 encTEtchhouseref1span a0, encTEtchhouseref1span a1] (encL 2 encTEtchhouseref1span r) := by
  unfold p_ref1_joined at h
  refine pcalls_of (ordOf [(3, [0, 1, 2, 3, 4, 5, 6, 7, 8, 10, 9, 11, 12, 13]), (6, [0, 1, 2, 3, 4, 5, 6, 7, 8, 10, 9, 11, 12, 13]), (7, [0, 2, 3, 4, 5, 8, 10, 11, 12, 13, 1, 6, 7, 9, 16, 14, 15, 17, 18, 19])]) (prsOf [(7, [(14, 17)])]) Try.func124 (by unfold Try.f124; rfl) (by kernel_rfl) (by kernel_rfl) ?_
  simp only [awp_seq]
  simp only [argSlots]
  dsimp only [Try.f124]
  try simp only [go_sem]
  obtain ⟨e0, h0, h⟩ := of_bind h
  refine cut_j ([(6, AVal.int IntKind.i64 (Prod.fst e0)), (5, AVal.sref (1, 0) 0 2 (List.length (Prod.snd e0))), (4, AVal.nilsl), (3, AVal.ptr (0, 0) 2 0 0), (0, encL 2 encTEtchhouseref1span a0)]) ({ nx := 2, rows := [(1, Ent.one { sz := 2, d := encTEtchhouseref1span default, l := List.map encTEtchhouseref1span (Prod.snd e0) : Row }), (0, Ent.one { sz := 2, d := encTEtchhouseref1span a1, l := [encTEtchhouseref1span a1] : Row })] : Heap }) ?_ ?_
  ·
    try simp only [go_sem]
    refine loop_w h0 (fun (s : Int × List TEtchhouseref1span) => [(6, AVal.int IntKind.i64 (Prod.fst s)), (5, AVal.sref (1, 0) 0 2 (List.length (Prod.snd s))), (4, AVal.nilsl), (3, AVal.ptr (0, 0) 2 0 0), (0, encL 2 encTEtchhouseref1span a0)]) (fun (s : Int × List TEtchhouseref1span) => { nx := 2, rows := [(1, Ent.one { sz := 2, d := encTEtchhouseref1span default, l := List.map encTEtchhouseref1span (Prod.snd s) : Row }), (0, Ent.one { sz := 2, d := encTEtchhouseref1span a1, l := [encTEtchhouseref1span a1] : Row })] : Heap }) ?_ ?_
    ·
      refine wk_of [(1, none), (0, some 0)] rfl ?_ ?_
      ·
        try simp only [go_sem]
        exact ⟨.same _ trivial, ⟨wkv_nil (rn_none rfl) rfl, ⟨.same _ trivial, ⟨.ptr _ _ _ _ _ (rn_some rfl), .same _ trivial⟩⟩⟩⟩
      ·
        try simp only [go_sem]
        exact ⟨wkR_nilT (rn_none rfl), wkR_box (rn_some rfl) rfl (wkE _)⟩
    intro n1 s1 o1 h1 he1 hi1
    try simp only [go_sem]
    obtain ⟨g2, h1⟩ := of_guard h1
    refine ob (by assumption) ?_
    refine cut_l ?_
    try simp only [go_sem]
    refine ways (fun c3 => ?_) (fun c3 => ?_)
    ·
      replace h1 := if_t c3 h1
      try simp only [Bool.and_eq_true, Bool.or_eq_true, Bool.not_eq_true', Bool.not_eq_false', Bool.and_eq_false_imp, Bool.or_eq_false_iff, decide_eq_true_eq, decide_eq_false_iff_not] at c3
      refine cut_l ?_
      try simp only [go_sem]
      obtain ⟨⟨g4_0, g4_1⟩, h1⟩ := of_guard h1
      refine ob ⟨⟨by assumption, by omega⟩, ⟨by omega, by assumption⟩⟩ ?_
      obtain ⟨⟨g5_0, g5_1⟩, h1⟩ := of_guard h1
      simp only [W64 g5_0 g5_1]
      obtain rfl := Option.some.inj h1
      refine nextL (hi1 _ rfl) ?_
      refine wk_of [(1, some 10003), (0, some 0)] rfl ?_ ?_
      ·
        try simp only [go_sem]
        exact ⟨.same _ trivial, ⟨wkv_sref (rn_some rfl) rfl, ⟨.same _ trivial, ⟨.ptr _ _ _ _ _ (rn_some rfl), .same _ trivial⟩⟩⟩⟩
      ·
        try simp only [go_sem]
        exact ⟨wkR_typed (rn_some rfl) rfl rfl, wkR_box (rn_some rfl) rfl (wkE _)⟩
    ·
      replace h1 := if_f c3 h1
      try simp only [Bool.and_eq_true, Bool.or_eq_true, Bool.not_eq_true', Bool.not_eq_false', Bool.and_eq_false_imp, Bool.or_eq_false_iff, decide_eq_true_eq, decide_eq_false_iff_not] at c3
      obtain rfl := Option.some.inj h1
      obtain rfl := he1 _ rfl
      refine wk_of [(1, some 1), (0, some 0)] rfl ?_ ?_
      ·
        try simp only [go_sem]
        exact ⟨.same _ trivial, ⟨wkv_sref (rn_some rfl) rfl, ⟨.same _ trivial, ⟨.ptr _ _ _ _ _ (rn_some rfl), .same _ trivial⟩⟩⟩⟩
      ·
        try simp only [go_sem]
        exact ⟨wkR_typed (rn_some rfl) rfl rfl, wkR_box (rn_some rfl) rfl (wkE _)⟩
  try simp only [go_sem]
  obtain ⟨e6, h6, h⟩ := of_bind h
  refine cut_j ([(6, AVal.int IntKind.i64 (Prod.fst e6)), (5, AVal.sref (1, 0) 0 2 (List.length (Prod.snd e0))), (4, AVal.nilsl), (3, AVal.ptr (0, 0) 2 0 0), (0, encL 2 encTEtchhouseref1span a0)]) ({ nx := 2, rows := [(1, Ent.one { sz := 2, d := encTEtchhouseref1span default, l := List.map encTEtchhouseref1span (Prod.snd e0) : Row }), (0, Ent.one { sz := 2, d := encTEtchhouseref1span a1, l := [encTEtchhouseref1span (Prod.snd e6)] : Row })] : Heap }) ?_ ?_
  ·
    try simp only [go_sem]
    refine loop_w h6 (fun (s : Int × TEtchhouseref1span) => [(6, AVal.int IntKind.i64 (Prod.fst s)), (5, AVal.sref (1, 0) 0 2 (List.length (Prod.snd e0))), (4, AVal.nilsl), (3, AVal.ptr (0, 0) 2 0 0), (0, encL 2 encTEtchhouseref1span a0)]) (fun (s : Int × TEtchhouseref1span) => { nx := 2, rows := [(1, Ent.one { sz := 2, d := encTEtchhouseref1span default, l := List.map encTEtchhouseref1span (Prod.snd e0) : Row }), (0, Ent.one { sz := 2, d := encTEtchhouseref1span a1, l := [encTEtchhouseref1span (Prod.snd s)] : Row })] : Heap }) ?_ ?_
    ·
      refine wk_of [(1, some 1), (0, some 0)] rfl ?_ ?_
      ·
        try simp only [go_sem]
        exact ⟨.same _ trivial, ⟨wkv_sref (rn_some rfl) rfl, ⟨.same _ trivial, ⟨.ptr _ _ _ _ _ (rn_some rfl), .same _ trivial⟩⟩⟩⟩
      ·
        try simp only [go_sem]
        exact ⟨wkR_typed (rn_some rfl) rfl rfl, wkR_box (rn_some rfl) rfl (wkE _)⟩
    intro n7 s7 o7 h7 he7 hi7
    try simp only [go_sem]
    obtain ⟨g8, h7⟩ := of_guard h7
    refine ob (by assumption) ?_
    refine cut_l ?_
    try simp only [go_sem]
    refine ways (fun c9 => ?_) (fun c9 => ?_)
    ·
      replace h7 := if_t c9 h7
      try simp only [Bool.and_eq_true, Bool.or_eq_true, Bool.not_eq_true', Bool.not_eq_false', Bool.and_eq_false_imp, Bool.or_eq_false_iff, decide_eq_true_eq, decide_eq_false_iff_not] at c9
      refine cut_l ?_
      try simp only [go_sem]
      obtain ⟨g10, h7⟩ := of_guard h7
      refine ob ⟨by assumption, by omega⟩ ?_
      obtain ⟨⟨g11_0, g11_1⟩, h7⟩ := of_guard h7
      simp only [W64 g11_0 g11_1]
      obtain rfl := Option.some.inj h7
      refine nextL (hi7 _ rfl) ?_
      refine wk_of [(1, some 1), (0, some 0)] rfl ?_ ?_
      ·
        try simp only [go_sem]
        exact ⟨.same _ trivial, ⟨wkv_sref (rn_some rfl) rfl, ⟨.same _ trivial, ⟨.ptr _ _ _ _ _ (rn_some rfl), .same _ trivial⟩⟩⟩⟩
      ·
        try simp only [go_sem]
        exact ⟨wkR_typed (rn_some rfl) rfl rfl, wkR_box (rn_some rfl) rfl (wkE _)⟩
    ·
      replace h7 := if_f c9 h7
      try simp only [Bool.and_eq_true, Bool.or_eq_true, Bool.not_eq_true', Bool.not_eq_false', Bool.and_eq_false_imp, Bool.or_eq_false_iff, decide_eq_true_eq, decide_eq_false_iff_not] at c9
      obtain rfl := Option.some.inj h7
      obtain rfl := he7 _ rfl
      refine wk_of [(1, some 1), (0, some 0)] rfl ?_ ?_
      ·
        try simp only [go_sem]
        exact ⟨.same _ trivial, ⟨wkv_sref (rn_some rfl) rfl, ⟨.same _ trivial, ⟨.ptr _ _ _ _ _ (rn_some rfl), .same _ trivial⟩⟩⟩⟩
      ·
        try simp only [go_sem]
        exact ⟨wkR_typed (rn_some rfl) rfl rfl, wkR_box (rn_some rfl) rfl (wkE _)⟩
  try simp only [go_sem]
  obtain ⟨g12, h⟩ := of_guard h
  refine ob ⟨by omega, by assumption⟩ ?_
  obtain ⟨⟨g13_0, g13_1, g13_2⟩, h⟩ := of_guard h
  refine ob ⟨⟨by assumption, by assumption⟩, ⟨by omega, by assumption⟩⟩ ?_
  obtain rfl := Option.some.inj h
  exact wkv_own rfl (R0_ne _) rfl
theorem c_ref1_nearest {a0 : (List TRect)} {a1 : (List TRect)} {a2 : Int} {r : TPoint × Bool} (h : p_ref1_nearest a0 a1 a2 = some r)  : PCalls Try.prog 109 [encL 4 encTRect a0, encL 4 encTRect a1, .int .i64 a2] (tup [encTPoint r.1, .bool r.2]) := by
  unfold p_ref1_nearest at h
  refine pcalls_of (ordOf [(8, [0, 1, 2, 3, 5, 6, 7, 8, 10, 13, 14, 15, 16, 18, 19, 20, 21, 23, 4, 9, 11, 12, 26, 17, 22, 24, 25, 27]), (9, [0, 1, 2, 3, 4, 6, 7, 8, 9, 11, 5, 10, 12, 13, 14, 15, 16, 17, 18, 19, 20, 21, 23, 24, 25, 26, 28, 22, 27, 29, 30, 31, 32, 33])]) (fun _ => []) Try.func109 (by unfold Try.f109; rfl) (by kernel_rfl) (by kernel_rfl) ?_
  simp only [awp_seq]
  simp only [argSlots]
  dsimp only [Try.f109]
  try simp only [go_sem]
  obtain ⟨e0, h0, h⟩ := of_bind h
  refine cut_j ([(9, AVal.bool (Prod.fst e0)), (8, AVal.ptr (1, 0) 2 0 0), (7, AVal.bool false), (6, AVal.ptr (0, 0) 2 0 0)]) ({ nx := 3, rows := [(1, Ent.one { sz := 2, d := encTPoint { : TPoint }, l := [encTPoint (Prod.snd e0)] : Row }), (0, Ent.one { sz := 2, d := encTPoint { : TPoint }, l := [encTPoint { : TPoint }] : Row })] : Heap }) ?_ ?_
  ·
    try simp only [go_sem]
    refine loop_w h0 (fun (s : Int × Bool × TPoint) => [(10, AVal.int IntKind.i64 (Prod.fst s)), (9, AVal.bool (Prod.fst (Prod.snd s))), (8, AVal.ptr (1, 0) 2 0 0), (7, AVal.bool false), (6, AVal.ptr (0, 0) 2 0 0), (0, encL 4 encTRect a0), (1, encL 4 encTRect a1), (2, AVal.int IntKind.i64 a2)]) (fun (s : Int × Bool × TPoint) => { nx := 3, rows := [(1, Ent.one { sz := 2, d := encTPoint { : TPoint }, l := [encTPoint (Prod.snd (Prod.snd s))] : Row }), (0, Ent.one { sz := 2, d := encTPoint { : TPoint }, l := [encTPoint { : TPoint }] : Row })] : Heap }) ?_ ?_
    ·
      refine wk_of [(1, some 1), (0, some 0)] rfl ?_ ?_
      ·
        try simp only [go_sem]
        exact ⟨.same _ trivial, ⟨.same _ trivial, ⟨.ptr _ _ _ _ _ (rn_some rfl), ⟨.same _ trivial, ⟨.ptr _ _ _ _ _ (rn_some rfl), ⟨.same _ trivial, ⟨.same _ trivial, .same _ trivial⟩⟩⟩⟩⟩⟩⟩
      ·
        try simp only [go_sem]
        exact ⟨wkR_box (rn_some rfl) rfl (wkE _), wkR_box (rn_some rfl) rfl (wkE _)⟩
    intro n1 s1 o1 h1 he1 hi1
    try simp only [go_sem]
    refine cut_l ?_
    try simp only [go_sem]
    refine ways_d (fun c2 => ?_) (fun c2 => ?_)
    ·
      replace h1 := if_p c2 h1
      obtain ⟨e3, h3, h1⟩ := of_bind h1
      refine cut_j ([(10, AVal.int IntKind.i64 (Prod.fst s1)), (9, AVal.bool (Prod.fst e3)), (8, AVal.ptr (1, 0) 2 0 0), (7, AVal.bool false), (6, AVal.ptr (0, 0) 2 0 0), (0, encL 4 encTRect a0), (1, encL 4 encTRect a1), (2, AVal.int IntKind.i64 a2)]) ({ nx := 3, rows := [(1, Ent.one { sz := 2, d := encTPoint { : TPoint }, l := [encTPoint (Prod.snd e3)] : Row }), (0, Ent.one { sz := 2, d := encTPoint { : TPoint }, l := [encTPoint { : TPoint }] : Row })] : Heap }) ?_ ?_
      ·
        try simp only [go_sem]
        refine cut_l ?_
        try simp only [go_sem]
        refine loop_w h3 (fun (s : Int × Bool × TPoint) => [(11, AVal.int IntKind.i64 (Prod.fst s)), (10, AVal.int IntKind.i64 (Prod.fst s1)), (9, AVal.bool (Prod.fst (Prod.snd s))), (8, AVal.ptr (1, 0) 2 0 0), (7, AVal.bool false), (6, AVal.ptr (0, 0) 2 0 0), (0, encL 4 encTRect a0), (1, encL 4 encTRect a1), (2, AVal.int IntKind.i64 a2)]) (fun (s : Int × Bool × TPoint) => { nx := 3, rows := [(1, Ent.one { sz := 2, d := encTPoint { : TPoint }, l := [encTPoint (Prod.snd (Prod.snd s))] : Row }), (0, Ent.one { sz := 2, d := encTPoint { : TPoint }, l := [encTPoint { : TPoint }] : Row })] : Heap }) ?_ ?_
        ·
          refine wk_of [(1, some 1), (0, some 0)] rfl ?_ ?_
          ·
            try simp only [go_sem]
            exact ⟨.same _ trivial, ⟨.same _ trivial, ⟨.same _ trivial, ⟨.ptr _ _ _ _ _ (rn_some rfl), ⟨.same _ trivial, ⟨.ptr _ _ _ _ _ (rn_some rfl), ⟨.same _ trivial, ⟨.same _ trivial, .same _ trivial⟩⟩⟩⟩⟩⟩⟩⟩
          ·
            try simp only [go_sem]
            exact ⟨wkR_box (rn_some rfl) rfl (wkE _), wkR_box (rn_some rfl) rfl (wkE _)⟩
        intro n4 s4 o4 h4 he4 hi4
        try simp only [go_sem]
        refine cut_l ?_
        try simp only [go_sem]
        refine ways_d (fun c5 => ?_) (fun c5 => ?_)
        ·
          replace h4 := if_p c5 h4
          obtain ⟨e6, h6, h4⟩ := of_bind h4
          refine cut_j ([(11, AVal.int IntKind.i64 (Prod.fst s4)), (10, AVal.int IntKind.i64 (Prod.fst s1)), (9, AVal.bool (Prod.fst e6)), (8, AVal.ptr (1, 0) 2 0 0), (7, AVal.bool false), (6, AVal.ptr (0, 0) 2 0 0), (0, encL 4 encTRect a0), (1, encL 4 encTRect a1), (2, AVal.int IntKind.i64 a2)]) ({ nx := 3, rows := [(1, Ent.one { sz := 2, d := encTPoint { : TPoint }, l := [encTPoint (Prod.snd e6)] : Row }), (0, Ent.one { sz := 2, d := encTPoint { : TPoint }, l := [encTPoint { : TPoint }] : Row })] : Heap }) ?_ ?_
          ·
            try simp only [go_sem]
            obtain ⟨⟨g7_0, g7_1, g7_2, g7_3⟩, h6⟩ := of_guard h6
            refine ob ⟨⟨⟨⟨by assumption, by assumption⟩, ⟨by assumption, by assumption⟩⟩, ⟨by assumption, by assumption⟩⟩, ⟨by assumption, by assumption⟩⟩ ?_
            obtain ⟨⟨g8_0, g8_1⟩, h6⟩ := of_guard h6
            simp only [W64 g8_0 g8_1]
            obtain ⟨⟨g9_0, g9_1⟩, h6⟩ := of_guard h6
            simp only [W64 g9_0 g9_1]
            obtain ⟨⟨g10_0, g10_1⟩, h6⟩ := of_guard h6
            simp only [W64 g10_0 g10_1]
            refine ob ⟨⟨⟨⟨⟨by assumption, by assumption⟩, ⟨by assumption, by assumption⟩⟩, by omega⟩, by omega⟩, by simp⟩ ?_
            obtain ⟨⟨g11_0, g11_1⟩, h6⟩ := of_guard h6
            simp only [W64 g11_0 g11_1]
            obtain ⟨⟨g12_0, g12_1⟩, h6⟩ := of_guard h6
            simp only [W64 g12_0 g12_1]
            obtain ⟨⟨g13_0, g13_1⟩, h6⟩ := of_guard h6
            simp only [W64 g13_0 g13_1]
            refine cut_l ?_
            try simp only [go_sem]
            refine ways (fun c14 => ?_) (fun c14 => ?_)
            ·
              replace h6 := if_t c14 h6
              try simp only [Bool.and_eq_true, Bool.or_eq_true, Bool.not_eq_true', Bool.not_eq_false', Bool.and_eq_false_imp, Bool.or_eq_false_iff, decide_eq_true_eq, decide_eq_false_iff_not] at c14
              obtain rfl := Option.some.inj h6
              refine wk_of [(1, some 1), (0, some 0)] rfl ?_ ?_
              ·
                try simp only [go_sem]
                exact ⟨.same _ trivial, ⟨.same _ trivial, ⟨.same _ trivial, ⟨.ptr _ _ _ _ _ (rn_some rfl), ⟨.same _ trivial, ⟨.ptr _ _ _ _ _ (rn_some rfl), ⟨.same _ trivial, ⟨.same _ trivial, .same _ trivial⟩⟩⟩⟩⟩⟩⟩⟩
              ·
                try simp only [go_sem]
                exact ⟨wkR_box (rn_some rfl) rfl (wkE _), wkR_box (rn_some rfl) rfl (wkE _)⟩
            ·
              replace h6 := if_f c14 h6
              try simp only [Bool.and_eq_true, Bool.or_eq_true, Bool.not_eq_true', Bool.not_eq_false', Bool.and_eq_false_imp, Bool.or_eq_false_iff, decide_eq_true_eq, decide_eq_false_iff_not] at c14
              refine ob ⟨⟨by simp, by intro h1 h2; simp only [h1, h2, Bool.and_self, Bool.not_true, Bool.not_false, Bool.and_true, Bool.true_and]⟩, by simp⟩ ?_
              refine cut_l ?_
              try simp only [go_sem]
              refine ways (fun c15 => ?_) (fun c15 => ?_)
              ·
                replace h6 := if_t c15 h6
                try simp only [Bool.and_eq_true, Bool.or_eq_true, Bool.not_eq_true', Bool.not_eq_false', Bool.and_eq_false_imp, Bool.or_eq_false_iff, decide_eq_true_eq, decide_eq_false_iff_not] at c15
                obtain rfl := Option.some.inj h6
                refine wk_of [(1, some 1), (0, some 0)] rfl ?_ ?_
                ·
                  try simp only [go_sem]
                  exact ⟨.same _ trivial, ⟨.same _ trivial, ⟨.same _ trivial, ⟨.ptr _ _ _ _ _ (rn_some rfl), ⟨.same _ trivial, ⟨.ptr _ _ _ _ _ (rn_some rfl), ⟨.same _ trivial, ⟨.same _ trivial, .same _ trivial⟩⟩⟩⟩⟩⟩⟩⟩
                ·
                  try simp only [go_sem]
                  exact ⟨wkR_box (rn_some rfl) rfl (wkE _), wkR_box (rn_some rfl) rfl (wkE _)⟩
              ·
                replace h6 := if_f c15 h6
                try simp only [Bool.and_eq_true, Bool.or_eq_true, Bool.not_eq_true', Bool.not_eq_false', Bool.and_eq_false_imp, Bool.or_eq_false_iff, decide_eq_true_eq, decide_eq_false_iff_not] at c15
                obtain rfl := Option.some.inj h6
                refine wk_of [(1, some 1), (0, some 0)] rfl ?_ ?_
                ·
                  try simp only [go_sem]
                  exact ⟨.same _ trivial, ⟨.same _ trivial, ⟨.same _ trivial, ⟨.ptr _ _ _ _ _ (rn_some rfl), ⟨.same _ trivial, ⟨.ptr _ _ _ _ _ (rn_some rfl), ⟨.same _ trivial, ⟨.same _ trivial, .same _ trivial⟩⟩⟩⟩⟩⟩⟩⟩
                ·
                  try simp only [go_sem]
                  exact ⟨wkR_box (rn_some rfl) rfl (wkE _), wkR_box (rn_some rfl) rfl (wkE _)⟩
          try simp only [go_sem]
          obtain ⟨⟨g16_0, g16_1⟩, h4⟩ := of_guard h4
          simp only [W64 g16_0 g16_1]
          obtain rfl := Option.some.inj h4
          refine nextL (hi4 _ rfl) ?_
          refine wk_of [(1, some 1), (0, some 0)] rfl ?_ ?_
          ·
            try simp only [go_sem]
            exact ⟨.same _ trivial, ⟨.same _ trivial, ⟨.same _ trivial, ⟨.ptr _ _ _ _ _ (rn_some rfl), ⟨.same _ trivial, ⟨.ptr _ _ _ _ _ (rn_some rfl), ⟨.same _ trivial, ⟨.same _ trivial, .same _ trivial⟩⟩⟩⟩⟩⟩⟩⟩
          ·
            try simp only [go_sem]
            exact ⟨wkR_box (rn_some rfl) rfl (wkE _), wkR_box (rn_some rfl) rfl (wkE _)⟩
        ·
          replace h4 := if_n c5 h4
          obtain rfl := Option.some.inj h4
          obtain rfl := he4 _ rfl
          refine wk_of [(1, some 1), (0, some 0)] rfl ?_ ?_
          ·
            try simp only [go_sem]
            exact ⟨.same _ trivial, ⟨.same _ trivial, ⟨.ptr _ _ _ _ _ (rn_some rfl), ⟨.same _ trivial, ⟨.ptr _ _ _ _ _ (rn_some rfl), ⟨.same _ trivial, ⟨.same _ trivial, .same _ trivial⟩⟩⟩⟩⟩⟩⟩
          ·
            try simp only [go_sem]
            exact ⟨wkR_box (rn_some rfl) rfl (wkE _), wkR_box (rn_some rfl) rfl (wkE _)⟩
      try simp only [go_sem]
      obtain ⟨⟨g17_0, g17_1⟩, h1⟩ := of_guard h1
      simp only [W64 g17_0 g17_1]
      obtain rfl := Option.some.inj h1
      refine nextL (hi1 _ rfl) ?_
      refine wk_of [(1, some 1), (0, some 0)] rfl ?_ ?_
      ·
        try simp only [go_sem]
        exact ⟨.same _ trivial, ⟨.same _ trivial, ⟨.ptr _ _ _ _ _ (rn_some rfl), ⟨.same _ trivial, ⟨.ptr _ _ _ _ _ (rn_some rfl), ⟨.same _ trivial, ⟨.same _ trivial, .same _ trivial⟩⟩⟩⟩⟩⟩⟩
      ·
        try simp only [go_sem]
        exact ⟨wkR_box (rn_some rfl) rfl (wkE _), wkR_box (rn_some rfl) rfl (wkE _)⟩
    ·
      replace h1 := if_n c2 h1
      obtain rfl := Option.some.inj h1
      obtain rfl := he1 _ rfl
      refine wk_of [(1, some 1), (0, some 0)] rfl ?_ ?_
      ·
        try simp only [go_sem]
        exact ⟨.same _ trivial, ⟨.ptr _ _ _ _ _ (rn_some rfl), ⟨.same _ trivial, .ptr _ _ _ _ _ (rn_some rfl)⟩⟩⟩
      ·
        try simp only [go_sem]
        exact ⟨wkR_box (rn_some rfl) rfl (wkE _), wkR_box (rn_some rfl) rfl (wkE _)⟩
  try simp only [go_sem]
  obtain rfl := Option.some.inj h
  exact wkv_same (by simp only [go_sem]) rfl
theorem c_ref1_put {a0 : (List Int)} {a1 : Int} {r : (List Int)} (h : p_ref1_put a0 a1 = some r)  : PCalls Try.prog 122 [encL 1 encI a0, .int .i64 a1] (encL 1 encI r) := by
  unfold p_ref1_put at h
  refine pcalls_of (fun _ => none) (fun _ => []) Try.func122 (by unfold Try.f122; rfl) (by kernel_rfl) (by kernel_rfl) ?_
  simp only [awp_seq]
  simp only [argSlots]
  dsimp only [Try.f122]
  try simp only [go_sem]
  obtain ⟨e0, h0, h⟩ := of_bind h
  refine cut_j ([(5, AVal.int IntKind.i64 e0), (4, AVal.nilsl), (0, encL 1 encI a0), (1, AVal.int IntKind.i64 a1)]) ({ nx := 0, rows := [] : Heap }) ?_ ?_
  ·
    try simp only [go_sem]
    refine loop_w h0 (fun (s : Int × Int) => [(6, AVal.int IntKind.i64 (Prod.fst s)), (5, AVal.int IntKind.i64 (Prod.snd s)), (4, AVal.nilsl), (0, encL 1 encI a0), (1, AVal.int IntKind.i64 a1)]) (fun (s : Int × Int) => { nx := 0, rows := [] : Heap }) ?_ ?_
    ·
      refine wk_of [] rfl ?_ ?_
      ·
        try simp only [go_sem]
        exact ⟨.same _ trivial, ⟨.same _ trivial, ⟨.same _ trivial, ⟨.same _ trivial, .same _ trivial⟩⟩⟩⟩
      ·
        try simp only [go_sem]
    intro n1 s1 o1 h1 he1 hi1
    try simp only [go_sem]
    refine cut_l ?_
    try simp only [go_sem]
    refine ways_d (fun c2 => ?_) (fun c2 => ?_)
    ·
      replace h1 := if_p c2 h1
      refine cut_l ?_
      try simp only [go_sem]
      refine ob (by omega) ?_
      obtain ⟨⟨g3_0, g3_1⟩, h1⟩ := of_guard h1
      simp only [W64 g3_0 g3_1]
      obtain ⟨⟨g4_0, g4_1⟩, h1⟩ := of_guard h1
      simp only [W64 g4_0 g4_1]
      obtain ⟨⟨g5_0, g5_1⟩, h1⟩ := of_guard h1
      refine ob ⟨by assumption, by assumption⟩ ?_
      refine cut_l ?_
      try simp only [go_sem]
      refine ways_d (fun c6 => ?_) (fun c6 => ?_)
      ·
        replace h1 := if_p c6 h1
        obtain ⟨⟨g7_0, g7_1⟩, h1⟩ := of_guard h1
        simp only [W64 g7_0 g7_1]
        obtain rfl := Option.some.inj h1
        refine nextL (hi1 _ rfl) ?_
        refine wk_of [] rfl ?_ ?_
        ·
          try simp only [go_sem]
          exact ⟨.same _ trivial, ⟨.same _ trivial, ⟨.same _ trivial, ⟨.same _ trivial, .same _ trivial⟩⟩⟩⟩
        ·
          try simp only [go_sem]
      ·
        replace h1 := if_n c6 h1
        obtain rfl := Option.some.inj h1
        refine nextL (hi1 _ rfl) ?_
        refine wk_of [] rfl ?_ ?_
        ·
          try simp only [go_sem]
          exact ⟨.same _ trivial, ⟨.same _ trivial, ⟨.same _ trivial, ⟨.same _ trivial, .same _ trivial⟩⟩⟩⟩
        ·
          try simp only [go_sem]
    ·
      replace h1 := if_n c2 h1
      obtain rfl := Option.some.inj h1
      obtain rfl := he1 _ rfl
      refine wk_of [] rfl ?_ ?_
      ·
        try simp only [go_sem]
        exact ⟨.same _ trivial, ⟨.same _ trivial, ⟨.same _ trivial, .same _ trivial⟩⟩⟩
      ·
        try simp only [go_sem]
  try simp only [go_sem]
  obtain ⟨g8, h⟩ := of_guard h
  refine ob (by assumption) ?_
  refine cut_l ?_
  try simp only [go_sem]
  refine ways (fun c9 => ?_) (fun c9 => ?_)
  ·
    replace h := if_t c9 h
    try simp only [Bool.and_eq_true, Bool.or_eq_true, Bool.not_eq_true', Bool.not_eq_false', Bool.and_eq_false_imp, Bool.or_eq_false_iff, decide_eq_true_eq, decide_eq_false_iff_not] at c9
    obtain rfl := Option.some.inj h
    exact .same _ trivial
  ·
    replace h := if_f c9 h
    try simp only [Bool.and_eq_true, Bool.or_eq_true, Bool.not_eq_true', Bool.not_eq_false', Bool.and_eq_false_imp, Bool.or_eq_false_iff, decide_eq_true_eq, decide_eq_false_iff_not] at c9
    obtain ⟨⟨g10_0, g10_1, g10_2⟩, h⟩ := of_guard h
    refine ob ⟨⟨by assumption, by assumption⟩, by assumption⟩ ?_
    obtain ⟨g11, h⟩ := of_guard h
    refine ob ⟨by omega, by assumption⟩ ?_
    obtain ⟨g12, h⟩ := of_guard h
    refine ob ⟨⟨by assumption, by assumption⟩, ⟨by omega, by assumption⟩⟩ ?_
    obtain rfl := Option.some.inj h
    exact wkv_own rfl (R0_ne _) rfl
theorem c_ref1_sameSpans {a0 : (List TEtchhouseref1span)} {a1 : (List TEtchhouseref1span)} {r : Bool} (h : p_ref1_sameSpans a0 a1 = some r)  : PCalls Try.prog 123 [encL 2 encTEtchhouseref1span a0, encL 2 encTEtchhouseref1span a1] (.bool r) := by
  unfold p_ref1_sameSpans at h
  refine pcalls_of (ordOf [(6, [0, 1, 2, 4, 5, 6, 3, 7, 8])]) (fun _ => []) Try.func123 (by unfold Try.f123; rfl) (by kernel_rfl) (by kernel_rfl) ?_
  simp only [awp_seq]
  simp only [argSlots]
  dsimp only [Try.f123]
  try simp only [go_sem]
  refine cut_l ?_
  try simp only [go_sem]
  refine ways_n (fun c0 => ?_) (fun c0 => ?_)
  ·
    replace h := if_n c0 h
    obtain rfl := Option.some.inj h
    exact .same _ trivial
  ·
    replace h := if_p c0 h
    obtain ⟨z1, h1, h⟩ := of_bind h
    refine cut_z z1 (fun (s : Bool) => [(4, AVal.bool s)]) (fun (s : Bool) => { nx := 0, rows := [] : Heap }) ?_ (fun e1 hz1 => ?_)
    ·
      try simp only [go_sem]
      refine loop_w h1 (fun (s : Int × Bool) => [(5, AVal.int IntKind.i64 (Prod.fst s)), (4, AVal.bool (Prod.snd s)), (0, encL 2 encTEtchhouseref1span a0), (1, encL 2 encTEtchhouseref1span a1)]) (fun (s : Int × Bool) => { nx := 0, rows := [] : Heap }) ?_ ?_
      ·
        refine wk_of [] rfl ?_ ?_
        ·
          try simp only [go_sem]
          exact ⟨.same _ trivial, ⟨.same _ trivial, ⟨.same _ trivial, .same _ trivial⟩⟩⟩
        ·
          try simp only [go_sem]
      intro n2 s2 o2 h2 he2 hi2
      try simp only [go_sem]
      refine cut_l ?_
      try simp only [go_sem]
      refine ways_d (fun c3 => ?_) (fun c3 => ?_)
      ·
        replace h2 := if_p c3 h2
        refine cut_l ?_
        try simp only [go_sem]
        obtain ⟨⟨g4_0, g4_1⟩, h2⟩ := of_guard h2
        refine ob ⟨⟨by assumption, by assumption⟩, ⟨by assumption, by omega⟩⟩ ?_
        refine cut_l ?_
        try simp only [go_sem]
        refine ways_n (fun c5 => ?_) (fun c5 => ?_)
        ·
          replace h2 := if_n c5 h2
          obtain rfl := Option.some.inj h2
          obtain rfl := he2 _ rfl
          obtain rfl := Option.some.inj h
          exact .same _ trivial
        ·
          replace h2 := if_p c5 h2
          obtain ⟨⟨g6_0, g6_1⟩, h2⟩ := of_guard h2
          simp only [W64 g6_0 g6_1]
          obtain rfl := Option.some.inj h2
          refine nextL (hi2 _ rfl) ?_
          refine wk_of [] rfl ?_ ?_
          ·
            try simp only [go_sem]
            exact ⟨.same _ trivial, ⟨.same _ trivial, ⟨.same _ trivial, .same _ trivial⟩⟩⟩
          ·
            try simp only [go_sem]
      ·
        replace h2 := if_n c3 h2
        obtain rfl := Option.some.inj h2
        obtain rfl := he2 _ rfl
        refine zend ?_
        refine wk_of [] rfl ?_ ?_
        ·
          try simp only [go_sem]
          exact .same _ trivial
        ·
          try simp only [go_sem]
    subst hz1
    simp only [Sum.elim_inr] at h
    try simp only [go_sem]
    obtain rfl := Option.some.inj h
    exact .same _ trivial
theorem c_ref1_told {a0 : (List TEtchhouseref1band)} {r : (List TRect)} (h : p_ref1_told a0 = some r)  : PCalls Try.prog 99 [encL 3 encTEtchhouseref1band a0] (encL 4 encTRect r) := by
  unfold p_ref1_told at h
  refine pcalls_of (ordOf [(8, [0, 1, 2, 3, 4, 6, 10, 11, 12, 13, 15, 16, 17, 18, 20, 24, 25, 26, 27, 5, 7, 8, 9, 14, 19, 21, 22, 23, 28, 29, 30, 31, 32])]) (fun _ => []) Try.func99 (by unfold Try.f99; rfl) (by kernel_rfl) (by kernel_rfl) ?_
  simp only [awp_seq]
  simp only [argSlots]
  dsimp only [Try.f99]
  try simp only [go_sem]
  obtain ⟨e0, h0, h⟩ := of_bind h
  refine cut_j ([(3, encL 4 encTRect e0), (2, AVal.nilsl)]) ({ nx := 0, rows := [] : Heap }) ?_ ?_
  ·
    try simp only [go_sem]
    refine loop_w h0 (fun (s : Int × List TRect) => [(4, AVal.int IntKind.i64 (Prod.fst s)), (3, AVal.sref (0, 0) 0 4 (List.length (Prod.snd s))), (2, AVal.nilsl), (0, encL 3 encTEtchhouseref1band a0)]) (fun (s : Int × List TRect) => { nx := 1, rows := [(0, Ent.one { sz := 4, d := encTRect default, l := List.map encTRect (Prod.snd s) : Row })] : Heap }) ?_ ?_
    ·
      refine wk_of [(0, none)] rfl ?_ ?_
      ·
        try simp only [go_sem]
        exact ⟨.same _ trivial, ⟨wkv_nil (rn_none rfl) rfl, ⟨.same _ trivial, .same _ trivial⟩⟩⟩
      ·
        try simp only [go_sem]
        exact wkR_nilT (rn_none rfl)
    intro n1 s1 o1 h1 he1 hi1
    try simp only [go_sem]
    refine cut_l ?_
    try simp only [go_sem]
    refine ways_d (fun c2 => ?_) (fun c2 => ?_)
    ·
      replace h1 := if_p c2 h1
      obtain ⟨e3, h3, h1⟩ := of_bind h1
      refine cut_j ([(4, AVal.int IntKind.i64 (Prod.fst s1)), (3, AVal.sref (0, 0) 0 4 (List.length e3)), (2, AVal.nilsl), (0, encL 3 encTEtchhouseref1band a0)]) ({ nx := 1, rows := [(0, Ent.one { sz := 4, d := encTRect default, l := List.map encTRect e3 : Row })] : Heap }) ?_ ?_
      ·
        try simp only [go_sem]
        refine cut_l ?_
        try simp only [go_sem]
        refine loop_w h3 (fun (s : Int × List TRect) => [(5, AVal.int IntKind.i64 (Prod.fst s)), (4, AVal.int IntKind.i64 (Prod.fst s1)), (3, AVal.sref (0, 0) 0 4 (List.length (Prod.snd s))), (2, AVal.nilsl), (0, encL 3 encTEtchhouseref1band a0)]) (fun (s : Int × List TRect) => { nx := 1, rows := [(0, Ent.one { sz := 4, d := encTRect default, l := List.map encTRect (Prod.snd s) : Row })] : Heap }) ?_ ?_
        ·
          refine wk_of [(0, some 0)] rfl ?_ ?_
          ·
            try simp only [go_sem]
            exact ⟨.same _ trivial, ⟨.same _ trivial, ⟨wkv_sref (rn_some rfl) rfl, ⟨.same _ trivial, .same _ trivial⟩⟩⟩⟩
          ·
            try simp only [go_sem]
            exact wkR_typed (rn_some rfl) rfl rfl
        intro n4 s4 o4 h4 he4 hi4
        try simp only [go_sem]
        obtain ⟨g5, h4⟩ := of_guard h4
        refine ob ⟨by assumption, by assumption⟩ ?_
        refine cut_l ?_
        try simp only [go_sem]
        refine ways_d (fun c6 => ?_) (fun c6 => ?_)
        ·
          replace h4 := if_p c6 h4
          refine cut_l ?_
          try simp only [go_sem]
          obtain ⟨⟨g7_0, g7_1, g7_2⟩, h4⟩ := of_guard h4
          refine ob ⟨⟨⟨⟨by assumption, by assumption⟩, ⟨by assumption, by assumption⟩⟩, ⟨by assumption, by assumption⟩⟩, ⟨by omega, by assumption⟩⟩ ?_
          obtain ⟨⟨g8_0, g8_1⟩, h4⟩ := of_guard h4
          simp only [W64 g8_0 g8_1]
          obtain rfl := Option.some.inj h4
          refine nextL (hi4 _ rfl) ?_
          refine wk_of [(0, some 54)] rfl ?_ ?_
          ·
            try simp only [go_sem]
            exact ⟨.same _ trivial, ⟨.same _ trivial, ⟨wkv_sref (rn_some rfl) rfl, ⟨.same _ trivial, .same _ trivial⟩⟩⟩⟩
          ·
            try simp only [go_sem]
            exact wkR_typed (rn_some rfl) rfl rfl
        ·
          replace h4 := if_n c6 h4
          obtain rfl := Option.some.inj h4
          obtain rfl := he4 _ rfl
          refine wk_of [(0, some 0)] rfl ?_ ?_
          ·
            try simp only [go_sem]
            exact ⟨.same _ trivial, ⟨wkv_sref (rn_some rfl) rfl, ⟨.same _ trivial, .same _ trivial⟩⟩⟩
          ·
            try simp only [go_sem]
            exact wkR_typed (rn_some rfl) rfl rfl
      try simp only [go_sem]
      obtain ⟨⟨g9_0, g9_1⟩, h1⟩ := of_guard h1
      simp only [W64 g9_0 g9_1]
      obtain rfl := Option.some.inj h1
      refine nextL (hi1 _ rfl) ?_
      refine wk_of [(0, some 0)] rfl ?_ ?_
      ·
        try simp only [go_sem]
        exact ⟨.same _ trivial, ⟨wkv_sref (rn_some rfl) rfl, ⟨.same _ trivial, .same _ trivial⟩⟩⟩
      ·
        try simp only [go_sem]
        exact wkR_typed (rn_some rfl) rfl rfl
    ·
      replace h1 := if_n c2 h1
      obtain rfl := Option.some.inj h1
      obtain rfl := he1 _ rfl
      refine wk_of [] rfl ?_ ?_
      ·
        try simp only [go_sem]
        exact ⟨wkv_own rfl (rn_notTo rfl) rfl, .same _ trivial⟩
      ·
        try simp only [go_sem]
  try simp only [go_sem]
  obtain rfl := Option.some.inj h
  exact .same _ trivial
theorem c_ref1_within {a0 : Int} {a1 : Int} {a2 : Int} {r : Bool} (h : p_ref1_within a0 a1 a2 = some r)  : PCalls Try.prog 70 [.int .i64 a0, .int .i64 a1, .int .i64 a2] (.bool r) := by
  unfold p_ref1_within at h
  refine pcalls_of (fun _ => none) (fun _ => []) Try.func70 (by unfold Try.f70; rfl) (by kernel_rfl) (by kernel_rfl) ?_
  simp only [awp_seq]
  simp only [argSlots]
  dsimp only [Try.f70]
  try simp only [go_sem]
  obtain rfl := Option.some.inj h
  exact .same _ trivial
theorem c_shape_AreaOf {a0 : (List TRect)} {r : Int} (h : p_shape_AreaOf a0 = some r)  : PCalls Try.prog 85 [encL 4 encTRect a0] (.int .i64 r) := by
  unfold p_shape_AreaOf at h
  refine pcalls_of (fun _ => none) (fun _ => []) Try.func85 (by unfold Try.f85; rfl) (by kernel_rfl) (by kernel_rfl) ?_
  simp only [awp_seq]
  simp only [argSlots]
  dsimp only [Try.f85]
  try simp only [go_sem]
  obtain ⟨e0, h0, h⟩ := of_bind h
  refine cut_j ([(3, AVal.int IntKind.i64 e0), (2, AVal.int IntKind.i64 0)]) ({ nx := 0, rows := [] : Heap }) ?_ ?_
  ·
    try simp only [go_sem]
    refine loop_w h0 (fun (s : Int × Int) => [(8, AVal.int IntKind.i64 (Prod.fst s)), (7, AVal.int IntKind.i64 (↑(List.length a0) : Int)), (6, encL 4 encTRect a0), (3, AVal.int IntKind.i64 (Prod.snd s)), (2, AVal.int IntKind.i64 0)]) (fun (s : Int × Int) => { nx := 0, rows := [] : Heap }) ?_ ?_
    ·
      refine wk_of [] rfl ?_ ?_
      ·
        try simp only [go_sem]
        exact ⟨.same _ trivial, ⟨.same _ trivial, ⟨.same _ trivial, .same _ trivial⟩⟩⟩
      ·
        try simp only [go_sem]
    intro n1 s1 o1 h1 he1 hi1
    try simp only [go_sem]
    refine cut_l ?_
    try simp only [go_sem]
    refine ways_d (fun c2 => ?_) (fun c2 => ?_)
    ·
      replace h1 := if_p c2 h1
      refine cut_l ?_
      try simp only [go_sem]
      obtain ⟨g3, h1⟩ := of_guard h1
      refine ob ⟨by assumption, by assumption⟩ ?_
      obtain ⟨⟨g4_0, g4_1⟩, h1⟩ := of_guard h1
      simp only [W64 g4_0 g4_1]
      obtain ⟨⟨g5_0, g5_1⟩, h1⟩ := of_guard h1
      simp only [W64 g5_0 g5_1]
      obtain ⟨⟨g6_0, g6_1⟩, h1⟩ := of_guard h1
      simp only [W64 g6_0 g6_1]
      obtain ⟨⟨g7_0, g7_1⟩, h1⟩ := of_guard h1
      simp only [W64 g7_0 g7_1]
      obtain ⟨⟨g8_0, g8_1⟩, h1⟩ := of_guard h1
      simp only [W64 g8_0 g8_1]
      obtain rfl := Option.some.inj h1
      refine nextL (hi1 _ rfl) ?_
      refine wk_of [] rfl ?_ ?_
      ·
        try simp only [go_sem]
        exact ⟨.same _ trivial, ⟨.same _ trivial, ⟨.same _ trivial, ⟨.same _ trivial, .same _ trivial⟩⟩⟩⟩
      ·
        try simp only [go_sem]
    ·
      replace h1 := if_n c2 h1
      obtain rfl := Option.some.inj h1
      obtain rfl := he1 _ rfl
      refine wk_of [] rfl ?_ ?_
      ·
        try simp only [go_sem]
        exact ⟨.same _ trivial, .same _ trivial⟩
      ·
        try simp only [go_sem]
  try simp only [go_sem]
  obtain rfl := Option.some.inj h
  exact .same _ trivial
theorem c_shape_SetOf_1 {a0 : TRect} {a1 : TRect} {r : Int} (h : p_shape_SetOf_1 a0 a1 = some r)  : PCalls Try.prog 88 [encTRect a0, encTRect a1] (.int .i64 r) := by
  unfold p_shape_SetOf_1 at h
  refine pcalls_of (fun _ => none) (fun _ => []) Try.func88 (by unfold Try.f88; rfl) (by kernel_rfl) (by kernel_rfl) ?_
  simp only [awp_seq]
  simp only [argSlots]
  dsimp only [Try.f88]
  try simp only [go_sem]
  obtain ⟨⟨g0_0, g0_1⟩, h⟩ := of_guard h
  simp only [W64 g0_0 g0_1]
  obtain rfl := Option.some.inj h
  exact .same _ trivial
theorem c_shape_SetOf_2 {a0 : TRect} {a1 : (List Int)} {a2 : Int} {r : Bool} (h : p_shape_SetOf_2 a0 a1 a2 = some r)  : PCalls Try.prog 92 [encTRect a0, .iptr (encL 1 encI a1) 0, .iptr (.int .i64 a2) 0] (.bool r) := by
  unfold p_shape_SetOf_2 at h
  refine pcalls_of (fun _ => none) (fun _ => []) Try.func92 (by unfold Try.f92; rfl) (by kernel_rfl) (by kernel_rfl) ?_
  simp only [awp_seq]
  simp only [argSlots]
  dsimp only [Try.f92]
  try simp only [go_sem]
  obtain ⟨⟨g0_0, g0_1⟩, h⟩ := of_guard h
  refine ob ⟨by assumption, by assumption⟩ ?_
  obtain rfl := Option.some.inj h
  exact .same _ trivial
theorem c_shape_Set_Rects {a0 : (List TShapeBand)} {r : (List TRect)} (h : p_shape_Set_Rects a0 = some r)  : PCalls Try.prog 58 [encL 3 encTShapeBand a0] (encL 4 encTRect r) := by
  unfold p_shape_Set_Rects at h
  refine pcalls_of (ordOf [(8, [0, 1, 3, 6, 8, 10, 11, 14, 2, 4, 5, 7, 9, 12, 13, 15, 16, 17, 18, 19])]) (fun _ => []) Try.func58 (by unfold Try.f58; rfl) (by kernel_rfl) (by kernel_rfl) ?_
  simp only [awp_seq]
  simp only [argSlots]
  dsimp only [Try.f58]
  try simp only [go_sem]
  obtain ⟨e0, h0, h⟩ := of_bind h
  refine cut_j ([(3, encL 4 encTRect e0), (2, AVal.nilsl)]) ({ nx := 0, rows := [] : Heap }) ?_ ?_
  ·
    try simp only [go_sem]
    refine loop_w h0 (fun (s : Int × List TRect) => [(9, AVal.int IntKind.i64 (Prod.fst s)), (8, AVal.int IntKind.i64 (↑(List.length a0) : Int)), (7, encL 3 encTShapeBand a0), (3, AVal.sref (0, 0) 0 4 (List.length (Prod.snd s))), (2, AVal.nilsl)]) (fun (s : Int × List TRect) => { nx := 1, rows := [(0, Ent.one { sz := 4, d := encTRect default, l := List.map encTRect (Prod.snd s) : Row })] : Heap }) ?_ ?_
    ·
      refine wk_of [(0, none)] rfl ?_ ?_
      ·
        try simp only [go_sem]
        exact ⟨.same _ trivial, ⟨.same _ trivial, ⟨.same _ trivial, ⟨wkv_nil (rn_none rfl) rfl, .same _ trivial⟩⟩⟩⟩
      ·
        try simp only [go_sem]
        exact wkR_nilT (rn_none rfl)
    intro n1 s1 o1 h1 he1 hi1
    try simp only [go_sem]
    refine cut_l ?_
    try simp only [go_sem]
    refine ways_d (fun c2 => ?_) (fun c2 => ?_)
    ·
      replace h1 := if_p c2 h1
      obtain ⟨e3, h3, h1⟩ := of_bind h1
      refine cut_j ([(9, AVal.int IntKind.i64 (Prod.fst s1)), (8, AVal.int IntKind.i64 (↑(List.length a0) : Int)), (7, encL 3 encTShapeBand a0), (3, AVal.sref (0, 0) 0 4 (List.length e3)), (2, AVal.nilsl)]) ({ nx := 1, rows := [(0, Ent.one { sz := 4, d := encTRect default, l := List.map encTRect e3 : Row })] : Heap }) ?_ ?_
      ·
        try simp only [go_sem]
        obtain ⟨g4, h3⟩ := of_guard h3
        refine ob ⟨by assumption, by assumption⟩ ?_
        refine cut_l ?_
        try simp only [go_sem]
        refine loop_w h3 (fun (s : Int × List TRect) => [(6, AVal.int IntKind.i64 (Prod.fst s)), (5, AVal.ptr (1, 0) 3 0 0), (9, AVal.int IntKind.i64 (Prod.fst s1)), (8, AVal.int IntKind.i64 (↑(List.length a0) : Int)), (7, encL 3 encTShapeBand a0), (3, AVal.sref (0, 0) 0 4 (List.length (Prod.snd s))), (2, AVal.nilsl)]) (fun (s : Int × List TRect) => { nx := 3, rows := [(1, Ent.one { sz := 3, d := agg [AVal.int IntKind.i64 0, AVal.int IntKind.i64 0, AVal.nilsl], l := [encTShapeBand (List.getD a0 (Int.toNat (Prod.fst s1)) default)] : Row }), (0, Ent.one { sz := 4, d := encTRect default, l := List.map encTRect (Prod.snd s) : Row })] : Heap }) ?_ ?_
        ·
          refine wk_of [(1, some 1), (0, some 0)] rfl ?_ ?_
          ·
            try simp only [go_sem]
            exact ⟨.same _ trivial, ⟨.ptr _ _ _ _ _ (rn_some rfl), ⟨.same _ trivial, ⟨.same _ trivial, ⟨.same _ trivial, ⟨wkv_sref (rn_some rfl) rfl, .same _ trivial⟩⟩⟩⟩⟩⟩
          ·
            try simp only [go_sem]
            exact ⟨wkR_box (rn_some rfl) rfl (wkE _), wkR_typed (rn_some rfl) rfl rfl⟩
        intro n5 s5 o5 h5 he5 hi5
        try simp only [go_sem]
        refine cut_l ?_
        try simp only [go_sem]
        refine ways_d (fun c6 => ?_) (fun c6 => ?_)
        ·
          replace h5 := if_p c6 h5
          refine cut_l ?_
          try simp only [go_sem]
          obtain ⟨⟨g7_0, g7_1⟩, h5⟩ := of_guard h5
          simp only [W64 g7_0 g7_1]
          obtain ⟨⟨g8_0, g8_1, g8_2, g8_3⟩, h5⟩ := of_guard h5
          refine ob ⟨⟨⟨by assumption, by assumption⟩, ⟨by assumption, by assumption⟩⟩, ⟨by omega, by assumption⟩⟩ ?_
          obtain ⟨⟨g9_0, g9_1⟩, h5⟩ := of_guard h5
          simp only [W64 g9_0 g9_1]
          obtain rfl := Option.some.inj h5
          refine nextL (hi5 _ rfl) ?_
          refine wk_of [(1, some 1), (0, some 41)] rfl ?_ ?_
          ·
            try simp only [go_sem]
            exact ⟨.same _ trivial, ⟨.ptr _ _ _ _ _ (rn_some rfl), ⟨.same _ trivial, ⟨.same _ trivial, ⟨.same _ trivial, ⟨wkv_sref (rn_some rfl) rfl, .same _ trivial⟩⟩⟩⟩⟩⟩
          ·
            try simp only [go_sem]
            exact ⟨wkR_box (rn_some rfl) rfl (wkE _), wkR_typed (rn_some rfl) rfl rfl⟩
        ·
          replace h5 := if_n c6 h5
          obtain rfl := Option.some.inj h5
          obtain rfl := he5 _ rfl
          refine wk_of [(0, some 0)] rfl ?_ ?_
          ·
            try simp only [go_sem]
            exact ⟨.same _ trivial, ⟨.same _ trivial, ⟨.same _ trivial, ⟨wkv_sref (rn_some rfl) rfl, .same _ trivial⟩⟩⟩⟩
          ·
            try simp only [go_sem]
            exact wkR_typed (rn_some rfl) rfl rfl
      try simp only [go_sem]
      obtain ⟨⟨g10_0, g10_1⟩, h1⟩ := of_guard h1
      simp only [W64 g10_0 g10_1]
      obtain rfl := Option.some.inj h1
      refine nextL (hi1 _ rfl) ?_
      refine wk_of [(0, some 0)] rfl ?_ ?_
      ·
        try simp only [go_sem]
        exact ⟨.same _ trivial, ⟨.same _ trivial, ⟨.same _ trivial, ⟨wkv_sref (rn_some rfl) rfl, .same _ trivial⟩⟩⟩⟩
      ·
        try simp only [go_sem]
        exact wkR_typed (rn_some rfl) rfl rfl
    ·
      replace h1 := if_n c2 h1
      obtain rfl := Option.some.inj h1
      obtain rfl := he1 _ rfl
      refine wk_of [] rfl ?_ ?_
      ·
        try simp only [go_sem]
        exact ⟨wkv_own rfl (rn_notTo rfl) rfl, .same _ trivial⟩
      ·
        try simp only [go_sem]
  try simp only [go_sem]
  obtain rfl := Option.some.inj h
  exact .same _ trivial
theorem c_shape_between {a0 : Int} {a1 : Int} {a2 : Int} {a3 : Int} {r : Int} (h : p_shape_between a0 a1 a2 a3 = some r)  : PCalls Try.prog 125 [.int .i64 a0, .int .i64 a1, .int .i64 a2, .int .i64 a3] (.int .i64 r) := by
  unfold p_shape_between at h
  refine pcalls_of (fun _ => none) (fun _ => []) Try.func125 (by unfold Try.f125; rfl) (by kernel_rfl) (by kernel_rfl) ?_
  simp only [awp_seq]
  simp only [argSlots]
  dsimp only [Try.f125]
  try simp only [go_sem]
  obtain ⟨⟨g0_0, g0_1⟩, h⟩ := of_guard h
  simp only [W64 g0_0 g0_1]
  obtain ⟨⟨g1_0, g1_1⟩, h⟩ := of_guard h
  simp only [W64 g1_0 g1_1]
  obtain ⟨⟨g2_0, g2_1⟩, h⟩ := of_guard h
  simp only [W64 g2_0 g2_1]
  obtain ⟨⟨g3_0, g3_1⟩, h⟩ := of_guard h
  simp only [W64 g3_0 g3_1]
  obtain rfl := Option.some.inj h
  exact .same _ trivial
theorem c_shape_less {a0 : TPoint} {a1 : TPoint} {r : Bool} (h : p_shape_less a0 a1 = some r)  : PCalls Try.prog 107 [encTPoint a0, encTPoint a1] (.bool r) := by
  unfold p_shape_less at h
  refine pcalls_of (fun _ => none) (fun _ => []) Try.func107 (by unfold Try.f107; rfl) (by kernel_rfl) (by kernel_rfl) ?_
  simp only [awp_seq]
  simp only [argSlots]
  dsimp only [Try.f107]
  try simp only [go_sem]
  refine ob ⟨by intro h1 h2; simp only [h1, h2, Bool.and_self, Bool.not_true, Bool.not_false, Bool.and_true, Bool.true_and], by simp⟩ ?_
  obtain rfl := Option.some.inj h
  exact .same _ trivial
theorem c_shape_near {a0 : TRect} {a1 : TRect} {a2 : Int} {r : TPoint} (h : p_shape_near a0 a1 a2 = some r)  : PCalls Try.prog 106 [encTRect a0, encTRect a1, .int .i64 a2] (encTPoint r) := by
  unfold p_shape_near at h
  refine pcalls_of (fun _ => none) (fun _ => []) Try.func106 (by unfold Try.f106; rfl) (by kernel_rfl) (by kernel_rfl) ?_
  simp only [awp_seq]
  simp only [argSlots]
  dsimp only [Try.f106]
  try simp only [go_sem]
  obtain ⟨⟨g0_0, g0_1⟩, h⟩ := of_guard h
  simp only [W64 g0_0 g0_1]
  obtain ⟨⟨g1_0, g1_1⟩, h⟩ := of_guard h
  simp only [W64 g1_0 g1_1]
  obtain rfl := Option.some.inj h
  exact wkE _
theorem c_shape_stretches_1 {a0 : TRect} {a1 : TRect} {r : Int} (h : p_shape_stretches_1 a0 a1 = some r)  : PCalls Try.prog 121 [encTRect a0, encTRect a1] (.int .i64 r) := by
  unfold p_shape_stretches_1 at h
  refine pcalls_of (fun _ => none) (fun _ => []) Try.func121 (by unfold Try.f121; rfl) (by kernel_rfl) (by kernel_rfl) ?_
  simp only [awp_seq]
  simp only [argSlots]
  dsimp only [Try.f121]
  try simp only [go_sem]
  obtain ⟨⟨g0_0, g0_1⟩, h⟩ := of_guard h
  simp only [W64 g0_0 g0_1]
  obtain rfl := Option.some.inj h
  exact .same _ trivial
theorem c_shape_within {a0 : Int} {a1 : Int} {a2 : Int} {r : Bool} (h : p_shape_within a0 a1 a2 = some r)  : PCalls Try.prog 69 [.int .i64 a0, .int .i64 a1, .int .i64 a2] (.bool r) := by
  unfold p_shape_within at h
  refine pcalls_of (fun _ => none) (fun _ => []) Try.func69 (by unfold Try.f69; rfl) (by kernel_rfl) (by kernel_rfl) ?_
  simp only [awp_seq]
  simp only [argSlots]
  dsimp only [Try.f69]
  try simp only [go_sem]
  obtain rfl := Option.some.inj h
  exact .same _ trivial
theorem c_slices_Clone_Rect_o {a0 : (List TRect)} {r : (List TRect)} (h : p_slices_Clone_Rect_o a0 = some r)  : MCalls Try.prog 22 [encL 4 encTRect a0] ⟨0, []⟩ (.sref (0, 0) 0 4 (List.length (r))) ⟨1, [(0, .one ⟨4, encTRect {}, (r).map encTRect⟩)]⟩ := by
  unfold p_slices_Clone_Rect_o at h
  refine acalls_of (fun _ => none) (fun _ => []) Try.func22 (by unfold Try.f22; rfl) (by kernel_rfl) (by kernel_rfl) ?_
  simp only [awp_seq]
  simp only [argSlots]
  dsimp only [Try.f22]
  try simp only [go_sem]
  refine cut_l ?_
  try simp only [go_sem]
  by_cases c0 : List.length a0 = 0
  ·
    replace h := if_p c0 h
    obtain ⟨u0, ha0, h⟩ := of_bind h
    obtain ⟨w0, hb0, h⟩ := of_bind h
    obtain ⟨hu0, h⟩ := of_guard h
    obtain rfl := (Option.some.inj h).symm
    rw [← hu0] at hb0
    simp only [if_pos c0, go_sem]
    refine ⟨?_, ?_⟩
    ·
      refine ret_o ?_
      try simp only [go_sem]
      obtain rfl := Option.some.inj ha0
      refine wkm [(0, none)] rfl ?_ ?_
      ·
        try simp only [go_sem]
        exact wkv_nil (rn_none rfl) rfl
      ·
        try simp only [go_sem]
        exact wkR_nilT (rn_none rfl)
    ·
      refine ob (by omega) ?_
      refine ret_o ?_
      try simp only [go_sem]
      obtain rfl := Option.some.inj hb0
      refine wkm [(0, some 1)] rfl ?_ ?_
      ·
        exact wkv_sref (rn_some rfl) rfl
      ·
        try simp only [go_sem]
        exact wkR_typed (rn_some rfl) rfl rfl
  ·
    replace h := if_n c0 h
    simp only [if_neg c0, go_sem]
    obtain ⟨g1, h⟩ := of_guard h
    refine ob (by assumption) ?_
    refine ret_o ?_
    try simp only [go_sem]
    obtain rfl := Option.some.inj h
    refine wkm [(0, some 1)] rfl ?_ ?_
    ·
      exact wkv_sref (rn_some rfl) rfl
    ·
      try simp only [go_sem]
      exact wkR_typed (rn_some rfl) rfl rfl
theorem c_slices_Compact_int_o {a0 : (List Int)} {r : (List Int)} (h : p_slices_Compact_int_o a0 = some r)  : MCalls Try.prog 90 [.sref (0, 0) 0 1 (List.length a0)] ⟨1, [(0, .one ⟨1, .int .i64 0, a0.map encI⟩)]⟩ (.sref (1, 0) 0 1 (List.length (r))) ⟨2, [(1, .one ⟨1, .int .i64 0, (r).map encI⟩)]⟩ := by
  unfold p_slices_Compact_int_o at h
  refine acalls_of (ordOf [(6, [0, 1, 2, 4, 5, 6, 7, 3, 8, 9]), (11, [0, 1, 2, 4, 5, 6, 7, 3, 8, 9])]) (fun _ => []) Try.func90 (by unfold Try.f90; rfl) (by kernel_rfl) (by kernel_rfl) ?_
  simp only [awp_seq]
  simp only [argSlots]
  dsimp only [Try.f90]
  try simp only [go_sem]
  refine cut_l ?_
  try simp only [go_sem]
  refine ways_d (fun c0 => ?_) (fun c0 => ?_)
  ·
    replace h := if_p c0 h
    refine ret_o ?_
    try simp only [go_sem]
    obtain rfl := Option.some.inj h
    refine wkm [(0, some 0), (1, some 0)] rfl ?_ ?_
    ·
      exact wkv_sref (rn_some rfl) rfl
    ·
      try simp only [go_sem]
      exact wkR_typed (rn_some rfl) rfl rfl
  ·
    replace h := if_n c0 h
    obtain ⟨z1, h1, h⟩ := of_bind h
    refine cut_z z1 (fun (s : List Int × List Int) => [(2, encL 1 encI (Prod.fst s)), (0, AVal.sref (0, 0) 0 1 (List.length a0))]) (fun (s : List Int × List Int) => { nx := 1, rows := [(0, Ent.one { sz := 1, d := AVal.int IntKind.i64 0, l := List.map encI (Prod.snd s) : Row })] : Heap }) ?_ (fun e1 hz1 => ?_)
    ·
      try simp only [go_sem]
      refine loop_w h1 (fun (s : Int × List Int × List Int) => [(3, AVal.int IntKind.i64 (Prod.fst s)), (2, encL 1 encI (Prod.fst (Prod.snd s))), (0, AVal.sref (0, 0) 0 1 (List.length a0))]) (fun (s : Int × List Int × List Int) => { nx := 1, rows := [(0, Ent.one { sz := 1, d := AVal.int IntKind.i64 0, l := List.map encI (Prod.snd (Prod.snd s)) : Row })] : Heap }) ?_ ?_
      ·
        refine wk_of [(0, some 0)] rfl ?_ ?_
        ·
          try simp only [go_sem]
          exact ⟨.same _ trivial, ⟨wkv_nilL, wkv_sref (rn_some rfl) rfl⟩⟩
        ·
          try simp only [go_sem]
          exact wkR_typed (rn_some rfl) rfl rfl
      intro n2 s2 o2 h2 he2 hi2
      try simp only [go_sem]
      refine cut_l ?_
      try simp only [go_sem]
      refine ways_d (fun c3 => ?_) (fun c3 => ?_)
      ·
        replace h2 := if_p c3 h2
        obtain ⟨z4, h4, h2⟩ := of_bind h2
        refine cut_z z4 (fun (s : Int × List Int × List Int) => [(3, AVal.int IntKind.i64 (Prod.fst s)), (2, encL 1 encI (Prod.fst (Prod.snd s))), (0, AVal.sref (0, 0) 0 1 (List.length a0))]) (fun (s : Int × List Int × List Int) => { nx := 1, rows := [(0, Ent.one { sz := 1, d := AVal.int IntKind.i64 0, l := List.map encI (Prod.snd (Prod.snd s)) : Row })] : Heap }) ?_ (fun e4 hz4 => ?_)
        ·
          try simp only [go_sem]
          obtain ⟨⟨g5_0, g5_1⟩, h4⟩ := of_guard h4
          simp only [W64 g5_0 g5_1]
          obtain ⟨⟨g6_0, g6_1, g6_2, g6_3⟩, h4⟩ := of_guard h4
          refine ob ⟨⟨⟨⟨by assumption, by assumption⟩, ⟨by assumption, by omega⟩⟩, by assumption⟩, by assumption⟩ ?_
          refine cut_l ?_
          try simp only [go_sem]
          refine ways_d (fun c7 => ?_) (fun c7 => ?_)
          ·
            replace h4 := if_p c7 h4
            refine ob ⟨by assumption, by omega⟩ ?_
            obtain ⟨e8, h8, h4⟩ := of_bind h4
            refine cut_j ([(3, AVal.int IntKind.i64 (Prod.fst e8)), (2, encL 1 encI (Prod.fst (Prod.snd s2))), (0, AVal.sref (0, 0) 0 1 (List.length a0))]) ({ nx := 10001, rows := [(0, Ent.one { sz := 1, d := AVal.int IntKind.i64 0, l := List.map encI (Prod.snd e8) : Row })] : Heap }) ?_ ?_
            ·
              try simp only [go_sem]
              refine loop_w h8 (fun (s : Int × Int × List Int) => [(5, AVal.int IntKind.i64 (Prod.fst s)), (4, AVal.sref (0, 0) (Int.toNat (Prod.fst s2)) 1 (List.length a0 - Int.toNat (Prod.fst s2))), (3, AVal.int IntKind.i64 (Prod.fst (Prod.snd s))), (2, encL 1 encI (Prod.fst (Prod.snd s2))), (0, AVal.sref (0, 0) 0 1 (List.length a0))]) (fun (s : Int × Int × List Int) => { nx := 10001, rows := [(0, Ent.one { sz := 1, d := AVal.int IntKind.i64 0, l := List.map encI (Prod.snd (Prod.snd s)) : Row })] : Heap }) ?_ ?_
              ·
                refine wk_of [(0, some 0)] rfl ?_ ?_
                ·
                  try simp only [go_sem]
                  exact ⟨.same _ trivial, ⟨wkv_sref (rn_some rfl) rfl, ⟨.same _ trivial, ⟨.same _ trivial, wkv_sref (rn_some rfl) rfl⟩⟩⟩⟩
                ·
                  try simp only [go_sem]
                  exact wkR_typed (rn_some rfl) rfl rfl
              intro n9 s9 o9 h9 he9 hi9
              try simp only [go_sem]
              refine cut_l ?_
              try simp only [go_sem]
              refine ways_d (fun c10 => ?_) (fun c10 => ?_)
              ·
                replace h9 := if_p c10 h9
                obtain ⟨e11, h11, h9⟩ := of_bind h9
                refine cut_j ([(5, AVal.int IntKind.i64 (Prod.fst s9)), (4, AVal.sref (0, 0) (Int.toNat (Prod.fst s2)) 1 (List.length a0 - Int.toNat (Prod.fst s2))), (3, AVal.int IntKind.i64 (Prod.fst e11)), (2, encL 1 encI (Prod.fst (Prod.snd s2))), (0, AVal.sref (0, 0) 0 1 (List.length a0))]) ({ nx := 10001, rows := [(0, Ent.one { sz := 1, d := AVal.int IntKind.i64 0, l := List.map encI (Prod.snd e11) : Row })] : Heap }) ?_ ?_
                ·
                  try simp only [go_sem]
                  obtain ⟨⟨g12_0, g12_1⟩, h11⟩ := of_guard h11
                  simp only [W64 g12_0 g12_1]
                  obtain ⟨⟨g13_0, g13_1, g13_2, g13_3⟩, h11⟩ := of_guard h11
                  refine ob ⟨⟨⟨⟨by assumption, by assumption⟩, ⟨by assumption, by omega⟩⟩, by assumption⟩, by assumption⟩ ?_
                  refine cut_l ?_
                  try simp only [go_sem]
                  refine ways_n (fun c14 => ?_) (fun c14 => ?_)
                  ·
                    replace h11 := if_n c14 h11
                    obtain ⟨⟨g15_0, g15_1, g15_2⟩, h11⟩ := of_guard h11
                    refine ob ⟨⟨⟨⟨by assumption, by assumption⟩, by assumption⟩, ⟨by assumption, by assumption⟩⟩, by assumption⟩ ?_
                    obtain ⟨⟨g16_0, g16_1⟩, h11⟩ := of_guard h11
                    simp only [W64 g16_0 g16_1]
                    obtain rfl := Option.some.inj h11
                    refine wk_of [(0, some 0)] rfl ?_ ?_
                    ·
                      try simp only [go_sem]
                      exact ⟨.same _ trivial, ⟨wkv_sref (rn_some rfl) rfl, ⟨.same _ trivial, ⟨.same _ trivial, wkv_sref (rn_some rfl) rfl⟩⟩⟩⟩
                    ·
                      try simp only [go_sem]
                      exact wkR_typed (rn_some rfl) rfl rfl
                  ·
                    replace h11 := if_p c14 h11
                    obtain rfl := Option.some.inj h11
                    refine wk_of [(0, some 0)] rfl ?_ ?_
                    ·
                      try simp only [go_sem]
                      exact ⟨.same _ trivial, ⟨wkv_sref (rn_some rfl) rfl, ⟨.same _ trivial, ⟨.same _ trivial, wkv_sref (rn_some rfl) rfl⟩⟩⟩⟩
                    ·
                      try simp only [go_sem]
                      exact wkR_typed (rn_some rfl) rfl rfl
                try simp only [go_sem]
                obtain ⟨⟨g17_0, g17_1⟩, h9⟩ := of_guard h9
                simp only [W64 g17_0 g17_1]
                obtain rfl := Option.some.inj h9
                refine nextL (hi9 _ rfl) ?_
                refine wk_of [(0, some 0)] rfl ?_ ?_
                ·
                  try simp only [go_sem]
                  exact ⟨.same _ trivial, ⟨wkv_sref (rn_some rfl) rfl, ⟨.same _ trivial, ⟨.same _ trivial, wkv_sref (rn_some rfl) rfl⟩⟩⟩⟩
                ·
                  try simp only [go_sem]
                  exact wkR_typed (rn_some rfl) rfl rfl
              ·
                replace h9 := if_n c10 h9
                obtain rfl := Option.some.inj h9
                obtain rfl := he9 _ rfl
                refine wk_of [(0, some 0)] rfl ?_ ?_
                ·
                  try simp only [go_sem]
                  exact ⟨.same _ trivial, ⟨.same _ trivial, wkv_sref (rn_some rfl) rfl⟩⟩
                ·
                  try simp only [go_sem]
                  exact wkR_typed (rn_some rfl) rfl rfl
            try simp only [go_sem]
            obtain ⟨⟨g18_0, g18_1, g18_2⟩, h4⟩ := of_guard h4
            refine ob ⟨⟨by assumption, by assumption⟩, by assumption⟩ ?_
            refine ob ⟨by assumption, by assumption⟩ ?_
            refine ret_o ?_
            try simp only [go_sem]
            obtain ⟨g19, h4⟩ := of_guard h4
            obtain rfl := Option.some.inj h4
            obtain rfl := Option.some.inj h2
            obtain rfl := he2 _ rfl
            obtain rfl := Option.some.inj h
            refine wkm [(0, some 0), (1, some 0)] rfl ?_ ?_
            ·
              exact wkv_sref (rn_some rfl) (by rw [List.length_take]; omega)
            ·
              try simp only [go_sem]
              exact wkR_take (rn_some rfl) rfl rfl
          ·
            replace h4 := if_n c7 h4
            obtain rfl := Option.some.inj h4
            refine zend ?_
            refine wk_of [(0, some 0)] rfl ?_ ?_
            ·
              try simp only [go_sem]
              exact ⟨.same _ trivial, ⟨.same _ trivial, wkv_sref (rn_some rfl) rfl⟩⟩
            ·
              try simp only [go_sem]
              exact wkR_typed (rn_some rfl) rfl rfl
        subst hz4
        simp only [Sum.elim_inr] at h2
        try simp only [go_sem]
        obtain ⟨⟨g20_0, g20_1⟩, h2⟩ := of_guard h2
        simp only [W64 g20_0 g20_1]
        obtain rfl := Option.some.inj h2
        refine nextL (hi2 _ rfl) ?_
        refine wk_of [(0, some 0)] rfl ?_ ?_
        ·
          try simp only [go_sem]
          exact ⟨.same _ trivial, ⟨.same _ trivial, wkv_sref (rn_some rfl) rfl⟩⟩
        ·
          try simp only [go_sem]
          exact wkR_typed (rn_some rfl) rfl rfl
      ·
        replace h2 := if_n c3 h2
        obtain rfl := Option.some.inj h2
        obtain rfl := he2 _ rfl
        refine zend ?_
        refine wk_of [(0, some 0)] rfl ?_ ?_
        ·
          try simp only [go_sem]
          exact ⟨.same _ trivial, wkv_sref (rn_some rfl) rfl⟩
        ·
          try simp only [go_sem]
          exact wkR_typed (rn_some rfl) rfl rfl
    subst hz1
    simp only [Sum.elim_inr] at h
    try simp only [go_sem]
    refine ret_o ?_
    try simp only [go_sem]
    obtain ⟨g21, h⟩ := of_guard h
    obtain rfl := Option.some.inj h
    refine wkm [(0, some 0), (1, some 0)] rfl ?_ ?_
    ·
      exact wkv_sref (rn_some rfl) (by rw [List.length_take]; omega)
    ·
      try simp only [go_sem]
      exact wkR_take (rn_some rfl) rfl rfl
theorem c_slices_Equal_Gap {a0 : (List TGap)} {a1 : (List TGap)} {r : Bool} (h : p_slices_Equal_Gap a0 a1 = some r)  : PCalls Try.prog 40 [encL 7 encTGap a0, encL 7 encTGap a1] (.bool r) := by
  unfold p_slices_Equal_Gap at h
  refine pcalls_of (ordOf [(6, [0, 1, 2, 4, 5, 6, 3, 7, 8])]) (fun _ => []) Try.func40 (by unfold Try.f40; rfl) (by kernel_rfl) (by kernel_rfl) ?_
  simp only [awp_seq]
  simp only [argSlots]
  dsimp only [Try.f40]
  try simp only [go_sem]
  refine cut_l ?_
  try simp only [go_sem]
  refine ways_n (fun c0 => ?_) (fun c0 => ?_)
  ·
    replace h := if_n c0 h
    obtain rfl := Option.some.inj h
    exact .same _ trivial
  ·
    replace h := if_p c0 h
    obtain ⟨z1, h1, h⟩ := of_bind h
    refine cut_z z1 (fun (s : Bool) => [(4, AVal.bool s)]) (fun (s : Bool) => { nx := 0, rows := [] : Heap }) ?_ (fun e1 hz1 => ?_)
    ·
      try simp only [go_sem]
      refine loop_w h1 (fun (s : Int × Bool) => [(13, AVal.int IntKind.i64 (Prod.fst s)), (12, AVal.int IntKind.i64 (↑(List.length a0) : Int)), (4, AVal.bool (Prod.snd s)), (0, encL 7 encTGap a0), (1, encL 7 encTGap a1)]) (fun (s : Int × Bool) => { nx := 0, rows := [] : Heap }) ?_ ?_
      ·
        refine wk_of [] rfl ?_ ?_
        ·
          try simp only [go_sem]
          exact ⟨.same _ trivial, ⟨.same _ trivial, ⟨.same _ trivial, ⟨.same _ trivial, .same _ trivial⟩⟩⟩⟩
        ·
          try simp only [go_sem]
      intro n2 s2 o2 h2 he2 hi2
      try simp only [go_sem]
      refine cut_l ?_
      try simp only [go_sem]
      refine ways_d (fun c3 => ?_) (fun c3 => ?_)
      ·
        replace h2 := if_p c3 h2
        refine cut_l ?_
        try simp only [go_sem]
        obtain ⟨⟨g4_0, g4_1⟩, h2⟩ := of_guard h2
        refine ob ⟨⟨by assumption, by assumption⟩, ⟨by assumption, by omega⟩⟩ ?_
        refine cut_l ?_
        try simp only [go_sem]
        refine ways_n (fun c5 => ?_) (fun c5 => ?_)
        ·
          replace h2 := if_n c5 h2
          obtain rfl := Option.some.inj h2
          obtain rfl := he2 _ rfl
          obtain rfl := Option.some.inj h
          exact .same _ trivial
        ·
          replace h2 := if_p c5 h2
          obtain ⟨⟨g6_0, g6_1⟩, h2⟩ := of_guard h2
          simp only [W64 g6_0 g6_1]
          obtain rfl := Option.some.inj h2
          refine nextL (hi2 _ rfl) ?_
          refine wk_of [] rfl ?_ ?_
          ·
            try simp only [go_sem]
            exact ⟨.same _ trivial, ⟨.same _ trivial, ⟨.same _ trivial, ⟨.same _ trivial, .same _ trivial⟩⟩⟩⟩
          ·
            try simp only [go_sem]
      ·
        replace h2 := if_n c3 h2
        obtain rfl := Option.some.inj h2
        obtain rfl := he2 _ rfl
        refine zend ?_
        refine wk_of [] rfl ?_ ?_
        ·
          try simp only [go_sem]
          exact .same _ trivial
        ·
          try simp only [go_sem]
    subst hz1
    simp only [Sum.elim_inr] at h
    try simp only [go_sem]
    obtain rfl := Option.some.inj h
    exact .same _ trivial
theorem c_slices_Equal_Rect {a0 : (List TRect)} {a1 : (List TRect)} {r : Bool} (h : p_slices_Equal_Rect a0 a1 = some r)  : PCalls Try.prog 20 [encL 4 encTRect a0, encL 4 encTRect a1] (.bool r) := by
  unfold p_slices_Equal_Rect at h
  refine pcalls_of (ordOf [(6, [0, 1, 2, 4, 5, 6, 3, 7, 8])]) (fun _ => []) Try.func20 (by unfold Try.f20; rfl) (by kernel_rfl) (by kernel_rfl) ?_
  simp only [awp_seq]
  simp only [argSlots]
  dsimp only [Try.f20]
  try simp only [go_sem]
  refine cut_l ?_
  try simp only [go_sem]
  refine ways_n (fun c0 => ?_) (fun c0 => ?_)
  ·
    replace h := if_n c0 h
    obtain rfl := Option.some.inj h
    exact .same _ trivial
  ·
    replace h := if_p c0 h
    obtain ⟨z1, h1, h⟩ := of_bind h
    refine cut_z z1 (fun (s : Bool) => [(4, AVal.bool s)]) (fun (s : Bool) => { nx := 0, rows := [] : Heap }) ?_ (fun e1 hz1 => ?_)
    ·
      try simp only [go_sem]
      refine loop_w h1 (fun (s : Int × Bool) => [(13, AVal.int IntKind.i64 (Prod.fst s)), (12, AVal.int IntKind.i64 (↑(List.length a0) : Int)), (4, AVal.bool (Prod.snd s)), (0, encL 4 encTRect a0), (1, encL 4 encTRect a1)]) (fun (s : Int × Bool) => { nx := 0, rows := [] : Heap }) ?_ ?_
      ·
        refine wk_of [] rfl ?_ ?_
        ·
          try simp only [go_sem]
          exact ⟨.same _ trivial, ⟨.same _ trivial, ⟨.same _ trivial, ⟨.same _ trivial, .same _ trivial⟩⟩⟩⟩
        ·
          try simp only [go_sem]
      intro n2 s2 o2 h2 he2 hi2
      try simp only [go_sem]
      refine cut_l ?_
      try simp only [go_sem]
      refine ways_d (fun c3 => ?_) (fun c3 => ?_)
      ·
        replace h2 := if_p c3 h2
        refine cut_l ?_
        try simp only [go_sem]
        obtain ⟨⟨g4_0, g4_1⟩, h2⟩ := of_guard h2
        refine ob ⟨⟨by assumption, by assumption⟩, ⟨by assumption, by omega⟩⟩ ?_
        refine cut_l ?_
        try simp only [go_sem]
        refine ways_n (fun c5 => ?_) (fun c5 => ?_)
        ·
          replace h2 := if_n c5 h2
          obtain rfl := Option.some.inj h2
          obtain rfl := he2 _ rfl
          obtain rfl := Option.some.inj h
          exact .same _ trivial
        ·
          replace h2 := if_p c5 h2
          obtain ⟨⟨g6_0, g6_1⟩, h2⟩ := of_guard h2
          simp only [W64 g6_0 g6_1]
          obtain rfl := Option.some.inj h2
          refine nextL (hi2 _ rfl) ?_
          refine wk_of [] rfl ?_ ?_
          ·
            try simp only [go_sem]
            exact ⟨.same _ trivial, ⟨.same _ trivial, ⟨.same _ trivial, ⟨.same _ trivial, .same _ trivial⟩⟩⟩⟩
          ·
            try simp only [go_sem]
      ·
        replace h2 := if_n c3 h2
        obtain rfl := Option.some.inj h2
        obtain rfl := he2 _ rfl
        refine zend ?_
        refine wk_of [] rfl ?_ ?_
        ·
          try simp only [go_sem]
          exact .same _ trivial
        ·
          try simp only [go_sem]
    subst hz1
    simp only [Sum.elim_inr] at h
    try simp only [go_sem]
    obtain rfl := Option.some.inj h
    exact .same _ trivial
theorem c_slices_Equal_int {a0 : (List Int)} {a1 : (List Int)} {r : Bool} (h : p_slices_Equal_int a0 a1 = some r)  : PCalls Try.prog 120 [encL 1 encI a0, encL 1 encI a1] (.bool r) := by
  unfold p_slices_Equal_int at h
  refine pcalls_of (ordOf [(6, [0, 1, 2, 4, 5, 6, 3, 7, 8])]) (fun _ => []) Try.func120 (by unfold Try.f120; rfl) (by kernel_rfl) (by kernel_rfl) ?_
  simp only [awp_seq]
  simp only [argSlots]
  dsimp only [Try.f120]
  try simp only [go_sem]
  refine cut_l ?_
  try simp only [go_sem]
  refine ways_n (fun c0 => ?_) (fun c0 => ?_)
  ·
    replace h := if_n c0 h
    obtain rfl := Option.some.inj h
    exact .same _ trivial
  ·
    replace h := if_p c0 h
    obtain ⟨z1, h1, h⟩ := of_bind h
    refine cut_z z1 (fun (s : Bool) => [(4, AVal.bool s)]) (fun (s : Bool) => { nx := 0, rows := [] : Heap }) ?_ (fun e1 hz1 => ?_)
    ·
      try simp only [go_sem]
      refine loop_w h1 (fun (s : Int × Bool) => [(13, AVal.int IntKind.i64 (Prod.fst s)), (12, AVal.int IntKind.i64 (↑(List.length a0) : Int)), (4, AVal.bool (Prod.snd s)), (0, encL 1 encI a0), (1, encL 1 encI a1)]) (fun (s : Int × Bool) => { nx := 0, rows := [] : Heap }) ?_ ?_
      ·
        refine wk_of [] rfl ?_ ?_
        ·
          try simp only [go_sem]
          exact ⟨.same _ trivial, ⟨.same _ trivial, ⟨.same _ trivial, ⟨.same _ trivial, .same _ trivial⟩⟩⟩⟩
        ·
          try simp only [go_sem]
      intro n2 s2 o2 h2 he2 hi2
      try simp only [go_sem]
      refine cut_l ?_
      try simp only [go_sem]
      refine ways_d (fun c3 => ?_) (fun c3 => ?_)
      ·
        replace h2 := if_p c3 h2
        refine cut_l ?_
        try simp only [go_sem]
        obtain ⟨⟨g4_0, g4_1⟩, h2⟩ := of_guard h2
        refine ob ⟨⟨by assumption, by assumption⟩, ⟨by assumption, by omega⟩⟩ ?_
        refine cut_l ?_
        try simp only [go_sem]
        refine ways_n (fun c5 => ?_) (fun c5 => ?_)
        ·
          replace h2 := if_n c5 h2
          obtain rfl := Option.some.inj h2
          obtain rfl := he2 _ rfl
          obtain rfl := Option.some.inj h
          exact .same _ trivial
        ·
          replace h2 := if_p c5 h2
          obtain ⟨⟨g6_0, g6_1⟩, h2⟩ := of_guard h2
          simp only [W64 g6_0 g6_1]
          obtain rfl := Option.some.inj h2
          refine nextL (hi2 _ rfl) ?_
          refine wk_of [] rfl ?_ ?_
          ·
            try simp only [go_sem]
            exact ⟨.same _ trivial, ⟨.same _ trivial, ⟨.same _ trivial, ⟨.same _ trivial, .same _ trivial⟩⟩⟩⟩
          ·
            try simp only [go_sem]
      ·
        replace h2 := if_n c3 h2
        obtain rfl := Option.some.inj h2
        obtain rfl := he2 _ rfl
        refine zend ?_
        refine wk_of [] rfl ?_ ?_
        ·
          try simp only [go_sem]
          exact .same _ trivial
        ·
          try simp only [go_sem]
    subst hz1
    simp only [Sum.elim_inr] at h
    try simp only [go_sem]
    obtain rfl := Option.some.inj h
    exact .same _ trivial
theorem c_slices_IndexFunc_Rect {a0 : (List TRect)} {f1 : (TRect → Option (Bool))} {r : Int} (h : p_slices_IndexFunc_Rect a0 f1 = some r) {g1 : Nat} {k1 : List AVal} (hk1 : nmL k1) (hf1 : ∀ (x0 : TRect) (y : Bool), f1 x0 = some y → PCalls Try.prog g1 (encTRect x0 :: k1) (.bool y)) : PCalls Try.prog 119 [encL 4 encTRect a0, fn g1 k1] (.int .i64 r) := by
  unfold p_slices_IndexFunc_Rect at h
  refine pcalls_of (fun _ => none) (fun _ => []) Try.func119 (by unfold Try.f119; rfl) (by kernel_rfl) (by kernel_rfl) ?_
  simp only [awp_seq]
  simp only [argSlots]
  dsimp only [Try.f119]
  try simp only [go_sem]
  obtain ⟨z0, h0, h⟩ := of_bind h
  refine cut_z z0 (fun (s : Int) => [(4, AVal.int IntKind.i64 s)]) (fun (s : Int) => { nx := 0, rows := [] : Heap }) ?_ (fun e0 hz0 => ?_)
  ·
    try simp only [go_sem]
    refine loop_w h0 (fun (s : Int × Int) => [(8, AVal.int IntKind.i64 (Prod.fst s)), (7, AVal.int IntKind.i64 (↑(List.length a0) : Int)), (4, AVal.int IntKind.i64 (Prod.snd s)), (0, encL 4 encTRect a0), (1, fn g1 k1)]) (fun (s : Int × Int) => { nx := 0, rows := [] : Heap }) ?_ ?_
    ·
      refine wk_of [] rfl ?_ ?_
      ·
        try simp only [go_sem]
        exact ⟨.same _ trivial, ⟨.same _ trivial, ⟨.same _ trivial, ⟨.same _ trivial, .same _ (by simp only [go_sem]; assumption)⟩⟩⟩⟩
      ·
        try simp only [go_sem]
    intro n1 s1 o1 h1 he1 hi1
    try simp only [go_sem]
    refine cut_l ?_
    try simp only [go_sem]
    refine ways_d (fun c2 => ?_) (fun c2 => ?_)
    ·
      replace h1 := if_p c2 h1
      refine cut_l ?_
      try simp only [go_sem]
      obtain ⟨g3, h1⟩ := of_guard h1
      refine ob ⟨by assumption, by assumption⟩ ?_
      obtain ⟨x4, hx4, h1⟩ := of_bind h1
      refine call_p false (hf1 _ _ hx4) ⟨wkE _, lend_self hk1⟩ nofun ?_
      refine cut_l ?_
      try simp only [go_sem]
      refine ways (fun c5 => ?_) (fun c5 => ?_)
      ·
        replace h1 := if_t c5 h1
        try simp only [Bool.and_eq_true, Bool.or_eq_true, Bool.not_eq_true', Bool.not_eq_false', Bool.and_eq_false_imp, Bool.or_eq_false_iff, decide_eq_true_eq, decide_eq_false_iff_not] at c5
        obtain rfl := Option.some.inj h1
        obtain rfl := he1 _ rfl
        obtain rfl := Option.some.inj h
        exact .same _ trivial
      ·
        replace h1 := if_f c5 h1
        try simp only [Bool.and_eq_true, Bool.or_eq_true, Bool.not_eq_true', Bool.not_eq_false', Bool.and_eq_false_imp, Bool.or_eq_false_iff, decide_eq_true_eq, decide_eq_false_iff_not] at c5
        obtain ⟨⟨g6_0, g6_1⟩, h1⟩ := of_guard h1
        simp only [W64 g6_0 g6_1]
        obtain rfl := Option.some.inj h1
        refine nextL (hi1 _ rfl) ?_
        refine wk_of [] rfl ?_ ?_
        ·
          try simp only [go_sem]
          exact ⟨.same _ trivial, ⟨.same _ trivial, ⟨.same _ trivial, ⟨.same _ trivial, .same _ (by simp only [go_sem]; assumption)⟩⟩⟩⟩
        ·
          try simp only [go_sem]
    ·
      replace h1 := if_n c2 h1
      obtain rfl := Option.some.inj h1
      obtain rfl := he1 _ rfl
      refine zend ?_
      refine wk_of [] rfl ?_ ?_
      ·
        try simp only [go_sem]
        exact .same _ trivial
      ·
        try simp only [go_sem]
  subst hz0
  simp only [Sum.elim_inr] at h
  try simp only [go_sem]
  obtain rfl := Option.some.inj h
  exact .same _ trivial
theorem c_laysTRect : SlLaysF0.n6 Try.prog ⟨fun | 6 => 87 | 15 => 117 | 14 => 116 | 28 => 138 | 29 => 139 | 20 => 130 | 21 => 131 | 22 => 132 | 23 => 133 | 24 => 134 | 25 => 135 | 26 => 136 | 27 => 137 | 46 => 149 | 47 => 150 | 48 => 151 | 49 => 152 | 50 => 153 | 57 => 158 | n => n, fun | 22 => 22 | 24 => 29 | 25 => 92 | 3 => 3 | 39 => 123 | 0 => 0 | 53 => 145 | 55 => 147 | 4 => 4 | 46 => 139 | 45 => 138 | 50 => 117 | 5 => 5 | 9 => 9 | 66 => 154 | 70 => 158 | 76 => 162 | 77 => 163 | n => n, fun | n => n⟩ where
  mixed := by kernel_rfl
  f6 := ⟨Try.f87.name, by decide, Try.func87.trans (congrArg some (by kernel_rfl))⟩
  f14 := ⟨Try.f116.name, by decide, Try.func116.trans (congrArg some (by kernel_rfl))⟩
  f15 := Try.func117.trans (congrArg some (by kernel_rfl))
  f20 := ⟨Try.f130.name, by decide, Try.func130.trans (congrArg some (by kernel_rfl))⟩
  f21 := ⟨Try.f131.name, by decide, Try.func131.trans (congrArg some (by kernel_rfl))⟩
  f22 := ⟨Try.f132.name, by decide, Try.func132.trans (congrArg some (by kernel_rfl))⟩
  f23 := ⟨Try.f133.name, by decide, Try.func133.trans (congrArg some (by kernel_rfl))⟩
  f24 := ⟨Try.f134.name, by decide, Try.func134.trans (congrArg some (by kernel_rfl))⟩
  f25 := ⟨Try.f135.name, by decide, Try.func135.trans (congrArg some (by kernel_rfl))⟩
  f26 := ⟨Try.f136.name, by decide, Try.func136.trans (congrArg some (by kernel_rfl))⟩
  f27 := ⟨Try.f137.name, by decide, Try.func137.trans (congrArg some (by kernel_rfl))⟩
  f28 := Try.func138.trans (congrArg some (by kernel_rfl))
  f29 := Try.func139.trans (congrArg some (by kernel_rfl))
  f46 := ⟨Try.f149.name, by decide, Try.func149.trans (congrArg some (by kernel_rfl))⟩
  f47 := Try.func150.trans (congrArg some (by kernel_rfl))
  f48 := Try.func151.trans (congrArg some (by kernel_rfl))
  f49 := ⟨Try.f152.name, by decide, Try.func152.trans (congrArg some (by kernel_rfl))⟩
  f50 := ⟨Try.f153.name, by decide, Try.func153.trans (congrArg some (by kernel_rfl))⟩
  f57 := ⟨Try.f158.name, by decide, Try.func158.trans (congrArg some (by kernel_rfl))⟩
  t0 := Try.underlying0
  a0 := Try.isAgg0
  z0 := Try.sizeOf0
  v0 := Try.zeroValue0
  t3 := Try.underlying3
  a3 := Try.isAgg3
  z3 := Try.sizeOf3
  v3 := Try.zeroValue3
  t4 := Try.underlying4
  a4 := Try.isAgg4
  z4 := Try.sizeOf4
  v4 := Try.zeroValue4
  t5 := Try.underlying5
  a5 := Try.isAgg5
  z5 := Try.sizeOf5
  v5 := Try.zeroValue5
  t9 := Try.underlying9
  a9 := Try.isAgg9
  z9 := Try.sizeOf9
  v9 := Try.zeroValue9
  t22 := Try.underlying22
  a22 := Try.isAgg22
  z22 := Try.sizeOf22
  v22 := Try.zeroValue22
  t25 := Try.underlying92
  a25 := Try.isAgg92
  z25 := Try.sizeOf92
  v25 := Try.zeroValue92
  t39 := Try.underlying123
  a39 := Try.isAgg123
  z39 := Try.sizeOf123
  v39 := Try.zeroValue123
  t45 := Try.underlying138
  a45 := Try.isAgg138
  z45 := Try.sizeOf138
  v45 := Try.zeroValue138
  t46 := Try.underlying139
  a46 := Try.isAgg139
  z46 := Try.sizeOf139
  v46 := Try.zeroValue139
  t50 := Try.underlying117
  a50 := Try.isAgg117
  z50 := Try.sizeOf117
  v50 := Try.zeroValue117
  t53 := Try.underlying145
  a53 := Try.isAgg145
  z53 := Try.sizeOf145
  v53 := Try.zeroValue145
  t55 := Try.underlying147
  a55 := Try.isAgg147
  z55 := Try.sizeOf147
  v55 := Try.zeroValue147
  t66 := Try.underlying154
  a66 := Try.isAgg154
  z66 := Try.sizeOf154
  v66 := Try.zeroValue154
  t70 := Try.underlying158
  a70 := Try.isAgg158
  z70 := Try.sizeOf158
  v70 := Try.zeroValue158
  t76 := Try.underlying162
  a76 := Try.isAgg162
  z76 := Try.sizeOf162
  v76 := Try.zeroValue162
  t77 := Try.underlying163
  a77 := Try.isAgg163
  z77 := Try.sizeOf163
  v77 := Try.zeroValue163
theorem c_slices_SortFunc_Rect_o {a0 : List TRect} {f1 : TRect → TRect → Option Int} {r : List TRect} (h : p_slices_SortFunc_Rect_o a0 f1 = some r) {g1 : Nat} (hk1 : nmL []) (hf1 : ∀ (x0 : TRect) (x1 : TRect) (y : Int), f1 x0 x1 = some y → PCalls Try.prog g1 (encTRect x0 :: encTRect x1 :: []) (.int .i64 y)) : MCalls Try.prog 87 [.sref (0, 0) 0 4 (List.length a0), fn g1 []] ⟨1, [(0, .one ⟨4, encTRect {}, a0.map encTRect⟩)]⟩ (tup []) ⟨1, [(0, .one ⟨4, encTRect {}, (r).map encTRect⟩)]⟩ :=
  sortFunc_p (dv := encTRect {}) h c_laysTRect Try.isAgg29 Try.sizeOf29 (by kernel_rfl) clamp_bdd_TRect clamp_id_TRect (fun _ => rfl) (by decide) one_TRect lr_TRect vr_TRect hf1
theorem c_lays189 : Lays.n189 Try.prog ⟨fun | 189 => 89 | 125 => 117 | 257 => 118 | 128 => 138 | 129 => 139 | 294 => 140 | 295 => 141 | 296 => 142 | 297 => 143 | 298 => 144 | 299 => 145 | 216 => 146 | 300 => 147 | 301 => 148 | 328 => 154 | 329 => 150 | 330 => 151 | 331 => 155 | 332 => 156 | 215 => 157 | 343 => 159 | n => n, fun | 28 => 93 | 3 => 3 | 46 => 123 | 0 => 0 | 51 => 145 | 53 => 147 | 4 => 4 | 183 => 139 | 182 => 138 | 131 => 117 | 5 => 5 | 9 => 9 | 218 => 154 | 222 => 158 | 228 => 162 | 229 => 163 | n => n, fun | n => n⟩ where
  mixed := by kernel_rfl
  f125 := Try.func117.trans (congrArg some (by kernel_rfl))
  f128 := Try.func138.trans (congrArg some (by kernel_rfl))
  f129 := Try.func139.trans (congrArg some (by kernel_rfl))
  f189 := Try.func89.trans (congrArg some (by kernel_rfl))
  f215 := Try.func157.trans (congrArg some (by kernel_rfl))
  f216 := Try.func146.trans (congrArg some (by kernel_rfl))
  f257 := Try.func118.trans (congrArg some (by kernel_rfl))
  f294 := Try.func140.trans (congrArg some (by kernel_rfl))
  f295 := Try.func141.trans (congrArg some (by kernel_rfl))
  f296 := Try.func142.trans (congrArg some (by kernel_rfl))
  f297 := Try.func143.trans (congrArg some (by kernel_rfl))
  f298 := Try.func144.trans (congrArg some (by kernel_rfl))
  f299 := Try.func145.trans (congrArg some (by kernel_rfl))
  f300 := Try.func147.trans (congrArg some (by kernel_rfl))
  f301 := Try.func148.trans (congrArg some (by kernel_rfl))
  f328 := Try.func154.trans (congrArg some (by kernel_rfl))
  f329 := Try.func150.trans (congrArg some (by kernel_rfl))
  f330 := Try.func151.trans (congrArg some (by kernel_rfl))
  f331 := Try.func155.trans (congrArg some (by kernel_rfl))
  f332 := Try.func156.trans (congrArg some (by kernel_rfl))
  f343 := Try.func159.trans (congrArg some (by kernel_rfl))
  t0 := Try.underlying0
  a0 := Try.isAgg0
  z0 := Try.sizeOf0
  v0 := Try.zeroValue0
  t3 := Try.underlying3
  a3 := Try.isAgg3
  z3 := Try.sizeOf3
  v3 := Try.zeroValue3
  t4 := Try.underlying4
  a4 := Try.isAgg4
  z4 := Try.sizeOf4
  v4 := Try.zeroValue4
  t5 := Try.underlying5
  a5 := Try.isAgg5
  z5 := Try.sizeOf5
  v5 := Try.zeroValue5
  t9 := Try.underlying9
  a9 := Try.isAgg9
  z9 := Try.sizeOf9
  v9 := Try.zeroValue9
  t28 := Try.underlying93
  a28 := Try.isAgg93
  z28 := Try.sizeOf93
  v28 := Try.zeroValue93
  t46 := Try.underlying123
  a46 := Try.isAgg123
  z46 := Try.sizeOf123
  v46 := Try.zeroValue123
  t51 := Try.underlying145
  a51 := Try.isAgg145
  z51 := Try.sizeOf145
  v51 := Try.zeroValue145
  t53 := Try.underlying147
  a53 := Try.isAgg147
  z53 := Try.sizeOf147
  v53 := Try.zeroValue147
  t131 := Try.underlying117
  a131 := Try.isAgg117
  z131 := Try.sizeOf117
  v131 := Try.zeroValue117
  t182 := Try.underlying138
  a182 := Try.isAgg138
  z182 := Try.sizeOf138
  v182 := Try.zeroValue138
  t183 := Try.underlying139
  a183 := Try.isAgg139
  z183 := Try.sizeOf139
  v183 := Try.zeroValue139
  t218 := Try.underlying154
  a218 := Try.isAgg154
  z218 := Try.sizeOf154
  v218 := Try.zeroValue154
  t222 := Try.underlying158
  a222 := Try.isAgg158
  z222 := Try.sizeOf158
  v222 := Try.zeroValue158
  t228 := Try.underlying162
  a228 := Try.isAgg162
  z228 := Try.sizeOf162
  v228 := Try.zeroValue162
  t229 := Try.underlying163
  a229 := Try.isAgg163
  z229 := Try.sizeOf163
  v229 := Try.zeroValue163
theorem c_slices_Sort_int_o {a0 : List Int} {r : List Int} (h : p_slices_Sort_int_o a0 = some r) : MCalls Try.prog 89 [.sref (0, 0) 0 1 (List.length a0)] ⟨1, [(0, .one ⟨1, .int .i64 0, a0.map encI⟩)]⟩ (tup []) ⟨1, [(0, .one ⟨1, .int .i64 0, (r).map encI⟩)]⟩ := by
  unfold p_slices_Sort_int_o at h
  obtain ⟨h1, h⟩ := of_guard h
  obtain rfl := Option.some.inj h
  exact sortInt_o (by kernel_rfl) (fun blk cap zs w h1 h2 h3 => Any.slices_Sort_int c_lays189 blk 0 cap zs w h1 h2 h3) (fun p cap w => Any.slices_Sort_int_none c_lays189 p cap w) h1
theorem c_ref1_At {a0 : Int} {r : Bool} (h : p_ref1_At a0 = some r)  : PCalls Try.prog 57 [.int .i64 a0] (.bool r) := by
  unfold p_ref1_At at h
  refine pcalls_of (fun _ => none) (fun _ => []) Try.func57 (by unfold Try.f57; rfl) (by kernel_rfl) (by kernel_rfl) ?_
  simp only [awp_seq]
  simp only [argSlots]
  dsimp only [Try.f57]
  try simp only [go_sem]
  obtain ⟨x0, hx0, h⟩ := of_bind h
  refine call_p false (c_ref1_within hx0) ⟨.same _ trivial, .same _ trivial, .same _ trivial, trivial⟩ nofun ?_
  obtain rfl := Option.some.inj h
  exact .same _ trivial
theorem c_ref1_farRects {a0 : TRect} {a1 : TRect} {r : Int} (h : p_ref1_farRects a0 a1 = some r)  : PCalls Try.prog 108 [encTRect a0, encTRect a1] (.int .i64 r) := by
  unfold p_ref1_farRects at h
  refine pcalls_of (ordOf [(1, [0, 2, 4, 6, 9, 11, 13, 15, 1, 3, 5, 7, 8, 10, 12, 14, 16, 17, 18, 19])]) (fun _ => []) Try.func108 (by unfold Try.f108; rfl) (by kernel_rfl) (by kernel_rfl) ?_
  simp only [awp_seq]
  simp only [argSlots]
  dsimp only [Try.f108]
  try simp only [go_sem]
  obtain ⟨x0, hx0, h⟩ := of_bind h
  refine qcall_p false (fun _ => c_ref1_far hx0) (fun _ => ⟨.same _ trivial, .same _ trivial, .same _ trivial, .same _ trivial, trivial⟩) nofun ?_
  obtain ⟨x1, hx1, h⟩ := of_bind h
  refine qcall_p false (fun _ => c_ref1_far hx1) (fun _ => ⟨.same _ trivial, .same _ trivial, .same _ trivial, .same _ trivial, trivial⟩) nofun ?_
  try simp only [go_sem]
  obtain rfl := Option.some.inj h
  exact .same _ trivial
theorem c_ref1_heights {a0 : (List TRect)} {r : (List Int)} (h : p_ref1_heights a0 = some r)  : PCalls Try.prog 96 [encL 4 encTRect a0] (encL 1 encI r) := by
  unfold p_ref1_heights at h
  refine pcalls_of (ordOf [(5, [0, 1, 2, 3, 4, 7, 8, 9, 10, 5, 6, 11, 12, 13])]) (fun _ => []) Try.func96 (by unfold Try.f96; rfl) (by kernel_rfl) (by kernel_rfl) ?_
  simp only [awp_seq]
  simp only [argSlots]
  dsimp only [Try.f96]
  try simp only [go_sem]
  obtain ⟨e0, h0, h⟩ := of_bind h
  refine cut_j ([(3, encL 1 encI e0), (2, AVal.nilsl)]) ({ nx := 0, rows := [] : Heap }) ?_ ?_
  ·
    try simp only [go_sem]
    refine loop_w h0 (fun (s : Int × List Int) => [(4, AVal.int IntKind.i64 (Prod.fst s)), (3, encL 1 encI (Prod.snd s)), (2, AVal.nilsl), (0, encL 4 encTRect a0)]) (fun (s : Int × List Int) => { nx := 0, rows := [] : Heap }) ?_ ?_
    ·
      refine wk_of [] rfl ?_ ?_
      ·
        try simp only [go_sem]
        exact ⟨.same _ trivial, ⟨wkv_nilL, ⟨.same _ trivial, .same _ trivial⟩⟩⟩
      ·
        try simp only [go_sem]
    intro n1 s1 o1 h1 he1 hi1
    try simp only [go_sem]
    refine cut_l ?_
    try simp only [go_sem]
    refine ways_d (fun c2 => ?_) (fun c2 => ?_)
    ·
      replace h1 := if_p c2 h1
      refine cut_l ?_
      try simp only [go_sem]
      obtain ⟨g3, h1⟩ := of_guard h1
      refine ob ⟨by assumption, by assumption⟩ ?_
      obtain ⟨x4, hx4, h1⟩ := of_bind h1
      refine qcall_p false (fun _ => c_ref1_put hx4) (fun _ => ⟨.same _ trivial, .same _ trivial, trivial⟩) nofun ?_
      obtain ⟨x5, hx5, h1⟩ := of_bind h1
      refine qcall_p false (fun _ => c_ref1_put hx5) (fun _ => ⟨.same _ trivial, .same _ trivial, trivial⟩) nofun ?_
      obtain ⟨⟨g6_0, g6_1⟩, h1⟩ := of_guard h1
      simp only [W64 g6_0 g6_1]
      obtain rfl := Option.some.inj h1
      refine nextL (hi1 _ rfl) ?_
      refine wk_of [] rfl ?_ ?_
      ·
        try simp only [go_sem]
        exact ⟨.same _ trivial, ⟨.same _ trivial, ⟨.same _ trivial, .same _ trivial⟩⟩⟩
      ·
        try simp only [go_sem]
    ·
      replace h1 := if_n c2 h1
      obtain rfl := Option.some.inj h1
      obtain rfl := he1 _ rfl
      refine wk_of [] rfl ?_ ?_
      ·
        try simp only [go_sem]
        exact ⟨.same _ trivial, .same _ trivial⟩
      ·
        try simp only [go_sem]
  try simp only [go_sem]
  obtain rfl := Option.some.inj h
  exact .same _ trivial
theorem c_ref1_row {a0 : (List TRect)} {a1 : Int} {r : (List TEtchhouseref1span)} (h : p_ref1_row a0 a1 = some r)  : PCalls Try.prog 98 [encL 4 encTRect a0, .int .i64 a1] (encL 2 encTEtchhouseref1span r) := by
  unfold p_ref1_row at h
  refine pcalls_of (ordOf [(6, [0, 1, 2, 3, 4, 6, 7, 8, 9, 5, 10, 11, 12, 13])]) (fun _ => []) Try.func98 (by unfold Try.f98; rfl) (by kernel_rfl) (by kernel_rfl) ?_
  simp only [awp_seq]
  simp only [argSlots]
  dsimp only [Try.f98]
  try simp only [go_sem]
  obtain ⟨e0, h0, h⟩ := of_bind h
  refine cut_j ([(5, encL 2 encTEtchhouseref1span e0), (4, AVal.nilsl)]) ({ nx := 0, rows := [] : Heap }) ?_ ?_
  ·
    try simp only [go_sem]
    refine loop_w h0 (fun (s : Int × List TEtchhouseref1span) => [(6, AVal.int IntKind.i64 (Prod.fst s)), (5, encL 2 encTEtchhouseref1span (Prod.snd s)), (4, AVal.nilsl), (0, encL 4 encTRect a0), (1, AVal.int IntKind.i64 a1)]) (fun (s : Int × List TEtchhouseref1span) => { nx := 0, rows := [] : Heap }) ?_ ?_
    ·
      refine wk_of [] rfl ?_ ?_
      ·
        try simp only [go_sem]
        exact ⟨.same _ trivial, ⟨wkv_nilL, ⟨.same _ trivial, ⟨.same _ trivial, .same _ trivial⟩⟩⟩⟩
      ·
        try simp only [go_sem]
    intro n1 s1 o1 h1 he1 hi1
    try simp only [go_sem]
    refine cut_l ?_
    try simp only [go_sem]
    refine ways_d (fun c2 => ?_) (fun c2 => ?_)
    ·
      replace h1 := if_p c2 h1
      obtain ⟨e3, h3, h1⟩ := of_bind h1
      refine cut_j ([(6, AVal.int IntKind.i64 (Prod.fst s1)), (5, encL 2 encTEtchhouseref1span e3), (4, AVal.nilsl), (0, encL 4 encTRect a0), (1, AVal.int IntKind.i64 a1)]) ({ nx := 0, rows := [] : Heap }) ?_ ?_
      ·
        try simp only [go_sem]
        obtain ⟨⟨g4_0, g4_1⟩, h3⟩ := of_guard h3
        refine ob ⟨⟨by assumption, by assumption⟩, by assumption⟩ ?_
        refine cut_l ?_
        try simp only [go_sem]
        refine ways (fun c5 => ?_) (fun c5 => ?_)
        ·
          replace h3 := if_t c5 h3
          try simp only [Bool.and_eq_true, Bool.or_eq_true, Bool.not_eq_true', Bool.not_eq_false', Bool.and_eq_false_imp, Bool.or_eq_false_iff, decide_eq_true_eq, decide_eq_false_iff_not] at c5
          refine ob ⟨by assumption, by assumption⟩ ?_
          obtain ⟨x6, hx6, h3⟩ := of_bind h3
          refine qcall_p false (fun _ => c_ref1_joined hx6) (fun _ => ⟨.same _ trivial, wkE _, trivial⟩) nofun ?_
          obtain rfl := Option.some.inj h3
          refine wk_of [] rfl ?_ ?_
          ·
            try simp only [go_sem]
            exact ⟨.same _ trivial, ⟨.same _ trivial, ⟨.same _ trivial, ⟨.same _ trivial, .same _ trivial⟩⟩⟩⟩
          ·
            try simp only [go_sem]
        ·
          replace h3 := if_f c5 h3
          try simp only [Bool.and_eq_true, Bool.or_eq_true, Bool.not_eq_true', Bool.not_eq_false', Bool.and_eq_false_imp, Bool.or_eq_false_iff, decide_eq_true_eq, decide_eq_false_iff_not] at c5
          obtain rfl := Option.some.inj h3
          refine wk_of [] rfl ?_ ?_
          ·
            try simp only [go_sem]
            exact ⟨.same _ trivial, ⟨.same _ trivial, ⟨.same _ trivial, ⟨.same _ trivial, .same _ trivial⟩⟩⟩⟩
          ·
            try simp only [go_sem]
      try simp only [go_sem]
      obtain ⟨⟨g7_0, g7_1⟩, h1⟩ := of_guard h1
      simp only [W64 g7_0 g7_1]
      obtain rfl := Option.some.inj h1
      refine nextL (hi1 _ rfl) ?_
      refine wk_of [] rfl ?_ ?_
      ·
        try simp only [go_sem]
        exact ⟨.same _ trivial, ⟨.same _ trivial, ⟨.same _ trivial, ⟨.same _ trivial, .same _ trivial⟩⟩⟩⟩
      ·
        try simp only [go_sem]
    ·
      replace h1 := if_n c2 h1
      obtain rfl := Option.some.inj h1
      obtain rfl := he1 _ rfl
      refine wk_of [] rfl ?_ ?_
      ·
        try simp only [go_sem]
        exact ⟨.same _ trivial, .same _ trivial⟩
      ·
        try simp only [go_sem]
  try simp only [go_sem]
  obtain rfl := Option.some.inj h
  exact .same _ trivial
theorem c_ref1_stacked_o {a0 : (List TEtchhouseref1band)} {a1 : TEtchhouseref1band} {r : (List TEtchhouseref1band)} (h : p_ref1_stacked_o a0 a1 = some r)  : MCalls Try.prog 97 [.sref (0, 0) 0 3 (List.length a0), encTEtchhouseref1band a1] ⟨1, [(0, .one ⟨3, encTEtchhouseref1band {}, a0.map encTEtchhouseref1band⟩)]⟩ (.sref (1, 0) 0 3 (List.length (r))) ⟨2, [(1, .one ⟨3, encTEtchhouseref1band {}, (r).map encTEtchhouseref1band⟩)]⟩ := by
  unfold p_ref1_stacked_o at h
  refine acalls_of (ordOf [(4, [0, 1, 2, 3, 4, 5, 6, 7, 9, 8, 10, 11, 12, 13, 14, 15, 16, 17, 18, 20, 19, 21, 22, 23])]) (fun _ => []) Try.func97 (by unfold Try.f97; rfl) (by kernel_rfl) (by kernel_rfl) ?_
  simp only [awp_seq]
  simp only [argSlots]
  dsimp only [Try.f97]
  try simp only [go_sem]
  refine cut_l ?_
  try simp only [go_sem]
  refine ways_d (fun c0 => ?_) (fun c0 => ?_)
  ·
    replace h := if_p c0 h
    refine ret_o ?_
    try simp only [go_sem]
    obtain rfl := Option.some.inj h
    refine wkm [(0, some 0), (1, some 0)] rfl ?_ ?_
    ·
      exact wkv_sref (rn_some rfl) rfl
    ·
      try simp only [go_sem]
      exact wkR_typed (rn_some rfl) rfl rfl
  ·
    replace h := if_n c0 h
    obtain ⟨⟨g1_0, g1_1⟩, h⟩ := of_guard h
    simp only [W64 g1_0 g1_1]
    obtain ⟨⟨g2_0, g2_1, g2_2, g2_3⟩, h⟩ := of_guard h
    refine ob ⟨⟨⟨by assumption, by assumption⟩, by assumption⟩, by assumption⟩ ?_
    obtain ⟨x3, hx3, h⟩ := of_bind h
    refine qcall_p false (fun hg => c_ref1_sameSpans (if_t hg hx3)) (fun _ => ⟨.same _ trivial, .same _ trivial, trivial⟩) nofun ?_
    try simp only [go_sem]
    refine cut_l ?_
    try simp only [go_sem]
    refine ways (fun c4 => ?_) (fun c4 => ?_)
    ·
      replace h := if_t c4 h
      try simp only [Bool.and_eq_true, Bool.or_eq_true, Bool.not_eq_true', Bool.not_eq_false', Bool.and_eq_false_imp, Bool.or_eq_false_iff, decide_eq_true_eq, decide_eq_false_iff_not] at c4
      simp only [W64 (n := (↑(List.length a0) : Int) - 1) (by omega) (by omega)]
      refine ob ⟨⟨by omega, by omega⟩, by omega⟩ ?_
      refine ret_o ?_
      try simp only [go_sem]
      obtain ⟨g5, h⟩ := of_guard h
      obtain rfl := Option.some.inj h
      refine wkm [(0, some 0), (1, some 0)] rfl ?_ ?_
      ·
        exact wkv_sref (rn_some rfl) (by simp)
      ·
        try simp only [go_sem]
        exact wkR_take (rn_some rfl) rfl rfl
    ·
      replace h := if_f c4 h
      try simp only [Bool.and_eq_true, Bool.or_eq_true, Bool.not_eq_true', Bool.not_eq_false', Bool.and_eq_false_imp, Bool.or_eq_false_iff, decide_eq_true_eq, decide_eq_false_iff_not] at c4
      obtain ⟨g6, h⟩ := of_guard h
      refine ob ⟨by omega, by assumption⟩ ?_
      refine ret_o ?_
      try simp only [go_sem]
      obtain rfl := Option.some.inj h
      refine wkm [(0, some 0), (1, some 10003)] rfl ?_ ?_
      ·
        exact wkv_sref (rn_some rfl) rfl
      ·
        try simp only [go_sem]
        exact wkR_typed (rn_some rfl) rfl rfl
theorem c_shape_Far {a0 : TRect} {a1 : TRect} {r : Int} (h : p_shape_Far a0 a1 = some r)  : PCalls Try.prog 105 [encTRect a0, encTRect a1] (.int .i64 r) := by
  unfold p_shape_Far at h
  refine pcalls_of (ordOf [(1, [0, 2, 4, 6, 9, 11, 13, 15, 1, 3, 5, 7, 8, 10, 12, 14, 16, 17, 18, 19])]) (fun _ => []) Try.func105 (by unfold Try.f105; rfl) (by kernel_rfl) (by kernel_rfl) ?_
  simp only [awp_seq]
  simp only [argSlots]
  dsimp only [Try.f105]
  try simp only [go_sem]
  obtain ⟨x0, hx0, h⟩ := of_bind h
  refine qcall_p false (fun _ => c_shape_between hx0) (fun _ => ⟨.same _ trivial, .same _ trivial, .same _ trivial, .same _ trivial, trivial⟩) nofun ?_
  obtain ⟨x1, hx1, h⟩ := of_bind h
  refine qcall_p false (fun _ => c_shape_between hx1) (fun _ => ⟨.same _ trivial, .same _ trivial, .same _ trivial, .same _ trivial, trivial⟩) nofun ?_
  try simp only [go_sem]
  obtain rfl := Option.some.inj h
  exact .same _ trivial
theorem c_shape_IsAt {a0 : Int} {r : Bool} (h : p_shape_IsAt a0 = some r)  : PCalls Try.prog 100 [.int .i64 a0] (.bool r) := by
  unfold p_shape_IsAt at h
  refine pcalls_of (fun _ => none) (fun _ => []) Try.func100 (by unfold Try.f100; rfl) (by kernel_rfl) (by kernel_rfl) ?_
  simp only [awp_seq]
  simp only [argSlots]
  dsimp only [Try.f100]
  try simp only [go_sem]
  obtain ⟨x0, hx0, h⟩ := of_bind h
  refine call_p false (c_shape_within hx0) ⟨.same _ trivial, .same _ trivial, .same _ trivial, trivial⟩ nofun ?_
  obtain rfl := Option.some.inj h
  exact .same _ trivial
theorem c_shape_Set_push_o {a0 : (List TShapeBand)} {a1 : TShapeBand} {r : (List TShapeBand)} (h : p_shape_Set_push_o a0 a1 = some r)  : MCalls Try.prog 93 [.sref (0, 0) 0 3 (List.length a0), encTShapeBand a1] ⟨1, [(0, .one ⟨3, encTShapeBand {}, a0.map encTShapeBand⟩)]⟩ (.sref (1, 0) 0 3 (List.length (r))) ⟨2, [(1, .one ⟨3, encTShapeBand {}, (r).map encTShapeBand⟩)]⟩ := by
  unfold p_shape_Set_push_o at h
  refine acalls_of (ordOf [(4, [0, 1, 2, 3, 4, 5, 6, 8, 7, 9, 10, 11, 12, 13, 14, 15, 16, 18, 17, 19, 20, 21])]) (fun _ => []) Try.func93 (by unfold Try.f93; rfl) (by kernel_rfl) (by kernel_rfl) ?_
  simp only [awp_seq]
  simp only [argSlots]
  dsimp only [Try.f93]
  try simp only [go_sem]
  refine ob (by simp) ?_
  refine cut_l ?_
  try simp only [go_sem]
  refine ways (fun c0 => ?_) (fun c0 => ?_)
  ·
    replace h := if_t c0 h
    try simp only [Bool.and_eq_true, Bool.or_eq_true, Bool.not_eq_true', Bool.not_eq_false', Bool.and_eq_false_imp, Bool.or_eq_false_iff, decide_eq_true_eq, decide_eq_false_iff_not] at c0
    refine ret_o ?_
    try simp only [go_sem]
    obtain rfl := Option.some.inj h
    refine wkm [(0, some 0), (1, some 0)] rfl ?_ ?_
    ·
      exact wkv_sref (rn_some rfl) rfl
    ·
      try simp only [go_sem]
      exact wkR_typed (rn_some rfl) rfl rfl
  ·
    replace h := if_f c0 h
    try simp only [Bool.and_eq_true, Bool.or_eq_true, Bool.not_eq_true', Bool.not_eq_false', Bool.and_eq_false_imp, Bool.or_eq_false_iff, decide_eq_true_eq, decide_eq_false_iff_not] at c0
    obtain ⟨⟨g1_0, g1_1⟩, h⟩ := of_guard h
    simp only [W64 g1_0 g1_1]
    obtain ⟨⟨g2_0, g2_1, g2_2, g2_3⟩, h⟩ := of_guard h
    refine ob ⟨⟨⟨by assumption, by assumption⟩, by assumption⟩, by assumption⟩ ?_
    obtain ⟨x3, hx3, h⟩ := of_bind h
    refine qcall_p false (fun hg => c_slices_Equal_int (if_t hg hx3)) (fun _ => ⟨.same _ trivial, .same _ trivial, trivial⟩) nofun ?_
    try simp only [go_sem]
    refine cut_l ?_
    try simp only [go_sem]
    refine ways (fun c4 => ?_) (fun c4 => ?_)
    ·
      replace h := if_t c4 h
      try simp only [Bool.and_eq_true, Bool.or_eq_true, Bool.not_eq_true', Bool.not_eq_false', Bool.and_eq_false_imp, Bool.or_eq_false_iff, decide_eq_true_eq, decide_eq_false_iff_not] at c4
      refine ob ⟨⟨by omega, by omega⟩, by omega⟩ ?_
      refine ret_o ?_
      try simp only [go_sem]
      obtain ⟨g5, h⟩ := of_guard h
      obtain rfl := Option.some.inj h
      refine wkm [(0, some 0), (1, some 0)] rfl ?_ ?_
      ·
        exact wkv_sref (rn_some rfl) (by simp)
      ·
        try simp only [go_sem]
        exact wkR_take (rn_some rfl) rfl rfl
    ·
      replace h := if_f c4 h
      try simp only [Bool.and_eq_true, Bool.or_eq_true, Bool.not_eq_true', Bool.not_eq_false', Bool.and_eq_false_imp, Bool.or_eq_false_iff, decide_eq_true_eq, decide_eq_false_iff_not] at c4
      obtain ⟨g6, h⟩ := of_guard h
      refine ob ⟨by omega, by assumption⟩ ?_
      refine ret_o ?_
      try simp only [go_sem]
      obtain rfl := Option.some.inj h
      refine wkm [(0, some 0), (1, some 10003)] rfl ?_ ?_
      ·
        exact wkv_sref (rn_some rfl) rfl
      ·
        try simp only [go_sem]
        exact wkR_typed (rn_some rfl) rfl rfl
end Go.Nw
