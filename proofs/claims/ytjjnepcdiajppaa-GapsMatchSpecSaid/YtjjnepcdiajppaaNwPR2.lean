/- The walks of the functions. -/
import Derived.Test.YtjjnepcdiajppaaNwSortF
import Derived.Test.YtjjnepcdiajppaaNwDR
import Derived.Test.YtjjnepcdiajppaaNwPR1
set_option linter.unusedVariables false
set_option linter.unusedSimpArgs false
set_option maxRecDepth 100000
namespace Go.Nw
open Go.Proofs
theorem c_shape_CheckRegion {a0 : (List TRect)} {r : Int} (h : p_shape_CheckRegion a0 = some r)  : PCalls Try.prog 18 [encL 4 encTRect a0] (.int .i64 r) := by
  unfold p_shape_CheckRegion at h
  refine pcalls_of (ordOf [(7, [0, 1, 2, 3, 5, 6, 7, 4, 8, 9, 10, 11, 12])]) (prsOf [(7, [(8, 11)])]) Try.func18 (by unfold Try.f18; rfl) (by kernel_rfl) (by kernel_rfl) ?_
  simp only [awp_seq]
  simp only [argSlots]
  dsimp only [Try.f18]
  try simp only [go_sem]
  obtain ⟨x0, hx0, h⟩ := of_bind h
  refine call_p false (c_shape_CheckRects hx0) ⟨.same _ trivial, trivial⟩ nofun ?_
  try simp only [go_sem]
  refine cut_l ?_
  try simp only [go_sem]
  refine ways_n (fun c1 => ?_) (fun c1 => ?_)
  ·
    replace h := if_n c1 h
    obtain rfl := Option.some.inj h
    exact .same _ trivial
  ·
    replace h := if_p c1 h
    obtain ⟨z2, h2, h⟩ := of_bind h
    refine cut_z z2 (fun (s : Int) => [(2, AVal.int IntKind.i64 s), (0, encL 4 encTRect a0)]) (fun (s : Int) => { nx := 0, rows := [] : Heap }) ?_ (fun e2 hz2 => ?_)
    ·
      try simp only [go_sem]
      refine loop_w h2 (fun (s : Int × Int) => [(4, AVal.int IntKind.i64 (Prod.fst s)), (2, AVal.int IntKind.i64 (Prod.snd s)), (0, encL 4 encTRect a0)]) (fun (s : Int × Int) => { nx := 0, rows := [] : Heap }) ?_ ?_
      ·
        refine wk_of [] rfl ?_ ?_
        ·
          try simp only [go_sem]
          exact ⟨.same _ trivial, ⟨.same _ trivial, .same _ trivial⟩⟩
        ·
          try simp only [go_sem]
      intro n3 s3 o3 h3 he3 hi3
      try simp only [go_sem]
      refine cut_l ?_
      try simp only [go_sem]
      refine ways_d (fun c4 => ?_) (fun c4 => ?_)
      ·
        replace h3 := if_p c4 h3
        refine cut_l ?_
        try simp only [go_sem]
        obtain ⟨⟨g5_0, g5_1⟩, h3⟩ := of_guard h3
        simp only [W64 g5_0 g5_1]
        obtain ⟨⟨g6_0, g6_1⟩, h3⟩ := of_guard h3
        refine ob ⟨⟨by assumption, by omega⟩, ⟨by assumption, by assumption⟩⟩ ?_
        refine ob ⟨by intro h1 h2; simp only [h1, h2, Bool.and_self, Bool.not_true, Bool.not_false, Bool.and_true, Bool.true_and], by simp⟩ ?_
        refine cut_l ?_
        try simp only [go_sem]
        refine ways (fun c7 => ?_) (fun c7 => ?_)
        ·
          replace h3 := if_t c7 h3
          try simp only [Bool.and_eq_true, Bool.or_eq_true, Bool.not_eq_true', Bool.not_eq_false', Bool.and_eq_false_imp, Bool.or_eq_false_iff, decide_eq_true_eq, decide_eq_false_iff_not] at c7
          obtain rfl := Option.some.inj h3
          obtain rfl := he3 _ rfl
          obtain rfl := Option.some.inj h
          exact .same _ trivial
        ·
          replace h3 := if_f c7 h3
          try simp only [Bool.and_eq_true, Bool.or_eq_true, Bool.not_eq_true', Bool.not_eq_false', Bool.and_eq_false_imp, Bool.or_eq_false_iff, decide_eq_true_eq, decide_eq_false_iff_not] at c7
          obtain ⟨⟨g8_0, g8_1⟩, h3⟩ := of_guard h3
          simp only [W64 g8_0 g8_1]
          obtain rfl := Option.some.inj h3
          refine nextL (hi3 _ rfl) ?_
          refine wk_of [] rfl ?_ ?_
          ·
            try simp only [go_sem]
            exact ⟨.same _ trivial, ⟨.same _ trivial, .same _ trivial⟩⟩
          ·
            try simp only [go_sem]
      ·
        replace h3 := if_n c4 h3
        obtain rfl := Option.some.inj h3
        obtain rfl := he3 _ rfl
        refine zend ?_
        refine wk_of [] rfl ?_ ?_
        ·
          try simp only [go_sem]
          exact ⟨.same _ trivial, .same _ trivial⟩
        ·
          try simp only [go_sem]
    subst hz2
    simp only [Sum.elim_inr] at h
    try simp only [go_sem]
    obtain ⟨x9, hx9, h⟩ := of_bind h
    refine call_p false (c_shape_SetOf hx9) ⟨.same _ trivial, trivial⟩ nofun ?_
    obtain ⟨x10, hx10, h⟩ := of_bind h
    refine call_p false (c_shape_Set_Rects hx10) ⟨.same _ trivial, trivial⟩ nofun ?_
    obtain ⟨x11, hx11, h⟩ := of_bind h
    refine call_p false (c_slices_Equal_Rect hx11) ⟨.same _ trivial, .same _ trivial, trivial⟩ nofun ?_
    try simp only [go_sem]
    refine cut_l ?_
    try simp only [go_sem]
    refine ways (fun c12 => ?_) (fun c12 => ?_)
    ·
      replace h := if_t c12 h
      try simp only [Bool.and_eq_true, Bool.or_eq_true, Bool.not_eq_true', Bool.not_eq_false', Bool.and_eq_false_imp, Bool.or_eq_false_iff, decide_eq_true_eq, decide_eq_false_iff_not] at c12
      obtain rfl := Option.some.inj h
      exact .same _ trivial
    ·
      replace h := if_f c12 h
      try simp only [Bool.and_eq_true, Bool.or_eq_true, Bool.not_eq_true', Bool.not_eq_false', Bool.and_eq_false_imp, Bool.or_eq_false_iff, decide_eq_true_eq, decide_eq_false_iff_not] at c12
      obtain rfl := Option.some.inj h
      exact .same _ trivial
theorem c_shape_Area {a0 : (List TRect)} {r : Int × Int} (h : p_shape_Area a0 = some r)  : PCalls Try.prog 49 [encL 4 encTRect a0] (tup [.int .i64 r.1, .int .i64 r.2]) := by
  unfold p_shape_Area at h
  refine pcalls_of (fun _ => none) (fun _ => []) Try.func49 (by unfold Try.f49; rfl) (by kernel_rfl) (by kernel_rfl) ?_
  simp only [awp_seq]
  simp only [argSlots]
  dsimp only [Try.f49]
  try simp only [go_sem]
  obtain ⟨x0, hx0, h⟩ := of_bind h
  refine call_p false (c_shape_CheckRegion hx0) ⟨.same _ trivial, trivial⟩ nofun ?_
  try simp only [go_sem]
  refine cut_l ?_
  try simp only [go_sem]
  refine ways_n (fun c1 => ?_) (fun c1 => ?_)
  ·
    replace h := if_n c1 h
    obtain rfl := Option.some.inj h
    exact wkv_same (by simp only [go_sem]) rfl
  ·
    replace h := if_p c1 h
    obtain ⟨x2, hx2, h⟩ := of_bind h
    refine call_p false (c_shape_AreaOf hx2) ⟨.same _ trivial, trivial⟩ nofun ?_
    obtain rfl := Option.some.inj h
    exact wkv_same (by simp only [go_sem]) rfl
theorem c_shape_Gaps {a0 : (List (List TRect))} {a1 : Int} {r : (List TGap) × Int} (h : p_shape_Gaps a0 a1 = some r)  : PCalls Try.prog 38 [encL 1 (encL 4 encTRect) a0, .int .i64 a1] (tup [encL 7 encTGap r.1, .int .i64 r.2]) := by
  unfold p_shape_Gaps at h
  refine pcalls_of (fun _ => none) (fun _ => []) Try.func38 (by unfold Try.f38; rfl) (by kernel_rfl) (by kernel_rfl) ?_
  simp only [awp_seq]
  simp only [argSlots]
  dsimp only [Try.f38]
  try simp only [go_sem]
  obtain ⟨e0, h0, h⟩ := of_bind h
  refine cut_j ([(6, AVal.int IntKind.i64 e0), (5, AVal.int IntKind.i64 0), (4, AVal.nilsl), (0, encL 1 (encL 4 encTRect) a0), (1, AVal.int IntKind.i64 a1)]) ({ nx := 0, rows := [] : Heap }) ?_ ?_
  ·
    try simp only [go_sem]
    refine loop_w h0 (fun (s : Int × Int) => [(19, AVal.int IntKind.i64 (Prod.fst s)), (18, AVal.int IntKind.i64 (↑(List.length a0) : Int)), (17, encL 1 (encL 4 encTRect) a0), (6, AVal.int IntKind.i64 (Prod.snd s)), (5, AVal.int IntKind.i64 0), (4, AVal.nilsl), (0, encL 1 (encL 4 encTRect) a0), (1, AVal.int IntKind.i64 a1)]) (fun (s : Int × Int) => { nx := 0, rows := [] : Heap }) ?_ ?_
    ·
      refine wk_of [] rfl ?_ ?_
      ·
        try simp only [go_sem]
        exact ⟨.same _ trivial, ⟨.same _ trivial, ⟨.same _ trivial, ⟨.same _ trivial, ⟨.same _ trivial, ⟨.same _ trivial, ⟨.same _ trivial, .same _ trivial⟩⟩⟩⟩⟩⟩⟩
      ·
        try simp only [go_sem]
    intro n1 s1 o1 h1 he1 hi1
    try simp only [go_sem]
    refine cut_l ?_
    try simp only [go_sem]
    refine ways_d (fun c2 => ?_) (fun c2 => ?_)
    ·
      replace h1 := if_p c2 h1
      refine cut_l ?_
      try simp only [go_sem]
      obtain ⟨g3, h1⟩ := of_guard h1
      refine ob ⟨by assumption, by assumption⟩ ?_
      obtain ⟨⟨g4_0, g4_1⟩, h1⟩ := of_guard h1
      simp only [W64 g4_0 g4_1]
      obtain rfl := Option.some.inj h1
      refine nextL (hi1 _ rfl) ?_
      refine wk_of [] rfl ?_ ?_
      ·
        try simp only [go_sem]
        exact ⟨.same _ trivial, ⟨.same _ trivial, ⟨.same _ trivial, ⟨.same _ trivial, ⟨.same _ trivial, ⟨.same _ trivial, ⟨.same _ trivial, .same _ trivial⟩⟩⟩⟩⟩⟩⟩
      ·
        try simp only [go_sem]
    ·
      replace h1 := if_n c2 h1
      obtain rfl := Option.some.inj h1
      obtain rfl := he1 _ rfl
      refine wk_of [] rfl ?_ ?_
      ·
        try simp only [go_sem]
        exact ⟨.same _ trivial, ⟨.same _ trivial, ⟨.same _ trivial, ⟨.same _ trivial, .same _ trivial⟩⟩⟩⟩
      ·
        try simp only [go_sem]
  try simp only [go_sem]
  refine ob (by simp) ?_
  refine cut_l ?_
  try simp only [go_sem]
  refine ways (fun c5 => ?_) (fun c5 => ?_)
  ·
    replace h := if_t c5 h
    try simp only [Bool.and_eq_true, Bool.or_eq_true, Bool.not_eq_true', Bool.not_eq_false', Bool.and_eq_false_imp, Bool.or_eq_false_iff, decide_eq_true_eq, decide_eq_false_iff_not] at c5
    obtain rfl := Option.some.inj h
    exact wkv_tup ⟨wkv_nilL, .same _ trivial, trivial⟩
  ·
    replace h := if_f c5 h
    try simp only [Bool.and_eq_true, Bool.or_eq_true, Bool.not_eq_true', Bool.not_eq_false', Bool.and_eq_false_imp, Bool.or_eq_false_iff, decide_eq_true_eq, decide_eq_false_iff_not] at c5
    obtain ⟨z6, h6, h⟩ := of_bind h
    refine cut_z z6 (fun (s : Int × List TGap) => [(5, AVal.int IntKind.i64 (Prod.fst s)), (4, encL 7 encTGap (Prod.snd s)), (0, encL 1 (encL 4 encTRect) a0), (1, AVal.int IntKind.i64 a1)]) (fun (s : Int × List TGap) => { nx := 0, rows := [] : Heap }) ?_ (fun e6 hz6 => ?_)
    ·
      try simp only [go_sem]
      refine loop_w h6 (fun (s : Int × Int × List TGap) => [(37, AVal.int IntKind.i64 (Prod.fst s)), (36, AVal.int IntKind.i64 (↑(List.length a0) : Int)), (35, encL 1 (encL 4 encTRect) a0), (5, AVal.int IntKind.i64 (Prod.fst (Prod.snd s))), (4, encL 7 encTGap (Prod.snd (Prod.snd s))), (0, encL 1 (encL 4 encTRect) a0), (1, AVal.int IntKind.i64 a1)]) (fun (s : Int × Int × List TGap) => { nx := 0, rows := [] : Heap }) ?_ ?_
      ·
        refine wk_of [] rfl ?_ ?_
        ·
          try simp only [go_sem]
          exact ⟨.same _ trivial, ⟨.same _ trivial, ⟨.same _ trivial, ⟨.same _ trivial, ⟨wkv_nilL, ⟨.same _ trivial, .same _ trivial⟩⟩⟩⟩⟩⟩
        ·
          try simp only [go_sem]
      intro n7 s7 o7 h7 he7 hi7
      try simp only [go_sem]
      refine cut_l ?_
      try simp only [go_sem]
      refine ways_d (fun c8 => ?_) (fun c8 => ?_)
      ·
        replace h7 := if_p c8 h7
        refine cut_l ?_
        try simp only [go_sem]
        obtain ⟨g9, h7⟩ := of_guard h7
        refine ob ⟨by assumption, by assumption⟩ ?_
        obtain ⟨x10, hx10, h7⟩ := of_bind h7
        refine call_p false (c_shape_CheckRegion hx10) ⟨.same _ trivial, trivial⟩ nofun ?_
        try simp only [go_sem]
        refine cut_l ?_
        try simp only [go_sem]
        refine ways_n (fun c11 => ?_) (fun c11 => ?_)
        ·
          replace h7 := if_n c11 h7
          obtain rfl := Option.some.inj h7
          obtain rfl := he7 _ rfl
          obtain rfl := Option.some.inj h
          exact wkv_tup ⟨wkv_nilL, .same _ trivial, trivial⟩
        ·
          replace h7 := if_p c11 h7
          simp only [W64 (n := Prod.fst s7 + 1) (by omega) (by omega)]
          obtain rfl := Option.some.inj h7
          refine nextL (hi7 _ rfl) ?_
          refine wk_of [] rfl ?_ ?_
          ·
            try simp only [go_sem]
            exact ⟨.same _ trivial, ⟨.same _ trivial, ⟨.same _ trivial, ⟨.same _ trivial, ⟨.same _ trivial, ⟨.same _ trivial, .same _ trivial⟩⟩⟩⟩⟩⟩
          ·
            try simp only [go_sem]
      ·
        replace h7 := if_n c8 h7
        obtain rfl := Option.some.inj h7
        obtain rfl := he7 _ rfl
        refine zend ?_
        refine wk_of [] rfl ?_ ?_
        ·
          try simp only [go_sem]
          exact ⟨.same _ trivial, ⟨.same _ trivial, ⟨.same _ trivial, .same _ trivial⟩⟩⟩
        ·
          try simp only [go_sem]
    subst hz6
    simp only [Sum.elim_inr] at h
    try simp only [go_sem]
    obtain ⟨x12, hx12, h⟩ := of_bind h
    refine call_p false (c_shape_within hx12) ⟨.same _ trivial, .same _ trivial, .same _ trivial, trivial⟩ nofun ?_
    try simp only [go_sem]
    refine cut_l ?_
    try simp only [go_sem]
    refine ways (fun c13 => ?_) (fun c13 => ?_)
    ·
      replace h := if_t c13 h
      try simp only [Bool.and_eq_true, Bool.or_eq_true, Bool.not_eq_true', Bool.not_eq_false', Bool.and_eq_false_imp, Bool.or_eq_false_iff, decide_eq_true_eq, decide_eq_false_iff_not] at c13
      obtain rfl := Option.some.inj h
      exact wkv_tup ⟨wkv_nilL, .same _ trivial, trivial⟩
    ·
      replace h := if_f c13 h
      try simp only [Bool.and_eq_true, Bool.or_eq_true, Bool.not_eq_true', Bool.not_eq_false', Bool.and_eq_false_imp, Bool.or_eq_false_iff, decide_eq_true_eq, decide_eq_false_iff_not] at c13
      obtain ⟨z14, h14, h⟩ := of_bind h
      refine cut_z z14 (fun (s : List TGap × Int × List TGap) => [(12, encL 7 encTGap (Prod.fst s)), (5, AVal.int IntKind.i64 (Prod.fst (Prod.snd s))), (4, encL 7 encTGap (Prod.snd (Prod.snd s)))]) (fun (s : List TGap × Int × List TGap) => { nx := 0, rows := [] : Heap }) ?_ (fun e14 hz14 => ?_)
      ·
        try simp only [go_sem]
        refine loop_w h14 (fun (s : Int × List TGap × Int × List TGap) => [(52, AVal.int IntKind.i64 (Prod.fst s)), (51, AVal.int IntKind.i64 (↑(List.length a0) : Int)), (50, encL 1 (encL 4 encTRect) a0), (12, AVal.sref (0, 0) 0 7 (List.length (Prod.fst (Prod.snd s)))), (5, AVal.int IntKind.i64 (Prod.fst (Prod.snd (Prod.snd s)))), (4, encL 7 encTGap (Prod.snd (Prod.snd (Prod.snd s)))), (0, encL 1 (encL 4 encTRect) a0), (1, AVal.int IntKind.i64 a1)]) (fun (s : Int × List TGap × Int × List TGap) => { nx := 1, rows := [(0, Ent.one { sz := 7, d := encTGap default, l := List.map encTGap (Prod.fst (Prod.snd s)) : Row })] : Heap }) ?_ ?_
        ·
          refine wk_of [(0, none)] rfl ?_ ?_
          ·
            try simp only [go_sem]
            exact ⟨.same _ trivial, ⟨.same _ trivial, ⟨.same _ trivial, ⟨wkv_nil (rn_none rfl) rfl, ⟨.same _ trivial, ⟨.same _ trivial, ⟨.same _ trivial, .same _ trivial⟩⟩⟩⟩⟩⟩⟩
          ·
            try simp only [go_sem]
            exact wkR_nilT (rn_none rfl)
        intro n15 s15 o15 h15 he15 hi15
        try simp only [go_sem]
        refine cut_l ?_
        try simp only [go_sem]
        refine ways_d (fun c16 => ?_) (fun c16 => ?_)
        ·
          replace h15 := if_p c16 h15
          obtain ⟨z17, h17, h15⟩ := of_bind h15
          refine cut_z z17 (fun (s : Int × List TGap × List TGap) => [(52, AVal.int IntKind.i64 (Prod.fst s15)), (51, AVal.int IntKind.i64 (↑(List.length a0) : Int)), (50, encL 1 (encL 4 encTRect) a0), (12, AVal.sref (0, 0) 0 7 (List.length (Prod.snd (Prod.snd s)))), (5, AVal.int IntKind.i64 (Prod.fst s)), (4, encL 7 encTGap (Prod.fst (Prod.snd s))), (0, encL 1 (encL 4 encTRect) a0), (1, AVal.int IntKind.i64 a1)]) (fun (s : Int × List TGap × List TGap) => { nx := 1, rows := [(0, Ent.one { sz := 7, d := encTGap default, l := List.map encTGap (Prod.snd (Prod.snd s)) : Row })] : Heap }) ?_ (fun e17 hz17 => ?_)
          ·
            try simp only [go_sem]
            obtain ⟨g18, h17⟩ := of_guard h17
            refine ob ⟨by assumption, by assumption⟩ ?_
            simp only [W64 (n := Prod.fst s15 + 1) (by omega) (by omega)]
            refine cut_l ?_
            try simp only [go_sem]
            refine loop_w h17 (fun (s : Int × Int × List TGap × List TGap) => [(15, AVal.int IntKind.i64 (Prod.fst s)), (14, encL 4 encTRect (List.getD a0 (Int.toNat (Prod.fst s15)) default)), (13, AVal.int IntKind.i64 (Prod.fst s15)), (52, AVal.int IntKind.i64 (Prod.fst s15)), (51, AVal.int IntKind.i64 (↑(List.length a0) : Int)), (50, encL 1 (encL 4 encTRect) a0), (12, AVal.sref (0, 0) 0 7 (List.length (Prod.snd (Prod.snd (Prod.snd s))))), (5, AVal.int IntKind.i64 (Prod.fst (Prod.snd s))), (4, encL 7 encTGap (Prod.fst (Prod.snd (Prod.snd s)))), (0, encL 1 (encL 4 encTRect) a0), (1, AVal.int IntKind.i64 a1)]) (fun (s : Int × Int × List TGap × List TGap) => { nx := 1, rows := [(0, Ent.one { sz := 7, d := encTGap default, l := List.map encTGap (Prod.snd (Prod.snd (Prod.snd s))) : Row })] : Heap }) ?_ ?_
            ·
              refine wk_of [(0, some 0)] rfl ?_ ?_
              ·
                try simp only [go_sem]
                exact ⟨.same _ trivial, ⟨.same _ trivial, ⟨.same _ trivial, ⟨.same _ trivial, ⟨.same _ trivial, ⟨.same _ trivial, ⟨wkv_sref (rn_some rfl) rfl, ⟨.same _ trivial, ⟨.same _ trivial, ⟨.same _ trivial, .same _ trivial⟩⟩⟩⟩⟩⟩⟩⟩⟩⟩
              ·
                try simp only [go_sem]
                exact wkR_typed (rn_some rfl) rfl rfl
            intro n19 s19 o19 h19 he19 hi19
            try simp only [go_sem]
            refine cut_l ?_
            try simp only [go_sem]
            refine ways_d (fun c20 => ?_) (fun c20 => ?_)
            ·
              replace h19 := if_p c20 h19
              obtain ⟨z21, h21, h19⟩ := of_bind h19
              refine cut_z z21 (fun (s : Int × List TGap × List TGap) => [(15, AVal.int IntKind.i64 (Prod.fst s19)), (14, encL 4 encTRect (List.getD a0 (Int.toNat (Prod.fst s15)) default)), (13, AVal.int IntKind.i64 (Prod.fst s15)), (52, AVal.int IntKind.i64 (Prod.fst s15)), (51, AVal.int IntKind.i64 (↑(List.length a0) : Int)), (50, encL 1 (encL 4 encTRect) a0), (12, AVal.sref (0, 0) 0 7 (List.length (Prod.snd (Prod.snd s)))), (5, AVal.int IntKind.i64 (Prod.fst s)), (4, encL 7 encTGap (Prod.fst (Prod.snd s))), (0, encL 1 (encL 4 encTRect) a0), (1, AVal.int IntKind.i64 a1)]) (fun (s : Int × List TGap × List TGap) => { nx := 1, rows := [(0, Ent.one { sz := 7, d := encTGap default, l := List.map encTGap (Prod.snd (Prod.snd s)) : Row })] : Heap }) ?_ (fun e21 hz21 => ?_)
              ·
                try simp only [go_sem]
                obtain ⟨g22, h21⟩ := of_guard h21
                refine ob ⟨by assumption, by simp⟩ ?_
                refine cut_l ?_
                try simp only [go_sem]
                refine ways (fun c23 => ?_) (fun c23 => ?_)
                ·
                  replace h21 := if_t c23 h21
                  try simp only [Bool.and_eq_true, Bool.or_eq_true, Bool.not_eq_true', Bool.not_eq_false', Bool.and_eq_false_imp, Bool.or_eq_false_iff, decide_eq_true_eq, decide_eq_false_iff_not] at c23
                  obtain rfl := Option.some.inj h21
                  refine zend ?_
                  refine wk_of [(0, some 0)] rfl ?_ ?_
                  ·
                    try simp only [go_sem]
                    exact ⟨.same _ trivial, ⟨.same _ trivial, ⟨.same _ trivial, ⟨.same _ trivial, ⟨.same _ trivial, ⟨.same _ trivial, ⟨wkv_sref (rn_some rfl) rfl, ⟨.same _ trivial, ⟨.same _ trivial, ⟨.same _ trivial, .same _ trivial⟩⟩⟩⟩⟩⟩⟩⟩⟩⟩
                  ·
                    try simp only [go_sem]
                    exact wkR_typed (rn_some rfl) rfl rfl
                ·
                  replace h21 := if_f c23 h21
                  try simp only [Bool.and_eq_true, Bool.or_eq_true, Bool.not_eq_true', Bool.not_eq_false', Bool.and_eq_false_imp, Bool.or_eq_false_iff, decide_eq_true_eq, decide_eq_false_iff_not] at c23
                  obtain ⟨g24, h21⟩ := of_guard h21
                  refine ob ⟨by assumption, by assumption⟩ ?_
                  obtain ⟨x25, hx25, h21⟩ := of_bind h21
                  refine call_p false (c_shape_GapOf hx25) ⟨.same _ trivial, .same _ trivial, trivial⟩ nofun ?_
                  try simp only [go_sem]
                  refine cut_l ?_
                  try simp only [go_sem]
                  refine ways_d (fun c26 => ?_) (fun c26 => ?_)
                  ·
                    replace h21 := if_p c26 h21
                    obtain rfl := Option.some.inj h21
                    obtain rfl := Option.some.inj h19
                    obtain rfl := he19 _ rfl
                    obtain rfl := Option.some.inj h15
                    obtain rfl := he15 _ rfl
                    obtain rfl := Option.some.inj h
                    exact wkv_tup ⟨wkv_nilL, .same _ trivial, trivial⟩
                  ·
                    replace h21 := if_n c26 h21
                    refine cut_l ?_
                    try simp only [go_sem]
                    refine ways_d (fun c27 => ?_) (fun c27 => ?_)
                    ·
                      replace h21 := if_p c27 h21
                      obtain ⟨g28, h21⟩ := of_guard h21
                      refine ob ⟨by omega, by assumption⟩ ?_
                      obtain rfl := Option.some.inj h21
                      refine zend ?_
                      refine wk_of [(0, some 6)] rfl ?_ ?_
                      ·
                        try simp only [go_sem]
                        exact ⟨.same _ trivial, ⟨.same _ trivial, ⟨.same _ trivial, ⟨.same _ trivial, ⟨.same _ trivial, ⟨.same _ trivial, ⟨wkv_sref (rn_some rfl) rfl, ⟨.same _ trivial, ⟨.same _ trivial, ⟨.same _ trivial, .same _ trivial⟩⟩⟩⟩⟩⟩⟩⟩⟩⟩
                      ·
                        try simp only [go_sem]
                        exact wkR_typed (rn_some rfl) rfl rfl
                    ·
                      replace h21 := if_n c27 h21
                      obtain rfl := Option.some.inj h21
                      refine zend ?_
                      refine wk_of [(0, some 0)] rfl ?_ ?_
                      ·
                        try simp only [go_sem]
                        exact ⟨.same _ trivial, ⟨.same _ trivial, ⟨.same _ trivial, ⟨.same _ trivial, ⟨.same _ trivial, ⟨.same _ trivial, ⟨wkv_sref (rn_some rfl) rfl, ⟨.same _ trivial, ⟨.same _ trivial, ⟨.same _ trivial, .same _ trivial⟩⟩⟩⟩⟩⟩⟩⟩⟩⟩
                      ·
                        try simp only [go_sem]
                        exact wkR_typed (rn_some rfl) rfl rfl
              subst hz21
              simp only [Sum.elim_inr] at h19
              try simp only [go_sem]
              obtain ⟨⟨g29_0, g29_1⟩, h19⟩ := of_guard h19
              simp only [W64 g29_0 g29_1]
              obtain rfl := Option.some.inj h19
              refine nextL (hi19 _ rfl) ?_
              refine wk_of [(0, some 0)] rfl ?_ ?_
              ·
                try simp only [go_sem]
                exact ⟨.same _ trivial, ⟨.same _ trivial, ⟨.same _ trivial, ⟨.same _ trivial, ⟨.same _ trivial, ⟨.same _ trivial, ⟨wkv_sref (rn_some rfl) rfl, ⟨.same _ trivial, ⟨.same _ trivial, ⟨.same _ trivial, .same _ trivial⟩⟩⟩⟩⟩⟩⟩⟩⟩⟩
              ·
                try simp only [go_sem]
                exact wkR_typed (rn_some rfl) rfl rfl
            ·
              replace h19 := if_n c20 h19
              obtain rfl := Option.some.inj h19
              obtain rfl := he19 _ rfl
              refine zend ?_
              refine wk_of [(0, some 0)] rfl ?_ ?_
              ·
                try simp only [go_sem]
                exact ⟨.same _ trivial, ⟨.same _ trivial, ⟨.same _ trivial, ⟨wkv_sref (rn_some rfl) rfl, ⟨.same _ trivial, ⟨.same _ trivial, ⟨.same _ trivial, .same _ trivial⟩⟩⟩⟩⟩⟩⟩
              ·
                try simp only [go_sem]
                exact wkR_typed (rn_some rfl) rfl rfl
          subst hz17
          simp only [Sum.elim_inr] at h15
          try simp only [go_sem]
          obtain ⟨⟨g30_0, g30_1⟩, h15⟩ := of_guard h15
          simp only [W64 g30_0 g30_1]
          obtain rfl := Option.some.inj h15
          refine nextL (hi15 _ rfl) ?_
          refine wk_of [(0, some 0)] rfl ?_ ?_
          ·
            try simp only [go_sem]
            exact ⟨.same _ trivial, ⟨.same _ trivial, ⟨.same _ trivial, ⟨wkv_sref (rn_some rfl) rfl, ⟨.same _ trivial, ⟨.same _ trivial, ⟨.same _ trivial, .same _ trivial⟩⟩⟩⟩⟩⟩⟩
          ·
            try simp only [go_sem]
            exact wkR_typed (rn_some rfl) rfl rfl
        ·
          replace h15 := if_n c16 h15
          obtain rfl := Option.some.inj h15
          obtain rfl := he15 _ rfl
          refine zend ?_
          refine wk_of [] rfl ?_ ?_
          ·
            try simp only [go_sem]
            exact ⟨wkv_own rfl (rn_notTo rfl) rfl, ⟨.same _ trivial, .same _ trivial⟩⟩
          ·
            try simp only [go_sem]
      subst hz14
      simp only [Sum.elim_inr] at h
      try simp only [go_sem]
      obtain rfl := Option.some.inj h
      exact wkv_same (by simp only [go_sem]) rfl
theorem c_law1_awake {r : Bool} (h : p_law1_awake  = some r)  : PCalls Try.prog 21 [] (.bool r) := by
  unfold p_law1_awake at h
  refine pcalls_of (fun _ => none) (fun _ => []) Try.func21 (by unfold Try.f21; rfl) (by kernel_rfl) (by kernel_rfl) ?_
  simp only [awp_seq]
  simp only [argSlots]
  dsimp only [Try.f21]
  try simp only [go_sem]
  obtain ⟨x0, hx0, h⟩ := of_bind h
  refine call_p true (c_shape_Area hx0) ⟨wkv_own rfl (R0_ne _) rfl, trivial⟩ (fun _ => by simp only [go_sem]) ?_
  try simp only [go_sem]
  obtain rfl := Option.some.inj h
  exact .same _ trivial
theorem c_law1_GapsMatchSpec {a0 : (List (List TRect))} {a1 : Int} {r : Bool} (h : p_law1_GapsMatchSpec a0 a1 = some r)  : PCalls Try.prog 9 [encL 1 (encL 4 encTRect) a0, .int .i64 a1] (.bool r) := by
  unfold p_law1_GapsMatchSpec at h
  refine pcalls_of (fun _ => none) (fun _ => []) Try.func9 (by unfold Try.f9; rfl) (by kernel_rfl) (by kernel_rfl) ?_
  simp only [awp_seq]
  simp only [argSlots]
  dsimp only [Try.f9]
  try simp only [go_sem]
  obtain ⟨x0, hx0, h⟩ := of_bind h
  refine call_p false (c_shape_Gaps hx0) ⟨.same _ trivial, .same _ trivial, trivial⟩ nofun ?_
  try simp only [go_sem]
  obtain ⟨x1, hx1, h⟩ := of_bind h
  refine call_p false (c_ref1_Gaps hx1) ⟨.same _ trivial, .same _ trivial, trivial⟩ nofun ?_
  try simp only [go_sem]
  obtain ⟨x2, hx2, h⟩ := of_bind h
  refine call_p false (c_slices_Equal_Gap hx2) ⟨.same _ trivial, .same _ trivial, trivial⟩ nofun ?_
  try simp only [go_sem]
  obtain ⟨x3, hx3, h⟩ := of_bind h
  refine qcall_p false (fun hg => c_law1_awake (if_t hg hx3)) (fun _ => trivial) nofun ?_
  try simp only [go_sem]
  obtain rfl := Option.some.inj h
  exact .same _ trivial
end Go.Nw
