/- The walks of the functions. -/
import Derived.Test.YtngdglmimlfefaaNwGlue
import Derived.Test.YtngdglmimlfefaaNwDA
import Derived.Test.YtngdglmimlfefaaNwPA0
set_option linter.unusedVariables false
set_option linter.unusedSimpArgs false
set_option maxRecDepth 100000
namespace Go.Nw
open Go.Proofs
theorem c_ref9_CheckPanel {a0 : TPanel} {r : Int} (h : p_ref9_CheckPanel a0 = some r)  : PCalls Try.prog 51 [encTPanel a0] (.int .i64 r) := by
  unfold p_ref9_CheckPanel at h
  refine pcalls_of (ordOf [(13, [0, 1, 2, 3, 5, 7, 8, 4, 6, 9, 10, 11, 12, 13])]) (fun _ => []) Try.func51 (by unfold Try.f51; rfl) (by kernel_rfl) (by kernel_rfl) ?_
  simp only [awp_seq]
  simp only [argSlots]
  dsimp only [Try.f51]
  try simp only [go_sem]
  obtain ⟨x0, hx0, h⟩ := of_bind h
  refine call_p false (c_ref9_within hx0) ⟨.same _ trivial, .same _ trivial, .same _ trivial, trivial⟩ nofun ?_
  try simp only [go_sem]
  obtain ⟨x1, hx1, h⟩ := of_bind h
  refine qcall_p false (fun hg => c_ref9_within (if_t hg hx1)) (fun _ => ⟨.same _ trivial, .same _ trivial, .same _ trivial, trivial⟩) nofun ?_
  try simp only [go_sem]
  refine ob (by simp) ?_
  obtain ⟨x2, hx2, h⟩ := of_bind h
  refine qcall_p false (fun hg => c_ref9_within (if_t hg hx2)) (fun _ => ⟨.same _ trivial, .same _ trivial, .same _ trivial, trivial⟩) nofun ?_
  try simp only [go_sem]
  refine ob (by simp) ?_
  obtain ⟨x3, hx3, h⟩ := of_bind h
  refine qcall_p false (fun hg => c_ref9_within (if_t hg hx3)) (fun _ => ⟨.same _ trivial, .same _ trivial, .same _ trivial, trivial⟩) nofun ?_
  try simp only [go_sem]
  refine ob (by simp) ?_
  refine cut_l ?_
  try simp only [go_sem]
  refine ways (fun c4 => ?_) (fun c4 => ?_)
  ·
    replace h := if_t c4 h
    try simp only [Bool.and_eq_true, Bool.or_eq_true, Bool.not_eq_true', Bool.not_eq_false', Bool.and_eq_false_imp, Bool.or_eq_false_iff, decide_eq_true_eq, decide_eq_false_iff_not] at c4
    obtain rfl := Option.some.inj h
    exact .same _ trivial
  ·
    replace h := if_f c4 h
    try simp only [Bool.and_eq_true, Bool.or_eq_true, Bool.not_eq_true', Bool.not_eq_false', Bool.and_eq_false_imp, Bool.or_eq_false_iff, decide_eq_true_eq, decide_eq_false_iff_not] at c4
    refine cut_l ?_
    try simp only [go_sem]
    refine ways_d (fun c5 => ?_) (fun c5 => ?_)
    ·
      replace h := if_p c5 h
      obtain rfl := Option.some.inj h
      exact .same _ trivial
    ·
      replace h := if_n c5 h
      obtain ⟨z6, h6, h⟩ := of_bind h
      refine cut_z z6 (fun (s : Int × TPanel) => [(2, AVal.int IntKind.i64 (Prod.fst s)), (1, AVal.ptr (0, 0) 7 0 0)]) (fun (s : Int × TPanel) => { nx := 1, rows := [(0, Ent.one { sz := 7, d := encTPanel a0, l := [encTPanel (Prod.snd s)] : Row })] : Heap }) ?_ (fun e6 hz6 => ?_)
      ·
        try simp only [go_sem]
        refine loop_w h6 (fun (s : Int × Int × TPanel) => [(3, AVal.int IntKind.i64 (Prod.fst s)), (2, AVal.int IntKind.i64 (Prod.fst (Prod.snd s))), (1, AVal.ptr (0, 0) 7 0 0)]) (fun (s : Int × Int × TPanel) => { nx := 1, rows := [(0, Ent.one { sz := 7, d := encTPanel a0, l := [encTPanel (Prod.snd (Prod.snd s))] : Row })] : Heap }) ?_ ?_
        ·
          refine wk_of [(0, some 0)] rfl ?_ ?_
          ·
            try simp only [go_sem]
            exact ⟨.same _ trivial, ⟨.same _ trivial, .ptr _ _ _ _ _ (rn_some rfl)⟩⟩
          ·
            try simp only [go_sem]
            exact wkR_box (rn_some rfl) rfl (wkE _)
        intro n7 s7 o7 h7 he7 hi7
        try simp only [go_sem]
        refine cut_l ?_
        try simp only [go_sem]
        refine ways_d (fun c8 => ?_) (fun c8 => ?_)
        ·
          replace h7 := if_p c8 h7
          refine cut_l ?_
          try simp only [go_sem]
          obtain ⟨g9, h7⟩ := of_guard h7
          refine ob ⟨by assumption, by assumption⟩ ?_
          obtain ⟨x10, hx10, h7⟩ := of_bind h7
          refine call_p false (c_ref3_IsName hx10) ⟨.same _ trivial, trivial⟩ nofun ?_
          try simp only [go_sem]
          refine cut_l ?_
          try simp only [go_sem]
          refine ways (fun c11 => ?_) (fun c11 => ?_)
          ·
            replace h7 := if_t c11 h7
            try simp only [Bool.and_eq_true, Bool.or_eq_true, Bool.not_eq_true', Bool.not_eq_false', Bool.and_eq_false_imp, Bool.or_eq_false_iff, decide_eq_true_eq, decide_eq_false_iff_not] at c11
            obtain rfl := Option.some.inj h7
            obtain rfl := he7 _ rfl
            obtain rfl := Option.some.inj h
            exact .same _ trivial
          ·
            replace h7 := if_f c11 h7
            try simp only [Bool.and_eq_true, Bool.or_eq_true, Bool.not_eq_true', Bool.not_eq_false', Bool.and_eq_false_imp, Bool.or_eq_false_iff, decide_eq_true_eq, decide_eq_false_iff_not] at c11
            obtain ⟨x12, hx12, h7⟩ := of_bind h7
            refine call_p false (c_ref9_within hx12) ⟨.same _ trivial, .same _ trivial, .same _ trivial, trivial⟩ nofun ?_
            try simp only [go_sem]
            obtain ⟨x13, hx13, h7⟩ := of_bind h7
            refine qcall_p false (fun hg => c_ref9_within (if_t hg hx13)) (fun _ => ⟨.same _ trivial, .same _ trivial, .same _ trivial, trivial⟩) nofun ?_
            try simp only [go_sem]
            refine ob (by simp) ?_
            refine cut_l ?_
            try simp only [go_sem]
            refine ways (fun c14 => ?_) (fun c14 => ?_)
            ·
              replace h7 := if_t c14 h7
              try simp only [Bool.and_eq_true, Bool.or_eq_true, Bool.not_eq_true', Bool.not_eq_false', Bool.and_eq_false_imp, Bool.or_eq_false_iff, decide_eq_true_eq, decide_eq_false_iff_not] at c14
              obtain rfl := Option.some.inj h7
              obtain rfl := he7 _ rfl
              obtain rfl := Option.some.inj h
              exact .same _ trivial
            ·
              replace h7 := if_f c14 h7
              try simp only [Bool.and_eq_true, Bool.or_eq_true, Bool.not_eq_true', Bool.not_eq_false', Bool.and_eq_false_imp, Bool.or_eq_false_iff, decide_eq_true_eq, decide_eq_false_iff_not] at c14
              obtain ⟨⟨g15_0, g15_1⟩, h7⟩ := of_guard h7
              simp only [W64 g15_0 g15_1]
              obtain ⟨g16, h7⟩ := of_guard h7
              refine ob (by assumption) ?_
              refine cut_l ?_
              try simp only [go_sem]
              refine ways (fun c17 => ?_) (fun c17 => ?_)
              ·
                replace h7 := if_t c17 h7
                try simp only [Bool.and_eq_true, Bool.or_eq_true, Bool.not_eq_true', Bool.not_eq_false', Bool.and_eq_false_imp, Bool.or_eq_false_iff, decide_eq_true_eq, decide_eq_false_iff_not] at c17
                obtain rfl := Option.some.inj h7
                obtain rfl := he7 _ rfl
                obtain rfl := Option.some.inj h
                exact .same _ trivial
              ·
                replace h7 := if_f c17 h7
                try simp only [Bool.and_eq_true, Bool.or_eq_true, Bool.not_eq_true', Bool.not_eq_false', Bool.and_eq_false_imp, Bool.or_eq_false_iff, decide_eq_true_eq, decide_eq_false_iff_not] at c17
                obtain ⟨⟨g18_0, g18_1⟩, h7⟩ := of_guard h7
                simp only [W64 g18_0 g18_1]
                obtain rfl := Option.some.inj h7
                refine nextL (hi7 _ rfl) ?_
                refine wk_of [(0, some 0)] rfl ?_ ?_
                ·
                  try simp only [go_sem]
                  exact ⟨.same _ trivial, ⟨.same _ trivial, .ptr _ _ _ _ _ (rn_some rfl)⟩⟩
                ·
                  try simp only [go_sem]
                  exact wkR_box (rn_some rfl) rfl (wkE _)
        ·
          replace h7 := if_n c8 h7
          obtain rfl := Option.some.inj h7
          obtain rfl := he7 _ rfl
          refine zend ?_
          refine wk_of [(0, some 0)] rfl ?_ ?_
          ·
            try simp only [go_sem]
            exact ⟨.same _ trivial, .ptr _ _ _ _ _ (rn_some rfl)⟩
          ·
            try simp only [go_sem]
            exact wkR_box (rn_some rfl) rfl (wkE _)
      subst hz6
      simp only [Sum.elim_inr] at h
      try simp only [go_sem]
      refine cut_l ?_
      try simp only [go_sem]
      refine ways_d (fun c19 => ?_) (fun c19 => ?_)
      ·
        replace h := if_p c19 h
        obtain rfl := Option.some.inj h
        exact .same _ trivial
      ·
        replace h := if_n c19 h
        obtain ⟨z20, h20, h⟩ := of_bind h
        refine cut_z z20 (fun (s : Int) => [(2, AVal.int IntKind.i64 s), (1, AVal.ptr (0, 0) 7 0 0)]) (fun (s : Int) => { nx := 1, rows := [(0, Ent.one { sz := 7, d := encTPanel a0, l := [encTPanel (Prod.snd e6)] : Row })] : Heap }) ?_ (fun e20 hz20 => ?_)
        ·
          try simp only [go_sem]
          refine loop_w h20 (fun (s : Int × Int) => [(5, AVal.int IntKind.i64 (Prod.fst s)), (2, AVal.int IntKind.i64 (Prod.snd s)), (1, AVal.ptr (0, 0) 7 0 0)]) (fun (s : Int × Int) => { nx := 1, rows := [(0, Ent.one { sz := 7, d := encTPanel a0, l := [encTPanel (Prod.snd e6)] : Row })] : Heap }) ?_ ?_
          ·
            refine wk_of [(0, some 0)] rfl ?_ ?_
            ·
              try simp only [go_sem]
              exact ⟨.same _ trivial, ⟨.same _ trivial, .ptr _ _ _ _ _ (rn_some rfl)⟩⟩
            ·
              try simp only [go_sem]
              exact wkR_box (rn_some rfl) rfl (wkE _)
          intro n21 s21 o21 h21 he21 hi21
          try simp only [go_sem]
          refine cut_l ?_
          try simp only [go_sem]
          refine ways_d (fun c22 => ?_) (fun c22 => ?_)
          ·
            replace h21 := if_p c22 h21
            refine cut_l ?_
            try simp only [go_sem]
            obtain ⟨x23, hx23, h21⟩ := of_bind h21
            refine call_p false (c_ref9_checkSlot hx23) ⟨wkE _, .same _ trivial, trivial⟩ nofun ?_
            try simp only [go_sem]
            refine cut_l ?_
            try simp only [go_sem]
            refine ways_n (fun c24 => ?_) (fun c24 => ?_)
            ·
              replace h21 := if_n c24 h21
              obtain rfl := Option.some.inj h21
              obtain rfl := he21 _ rfl
              obtain rfl := Option.some.inj h
              exact .same _ trivial
            ·
              replace h21 := if_p c24 h21
              obtain ⟨⟨g25_0, g25_1⟩, h21⟩ := of_guard h21
              simp only [W64 g25_0 g25_1]
              obtain rfl := Option.some.inj h21
              refine nextL (hi21 _ rfl) ?_
              refine wk_of [(0, some 0)] rfl ?_ ?_
              ·
                try simp only [go_sem]
                exact ⟨.same _ trivial, ⟨.same _ trivial, .ptr _ _ _ _ _ (rn_some rfl)⟩⟩
              ·
                try simp only [go_sem]
                exact wkR_box (rn_some rfl) rfl (wkE _)
          ·
            replace h21 := if_n c22 h21
            obtain rfl := Option.some.inj h21
            obtain rfl := he21 _ rfl
            refine zend ?_
            refine wk_of [(0, some 0)] rfl ?_ ?_
            ·
              try simp only [go_sem]
              exact ⟨.same _ trivial, .ptr _ _ _ _ _ (rn_some rfl)⟩
            ·
              try simp only [go_sem]
              exact wkR_box (rn_some rfl) rfl (wkE _)
        subst hz20
        simp only [Sum.elim_inr] at h
        try simp only [go_sem]
        refine cut_l ?_
        try simp only [go_sem]
        refine ways_d (fun c26 => ?_) (fun c26 => ?_)
        ·
          replace h := if_p c26 h
          obtain rfl := Option.some.inj h
          exact .same _ trivial
        ·
          replace h := if_n c26 h
          obtain ⟨z27, h27, h⟩ := of_bind h
          refine cut_z z27 (fun (s : Int) => [(2, AVal.int IntKind.i64 s)]) (fun (s : Int) => { nx := 1, rows := [] : Heap }) ?_ (fun e27 hz27 => ?_)
          ·
            try simp only [go_sem]
            refine loop_w h27 (fun (s : Int × Int) => [(7, AVal.int IntKind.i64 (Prod.fst s)), (2, AVal.int IntKind.i64 (Prod.snd s)), (1, AVal.ptr (0, 0) 7 0 0)]) (fun (s : Int × Int) => { nx := 1, rows := [(0, Ent.one { sz := 7, d := encTPanel a0, l := [encTPanel (Prod.snd e6)] : Row })] : Heap }) ?_ ?_
            ·
              refine wk_of [(0, some 0)] rfl ?_ ?_
              ·
                try simp only [go_sem]
                exact ⟨.same _ trivial, ⟨.same _ trivial, .ptr _ _ _ _ _ (rn_some rfl)⟩⟩
              ·
                try simp only [go_sem]
                exact wkR_box (rn_some rfl) rfl (wkE _)
            intro n28 s28 o28 h28 he28 hi28
            try simp only [go_sem]
            refine cut_l ?_
            try simp only [go_sem]
            refine ways_d (fun c29 => ?_) (fun c29 => ?_)
            ·
              replace h28 := if_p c29 h28
              refine cut_l ?_
              try simp only [go_sem]
              obtain ⟨x30, hx30, h28⟩ := of_bind h28
              refine call_p false (c_ref9_checkMark hx30) ⟨wkE _, .same _ trivial, trivial⟩ nofun ?_
              try simp only [go_sem]
              refine cut_l ?_
              try simp only [go_sem]
              refine ways_n (fun c31 => ?_) (fun c31 => ?_)
              ·
                replace h28 := if_n c31 h28
                obtain rfl := Option.some.inj h28
                obtain rfl := he28 _ rfl
                obtain rfl := Option.some.inj h
                exact .same _ trivial
              ·
                replace h28 := if_p c31 h28
                obtain ⟨⟨g32_0, g32_1⟩, h28⟩ := of_guard h28
                simp only [W64 g32_0 g32_1]
                obtain rfl := Option.some.inj h28
                refine nextL (hi28 _ rfl) ?_
                refine wk_of [(0, some 0)] rfl ?_ ?_
                ·
                  try simp only [go_sem]
                  exact ⟨.same _ trivial, ⟨.same _ trivial, .ptr _ _ _ _ _ (rn_some rfl)⟩⟩
                ·
                  try simp only [go_sem]
                  exact wkR_box (rn_some rfl) rfl (wkE _)
            ·
              replace h28 := if_n c29 h28
              obtain rfl := Option.some.inj h28
              obtain rfl := he28 _ rfl
              refine zend ?_
              refine wk_of [] rfl ?_ ?_
              ·
                try simp only [go_sem]
                exact .same _ trivial
              ·
                try simp only [go_sem]
          subst hz27
          simp only [Sum.elim_inr] at h
          try simp only [go_sem]
          obtain rfl := Option.some.inj h
          exact .same _ trivial
theorem c_shape_CheckTurn {a0 : TTurn} {r : Int} (h : p_shape_CheckTurn a0 = some r)  : PCalls Try.prog 39 [encTTurn a0] (.int .i64 r) := by
  unfold p_shape_CheckTurn at h
  refine pcalls_of (fun _ => none) (fun _ => []) Try.func39 (by unfold Try.f39; rfl) (by kernel_rfl) (by kernel_rfl) ?_
  simp only [awp_seq]
  simp only [argSlots]
  dsimp only [Try.f39]
  try simp only [go_sem]
  obtain ⟨x0, hx0, h⟩ := of_bind h
  refine call_p false (c_shape_within hx0) ⟨.same _ trivial, .same _ trivial, .same _ trivial, trivial⟩ nofun ?_
  try simp only [go_sem]
  obtain ⟨x1, hx1, h⟩ := of_bind h
  refine qcall_p false (fun hg => c_shape_IsPoint (if_t hg hx1)) (fun _ => ⟨wkE _, trivial⟩) nofun ?_
  try simp only [go_sem]
  refine ob (by simp) ?_
  refine cut_l ?_
  try simp only [go_sem]
  refine ways (fun c2 => ?_) (fun c2 => ?_)
  ·
    replace h := if_t c2 h
    try simp only [Bool.and_eq_true, Bool.or_eq_true, Bool.not_eq_true', Bool.not_eq_false', Bool.and_eq_false_imp, Bool.or_eq_false_iff, decide_eq_true_eq, decide_eq_false_iff_not] at c2
    obtain rfl := Option.some.inj h
    exact .same _ trivial
  ·
    replace h := if_f c2 h
    try simp only [Bool.and_eq_true, Bool.or_eq_true, Bool.not_eq_true', Bool.not_eq_false', Bool.and_eq_false_imp, Bool.or_eq_false_iff, decide_eq_true_eq, decide_eq_false_iff_not] at c2
    obtain rfl := Option.some.inj h
    exact .same _ trivial
theorem c_panel_open {a0 : TPanel} {r : (List TRect) × Int} (h : p_panel_open a0 = some r)  : PCalls Try.prog 49 [encTPanel a0] (tup [encL 4 encTRect r.1, .int .i64 r.2]) := by
  unfold p_panel_open at h
  refine pcalls_of (ordOf [(18, [0, 2, 1, 3, 4, 5, 6])]) (fun _ => []) Try.func49 (by unfold Try.f49; rfl) (by kernel_rfl) (by kernel_rfl) ?_
  simp only [awp_seq]
  simp only [argSlots]
  dsimp only [Try.f49]
  try simp only [go_sem]
  obtain ⟨x0, hx0, h⟩ := of_bind h
  refine call_p false (c_panel_within hx0) ⟨.same _ trivial, .same _ trivial, .same _ trivial, trivial⟩ nofun ?_
  try simp only [go_sem]
  obtain ⟨x1, hx1, h⟩ := of_bind h
  refine qcall_p false (fun hg => c_panel_within (if_t hg hx1)) (fun _ => ⟨.same _ trivial, .same _ trivial, .same _ trivial, trivial⟩) nofun ?_
  try simp only [go_sem]
  refine ob (by simp) ?_
  obtain ⟨x2, hx2, h⟩ := of_bind h
  refine qcall_p false (fun hg => c_panel_within (if_t hg hx2)) (fun _ => ⟨.same _ trivial, .same _ trivial, .same _ trivial, trivial⟩) nofun ?_
  try simp only [go_sem]
  refine ob (by simp) ?_
  obtain ⟨x3, hx3, h⟩ := of_bind h
  refine qcall_p false (fun hg => c_panel_within (if_t hg hx3)) (fun _ => ⟨.same _ trivial, .same _ trivial, .same _ trivial, trivial⟩) nofun ?_
  try simp only [go_sem]
  refine ob (by simp) ?_
  refine cut_l ?_
  try simp only [go_sem]
  refine ways (fun c4 => ?_) (fun c4 => ?_)
  ·
    replace h := if_t c4 h
    try simp only [Bool.and_eq_true, Bool.or_eq_true, Bool.not_eq_true', Bool.not_eq_false', Bool.and_eq_false_imp, Bool.or_eq_false_iff, decide_eq_true_eq, decide_eq_false_iff_not] at c4
    obtain rfl := Option.some.inj h
    exact wkv_tup ⟨wkv_nilL, .same _ trivial, trivial⟩
  ·
    replace h := if_f c4 h
    try simp only [Bool.and_eq_true, Bool.or_eq_true, Bool.not_eq_true', Bool.not_eq_false', Bool.and_eq_false_imp, Bool.or_eq_false_iff, decide_eq_true_eq, decide_eq_false_iff_not] at c4
    obtain ⟨x5, hx5, h⟩ := of_bind h
    refine call_p false (c_panel_checkKinds hx5) ⟨.same _ trivial, trivial⟩ nofun ?_
    try simp only [go_sem]
    refine cut_l ?_
    try simp only [go_sem]
    refine ways_n (fun c6 => ?_) (fun c6 => ?_)
    ·
      replace h := if_n c6 h
      obtain rfl := Option.some.inj h
      exact wkv_tup ⟨wkv_nilL, .same _ trivial, trivial⟩
    ·
      replace h := if_p c6 h
      obtain ⟨x7, hx7, h⟩ := of_bind h
      refine call_p false (c_panel_cells hx7) ⟨wkE _, trivial⟩ nofun ?_
      try simp only [go_sem]
      refine cut_l ?_
      try simp only [go_sem]
      refine ways_n (fun c8 => ?_) (fun c8 => ?_)
      ·
        replace h := if_n c8 h
        obtain rfl := Option.some.inj h
        exact wkv_tup ⟨wkv_nilL, .same _ trivial, trivial⟩
      ·
        replace h := if_p c8 h
        refine cut_l ?_
        try simp only [go_sem]
        refine ways_d (fun c9 => ?_) (fun c9 => ?_)
        ·
          replace h := if_p c9 h
          obtain rfl := Option.some.inj h
          exact wkv_tup ⟨wkv_nilL, .same _ trivial, trivial⟩
        ·
          replace h := if_n c9 h
          obtain ⟨z10, h10, h⟩ := of_bind h
          refine cut_z z10 (fun (s : Int × List TRect) => [(5, encL 4 encTRect (Prod.fst x7)), (3, AVal.int IntKind.i64 (Prod.fst s)), (2, encL 4 encTRect (Prod.snd s))]) (fun (s : Int × List TRect) => { nx := 1, rows := [] : Heap }) ?_ (fun e10 hz10 => ?_)
          ·
            try simp only [go_sem]
            refine loop_w h10 (fun (s : Int × Int × List TRect × TPanel) => [(52, AVal.int IntKind.i64 (Prod.fst s)), (51, AVal.int IntKind.i64 (↑(List.length (TPanel.Marks a0)) : Int)), (50, encL 2 encTPoint (TPanel.Marks a0)), (5, encL 4 encTRect (Prod.fst x7)), (3, AVal.int IntKind.i64 (Prod.fst (Prod.snd s))), (2, encL 4 encTRect (Prod.fst (Prod.snd (Prod.snd s)))), (1, AVal.ptr (0, 0) 7 0 0)]) (fun (s : Int × Int × List TRect × TPanel) => { nx := 1, rows := [(0, Ent.one { sz := 7, d := encTPanel a0, l := [encTPanel (Prod.snd (Prod.snd (Prod.snd s)))] : Row })] : Heap }) ?_ ?_
            ·
              refine wk_of [(0, some 0)] rfl ?_ ?_
              ·
                try simp only [go_sem]
                exact ⟨.same _ trivial, ⟨.same _ trivial, ⟨.same _ trivial, ⟨.same _ trivial, ⟨.same _ trivial, ⟨wkv_nilL, .ptr _ _ _ _ _ (rn_some rfl)⟩⟩⟩⟩⟩⟩
              ·
                try simp only [go_sem]
                exact wkR_box (rn_some rfl) rfl (wkE _)
            intro n11 s11 o11 h11 he11 hi11
            try simp only [go_sem]
            refine cut_l ?_
            try simp only [go_sem]
            refine ways_d (fun c12 => ?_) (fun c12 => ?_)
            ·
              replace h11 := if_p c12 h11
              refine cut_l ?_
              try simp only [go_sem]
              obtain ⟨g13, h11⟩ := of_guard h11
              refine ob ⟨by assumption, by assumption⟩ ?_
              refine cut_l ?_
              try simp only [go_sem]
              obtain ⟨x14, hx14, h11⟩ := of_bind h11
              refine call_p false (c_panel_isOnPanel hx14) ⟨wkE _, wkE _, trivial⟩ nofun ?_
              try simp only [go_sem]
              refine cut_l ?_
              try simp only [go_sem]
              refine ways (fun c15 => ?_) (fun c15 => ?_)
              ·
                replace h11 := if_t c15 h11
                try simp only [Bool.and_eq_true, Bool.or_eq_true, Bool.not_eq_true', Bool.not_eq_false', Bool.and_eq_false_imp, Bool.or_eq_false_iff, decide_eq_true_eq, decide_eq_false_iff_not] at c15
                obtain rfl := Option.some.inj h11
                obtain rfl := he11 _ rfl
                obtain rfl := Option.some.inj h
                exact wkv_tup ⟨wkv_nilL, .same _ trivial, trivial⟩
              ·
                replace h11 := if_f c15 h11
                try simp only [Bool.and_eq_true, Bool.or_eq_true, Bool.not_eq_true', Bool.not_eq_false', Bool.and_eq_false_imp, Bool.or_eq_false_iff, decide_eq_true_eq, decide_eq_false_iff_not] at c15
                obtain ⟨x16, hx16, h11⟩ := of_bind h11
                refine call_p true (c_slices_ContainsFunc_Rect hx16 (by simp only [go_sem]) (fun _ _ h => c_panel_open_1 h)) ⟨.same _ trivial, wkv_fnA rfl ⟨wkv_box rfl (R0_ne _) rfl (by simp only [go_sem]) (wkE _), trivial⟩, trivial⟩ (fun _ => by simp only [go_sem]) ?_
                refine cut_l ?_
                try simp only [go_sem]
                refine ways (fun c17 => ?_) (fun c17 => ?_)
                ·
                  replace h11 := if_t c17 h11
                  try simp only [Bool.and_eq_true, Bool.or_eq_true, Bool.not_eq_true', Bool.not_eq_false', Bool.and_eq_false_imp, Bool.or_eq_false_iff, decide_eq_true_eq, decide_eq_false_iff_not] at c17
                  obtain rfl := Option.some.inj h11
                  obtain rfl := he11 _ rfl
                  obtain rfl := Option.some.inj h
                  exact wkv_tup ⟨wkv_nilL, .same _ trivial, trivial⟩
                ·
                  replace h11 := if_f c17 h11
                  try simp only [Bool.and_eq_true, Bool.or_eq_true, Bool.not_eq_true', Bool.not_eq_false', Bool.and_eq_false_imp, Bool.or_eq_false_iff, decide_eq_true_eq, decide_eq_false_iff_not] at c17
                  obtain ⟨g18, h11⟩ := of_guard h11
                  refine ob ⟨by assumption, by assumption⟩ ?_
                  obtain ⟨x19, hx19, h11⟩ := of_bind h11
                  refine qcall_p false (fun _ => c_slices_Contains_Point hx19) (fun _ => ⟨.same _ trivial, wkE _, trivial⟩) nofun ?_
                  refine cut_l ?_
                  try simp only [go_sem]
                  refine ways (fun c20 => ?_) (fun c20 => ?_)
                  ·
                    replace h11 := if_t c20 h11
                    try simp only [Bool.and_eq_true, Bool.or_eq_true, Bool.not_eq_true', Bool.not_eq_false', Bool.and_eq_false_imp, Bool.or_eq_false_iff, decide_eq_true_eq, decide_eq_false_iff_not] at c20
                    obtain rfl := Option.some.inj h11
                    obtain rfl := he11 _ rfl
                    obtain rfl := Option.some.inj h
                    exact wkv_tup ⟨wkv_nilL, .same _ trivial, trivial⟩
                  ·
                    replace h11 := if_f c20 h11
                    try simp only [Bool.and_eq_true, Bool.or_eq_true, Bool.not_eq_true', Bool.not_eq_false', Bool.and_eq_false_imp, Bool.or_eq_false_iff, decide_eq_true_eq, decide_eq_false_iff_not] at c20
                    simp only [W64 (n := Prod.fst s11 + 1) (by omega) (by omega)]
                    obtain rfl := Option.some.inj h11
                    refine nextL (hi11 _ rfl) ?_
                    refine wk_of [(0, some 0)] rfl ?_ ?_
                    ·
                      try simp only [go_sem]
                      exact ⟨.same _ trivial, ⟨.same _ trivial, ⟨.same _ trivial, ⟨.same _ trivial, ⟨.same _ trivial, ⟨.same _ trivial, .ptr _ _ _ _ _ (rn_some rfl)⟩⟩⟩⟩⟩⟩
                    ·
                      try simp only [go_sem]
                      exact wkR_box (rn_some rfl) rfl (wkE _)
            ·
              replace h11 := if_n c12 h11
              obtain rfl := Option.some.inj h11
              obtain rfl := he11 _ rfl
              refine zend ?_
              refine wk_of [] rfl ?_ ?_
              ·
                try simp only [go_sem]
                exact ⟨.same _ trivial, ⟨.same _ trivial, .same _ trivial⟩⟩
              ·
                try simp only [go_sem]
          subst hz10
          simp only [Sum.elim_inr] at h
          try simp only [go_sem]
          obtain rfl := Option.some.inj h
          exact wkv_same (by simp only [go_sem]) rfl
theorem c_ref9_SlotTurn {a0 : TPanel} {a1 : Int} {r : TTurn × Int} (h : p_ref9_SlotTurn a0 a1 = some r)  : PCalls Try.prog 22 [encTPanel a0, .int .i64 a1] (tup [encTTurn r.1, .int .i64 r.2]) := by
  unfold p_ref9_SlotTurn at h
  refine pcalls_of (ordOf [(6, [1, 3, 0, 2, 4, 5, 6, 7, 8])]) (fun _ => []) Try.func22 (by unfold Try.f22; rfl) (by kernel_rfl) (by kernel_rfl) ?_
  simp only [awp_seq]
  simp only [argSlots]
  dsimp only [Try.f22]
  try simp only [go_sem]
  obtain ⟨x0, hx0, h⟩ := of_bind h
  refine call_p false (c_ref9_CheckPanel hx0) ⟨wkE _, trivial⟩ nofun ?_
  try simp only [go_sem]
  refine cut_l ?_
  try simp only [go_sem]
  refine ways_n (fun c1 => ?_) (fun c1 => ?_)
  ·
    replace h := if_n c1 h
    obtain rfl := Option.some.inj h
    exact wkv_same (by simp only [go_sem]) rfl
  ·
    replace h := if_p c1 h
    obtain ⟨⟨g2_0, g2_1⟩, h⟩ := of_guard h
    simp only [W64 g2_0 g2_1]
    obtain ⟨x3, hx3, h⟩ := of_bind h
    refine call_p false (c_ref9_within hx3) ⟨.same _ trivial, .same _ trivial, .same _ trivial, trivial⟩ nofun ?_
    try simp only [go_sem]
    refine cut_l ?_
    try simp only [go_sem]
    refine ways (fun c4 => ?_) (fun c4 => ?_)
    ·
      replace h := if_t c4 h
      try simp only [Bool.and_eq_true, Bool.or_eq_true, Bool.not_eq_true', Bool.not_eq_false', Bool.and_eq_false_imp, Bool.or_eq_false_iff, decide_eq_true_eq, decide_eq_false_iff_not] at c4
      obtain rfl := Option.some.inj h
      exact wkv_same (by simp only [go_sem]) rfl
    ·
      replace h := if_f c4 h
      try simp only [Bool.and_eq_true, Bool.or_eq_true, Bool.not_eq_true', Bool.not_eq_false', Bool.and_eq_false_imp, Bool.or_eq_false_iff, decide_eq_true_eq, decide_eq_false_iff_not] at c4
      obtain ⟨⟨g5_0, g5_1⟩, h⟩ := of_guard h
      refine ob ⟨by assumption, by assumption⟩ ?_
      obtain ⟨x6, hx6, h⟩ := of_bind h
      refine qcall_p false (fun _ => c_ref9_turnOf hx6) (fun _ => ⟨wkE _, wkE _, trivial⟩) nofun ?_
      try simp only [go_sem]
      obtain rfl := Option.some.inj h
      exact wkv_same (by simp only [go_sem]) rfl
theorem c_ref9_ToBoard {a0 : TPanel} {a1 : TPoint} {r : Int × TPoint × Bool × Int} (h : p_ref9_ToBoard a0 a1 = some r)  : PCalls Try.prog 26 [encTPanel a0, encTPoint a1] (tup [.int .i64 r.1, encTPoint r.2.1, .bool r.2.2.1, .int .i64 r.2.2.2]) := by
  unfold p_ref9_ToBoard at h
  refine pcalls_of (ordOf [(9, [1, 3, 0, 2, 4, 5, 6, 7, 8]), (11, [1, 3, 0, 2, 4, 5, 6, 7, 8])]) (fun _ => []) Try.func26 (by unfold Try.f26; rfl) (by kernel_rfl) (by kernel_rfl) ?_
  simp only [awp_seq]
  simp only [argSlots]
  dsimp only [Try.f26]
  try simp only [go_sem]
  obtain ⟨x0, hx0, h⟩ := of_bind h
  refine call_p false (c_ref9_CheckPanel hx0) ⟨wkE _, trivial⟩ nofun ?_
  try simp only [go_sem]
  refine cut_l ?_
  try simp only [go_sem]
  refine ways_n (fun c1 => ?_) (fun c1 => ?_)
  ·
    replace h := if_n c1 h
    obtain rfl := Option.some.inj h
    exact wkv_same (by simp only [go_sem]) rfl
  ·
    replace h := if_p c1 h
    obtain ⟨x2, hx2, h⟩ := of_bind h
    refine call_p false (c_ref9_within hx2) ⟨.same _ trivial, .same _ trivial, .same _ trivial, trivial⟩ nofun ?_
    try simp only [go_sem]
    obtain ⟨x3, hx3, h⟩ := of_bind h
    refine qcall_p false (fun hg => c_ref9_within (if_t hg hx3)) (fun _ => ⟨.same _ trivial, .same _ trivial, .same _ trivial, trivial⟩) nofun ?_
    try simp only [go_sem]
    refine ob (by simp) ?_
    refine cut_l ?_
    try simp only [go_sem]
    refine ways (fun c4 => ?_) (fun c4 => ?_)
    ·
      replace h := if_t c4 h
      try simp only [Bool.and_eq_true, Bool.or_eq_true, Bool.not_eq_true', Bool.not_eq_false', Bool.and_eq_false_imp, Bool.or_eq_false_iff, decide_eq_true_eq, decide_eq_false_iff_not] at c4
      obtain rfl := Option.some.inj h
      exact wkv_same (by simp only [go_sem]) rfl
    ·
      replace h := if_f c4 h
      try simp only [Bool.and_eq_true, Bool.or_eq_true, Bool.not_eq_true', Bool.not_eq_false', Bool.and_eq_false_imp, Bool.or_eq_false_iff, decide_eq_true_eq, decide_eq_false_iff_not] at c4
      obtain ⟨z5, h5, h⟩ := of_bind h
      refine cut_z z5 (fun (s : Int × Bool × Int × TPoint) => [(7, AVal.int IntKind.i64 (Prod.fst s)), (6, AVal.bool (Prod.fst (Prod.snd s))), (5, AVal.ptr (2, 0) 2 0 0), (4, AVal.int IntKind.i64 (Prod.fst (Prod.snd (Prod.snd s))))]) (fun (s : Int × Bool × Int × TPoint) => { nx := 3, rows := [(2, Ent.one { sz := 2, d := encTPoint { : TPoint }, l := [encTPoint (Prod.snd (Prod.snd (Prod.snd s)))] : Row })] : Heap }) ?_ (fun e5 hz5 => ?_)
      ·
        try simp only [go_sem]
        refine loop_w h5 (fun (s : Int × Int × Bool × Int × TPoint × TPoint × TPanel) => [(9, AVal.int IntKind.i64 (Prod.fst s)), (7, AVal.int IntKind.i64 (Prod.fst (Prod.snd s))), (6, AVal.bool (Prod.fst (Prod.snd (Prod.snd s)))), (5, AVal.ptr (2, 0) 2 0 0), (4, AVal.int IntKind.i64 (Prod.fst (Prod.snd (Prod.snd (Prod.snd s))))), (3, AVal.ptr (1, 0) 2 0 0), (2, AVal.ptr (0, 0) 7 0 0)]) (fun (s : Int × Int × Bool × Int × TPoint × TPoint × TPanel) => { nx := 3, rows := [(2, Ent.one { sz := 2, d := encTPoint { : TPoint }, l := [encTPoint (Prod.fst (Prod.snd (Prod.snd (Prod.snd (Prod.snd s)))))] : Row }), (1, Ent.one { sz := 2, d := encTPoint a1, l := [encTPoint (Prod.fst (Prod.snd (Prod.snd (Prod.snd (Prod.snd (Prod.snd s))))))] : Row }), (0, Ent.one { sz := 7, d := encTPanel a0, l := [encTPanel (Prod.snd (Prod.snd (Prod.snd (Prod.snd (Prod.snd (Prod.snd s))))))] : Row })] : Heap }) ?_ ?_
        ·
          refine wk_of [(2, some 2), (1, some 1), (0, some 0)] rfl ?_ ?_
          ·
            try simp only [go_sem]
            exact ⟨.same _ trivial, ⟨.same _ trivial, ⟨.same _ trivial, ⟨.ptr _ _ _ _ _ (rn_some rfl), ⟨.same _ trivial, ⟨.ptr _ _ _ _ _ (rn_some rfl), .ptr _ _ _ _ _ (rn_some rfl)⟩⟩⟩⟩⟩⟩
          ·
            try simp only [go_sem]
            exact ⟨wkR_box (rn_some rfl) rfl (wkE _), ⟨wkR_box (rn_some rfl) rfl (wkE _), wkR_box (rn_some rfl) rfl (wkE _)⟩⟩
        intro n6 s6 o6 h6 he6 hi6
        try simp only [go_sem]
        refine cut_l ?_
        try simp only [go_sem]
        refine ways_d (fun c7 => ?_) (fun c7 => ?_)
        ·
          replace h6 := if_p c7 h6
          refine cut_l ?_
          try simp only [go_sem]
          obtain ⟨g8, h6⟩ := of_guard h6
          refine ob ⟨by assumption, by assumption⟩ ?_
          obtain ⟨x9, hx9, h6⟩ := of_bind h6
          refine qcall_p false (fun _ => c_ref9_cellOf hx9) (fun _ => ⟨wkE _, wkE _, trivial⟩) nofun ?_
          try simp only [go_sem]
          obtain ⟨x10, hx10, h6⟩ := of_bind h6
          refine call_p false (c_ref9_within hx10) ⟨.same _ trivial, .same _ trivial, .same _ trivial, trivial⟩ nofun ?_
          try simp only [go_sem]
          obtain ⟨x11, hx11, h6⟩ := of_bind h6
          refine qcall_p false (fun hg => c_ref9_within (if_t hg hx11)) (fun _ => ⟨.same _ trivial, .same _ trivial, .same _ trivial, trivial⟩) nofun ?_
          try simp only [go_sem]
          refine cut_l ?_
          try simp only [go_sem]
          refine ways (fun c12 => ?_) (fun c12 => ?_)
          ·
            replace h6 := if_t c12 h6
            try simp only [Bool.and_eq_true, Bool.or_eq_true, Bool.not_eq_true', Bool.not_eq_false', Bool.and_eq_false_imp, Bool.or_eq_false_iff, decide_eq_true_eq, decide_eq_false_iff_not] at c12
            refine ob ⟨by assumption, by assumption⟩ ?_
            obtain ⟨x13, hx13, h6⟩ := of_bind h6
            refine qcall_p false (fun _ => c_ref9_turnOf hx13) (fun _ => ⟨wkE _, wkE _, trivial⟩) nofun ?_
            try simp only [go_sem]
            refine ob (by omega) ?_
            obtain ⟨⟨g14_0, g14_1⟩, h6⟩ := of_guard h6
            simp only [W64 g14_0 g14_1]
            obtain ⟨⟨g15_0, g15_1⟩, h6⟩ := of_guard h6
            simp only [W64 g15_0 g15_1]
            obtain ⟨⟨g16_0, g16_1⟩, h6⟩ := of_guard h6
            simp only [W64 g16_0 g16_1]
            obtain ⟨x17, hx17, h6⟩ := of_bind h6
            refine call_p false (c_ref1_TurnPoint hx17) ⟨wkE _, wkE _, trivial⟩ nofun ?_
            try simp only [go_sem]
            obtain rfl := Option.some.inj h6
            obtain rfl := he6 _ rfl
            obtain rfl := Option.some.inj h
            exact wkv_same (by simp only [go_sem]) rfl
          ·
            replace h6 := if_f c12 h6
            try simp only [Bool.and_eq_true, Bool.or_eq_true, Bool.not_eq_true', Bool.not_eq_false', Bool.and_eq_false_imp, Bool.or_eq_false_iff, decide_eq_true_eq, decide_eq_false_iff_not] at c12
            obtain ⟨⟨g18_0, g18_1⟩, h6⟩ := of_guard h6
            simp only [W64 g18_0 g18_1]
            obtain rfl := Option.some.inj h6
            refine nextL (hi6 _ rfl) ?_
            refine wk_of [(2, some 2), (1, some 1), (0, some 0)] rfl ?_ ?_
            ·
              try simp only [go_sem]
              exact ⟨.same _ trivial, ⟨.same _ trivial, ⟨.same _ trivial, ⟨.ptr _ _ _ _ _ (rn_some rfl), ⟨.same _ trivial, ⟨.ptr _ _ _ _ _ (rn_some rfl), .ptr _ _ _ _ _ (rn_some rfl)⟩⟩⟩⟩⟩⟩
            ·
              try simp only [go_sem]
              exact ⟨wkR_box (rn_some rfl) rfl (wkE _), ⟨wkR_box (rn_some rfl) rfl (wkE _), wkR_box (rn_some rfl) rfl (wkE _)⟩⟩
        ·
          replace h6 := if_n c7 h6
          obtain rfl := Option.some.inj h6
          obtain rfl := he6 _ rfl
          refine zend ?_
          refine wk_of [(2, some 2)] rfl ?_ ?_
          ·
            try simp only [go_sem]
            exact ⟨.same _ trivial, ⟨.same _ trivial, ⟨.ptr _ _ _ _ _ (rn_some rfl), .same _ trivial⟩⟩⟩
          ·
            try simp only [go_sem]
            exact wkR_box (rn_some rfl) rfl (wkE _)
      subst hz5
      simp only [Sum.elim_inr] at h
      try simp only [go_sem]
      obtain rfl := Option.some.inj h
      exact wkv_same (by simp only [go_sem]) rfl
theorem c_shape_Back {a0 : TTurn} {r : TTurn × Int} (h : p_shape_Back a0 = some r)  : PCalls Try.prog 61 [encTTurn a0] (tup [encTTurn r.1, .int .i64 r.2]) := by
  unfold p_shape_Back at h
  refine pcalls_of (fun _ => none) (fun _ => []) Try.func61 (by unfold Try.f61; rfl) (by kernel_rfl) (by kernel_rfl) ?_
  simp only [awp_seq]
  simp only [argSlots]
  dsimp only [Try.f61]
  try simp only [go_sem]
  obtain ⟨x0, hx0, h⟩ := of_bind h
  refine call_p false (c_shape_CheckTurn hx0) ⟨wkE _, trivial⟩ nofun ?_
  try simp only [go_sem]
  refine cut_l ?_
  try simp only [go_sem]
  refine ways_n (fun c1 => ?_) (fun c1 => ?_)
  ·
    replace h := if_n c1 h
    obtain rfl := Option.some.inj h
    exact wkv_same (by simp only [go_sem]) rfl
  ·
    replace h := if_p c1 h
    obtain ⟨e2, h2, h⟩ := of_bind h
    refine cut_j ([(5, AVal.ptr (2, 0) 4 0 0), (3, AVal.int IntKind.i64 0), (2, AVal.ptr (1, 0) 4 0 0), (1, AVal.ptr (0, 0) 4 0 0)]) ({ nx := 4, rows := [(2, Ent.one { sz := 4, d := encTTurn { : TTurn }, l := [encTTurn (Prod.fst e2)] : Row }), (1, Ent.one { sz := 4, d := encTTurn { : TTurn }, l := [encTTurn (Prod.fst (Prod.snd e2))] : Row }), (0, Ent.one { sz := 4, d := encTTurn a0, l := [encTTurn (Prod.snd (Prod.snd e2))] : Row })] : Heap }) ?_ ?_
    ·
      try simp only [go_sem]
      refine ways (fun c3 => ?_) (fun c3 => ?_)
      ·
        replace h2 := if_t c3 h2
        try simp only [Bool.and_eq_true, Bool.or_eq_true, Bool.not_eq_true', Bool.not_eq_false', Bool.and_eq_false_imp, Bool.or_eq_false_iff, decide_eq_true_eq, decide_eq_false_iff_not] at c3
        refine ob (by omega) ?_
        obtain ⟨⟨g4_0, g4_1⟩, h2⟩ := of_guard h2
        simp only [W64 g4_0 g4_1]
        obtain rfl := Option.some.inj h2
        refine wk_of [(2, some 2), (1, some 1), (0, some 0)] rfl ?_ ?_
        ·
          try simp only [go_sem]
          exact ⟨.ptr _ _ _ _ _ (rn_some rfl), ⟨.same _ trivial, ⟨.ptr _ _ _ _ _ (rn_some rfl), .ptr _ _ _ _ _ (rn_some rfl)⟩⟩⟩
        ·
          try simp only [go_sem]
          exact ⟨wkR_box (rn_some rfl) rfl (wkE _), ⟨wkR_box (rn_some rfl) rfl (wkE _), wkR_box (rn_some rfl) rfl (wkE _)⟩⟩
      ·
        replace h2 := if_f c3 h2
        try simp only [Bool.and_eq_true, Bool.or_eq_true, Bool.not_eq_true', Bool.not_eq_false', Bool.and_eq_false_imp, Bool.or_eq_false_iff, decide_eq_true_eq, decide_eq_false_iff_not] at c3
        obtain rfl := Option.some.inj h2
        refine wk_of [(2, some 2), (1, some 1), (0, some 0)] rfl ?_ ?_
        ·
          try simp only [go_sem]
          exact ⟨.ptr _ _ _ _ _ (rn_some rfl), ⟨.same _ trivial, ⟨.ptr _ _ _ _ _ (rn_some rfl), .ptr _ _ _ _ _ (rn_some rfl)⟩⟩⟩
        ·
          try simp only [go_sem]
          exact ⟨wkR_box (rn_some rfl) rfl (wkE _), ⟨wkR_box (rn_some rfl) rfl (wkE _), wkR_box (rn_some rfl) rfl (wkE _)⟩⟩
    try simp only [go_sem]
    obtain ⟨x5, hx5, h⟩ := of_bind h
    refine call_p false (c_shape_TurnPoint hx5) ⟨wkE _, wkE _, trivial⟩ nofun ?_
    try simp only [go_sem]
    obtain ⟨⟨g6_0, g6_1⟩, h⟩ := of_guard h
    simp only [W64 g6_0 g6_1]
    obtain ⟨⟨g7_0, g7_1⟩, h⟩ := of_guard h
    simp only [W64 g7_0 g7_1]
    obtain rfl := Option.some.inj h
    exact wkv_same (by simp only [go_sem]) rfl
theorem c_panel_CheckPanel {a0 : TPanel} {r : Int} (h : p_panel_CheckPanel a0 = some r)  : PCalls Try.prog 32 [encTPanel a0] (.int .i64 r) := by
  unfold p_panel_CheckPanel at h
  refine pcalls_of (fun _ => none) (fun _ => []) Try.func32 (by unfold Try.f32; rfl) (by kernel_rfl) (by kernel_rfl) ?_
  simp only [awp_seq]
  simp only [argSlots]
  dsimp only [Try.f32]
  try simp only [go_sem]
  obtain ⟨x0, hx0, h⟩ := of_bind h
  refine call_p false (c_panel_open hx0) ⟨wkE _, trivial⟩ nofun ?_
  try simp only [go_sem]
  obtain rfl := Option.some.inj h
  exact .same _ trivial
theorem c_panel_ToBoard {a0 : TPanel} {a1 : TPoint} {r : Int × TPoint × Bool × Int} (h : p_panel_ToBoard a0 a1 = some r)  : PCalls Try.prog 25 [encTPanel a0, encTPoint a1] (tup [.int .i64 r.1, encTPoint r.2.1, .bool r.2.2.1, .int .i64 r.2.2.2]) := by
  unfold p_panel_ToBoard at h
  refine pcalls_of (ordOf [(10, [1, 3, 0, 2, 4, 5, 6, 7, 8, 9, 10, 11, 12, 13])]) (fun _ => []) Try.func25 (by unfold Try.f25; rfl) (by kernel_rfl) (by kernel_rfl) ?_
  simp only [awp_seq]
  simp only [argSlots]
  dsimp only [Try.f25]
  try simp only [go_sem]
  obtain ⟨x0, hx0, h⟩ := of_bind h
  refine call_p false (c_panel_open hx0) ⟨wkE _, trivial⟩ nofun ?_
  try simp only [go_sem]
  refine cut_l ?_
  try simp only [go_sem]
  refine ways_n (fun c1 => ?_) (fun c1 => ?_)
  ·
    replace h := if_n c1 h
    obtain rfl := Option.some.inj h
    exact wkv_same (by simp only [go_sem]) rfl
  ·
    replace h := if_p c1 h
    obtain ⟨x2, hx2, h⟩ := of_bind h
    refine call_p false (c_panel_isOnPanel hx2) ⟨wkE _, wkE _, trivial⟩ nofun ?_
    try simp only [go_sem]
    refine cut_l ?_
    try simp only [go_sem]
    refine ways (fun c3 => ?_) (fun c3 => ?_)
    ·
      replace h := if_t c3 h
      try simp only [Bool.and_eq_true, Bool.or_eq_true, Bool.not_eq_true', Bool.not_eq_false', Bool.and_eq_false_imp, Bool.or_eq_false_iff, decide_eq_true_eq, decide_eq_false_iff_not] at c3
      obtain rfl := Option.some.inj h
      exact wkv_same (by simp only [go_sem]) rfl
    ·
      replace h := if_f c3 h
      try simp only [Bool.and_eq_true, Bool.or_eq_true, Bool.not_eq_true', Bool.not_eq_false', Bool.and_eq_false_imp, Bool.or_eq_false_iff, decide_eq_true_eq, decide_eq_false_iff_not] at c3
      obtain ⟨z4, h4, h⟩ := of_bind h
      refine cut_z z4 (fun (s : Int × Bool × Int × TPoint) => [(7, AVal.int IntKind.i64 (Prod.fst s)), (6, AVal.bool (Prod.fst (Prod.snd s))), (5, AVal.ptr (2, 0) 2 0 0), (4, AVal.int IntKind.i64 (Prod.fst (Prod.snd (Prod.snd s))))]) (fun (s : Int × Bool × Int × TPoint) => { nx := 3, rows := [(2, Ent.one { sz := 2, d := encTPoint { : TPoint }, l := [encTPoint (Prod.snd (Prod.snd (Prod.snd s)))] : Row })] : Heap }) ?_ (fun e4 hz4 => ?_)
      ·
        try simp only [go_sem]
        refine loop_w h4 (fun (s : Int × Int × Bool × Int × TPoint × TPoint × TPanel) => [(30, AVal.int IntKind.i64 (Prod.fst s)), (29, AVal.int IntKind.i64 (↑(List.length (Prod.fst x0)) : Int)), (28, encL 4 encTRect (Prod.fst x0)), (7, AVal.int IntKind.i64 (Prod.fst (Prod.snd s))), (6, AVal.bool (Prod.fst (Prod.snd (Prod.snd s)))), (5, AVal.ptr (2, 0) 2 0 0), (4, AVal.int IntKind.i64 (Prod.fst (Prod.snd (Prod.snd (Prod.snd s))))), (3, AVal.ptr (1, 0) 2 0 0), (2, AVal.ptr (0, 0) 7 0 0)]) (fun (s : Int × Int × Bool × Int × TPoint × TPoint × TPanel) => { nx := 3, rows := [(2, Ent.one { sz := 2, d := encTPoint { : TPoint }, l := [encTPoint (Prod.fst (Prod.snd (Prod.snd (Prod.snd (Prod.snd s)))))] : Row }), (1, Ent.one { sz := 2, d := encTPoint a1, l := [encTPoint (Prod.fst (Prod.snd (Prod.snd (Prod.snd (Prod.snd (Prod.snd s))))))] : Row }), (0, Ent.one { sz := 7, d := encTPanel a0, l := [encTPanel (Prod.snd (Prod.snd (Prod.snd (Prod.snd (Prod.snd (Prod.snd s))))))] : Row })] : Heap }) ?_ ?_
        ·
          refine wk_of [(2, some 2), (1, some 1), (0, some 0)] rfl ?_ ?_
          ·
            try simp only [go_sem]
            exact ⟨.same _ trivial, ⟨.same _ trivial, ⟨.same _ trivial, ⟨.same _ trivial, ⟨.same _ trivial, ⟨.ptr _ _ _ _ _ (rn_some rfl), ⟨.same _ trivial, ⟨.ptr _ _ _ _ _ (rn_some rfl), .ptr _ _ _ _ _ (rn_some rfl)⟩⟩⟩⟩⟩⟩⟩⟩
          ·
            try simp only [go_sem]
            exact ⟨wkR_box (rn_some rfl) rfl (wkE _), ⟨wkR_box (rn_some rfl) rfl (wkE _), wkR_box (rn_some rfl) rfl (wkE _)⟩⟩
        intro n5 s5 o5 h5 he5 hi5
        try simp only [go_sem]
        refine cut_l ?_
        try simp only [go_sem]
        refine ways_d (fun c6 => ?_) (fun c6 => ?_)
        ·
          replace h5 := if_p c6 h5
          refine cut_l ?_
          try simp only [go_sem]
          obtain ⟨g7, h5⟩ := of_guard h5
          refine ob ⟨by assumption, by assumption⟩ ?_
          obtain ⟨x8, hx8, h5⟩ := of_bind h5
          refine call_p false (c_panel_within hx8) ⟨.same _ trivial, .same _ trivial, .same _ trivial, trivial⟩ nofun ?_
          try simp only [go_sem]
          obtain ⟨x9, hx9, h5⟩ := of_bind h5
          refine qcall_p false (fun hg => c_panel_within (if_t hg hx9)) (fun _ => ⟨.same _ trivial, .same _ trivial, .same _ trivial, trivial⟩) nofun ?_
          try simp only [go_sem]
          refine cut_l ?_
          try simp only [go_sem]
          refine ways (fun c10 => ?_) (fun c10 => ?_)
          ·
            replace h5 := if_t c10 h5
            try simp only [Bool.and_eq_true, Bool.or_eq_true, Bool.not_eq_true', Bool.not_eq_false', Bool.and_eq_false_imp, Bool.or_eq_false_iff, decide_eq_true_eq, decide_eq_false_iff_not] at c10
            obtain ⟨g11, h5⟩ := of_guard h5
            refine ob ⟨by assumption, by assumption⟩ ?_
            obtain ⟨x12, hx12, h5⟩ := of_bind h5
            refine qcall_p false (fun _ => c_panel_turnOf hx12) (fun _ => ⟨wkE _, wkE _, trivial⟩) nofun ?_
            obtain ⟨x13, hx13, h5⟩ := of_bind h5
            refine qcall_p false (fun _ => c_shape_Back hx13) (fun _ => ⟨wkE _, trivial⟩) nofun ?_
            try simp only [go_sem]
            obtain ⟨x14, hx14, h5⟩ := of_bind h5
            refine call_p false (c_shape_TurnPoint hx14) ⟨wkE _, wkE _, trivial⟩ nofun ?_
            try simp only [go_sem]
            obtain rfl := Option.some.inj h5
            obtain rfl := he5 _ rfl
            obtain rfl := Option.some.inj h
            exact wkv_same (by simp only [go_sem]) rfl
          ·
            replace h5 := if_f c10 h5
            try simp only [Bool.and_eq_true, Bool.or_eq_true, Bool.not_eq_true', Bool.not_eq_false', Bool.and_eq_false_imp, Bool.or_eq_false_iff, decide_eq_true_eq, decide_eq_false_iff_not] at c10
            obtain ⟨⟨g15_0, g15_1⟩, h5⟩ := of_guard h5
            simp only [W64 g15_0 g15_1]
            obtain rfl := Option.some.inj h5
            refine nextL (hi5 _ rfl) ?_
            refine wk_of [(2, some 2), (1, some 1), (0, some 0)] rfl ?_ ?_
            ·
              try simp only [go_sem]
              exact ⟨.same _ trivial, ⟨.same _ trivial, ⟨.same _ trivial, ⟨.same _ trivial, ⟨.same _ trivial, ⟨.ptr _ _ _ _ _ (rn_some rfl), ⟨.same _ trivial, ⟨.ptr _ _ _ _ _ (rn_some rfl), .ptr _ _ _ _ _ (rn_some rfl)⟩⟩⟩⟩⟩⟩⟩⟩
            ·
              try simp only [go_sem]
              exact ⟨wkR_box (rn_some rfl) rfl (wkE _), ⟨wkR_box (rn_some rfl) rfl (wkE _), wkR_box (rn_some rfl) rfl (wkE _)⟩⟩
        ·
          replace h5 := if_n c6 h5
          obtain rfl := Option.some.inj h5
          obtain rfl := he5 _ rfl
          refine zend ?_
          refine wk_of [(2, some 2)] rfl ?_ ?_
          ·
            try simp only [go_sem]
            exact ⟨.same _ trivial, ⟨.same _ trivial, ⟨.ptr _ _ _ _ _ (rn_some rfl), .same _ trivial⟩⟩⟩
          ·
            try simp only [go_sem]
            exact wkR_box (rn_some rfl) rfl (wkE _)
      subst hz4
      simp only [Sum.elim_inr] at h
      try simp only [go_sem]
      obtain rfl := Option.some.inj h
      exact wkv_same (by simp only [go_sem]) rfl
theorem c_panel_Use {a0 : TPanel} {r : TShare × Int} (h : p_panel_Use a0 = some r)  : PCalls Try.prog 48 [encTPanel a0] (tup [encTShare r.1, .int .i64 r.2]) := by
  unfold p_panel_Use at h
  refine pcalls_of (ordOf [(4, [0, 2, 4, 1, 3, 5, 6, 7, 8, 9])]) (fun _ => []) Try.func48 (by unfold Try.f48; rfl) (by kernel_rfl) (by kernel_rfl) ?_
  simp only [awp_seq]
  simp only [argSlots]
  dsimp only [Try.f48]
  try simp only [go_sem]
  obtain ⟨x0, hx0, h⟩ := of_bind h
  refine call_p false (c_panel_open hx0) ⟨wkE _, trivial⟩ nofun ?_
  try simp only [go_sem]
  refine cut_l ?_
  try simp only [go_sem]
  refine ways_n (fun c1 => ?_) (fun c1 => ?_)
  ·
    replace h := if_n c1 h
    obtain rfl := Option.some.inj h
    exact wkv_same (by simp only [go_sem]) rfl
  ·
    replace h := if_p c1 h
    obtain ⟨x2, hx2, h⟩ := of_bind h
    refine qcall_p false (fun _ => c_shape_AreaOf hx2) (fun _ => ⟨.same _ trivial, trivial⟩) nofun ?_
    obtain ⟨⟨g3_0, g3_1⟩, h⟩ := of_guard h
    simp only [W64 g3_0 g3_1]
    obtain ⟨x4, hx4, h⟩ := of_bind h
    refine qcall_p false (fun _ => c_panel_Lowest hx4) (fun _ => ⟨.same _ trivial, .same _ trivial, trivial⟩) nofun ?_
    try simp only [go_sem]
    obtain rfl := Option.some.inj h
    exact wkv_same (by simp only [go_sem]) rfl
theorem c_ref9_ToPanel {a0 : TPanel} {a1 : Int} {a2 : TPoint} {r : TPoint × Int} (h : p_ref9_ToPanel a0 a1 a2 = some r)  : PCalls Try.prog 24 [encTPanel a0, .int .i64 a1, encTPoint a2] (tup [encTPoint r.1, .int .i64 r.2]) := by
  unfold p_ref9_ToPanel at h
  refine pcalls_of (ordOf [(4, [0, 3, 5, 1, 2, 4, 6, 7, 8, 9, 10, 11, 12, 13])]) (fun _ => []) Try.func24 (by unfold Try.f24; rfl) (by kernel_rfl) (by kernel_rfl) ?_
  simp only [awp_seq]
  simp only [argSlots]
  dsimp only [Try.f24]
  try simp only [go_sem]
  obtain ⟨x0, hx0, h⟩ := of_bind h
  refine call_p false (c_ref9_SlotTurn hx0) ⟨wkE _, .same _ trivial, trivial⟩ nofun ?_
  try simp only [go_sem]
  refine cut_l ?_
  try simp only [go_sem]
  refine ways_n (fun c1 => ?_) (fun c1 => ?_)
  ·
    replace h := if_n c1 h
    obtain rfl := Option.some.inj h
    exact wkv_same (by simp only [go_sem]) rfl
  ·
    replace h := if_p c1 h
    obtain ⟨⟨g2_0, g2_1⟩, h⟩ := of_guard h
    refine ob ⟨by assumption, by assumption⟩ ?_
    obtain ⟨x3, hx3, h⟩ := of_bind h
    refine qcall_p false (fun _ => c_ref9_kind hx3) (fun _ => ⟨wkE _, .same _ trivial, trivial⟩) nofun ?_
    try simp only [go_sem]
    obtain ⟨⟨g4_0, g4_1⟩, h⟩ := of_guard h
    refine ob ⟨by assumption, by assumption⟩ ?_
    obtain ⟨x5, hx5, h⟩ := of_bind h
    refine call_p false (c_ref9_within hx5) ⟨.same _ trivial, .same _ trivial, .same _ trivial, trivial⟩ nofun ?_
    try simp only [go_sem]
    obtain ⟨x6, hx6, h⟩ := of_bind h
    refine qcall_p false (fun hg => c_ref9_within (if_t hg hx6)) (fun _ => ⟨.same _ trivial, .same _ trivial, .same _ trivial, trivial⟩) nofun ?_
    try simp only [go_sem]
    refine ob (by simp) ?_
    refine cut_l ?_
    try simp only [go_sem]
    refine ways (fun c7 => ?_) (fun c7 => ?_)
    ·
      replace h := if_t c7 h
      try simp only [Bool.and_eq_true, Bool.or_eq_true, Bool.not_eq_true', Bool.not_eq_false', Bool.and_eq_false_imp, Bool.or_eq_false_iff, decide_eq_true_eq, decide_eq_false_iff_not] at c7
      obtain rfl := Option.some.inj h
      exact wkv_same (by simp only [go_sem]) rfl
    ·
      replace h := if_f c7 h
      try simp only [Bool.and_eq_true, Bool.or_eq_true, Bool.not_eq_true', Bool.not_eq_false', Bool.and_eq_false_imp, Bool.or_eq_false_iff, decide_eq_true_eq, decide_eq_false_iff_not] at c7
      obtain ⟨x8, hx8, h⟩ := of_bind h
      refine call_p false (c_ref1_TurnPoint hx8) ⟨wkE _, wkE _, trivial⟩ nofun ?_
      try simp only [go_sem]
      obtain rfl := Option.some.inj h
      exact wkv_same (by simp only [go_sem]) rfl
theorem c_law9_awake {r : Bool} (h : p_law9_awake  = some r)  : PCalls Try.prog 16 [] (.bool r) := by
  unfold p_law9_awake at h
  refine pcalls_of (fun _ => none) (fun _ => []) Try.func16 (by unfold Try.f16; rfl) (by kernel_rfl) (by kernel_rfl) ?_
  simp only [awp_seq]
  simp only [argSlots]
  dsimp only [Try.f16]
  try simp only [go_sem]
  obtain ⟨x0, hx0, h⟩ := of_bind h
  refine call_p false (c_panel_Use hx0) ⟨wkv_aggA rfl ⟨.same _ trivial, .same _ trivial, .same _ trivial, .same _ trivial, wkv_nilL, wkv_nilL, wkv_nilL, trivial⟩, trivial⟩ nofun ?_
  try simp only [go_sem]
  obtain rfl := Option.some.inj h
  exact .same _ trivial
theorem c_panel_SlotTurn {a0 : TPanel} {a1 : Int} {r : TTurn × Int} (h : p_panel_SlotTurn a0 a1 = some r)  : PCalls Try.prog 21 [encTPanel a0, .int .i64 a1] (tup [encTTurn r.1, .int .i64 r.2]) := by
  unfold p_panel_SlotTurn at h
  refine pcalls_of (ordOf [(6, [1, 3, 0, 2, 4, 5, 6, 7, 8])]) (fun _ => []) Try.func21 (by unfold Try.f21; rfl) (by kernel_rfl) (by kernel_rfl) ?_
  simp only [awp_seq]
  simp only [argSlots]
  dsimp only [Try.f21]
  try simp only [go_sem]
  obtain ⟨x0, hx0, h⟩ := of_bind h
  refine call_p false (c_panel_CheckPanel hx0) ⟨wkE _, trivial⟩ nofun ?_
  try simp only [go_sem]
  refine cut_l ?_
  try simp only [go_sem]
  refine ways_n (fun c1 => ?_) (fun c1 => ?_)
  ·
    replace h := if_n c1 h
    obtain rfl := Option.some.inj h
    exact wkv_same (by simp only [go_sem]) rfl
  ·
    replace h := if_p c1 h
    obtain ⟨⟨g2_0, g2_1⟩, h⟩ := of_guard h
    simp only [W64 g2_0 g2_1]
    obtain ⟨x3, hx3, h⟩ := of_bind h
    refine call_p false (c_panel_within hx3) ⟨.same _ trivial, .same _ trivial, .same _ trivial, trivial⟩ nofun ?_
    try simp only [go_sem]
    refine cut_l ?_
    try simp only [go_sem]
    refine ways (fun c4 => ?_) (fun c4 => ?_)
    ·
      replace h := if_t c4 h
      try simp only [Bool.and_eq_true, Bool.or_eq_true, Bool.not_eq_true', Bool.not_eq_false', Bool.and_eq_false_imp, Bool.or_eq_false_iff, decide_eq_true_eq, decide_eq_false_iff_not] at c4
      obtain rfl := Option.some.inj h
      exact wkv_same (by simp only [go_sem]) rfl
    ·
      replace h := if_f c4 h
      try simp only [Bool.and_eq_true, Bool.or_eq_true, Bool.not_eq_true', Bool.not_eq_false', Bool.and_eq_false_imp, Bool.or_eq_false_iff, decide_eq_true_eq, decide_eq_false_iff_not] at c4
      obtain ⟨⟨g5_0, g5_1⟩, h⟩ := of_guard h
      refine ob ⟨by assumption, by assumption⟩ ?_
      obtain ⟨x6, hx6, h⟩ := of_bind h
      refine qcall_p false (fun _ => c_panel_turnOf hx6) (fun _ => ⟨wkE _, wkE _, trivial⟩) nofun ?_
      try simp only [go_sem]
      obtain rfl := Option.some.inj h
      exact wkv_same (by simp only [go_sem]) rfl
theorem c_panel_ToPanel {a0 : TPanel} {a1 : Int} {a2 : TPoint} {r : TPoint × Int} (h : p_panel_ToPanel a0 a1 a2 = some r)  : PCalls Try.prog 23 [encTPanel a0, .int .i64 a1, encTPoint a2] (tup [encTPoint r.1, .int .i64 r.2]) := by
  unfold p_panel_ToPanel at h
  refine pcalls_of (ordOf [(4, [0, 3, 5, 1, 2, 4, 6, 7, 8, 9, 10, 11, 12, 13])]) (fun _ => []) Try.func23 (by unfold Try.f23; rfl) (by kernel_rfl) (by kernel_rfl) ?_
  simp only [awp_seq]
  simp only [argSlots]
  dsimp only [Try.f23]
  try simp only [go_sem]
  obtain ⟨x0, hx0, h⟩ := of_bind h
  refine call_p false (c_panel_SlotTurn hx0) ⟨wkE _, .same _ trivial, trivial⟩ nofun ?_
  try simp only [go_sem]
  refine cut_l ?_
  try simp only [go_sem]
  refine ways_n (fun c1 => ?_) (fun c1 => ?_)
  ·
    replace h := if_n c1 h
    obtain rfl := Option.some.inj h
    exact wkv_same (by simp only [go_sem]) rfl
  ·
    replace h := if_p c1 h
    obtain ⟨⟨g2_0, g2_1⟩, h⟩ := of_guard h
    refine ob ⟨by assumption, by assumption⟩ ?_
    obtain ⟨x3, hx3, h⟩ := of_bind h
    refine qcall_p false (fun _ => c_panel_kindAt hx3) (fun _ => ⟨wkE _, .same _ trivial, trivial⟩) nofun ?_
    try simp only [go_sem]
    obtain ⟨⟨g4_0, g4_1⟩, h⟩ := of_guard h
    refine ob ⟨by assumption, by assumption⟩ ?_
    obtain ⟨x5, hx5, h⟩ := of_bind h
    refine call_p false (c_panel_within hx5) ⟨.same _ trivial, .same _ trivial, .same _ trivial, trivial⟩ nofun ?_
    try simp only [go_sem]
    obtain ⟨x6, hx6, h⟩ := of_bind h
    refine qcall_p false (fun hg => c_panel_within (if_t hg hx6)) (fun _ => ⟨.same _ trivial, .same _ trivial, .same _ trivial, trivial⟩) nofun ?_
    try simp only [go_sem]
    refine ob (by simp) ?_
    refine cut_l ?_
    try simp only [go_sem]
    refine ways (fun c7 => ?_) (fun c7 => ?_)
    ·
      replace h := if_t c7 h
      try simp only [Bool.and_eq_true, Bool.or_eq_true, Bool.not_eq_true', Bool.not_eq_false', Bool.and_eq_false_imp, Bool.or_eq_false_iff, decide_eq_true_eq, decide_eq_false_iff_not] at c7
      obtain rfl := Option.some.inj h
      exact wkv_same (by simp only [go_sem]) rfl
    ·
      replace h := if_f c7 h
      try simp only [Bool.and_eq_true, Bool.or_eq_true, Bool.not_eq_true', Bool.not_eq_false', Bool.and_eq_false_imp, Bool.or_eq_false_iff, decide_eq_true_eq, decide_eq_false_iff_not] at c7
      obtain ⟨x8, hx8, h⟩ := of_bind h
      refine call_p false (c_shape_TurnPoint hx8) ⟨wkE _, wkE _, trivial⟩ nofun ?_
      try simp only [go_sem]
      obtain rfl := Option.some.inj h
      exact wkv_same (by simp only [go_sem]) rfl
theorem c_law9_PanelPointsMatchSpec {a0 : TPanel} {a1 : Int} {a2 : TPoint} {r : Bool} (h : p_law9_PanelPointsMatchSpec a0 a1 a2 = some r)  : PCalls Try.prog 6 [encTPanel a0, .int .i64 a1, encTPoint a2] (.bool r) := by
  unfold p_law9_PanelPointsMatchSpec at h
  refine pcalls_of (fun _ => none) (fun _ => []) Try.func6 (by unfold Try.f6; rfl) (by kernel_rfl) (by kernel_rfl) ?_
  simp only [awp_seq]
  simp only [argSlots]
  dsimp only [Try.f6]
  try simp only [go_sem]
  obtain ⟨x0, hx0, h⟩ := of_bind h
  refine call_p false (c_panel_SlotTurn hx0) ⟨wkE _, .same _ trivial, trivial⟩ nofun ?_
  try simp only [go_sem]
  obtain ⟨x1, hx1, h⟩ := of_bind h
  refine call_p false (c_ref9_SlotTurn hx1) ⟨wkE _, .same _ trivial, trivial⟩ nofun ?_
  try simp only [go_sem]
  obtain ⟨x2, hx2, h⟩ := of_bind h
  refine call_p false (c_panel_ToPanel hx2) ⟨wkE _, .same _ trivial, wkE _, trivial⟩ nofun ?_
  try simp only [go_sem]
  obtain ⟨x3, hx3, h⟩ := of_bind h
  refine call_p false (c_ref9_ToPanel hx3) ⟨wkE _, .same _ trivial, wkE _, trivial⟩ nofun ?_
  try simp only [go_sem]
  refine ob ⟨⟨by simp, by simp⟩, by simp⟩ ?_
  refine cut_l ?_
  try simp only [go_sem]
  refine ways (fun c4 => ?_) (fun c4 => ?_)
  ·
    replace h := if_t c4 h
    try simp only [Bool.and_eq_true, Bool.or_eq_true, Bool.not_eq_true', Bool.not_eq_false', Bool.and_eq_false_imp, Bool.or_eq_false_iff, decide_eq_true_eq, decide_eq_false_iff_not] at c4
    obtain rfl := Option.some.inj h
    exact .same _ trivial
  ·
    replace h := if_f c4 h
    try simp only [Bool.and_eq_true, Bool.or_eq_true, Bool.not_eq_true', Bool.not_eq_false', Bool.and_eq_false_imp, Bool.or_eq_false_iff, decide_eq_true_eq, decide_eq_false_iff_not] at c4
    obtain ⟨x5, hx5, h⟩ := of_bind h
    refine call_p false (c_panel_ToBoard hx5) ⟨wkE _, wkE _, trivial⟩ nofun ?_
    try simp only [go_sem]
    obtain ⟨x6, hx6, h⟩ := of_bind h
    refine call_p false (c_ref9_ToBoard hx6) ⟨wkE _, wkE _, trivial⟩ nofun ?_
    try simp only [go_sem]
    obtain ⟨x7, hx7, h⟩ := of_bind h
    refine qcall_p false (fun hg => c_law9_awake (if_t hg hx7)) (fun _ => trivial) nofun ?_
    try simp only [go_sem]
    obtain rfl := Option.some.inj h
    exact .same _ trivial
end Go.Nw
