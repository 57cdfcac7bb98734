/- The walks of the functions. -/
import Derived.Test.YtngdglmimlfefaaNwGlue
import Derived.Test.YtngdglmimlfefaaNwDA
import Derived.Test.YtngdglmimlfefaaNwPA0
set_option linter.unusedVariables false
set_option linter.unusedSimpArgs false
set_option maxRecDepth 100000
namespace Go.Nw
open Go.Proofs
theorem c_ref9_CheckPanel {a0 : TPanel} {r : Int} (h : p_ref9_CheckPanel a0 = some r)  : PCalls Try.prog 51 [encTPanel a0] (.int .i64 r) := by
  unfold p_ref9_CheckPanel at h
  refine pcalls_of (ordOf [(13, [0, 1, 2, 3, 5, 7, 8, 4, 6, 9, 10, 11, 12, 13])]) (fun _ => []) Try.func51 (by unfold Try.f51; rfl) (by kernel_rfl) (by kernel_rfl) ?_
  simp only [awp_seq]
  simp only [argSlots]
  dsimp only [Try.f51]
  try simp only [go_sem]
  obtain ⟨x0, hx0, h⟩ := of_bind h
  refine call_p false (c_ref9_within hx0) ⟨.same _ trivial, .same _ trivial, .same _ trivial, trivial⟩ nofun ?_
  try simp only [go_sem]
  obtain ⟨x1, hx1, h⟩ := of_bind h
  refine qcall_p false (fun hg => c_ref9_within (if_t hg hx1)) (fun _ => ⟨.same _ trivial, .same _ trivial, .same _ trivial, trivial⟩) nofun ?_
  try simp only [go_sem]
  refine ob (by simp) ?_
  obtain ⟨x2, hx2, h⟩ := of_bind h
  refine qcall_p false (fun hg => c_ref9_within (if_t hg hx2)) (fun _ => ⟨.same _ trivial, .same _ trivial, .same _ trivial, trivial⟩) nofun ?_
  try simp only [go_sem]
  refine ob (by simp) ?_
  obtain ⟨x3, hx3, h⟩ := of_bind h
  refine qcall_p false (fun hg => c_ref9_within (if_t hg hx3)) (fun _ => ⟨.same _ trivial, .same _ trivial, .same _ trivial, trivial⟩) nofun ?_
  try simp only [go_sem]
  refine ob (by simp) ?_
  refine cut_l ?_
  try simp only [go_sem]
  refine ways (fun c4 => ?_) (fun c4 => ?_)
  ·
    replace h := if_t c4 h
    try simp only [Bool.and_eq_true, Bool.or_eq_true, Bool.not_eq_true', Bool.not_eq_false', Bool.and_eq_false_imp, Bool.or_eq_false_iff, decide_eq_true_eq, decide_eq_false_iff_not] at c4
    obtain rfl := Option.some.inj h
    exact .same _ trivial
  ·
    replace h := if_f c4 h
    try simp only [Bool.and_eq_true, Bool.or_eq_true, Bool.not_eq_true', Bool.not_eq_false', Bool.and_eq_false_imp, Bool.or_eq_false_iff, decide_eq_true_eq, decide_eq_false_iff_not] at c4
    refine cut_l ?_
    try simp only [go_sem]
    refine ways_d (fun c5 => ?_) (fun c5 => ?_)
    ·
      replace h := if_p c5 h
      obtain rfl := Option.some.inj h
      exact .same _ trivial
    ·
      replace h := if_n c5 h
      obtain ⟨z6, h6, h⟩ := of_bind h
      refine cut_z z6 (fun (s : Int × TPanel) => [(2, AVal.int IntKind.i64 (Prod.fst s)), (1, AVal.ptr (0, 0) 7 0 0)]) (fun (s : Int × TPanel) => { nx := 1, rows := [(0, Ent.one { sz := 7, d := encTPanel a0, l := [encTPanel (Prod.snd s)] : Row })] : Heap }) ?_ (fun e6 hz6 => ?_)
      ·
        try simp only [go_sem]
        refine loop_w h6 (fun (s : Int × Int × TPanel) => [(3, AVal.int IntKind.i64 (Prod.fst s)), (2, AVal.int IntKind.i64 (Prod.fst (Prod.snd s))), (1, AVal.ptr (0, 0) 7 0 0)]) (fun (s : Int × Int × TPanel) => { nx := 1, rows := [(0, Ent.one { sz := 7, d := encTPanel a0, l := [encTPanel (Prod.snd (Prod.snd s))] : Row })] : Heap }) ?_ ?_
        ·
          refine wk_of [(0, some 0)] rfl ?_ ?_
          ·
            try simp only [go_sem]
            exact ⟨.same _ trivial, ⟨.same _ trivial, .ptr _ _ _ _ _ (rn_some rfl)⟩⟩
          ·
            try simp only [go_sem]
            exact wkR_box (rn_some rfl) rfl (wkE _)
        intro n7 s7 o7 h7 he7 hi7
        try simp only [go_sem]
        refine cut_l ?_
        try simp only [go_sem]
        refine ways_d (fun c8 => ?_) (fun c8 => ?_)
        ·
          replace h7 := if_p c8 h7
          refine cut_l ?_
          try simp only [go_sem]
          obtain ⟨g9, h7⟩ := of_guard h7
          refine ob ⟨by assumption, by assumption⟩ ?_
          obtain ⟨x10, hx10, h7⟩ := of_bind h7
          refine call_p false (c_ref3_IsName hx10) ⟨.same _ trivial, trivial⟩ nofun ?_
          try simp only [go_sem]
          refine cut_l ?_
          try simp only [go_sem]
          refine ways (fun c11 => ?_) (fun c11 => ?_)
          ·
            replace h7 := if_t c11 h7
            try simp only [Bool.and_eq_true, Bool.or_eq_true, Bool.not_eq_true', Bool.not_eq_false', Bool.and_eq_false_imp, Bool.or_eq_false_iff, decide_eq_true_eq, decide_eq_false_iff_not] at c11
            obtain rfl := Option.some.inj h7
            obtain rfl := he7 _ rfl
            obtain rfl := Option.some.inj h
            exact .same _ trivial
          ·
            replace h7 := if_f c11 h7
            try simp only [Bool.and_eq_true, Bool.or_eq_true, Bool.not_eq_true', Bool.not_eq_false', Bool.and_eq_false_imp, Bool.or_eq_false_iff, decide_eq_true_eq, decide_eq_false_iff_not] at c11
            obtain ⟨x12, hx12, h7⟩ := of_bind h7
            refine call_p false (c_ref9_within hx12) ⟨.same _ trivial, .same _ trivial, .same _ trivial, trivial⟩ nofun ?_
            try simp only [go_sem]
            obtain ⟨x13, hx13, h7⟩ := of_bind h7
            refine qcall_p false (fun hg => c_ref9_within (if_t hg hx13)) (fun _ => ⟨.same _ trivial, .same _ trivial, .same _ trivial, trivial⟩) nofun ?_
            try simp only [go_sem]
            refine ob (by simp) ?_
            refine cut_l ?_
            try simp only [go_sem]
            refine ways (fun c14 => ?_) (fun c14 => ?_)
            ·
              replace h7 := if_t c14 h7
              try simp only [Bool.and_eq_true, Bool.or_eq_true, Bool.not_eq_true', Bool.not_eq_false', Bool.and_eq_false_imp, Bool.or_eq_false_iff, decide_eq_true_eq, decide_eq_false_iff_not] at c14
              obtain rfl := Option.some.inj h7
              obtain rfl := he7 _ rfl
              obtain rfl := Option.some.inj h
              exact .same _ trivial
            ·
              replace h7 := if_f c14 h7
              try simp only [Bool.and_eq_true, Bool.or_eq_true, Bool.not_eq_true', Bool.not_eq_false', Bool.and_eq_false_imp, Bool.or_eq_false_iff, decide_eq_true_eq, decide_eq_false_iff_not] at c14
              obtain ⟨⟨g15_0, g15_1⟩, h7⟩ := of_guard h7
              simp only [W64 g15_0 g15_1]
              obtain ⟨g16, h7⟩ := of_guard h7
              refine ob (by assumption) ?_
              refine cut_l ?_
              try simp only [go_sem]
              refine ways (fun c17 => ?_) (fun c17 => ?_)
              ·
                replace h7 := if_t c17 h7
                try simp only [Bool.and_eq_true, Bool.or_eq_true, Bool.not_eq_true', Bool.not_eq_false', Bool.and_eq_false_imp, Bool.or_eq_false_iff, decide_eq_true_eq, decide_eq_false_iff_not] at c17
                obtain rfl := Option.some.inj h7
                obtain rfl := he7 _ rfl
                obtain rfl := Option.some.inj h
                exact .same _ trivial
              ·
                replace h7 := if_f c17 h7
                try simp only [Bool.and_eq_true, Bool.or_eq_true, Bool.not_eq_true', Bool.not_eq_false', Bool.and_eq_false_imp, Bool.or_eq_false_iff, decide_eq_true_eq, decide_eq_false_iff_not] at c17
                obtain ⟨⟨g18_0, g18_1⟩, h7⟩ := of_guard h7
                simp only [W64 g18_0 g18_1]
                obtain rfl := Option.some.inj h7
                refine nextL (hi7 _ rfl) ?_
                refine wk_of [(0, some 0)] rfl ?_ ?_
                ·
                  try simp only [go_sem]
                  exact ⟨.same _ trivial, ⟨.same _ trivial, .ptr _ _ _ _ _ (rn_some rfl)⟩⟩
                ·
                  try simp only [go_sem]
                  exact wkR_box (rn_some rfl) rfl (wkE _)
        ·
          replace h7 := if_n c8 h7
          obtain rfl := Option.some.inj h7
          obtain rfl := he7 _ rfl
          refine zend ?_
          refine wk_of [(0, some 0)] rfl ?_ ?_
          ·
            try simp only [go_sem]
            exact ⟨.same _ trivial, .ptr _ _ _ _ _ (rn_some rfl)⟩
          ·
            try simp only [go_sem]
            exact wkR_box (rn_some rfl) rfl (wkE _)
      subst hz6
      simp only [Sum.elim_inr] at h
      try simp only [go_sem]
      refine cut_l ?_
      try simp only [go_sem]
      refine ways_d (fun c19 => ?_) (fun c19 => ?_)
      ·
        replace h := if_p c19 h
        obtain rfl := Option.some.inj h
        exact .same _ trivial
      ·
        replace h := if_n c19 h
        obtain ⟨z20, h20, h⟩ := of_bind h
        refine cut_z z20 (fun (s : Int) => [(2, AVal.int IntKind.i64 s), (1, AVal.ptr (0, 0) 7 0 0)]) (fun (s : Int) => { nx := 1, rows := [(0, Ent.one { sz := 7, d := encTPanel a0, l := [encTPanel (Prod.snd e6)] : Row })] : Heap }) ?_ (fun e20 hz20 => ?_)
        ·
          try simp only [go_sem]
          refine loop_w h20 (fun (s : Int × Int) => [(5, AVal.int IntKind.i64 (Prod.fst s)), (2, AVal.int IntKind.i64 (Prod.snd s)), (1, AVal.ptr (0, 0) 7 0 0)]) (fun (s : Int × Int) => { nx := 1, rows := [(0, Ent.one { sz := 7, d := encTPanel a0, l := [encTPanel (Prod.snd e6)] : Row })] : Heap }) ?_ ?_
          ·
            refine wk_of [(0, some 0)] rfl ?_ ?_
            ·
              try simp only [go_sem]
              exact ⟨.same _ trivial, ⟨.same _ trivial, .ptr _ _ _ _ _ (rn_some rfl)⟩⟩
            ·
              try simp only [go_sem]
              exact wkR_box (rn_some rfl) rfl (wkE _)
          intro n21 s21 o21 h21 he21 hi21
          try simp only [go_sem]
          refine cut_l ?_
          try simp only [go_sem]
          refine ways_d (fun c22 => ?_) (fun c22 => ?_)
          ·
            replace h21 := if_p c22 h21
            refine cut_l ?_
            try simp only [go_sem]
            obtain ⟨x23, hx23, h21⟩ := of_bind h21
            refine call_p false (c_ref9_checkSlot hx23) ⟨wkE _, .same _ trivial, trivial⟩ nofun ?_
            try simp only [go_sem]
            refine cut_l ?_
            try simp only [go_sem]
            refine ways_n (fun c24 => ?_) (fun c24 => ?_)
            ·
              replace h21 := if_n c24 h21
              obtain rfl := Option.some.inj h21
              obtain rfl := he21 _ rfl
              obtain rfl := Option.some.inj h
              exact .same _ trivial
            ·
              replace h21 := if_p c24 h21
              obtain ⟨⟨g25_0, g25_1⟩, h21⟩ := of_guard h21
              simp only [W64 g25_0 g25_1]
              obtain rfl := Option.some.inj h21
              refine nextL (hi21 _ rfl) ?_
              refine wk_of [(0, some 0)] rfl ?_ ?_
              ·
                try simp only [go_sem]
                exact ⟨.same _ trivial, ⟨.same _ trivial, .ptr _ _ _ _ _ (rn_some rfl)⟩⟩
              ·
                try simp only [go_sem]
                exact wkR_box (rn_some rfl) rfl (wkE _)
          ·
            replace h21 := if_n c22 h21
            obtain rfl := Option.some.inj h21
            obtain rfl := he21 _ rfl
            refine zend ?_
            refine wk_of [(0, some 0)] rfl ?_ ?_
            ·
              try simp only [go_sem]
              exact ⟨.same _ trivial, .ptr _ _ _ _ _ (rn_some rfl)⟩
            ·
              try simp only [go_sem]
              exact wkR_box (rn_some rfl) rfl (wkE _)
        subst hz20
        simp only [Sum.elim_inr] at h
        try simp only [go_sem]
        refine cut_l ?_
        try simp only [go_sem]
        refine ways_d (fun c26 => ?_) (fun c26 => ?_)
        ·
          replace h := if_p c26 h
          obtain rfl := Option.some.inj h
          exact .same _ trivial
        ·
          replace h := if_n c26 h
          obtain ⟨z27, h27, h⟩ := of_bind h
          refine cut_z z27 (fun (s : Int) => [(2, AVal.int IntKind.i64 s)]) (fun (s : Int) => { nx := 1, rows := [] : Heap }) ?_ (fun e27 hz27 => ?_)
          ·
            try simp only [go_sem]
            refine loop_w h27 (fun (s : Int × Int) => [(7, AVal.int IntKind.i64 (Prod.fst s)), (2, AVal.int IntKind.i64 (Prod.snd s)), (1, AVal.ptr (0, 0) 7 0 0)]) (fun (s : Int × Int) => { nx := 1, rows := [(0, Ent.one { sz := 7, d := encTPanel a0, l := [encTPanel (Prod.snd e6)] : Row })] : Heap }) ?_ ?_
            ·
              refine wk_of [(0, some 0)] rfl ?_ ?_
              ·
                try simp only [go_sem]
                exact ⟨.same _ trivial, ⟨.same _ trivial, .ptr _ _ _ _ _ (rn_some rfl)⟩⟩
              ·
                try simp only [go_sem]
                exact wkR_box (rn_some rfl) rfl (wkE _)
            intro n28 s28 o28 h28 he28 hi28
            try simp only [go_sem]
            refine cut_l ?_
            try simp only [go_sem]
            refine ways_d (fun c29 => ?_) (fun c29 => ?_)
            ·
              replace h28 := if_p c29 h28
              refine cut_l ?_
              try simp only [go_sem]
              obtain ⟨x30, hx30, h28⟩ := of_bind h28
              refine call_p false (c_ref9_checkMark hx30) ⟨wkE _, .same _ trivial, trivial⟩ nofun ?_
              try simp only [go_sem]
              refine cut_l ?_
              try simp only [go_sem]
              refine ways_n (fun c31 => ?_) (fun c31 => ?_)
              ·
                replace h28 := if_n c31 h28
                obtain rfl := Option.some.inj h28
                obtain rfl := he28 _ rfl
                obtain rfl := Option.some.inj h
                exact .same _ trivial
              ·
                replace h28 := if_p c31 h28
                obtain ⟨⟨g32_0, g32_1⟩, h28⟩ := of_guard h28
                simp only [W64 g32_0 g32_1]
                obtain rfl := Option.some.inj h28
                refine nextL (hi28 _ rfl) ?_
                refine wk_of [(0, some 0)] rfl ?_ ?_
                ·
                  try simp only [go_sem]
                  exact ⟨.same _ trivial, ⟨.same _ trivial, .ptr _ _ _ _ _ (rn_some rfl)⟩⟩
                ·
                  try simp only [go_sem]
                  exact wkR_box (rn_some rfl) rfl (wkE _)
            ·
              replace h28 := if_n c29 h28
              obtain rfl := Option.some.inj h28
              obtain rfl := he28 _ rfl
              refine zend ?_
              refine wk_of [] rfl ?_ ?_
              ·
                try simp only [go_sem]
                exact .same _ trivial
              ·
                try simp only [go_sem]
          subst hz27
          simp only [Sum.elim_inr] at h
          try simp only [go_sem]
          obtain rfl := Option.some.inj h
          exact .same _ trivial
theorem c_panel_open {a0 : TPanel} {r : (List TRect) × Int} (h : p_panel_open a0 = some r)  : PCalls Try.prog 49 [encTPanel a0] (tup [encL 4 encTRect r.1, .int .i64 r.2]) := by
  unfold p_panel_open at h
  refine pcalls_of (ordOf [(18, [0, 2, 1, 3, 4, 5, 6])]) (fun _ => []) Try.func49 (by unfold Try.f49; rfl) (by kernel_rfl) (by kernel_rfl) ?_
  simp only [awp_seq]
  simp only [argSlots]
  dsimp only [Try.f49]
  try simp only [go_sem]
  obtain ⟨x0, hx0, h⟩ := of_bind h
  refine call_p false (c_panel_within hx0) ⟨.same _ trivial, .same _ trivial, .same _ trivial, trivial⟩ nofun ?_
  try simp only [go_sem]
  obtain ⟨x1, hx1, h⟩ := of_bind h
  refine qcall_p false (fun hg => c_panel_within (if_t hg hx1)) (fun _ => ⟨.same _ trivial, .same _ trivial, .same _ trivial, trivial⟩) nofun ?_
  try simp only [go_sem]
  refine ob (by simp) ?_
  obtain ⟨x2, hx2, h⟩ := of_bind h
  refine qcall_p false (fun hg => c_panel_within (if_t hg hx2)) (fun _ => ⟨.same _ trivial, .same _ trivial, .same _ trivial, trivial⟩) nofun ?_
  try simp only [go_sem]
  refine ob (by simp) ?_
  obtain ⟨x3, hx3, h⟩ := of_bind h
  refine qcall_p false (fun hg => c_panel_within (if_t hg hx3)) (fun _ => ⟨.same _ trivial, .same _ trivial, .same _ trivial, trivial⟩) nofun ?_
  try simp only [go_sem]
  refine ob (by simp) ?_
  refine cut_l ?_
  try simp only [go_sem]
  refine ways (fun c4 => ?_) (fun c4 => ?_)
  ·
    replace h := if_t c4 h
    try simp only [Bool.and_eq_true, Bool.or_eq_true, Bool.not_eq_true', Bool.not_eq_false', Bool.and_eq_false_imp, Bool.or_eq_false_iff, decide_eq_true_eq, decide_eq_false_iff_not] at c4
    obtain rfl := Option.some.inj h
    exact wkv_tup ⟨wkv_nilL, .same _ trivial, trivial⟩
  ·
    replace h := if_f c4 h
    try simp only [Bool.and_eq_true, Bool.or_eq_true, Bool.not_eq_true', Bool.not_eq_false', Bool.and_eq_false_imp, Bool.or_eq_false_iff, decide_eq_true_eq, decide_eq_false_iff_not] at c4
    obtain ⟨x5, hx5, h⟩ := of_bind h
    refine call_p false (c_panel_checkKinds hx5) ⟨.same _ trivial, trivial⟩ nofun ?_
    try simp only [go_sem]
    refine cut_l ?_
    try simp only [go_sem]
    refine ways_n (fun c6 => ?_) (fun c6 => ?_)
    ·
      replace h := if_n c6 h
      obtain rfl := Option.some.inj h
      exact wkv_tup ⟨wkv_nilL, .same _ trivial, trivial⟩
    ·
      replace h := if_p c6 h
      obtain ⟨x7, hx7, h⟩ := of_bind h
      refine call_p false (c_panel_cells hx7) ⟨wkE _, trivial⟩ nofun ?_
      try simp only [go_sem]
      refine cut_l ?_
      try simp only [go_sem]
      refine ways_n (fun c8 => ?_) (fun c8 => ?_)
      ·
        replace h := if_n c8 h
        obtain rfl := Option.some.inj h
        exact wkv_tup ⟨wkv_nilL, .same _ trivial, trivial⟩
      ·
        replace h := if_p c8 h
        refine cut_l ?_
        try simp only [go_sem]
        refine ways_d (fun c9 => ?_) (fun c9 => ?_)
        ·
          replace h := if_p c9 h
          obtain rfl := Option.some.inj h
          exact wkv_tup ⟨wkv_nilL, .same _ trivial, trivial⟩
        ·
          replace h := if_n c9 h
          obtain ⟨z10, h10, h⟩ := of_bind h
          refine cut_z z10 (fun (s : Int × List TRect) => [(5, encL 4 encTRect (Prod.fst x7)), (3, AVal.int IntKind.i64 (Prod.fst s)), (2, encL 4 encTRect (Prod.snd s))]) (fun (s : Int × List TRect) => { nx := 1, rows := [] : Heap }) ?_ (fun e10 hz10 => ?_)
          ·
            try simp only [go_sem]
            refine loop_w h10 (fun (s : Int × Int × List TRect × TPanel) => [(52, AVal.int IntKind.i64 (Prod.fst s)), (51, AVal.int IntKind.i64 (↑(List.length (TPanel.Marks a0)) : Int)), (50, encL 2 encTPoint (TPanel.Marks a0)), (5, encL 4 encTRect (Prod.fst x7)), (3, AVal.int IntKind.i64 (Prod.fst (Prod.snd s))), (2, encL 4 encTRect (Prod.fst (Prod.snd (Prod.snd s)))), (1, AVal.ptr (0, 0) 7 0 0)]) (fun (s : Int × Int × List TRect × TPanel) => { nx := 1, rows := [(0, Ent.one { sz := 7, d := encTPanel a0, l := [encTPanel (Prod.snd (Prod.snd (Prod.snd s)))] : Row })] : Heap }) ?_ ?_
            ·
              refine wk_of [(0, some 0)] rfl ?_ ?_
              ·
                try simp only [go_sem]
                exact ⟨.same _ trivial, ⟨.same _ trivial, ⟨.same _ trivial, ⟨.same _ trivial, ⟨.same _ trivial, ⟨wkv_nilL, .ptr _ _ _ _ _ (rn_some rfl)⟩⟩⟩⟩⟩⟩
              ·
                try simp only [go_sem]
                exact wkR_box (rn_some rfl) rfl (wkE _)
            intro n11 s11 o11 h11 he11 hi11
            try simp only [go_sem]
            refine cut_l ?_
            try simp only [go_sem]
            refine ways_d (fun c12 => ?_) (fun c12 => ?_)
            ·
              replace h11 := if_p c12 h11
              refine cut_l ?_
              try simp only [go_sem]
              obtain ⟨g13, h11⟩ := of_guard h11
              refine ob ⟨by assumption, by assumption⟩ ?_
              refine cut_l ?_
              try simp only [go_sem]
              obtain ⟨x14, hx14, h11⟩ := of_bind h11
              refine call_p false (c_panel_isOnPanel hx14) ⟨wkE _, wkE _, trivial⟩ nofun ?_
              try simp only [go_sem]
              refine cut_l ?_
              try simp only [go_sem]
              refine ways (fun c15 => ?_) (fun c15 => ?_)
              ·
                replace h11 := if_t c15 h11
                try simp only [Bool.and_eq_true, Bool.or_eq_true, Bool.not_eq_true', Bool.not_eq_false', Bool.and_eq_false_imp, Bool.or_eq_false_iff, decide_eq_true_eq, decide_eq_false_iff_not] at c15
                obtain rfl := Option.some.inj h11
                obtain rfl := he11 _ rfl
                obtain rfl := Option.some.inj h
                exact wkv_tup ⟨wkv_nilL, .same _ trivial, trivial⟩
              ·
                replace h11 := if_f c15 h11
                try simp only [Bool.and_eq_true, Bool.or_eq_true, Bool.not_eq_true', Bool.not_eq_false', Bool.and_eq_false_imp, Bool.or_eq_false_iff, decide_eq_true_eq, decide_eq_false_iff_not] at c15
                obtain ⟨x16, hx16, h11⟩ := of_bind h11
                refine call_p true (c_slices_ContainsFunc_Rect hx16 (by simp only [go_sem]) (fun _ _ h => c_panel_open_1 h)) ⟨.same _ trivial, wkv_fnA rfl ⟨wkv_box rfl (R0_ne _) rfl (by simp only [go_sem]) (wkE _), trivial⟩, trivial⟩ (fun _ => by simp only [go_sem]) ?_
                refine cut_l ?_
                try simp only [go_sem]
                refine ways (fun c17 => ?_) (fun c17 => ?_)
                ·
                  replace h11 := if_t c17 h11
                  try simp only [Bool.and_eq_true, Bool.or_eq_true, Bool.not_eq_true', Bool.not_eq_false', Bool.and_eq_false_imp, Bool.or_eq_false_iff, decide_eq_true_eq, decide_eq_false_iff_not] at c17
                  obtain rfl := Option.some.inj h11
                  obtain rfl := he11 _ rfl
                  obtain rfl := Option.some.inj h
                  exact wkv_tup ⟨wkv_nilL, .same _ trivial, trivial⟩
                ·
                  replace h11 := if_f c17 h11
                  try simp only [Bool.and_eq_true, Bool.or_eq_true, Bool.not_eq_true', Bool.not_eq_false', Bool.and_eq_false_imp, Bool.or_eq_false_iff, decide_eq_true_eq, decide_eq_false_iff_not] at c17
                  obtain ⟨g18, h11⟩ := of_guard h11
                  refine ob ⟨by assumption, by assumption⟩ ?_
                  obtain ⟨x19, hx19, h11⟩ := of_bind h11
                  refine qcall_p false (fun _ => c_slices_Contains_Point hx19) (fun _ => ⟨.same _ trivial, wkE _, trivial⟩) nofun ?_
                  refine cut_l ?_
                  try simp only [go_sem]
                  refine ways (fun c20 => ?_) (fun c20 => ?_)
                  ·
                    replace h11 := if_t c20 h11
                    try simp only [Bool.and_eq_true, Bool.or_eq_true, Bool.not_eq_true', Bool.not_eq_false', Bool.and_eq_false_imp, Bool.or_eq_false_iff, decide_eq_true_eq, decide_eq_false_iff_not] at c20
                    obtain rfl := Option.some.inj h11
                    obtain rfl := he11 _ rfl
                    obtain rfl := Option.some.inj h
                    exact wkv_tup ⟨wkv_nilL, .same _ trivial, trivial⟩
                  ·
                    replace h11 := if_f c20 h11
                    try simp only [Bool.and_eq_true, Bool.or_eq_true, Bool.not_eq_true', Bool.not_eq_false', Bool.and_eq_false_imp, Bool.or_eq_false_iff, decide_eq_true_eq, decide_eq_false_iff_not] at c20
                    simp only [W64 (n := Prod.fst s11 + 1) (by omega) (by omega)]
                    obtain rfl := Option.some.inj h11
                    refine nextL (hi11 _ rfl) ?_
                    refine wk_of [(0, some 0)] rfl ?_ ?_
                    ·
                      try simp only [go_sem]
                      exact ⟨.same _ trivial, ⟨.same _ trivial, ⟨.same _ trivial, ⟨.same _ trivial, ⟨.same _ trivial, ⟨.same _ trivial, .ptr _ _ _ _ _ (rn_some rfl)⟩⟩⟩⟩⟩⟩
                    ·
                      try simp only [go_sem]
                      exact wkR_box (rn_some rfl) rfl (wkE _)
            ·
              replace h11 := if_n c12 h11
              obtain rfl := Option.some.inj h11
              obtain rfl := he11 _ rfl
              refine zend ?_
              refine wk_of [] rfl ?_ ?_
              ·
                try simp only [go_sem]
                exact ⟨.same _ trivial, ⟨.same _ trivial, .same _ trivial⟩⟩
              ·
                try simp only [go_sem]
          subst hz10
          simp only [Sum.elim_inr] at h
          try simp only [go_sem]
          obtain rfl := Option.some.inj h
          exact wkv_same (by simp only [go_sem]) rfl
theorem c_ref9_laid {a0 : TPanel} {a1 : (List TSlot)} {r : TPanel × Int} (h : p_ref9_laid a0 a1 = some r)  : PCalls Try.prog 68 [encTPanel a0, encL 4 encTSlot a1] (tup [encTPanel r.1, .int .i64 r.2]) := by
  unfold p_ref9_laid at h
  refine pcalls_of (fun _ => none) (fun _ => []) Try.func68 (by unfold Try.f68; rfl) (by kernel_rfl) (by kernel_rfl) ?_
  simp only [awp_seq]
  simp only [argSlots]
  dsimp only [Try.f68]
  try simp only [go_sem]
  obtain ⟨x0, hx0, h⟩ := of_bind h
  refine call_p false (c_ref9_CheckPanel hx0) ⟨wkE _, trivial⟩ nofun ?_
  try simp only [go_sem]
  refine cut_l ?_
  try simp only [go_sem]
  refine ways_n (fun c1 => ?_) (fun c1 => ?_)
  ·
    replace h := if_n c1 h
    obtain rfl := Option.some.inj h
    exact wkv_tup ⟨wkv_aggA rfl ⟨.same _ trivial, .same _ trivial, .same _ trivial, .same _ trivial, wkv_nilL, wkv_nilL, wkv_nilL, trivial⟩, .same _ trivial, trivial⟩
  ·
    replace h := if_p c1 h
    obtain rfl := Option.some.inj h
    exact wkv_same (by simp only [go_sem]) rfl
theorem c_panel_CheckPanel {a0 : TPanel} {r : Int} (h : p_panel_CheckPanel a0 = some r)  : PCalls Try.prog 32 [encTPanel a0] (.int .i64 r) := by
  unfold p_panel_CheckPanel at h
  refine pcalls_of (fun _ => none) (fun _ => []) Try.func32 (by unfold Try.f32; rfl) (by kernel_rfl) (by kernel_rfl) ?_
  simp only [awp_seq]
  simp only [argSlots]
  dsimp only [Try.f32]
  try simp only [go_sem]
  obtain ⟨x0, hx0, h⟩ := of_bind h
  refine call_p false (c_panel_open hx0) ⟨wkE _, trivial⟩ nofun ?_
  try simp only [go_sem]
  obtain rfl := Option.some.inj h
  exact .same _ trivial
theorem c_panel_Use {a0 : TPanel} {r : TShare × Int} (h : p_panel_Use a0 = some r)  : PCalls Try.prog 48 [encTPanel a0] (tup [encTShare r.1, .int .i64 r.2]) := by
  unfold p_panel_Use at h
  refine pcalls_of (ordOf [(4, [0, 2, 4, 1, 3, 5, 6, 7, 8, 9])]) (fun _ => []) Try.func48 (by unfold Try.f48; rfl) (by kernel_rfl) (by kernel_rfl) ?_
  simp only [awp_seq]
  simp only [argSlots]
  dsimp only [Try.f48]
  try simp only [go_sem]
  obtain ⟨x0, hx0, h⟩ := of_bind h
  refine call_p false (c_panel_open hx0) ⟨wkE _, trivial⟩ nofun ?_
  try simp only [go_sem]
  refine cut_l ?_
  try simp only [go_sem]
  refine ways_n (fun c1 => ?_) (fun c1 => ?_)
  ·
    replace h := if_n c1 h
    obtain rfl := Option.some.inj h
    exact wkv_same (by simp only [go_sem]) rfl
  ·
    replace h := if_p c1 h
    obtain ⟨x2, hx2, h⟩ := of_bind h
    refine qcall_p false (fun _ => c_shape_AreaOf hx2) (fun _ => ⟨.same _ trivial, trivial⟩) nofun ?_
    obtain ⟨⟨g3_0, g3_1⟩, h⟩ := of_guard h
    simp only [W64 g3_0 g3_1]
    obtain ⟨x4, hx4, h⟩ := of_bind h
    refine qcall_p false (fun _ => c_panel_Lowest hx4) (fun _ => ⟨.same _ trivial, .same _ trivial, trivial⟩) nofun ?_
    try simp only [go_sem]
    obtain rfl := Option.some.inj h
    exact wkv_same (by simp only [go_sem]) rfl
theorem c_ref9_Grid {a0 : TPanel} {a1 : ByteArray} {a2 : Int} {r : TPanel × Int} (h : p_ref9_Grid a0 a1 a2 = some r)  : PCalls Try.prog 28 [encTPanel a0, .str a1, .int .i64 a2] (tup [encTPanel r.1, .int .i64 r.2]) := by
  unfold p_ref9_Grid at h
  refine pcalls_of (ordOf [(10, [0, 2, 6, 7, 10, 12, 16, 17, 1, 3, 4, 5, 8, 9, 11, 13, 14, 15, 18, 19, 20, 21])]) (fun _ => []) Try.func28 (by unfold Try.f28; rfl) (by kernel_rfl) (by kernel_rfl) ?_
  simp only [awp_seq]
  simp only [argSlots]
  dsimp only [Try.f28]
  try simp only [go_sem]
  obtain ⟨x0, hx0, h⟩ := of_bind h
  refine call_p false (c_ref9_CheckPanel hx0) ⟨wkE _, trivial⟩ nofun ?_
  try simp only [go_sem]
  refine cut_l ?_
  try simp only [go_sem]
  refine ways_n (fun c1 => ?_) (fun c1 => ?_)
  ·
    replace h := if_n c1 h
    obtain rfl := Option.some.inj h
    exact wkv_tup ⟨wkv_aggA rfl ⟨.same _ trivial, .same _ trivial, .same _ trivial, .same _ trivial, wkv_nilL, wkv_nilL, wkv_nilL, trivial⟩, .same _ trivial, trivial⟩
  ·
    replace h := if_p c1 h
    obtain ⟨x2, hx2, h⟩ := of_bind h
    refine call_p false (c_ref9_kind hx2) ⟨wkE _, .same _ trivial, trivial⟩ nofun ?_
    try simp only [go_sem]
    refine cut_l ?_
    try simp only [go_sem]
    refine ways_d (fun c3 => ?_) (fun c3 => ?_)
    ·
      replace h := if_p c3 h
      obtain rfl := Option.some.inj h
      exact wkv_tup ⟨wkv_aggA rfl ⟨.same _ trivial, .same _ trivial, .same _ trivial, .same _ trivial, wkv_nilL, wkv_nilL, wkv_nilL, trivial⟩, .same _ trivial, trivial⟩
    ·
      replace h := if_n c3 h
      obtain ⟨x4, hx4, h⟩ := of_bind h
      refine call_p false (c_ref9_within hx4) ⟨.same _ trivial, .same _ trivial, .same _ trivial, trivial⟩ nofun ?_
      try simp only [go_sem]
      refine cut_l ?_
      try simp only [go_sem]
      refine ways (fun c5 => ?_) (fun c5 => ?_)
      ·
        replace h := if_t c5 h
        try simp only [Bool.and_eq_true, Bool.or_eq_true, Bool.not_eq_true', Bool.not_eq_false', Bool.and_eq_false_imp, Bool.or_eq_false_iff, decide_eq_true_eq, decide_eq_false_iff_not] at c5
        obtain rfl := Option.some.inj h
        exact wkv_tup ⟨wkv_aggA rfl ⟨.same _ trivial, .same _ trivial, .same _ trivial, .same _ trivial, wkv_nilL, wkv_nilL, wkv_nilL, trivial⟩, .same _ trivial, trivial⟩
      ·
        replace h := if_f c5 h
        try simp only [Bool.and_eq_true, Bool.or_eq_true, Bool.not_eq_true', Bool.not_eq_false', Bool.and_eq_false_imp, Bool.or_eq_false_iff, decide_eq_true_eq, decide_eq_false_iff_not] at c5
        obtain ⟨g6, h⟩ := of_guard h
        refine ob ⟨by omega, by assumption⟩ ?_
        obtain ⟨x7, hx7, h⟩ := of_bind h
        refine call_p false (c_ref9_sizeOf hx7) ⟨wkE _, .same _ trivial, trivial⟩ nofun ?_
        try simp only [go_sem]
        obtain ⟨⟨g8_0, g8_1⟩, h⟩ := of_guard h
        simp only [W64 g8_0 g8_1]
        obtain ⟨⟨g9_0, g9_1⟩, h⟩ := of_guard h
        simp only [W64 g9_0 g9_1]
        obtain ⟨x10, hx10, h⟩ := of_bind h
        refine qcall_p false (fun _ => c_ref9_fit hx10) (fun _ => ⟨.same _ trivial, .same _ trivial, .same _ trivial, trivial⟩) nofun ?_
        try simp only [go_sem]
        obtain ⟨⟨g11_0, g11_1⟩, h⟩ := of_guard h
        simp only [W64 g11_0 g11_1]
        obtain ⟨x12, hx12, h⟩ := of_bind h
        refine qcall_p false (fun _ => c_ref9_fit hx12) (fun _ => ⟨.same _ trivial, .same _ trivial, .same _ trivial, trivial⟩) nofun ?_
        try simp only [go_sem]
        obtain ⟨g13, h⟩ := of_guard h
        refine ob (by assumption) ?_
        obtain ⟨⟨g14_0, g14_1⟩, h⟩ := of_guard h
        simp only [W64 g14_0 g14_1]
        refine cut_l ?_
        try simp only [go_sem]
        refine ways (fun c15 => ?_) (fun c15 => ?_)
        ·
          replace h := if_t c15 h
          try simp only [Bool.and_eq_true, Bool.or_eq_true, Bool.not_eq_true', Bool.not_eq_false', Bool.and_eq_false_imp, Bool.or_eq_false_iff, decide_eq_true_eq, decide_eq_false_iff_not] at c15
          obtain rfl := Option.some.inj h
          exact wkv_tup ⟨wkv_aggA rfl ⟨.same _ trivial, .same _ trivial, .same _ trivial, .same _ trivial, wkv_nilL, wkv_nilL, wkv_nilL, trivial⟩, .same _ trivial, trivial⟩
        ·
          replace h := if_f c15 h
          try simp only [Bool.and_eq_true, Bool.or_eq_true, Bool.not_eq_true', Bool.not_eq_false', Bool.and_eq_false_imp, Bool.or_eq_false_iff, decide_eq_true_eq, decide_eq_false_iff_not] at c15
          obtain ⟨e16, h16, h⟩ := of_bind h
          refine cut_j ([(14, encL 4 encTSlot e16), (7, AVal.int IntKind.i64 0), (6, AVal.ptr (1, 0) 7 0 0), (3, AVal.ptr (0, 0) 7 0 0)]) ({ nx := 10002, rows := [(1, Ent.one { sz := 7, d := agg [AVal.int IntKind.i64 0, AVal.int IntKind.i64 0, AVal.int IntKind.i64 0, AVal.int IntKind.i64 0, AVal.nilsl, AVal.nilsl, AVal.nilsl], l := [agg [AVal.int IntKind.i64 0, AVal.int IntKind.i64 0, AVal.int IntKind.i64 0, AVal.int IntKind.i64 0, AVal.nilsl, AVal.nilsl, AVal.nilsl]] : Row }), (0, Ent.one { sz := 7, d := encTPanel a0, l := [encTPanel a0] : Row })] : Heap }) ?_ ?_
          ·
            try simp only [go_sem]
            refine loop_w h16 (fun (s : Int × List TSlot) => [(15, AVal.int IntKind.i64 (Prod.fst s)), (14, AVal.sref (10002, 0) 0 4 (List.length (Prod.snd s))), (13, AVal.int IntKind.i64 x12), (12, AVal.int IntKind.i64 x10), (11, AVal.int IntKind.i64 (Prod.snd x7)), (10, AVal.int IntKind.i64 (Prod.fst x7)), (7, AVal.int IntKind.i64 0), (6, AVal.ptr (1, 0) 7 0 0), (3, AVal.ptr (0, 0) 7 0 0), (1, AVal.str a1), (2, AVal.int IntKind.i64 a2)]) (fun (s : Int × List TSlot) => { nx := 10003, rows := [(10002, Ent.one { sz := 4, d := encTSlot default, l := List.map encTSlot (Prod.snd s) : Row }), (1, Ent.one { sz := 7, d := agg [AVal.int IntKind.i64 0, AVal.int IntKind.i64 0, AVal.int IntKind.i64 0, AVal.int IntKind.i64 0, AVal.nilsl, AVal.nilsl, AVal.nilsl], l := [agg [AVal.int IntKind.i64 0, AVal.int IntKind.i64 0, AVal.int IntKind.i64 0, AVal.int IntKind.i64 0, AVal.nilsl, AVal.nilsl, AVal.nilsl]] : Row }), (0, Ent.one { sz := 7, d := encTPanel a0, l := [encTPanel a0] : Row })] : Heap }) ?_ ?_
            ·
              refine wk_of [(10002, none), (1, some 1), (0, some 0)] rfl ?_ ?_
              ·
                try simp only [go_sem]
                exact ⟨.same _ trivial, ⟨wkv_nil (rn_none rfl) rfl, ⟨.same _ trivial, ⟨.same _ trivial, ⟨.same _ trivial, ⟨.same _ trivial, ⟨.same _ trivial, ⟨.ptr _ _ _ _ _ (rn_some rfl), ⟨.ptr _ _ _ _ _ (rn_some rfl), ⟨.same _ trivial, .same _ trivial⟩⟩⟩⟩⟩⟩⟩⟩⟩⟩
              ·
                try simp only [go_sem]
                exact ⟨wkR_nilT (rn_none rfl), ⟨wkR_box (rn_some rfl) rfl (wkv_same (by simp only [go_sem]) rfl), wkR_box (rn_some rfl) rfl (wkE _)⟩⟩
            intro n17 s17 o17 h17 he17 hi17
            try simp only [go_sem]
            refine cut_l ?_
            try simp only [go_sem]
            refine ways (fun c18 => ?_) (fun c18 => ?_)
            ·
              replace h17 := if_t c18 h17
              try simp only [Bool.and_eq_true, Bool.or_eq_true, Bool.not_eq_true', Bool.not_eq_false', Bool.and_eq_false_imp, Bool.or_eq_false_iff, decide_eq_true_eq, decide_eq_false_iff_not] at c18
              refine cut_l ?_
              try simp only [go_sem]
              obtain ⟨⟨g19_0, g19_1⟩, h17⟩ := of_guard h17
              simp only [W64 g19_0 g19_1]
              obtain ⟨⟨g20_0, g20_1⟩, h17⟩ := of_guard h17
              simp only [W64 g20_0 g20_1]
              obtain ⟨⟨g21_0, g21_1⟩, h17⟩ := of_guard h17
              simp only [W64 g21_0 g21_1]
              obtain ⟨x22, hx22, h17⟩ := of_bind h17
              refine call_r false [10002] (c_ref9_row_o hx22) ⟨wkE _, wkv_sref rfl rfl, .same _ trivial, .same _ trivial, .same _ trivial, .same _ trivial, .same _ trivial, trivial⟩ (wkH_rho (by decide) rfl ⟨⟨by decide, wkR_typed rfl rfl rfl⟩, trivial⟩) rfl (by simp) (by simp) nofun ?_
              try simp only [go_sem]
              obtain ⟨⟨g23_0, g23_1⟩, h17⟩ := of_guard h17
              simp only [W64 g23_0 g23_1]
              obtain rfl := Option.some.inj h17
              refine nextL (hi17 _ rfl) ?_
              refine wk_of [(10002, some 10003), (1, some 1), (0, some 0)] rfl ?_ ?_
              ·
                try simp only [go_sem]
                exact ⟨.same _ trivial, ⟨wkv_sref (rn_some rfl) rfl, ⟨.same _ trivial, ⟨.same _ trivial, ⟨.same _ trivial, ⟨.same _ trivial, ⟨.same _ trivial, ⟨.ptr _ _ _ _ _ (rn_some rfl), ⟨.ptr _ _ _ _ _ (rn_some rfl), ⟨.same _ trivial, .same _ trivial⟩⟩⟩⟩⟩⟩⟩⟩⟩⟩
              ·
                try simp only [go_sem]
                exact ⟨wkR_typed (rn_some rfl) rfl rfl, ⟨wkR_box (rn_some rfl) rfl (wkv_same (by simp only [go_sem]) rfl), wkR_box (rn_some rfl) rfl (wkE _)⟩⟩
            ·
              replace h17 := if_f c18 h17
              try simp only [Bool.and_eq_true, Bool.or_eq_true, Bool.not_eq_true', Bool.not_eq_false', Bool.and_eq_false_imp, Bool.or_eq_false_iff, decide_eq_true_eq, decide_eq_false_iff_not] at c18
              obtain rfl := Option.some.inj h17
              obtain rfl := he17 _ rfl
              refine wk_of [(1, some 1), (0, some 0)] rfl ?_ ?_
              ·
                try simp only [go_sem]
                exact ⟨wkv_own rfl (rn_notTo rfl) rfl, ⟨.same _ trivial, ⟨.ptr _ _ _ _ _ (rn_some rfl), .ptr _ _ _ _ _ (rn_some rfl)⟩⟩⟩
              ·
                try simp only [go_sem]
                exact ⟨wkR_box (rn_some rfl) rfl (wkv_same (by simp only [go_sem]) rfl), wkR_box (rn_some rfl) rfl (wkE _)⟩
          try simp only [go_sem]
          obtain ⟨x24, hx24, h⟩ := of_bind h
          refine call_p false (c_ref9_laid hx24) ⟨wkE _, .same _ trivial, trivial⟩ nofun ?_
          try simp only [go_sem]
          obtain rfl := Option.some.inj h
          exact wkv_same (by simp only [go_sem]) rfl
theorem c_ref9_Rows {a0 : TPanel} {a1 : ByteArray} {r : TPanel × Int} (h : p_ref9_Rows a0 a1 = some r)  : PCalls Try.prog 30 [encTPanel a0, .str a1] (tup [encTPanel r.1, .int .i64 r.2]) := by
  unfold p_ref9_Rows at h
  refine pcalls_of (ordOf [(7, [0, 2, 6, 8, 1, 3, 4, 5, 12, 7, 9, 10, 11, 13]), (9, [0, 2, 6, 7, 10, 12, 16, 17, 1, 3, 4, 5, 8, 9, 11, 13, 14, 15, 18, 19, 20, 21])]) (fun _ => []) Try.func30 (by unfold Try.f30; rfl) (by kernel_rfl) (by kernel_rfl) ?_
  simp only [awp_seq]
  simp only [argSlots]
  dsimp only [Try.f30]
  try simp only [go_sem]
  obtain ⟨x0, hx0, h⟩ := of_bind h
  refine call_p false (c_ref9_CheckPanel hx0) ⟨wkE _, trivial⟩ nofun ?_
  try simp only [go_sem]
  refine cut_l ?_
  try simp only [go_sem]
  refine ways_n (fun c1 => ?_) (fun c1 => ?_)
  ·
    replace h := if_n c1 h
    obtain rfl := Option.some.inj h
    exact wkv_tup ⟨wkv_aggA rfl ⟨.same _ trivial, .same _ trivial, .same _ trivial, .same _ trivial, wkv_nilL, wkv_nilL, wkv_nilL, trivial⟩, .same _ trivial, trivial⟩
  ·
    replace h := if_p c1 h
    obtain ⟨x2, hx2, h⟩ := of_bind h
    refine call_p false (c_ref9_kind hx2) ⟨wkE _, .same _ trivial, trivial⟩ nofun ?_
    try simp only [go_sem]
    refine cut_l ?_
    try simp only [go_sem]
    refine ways_d (fun c3 => ?_) (fun c3 => ?_)
    ·
      replace h := if_p c3 h
      obtain rfl := Option.some.inj h
      exact wkv_tup ⟨wkv_aggA rfl ⟨.same _ trivial, .same _ trivial, .same _ trivial, .same _ trivial, wkv_nilL, wkv_nilL, wkv_nilL, trivial⟩, .same _ trivial, trivial⟩
    ·
      replace h := if_n c3 h
      obtain ⟨g4, h⟩ := of_guard h
      refine ob ⟨by omega, by assumption⟩ ?_
      obtain ⟨⟨g5_0, g5_1⟩, h⟩ := of_guard h
      simp only [W64 g5_0 g5_1]
      obtain ⟨⟨g6_0, g6_1⟩, h⟩ := of_guard h
      simp only [W64 g6_0 g6_1]
      obtain ⟨x7, hx7, h⟩ := of_bind h
      refine qcall_p false (fun _ => c_ref9_fit hx7) (fun _ => ⟨.same _ trivial, .same _ trivial, .same _ trivial, trivial⟩) nofun ?_
      try simp only [go_sem]
      obtain ⟨x8, hx8, h⟩ := of_bind h
      refine qcall_p false (fun _ => c_ref9_fit hx8) (fun _ => ⟨.same _ trivial, .same _ trivial, .same _ trivial, trivial⟩) nofun ?_
      obtain ⟨⟨g9_0, g9_1⟩, h⟩ := of_guard h
      simp only [W64 g9_0 g9_1]
      obtain ⟨e10, h10, h⟩ := of_bind h
      refine cut_j ([(13, AVal.int IntKind.i64 e10), (12, AVal.int IntKind.i64 x8), (11, AVal.int IntKind.i64 x7), (10, AVal.int IntKind.i64 (TPanel.H a0 - 2 * TPanel.Rail a0)), (9, AVal.int IntKind.i64 (TBoardKind.H (List.getD (TPanel.Kinds a0) (Int.toNat x2) default))), (8, AVal.int IntKind.i64 (TBoardKind.W (List.getD (TPanel.Kinds a0) (Int.toNat x2) default))), (5, AVal.int IntKind.i64 0), (4, AVal.ptr (1, 0) 7 0 0), (2, AVal.ptr (0, 0) 7 0 0), (1, AVal.str a1)]) ({ nx := 20002, rows := [(1, Ent.one { sz := 7, d := agg [AVal.int IntKind.i64 0, AVal.int IntKind.i64 0, AVal.int IntKind.i64 0, AVal.int IntKind.i64 0, AVal.nilsl, AVal.nilsl, AVal.nilsl], l := [agg [AVal.int IntKind.i64 0, AVal.int IntKind.i64 0, AVal.int IntKind.i64 0, AVal.int IntKind.i64 0, AVal.nilsl, AVal.nilsl, AVal.nilsl]] : Row }), (0, Ent.one { sz := 7, d := encTPanel a0, l := [encTPanel a0] : Row })] : Heap }) ?_ ?_
      ·
        try simp only [go_sem]
        refine ways_d (fun c11 => ?_) (fun c11 => ?_)
        ·
          replace h10 := if_p c11 h10
          obtain ⟨x12, hx12, h10⟩ := of_bind h10
          refine call_p false (c_ref9_fit hx12) ⟨.same _ trivial, .same _ trivial, .same _ trivial, trivial⟩ nofun ?_
          obtain rfl := Option.some.inj h10
          refine wk_of [(1, some 1), (0, some 0)] rfl ?_ ?_
          ·
            try simp only [go_sem]
            exact ⟨.same _ trivial, ⟨.same _ trivial, ⟨.same _ trivial, ⟨.same _ trivial, ⟨.same _ trivial, ⟨.same _ trivial, ⟨.same _ trivial, ⟨.ptr _ _ _ _ _ (rn_some rfl), ⟨.ptr _ _ _ _ _ (rn_some rfl), .same _ trivial⟩⟩⟩⟩⟩⟩⟩⟩⟩
          ·
            try simp only [go_sem]
            exact ⟨wkR_box (rn_some rfl) rfl (wkv_same (by simp only [go_sem]) rfl), wkR_box (rn_some rfl) rfl (wkE _)⟩
        ·
          replace h10 := if_n c11 h10
          obtain rfl := Option.some.inj h10
          refine wk_of [(1, some 1), (0, some 0)] rfl ?_ ?_
          ·
            try simp only [go_sem]
            exact ⟨.same _ trivial, ⟨.same _ trivial, ⟨.same _ trivial, ⟨.same _ trivial, ⟨.same _ trivial, ⟨.same _ trivial, ⟨.same _ trivial, ⟨.ptr _ _ _ _ _ (rn_some rfl), ⟨.ptr _ _ _ _ _ (rn_some rfl), .same _ trivial⟩⟩⟩⟩⟩⟩⟩⟩⟩
          ·
            try simp only [go_sem]
            exact ⟨wkR_box (rn_some rfl) rfl (wkv_same (by simp only [go_sem]) rfl), wkR_box (rn_some rfl) rfl (wkE _)⟩
      try simp only [go_sem]
      obtain ⟨e13, h13, h⟩ := of_bind h
      refine cut_j ([(16, AVal.int IntKind.i64 (Prod.fst e13)), (15, AVal.int IntKind.i64 (Prod.fst (Prod.snd e13))), (14, AVal.int IntKind.i64 (Prod.snd (Prod.snd e13))), (12, AVal.int IntKind.i64 x8), (11, AVal.int IntKind.i64 x7), (9, AVal.int IntKind.i64 (TBoardKind.H (List.getD (TPanel.Kinds a0) (Int.toNat x2) default))), (8, AVal.int IntKind.i64 (TBoardKind.W (List.getD (TPanel.Kinds a0) (Int.toNat x2) default))), (5, AVal.int IntKind.i64 0), (4, AVal.ptr (1, 0) 7 0 0), (2, AVal.ptr (0, 0) 7 0 0), (1, AVal.str a1)]) ({ nx := 20002, rows := [(1, Ent.one { sz := 7, d := agg [AVal.int IntKind.i64 0, AVal.int IntKind.i64 0, AVal.int IntKind.i64 0, AVal.int IntKind.i64 0, AVal.nilsl, AVal.nilsl, AVal.nilsl], l := [agg [AVal.int IntKind.i64 0, AVal.int IntKind.i64 0, AVal.int IntKind.i64 0, AVal.int IntKind.i64 0, AVal.nilsl, AVal.nilsl, AVal.nilsl]] : Row }), (0, Ent.one { sz := 7, d := encTPanel a0, l := [encTPanel a0] : Row })] : Heap }) ?_ ?_
      ·
        try simp only [go_sem]
        refine loop_w h13 (fun (s : Int × Int × Int × Int) => [(17, AVal.int IntKind.i64 (Prod.fst s)), (16, AVal.int IntKind.i64 (Prod.fst (Prod.snd s))), (15, AVal.int IntKind.i64 (Prod.fst (Prod.snd (Prod.snd s)))), (14, AVal.int IntKind.i64 (Prod.snd (Prod.snd (Prod.snd s)))), (12, AVal.int IntKind.i64 x8), (11, AVal.int IntKind.i64 x7), (10, AVal.int IntKind.i64 (TPanel.H a0 - 2 * TPanel.Rail a0)), (9, AVal.int IntKind.i64 (TBoardKind.H (List.getD (TPanel.Kinds a0) (Int.toNat x2) default))), (8, AVal.int IntKind.i64 (TBoardKind.W (List.getD (TPanel.Kinds a0) (Int.toNat x2) default))), (5, AVal.int IntKind.i64 0), (4, AVal.ptr (1, 0) 7 0 0), (2, AVal.ptr (0, 0) 7 0 0), (1, AVal.str a1)]) (fun (s : Int × Int × Int × Int) => { nx := 20002, rows := [(1, Ent.one { sz := 7, d := agg [AVal.int IntKind.i64 0, AVal.int IntKind.i64 0, AVal.int IntKind.i64 0, AVal.int IntKind.i64 0, AVal.nilsl, AVal.nilsl, AVal.nilsl], l := [agg [AVal.int IntKind.i64 0, AVal.int IntKind.i64 0, AVal.int IntKind.i64 0, AVal.int IntKind.i64 0, AVal.nilsl, AVal.nilsl, AVal.nilsl]] : Row }), (0, Ent.one { sz := 7, d := encTPanel a0, l := [encTPanel a0] : Row })] : Heap }) ?_ ?_
        ·
          refine wk_of [(1, some 1), (0, some 0)] rfl ?_ ?_
          ·
            try simp only [go_sem]
            exact ⟨.same _ trivial, ⟨.same _ trivial, ⟨.same _ trivial, ⟨.same _ trivial, ⟨.same _ trivial, ⟨.same _ trivial, ⟨.same _ trivial, ⟨.same _ trivial, ⟨.same _ trivial, ⟨.same _ trivial, ⟨.ptr _ _ _ _ _ (rn_some rfl), ⟨.ptr _ _ _ _ _ (rn_some rfl), .same _ trivial⟩⟩⟩⟩⟩⟩⟩⟩⟩⟩⟩⟩
          ·
            try simp only [go_sem]
            exact ⟨wkR_box (rn_some rfl) rfl (wkv_same (by simp only [go_sem]) rfl), wkR_box (rn_some rfl) rfl (wkE _)⟩
        intro n14 s14 o14 h14 he14 hi14
        try simp only [go_sem]
        refine cut_l ?_
        try simp only [go_sem]
        refine ways_d (fun c15 => ?_) (fun c15 => ?_)
        ·
          replace h14 := if_p c15 h14
          obtain ⟨e16, h16, h14⟩ := of_bind h14
          refine cut_j ([(17, AVal.int IntKind.i64 (Prod.fst s14)), (16, AVal.int IntKind.i64 (Prod.fst e16)), (15, AVal.int IntKind.i64 (Prod.fst (Prod.snd e16))), (14, AVal.int IntKind.i64 (Prod.snd (Prod.snd e16))), (12, AVal.int IntKind.i64 x8), (11, AVal.int IntKind.i64 x7), (10, AVal.int IntKind.i64 (TPanel.H a0 - 2 * TPanel.Rail a0)), (9, AVal.int IntKind.i64 (TBoardKind.H (List.getD (TPanel.Kinds a0) (Int.toNat x2) default))), (8, AVal.int IntKind.i64 (TBoardKind.W (List.getD (TPanel.Kinds a0) (Int.toNat x2) default))), (5, AVal.int IntKind.i64 0), (4, AVal.ptr (1, 0) 7 0 0), (2, AVal.ptr (0, 0) 7 0 0), (1, AVal.str a1)]) ({ nx := 20002, rows := [(1, Ent.one { sz := 7, d := agg [AVal.int IntKind.i64 0, AVal.int IntKind.i64 0, AVal.int IntKind.i64 0, AVal.int IntKind.i64 0, AVal.nilsl, AVal.nilsl, AVal.nilsl], l := [agg [AVal.int IntKind.i64 0, AVal.int IntKind.i64 0, AVal.int IntKind.i64 0, AVal.int IntKind.i64 0, AVal.nilsl, AVal.nilsl, AVal.nilsl]] : Row }), (0, Ent.one { sz := 7, d := encTPanel a0, l := [encTPanel a0] : Row })] : Heap }) ?_ ?_
          ·
            try simp only [go_sem]
            obtain ⟨⟨g17_0, g17_1⟩, h16⟩ := of_guard h16
            simp only [W64 g17_0 g17_1]
            obtain ⟨⟨g18_0, g18_1⟩, h16⟩ := of_guard h16
            simp only [W64 g18_0 g18_1]
            obtain ⟨⟨g19_0, g19_1⟩, h16⟩ := of_guard h16
            simp only [W64 g19_0 g19_1]
            obtain ⟨e20, h20, h16⟩ := of_bind h16
            refine cut_j ([(19, AVal.int IntKind.i64 e20), (17, AVal.int IntKind.i64 (Prod.fst s14)), (16, AVal.int IntKind.i64 (Prod.fst (Prod.snd s14))), (15, AVal.int IntKind.i64 (Prod.fst (Prod.snd (Prod.snd s14)))), (14, AVal.int IntKind.i64 (Prod.snd (Prod.snd (Prod.snd s14)))), (12, AVal.int IntKind.i64 x8), (11, AVal.int IntKind.i64 x7), (10, AVal.int IntKind.i64 (TPanel.H a0 - 2 * TPanel.Rail a0)), (9, AVal.int IntKind.i64 (TBoardKind.H (List.getD (TPanel.Kinds a0) (Int.toNat x2) default))), (8, AVal.int IntKind.i64 (TBoardKind.W (List.getD (TPanel.Kinds a0) (Int.toNat x2) default))), (5, AVal.int IntKind.i64 0), (4, AVal.ptr (1, 0) 7 0 0), (2, AVal.ptr (0, 0) 7 0 0), (1, AVal.str a1)]) ({ nx := 20002, rows := [(1, Ent.one { sz := 7, d := agg [AVal.int IntKind.i64 0, AVal.int IntKind.i64 0, AVal.int IntKind.i64 0, AVal.int IntKind.i64 0, AVal.nilsl, AVal.nilsl, AVal.nilsl], l := [agg [AVal.int IntKind.i64 0, AVal.int IntKind.i64 0, AVal.int IntKind.i64 0, AVal.int IntKind.i64 0, AVal.nilsl, AVal.nilsl, AVal.nilsl]] : Row }), (0, Ent.one { sz := 7, d := encTPanel a0, l := [encTPanel a0] : Row })] : Heap }) ?_ ?_
            ·
              try simp only [go_sem]
              refine ways_d (fun c21 => ?_) (fun c21 => ?_)
              ·
                replace h20 := if_p c21 h20
                obtain ⟨x22, hx22, h20⟩ := of_bind h20
                refine call_p false (c_ref9_fit hx22) ⟨.same _ trivial, .same _ trivial, .same _ trivial, trivial⟩ nofun ?_
                obtain rfl := Option.some.inj h20
                refine wk_of [(1, some 1), (0, some 0)] rfl ?_ ?_
                ·
                  try simp only [go_sem]
                  exact ⟨.same _ trivial, ⟨.same _ trivial, ⟨.same _ trivial, ⟨.same _ trivial, ⟨.same _ trivial, ⟨.same _ trivial, ⟨.same _ trivial, ⟨.same _ trivial, ⟨.same _ trivial, ⟨.same _ trivial, ⟨.same _ trivial, ⟨.ptr _ _ _ _ _ (rn_some rfl), ⟨.ptr _ _ _ _ _ (rn_some rfl), .same _ trivial⟩⟩⟩⟩⟩⟩⟩⟩⟩⟩⟩⟩⟩
                ·
                  try simp only [go_sem]
                  exact ⟨wkR_box (rn_some rfl) rfl (wkv_same (by simp only [go_sem]) rfl), wkR_box (rn_some rfl) rfl (wkE _)⟩
              ·
                replace h20 := if_n c21 h20
                obtain rfl := Option.some.inj h20
                refine wk_of [(1, some 1), (0, some 0)] rfl ?_ ?_
                ·
                  try simp only [go_sem]
                  exact ⟨.same _ trivial, ⟨.same _ trivial, ⟨.same _ trivial, ⟨.same _ trivial, ⟨.same _ trivial, ⟨.same _ trivial, ⟨.same _ trivial, ⟨.same _ trivial, ⟨.same _ trivial, ⟨.same _ trivial, ⟨.same _ trivial, ⟨.ptr _ _ _ _ _ (rn_some rfl), ⟨.ptr _ _ _ _ _ (rn_some rfl), .same _ trivial⟩⟩⟩⟩⟩⟩⟩⟩⟩⟩⟩⟩⟩
                ·
                  try simp only [go_sem]
                  exact ⟨wkR_box (rn_some rfl) rfl (wkv_same (by simp only [go_sem]) rfl), wkR_box (rn_some rfl) rfl (wkE _)⟩
            try simp only [go_sem]
            obtain ⟨⟨g23_0, g23_1⟩, h16⟩ := of_guard h16
            simp only [W64 g23_0 g23_1]
            obtain ⟨⟨g24_0, g24_1⟩, h16⟩ := of_guard h16
            simp only [W64 g24_0 g24_1]
            obtain ⟨⟨g25_0, g25_1⟩, h16⟩ := of_guard h16
            simp only [W64 g25_0 g25_1]
            refine cut_l ?_
            try simp only [go_sem]
            refine ways_d (fun c26 => ?_) (fun c26 => ?_)
            ·
              replace h16 := if_p c26 h16
              obtain rfl := Option.some.inj h16
              refine wk_of [(1, some 1), (0, some 0)] rfl ?_ ?_
              ·
                try simp only [go_sem]
                exact ⟨.same _ trivial, ⟨.same _ trivial, ⟨.same _ trivial, ⟨.same _ trivial, ⟨.same _ trivial, ⟨.same _ trivial, ⟨.same _ trivial, ⟨.same _ trivial, ⟨.same _ trivial, ⟨.same _ trivial, ⟨.ptr _ _ _ _ _ (rn_some rfl), ⟨.ptr _ _ _ _ _ (rn_some rfl), .same _ trivial⟩⟩⟩⟩⟩⟩⟩⟩⟩⟩⟩⟩
              ·
                try simp only [go_sem]
                exact ⟨wkR_box (rn_some rfl) rfl (wkv_same (by simp only [go_sem]) rfl), wkR_box (rn_some rfl) rfl (wkE _)⟩
            ·
              replace h16 := if_n c26 h16
              obtain rfl := Option.some.inj h16
              refine wk_of [(1, some 1), (0, some 0)] rfl ?_ ?_
              ·
                try simp only [go_sem]
                exact ⟨.same _ trivial, ⟨.same _ trivial, ⟨.same _ trivial, ⟨.same _ trivial, ⟨.same _ trivial, ⟨.same _ trivial, ⟨.same _ trivial, ⟨.same _ trivial, ⟨.same _ trivial, ⟨.same _ trivial, ⟨.ptr _ _ _ _ _ (rn_some rfl), ⟨.ptr _ _ _ _ _ (rn_some rfl), .same _ trivial⟩⟩⟩⟩⟩⟩⟩⟩⟩⟩⟩⟩
              ·
                try simp only [go_sem]
                exact ⟨wkR_box (rn_some rfl) rfl (wkv_same (by simp only [go_sem]) rfl), wkR_box (rn_some rfl) rfl (wkE _)⟩
          try simp only [go_sem]
          obtain ⟨⟨g27_0, g27_1⟩, h14⟩ := of_guard h14
          simp only [W64 g27_0 g27_1]
          obtain rfl := Option.some.inj h14
          refine nextL (hi14 _ rfl) ?_
          refine wk_of [(1, some 1), (0, some 0)] rfl ?_ ?_
          ·
            try simp only [go_sem]
            exact ⟨.same _ trivial, ⟨.same _ trivial, ⟨.same _ trivial, ⟨.same _ trivial, ⟨.same _ trivial, ⟨.same _ trivial, ⟨.same _ trivial, ⟨.same _ trivial, ⟨.same _ trivial, ⟨.same _ trivial, ⟨.ptr _ _ _ _ _ (rn_some rfl), ⟨.ptr _ _ _ _ _ (rn_some rfl), .same _ trivial⟩⟩⟩⟩⟩⟩⟩⟩⟩⟩⟩⟩
          ·
            try simp only [go_sem]
            exact ⟨wkR_box (rn_some rfl) rfl (wkv_same (by simp only [go_sem]) rfl), wkR_box (rn_some rfl) rfl (wkE _)⟩
        ·
          replace h14 := if_n c15 h14
          obtain rfl := Option.some.inj h14
          obtain rfl := he14 _ rfl
          refine wk_of [(1, some 1), (0, some 0)] rfl ?_ ?_
          ·
            try simp only [go_sem]
            exact ⟨.same _ trivial, ⟨.same _ trivial, ⟨.same _ trivial, ⟨.same _ trivial, ⟨.same _ trivial, ⟨.same _ trivial, ⟨.same _ trivial, ⟨.same _ trivial, ⟨.ptr _ _ _ _ _ (rn_some rfl), ⟨.ptr _ _ _ _ _ (rn_some rfl), .same _ trivial⟩⟩⟩⟩⟩⟩⟩⟩⟩⟩
          ·
            try simp only [go_sem]
            exact ⟨wkR_box (rn_some rfl) rfl (wkv_same (by simp only [go_sem]) rfl), wkR_box (rn_some rfl) rfl (wkE _)⟩
      try simp only [go_sem]
      refine cut_l ?_
      try simp only [go_sem]
      refine ways_d (fun c28 => ?_) (fun c28 => ?_)
      ·
        replace h := if_p c28 h
        obtain rfl := Option.some.inj h
        exact wkv_tup ⟨wkv_aggA rfl ⟨.same _ trivial, .same _ trivial, .same _ trivial, .same _ trivial, wkv_nilL, wkv_nilL, wkv_nilL, trivial⟩, .same _ trivial, trivial⟩
      ·
        replace h := if_n c28 h
        obtain ⟨e29, h29, h⟩ := of_bind h
        refine cut_j ([(22, AVal.int IntKind.i64 (Prod.fst e29)), (21, AVal.sref (20002, 0) 0 4 (List.length (Prod.snd e29))), (16, AVal.int IntKind.i64 (Prod.fst e13)), (12, AVal.int IntKind.i64 x8), (9, AVal.int IntKind.i64 (TBoardKind.H (List.getD (TPanel.Kinds a0) (Int.toNat x2) default))), (8, AVal.int IntKind.i64 (TBoardKind.W (List.getD (TPanel.Kinds a0) (Int.toNat x2) default))), (5, AVal.int IntKind.i64 0), (4, AVal.ptr (1, 0) 7 0 0), (2, AVal.ptr (0, 0) 7 0 0), (1, AVal.str a1)]) ({ nx := 20003, rows := [(20002, Ent.one { sz := 4, d := encTSlot default, l := List.map encTSlot (Prod.snd e29) : Row }), (1, Ent.one { sz := 7, d := agg [AVal.int IntKind.i64 0, AVal.int IntKind.i64 0, AVal.int IntKind.i64 0, AVal.int IntKind.i64 0, AVal.nilsl, AVal.nilsl, AVal.nilsl], l := [agg [AVal.int IntKind.i64 0, AVal.int IntKind.i64 0, AVal.int IntKind.i64 0, AVal.int IntKind.i64 0, AVal.nilsl, AVal.nilsl, AVal.nilsl]] : Row }), (0, Ent.one { sz := 7, d := encTPanel a0, l := [encTPanel a0] : Row })] : Heap }) ?_ ?_
        ·
          try simp only [go_sem]
          refine loop_w h29 (fun (s : Int × Int × List TSlot) => [(119, AVal.int IntKind.i64 (Prod.fst s)), (118, AVal.int IntKind.i64 (Prod.fst (Prod.snd e13))), (22, AVal.int IntKind.i64 (Prod.fst (Prod.snd s))), (21, AVal.sref (20002, 0) 0 4 (List.length (Prod.snd (Prod.snd s)))), (16, AVal.int IntKind.i64 (Prod.fst e13)), (12, AVal.int IntKind.i64 x8), (11, AVal.int IntKind.i64 x7), (9, AVal.int IntKind.i64 (TBoardKind.H (List.getD (TPanel.Kinds a0) (Int.toNat x2) default))), (8, AVal.int IntKind.i64 (TBoardKind.W (List.getD (TPanel.Kinds a0) (Int.toNat x2) default))), (5, AVal.int IntKind.i64 0), (4, AVal.ptr (1, 0) 7 0 0), (2, AVal.ptr (0, 0) 7 0 0), (1, AVal.str a1)]) (fun (s : Int × Int × List TSlot) => { nx := 20003, rows := [(20002, Ent.one { sz := 4, d := encTSlot default, l := List.map encTSlot (Prod.snd (Prod.snd s)) : Row }), (1, Ent.one { sz := 7, d := agg [AVal.int IntKind.i64 0, AVal.int IntKind.i64 0, AVal.int IntKind.i64 0, AVal.int IntKind.i64 0, AVal.nilsl, AVal.nilsl, AVal.nilsl], l := [agg [AVal.int IntKind.i64 0, AVal.int IntKind.i64 0, AVal.int IntKind.i64 0, AVal.int IntKind.i64 0, AVal.nilsl, AVal.nilsl, AVal.nilsl]] : Row }), (0, Ent.one { sz := 7, d := encTPanel a0, l := [encTPanel a0] : Row })] : Heap }) ?_ ?_
          ·
            refine wk_of [(20002, none), (1, some 1), (0, some 0)] rfl ?_ ?_
            ·
              try simp only [go_sem]
              exact ⟨.same _ trivial, ⟨.same _ trivial, ⟨.same _ trivial, ⟨wkv_nil (rn_none rfl) rfl, ⟨.same _ trivial, ⟨.same _ trivial, ⟨.same _ trivial, ⟨.same _ trivial, ⟨.same _ trivial, ⟨.same _ trivial, ⟨.ptr _ _ _ _ _ (rn_some rfl), ⟨.ptr _ _ _ _ _ (rn_some rfl), .same _ trivial⟩⟩⟩⟩⟩⟩⟩⟩⟩⟩⟩⟩
            ·
              try simp only [go_sem]
              exact ⟨wkR_nilT (rn_none rfl), ⟨wkR_box (rn_some rfl) rfl (wkv_same (by simp only [go_sem]) rfl), wkR_box (rn_some rfl) rfl (wkE _)⟩⟩
          intro n30 s30 o30 h30 he30 hi30
          try simp only [go_sem]
          refine cut_l ?_
          try simp only [go_sem]
          refine ways_d (fun c31 => ?_) (fun c31 => ?_)
          ·
            replace h30 := if_p c31 h30
            refine cut_l ?_
            try simp only [go_sem]
            obtain ⟨x32, hx32, h30⟩ := of_bind h30
            refine call_r false [20002] (c_ref9_row_o hx32) ⟨wkE _, wkv_sref rfl rfl, .same _ trivial, .same _ trivial, .same _ trivial, .same _ trivial, .same _ trivial, trivial⟩ (wkH_rho (by decide) rfl ⟨⟨by decide, wkR_typed rfl rfl rfl⟩, trivial⟩) rfl (by simp) (by simp) nofun ?_
            try simp only [go_sem]
            obtain ⟨⟨g33_0, g33_1⟩, h30⟩ := of_guard h30
            simp only [W64 g33_0 g33_1]
            obtain ⟨⟨g34_0, g34_1⟩, h30⟩ := of_guard h30
            simp only [W64 g34_0 g34_1]
            obtain ⟨⟨g35_0, g35_1⟩, h30⟩ := of_guard h30
            simp only [W64 g35_0 g35_1]
            obtain rfl := Option.some.inj h30
            refine nextL (hi30 _ rfl) ?_
            refine wk_of [(20002, some 20003), (1, some 1), (0, some 0)] rfl ?_ ?_
            ·
              try simp only [go_sem]
              exact ⟨.same _ trivial, ⟨.same _ trivial, ⟨.same _ trivial, ⟨wkv_sref (rn_some rfl) rfl, ⟨.same _ trivial, ⟨.same _ trivial, ⟨.same _ trivial, ⟨.same _ trivial, ⟨.same _ trivial, ⟨.same _ trivial, ⟨.ptr _ _ _ _ _ (rn_some rfl), ⟨.ptr _ _ _ _ _ (rn_some rfl), .same _ trivial⟩⟩⟩⟩⟩⟩⟩⟩⟩⟩⟩⟩
            ·
              try simp only [go_sem]
              exact ⟨wkR_typed (rn_some rfl) rfl rfl, ⟨wkR_box (rn_some rfl) rfl (wkv_same (by simp only [go_sem]) rfl), wkR_box (rn_some rfl) rfl (wkE _)⟩⟩
          ·
            replace h30 := if_n c31 h30
            obtain rfl := Option.some.inj h30
            obtain rfl := he30 _ rfl
            refine wk_of [(20002, some 20002), (1, some 1), (0, some 0)] rfl ?_ ?_
            ·
              try simp only [go_sem]
              exact ⟨.same _ trivial, ⟨wkv_sref (rn_some rfl) rfl, ⟨.same _ trivial, ⟨.same _ trivial, ⟨.same _ trivial, ⟨.same _ trivial, ⟨.same _ trivial, ⟨.ptr _ _ _ _ _ (rn_some rfl), ⟨.ptr _ _ _ _ _ (rn_some rfl), .same _ trivial⟩⟩⟩⟩⟩⟩⟩⟩⟩
            ·
              try simp only [go_sem]
              exact ⟨wkR_typed (rn_some rfl) rfl rfl, ⟨wkR_box (rn_some rfl) rfl (wkv_same (by simp only [go_sem]) rfl), wkR_box (rn_some rfl) rfl (wkE _)⟩⟩
        try simp only [go_sem]
        obtain ⟨e36, h36, h⟩ := of_bind h
        refine cut_j ([(21, encL 4 encTSlot e36), (5, AVal.int IntKind.i64 0), (4, AVal.ptr (1, 0) 7 0 0), (2, AVal.ptr (0, 0) 7 0 0)]) ({ nx := 20003, rows := [(1, Ent.one { sz := 7, d := agg [AVal.int IntKind.i64 0, AVal.int IntKind.i64 0, AVal.int IntKind.i64 0, AVal.int IntKind.i64 0, AVal.nilsl, AVal.nilsl, AVal.nilsl], l := [agg [AVal.int IntKind.i64 0, AVal.int IntKind.i64 0, AVal.int IntKind.i64 0, AVal.int IntKind.i64 0, AVal.nilsl, AVal.nilsl, AVal.nilsl]] : Row }), (0, Ent.one { sz := 7, d := encTPanel a0, l := [encTPanel a0] : Row })] : Heap }) ?_ ?_
        ·
          try simp only [go_sem]
          refine loop_w h36 (fun (s : Int × Int × List TSlot) => [(136, AVal.int IntKind.i64 (Prod.fst s)), (135, AVal.int IntKind.i64 (Prod.fst e13)), (22, AVal.int IntKind.i64 (Prod.fst (Prod.snd s))), (21, AVal.sref (20002, 0) 0 4 (List.length (Prod.snd (Prod.snd s)))), (12, AVal.int IntKind.i64 x8), (9, AVal.int IntKind.i64 (TBoardKind.H (List.getD (TPanel.Kinds a0) (Int.toNat x2) default))), (8, AVal.int IntKind.i64 (TBoardKind.W (List.getD (TPanel.Kinds a0) (Int.toNat x2) default))), (5, AVal.int IntKind.i64 0), (4, AVal.ptr (1, 0) 7 0 0), (2, AVal.ptr (0, 0) 7 0 0), (1, AVal.str a1)]) (fun (s : Int × Int × List TSlot) => { nx := 20003, rows := [(20002, Ent.one { sz := 4, d := encTSlot default, l := List.map encTSlot (Prod.snd (Prod.snd s)) : Row }), (1, Ent.one { sz := 7, d := agg [AVal.int IntKind.i64 0, AVal.int IntKind.i64 0, AVal.int IntKind.i64 0, AVal.int IntKind.i64 0, AVal.nilsl, AVal.nilsl, AVal.nilsl], l := [agg [AVal.int IntKind.i64 0, AVal.int IntKind.i64 0, AVal.int IntKind.i64 0, AVal.int IntKind.i64 0, AVal.nilsl, AVal.nilsl, AVal.nilsl]] : Row }), (0, Ent.one { sz := 7, d := encTPanel a0, l := [encTPanel a0] : Row })] : Heap }) ?_ ?_
          ·
            refine wk_of [(20002, some 20002), (1, some 1), (0, some 0)] rfl ?_ ?_
            ·
              try simp only [go_sem]
              exact ⟨.same _ trivial, ⟨.same _ trivial, ⟨.same _ trivial, ⟨wkv_sref (rn_some rfl) rfl, ⟨.same _ trivial, ⟨.same _ trivial, ⟨.same _ trivial, ⟨.same _ trivial, ⟨.ptr _ _ _ _ _ (rn_some rfl), ⟨.ptr _ _ _ _ _ (rn_some rfl), .same _ trivial⟩⟩⟩⟩⟩⟩⟩⟩⟩⟩
            ·
              try simp only [go_sem]
              exact ⟨wkR_typed (rn_some rfl) rfl rfl, ⟨wkR_box (rn_some rfl) rfl (wkv_same (by simp only [go_sem]) rfl), wkR_box (rn_some rfl) rfl (wkE _)⟩⟩
          intro n37 s37 o37 h37 he37 hi37
          try simp only [go_sem]
          refine cut_l ?_
          try simp only [go_sem]
          refine ways_d (fun c38 => ?_) (fun c38 => ?_)
          ·
            replace h37 := if_p c38 h37
            refine cut_l ?_
            try simp only [go_sem]
            obtain ⟨x39, hx39, h37⟩ := of_bind h37
            refine call_r false [20002] (c_ref9_row_o hx39) ⟨wkE _, wkv_sref rfl rfl, .same _ trivial, .same _ trivial, .same _ trivial, .same _ trivial, .same _ trivial, trivial⟩ (wkH_rho (by decide) rfl ⟨⟨by decide, wkR_typed rfl rfl rfl⟩, trivial⟩) rfl (by simp) (by simp) nofun ?_
            try simp only [go_sem]
            obtain ⟨⟨g40_0, g40_1⟩, h37⟩ := of_guard h37
            simp only [W64 g40_0 g40_1]
            obtain ⟨⟨g41_0, g41_1⟩, h37⟩ := of_guard h37
            simp only [W64 g41_0 g41_1]
            obtain ⟨⟨g42_0, g42_1⟩, h37⟩ := of_guard h37
            simp only [W64 g42_0 g42_1]
            obtain rfl := Option.some.inj h37
            refine nextL (hi37 _ rfl) ?_
            refine wk_of [(20002, some 20003), (1, some 1), (0, some 0)] rfl ?_ ?_
            ·
              try simp only [go_sem]
              exact ⟨.same _ trivial, ⟨.same _ trivial, ⟨.same _ trivial, ⟨wkv_sref (rn_some rfl) rfl, ⟨.same _ trivial, ⟨.same _ trivial, ⟨.same _ trivial, ⟨.same _ trivial, ⟨.ptr _ _ _ _ _ (rn_some rfl), ⟨.ptr _ _ _ _ _ (rn_some rfl), .same _ trivial⟩⟩⟩⟩⟩⟩⟩⟩⟩⟩
            ·
              try simp only [go_sem]
              exact ⟨wkR_typed (rn_some rfl) rfl rfl, ⟨wkR_box (rn_some rfl) rfl (wkv_same (by simp only [go_sem]) rfl), wkR_box (rn_some rfl) rfl (wkE _)⟩⟩
          ·
            replace h37 := if_n c38 h37
            obtain rfl := Option.some.inj h37
            obtain rfl := he37 _ rfl
            refine wk_of [(1, some 1), (0, some 0)] rfl ?_ ?_
            ·
              try simp only [go_sem]
              exact ⟨wkv_own rfl (rn_notTo rfl) rfl, ⟨.same _ trivial, ⟨.ptr _ _ _ _ _ (rn_some rfl), .ptr _ _ _ _ _ (rn_some rfl)⟩⟩⟩
            ·
              try simp only [go_sem]
              exact ⟨wkR_box (rn_some rfl) rfl (wkv_same (by simp only [go_sem]) rfl), wkR_box (rn_some rfl) rfl (wkE _)⟩
        try simp only [go_sem]
        obtain ⟨x43, hx43, h⟩ := of_bind h
        refine call_p false (c_ref9_laid hx43) ⟨wkE _, .same _ trivial, trivial⟩ nofun ?_
        try simp only [go_sem]
        obtain rfl := Option.some.inj h
        exact wkv_same (by simp only [go_sem]) rfl
theorem c_law9_awake {r : Bool} (h : p_law9_awake  = some r)  : PCalls Try.prog 16 [] (.bool r) := by
  unfold p_law9_awake at h
  refine pcalls_of (fun _ => none) (fun _ => []) Try.func16 (by unfold Try.f16; rfl) (by kernel_rfl) (by kernel_rfl) ?_
  simp only [awp_seq]
  simp only [argSlots]
  dsimp only [Try.f16]
  try simp only [go_sem]
  obtain ⟨x0, hx0, h⟩ := of_bind h
  refine call_p false (c_panel_Use hx0) ⟨wkv_aggA rfl ⟨.same _ trivial, .same _ trivial, .same _ trivial, .same _ trivial, wkv_nilL, wkv_nilL, wkv_nilL, trivial⟩, trivial⟩ nofun ?_
  try simp only [go_sem]
  obtain rfl := Option.some.inj h
  exact .same _ trivial
theorem c_panel_told {a0 : TPanel} {r : TPanel × Int} (h : p_panel_told a0 = some r)  : PCalls Try.prog 106 [encTPanel a0] (tup [encTPanel r.1, .int .i64 r.2]) := by
  unfold p_panel_told at h
  refine pcalls_of (fun _ => none) (fun _ => []) Try.func106 (by unfold Try.f106; rfl) (by kernel_rfl) (by kernel_rfl) ?_
  simp only [awp_seq]
  simp only [argSlots]
  dsimp only [Try.f106]
  try simp only [go_sem]
  obtain ⟨x0, hx0, h⟩ := of_bind h
  refine call_p false (c_panel_CheckPanel hx0) ⟨wkE _, trivial⟩ nofun ?_
  try simp only [go_sem]
  refine cut_l ?_
  try simp only [go_sem]
  refine ways_n (fun c1 => ?_) (fun c1 => ?_)
  ·
    replace h := if_n c1 h
    obtain rfl := Option.some.inj h
    exact wkv_tup ⟨wkv_aggA rfl ⟨.same _ trivial, .same _ trivial, .same _ trivial, .same _ trivial, wkv_nilL, wkv_nilL, wkv_nilL, trivial⟩, .same _ trivial, trivial⟩
  ·
    replace h := if_p c1 h
    obtain rfl := Option.some.inj h
    exact wkv_same (by simp only [go_sem]) rfl
theorem c_panel_rows {a0 : TPanel} {a1 : ByteArray} {a2 : Int} {a3 : Int} {a4 : Int} {a5 : Int} {a6 : Int} {r : TPanel × Int} (h : p_panel_rows a0 a1 a2 a3 a4 a5 a6 = some r)  : PCalls Try.prog 64 [encTPanel a0, .str a1, .int .i64 a2, .int .i64 a3, .int .i64 a4, .int .i64 a5, .int .i64 a6] (tup [encTPanel r.1, .int .i64 r.2]) := by
  unfold p_panel_rows at h
  refine pcalls_of (ordOf [(3, [0, 3, 1, 2, 4, 5, 6, 7, 8])]) (fun _ => []) Try.func64 (by unfold Try.f64; rfl) (by kernel_rfl) (by kernel_rfl) ?_
  simp only [awp_seq]
  simp only [argSlots]
  dsimp only [Try.f64]
  try simp only [go_sem]
  obtain ⟨⟨g0_0, g0_1⟩, h⟩ := of_guard h
  simp only [W64 g0_0 g0_1]
  obtain ⟨⟨g1_0, g1_1⟩, h⟩ := of_guard h
  simp only [W64 g1_0 g1_1]
  obtain ⟨⟨g2_0, g2_1⟩, h⟩ := of_guard h
  simp only [W64 g2_0 g2_1]
  refine cut_l ?_
  try simp only [go_sem]
  refine ways_d (fun c3 => ?_) (fun c3 => ?_)
  ·
    replace h := if_p c3 h
    obtain rfl := Option.some.inj h
    exact wkv_tup ⟨wkv_aggA rfl ⟨.same _ trivial, .same _ trivial, .same _ trivial, .same _ trivial, wkv_nilL, wkv_nilL, wkv_nilL, trivial⟩, .same _ trivial, trivial⟩
  ·
    replace h := if_n c3 h
    obtain ⟨x4, hx4, h⟩ := of_bind h
    refine qcall_p false (fun _ => c_panel_kindAt hx4) (fun _ => ⟨wkE _, .same _ trivial, trivial⟩) nofun ?_
    try simp only [go_sem]
    obtain ⟨⟨g5_0, g5_1⟩, h⟩ := of_guard h
    refine ob ⟨by assumption, by assumption⟩ ?_
    obtain ⟨⟨g6_0, g6_1⟩, h⟩ := of_guard h
    simp only [W64 g6_0 g6_1]
    obtain ⟨e7, h7, h⟩ := of_bind h
    refine cut_j ([(17, encL 4 encTSlot e7), (15, AVal.int IntKind.i64 0), (14, AVal.ptr (1, 0) 7 0 0), (7, AVal.ptr (0, 0) 7 0 0)]) ({ nx := 10002, rows := [(1, Ent.one { sz := 7, d := agg [AVal.int IntKind.i64 0, AVal.int IntKind.i64 0, AVal.int IntKind.i64 0, AVal.int IntKind.i64 0, AVal.nilsl, AVal.nilsl, AVal.nilsl], l := [agg [AVal.int IntKind.i64 0, AVal.int IntKind.i64 0, AVal.int IntKind.i64 0, AVal.int IntKind.i64 0, AVal.nilsl, AVal.nilsl, AVal.nilsl]] : Row }), (0, Ent.one { sz := 7, d := encTPanel a0, l := [encTPanel a0] : Row })] : Heap }) ?_ ?_
    ·
      try simp only [go_sem]
      refine loop_w h7 (fun (s : Int × Int × List TSlot) => [(45, AVal.int IntKind.i64 (Prod.fst s)), (44, AVal.int IntKind.i64 (a4 + a6)), (18, AVal.int IntKind.i64 (Prod.fst (Prod.snd s))), (17, AVal.sref (10002, 0) 0 4 (List.length (Prod.snd (Prod.snd s)))), (16, AVal.ptr (18, 0) 3 0 0), (15, AVal.int IntKind.i64 0), (14, AVal.ptr (1, 0) 7 0 0), (7, AVal.ptr (0, 0) 7 0 0), (1, AVal.str a1), (2, AVal.int IntKind.i64 a2), (3, AVal.int IntKind.i64 a3), (4, AVal.int IntKind.i64 a4), (5, AVal.int IntKind.i64 a5)]) (fun (s : Int × Int × List TSlot) => { nx := 10003, rows := [(10002, Ent.one { sz := 4, d := encTSlot default, l := List.map encTSlot (Prod.snd (Prod.snd s)) : Row }), (18, Ent.one { sz := 3, d := encTBoardKind { : TBoardKind }, l := [encTBoardKind (List.getD (TPanel.Kinds a0) (Int.toNat x4) default)] : Row }), (1, Ent.one { sz := 7, d := agg [AVal.int IntKind.i64 0, AVal.int IntKind.i64 0, AVal.int IntKind.i64 0, AVal.int IntKind.i64 0, AVal.nilsl, AVal.nilsl, AVal.nilsl], l := [agg [AVal.int IntKind.i64 0, AVal.int IntKind.i64 0, AVal.int IntKind.i64 0, AVal.int IntKind.i64 0, AVal.nilsl, AVal.nilsl, AVal.nilsl]] : Row }), (0, Ent.one { sz := 7, d := encTPanel a0, l := [encTPanel a0] : Row })] : Heap }) ?_ ?_
      ·
        refine wk_of [(10002, none), (18, some 18), (1, some 1), (0, some 0)] rfl ?_ ?_
        ·
          try simp only [go_sem]
          exact ⟨.same _ trivial, ⟨.same _ trivial, ⟨.same _ trivial, ⟨wkv_nil (rn_none rfl) rfl, ⟨.ptr _ _ _ _ _ (rn_some rfl), ⟨.same _ trivial, ⟨.ptr _ _ _ _ _ (rn_some rfl), ⟨.ptr _ _ _ _ _ (rn_some rfl), ⟨.same _ trivial, ⟨.same _ trivial, ⟨.same _ trivial, ⟨.same _ trivial, .same _ trivial⟩⟩⟩⟩⟩⟩⟩⟩⟩⟩⟩⟩
        ·
          try simp only [go_sem]
          exact ⟨wkR_nilT (rn_none rfl), ⟨wkR_box (rn_some rfl) rfl (wkE _), ⟨wkR_box (rn_some rfl) rfl (wkv_same (by simp only [go_sem]) rfl), wkR_box (rn_some rfl) rfl (wkE _)⟩⟩⟩
      intro n8 s8 o8 h8 he8 hi8
      try simp only [go_sem]
      refine cut_l ?_
      try simp only [go_sem]
      refine ways_d (fun c9 => ?_) (fun c9 => ?_)
      ·
        replace h8 := if_p c9 h8
        obtain ⟨e10, h10, h8⟩ := of_bind h8
        refine cut_j ([(45, AVal.int IntKind.i64 (Prod.fst s8)), (44, AVal.int IntKind.i64 (a4 + a6)), (18, AVal.int IntKind.i64 (Prod.fst e10)), (17, AVal.sref (10002, 0) 0 4 (List.length (Prod.snd e10))), (16, AVal.ptr (18, 0) 3 0 0), (15, AVal.int IntKind.i64 0), (14, AVal.ptr (1, 0) 7 0 0), (7, AVal.ptr (0, 0) 7 0 0), (1, AVal.str a1), (2, AVal.int IntKind.i64 a2), (3, AVal.int IntKind.i64 a3), (4, AVal.int IntKind.i64 a4), (5, AVal.int IntKind.i64 a5)]) ({ nx := 10003, rows := [(10002, Ent.one { sz := 4, d := encTSlot default, l := List.map encTSlot (Prod.snd e10) : Row }), (18, Ent.one { sz := 3, d := encTBoardKind { : TBoardKind }, l := [encTBoardKind (List.getD (TPanel.Kinds a0) (Int.toNat x4) default)] : Row }), (1, Ent.one { sz := 7, d := agg [AVal.int IntKind.i64 0, AVal.int IntKind.i64 0, AVal.int IntKind.i64 0, AVal.int IntKind.i64 0, AVal.nilsl, AVal.nilsl, AVal.nilsl], l := [agg [AVal.int IntKind.i64 0, AVal.int IntKind.i64 0, AVal.int IntKind.i64 0, AVal.int IntKind.i64 0, AVal.nilsl, AVal.nilsl, AVal.nilsl]] : Row }), (0, Ent.one { sz := 7, d := encTPanel a0, l := [encTPanel a0] : Row })] : Heap }) ?_ ?_
        ·
          try simp only [go_sem]
          obtain ⟨e11, h11, h10⟩ := of_bind h10
          refine cut_j ([(21, AVal.int IntKind.i64 (Prod.fst e11)), (20, AVal.int IntKind.i64 (Prod.snd e11)), (45, AVal.int IntKind.i64 (Prod.fst s8)), (44, AVal.int IntKind.i64 (a4 + a6)), (18, AVal.int IntKind.i64 (Prod.fst (Prod.snd s8))), (17, AVal.sref (10002, 0) 0 4 (List.length (Prod.snd (Prod.snd s8)))), (16, AVal.ptr (18, 0) 3 0 0), (15, AVal.int IntKind.i64 0), (14, AVal.ptr (1, 0) 7 0 0), (7, AVal.ptr (0, 0) 7 0 0), (1, AVal.str a1), (2, AVal.int IntKind.i64 a2), (3, AVal.int IntKind.i64 a3), (4, AVal.int IntKind.i64 a4), (5, AVal.int IntKind.i64 a5)]) ({ nx := 10003, rows := [(10002, Ent.one { sz := 4, d := encTSlot default, l := List.map encTSlot (Prod.snd (Prod.snd s8)) : Row }), (18, Ent.one { sz := 3, d := encTBoardKind { : TBoardKind }, l := [encTBoardKind (List.getD (TPanel.Kinds a0) (Int.toNat x4) default)] : Row }), (1, Ent.one { sz := 7, d := agg [AVal.int IntKind.i64 0, AVal.int IntKind.i64 0, AVal.int IntKind.i64 0, AVal.int IntKind.i64 0, AVal.nilsl, AVal.nilsl, AVal.nilsl], l := [agg [AVal.int IntKind.i64 0, AVal.int IntKind.i64 0, AVal.int IntKind.i64 0, AVal.int IntKind.i64 0, AVal.nilsl, AVal.nilsl, AVal.nilsl]] : Row }), (0, Ent.one { sz := 7, d := encTPanel a0, l := [encTPanel a0] : Row })] : Heap }) ?_ ?_
          ·
            try simp only [go_sem]
            refine ways_d (fun c12 => ?_) (fun c12 => ?_)
            ·
              replace h11 := if_p c12 h11
              obtain ⟨⟨g13_0, g13_1⟩, h11⟩ := of_guard h11
              simp only [W64 g13_0 g13_1]
              obtain rfl := Option.some.inj h11
              refine wk_of [(10002, some 10002), (18, some 18), (1, some 1), (0, some 0)] rfl ?_ ?_
              ·
                try simp only [go_sem]
                exact ⟨.same _ trivial, ⟨.same _ trivial, ⟨.same _ trivial, ⟨.same _ trivial, ⟨.same _ trivial, ⟨wkv_sref (rn_some rfl) rfl, ⟨.ptr _ _ _ _ _ (rn_some rfl), ⟨.same _ trivial, ⟨.ptr _ _ _ _ _ (rn_some rfl), ⟨.ptr _ _ _ _ _ (rn_some rfl), ⟨.same _ trivial, ⟨.same _ trivial, ⟨.same _ trivial, ⟨.same _ trivial, .same _ trivial⟩⟩⟩⟩⟩⟩⟩⟩⟩⟩⟩⟩⟩⟩
              ·
                try simp only [go_sem]
                exact ⟨wkR_typed (rn_some rfl) rfl rfl, ⟨wkR_box (rn_some rfl) rfl (wkE _), ⟨wkR_box (rn_some rfl) rfl (wkv_same (by simp only [go_sem]) rfl), wkR_box (rn_some rfl) rfl (wkE _)⟩⟩⟩
            ·
              replace h11 := if_n c12 h11
              obtain rfl := Option.some.inj h11
              refine wk_of [(10002, some 10002), (18, some 18), (1, some 1), (0, some 0)] rfl ?_ ?_
              ·
                try simp only [go_sem]
                exact ⟨.same _ trivial, ⟨.same _ trivial, ⟨.same _ trivial, ⟨.same _ trivial, ⟨.same _ trivial, ⟨wkv_sref (rn_some rfl) rfl, ⟨.ptr _ _ _ _ _ (rn_some rfl), ⟨.same _ trivial, ⟨.ptr _ _ _ _ _ (rn_some rfl), ⟨.ptr _ _ _ _ _ (rn_some rfl), ⟨.same _ trivial, ⟨.same _ trivial, ⟨.same _ trivial, ⟨.same _ trivial, .same _ trivial⟩⟩⟩⟩⟩⟩⟩⟩⟩⟩⟩⟩⟩⟩
              ·
                try simp only [go_sem]
                exact ⟨wkR_typed (rn_some rfl) rfl rfl, ⟨wkR_box (rn_some rfl) rfl (wkE _), ⟨wkR_box (rn_some rfl) rfl (wkv_same (by simp only [go_sem]) rfl), wkR_box (rn_some rfl) rfl (wkE _)⟩⟩⟩
          try simp only [go_sem]
          obtain ⟨x14, hx14, h10⟩ := of_bind h10
          refine call_p false (c_panel_sizeOf hx14) ⟨wkE _, .same _ trivial, trivial⟩ nofun ?_
          try simp only [go_sem]
          obtain ⟨x15, hx15, h10⟩ := of_bind h10
          refine call_p false (c_panel_row hx15) ⟨wkE _, .same _ trivial, .same _ trivial, .same _ trivial, .same _ trivial, trivial⟩ nofun ?_
          try simp only [go_sem]
          obtain ⟨g16, h10⟩ := of_guard h10
          refine ob ⟨by omega, by assumption⟩ ?_
          obtain ⟨⟨g17_0, g17_1⟩, h10⟩ := of_guard h10
          simp only [W64 g17_0 g17_1]
          obtain ⟨⟨g18_0, g18_1⟩, h10⟩ := of_guard h10
          simp only [W64 g18_0 g18_1]
          obtain rfl := Option.some.inj h10
          refine wk_of [(10002, some 10003), (18, some 18), (1, some 1), (0, some 0)] rfl ?_ ?_
          ·
            try simp only [go_sem]
            exact ⟨.same _ trivial, ⟨.same _ trivial, ⟨.same _ trivial, ⟨wkv_sref (rn_some rfl) rfl, ⟨.ptr _ _ _ _ _ (rn_some rfl), ⟨.same _ trivial, ⟨.ptr _ _ _ _ _ (rn_some rfl), ⟨.ptr _ _ _ _ _ (rn_some rfl), ⟨.same _ trivial, ⟨.same _ trivial, ⟨.same _ trivial, ⟨.same _ trivial, .same _ trivial⟩⟩⟩⟩⟩⟩⟩⟩⟩⟩⟩⟩
          ·
            try simp only [go_sem]
            exact ⟨wkR_typed (rn_some rfl) rfl rfl, ⟨wkR_box (rn_some rfl) rfl (wkE _), ⟨wkR_box (rn_some rfl) rfl (wkv_same (by simp only [go_sem]) rfl), wkR_box (rn_some rfl) rfl (wkE _)⟩⟩⟩
        try simp only [go_sem]
        obtain ⟨⟨g19_0, g19_1⟩, h8⟩ := of_guard h8
        simp only [W64 g19_0 g19_1]
        obtain rfl := Option.some.inj h8
        refine nextL (hi8 _ rfl) ?_
        refine wk_of [(10002, some 10002), (18, some 18), (1, some 1), (0, some 0)] rfl ?_ ?_
        ·
          try simp only [go_sem]
          exact ⟨.same _ trivial, ⟨.same _ trivial, ⟨.same _ trivial, ⟨wkv_sref (rn_some rfl) rfl, ⟨.ptr _ _ _ _ _ (rn_some rfl), ⟨.same _ trivial, ⟨.ptr _ _ _ _ _ (rn_some rfl), ⟨.ptr _ _ _ _ _ (rn_some rfl), ⟨.same _ trivial, ⟨.same _ trivial, ⟨.same _ trivial, ⟨.same _ trivial, .same _ trivial⟩⟩⟩⟩⟩⟩⟩⟩⟩⟩⟩⟩
        ·
          try simp only [go_sem]
          exact ⟨wkR_typed (rn_some rfl) rfl rfl, ⟨wkR_box (rn_some rfl) rfl (wkE _), ⟨wkR_box (rn_some rfl) rfl (wkv_same (by simp only [go_sem]) rfl), wkR_box (rn_some rfl) rfl (wkE _)⟩⟩⟩
      ·
        replace h8 := if_n c9 h8
        obtain rfl := Option.some.inj h8
        obtain rfl := he8 _ rfl
        refine wk_of [(1, some 1), (0, some 0)] rfl ?_ ?_
        ·
          try simp only [go_sem]
          exact ⟨wkv_own rfl (rn_notTo rfl) rfl, ⟨.same _ trivial, ⟨.ptr _ _ _ _ _ (rn_some rfl), .ptr _ _ _ _ _ (rn_some rfl)⟩⟩⟩
        ·
          try simp only [go_sem]
          exact ⟨wkR_box (rn_some rfl) rfl (wkv_same (by simp only [go_sem]) rfl), wkR_box (rn_some rfl) rfl (wkE _)⟩
    try simp only [go_sem]
    obtain ⟨x20, hx20, h⟩ := of_bind h
    refine call_p false (c_panel_own hx20) ⟨wkE _, .same _ trivial, trivial⟩ nofun ?_
    obtain ⟨x21, hx21, h⟩ := of_bind h
    refine call_p false (c_panel_told hx21) ⟨wkE _, trivial⟩ nofun ?_
    try simp only [go_sem]
    obtain rfl := Option.some.inj h
    exact wkv_same (by simp only [go_sem]) rfl
theorem c_panel_Grid {a0 : TPanel} {a1 : ByteArray} {a2 : Int} {r : TPanel × Int} (h : p_panel_Grid a0 a1 a2 = some r)  : PCalls Try.prog 27 [encTPanel a0, .str a1, .int .i64 a2] (tup [encTPanel r.1, .int .i64 r.2]) := by
  unfold p_panel_Grid at h
  refine pcalls_of (ordOf [(10, [0, 2, 6, 7, 10, 12, 16, 17, 1, 3, 4, 5, 8, 9, 11, 13, 14, 15, 18, 19, 20, 21])]) (fun _ => []) Try.func27 (by unfold Try.f27; rfl) (by kernel_rfl) (by kernel_rfl) ?_
  simp only [awp_seq]
  simp only [argSlots]
  dsimp only [Try.f27]
  try simp only [go_sem]
  obtain ⟨x0, hx0, h⟩ := of_bind h
  refine call_p false (c_panel_CheckPanel hx0) ⟨wkE _, trivial⟩ nofun ?_
  try simp only [go_sem]
  refine cut_l ?_
  try simp only [go_sem]
  refine ways_n (fun c1 => ?_) (fun c1 => ?_)
  ·
    replace h := if_n c1 h
    obtain rfl := Option.some.inj h
    exact wkv_tup ⟨wkv_aggA rfl ⟨.same _ trivial, .same _ trivial, .same _ trivial, .same _ trivial, wkv_nilL, wkv_nilL, wkv_nilL, trivial⟩, .same _ trivial, trivial⟩
  ·
    replace h := if_p c1 h
    obtain ⟨x2, hx2, h⟩ := of_bind h
    refine call_p false (c_panel_kindAt hx2) ⟨wkE _, .same _ trivial, trivial⟩ nofun ?_
    try simp only [go_sem]
    refine cut_l ?_
    try simp only [go_sem]
    refine ways_d (fun c3 => ?_) (fun c3 => ?_)
    ·
      replace h := if_p c3 h
      obtain rfl := Option.some.inj h
      exact wkv_tup ⟨wkv_aggA rfl ⟨.same _ trivial, .same _ trivial, .same _ trivial, .same _ trivial, wkv_nilL, wkv_nilL, wkv_nilL, trivial⟩, .same _ trivial, trivial⟩
    ·
      replace h := if_n c3 h
      obtain ⟨x4, hx4, h⟩ := of_bind h
      refine call_p false (c_panel_within hx4) ⟨.same _ trivial, .same _ trivial, .same _ trivial, trivial⟩ nofun ?_
      try simp only [go_sem]
      refine cut_l ?_
      try simp only [go_sem]
      refine ways (fun c5 => ?_) (fun c5 => ?_)
      ·
        replace h := if_t c5 h
        try simp only [Bool.and_eq_true, Bool.or_eq_true, Bool.not_eq_true', Bool.not_eq_false', Bool.and_eq_false_imp, Bool.or_eq_false_iff, decide_eq_true_eq, decide_eq_false_iff_not] at c5
        obtain rfl := Option.some.inj h
        exact wkv_tup ⟨wkv_aggA rfl ⟨.same _ trivial, .same _ trivial, .same _ trivial, .same _ trivial, wkv_nilL, wkv_nilL, wkv_nilL, trivial⟩, .same _ trivial, trivial⟩
      ·
        replace h := if_f c5 h
        try simp only [Bool.and_eq_true, Bool.or_eq_true, Bool.not_eq_true', Bool.not_eq_false', Bool.and_eq_false_imp, Bool.or_eq_false_iff, decide_eq_true_eq, decide_eq_false_iff_not] at c5
        obtain ⟨g6, h⟩ := of_guard h
        refine ob ⟨by omega, by assumption⟩ ?_
        obtain ⟨x7, hx7, h⟩ := of_bind h
        refine call_p false (c_panel_sizeOf hx7) ⟨wkE _, .same _ trivial, trivial⟩ nofun ?_
        try simp only [go_sem]
        obtain ⟨⟨g8_0, g8_1⟩, h⟩ := of_guard h
        simp only [W64 g8_0 g8_1]
        obtain ⟨⟨g9_0, g9_1⟩, h⟩ := of_guard h
        simp only [W64 g9_0 g9_1]
        obtain ⟨x10, hx10, h⟩ := of_bind h
        refine qcall_p false (fun _ => c_panel_many hx10) (fun _ => ⟨.same _ trivial, .same _ trivial, .same _ trivial, trivial⟩) nofun ?_
        try simp only [go_sem]
        obtain ⟨⟨g11_0, g11_1⟩, h⟩ := of_guard h
        simp only [W64 g11_0 g11_1]
        obtain ⟨x12, hx12, h⟩ := of_bind h
        refine qcall_p false (fun _ => c_panel_many hx12) (fun _ => ⟨.same _ trivial, .same _ trivial, .same _ trivial, trivial⟩) nofun ?_
        obtain ⟨e13, h13, h⟩ := of_bind h
        refine cut_j ([(13, AVal.int IntKind.i64 e13), (12, AVal.int IntKind.i64 x10), (7, AVal.int IntKind.i64 0), (6, AVal.ptr (1, 0) 7 0 0), (3, AVal.ptr (0, 0) 7 0 0), (1, AVal.str a1), (2, AVal.int IntKind.i64 a2)]) ({ nx := 10002, rows := [(1, Ent.one { sz := 7, d := agg [AVal.int IntKind.i64 0, AVal.int IntKind.i64 0, AVal.int IntKind.i64 0, AVal.int IntKind.i64 0, AVal.nilsl, AVal.nilsl, AVal.nilsl], l := [agg [AVal.int IntKind.i64 0, AVal.int IntKind.i64 0, AVal.int IntKind.i64 0, AVal.int IntKind.i64 0, AVal.nilsl, AVal.nilsl, AVal.nilsl]] : Row }), (0, Ent.one { sz := 7, d := encTPanel a0, l := [encTPanel a0] : Row })] : Heap }) ?_ ?_
        ·
          try simp only [go_sem]
          refine ways_d (fun c14 => ?_) (fun c14 => ?_)
          ·
            replace h13 := if_p c14 h13
            obtain rfl := Option.some.inj h13
            refine wk_of [(1, some 1), (0, some 0)] rfl ?_ ?_
            ·
              try simp only [go_sem]
              exact ⟨.same _ trivial, ⟨.same _ trivial, ⟨.same _ trivial, ⟨.ptr _ _ _ _ _ (rn_some rfl), ⟨.ptr _ _ _ _ _ (rn_some rfl), ⟨.same _ trivial, .same _ trivial⟩⟩⟩⟩⟩⟩
            ·
              try simp only [go_sem]
              exact ⟨wkR_box (rn_some rfl) rfl (wkv_same (by simp only [go_sem]) rfl), wkR_box (rn_some rfl) rfl (wkE _)⟩
          ·
            replace h13 := if_n c14 h13
            obtain rfl := Option.some.inj h13
            refine wk_of [(1, some 1), (0, some 0)] rfl ?_ ?_
            ·
              try simp only [go_sem]
              exact ⟨.same _ trivial, ⟨.same _ trivial, ⟨.same _ trivial, ⟨.ptr _ _ _ _ _ (rn_some rfl), ⟨.ptr _ _ _ _ _ (rn_some rfl), ⟨.same _ trivial, .same _ trivial⟩⟩⟩⟩⟩⟩
            ·
              try simp only [go_sem]
              exact ⟨wkR_box (rn_some rfl) rfl (wkv_same (by simp only [go_sem]) rfl), wkR_box (rn_some rfl) rfl (wkE _)⟩
        try simp only [go_sem]
        obtain ⟨x15, hx15, h⟩ := of_bind h
        refine call_p false (c_panel_rows hx15) ⟨wkE _, .same _ trivial, .same _ trivial, .same _ trivial, .same _ trivial, .same _ trivial, .same _ trivial, trivial⟩ nofun ?_
        try simp only [go_sem]
        obtain rfl := Option.some.inj h
        exact wkv_same (by simp only [go_sem]) rfl
theorem c_panel_Rows {a0 : TPanel} {a1 : ByteArray} {r : TPanel × Int} (h : p_panel_Rows a0 a1 = some r)  : PCalls Try.prog 29 [encTPanel a0, .str a1] (tup [encTPanel r.1, .int .i64 r.2]) := by
  unfold p_panel_Rows at h
  refine pcalls_of (ordOf [(8, [0, 2, 6, 8, 1, 3, 4, 5, 12, 7, 9, 10, 11, 13]), (9, [0, 1, 2, 5, 6, 7, 3, 4, 8, 9, 10, 11])]) (fun _ => []) Try.func29 (by unfold Try.f29; rfl) (by kernel_rfl) (by kernel_rfl) ?_
  simp only [awp_seq]
  simp only [argSlots]
  dsimp only [Try.f29]
  try simp only [go_sem]
  obtain ⟨x0, hx0, h⟩ := of_bind h
  refine call_p false (c_panel_CheckPanel hx0) ⟨wkE _, trivial⟩ nofun ?_
  try simp only [go_sem]
  refine cut_l ?_
  try simp only [go_sem]
  refine ways_n (fun c1 => ?_) (fun c1 => ?_)
  ·
    replace h := if_n c1 h
    obtain rfl := Option.some.inj h
    exact wkv_tup ⟨wkv_aggA rfl ⟨.same _ trivial, .same _ trivial, .same _ trivial, .same _ trivial, wkv_nilL, wkv_nilL, wkv_nilL, trivial⟩, .same _ trivial, trivial⟩
  ·
    replace h := if_p c1 h
    obtain ⟨x2, hx2, h⟩ := of_bind h
    refine call_p false (c_panel_kindAt hx2) ⟨wkE _, .same _ trivial, trivial⟩ nofun ?_
    try simp only [go_sem]
    refine cut_l ?_
    try simp only [go_sem]
    refine ways_d (fun c3 => ?_) (fun c3 => ?_)
    ·
      replace h := if_p c3 h
      obtain rfl := Option.some.inj h
      exact wkv_tup ⟨wkv_aggA rfl ⟨.same _ trivial, .same _ trivial, .same _ trivial, .same _ trivial, wkv_nilL, wkv_nilL, wkv_nilL, trivial⟩, .same _ trivial, trivial⟩
    ·
      replace h := if_n c3 h
      obtain ⟨g4, h⟩ := of_guard h
      refine ob ⟨by omega, by assumption⟩ ?_
      obtain ⟨x5, hx5, h⟩ := of_bind h
      refine call_p false (c_panel_sizeOf hx5) ⟨wkE _, .same _ trivial, trivial⟩ nofun ?_
      try simp only [go_sem]
      obtain ⟨⟨g6_0, g6_1⟩, h⟩ := of_guard h
      simp only [W64 g6_0 g6_1]
      obtain ⟨⟨g7_0, g7_1⟩, h⟩ := of_guard h
      simp only [W64 g7_0 g7_1]
      obtain ⟨x8, hx8, h⟩ := of_bind h
      refine qcall_p false (fun _ => c_panel_many hx8) (fun _ => ⟨.same _ trivial, .same _ trivial, .same _ trivial, trivial⟩) nofun ?_
      try simp only [go_sem]
      obtain ⟨x9, hx9, h⟩ := of_bind h
      refine qcall_p false (fun _ => c_panel_many hx9) (fun _ => ⟨.same _ trivial, .same _ trivial, .same _ trivial, trivial⟩) nofun ?_
      obtain ⟨⟨g10_0, g10_1⟩, h⟩ := of_guard h
      simp only [W64 g10_0 g10_1]
      obtain ⟨x11, hx11, h⟩ := of_bind h
      refine call_p false (c_panel_many hx11) ⟨.same _ trivial, .same _ trivial, .same _ trivial, trivial⟩ nofun ?_
      obtain ⟨e12, h12, h⟩ := of_bind h
      refine cut_j ([(14, AVal.int IntKind.i64 e12), (13, AVal.int IntKind.i64 x9), (12, AVal.int IntKind.i64 x8), (11, AVal.int IntKind.i64 (TPanel.H a0 - 2 * TPanel.Rail a0)), (9, AVal.int IntKind.i64 (Prod.snd x5)), (8, AVal.int IntKind.i64 (Prod.fst x5)), (5, AVal.int IntKind.i64 0), (4, AVal.ptr (1, 0) 7 0 0), (2, AVal.ptr (0, 0) 7 0 0), (1, AVal.str a1)]) ({ nx := 20002, rows := [(1, Ent.one { sz := 7, d := agg [AVal.int IntKind.i64 0, AVal.int IntKind.i64 0, AVal.int IntKind.i64 0, AVal.int IntKind.i64 0, AVal.nilsl, AVal.nilsl, AVal.nilsl], l := [agg [AVal.int IntKind.i64 0, AVal.int IntKind.i64 0, AVal.int IntKind.i64 0, AVal.int IntKind.i64 0, AVal.nilsl, AVal.nilsl, AVal.nilsl]] : Row }), (0, Ent.one { sz := 7, d := encTPanel a0, l := [encTPanel a0] : Row })] : Heap }) ?_ ?_
      ·
        try simp only [go_sem]
        refine ways_d (fun c13 => ?_) (fun c13 => ?_)
        ·
          replace h12 := if_p c13 h12
          obtain rfl := Option.some.inj h12
          refine wk_of [(1, some 1), (0, some 0)] rfl ?_ ?_
          ·
            try simp only [go_sem]
            exact ⟨.same _ trivial, ⟨.same _ trivial, ⟨.same _ trivial, ⟨.same _ trivial, ⟨.same _ trivial, ⟨.same _ trivial, ⟨.same _ trivial, ⟨.ptr _ _ _ _ _ (rn_some rfl), ⟨.ptr _ _ _ _ _ (rn_some rfl), .same _ trivial⟩⟩⟩⟩⟩⟩⟩⟩⟩
          ·
            try simp only [go_sem]
            exact ⟨wkR_box (rn_some rfl) rfl (wkv_same (by simp only [go_sem]) rfl), wkR_box (rn_some rfl) rfl (wkE _)⟩
        ·
          replace h12 := if_n c13 h12
          obtain rfl := Option.some.inj h12
          refine wk_of [(1, some 1), (0, some 0)] rfl ?_ ?_
          ·
            try simp only [go_sem]
            exact ⟨.same _ trivial, ⟨.same _ trivial, ⟨.same _ trivial, ⟨.same _ trivial, ⟨.same _ trivial, ⟨.same _ trivial, ⟨.same _ trivial, ⟨.ptr _ _ _ _ _ (rn_some rfl), ⟨.ptr _ _ _ _ _ (rn_some rfl), .same _ trivial⟩⟩⟩⟩⟩⟩⟩⟩⟩
          ·
            try simp only [go_sem]
            exact ⟨wkR_box (rn_some rfl) rfl (wkv_same (by simp only [go_sem]) rfl), wkR_box (rn_some rfl) rfl (wkE _)⟩
      try simp only [go_sem]
      obtain ⟨e14, h14, h⟩ := of_bind h
      refine cut_j ([(16, AVal.int IntKind.i64 (Prod.fst e14)), (15, AVal.int IntKind.i64 (Prod.snd e14)), (13, AVal.int IntKind.i64 x9), (12, AVal.int IntKind.i64 x8), (5, AVal.int IntKind.i64 0), (4, AVal.ptr (1, 0) 7 0 0), (2, AVal.ptr (0, 0) 7 0 0), (1, AVal.str a1)]) ({ nx := 20002, rows := [(1, Ent.one { sz := 7, d := agg [AVal.int IntKind.i64 0, AVal.int IntKind.i64 0, AVal.int IntKind.i64 0, AVal.int IntKind.i64 0, AVal.nilsl, AVal.nilsl, AVal.nilsl], l := [agg [AVal.int IntKind.i64 0, AVal.int IntKind.i64 0, AVal.int IntKind.i64 0, AVal.int IntKind.i64 0, AVal.nilsl, AVal.nilsl, AVal.nilsl]] : Row }), (0, Ent.one { sz := 7, d := encTPanel a0, l := [encTPanel a0] : Row })] : Heap }) ?_ ?_
      ·
        try simp only [go_sem]
        refine loop_w h14 (fun (s : Int × Int × Int) => [(17, AVal.int IntKind.i64 (Prod.fst s)), (16, AVal.int IntKind.i64 (Prod.fst (Prod.snd s))), (15, AVal.int IntKind.i64 (Prod.snd (Prod.snd s))), (14, AVal.int IntKind.i64 e12), (13, AVal.int IntKind.i64 x9), (12, AVal.int IntKind.i64 x8), (11, AVal.int IntKind.i64 (TPanel.H a0 - 2 * TPanel.Rail a0)), (9, AVal.int IntKind.i64 (Prod.snd x5)), (8, AVal.int IntKind.i64 (Prod.fst x5)), (5, AVal.int IntKind.i64 0), (4, AVal.ptr (1, 0) 7 0 0), (2, AVal.ptr (0, 0) 7 0 0), (1, AVal.str a1)]) (fun (s : Int × Int × Int) => { nx := 20002, rows := [(1, Ent.one { sz := 7, d := agg [AVal.int IntKind.i64 0, AVal.int IntKind.i64 0, AVal.int IntKind.i64 0, AVal.int IntKind.i64 0, AVal.nilsl, AVal.nilsl, AVal.nilsl], l := [agg [AVal.int IntKind.i64 0, AVal.int IntKind.i64 0, AVal.int IntKind.i64 0, AVal.int IntKind.i64 0, AVal.nilsl, AVal.nilsl, AVal.nilsl]] : Row }), (0, Ent.one { sz := 7, d := encTPanel a0, l := [encTPanel a0] : Row })] : Heap }) ?_ ?_
        ·
          refine wk_of [(1, some 1), (0, some 0)] rfl ?_ ?_
          ·
            try simp only [go_sem]
            exact ⟨.same _ trivial, ⟨.same _ trivial, ⟨.same _ trivial, ⟨.same _ trivial, ⟨.same _ trivial, ⟨.same _ trivial, ⟨.same _ trivial, ⟨.same _ trivial, ⟨.same _ trivial, ⟨.same _ trivial, ⟨.ptr _ _ _ _ _ (rn_some rfl), ⟨.ptr _ _ _ _ _ (rn_some rfl), .same _ trivial⟩⟩⟩⟩⟩⟩⟩⟩⟩⟩⟩⟩
          ·
            try simp only [go_sem]
            exact ⟨wkR_box (rn_some rfl) rfl (wkv_same (by simp only [go_sem]) rfl), wkR_box (rn_some rfl) rfl (wkE _)⟩
        intro n15 s15 o15 h15 he15 hi15
        try simp only [go_sem]
        refine cut_l ?_
        try simp only [go_sem]
        refine ways_d (fun c16 => ?_) (fun c16 => ?_)
        ·
          replace h15 := if_p c16 h15
          obtain ⟨e17, h17, h15⟩ := of_bind h15
          refine cut_j ([(17, AVal.int IntKind.i64 (Prod.fst s15)), (16, AVal.int IntKind.i64 (Prod.fst e17)), (15, AVal.int IntKind.i64 (Prod.snd e17)), (14, AVal.int IntKind.i64 e12), (13, AVal.int IntKind.i64 x9), (12, AVal.int IntKind.i64 x8), (11, AVal.int IntKind.i64 (TPanel.H a0 - 2 * TPanel.Rail a0)), (9, AVal.int IntKind.i64 (Prod.snd x5)), (8, AVal.int IntKind.i64 (Prod.fst x5)), (5, AVal.int IntKind.i64 0), (4, AVal.ptr (1, 0) 7 0 0), (2, AVal.ptr (0, 0) 7 0 0), (1, AVal.str a1)]) ({ nx := 20002, rows := [(1, Ent.one { sz := 7, d := agg [AVal.int IntKind.i64 0, AVal.int IntKind.i64 0, AVal.int IntKind.i64 0, AVal.int IntKind.i64 0, AVal.nilsl, AVal.nilsl, AVal.nilsl], l := [agg [AVal.int IntKind.i64 0, AVal.int IntKind.i64 0, AVal.int IntKind.i64 0, AVal.int IntKind.i64 0, AVal.nilsl, AVal.nilsl, AVal.nilsl]] : Row }), (0, Ent.one { sz := 7, d := encTPanel a0, l := [encTPanel a0] : Row })] : Heap }) ?_ ?_
          ·
            try simp only [go_sem]
            obtain ⟨e18, h18, h17⟩ := of_bind h17
            refine cut_j ([(18, AVal.int IntKind.i64 e18), (17, AVal.int IntKind.i64 (Prod.fst s15)), (16, AVal.int IntKind.i64 (Prod.fst (Prod.snd s15))), (15, AVal.int IntKind.i64 (Prod.snd (Prod.snd s15))), (14, AVal.int IntKind.i64 e12), (13, AVal.int IntKind.i64 x9), (12, AVal.int IntKind.i64 x8), (11, AVal.int IntKind.i64 (TPanel.H a0 - 2 * TPanel.Rail a0)), (9, AVal.int IntKind.i64 (Prod.snd x5)), (8, AVal.int IntKind.i64 (Prod.fst x5)), (5, AVal.int IntKind.i64 0), (4, AVal.ptr (1, 0) 7 0 0), (2, AVal.ptr (0, 0) 7 0 0), (1, AVal.str a1)]) ({ nx := 20002, rows := [(1, Ent.one { sz := 7, d := agg [AVal.int IntKind.i64 0, AVal.int IntKind.i64 0, AVal.int IntKind.i64 0, AVal.int IntKind.i64 0, AVal.nilsl, AVal.nilsl, AVal.nilsl], l := [agg [AVal.int IntKind.i64 0, AVal.int IntKind.i64 0, AVal.int IntKind.i64 0, AVal.int IntKind.i64 0, AVal.nilsl, AVal.nilsl, AVal.nilsl]] : Row }), (0, Ent.one { sz := 7, d := encTPanel a0, l := [encTPanel a0] : Row })] : Heap }) ?_ ?_
            ·
              try simp only [go_sem]
              refine ways_d (fun c19 => ?_) (fun c19 => ?_)
              ·
                replace h18 := if_p c19 h18
                obtain ⟨⟨g20_0, g20_1⟩, h18⟩ := of_guard h18
                simp only [W64 g20_0 g20_1]
                obtain ⟨⟨g21_0, g21_1⟩, h18⟩ := of_guard h18
                simp only [W64 g21_0 g21_1]
                obtain ⟨⟨g22_0, g22_1⟩, h18⟩ := of_guard h18
                simp only [W64 g22_0 g22_1]
                obtain ⟨x23, hx23, h18⟩ := of_bind h18
                refine call_p false (c_panel_many hx23) ⟨.same _ trivial, .same _ trivial, .same _ trivial, trivial⟩ nofun ?_
                obtain rfl := Option.some.inj h18
                refine wk_of [(1, some 1), (0, some 0)] rfl ?_ ?_
                ·
                  try simp only [go_sem]
                  exact ⟨.same _ trivial, ⟨.same _ trivial, ⟨.same _ trivial, ⟨.same _ trivial, ⟨.same _ trivial, ⟨.same _ trivial, ⟨.same _ trivial, ⟨.same _ trivial, ⟨.same _ trivial, ⟨.same _ trivial, ⟨.same _ trivial, ⟨.ptr _ _ _ _ _ (rn_some rfl), ⟨.ptr _ _ _ _ _ (rn_some rfl), .same _ trivial⟩⟩⟩⟩⟩⟩⟩⟩⟩⟩⟩⟩⟩
                ·
                  try simp only [go_sem]
                  exact ⟨wkR_box (rn_some rfl) rfl (wkv_same (by simp only [go_sem]) rfl), wkR_box (rn_some rfl) rfl (wkE _)⟩
              ·
                replace h18 := if_n c19 h18
                obtain rfl := Option.some.inj h18
                refine wk_of [(1, some 1), (0, some 0)] rfl ?_ ?_
                ·
                  try simp only [go_sem]
                  exact ⟨.same _ trivial, ⟨.same _ trivial, ⟨.same _ trivial, ⟨.same _ trivial, ⟨.same _ trivial, ⟨.same _ trivial, ⟨.same _ trivial, ⟨.same _ trivial, ⟨.same _ trivial, ⟨.same _ trivial, ⟨.same _ trivial, ⟨.ptr _ _ _ _ _ (rn_some rfl), ⟨.ptr _ _ _ _ _ (rn_some rfl), .same _ trivial⟩⟩⟩⟩⟩⟩⟩⟩⟩⟩⟩⟩⟩
                ·
                  try simp only [go_sem]
                  exact ⟨wkR_box (rn_some rfl) rfl (wkv_same (by simp only [go_sem]) rfl), wkR_box (rn_some rfl) rfl (wkE _)⟩
            try simp only [go_sem]
            obtain ⟨⟨g24_0, g24_1⟩, h17⟩ := of_guard h17
            simp only [W64 g24_0 g24_1]
            obtain ⟨⟨g25_0, g25_1⟩, h17⟩ := of_guard h17
            simp only [W64 g25_0 g25_1]
            obtain ⟨⟨g26_0, g26_1⟩, h17⟩ := of_guard h17
            simp only [W64 g26_0 g26_1]
            obtain ⟨⟨g27_0, g27_1⟩, h17⟩ := of_guard h17
            simp only [W64 g27_0 g27_1]
            obtain ⟨⟨g28_0, g28_1⟩, h17⟩ := of_guard h17
            simp only [W64 g28_0 g28_1]
            obtain ⟨⟨g29_0, g29_1⟩, h17⟩ := of_guard h17
            simp only [W64 g29_0 g29_1]
            refine cut_l ?_
            try simp only [go_sem]
            refine ways_d (fun c30 => ?_) (fun c30 => ?_)
            ·
              replace h17 := if_p c30 h17
              obtain rfl := Option.some.inj h17
              refine wk_of [(1, some 1), (0, some 0)] rfl ?_ ?_
              ·
                try simp only [go_sem]
                exact ⟨.same _ trivial, ⟨.same _ trivial, ⟨.same _ trivial, ⟨.same _ trivial, ⟨.same _ trivial, ⟨.same _ trivial, ⟨.same _ trivial, ⟨.same _ trivial, ⟨.same _ trivial, ⟨.same _ trivial, ⟨.ptr _ _ _ _ _ (rn_some rfl), ⟨.ptr _ _ _ _ _ (rn_some rfl), .same _ trivial⟩⟩⟩⟩⟩⟩⟩⟩⟩⟩⟩⟩
              ·
                try simp only [go_sem]
                exact ⟨wkR_box (rn_some rfl) rfl (wkv_same (by simp only [go_sem]) rfl), wkR_box (rn_some rfl) rfl (wkE _)⟩
            ·
              replace h17 := if_n c30 h17
              obtain rfl := Option.some.inj h17
              refine wk_of [(1, some 1), (0, some 0)] rfl ?_ ?_
              ·
                try simp only [go_sem]
                exact ⟨.same _ trivial, ⟨.same _ trivial, ⟨.same _ trivial, ⟨.same _ trivial, ⟨.same _ trivial, ⟨.same _ trivial, ⟨.same _ trivial, ⟨.same _ trivial, ⟨.same _ trivial, ⟨.same _ trivial, ⟨.ptr _ _ _ _ _ (rn_some rfl), ⟨.ptr _ _ _ _ _ (rn_some rfl), .same _ trivial⟩⟩⟩⟩⟩⟩⟩⟩⟩⟩⟩⟩
              ·
                try simp only [go_sem]
                exact ⟨wkR_box (rn_some rfl) rfl (wkv_same (by simp only [go_sem]) rfl), wkR_box (rn_some rfl) rfl (wkE _)⟩
          try simp only [go_sem]
          obtain ⟨⟨g31_0, g31_1⟩, h15⟩ := of_guard h15
          simp only [W64 g31_0 g31_1]
          obtain rfl := Option.some.inj h15
          refine nextL (hi15 _ rfl) ?_
          refine wk_of [(1, some 1), (0, some 0)] rfl ?_ ?_
          ·
            try simp only [go_sem]
            exact ⟨.same _ trivial, ⟨.same _ trivial, ⟨.same _ trivial, ⟨.same _ trivial, ⟨.same _ trivial, ⟨.same _ trivial, ⟨.same _ trivial, ⟨.same _ trivial, ⟨.same _ trivial, ⟨.same _ trivial, ⟨.ptr _ _ _ _ _ (rn_some rfl), ⟨.ptr _ _ _ _ _ (rn_some rfl), .same _ trivial⟩⟩⟩⟩⟩⟩⟩⟩⟩⟩⟩⟩
          ·
            try simp only [go_sem]
            exact ⟨wkR_box (rn_some rfl) rfl (wkv_same (by simp only [go_sem]) rfl), wkR_box (rn_some rfl) rfl (wkE _)⟩
        ·
          replace h15 := if_n c16 h15
          obtain rfl := Option.some.inj h15
          obtain rfl := he15 _ rfl
          refine wk_of [(1, some 1), (0, some 0)] rfl ?_ ?_
          ·
            try simp only [go_sem]
            exact ⟨.same _ trivial, ⟨.same _ trivial, ⟨.same _ trivial, ⟨.same _ trivial, ⟨.same _ trivial, ⟨.ptr _ _ _ _ _ (rn_some rfl), ⟨.ptr _ _ _ _ _ (rn_some rfl), .same _ trivial⟩⟩⟩⟩⟩⟩⟩
          ·
            try simp only [go_sem]
            exact ⟨wkR_box (rn_some rfl) rfl (wkv_same (by simp only [go_sem]) rfl), wkR_box (rn_some rfl) rfl (wkE _)⟩
      try simp only [go_sem]
      obtain ⟨x32, hx32, h⟩ := of_bind h
      refine call_p false (c_panel_rows hx32) ⟨wkE _, .same _ trivial, .same _ trivial, .same _ trivial, .same _ trivial, .same _ trivial, .same _ trivial, trivial⟩ nofun ?_
      try simp only [go_sem]
      obtain rfl := Option.some.inj h
      exact wkv_same (by simp only [go_sem]) rfl
theorem c_law9_PanelGridsMatchSpec {a0 : TPanel} {a1 : ByteArray} {a2 : Int} {r : Bool} (h : p_law9_PanelGridsMatchSpec a0 a1 a2 = some r)  : PCalls Try.prog 8 [encTPanel a0, .str a1, .int .i64 a2] (.bool r) := by
  unfold p_law9_PanelGridsMatchSpec at h
  refine pcalls_of (fun _ => none) (fun _ => []) Try.func8 (by unfold Try.f8; rfl) (by kernel_rfl) (by kernel_rfl) ?_
  simp only [awp_seq]
  simp only [argSlots]
  dsimp only [Try.f8]
  try simp only [go_sem]
  obtain ⟨x0, hx0, h⟩ := of_bind h
  refine call_p false (c_panel_Grid hx0) ⟨wkE _, .same _ trivial, .same _ trivial, trivial⟩ nofun ?_
  try simp only [go_sem]
  obtain ⟨x1, hx1, h⟩ := of_bind h
  refine call_p false (c_ref9_Grid hx1) ⟨wkE _, .same _ trivial, .same _ trivial, trivial⟩ nofun ?_
  try simp only [go_sem]
  obtain ⟨x2, hx2, h⟩ := of_bind h
  refine call_p false (c_panel_Rows hx2) ⟨wkE _, .same _ trivial, trivial⟩ nofun ?_
  try simp only [go_sem]
  obtain ⟨x3, hx3, h⟩ := of_bind h
  refine call_p false (c_ref9_Rows hx3) ⟨wkE _, .same _ trivial, trivial⟩ nofun ?_
  try simp only [go_sem]
  obtain ⟨x4, hx4, h⟩ := of_bind h
  refine call_p false (c_ref9_Same hx4) ⟨wkE _, wkE _, trivial⟩ nofun ?_
  try simp only [go_sem]
  obtain ⟨x5, hx5, h⟩ := of_bind h
  refine qcall_p false (fun hg => c_ref9_Same (if_t hg hx5)) (fun _ => ⟨wkE _, wkE _, trivial⟩) nofun ?_
  try simp only [go_sem]
  obtain ⟨x6, hx6, h⟩ := of_bind h
  refine qcall_p false (fun hg => c_law9_awake (if_t hg hx6)) (fun _ => trivial) nofun ?_
  try simp only [go_sem]
  obtain rfl := Option.some.inj h
  exact .same _ trivial
end Go.Nw
