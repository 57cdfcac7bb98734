/- The walks of the functions. -/
import Derived.Test.YtngdglmimlfefaaNwSortF
import Derived.Test.YtngdglmimlfefaaNwDA
import Derived.Test.YtngdglmimlfefaaNwPA0
set_option linter.unusedVariables false
set_option linter.unusedSimpArgs false
set_option maxRecDepth 100000
namespace Go.Nw
open Go.Proofs
theorem c_panel_takes {a0 : TTurn} {a1 : (List TPoint)} {a2 : (List TPoint)} {r : Bool} (h : p_panel_takes a0 a1 a2 = some r)  : PCalls Try.prog 107 [encTTurn a0, encL 2 encTPoint a1, encL 2 encTPoint a2] (.bool r) := by
  unfold p_panel_takes at h
  refine pcalls_of (fun _ => none) (fun _ => []) Try.func107 (by unfold Try.f107; rfl) (by kernel_rfl) (by kernel_rfl) ?_
  simp only [awp_seq]
  simp only [argSlots]
  dsimp only [Try.f107]
  try simp only [go_sem]
  obtain ⟨x0, hx0, h⟩ := of_bind h
  refine qcall_p true (fun hg => c_slices_ContainsFunc_Point (if_t hg hx0) (by simp only [go_sem]) (fun _ _ h => c_panel_takes_1 h)) (fun _ => ⟨.same _ trivial, wkv_fnA rfl ⟨wkv_box rfl (R0_ne _) rfl (by simp only [go_sem]) (.same _ trivial), wkv_box rfl (R0_ne _) rfl (by simp only [go_sem]) (wkE _), trivial⟩, trivial⟩) (fun _ => by simp only [go_sem] <;> fail) ?_
  try simp only [go_sem]
  obtain rfl := Option.some.inj h
  exact .same _ trivial
theorem c_ref1_CheckTurn {a0 : TTurn} {r : Int} (h : p_ref1_CheckTurn a0 = some r)  : PCalls Try.prog 74 [encTTurn a0] (.int .i64 r) := by
  unfold p_ref1_CheckTurn at h
  refine pcalls_of (fun _ => none) (fun _ => []) Try.func74 (by unfold Try.f74; rfl) (by kernel_rfl) (by kernel_rfl) ?_
  simp only [awp_seq]
  simp only [argSlots]
  dsimp only [Try.f74]
  try simp only [go_sem]
  obtain ⟨x0, hx0, h⟩ := of_bind h
  refine call_p false (c_ref1_within hx0) ⟨.same _ trivial, .same _ trivial, .same _ trivial, trivial⟩ nofun ?_
  try simp only [go_sem]
  obtain ⟨x1, hx1, h⟩ := of_bind h
  refine qcall_p false (fun hg => c_ref1_IsPoint (if_t hg hx1)) (fun _ => ⟨wkE _, trivial⟩) nofun ?_
  try simp only [go_sem]
  refine ob (by simp) ?_
  refine cut_l ?_
  try simp only [go_sem]
  refine ways (fun c2 => ?_) (fun c2 => ?_)
  ·
    replace h := if_t c2 h
    try simp only [Bool.and_eq_true, Bool.or_eq_true, Bool.not_eq_true', Bool.not_eq_false', Bool.and_eq_false_imp, Bool.or_eq_false_iff, decide_eq_true_eq, decide_eq_false_iff_not] at c2
    obtain rfl := Option.some.inj h
    exact .same _ trivial
  ·
    replace h := if_f c2 h
    try simp only [Bool.and_eq_true, Bool.or_eq_true, Bool.not_eq_true', Bool.not_eq_false', Bool.and_eq_false_imp, Bool.or_eq_false_iff, decide_eq_true_eq, decide_eq_false_iff_not] at c2
    obtain rfl := Option.some.inj h
    exact .same _ trivial
theorem c_ref9_CheckPanel {a0 : TPanel} {r : Int} (h : p_ref9_CheckPanel a0 = some r)  : PCalls Try.prog 51 [encTPanel a0] (.int .i64 r) := by
  unfold p_ref9_CheckPanel at h
  refine pcalls_of (ordOf [(13, [0, 1, 2, 3, 5, 7, 8, 4, 6, 9, 10, 11, 12, 13])]) (fun _ => []) Try.func51 (by unfold Try.f51; rfl) (by kernel_rfl) (by kernel_rfl) ?_
  simp only [awp_seq]
  simp only [argSlots]
  dsimp only [Try.f51]
  try simp only [go_sem]
  obtain ⟨x0, hx0, h⟩ := of_bind h
  refine call_p false (c_ref9_within hx0) ⟨.same _ trivial, .same _ trivial, .same _ trivial, trivial⟩ nofun ?_
  try simp only [go_sem]
  obtain ⟨x1, hx1, h⟩ := of_bind h
  refine qcall_p false (fun hg => c_ref9_within (if_t hg hx1)) (fun _ => ⟨.same _ trivial, .same _ trivial, .same _ trivial, trivial⟩) nofun ?_
  try simp only [go_sem]
  refine ob (by simp) ?_
  obtain ⟨x2, hx2, h⟩ := of_bind h
  refine qcall_p false (fun hg => c_ref9_within (if_t hg hx2)) (fun _ => ⟨.same _ trivial, .same _ trivial, .same _ trivial, trivial⟩) nofun ?_
  try simp only [go_sem]
  refine ob (by simp) ?_
  obtain ⟨x3, hx3, h⟩ := of_bind h
  refine qcall_p false (fun hg => c_ref9_within (if_t hg hx3)) (fun _ => ⟨.same _ trivial, .same _ trivial, .same _ trivial, trivial⟩) nofun ?_
  try simp only [go_sem]
  refine ob (by simp) ?_
  refine cut_l ?_
  try simp only [go_sem]
  refine ways (fun c4 => ?_) (fun c4 => ?_)
  ·
    replace h := if_t c4 h
    try simp only [Bool.and_eq_true, Bool.or_eq_true, Bool.not_eq_true', Bool.not_eq_false', Bool.and_eq_false_imp, Bool.or_eq_false_iff, decide_eq_true_eq, decide_eq_false_iff_not] at c4
    obtain rfl := Option.some.inj h
    exact .same _ trivial
  ·
    replace h := if_f c4 h
    try simp only [Bool.and_eq_true, Bool.or_eq_true, Bool.not_eq_true', Bool.not_eq_false', Bool.and_eq_false_imp, Bool.or_eq_false_iff, decide_eq_true_eq, decide_eq_false_iff_not] at c4
    refine cut_l ?_
    try simp only [go_sem]
    refine ways_d (fun c5 => ?_) (fun c5 => ?_)
    ·
      replace h := if_p c5 h
      obtain rfl := Option.some.inj h
      exact .same _ trivial
    ·
      replace h := if_n c5 h
      obtain ⟨z6, h6, h⟩ := of_bind h
      refine cut_z z6 (fun (s : Int) => [(2, AVal.int IntKind.i64 s), (1, AVal.ptr (0, 0) 7 0 0)]) (fun (s : Int) => { nx := 1, rows := [(0, Ent.one { sz := 7, d := encTPanel a0, l := [encTPanel a0] : Row })] : Heap }) ?_ (fun e6 hz6 => ?_)
      ·
        try simp only [go_sem]
        refine loop_w h6 (fun (s : Int × Int) => [(3, AVal.int IntKind.i64 (Prod.fst s)), (2, AVal.int IntKind.i64 (Prod.snd s)), (1, AVal.ptr (0, 0) 7 0 0)]) (fun (s : Int × Int) => { nx := 1, rows := [(0, Ent.one { sz := 7, d := encTPanel a0, l := [encTPanel a0] : Row })] : Heap }) ?_ ?_
        ·
          refine wk_of [(0, some 0)] rfl ?_ ?_
          ·
            try simp only [go_sem]
            exact ⟨.same _ trivial, ⟨.same _ trivial, .ptr _ _ _ _ _ (rn_some rfl)⟩⟩
          ·
            try simp only [go_sem]
            exact wkR_box (rn_some rfl) rfl (wkE _)
        intro n7 s7 o7 h7 he7 hi7
        try simp only [go_sem]
        refine cut_l ?_
        try simp only [go_sem]
        refine ways_d (fun c8 => ?_) (fun c8 => ?_)
        ·
          replace h7 := if_p c8 h7
          refine cut_l ?_
          try simp only [go_sem]
          obtain ⟨g9, h7⟩ := of_guard h7
          refine ob ⟨by assumption, by assumption⟩ ?_
          obtain ⟨x10, hx10, h7⟩ := of_bind h7
          refine call_p false (c_ref3_IsName hx10) ⟨.same _ trivial, trivial⟩ nofun ?_
          try simp only [go_sem]
          refine cut_l ?_
          try simp only [go_sem]
          refine ways (fun c11 => ?_) (fun c11 => ?_)
          ·
            replace h7 := if_t c11 h7
            try simp only [Bool.and_eq_true, Bool.or_eq_true, Bool.not_eq_true', Bool.not_eq_false', Bool.and_eq_false_imp, Bool.or_eq_false_iff, decide_eq_true_eq, decide_eq_false_iff_not] at c11
            obtain rfl := Option.some.inj h7
            obtain rfl := he7 _ rfl
            obtain rfl := Option.some.inj h
            exact .same _ trivial
          ·
            replace h7 := if_f c11 h7
            try simp only [Bool.and_eq_true, Bool.or_eq_true, Bool.not_eq_true', Bool.not_eq_false', Bool.and_eq_false_imp, Bool.or_eq_false_iff, decide_eq_true_eq, decide_eq_false_iff_not] at c11
            obtain ⟨x12, hx12, h7⟩ := of_bind h7
            refine call_p false (c_ref9_within hx12) ⟨.same _ trivial, .same _ trivial, .same _ trivial, trivial⟩ nofun ?_
            try simp only [go_sem]
            obtain ⟨x13, hx13, h7⟩ := of_bind h7
            refine qcall_p false (fun hg => c_ref9_within (if_t hg hx13)) (fun _ => ⟨.same _ trivial, .same _ trivial, .same _ trivial, trivial⟩) nofun ?_
            try simp only [go_sem]
            refine ob (by simp) ?_
            refine cut_l ?_
            try simp only [go_sem]
            refine ways (fun c14 => ?_) (fun c14 => ?_)
            ·
              replace h7 := if_t c14 h7
              try simp only [Bool.and_eq_true, Bool.or_eq_true, Bool.not_eq_true', Bool.not_eq_false', Bool.and_eq_false_imp, Bool.or_eq_false_iff, decide_eq_true_eq, decide_eq_false_iff_not] at c14
              obtain rfl := Option.some.inj h7
              obtain rfl := he7 _ rfl
              obtain rfl := Option.some.inj h
              exact .same _ trivial
            ·
              replace h7 := if_f c14 h7
              try simp only [Bool.and_eq_true, Bool.or_eq_true, Bool.not_eq_true', Bool.not_eq_false', Bool.and_eq_false_imp, Bool.or_eq_false_iff, decide_eq_true_eq, decide_eq_false_iff_not] at c14
              simp only [W64 (n := Prod.fst s7 - 1) (by omega) (by omega)]
              obtain ⟨g15, h7⟩ := of_guard h7
              refine ob (by assumption) ?_
              refine cut_l ?_
              try simp only [go_sem]
              refine ways (fun c16 => ?_) (fun c16 => ?_)
              ·
                replace h7 := if_t c16 h7
                try simp only [Bool.and_eq_true, Bool.or_eq_true, Bool.not_eq_true', Bool.not_eq_false', Bool.and_eq_false_imp, Bool.or_eq_false_iff, decide_eq_true_eq, decide_eq_false_iff_not] at c16
                obtain rfl := Option.some.inj h7
                obtain rfl := he7 _ rfl
                obtain rfl := Option.some.inj h
                exact .same _ trivial
              ·
                replace h7 := if_f c16 h7
                try simp only [Bool.and_eq_true, Bool.or_eq_true, Bool.not_eq_true', Bool.not_eq_false', Bool.and_eq_false_imp, Bool.or_eq_false_iff, decide_eq_true_eq, decide_eq_false_iff_not] at c16
                simp only [W64 (n := Prod.fst s7 + 1) (by omega) (by omega)]
                obtain rfl := Option.some.inj h7
                refine nextL (hi7 _ rfl) ?_
                refine wk_of [(0, some 0)] rfl ?_ ?_
                ·
                  try simp only [go_sem]
                  exact ⟨.same _ trivial, ⟨.same _ trivial, .ptr _ _ _ _ _ (rn_some rfl)⟩⟩
                ·
                  try simp only [go_sem]
                  exact wkR_box (rn_some rfl) rfl (wkE _)
        ·
          replace h7 := if_n c8 h7
          obtain rfl := Option.some.inj h7
          obtain rfl := he7 _ rfl
          refine zend ?_
          refine wk_of [(0, some 0)] rfl ?_ ?_
          ·
            try simp only [go_sem]
            exact ⟨.same _ trivial, .ptr _ _ _ _ _ (rn_some rfl)⟩
          ·
            try simp only [go_sem]
            exact wkR_box (rn_some rfl) rfl (wkE _)
      subst hz6
      simp only [Sum.elim_inr] at h
      try simp only [go_sem]
      refine cut_l ?_
      try simp only [go_sem]
      refine ways_d (fun c17 => ?_) (fun c17 => ?_)
      ·
        replace h := if_p c17 h
        obtain rfl := Option.some.inj h
        exact .same _ trivial
      ·
        replace h := if_n c17 h
        obtain ⟨z18, h18, h⟩ := of_bind h
        refine cut_z z18 (fun (s : Int) => [(2, AVal.int IntKind.i64 s), (1, AVal.ptr (0, 0) 7 0 0)]) (fun (s : Int) => { nx := 1, rows := [(0, Ent.one { sz := 7, d := encTPanel a0, l := [encTPanel a0] : Row })] : Heap }) ?_ (fun e18 hz18 => ?_)
        ·
          try simp only [go_sem]
          refine loop_w h18 (fun (s : Int × Int) => [(5, AVal.int IntKind.i64 (Prod.fst s)), (2, AVal.int IntKind.i64 (Prod.snd s)), (1, AVal.ptr (0, 0) 7 0 0)]) (fun (s : Int × Int) => { nx := 1, rows := [(0, Ent.one { sz := 7, d := encTPanel a0, l := [encTPanel a0] : Row })] : Heap }) ?_ ?_
          ·
            refine wk_of [(0, some 0)] rfl ?_ ?_
            ·
              try simp only [go_sem]
              exact ⟨.same _ trivial, ⟨.same _ trivial, .ptr _ _ _ _ _ (rn_some rfl)⟩⟩
            ·
              try simp only [go_sem]
              exact wkR_box (rn_some rfl) rfl (wkE _)
          intro n19 s19 o19 h19 he19 hi19
          try simp only [go_sem]
          refine cut_l ?_
          try simp only [go_sem]
          refine ways_d (fun c20 => ?_) (fun c20 => ?_)
          ·
            replace h19 := if_p c20 h19
            refine cut_l ?_
            try simp only [go_sem]
            obtain ⟨x21, hx21, h19⟩ := of_bind h19
            refine call_p false (c_ref9_checkSlot hx21) ⟨wkE _, .same _ trivial, trivial⟩ nofun ?_
            try simp only [go_sem]
            refine cut_l ?_
            try simp only [go_sem]
            refine ways_n (fun c22 => ?_) (fun c22 => ?_)
            ·
              replace h19 := if_n c22 h19
              obtain rfl := Option.some.inj h19
              obtain rfl := he19 _ rfl
              obtain rfl := Option.some.inj h
              exact .same _ trivial
            ·
              replace h19 := if_p c22 h19
              obtain ⟨⟨g23_0, g23_1⟩, h19⟩ := of_guard h19
              simp only [W64 g23_0 g23_1]
              obtain rfl := Option.some.inj h19
              refine nextL (hi19 _ rfl) ?_
              refine wk_of [(0, some 0)] rfl ?_ ?_
              ·
                try simp only [go_sem]
                exact ⟨.same _ trivial, ⟨.same _ trivial, .ptr _ _ _ _ _ (rn_some rfl)⟩⟩
              ·
                try simp only [go_sem]
                exact wkR_box (rn_some rfl) rfl (wkE _)
          ·
            replace h19 := if_n c20 h19
            obtain rfl := Option.some.inj h19
            obtain rfl := he19 _ rfl
            refine zend ?_
            refine wk_of [(0, some 0)] rfl ?_ ?_
            ·
              try simp only [go_sem]
              exact ⟨.same _ trivial, .ptr _ _ _ _ _ (rn_some rfl)⟩
            ·
              try simp only [go_sem]
              exact wkR_box (rn_some rfl) rfl (wkE _)
        subst hz18
        simp only [Sum.elim_inr] at h
        try simp only [go_sem]
        refine cut_l ?_
        try simp only [go_sem]
        refine ways_d (fun c24 => ?_) (fun c24 => ?_)
        ·
          replace h := if_p c24 h
          obtain rfl := Option.some.inj h
          exact .same _ trivial
        ·
          replace h := if_n c24 h
          obtain ⟨z25, h25, h⟩ := of_bind h
          refine cut_z z25 (fun (s : Int) => [(2, AVal.int IntKind.i64 s)]) (fun (s : Int) => { nx := 1, rows := [] : Heap }) ?_ (fun e25 hz25 => ?_)
          ·
            try simp only [go_sem]
            refine loop_w h25 (fun (s : Int × Int) => [(7, AVal.int IntKind.i64 (Prod.fst s)), (2, AVal.int IntKind.i64 (Prod.snd s)), (1, AVal.ptr (0, 0) 7 0 0)]) (fun (s : Int × Int) => { nx := 1, rows := [(0, Ent.one { sz := 7, d := encTPanel a0, l := [encTPanel a0] : Row })] : Heap }) ?_ ?_
            ·
              refine wk_of [(0, some 0)] rfl ?_ ?_
              ·
                try simp only [go_sem]
                exact ⟨.same _ trivial, ⟨.same _ trivial, .ptr _ _ _ _ _ (rn_some rfl)⟩⟩
              ·
                try simp only [go_sem]
                exact wkR_box (rn_some rfl) rfl (wkE _)
            intro n26 s26 o26 h26 he26 hi26
            try simp only [go_sem]
            refine cut_l ?_
            try simp only [go_sem]
            refine ways_d (fun c27 => ?_) (fun c27 => ?_)
            ·
              replace h26 := if_p c27 h26
              refine cut_l ?_
              try simp only [go_sem]
              obtain ⟨x28, hx28, h26⟩ := of_bind h26
              refine call_p false (c_ref9_checkMark hx28) ⟨wkE _, .same _ trivial, trivial⟩ nofun ?_
              try simp only [go_sem]
              refine cut_l ?_
              try simp only [go_sem]
              refine ways_n (fun c29 => ?_) (fun c29 => ?_)
              ·
                replace h26 := if_n c29 h26
                obtain rfl := Option.some.inj h26
                obtain rfl := he26 _ rfl
                obtain rfl := Option.some.inj h
                exact .same _ trivial
              ·
                replace h26 := if_p c29 h26
                obtain ⟨⟨g30_0, g30_1⟩, h26⟩ := of_guard h26
                simp only [W64 g30_0 g30_1]
                obtain rfl := Option.some.inj h26
                refine nextL (hi26 _ rfl) ?_
                refine wk_of [(0, some 0)] rfl ?_ ?_
                ·
                  try simp only [go_sem]
                  exact ⟨.same _ trivial, ⟨.same _ trivial, .ptr _ _ _ _ _ (rn_some rfl)⟩⟩
                ·
                  try simp only [go_sem]
                  exact wkR_box (rn_some rfl) rfl (wkE _)
            ·
              replace h26 := if_n c27 h26
              obtain rfl := Option.some.inj h26
              obtain rfl := he26 _ rfl
              refine zend ?_
              refine wk_of [] rfl ?_ ?_
              ·
                try simp only [go_sem]
                exact .same _ trivial
              ·
                try simp only [go_sem]
          subst hz25
          simp only [Sum.elim_inr] at h
          try simp only [go_sem]
          obtain rfl := Option.some.inj h
          exact .same _ trivial
theorem c_ref9_turns {a0 : (List TPoint)} {a1 : (List TPoint)} {r : (List TTurn)} (h : p_ref9_turns a0 a1 = some r)  : PCalls Try.prog 70 [encL 2 encTPoint a0, encL 2 encTPoint a1] (encL 4 encTTurn r) := by
  unfold p_ref9_turns at h
  refine pcalls_of (ordOf [(11, [0, 1, 2, 3, 4, 6, 9, 10, 11, 12, 14, 5, 7, 8, 13, 15, 16, 17, 18, 19, 20])]) (fun _ => []) Try.func70 (by unfold Try.f70; rfl) (by kernel_rfl) (by kernel_rfl) ?_
  simp only [awp_seq]
  simp only [argSlots]
  dsimp only [Try.f70]
  try simp only [go_sem]
  refine ob (by simp) ?_
  refine cut_l ?_
  try simp only [go_sem]
  refine ways (fun c0 => ?_) (fun c0 => ?_)
  ·
    replace h := if_t c0 h
    try simp only [Bool.and_eq_true, Bool.or_eq_true, Bool.not_eq_true', Bool.not_eq_false', Bool.and_eq_false_imp, Bool.or_eq_false_iff, decide_eq_true_eq, decide_eq_false_iff_not] at c0
    obtain rfl := Option.some.inj h
    exact wkv_nilL
  ·
    replace h := if_f c0 h
    try simp only [Bool.and_eq_true, Bool.or_eq_true, Bool.not_eq_true', Bool.not_eq_false', Bool.and_eq_false_imp, Bool.or_eq_false_iff, decide_eq_true_eq, decide_eq_false_iff_not] at c0
    obtain ⟨e1, h1, h⟩ := of_bind h
    refine cut_j ([(5, encL 4 encTTurn e1), (4, AVal.nilsl)]) ({ nx := 0, rows := [] : Heap }) ?_ ?_
    ·
      try simp only [go_sem]
      refine loop_w h1 (fun (s : Int × List TTurn) => [(6, AVal.int IntKind.i64 (Prod.fst s)), (5, AVal.sref (0, 0) 0 4 (List.length (Prod.snd s))), (4, AVal.nilsl), (0, encL 2 encTPoint a0), (1, encL 2 encTPoint a1)]) (fun (s : Int × List TTurn) => { nx := 1, rows := [(0, Ent.one { sz := 4, d := encTTurn default, l := List.map encTTurn (Prod.snd s) : Row })] : Heap }) ?_ ?_
      ·
        refine wk_of [(0, none)] rfl ?_ ?_
        ·
          try simp only [go_sem]
          exact ⟨.same _ trivial, ⟨wkv_nil (rn_none rfl) rfl, ⟨.same _ trivial, ⟨.same _ trivial, .same _ trivial⟩⟩⟩⟩
        ·
          try simp only [go_sem]
          exact wkR_nilT (rn_none rfl)
      intro n2 s2 o2 h2 he2 hi2
      try simp only [go_sem]
      refine cut_l ?_
      try simp only [go_sem]
      refine ways_d (fun c3 => ?_) (fun c3 => ?_)
      ·
        replace h2 := if_p c3 h2
        obtain ⟨e4, h4, h2⟩ := of_bind h2
        refine cut_j ([(6, AVal.int IntKind.i64 (Prod.fst s2)), (5, AVal.sref (0, 0) 0 4 (List.length e4)), (4, AVal.nilsl), (0, encL 2 encTPoint a0), (1, encL 2 encTPoint a1)]) ({ nx := 1, rows := [(0, Ent.one { sz := 4, d := encTTurn default, l := List.map encTTurn e4 : Row })] : Heap }) ?_ ?_
        ·
          try simp only [go_sem]
          refine ob ⟨by omega, by omega⟩ ?_
          obtain ⟨x5, hx5, h4⟩ := of_bind h4
          refine call_p false (c_ref1_TurnPoint hx5) ⟨wkE _, wkE _, trivial⟩ nofun ?_
          try simp only [go_sem]
          refine cut_l ?_
          try simp only [go_sem]
          refine loop_w h4 (fun (s : Int × List TTurn) => [(8, AVal.int IntKind.i64 (Prod.fst s)), (7, AVal.ptr (1, 0) 2 0 0), (6, AVal.int IntKind.i64 (Prod.fst s2)), (5, AVal.sref (0, 0) 0 4 (List.length (Prod.snd s))), (4, AVal.nilsl), (0, encL 2 encTPoint a0), (1, encL 2 encTPoint a1)]) (fun (s : Int × List TTurn) => { nx := 3, rows := [(1, Ent.one { sz := 2, d := encTPoint { : TPoint }, l := [encTPoint x5] : Row }), (0, Ent.one { sz := 4, d := encTTurn default, l := List.map encTTurn (Prod.snd s) : Row })] : Heap }) ?_ ?_
          ·
            refine wk_of [(1, some 1), (0, some 0)] rfl ?_ ?_
            ·
              try simp only [go_sem]
              exact ⟨.same _ trivial, ⟨.ptr _ _ _ _ _ (rn_some rfl), ⟨.same _ trivial, ⟨wkv_sref (rn_some rfl) rfl, ⟨.same _ trivial, ⟨.same _ trivial, .same _ trivial⟩⟩⟩⟩⟩⟩
            ·
              try simp only [go_sem]
              exact ⟨wkR_box (rn_some rfl) rfl (wkE _), wkR_typed (rn_some rfl) rfl rfl⟩
          intro n6 s6 o6 h6 he6 hi6
          try simp only [go_sem]
          refine cut_l ?_
          try simp only [go_sem]
          refine ways_d (fun c7 => ?_) (fun c7 => ?_)
          ·
            replace h6 := if_p c7 h6
            obtain ⟨e8, h8, h6⟩ := of_bind h6
            refine cut_j ([(8, AVal.int IntKind.i64 (Prod.fst s6)), (7, AVal.ptr (1, 0) 2 0 0), (6, AVal.int IntKind.i64 (Prod.fst s2)), (5, AVal.sref (0, 0) 0 4 (List.length e8)), (4, AVal.nilsl), (0, encL 2 encTPoint a0), (1, encL 2 encTPoint a1)]) ({ nx := 3, rows := [(1, Ent.one { sz := 2, d := encTPoint { : TPoint }, l := [encTPoint x5] : Row }), (0, Ent.one { sz := 4, d := encTTurn default, l := List.map encTTurn e8 : Row })] : Heap }) ?_ ?_
            ·
              try simp only [go_sem]
              obtain ⟨g9, h8⟩ := of_guard h8
              refine ob ⟨by assumption, by assumption⟩ ?_
              obtain ⟨⟨g10_0, g10_1⟩, h8⟩ := of_guard h8
              simp only [W64 g10_0 g10_1]
              obtain ⟨⟨g11_0, g11_1⟩, h8⟩ := of_guard h8
              simp only [W64 g11_0 g11_1]
              obtain ⟨x12, hx12, h8⟩ := of_bind h8
              refine call_p false (c_ref9_takes hx12) ⟨wkE _, .same _ trivial, .same _ trivial, trivial⟩ nofun ?_
              refine cut_l ?_
              try simp only [go_sem]
              refine ways (fun c13 => ?_) (fun c13 => ?_)
              ·
                replace h8 := if_t c13 h8
                try simp only [Bool.and_eq_true, Bool.or_eq_true, Bool.not_eq_true', Bool.not_eq_false', Bool.and_eq_false_imp, Bool.or_eq_false_iff, decide_eq_true_eq, decide_eq_false_iff_not] at c13
                obtain ⟨g14, h8⟩ := of_guard h8
                refine ob ⟨by omega, by assumption⟩ ?_
                obtain rfl := Option.some.inj h8
                refine wk_of [(1, some 1), (0, some 10004)] rfl ?_ ?_
                ·
                  try simp only [go_sem]
                  exact ⟨.same _ trivial, ⟨.ptr _ _ _ _ _ (rn_some rfl), ⟨.same _ trivial, ⟨wkv_sref (rn_some rfl) rfl, ⟨.same _ trivial, ⟨.same _ trivial, .same _ trivial⟩⟩⟩⟩⟩⟩
                ·
                  try simp only [go_sem]
                  exact ⟨wkR_box (rn_some rfl) rfl (wkE _), wkR_typed (rn_some rfl) rfl rfl⟩
              ·
                replace h8 := if_f c13 h8
                try simp only [Bool.and_eq_true, Bool.or_eq_true, Bool.not_eq_true', Bool.not_eq_false', Bool.and_eq_false_imp, Bool.or_eq_false_iff, decide_eq_true_eq, decide_eq_false_iff_not] at c13
                obtain rfl := Option.some.inj h8
                refine wk_of [(1, some 1), (0, some 0)] rfl ?_ ?_
                ·
                  try simp only [go_sem]
                  exact ⟨.same _ trivial, ⟨.ptr _ _ _ _ _ (rn_some rfl), ⟨.same _ trivial, ⟨wkv_sref (rn_some rfl) rfl, ⟨.same _ trivial, ⟨.same _ trivial, .same _ trivial⟩⟩⟩⟩⟩⟩
                ·
                  try simp only [go_sem]
                  exact ⟨wkR_box (rn_some rfl) rfl (wkE _), wkR_typed (rn_some rfl) rfl rfl⟩
            try simp only [go_sem]
            obtain ⟨⟨g15_0, g15_1⟩, h6⟩ := of_guard h6
            simp only [W64 g15_0 g15_1]
            obtain rfl := Option.some.inj h6
            refine nextL (hi6 _ rfl) ?_
            refine wk_of [(1, some 1), (0, some 0)] rfl ?_ ?_
            ·
              try simp only [go_sem]
              exact ⟨.same _ trivial, ⟨.ptr _ _ _ _ _ (rn_some rfl), ⟨.same _ trivial, ⟨wkv_sref (rn_some rfl) rfl, ⟨.same _ trivial, ⟨.same _ trivial, .same _ trivial⟩⟩⟩⟩⟩⟩
            ·
              try simp only [go_sem]
              exact ⟨wkR_box (rn_some rfl) rfl (wkE _), wkR_typed (rn_some rfl) rfl rfl⟩
          ·
            replace h6 := if_n c7 h6
            obtain rfl := Option.some.inj h6
            obtain rfl := he6 _ rfl
            refine wk_of [(0, some 0)] rfl ?_ ?_
            ·
              try simp only [go_sem]
              exact ⟨.same _ trivial, ⟨wkv_sref (rn_some rfl) rfl, ⟨.same _ trivial, ⟨.same _ trivial, .same _ trivial⟩⟩⟩⟩
            ·
              try simp only [go_sem]
              exact wkR_typed (rn_some rfl) rfl rfl
        try simp only [go_sem]
        obtain ⟨⟨g16_0, g16_1⟩, h2⟩ := of_guard h2
        simp only [W64 g16_0 g16_1]
        obtain rfl := Option.some.inj h2
        refine nextL (hi2 _ rfl) ?_
        refine wk_of [(0, some 0)] rfl ?_ ?_
        ·
          try simp only [go_sem]
          exact ⟨.same _ trivial, ⟨wkv_sref (rn_some rfl) rfl, ⟨.same _ trivial, ⟨.same _ trivial, .same _ trivial⟩⟩⟩⟩
        ·
          try simp only [go_sem]
          exact wkR_typed (rn_some rfl) rfl rfl
      ·
        replace h2 := if_n c3 h2
        obtain rfl := Option.some.inj h2
        obtain rfl := he2 _ rfl
        refine wk_of [] rfl ?_ ?_
        ·
          try simp only [go_sem]
          exact ⟨wkv_own rfl (rn_notTo rfl) rfl, .same _ trivial⟩
        ·
          try simp only [go_sem]
    try simp only [go_sem]
    obtain rfl := Option.some.inj h
    exact .same _ trivial
theorem c_shape_CheckTurn {a0 : TTurn} {r : Int} (h : p_shape_CheckTurn a0 = some r)  : PCalls Try.prog 39 [encTTurn a0] (.int .i64 r) := by
  unfold p_shape_CheckTurn at h
  refine pcalls_of (fun _ => none) (fun _ => []) Try.func39 (by unfold Try.f39; rfl) (by kernel_rfl) (by kernel_rfl) ?_
  simp only [awp_seq]
  simp only [argSlots]
  dsimp only [Try.f39]
  try simp only [go_sem]
  obtain ⟨x0, hx0, h⟩ := of_bind h
  refine call_p false (c_shape_within hx0) ⟨.same _ trivial, .same _ trivial, .same _ trivial, trivial⟩ nofun ?_
  try simp only [go_sem]
  obtain ⟨x1, hx1, h⟩ := of_bind h
  refine qcall_p false (fun hg => c_shape_IsPoint (if_t hg hx1)) (fun _ => ⟨wkE _, trivial⟩) nofun ?_
  try simp only [go_sem]
  refine ob (by simp) ?_
  refine cut_l ?_
  try simp only [go_sem]
  refine ways (fun c2 => ?_) (fun c2 => ?_)
  ·
    replace h := if_t c2 h
    try simp only [Bool.and_eq_true, Bool.or_eq_true, Bool.not_eq_true', Bool.not_eq_false', Bool.and_eq_false_imp, Bool.or_eq_false_iff, decide_eq_true_eq, decide_eq_false_iff_not] at c2
    obtain rfl := Option.some.inj h
    exact .same _ trivial
  ·
    replace h := if_f c2 h
    try simp only [Bool.and_eq_true, Bool.or_eq_true, Bool.not_eq_true', Bool.not_eq_false', Bool.and_eq_false_imp, Bool.or_eq_false_iff, decide_eq_true_eq, decide_eq_false_iff_not] at c2
    obtain rfl := Option.some.inj h
    exact .same _ trivial
theorem c_panel_open {a0 : TPanel} {r : (List TRect) × Int} (h : p_panel_open a0 = some r)  : PCalls Try.prog 49 [encTPanel a0] (tup [encL 4 encTRect r.1, .int .i64 r.2]) := by
  unfold p_panel_open at h
  refine pcalls_of (ordOf [(18, [0, 2, 1, 3, 4, 5, 6])]) (fun _ => []) Try.func49 (by unfold Try.f49; rfl) (by kernel_rfl) (by kernel_rfl) ?_
  simp only [awp_seq]
  simp only [argSlots]
  dsimp only [Try.f49]
  try simp only [go_sem]
  obtain ⟨x0, hx0, h⟩ := of_bind h
  refine call_p false (c_panel_within hx0) ⟨.same _ trivial, .same _ trivial, .same _ trivial, trivial⟩ nofun ?_
  try simp only [go_sem]
  obtain ⟨x1, hx1, h⟩ := of_bind h
  refine qcall_p false (fun hg => c_panel_within (if_t hg hx1)) (fun _ => ⟨.same _ trivial, .same _ trivial, .same _ trivial, trivial⟩) nofun ?_
  try simp only [go_sem]
  refine ob (by simp) ?_
  obtain ⟨x2, hx2, h⟩ := of_bind h
  refine qcall_p false (fun hg => c_panel_within (if_t hg hx2)) (fun _ => ⟨.same _ trivial, .same _ trivial, .same _ trivial, trivial⟩) nofun ?_
  try simp only [go_sem]
  refine ob (by simp) ?_
  obtain ⟨x3, hx3, h⟩ := of_bind h
  refine qcall_p false (fun hg => c_panel_within (if_t hg hx3)) (fun _ => ⟨.same _ trivial, .same _ trivial, .same _ trivial, trivial⟩) nofun ?_
  try simp only [go_sem]
  refine ob (by simp) ?_
  refine cut_l ?_
  try simp only [go_sem]
  refine ways (fun c4 => ?_) (fun c4 => ?_)
  ·
    replace h := if_t c4 h
    try simp only [Bool.and_eq_true, Bool.or_eq_true, Bool.not_eq_true', Bool.not_eq_false', Bool.and_eq_false_imp, Bool.or_eq_false_iff, decide_eq_true_eq, decide_eq_false_iff_not] at c4
    obtain rfl := Option.some.inj h
    exact wkv_tup ⟨wkv_nilL, .same _ trivial, trivial⟩
  ·
    replace h := if_f c4 h
    try simp only [Bool.and_eq_true, Bool.or_eq_true, Bool.not_eq_true', Bool.not_eq_false', Bool.and_eq_false_imp, Bool.or_eq_false_iff, decide_eq_true_eq, decide_eq_false_iff_not] at c4
    obtain ⟨x5, hx5, h⟩ := of_bind h
    refine call_p false (c_panel_checkKinds hx5) ⟨.same _ trivial, trivial⟩ nofun ?_
    try simp only [go_sem]
    refine cut_l ?_
    try simp only [go_sem]
    refine ways_n (fun c6 => ?_) (fun c6 => ?_)
    ·
      replace h := if_n c6 h
      obtain rfl := Option.some.inj h
      exact wkv_tup ⟨wkv_nilL, .same _ trivial, trivial⟩
    ·
      replace h := if_p c6 h
      obtain ⟨x7, hx7, h⟩ := of_bind h
      refine call_p false (c_panel_cells hx7) ⟨wkE _, trivial⟩ nofun ?_
      try simp only [go_sem]
      refine cut_l ?_
      try simp only [go_sem]
      refine ways_n (fun c8 => ?_) (fun c8 => ?_)
      ·
        replace h := if_n c8 h
        obtain rfl := Option.some.inj h
        exact wkv_tup ⟨wkv_nilL, .same _ trivial, trivial⟩
      ·
        replace h := if_p c8 h
        refine cut_l ?_
        try simp only [go_sem]
        refine ways_d (fun c9 => ?_) (fun c9 => ?_)
        ·
          replace h := if_p c9 h
          obtain rfl := Option.some.inj h
          exact wkv_tup ⟨wkv_nilL, .same _ trivial, trivial⟩
        ·
          replace h := if_n c9 h
          obtain ⟨z10, h10, h⟩ := of_bind h
          refine cut_z z10 (fun (s : Int × List TRect) => [(5, encL 4 encTRect (Prod.fst x7)), (3, AVal.int IntKind.i64 (Prod.fst s)), (2, encL 4 encTRect (Prod.snd s))]) (fun (s : Int × List TRect) => { nx := 1, rows := [] : Heap }) ?_ (fun e10 hz10 => ?_)
          ·
            try simp only [go_sem]
            refine loop_w h10 (fun (s : Int × Int × List TRect) => [(52, AVal.int IntKind.i64 (Prod.fst s)), (51, AVal.int IntKind.i64 (↑(List.length (TPanel.Marks a0)) : Int)), (50, encL 2 encTPoint (TPanel.Marks a0)), (5, encL 4 encTRect (Prod.fst x7)), (3, AVal.int IntKind.i64 (Prod.fst (Prod.snd s))), (2, encL 4 encTRect (Prod.snd (Prod.snd s))), (1, AVal.ptr (0, 0) 7 0 0)]) (fun (s : Int × Int × List TRect) => { nx := 1, rows := [(0, Ent.one { sz := 7, d := encTPanel a0, l := [encTPanel a0] : Row })] : Heap }) ?_ ?_
            ·
              refine wk_of [(0, some 0)] rfl ?_ ?_
              ·
                try simp only [go_sem]
                exact ⟨.same _ trivial, ⟨.same _ trivial, ⟨.same _ trivial, ⟨.same _ trivial, ⟨.same _ trivial, ⟨wkv_nilL, .ptr _ _ _ _ _ (rn_some rfl)⟩⟩⟩⟩⟩⟩
              ·
                try simp only [go_sem]
                exact wkR_box (rn_some rfl) rfl (wkE _)
            intro n11 s11 o11 h11 he11 hi11
            try simp only [go_sem]
            refine cut_l ?_
            try simp only [go_sem]
            refine ways_d (fun c12 => ?_) (fun c12 => ?_)
            ·
              replace h11 := if_p c12 h11
              refine cut_l ?_
              try simp only [go_sem]
              obtain ⟨g13, h11⟩ := of_guard h11
              refine ob ⟨by assumption, by assumption⟩ ?_
              refine cut_l ?_
              try simp only [go_sem]
              obtain ⟨x14, hx14, h11⟩ := of_bind h11
              refine call_p false (c_panel_isOnPanel hx14) ⟨wkE _, wkE _, trivial⟩ nofun ?_
              try simp only [go_sem]
              refine cut_l ?_
              try simp only [go_sem]
              refine ways (fun c15 => ?_) (fun c15 => ?_)
              ·
                replace h11 := if_t c15 h11
                try simp only [Bool.and_eq_true, Bool.or_eq_true, Bool.not_eq_true', Bool.not_eq_false', Bool.and_eq_false_imp, Bool.or_eq_false_iff, decide_eq_true_eq, decide_eq_false_iff_not] at c15
                obtain rfl := Option.some.inj h11
                obtain rfl := he11 _ rfl
                obtain rfl := Option.some.inj h
                exact wkv_tup ⟨wkv_nilL, .same _ trivial, trivial⟩
              ·
                replace h11 := if_f c15 h11
                try simp only [Bool.and_eq_true, Bool.or_eq_true, Bool.not_eq_true', Bool.not_eq_false', Bool.and_eq_false_imp, Bool.or_eq_false_iff, decide_eq_true_eq, decide_eq_false_iff_not] at c15
                obtain ⟨x16, hx16, h11⟩ := of_bind h11
                refine call_p true (c_slices_ContainsFunc_Rect hx16 (by simp only [go_sem]) (fun _ _ h => c_panel_open_1 h)) ⟨.same _ trivial, wkv_fnA rfl ⟨wkv_box rfl (R0_ne _) rfl (by simp only [go_sem]) (wkE _), trivial⟩, trivial⟩ (fun _ => by simp only [go_sem] <;> fail) ?_
                refine cut_l ?_
                try simp only [go_sem]
                refine ways (fun c17 => ?_) (fun c17 => ?_)
                ·
                  replace h11 := if_t c17 h11
                  try simp only [Bool.and_eq_true, Bool.or_eq_true, Bool.not_eq_true', Bool.not_eq_false', Bool.and_eq_false_imp, Bool.or_eq_false_iff, decide_eq_true_eq, decide_eq_false_iff_not] at c17
                  obtain rfl := Option.some.inj h11
                  obtain rfl := he11 _ rfl
                  obtain rfl := Option.some.inj h
                  exact wkv_tup ⟨wkv_nilL, .same _ trivial, trivial⟩
                ·
                  replace h11 := if_f c17 h11
                  try simp only [Bool.and_eq_true, Bool.or_eq_true, Bool.not_eq_true', Bool.not_eq_false', Bool.and_eq_false_imp, Bool.or_eq_false_iff, decide_eq_true_eq, decide_eq_false_iff_not] at c17
                  refine ob ⟨by assumption, by omega⟩ ?_
                  obtain ⟨x18, hx18, h11⟩ := of_bind h11
                  refine qcall_p false (fun _ => c_slices_Contains_Point hx18) (fun _ => ⟨.same _ trivial, wkE _, trivial⟩) nofun ?_
                  refine cut_l ?_
                  try simp only [go_sem]
                  refine ways (fun c19 => ?_) (fun c19 => ?_)
                  ·
                    replace h11 := if_t c19 h11
                    try simp only [Bool.and_eq_true, Bool.or_eq_true, Bool.not_eq_true', Bool.not_eq_false', Bool.and_eq_false_imp, Bool.or_eq_false_iff, decide_eq_true_eq, decide_eq_false_iff_not] at c19
                    obtain rfl := Option.some.inj h11
                    obtain rfl := he11 _ rfl
                    obtain rfl := Option.some.inj h
                    exact wkv_tup ⟨wkv_nilL, .same _ trivial, trivial⟩
                  ·
                    replace h11 := if_f c19 h11
                    try simp only [Bool.and_eq_true, Bool.or_eq_true, Bool.not_eq_true', Bool.not_eq_false', Bool.and_eq_false_imp, Bool.or_eq_false_iff, decide_eq_true_eq, decide_eq_false_iff_not] at c19
                    simp only [W64 (n := Prod.fst s11 + 1) (by omega) (by omega)]
                    obtain rfl := Option.some.inj h11
                    refine nextL (hi11 _ rfl) ?_
                    refine wk_of [(0, some 0)] rfl ?_ ?_
                    ·
                      try simp only [go_sem]
                      exact ⟨.same _ trivial, ⟨.same _ trivial, ⟨.same _ trivial, ⟨.same _ trivial, ⟨.same _ trivial, ⟨.same _ trivial, .ptr _ _ _ _ _ (rn_some rfl)⟩⟩⟩⟩⟩⟩
                    ·
                      try simp only [go_sem]
                      exact wkR_box (rn_some rfl) rfl (wkE _)
            ·
              replace h11 := if_n c12 h11
              obtain rfl := Option.some.inj h11
              obtain rfl := he11 _ rfl
              refine zend ?_
              refine wk_of [] rfl ?_ ?_
              ·
                try simp only [go_sem]
                exact ⟨.same _ trivial, ⟨.same _ trivial, .same _ trivial⟩⟩
              ·
                try simp only [go_sem]
          subst hz10
          simp only [Sum.elim_inr] at h
          try simp only [go_sem]
          obtain rfl := Option.some.inj h
          exact wkv_same (by simp only [go_sem]) rfl
theorem c_panel_turns {a0 : (List TPoint)} {a1 : (List TPoint)} {r : (List TTurn)} (h : p_panel_turns a0 a1 = some r)  : PCalls Try.prog 69 [encL 2 encTPoint a0, encL 2 encTPoint a1] (encL 4 encTTurn r) := by
  unfold p_panel_turns at h
  refine pcalls_of (fun _ => none) (fun _ => []) Try.func69 (by unfold Try.f69; rfl) (by kernel_rfl) (by kernel_rfl) ?_
  simp only [awp_seq]
  simp only [argSlots]
  dsimp only [Try.f69]
  try simp only [go_sem]
  obtain ⟨e0, h0, h⟩ := of_bind h
  refine cut_j ([(5, encL 4 encTTurn e0), (4, AVal.nilsl)]) ({ nx := 0, rows := [] : Heap }) ?_ ?_
  ·
    try simp only [go_sem]
    refine loop_w h0 (fun (s : Int × List TTurn) => [(12, AVal.int IntKind.i64 (Prod.fst s)), (5, AVal.sref (0, 0) 0 4 (List.length (Prod.snd s))), (4, AVal.nilsl), (0, encL 2 encTPoint a0), (1, encL 2 encTPoint a1)]) (fun (s : Int × List TTurn) => { nx := 1, rows := [(0, Ent.one { sz := 4, d := encTTurn default, l := List.map encTTurn (Prod.snd s) : Row })] : Heap }) ?_ ?_
    ·
      refine wk_of [(0, none)] rfl ?_ ?_
      ·
        try simp only [go_sem]
        exact ⟨.same _ trivial, ⟨wkv_nil (rn_none rfl) rfl, ⟨.same _ trivial, ⟨.same _ trivial, .same _ trivial⟩⟩⟩⟩
      ·
        try simp only [go_sem]
        exact wkR_nilT (rn_none rfl)
    intro n1 s1 o1 h1 he1 hi1
    try simp only [go_sem]
    refine cut_l ?_
    try simp only [go_sem]
    refine ways_d (fun c2 => ?_) (fun c2 => ?_)
    ·
      replace h1 := if_p c2 h1
      obtain ⟨e3, h3, h1⟩ := of_bind h1
      refine cut_j ([(12, AVal.int IntKind.i64 (Prod.fst s1)), (5, AVal.sref (0, 0) 0 4 (List.length e3)), (4, AVal.nilsl), (0, encL 2 encTPoint a0), (1, encL 2 encTPoint a1)]) ({ nx := 1, rows := [(0, Ent.one { sz := 4, d := encTTurn default, l := List.map encTTurn e3 : Row })] : Heap }) ?_ ?_
      ·
        try simp only [go_sem]
        obtain ⟨e4, h4, h3⟩ := of_bind h3
        refine cut_j ([(7, AVal.sref (1, 0) 0 4 (List.length e4)), (12, AVal.int IntKind.i64 (Prod.fst s1)), (5, AVal.sref (0, 0) 0 4 (List.length (Prod.snd s1))), (4, AVal.nilsl), (0, encL 2 encTPoint a0), (1, encL 2 encTPoint a1)]) ({ nx := 2, rows := [(1, Ent.one { sz := 4, d := encTTurn default, l := List.map encTTurn e4 : Row }), (0, Ent.one { sz := 4, d := encTTurn default, l := List.map encTTurn (Prod.snd s1) : Row })] : Heap }) ?_ ?_
        ·
          try simp only [go_sem]
          refine loop_w h4 (fun (s : Int × List TTurn) => [(17, AVal.int IntKind.i64 (Prod.fst s)), (16, AVal.int IntKind.i64 (↑(List.length a1) : Int)), (15, encL 2 encTPoint a1), (7, AVal.sref (1, 0) 0 4 (List.length (Prod.snd s))), (6, AVal.int IntKind.i64 (Prod.fst s1)), (12, AVal.int IntKind.i64 (Prod.fst s1)), (5, AVal.sref (0, 0) 0 4 (List.length (Prod.snd s1))), (4, AVal.nilsl), (0, encL 2 encTPoint a0), (1, encL 2 encTPoint a1)]) (fun (s : Int × List TTurn) => { nx := 2, rows := [(1, Ent.one { sz := 4, d := encTTurn default, l := List.map encTTurn (Prod.snd s) : Row }), (0, Ent.one { sz := 4, d := encTTurn default, l := List.map encTTurn (Prod.snd s1) : Row })] : Heap }) ?_ ?_
          ·
            refine wk_of [(1, none), (0, some 0)] rfl ?_ ?_
            ·
              try simp only [go_sem]
              exact ⟨.same _ trivial, ⟨.same _ trivial, ⟨.same _ trivial, ⟨wkv_nil (rn_none rfl) rfl, ⟨.same _ trivial, ⟨.same _ trivial, ⟨wkv_sref (rn_some rfl) rfl, ⟨.same _ trivial, ⟨.same _ trivial, .same _ trivial⟩⟩⟩⟩⟩⟩⟩⟩⟩
            ·
              try simp only [go_sem]
              exact ⟨wkR_nilT (rn_none rfl), wkR_typed (rn_some rfl) rfl rfl⟩
          intro n5 s5 o5 h5 he5 hi5
          try simp only [go_sem]
          refine cut_l ?_
          try simp only [go_sem]
          refine ways_d (fun c6 => ?_) (fun c6 => ?_)
          ·
            replace h5 := if_p c6 h5
            obtain ⟨e7, h7, h5⟩ := of_bind h5
            refine cut_j ([(17, AVal.int IntKind.i64 (Prod.fst s5)), (16, AVal.int IntKind.i64 (↑(List.length a1) : Int)), (15, encL 2 encTPoint a1), (7, AVal.sref (1, 0) 0 4 (List.length e7)), (6, AVal.int IntKind.i64 (Prod.fst s1)), (12, AVal.int IntKind.i64 (Prod.fst s1)), (5, AVal.sref (0, 0) 0 4 (List.length (Prod.snd s1))), (4, AVal.nilsl), (0, encL 2 encTPoint a0), (1, encL 2 encTPoint a1)]) ({ nx := 2, rows := [(1, Ent.one { sz := 4, d := encTTurn default, l := List.map encTTurn e7 : Row }), (0, Ent.one { sz := 4, d := encTTurn default, l := List.map encTTurn (Prod.snd s1) : Row })] : Heap }) ?_ ?_
            ·
              try simp only [go_sem]
              obtain ⟨g8, h7⟩ := of_guard h7
              refine ob ⟨by assumption, by assumption⟩ ?_
              obtain ⟨g9, h7⟩ := of_guard h7
              refine ob ⟨by omega, by assumption⟩ ?_
              obtain ⟨x10, hx10, h7⟩ := of_bind h7
              refine qcall_p false (fun _ => c_shape_TurnPoint hx10) (fun _ => ⟨wkE _, wkE _, trivial⟩) nofun ?_
              try simp only [go_sem]
              obtain ⟨⟨g11_0, g11_1⟩, h7⟩ := of_guard h7
              simp only [W64 g11_0 g11_1]
              obtain ⟨⟨g12_0, g12_1⟩, h7⟩ := of_guard h7
              simp only [W64 g12_0 g12_1]
              obtain ⟨x13, hx13, h7⟩ := of_bind h7
              refine call_p false (c_panel_takes hx13) ⟨wkE _, .same _ trivial, .same _ trivial, trivial⟩ nofun ?_
              refine cut_l ?_
              try simp only [go_sem]
              refine ways (fun c14 => ?_) (fun c14 => ?_)
              ·
                replace h7 := if_t c14 h7
                try simp only [Bool.and_eq_true, Bool.or_eq_true, Bool.not_eq_true', Bool.not_eq_false', Bool.and_eq_false_imp, Bool.or_eq_false_iff, decide_eq_true_eq, decide_eq_false_iff_not] at c14
                obtain ⟨g15, h7⟩ := of_guard h7
                refine ob ⟨by omega, by assumption⟩ ?_
                obtain rfl := Option.some.inj h7
                refine wk_of [(1, some 10008), (0, some 0)] rfl ?_ ?_
                ·
                  try simp only [go_sem]
                  exact ⟨.same _ trivial, ⟨.same _ trivial, ⟨.same _ trivial, ⟨wkv_sref (rn_some rfl) rfl, ⟨.same _ trivial, ⟨.same _ trivial, ⟨wkv_sref (rn_some rfl) rfl, ⟨.same _ trivial, ⟨.same _ trivial, .same _ trivial⟩⟩⟩⟩⟩⟩⟩⟩⟩
                ·
                  try simp only [go_sem]
                  exact ⟨wkR_typed (rn_some rfl) rfl rfl, wkR_typed (rn_some rfl) rfl rfl⟩
              ·
                replace h7 := if_f c14 h7
                try simp only [Bool.and_eq_true, Bool.or_eq_true, Bool.not_eq_true', Bool.not_eq_false', Bool.and_eq_false_imp, Bool.or_eq_false_iff, decide_eq_true_eq, decide_eq_false_iff_not] at c14
                obtain rfl := Option.some.inj h7
                refine wk_of [(1, some 1), (0, some 0)] rfl ?_ ?_
                ·
                  try simp only [go_sem]
                  exact ⟨.same _ trivial, ⟨.same _ trivial, ⟨.same _ trivial, ⟨wkv_sref (rn_some rfl) rfl, ⟨.same _ trivial, ⟨.same _ trivial, ⟨wkv_sref (rn_some rfl) rfl, ⟨.same _ trivial, ⟨.same _ trivial, .same _ trivial⟩⟩⟩⟩⟩⟩⟩⟩⟩
                ·
                  try simp only [go_sem]
                  exact ⟨wkR_typed (rn_some rfl) rfl rfl, wkR_typed (rn_some rfl) rfl rfl⟩
            try simp only [go_sem]
            obtain ⟨⟨g16_0, g16_1⟩, h5⟩ := of_guard h5
            simp only [W64 g16_0 g16_1]
            obtain rfl := Option.some.inj h5
            refine nextL (hi5 _ rfl) ?_
            refine wk_of [(1, some 1), (0, some 0)] rfl ?_ ?_
            ·
              try simp only [go_sem]
              exact ⟨.same _ trivial, ⟨.same _ trivial, ⟨.same _ trivial, ⟨wkv_sref (rn_some rfl) rfl, ⟨.same _ trivial, ⟨.same _ trivial, ⟨wkv_sref (rn_some rfl) rfl, ⟨.same _ trivial, ⟨.same _ trivial, .same _ trivial⟩⟩⟩⟩⟩⟩⟩⟩⟩
            ·
              try simp only [go_sem]
              exact ⟨wkR_typed (rn_some rfl) rfl rfl, wkR_typed (rn_some rfl) rfl rfl⟩
          ·
            replace h5 := if_n c6 h5
            obtain rfl := Option.some.inj h5
            obtain rfl := he5 _ rfl
            refine wk_of [(1, some 1), (0, some 0)] rfl ?_ ?_
            ·
              try simp only [go_sem]
              exact ⟨wkv_sref (rn_some rfl) rfl, ⟨.same _ trivial, ⟨wkv_sref (rn_some rfl) rfl, ⟨.same _ trivial, ⟨.same _ trivial, .same _ trivial⟩⟩⟩⟩⟩
            ·
              try simp only [go_sem]
              exact ⟨wkR_typed (rn_some rfl) rfl rfl, wkR_typed (rn_some rfl) rfl rfl⟩
        try simp only [go_sem]
        obtain ⟨x17, hx17, h3⟩ := of_bind h3
        refine call_r false [1] (c_slices_SortFunc_Turn_o hx17 (by simp only [go_sem]) (fun _ _ _ h => c_panel_turns_1 h)) ⟨wkv_sref rfl rfl, wkv_same (by simp only [go_sem]) rfl, trivial⟩ (wkH_rho (by decide) rfl ⟨⟨by decide, wkR_typed rfl rfl rfl⟩, trivial⟩) rfl (by simp) (by simp) nofun ?_
        try simp only [go_sem]
        obtain ⟨⟨g18_0, g18_1⟩, h3⟩ := of_guard h3
        refine ob ⟨⟨by assumption, by omega⟩, by assumption⟩ ?_
        obtain rfl := Option.some.inj h3
        refine wk_of [(0, some 2)] rfl ?_ ?_
        ·
          try simp only [go_sem]
          exact ⟨.same _ trivial, ⟨wkv_sref (rn_some rfl) rfl, ⟨.same _ trivial, ⟨.same _ trivial, .same _ trivial⟩⟩⟩⟩
        ·
          try simp only [go_sem]
          exact wkR_typed (rn_some rfl) rfl rfl
      try simp only [go_sem]
      obtain ⟨⟨g19_0, g19_1⟩, h1⟩ := of_guard h1
      simp only [W64 g19_0 g19_1]
      obtain rfl := Option.some.inj h1
      refine nextL (hi1 _ rfl) ?_
      refine wk_of [(0, some 0)] rfl ?_ ?_
      ·
        try simp only [go_sem]
        exact ⟨.same _ trivial, ⟨wkv_sref (rn_some rfl) rfl, ⟨.same _ trivial, ⟨.same _ trivial, .same _ trivial⟩⟩⟩⟩
      ·
        try simp only [go_sem]
        exact wkR_typed (rn_some rfl) rfl rfl
    ·
      replace h1 := if_n c2 h1
      obtain rfl := Option.some.inj h1
      obtain rfl := he1 _ rfl
      refine wk_of [] rfl ?_ ?_
      ·
        try simp only [go_sem]
        exact ⟨wkv_own rfl (rn_notTo rfl) rfl, .same _ trivial⟩
      ·
        try simp only [go_sem]
  try simp only [go_sem]
  obtain rfl := Option.some.inj h
  exact .same _ trivial
theorem c_ref9_GoodMarks {a0 : TPanel} {r : Bool × Int} (h : p_ref9_GoodMarks a0 = some r)  : PCalls Try.prog 34 [encTPanel a0] (tup [.bool r.1, .int .i64 r.2]) := by
  unfold p_ref9_GoodMarks at h
  refine pcalls_of (fun _ => none) (fun _ => []) Try.func34 (by unfold Try.f34; rfl) (by kernel_rfl) (by kernel_rfl) ?_
  simp only [awp_seq]
  simp only [argSlots]
  dsimp only [Try.f34]
  try simp only [go_sem]
  obtain ⟨x0, hx0, h⟩ := of_bind h
  refine call_p false (c_ref9_CheckPanel hx0) ⟨wkE _, trivial⟩ nofun ?_
  try simp only [go_sem]
  refine cut_l ?_
  try simp only [go_sem]
  refine ways_n (fun c1 => ?_) (fun c1 => ?_)
  ·
    replace h := if_n c1 h
    obtain rfl := Option.some.inj h
    exact wkv_same (by simp only [go_sem]) rfl
  ·
    replace h := if_p c1 h
    obtain ⟨x2, hx2, h⟩ := of_bind h
    refine qcall_p false (fun hg => c_ref9_turns (if_t hg hx2)) (fun _ => ⟨.same _ trivial, .same _ trivial, trivial⟩) nofun ?_
    try simp only [go_sem]
    obtain rfl := Option.some.inj h
    exact wkv_same (by simp only [go_sem]) rfl
theorem c_ref9_Lie {a0 : TPanel} {a1 : (List TPoint)} {r : TTurn × Bool × Int} (h : p_ref9_Lie a0 a1 = some r)  : PCalls Try.prog 36 [encTPanel a0, encL 2 encTPoint a1] (tup [encTTurn r.1, .bool r.2.1, .int .i64 r.2.2]) := by
  unfold p_ref9_Lie at h
  refine pcalls_of (ordOf [(14, [0, 1, 2, 4, 5, 6, 3, 7, 8])]) (fun _ => []) Try.func36 (by unfold Try.f36; rfl) (by kernel_rfl) (by kernel_rfl) ?_
  simp only [awp_seq]
  simp only [argSlots]
  dsimp only [Try.f36]
  try simp only [go_sem]
  obtain ⟨x0, hx0, h⟩ := of_bind h
  refine call_p false (c_ref9_CheckPanel hx0) ⟨wkE _, trivial⟩ nofun ?_
  try simp only [go_sem]
  refine cut_l ?_
  try simp only [go_sem]
  refine ways_n (fun c1 => ?_) (fun c1 => ?_)
  ·
    replace h := if_n c1 h
    obtain rfl := Option.some.inj h
    exact wkv_same (by simp only [go_sem]) rfl
  ·
    replace h := if_p c1 h
    refine cut_l ?_
    try simp only [go_sem]
    refine ways_d (fun c2 => ?_) (fun c2 => ?_)
    ·
      replace h := if_p c2 h
      obtain rfl := Option.some.inj h
      exact wkv_same (by simp only [go_sem]) rfl
    ·
      replace h := if_n c2 h
      obtain ⟨z3, h3, h⟩ := of_bind h
      refine cut_z z3 (fun (s : Int × Bool × TTurn) => [(6, AVal.int IntKind.i64 (Prod.fst s)), (5, AVal.bool (Prod.fst (Prod.snd s))), (4, AVal.ptr (1, 0) 4 0 0), (2, AVal.ptr (0, 0) 7 0 0), (1, encL 2 encTPoint a1)]) (fun (s : Int × Bool × TTurn) => { nx := 2, rows := [(1, Ent.one { sz := 4, d := encTTurn { : TTurn }, l := [encTTurn (Prod.snd (Prod.snd s))] : Row }), (0, Ent.one { sz := 7, d := encTPanel a0, l := [encTPanel a0] : Row })] : Heap }) ?_ (fun e3 hz3 => ?_)
      ·
        try simp only [go_sem]
        refine loop_w h3 (fun (s : Int × Int × Bool × TTurn) => [(8, AVal.int IntKind.i64 (Prod.fst s)), (6, AVal.int IntKind.i64 (Prod.fst (Prod.snd s))), (5, AVal.bool (Prod.fst (Prod.snd (Prod.snd s)))), (4, AVal.ptr (1, 0) 4 0 0), (2, AVal.ptr (0, 0) 7 0 0), (1, encL 2 encTPoint a1)]) (fun (s : Int × Int × Bool × TTurn) => { nx := 2, rows := [(1, Ent.one { sz := 4, d := encTTurn { : TTurn }, l := [encTTurn (Prod.snd (Prod.snd (Prod.snd s)))] : Row }), (0, Ent.one { sz := 7, d := encTPanel a0, l := [encTPanel a0] : Row })] : Heap }) ?_ ?_
        ·
          refine wk_of [(1, some 1), (0, some 0)] rfl ?_ ?_
          ·
            try simp only [go_sem]
            exact ⟨.same _ trivial, ⟨.same _ trivial, ⟨.same _ trivial, ⟨.ptr _ _ _ _ _ (rn_some rfl), ⟨.ptr _ _ _ _ _ (rn_some rfl), .same _ trivial⟩⟩⟩⟩⟩
          ·
            try simp only [go_sem]
            exact ⟨wkR_box (rn_some rfl) rfl (wkE _), wkR_box (rn_some rfl) rfl (wkE _)⟩
        intro n4 s4 o4 h4 he4 hi4
        try simp only [go_sem]
        refine cut_l ?_
        try simp only [go_sem]
        refine ways_d (fun c5 => ?_) (fun c5 => ?_)
        ·
          replace h4 := if_p c5 h4
          obtain ⟨z6, h6, h4⟩ := of_bind h4
          refine cut_z z6 (fun (s : Int × Bool × TTurn) => [(8, AVal.int IntKind.i64 (Prod.fst s4)), (6, AVal.int IntKind.i64 (Prod.fst s)), (5, AVal.bool (Prod.fst (Prod.snd s))), (4, AVal.ptr (1, 0) 4 0 0), (2, AVal.ptr (0, 0) 7 0 0), (1, encL 2 encTPoint a1)]) (fun (s : Int × Bool × TTurn) => { nx := 2, rows := [(1, Ent.one { sz := 4, d := encTTurn { : TTurn }, l := [encTTurn (Prod.snd (Prod.snd s))] : Row }), (0, Ent.one { sz := 7, d := encTPanel a0, l := [encTPanel a0] : Row })] : Heap }) ?_ (fun e6 hz6 => ?_)
          ·
            try simp only [go_sem]
            obtain ⟨g7, h6⟩ := of_guard h6
            refine ob ⟨by assumption, by assumption⟩ ?_
            obtain ⟨x8, hx8, h6⟩ := of_bind h6
            refine call_p false (c_ref1_IsPoint hx8) ⟨wkE _, trivial⟩ nofun ?_
            try simp only [go_sem]
            refine cut_l ?_
            try simp only [go_sem]
            refine ways (fun c9 => ?_) (fun c9 => ?_)
            ·
              replace h6 := if_t c9 h6
              try simp only [Bool.and_eq_true, Bool.or_eq_true, Bool.not_eq_true', Bool.not_eq_false', Bool.and_eq_false_imp, Bool.or_eq_false_iff, decide_eq_true_eq, decide_eq_false_iff_not] at c9
              obtain rfl := Option.some.inj h6
              obtain rfl := Option.some.inj h4
              obtain rfl := he4 _ rfl
              obtain rfl := Option.some.inj h
              exact wkv_same (by simp only [go_sem]) rfl
            ·
              replace h6 := if_f c9 h6
              try simp only [Bool.and_eq_true, Bool.or_eq_true, Bool.not_eq_true', Bool.not_eq_false', Bool.and_eq_false_imp, Bool.or_eq_false_iff, decide_eq_true_eq, decide_eq_false_iff_not] at c9
              refine cut_l ?_
              try simp only [go_sem]
              refine loop_w h6 (fun (s : Int × Int × Bool × TTurn) => [(9, AVal.int IntKind.i64 (Prod.fst s)), (8, AVal.int IntKind.i64 (Prod.fst s4)), (6, AVal.int IntKind.i64 (Prod.fst (Prod.snd s))), (5, AVal.bool (Prod.fst (Prod.snd (Prod.snd s)))), (4, AVal.ptr (1, 0) 4 0 0), (2, AVal.ptr (0, 0) 7 0 0), (1, encL 2 encTPoint a1)]) (fun (s : Int × Int × Bool × TTurn) => { nx := 2, rows := [(1, Ent.one { sz := 4, d := encTTurn { : TTurn }, l := [encTTurn (Prod.snd (Prod.snd (Prod.snd s)))] : Row }), (0, Ent.one { sz := 7, d := encTPanel a0, l := [encTPanel a0] : Row })] : Heap }) ?_ ?_
              ·
                refine wk_of [(1, some 1), (0, some 0)] rfl ?_ ?_
                ·
                  try simp only [go_sem]
                  exact ⟨.same _ trivial, ⟨.same _ trivial, ⟨.same _ trivial, ⟨.same _ trivial, ⟨.ptr _ _ _ _ _ (rn_some rfl), ⟨.ptr _ _ _ _ _ (rn_some rfl), .same _ trivial⟩⟩⟩⟩⟩⟩
                ·
                  try simp only [go_sem]
                  exact ⟨wkR_box (rn_some rfl) rfl (wkE _), wkR_box (rn_some rfl) rfl (wkE _)⟩
              intro n10 s10 o10 h10 he10 hi10
              try simp only [go_sem]
              refine cut_l ?_
              try simp only [go_sem]
              refine ways_d (fun c11 => ?_) (fun c11 => ?_)
              ·
                replace h10 := if_p c11 h10
                refine cut_l ?_
                try simp only [go_sem]
                obtain ⟨g12, h10⟩ := of_guard h10
                refine ob ⟨⟨by assumption, by omega⟩, ⟨by assumption, by assumption⟩⟩ ?_
                refine cut_l ?_
                try simp only [go_sem]
                refine ways_d (fun c13 => ?_) (fun c13 => ?_)
                ·
                  replace h10 := if_p c13 h10
                  obtain rfl := Option.some.inj h10
                  obtain rfl := he10 _ rfl
                  obtain rfl := Option.some.inj h4
                  obtain rfl := he4 _ rfl
                  obtain rfl := Option.some.inj h
                  exact wkv_same (by simp only [go_sem]) rfl
                ·
                  replace h10 := if_n c13 h10
                  simp only [W64 (n := Prod.fst s10 + 1) (by omega) (by omega)]
                  obtain rfl := Option.some.inj h10
                  refine nextL (hi10 _ rfl) ?_
                  refine wk_of [(1, some 1), (0, some 0)] rfl ?_ ?_
                  ·
                    try simp only [go_sem]
                    exact ⟨.same _ trivial, ⟨.same _ trivial, ⟨.same _ trivial, ⟨.same _ trivial, ⟨.ptr _ _ _ _ _ (rn_some rfl), ⟨.ptr _ _ _ _ _ (rn_some rfl), .same _ trivial⟩⟩⟩⟩⟩⟩
                  ·
                    try simp only [go_sem]
                    exact ⟨wkR_box (rn_some rfl) rfl (wkE _), wkR_box (rn_some rfl) rfl (wkE _)⟩
              ·
                replace h10 := if_n c11 h10
                obtain rfl := Option.some.inj h10
                obtain rfl := he10 _ rfl
                refine zend ?_
                refine wk_of [(1, some 1), (0, some 0)] rfl ?_ ?_
                ·
                  try simp only [go_sem]
                  exact ⟨.same _ trivial, ⟨.same _ trivial, ⟨.same _ trivial, ⟨.ptr _ _ _ _ _ (rn_some rfl), ⟨.ptr _ _ _ _ _ (rn_some rfl), .same _ trivial⟩⟩⟩⟩⟩
                ·
                  try simp only [go_sem]
                  exact ⟨wkR_box (rn_some rfl) rfl (wkE _), wkR_box (rn_some rfl) rfl (wkE _)⟩
          subst hz6
          simp only [Sum.elim_inr] at h4
          try simp only [go_sem]
          obtain ⟨⟨g14_0, g14_1⟩, h4⟩ := of_guard h4
          simp only [W64 g14_0 g14_1]
          obtain rfl := Option.some.inj h4
          refine nextL (hi4 _ rfl) ?_
          refine wk_of [(1, some 1), (0, some 0)] rfl ?_ ?_
          ·
            try simp only [go_sem]
            exact ⟨.same _ trivial, ⟨.same _ trivial, ⟨.same _ trivial, ⟨.ptr _ _ _ _ _ (rn_some rfl), ⟨.ptr _ _ _ _ _ (rn_some rfl), .same _ trivial⟩⟩⟩⟩⟩
          ·
            try simp only [go_sem]
            exact ⟨wkR_box (rn_some rfl) rfl (wkE _), wkR_box (rn_some rfl) rfl (wkE _)⟩
        ·
          replace h4 := if_n c5 h4
          obtain rfl := Option.some.inj h4
          obtain rfl := he4 _ rfl
          refine zend ?_
          refine wk_of [(1, some 1), (0, some 0)] rfl ?_ ?_
          ·
            try simp only [go_sem]
            exact ⟨.same _ trivial, ⟨.same _ trivial, ⟨.ptr _ _ _ _ _ (rn_some rfl), ⟨.ptr _ _ _ _ _ (rn_some rfl), .same _ trivial⟩⟩⟩⟩
          ·
            try simp only [go_sem]
            exact ⟨wkR_box (rn_some rfl) rfl (wkE _), wkR_box (rn_some rfl) rfl (wkE _)⟩
      subst hz3
      simp only [Sum.elim_inr] at h
      try simp only [go_sem]
      obtain ⟨x15, hx15, h⟩ := of_bind h
      refine call_p false (c_ref9_turns hx15) ⟨.same _ trivial, .same _ trivial, trivial⟩ nofun ?_
      try simp only [go_sem]
      refine cut_l ?_
      try simp only [go_sem]
      refine ways_d (fun c16 => ?_) (fun c16 => ?_)
      ·
        replace h := if_p c16 h
        obtain rfl := Option.some.inj h
        exact wkv_same (by simp only [go_sem]) rfl
      ·
        replace h := if_n c16 h
        refine ob ⟨by omega, by omega⟩ ?_
        obtain ⟨e17, h17, h⟩ := of_bind h
        refine cut_j ([(11, AVal.ptr (2, 0) 4 0 0), (6, AVal.int IntKind.i64 (Prod.fst e3)), (5, AVal.bool (Prod.fst (Prod.snd e3))), (4, AVal.ptr (1, 0) 4 0 0)]) ({ nx := 4, rows := [(2, Ent.one { sz := 4, d := encTTurn { : TTurn }, l := [encTTurn e17] : Row }), (1, Ent.one { sz := 4, d := encTTurn { : TTurn }, l := [encTTurn (Prod.snd (Prod.snd e3))] : Row })] : Heap }) ?_ ?_
        ·
          try simp only [go_sem]
          refine loop_w h17 (fun (s : Int × TTurn) => [(12, AVal.int IntKind.i64 (Prod.fst s)), (11, AVal.ptr (2, 0) 4 0 0), (10, encL 4 encTTurn x15), (6, AVal.int IntKind.i64 (Prod.fst e3)), (5, AVal.bool (Prod.fst (Prod.snd e3))), (4, AVal.ptr (1, 0) 4 0 0)]) (fun (s : Int × TTurn) => { nx := 4, rows := [(2, Ent.one { sz := 4, d := encTTurn { : TTurn }, l := [encTTurn (Prod.snd s)] : Row }), (1, Ent.one { sz := 4, d := encTTurn { : TTurn }, l := [encTTurn (Prod.snd (Prod.snd e3))] : Row })] : Heap }) ?_ ?_
          ·
            refine wk_of [(2, some 2), (1, some 1)] rfl ?_ ?_
            ·
              try simp only [go_sem]
              exact ⟨.same _ trivial, ⟨.ptr _ _ _ _ _ (rn_some rfl), ⟨.same _ trivial, ⟨.same _ trivial, ⟨.same _ trivial, .ptr _ _ _ _ _ (rn_some rfl)⟩⟩⟩⟩⟩
            ·
              try simp only [go_sem]
              exact ⟨wkR_box (rn_some rfl) rfl (wkE _), wkR_box (rn_some rfl) rfl (wkE _)⟩
          intro n18 s18 o18 h18 he18 hi18
          try simp only [go_sem]
          refine cut_l ?_
          try simp only [go_sem]
          refine ways_d (fun c19 => ?_) (fun c19 => ?_)
          ·
            replace h18 := if_p c19 h18
            obtain ⟨e20, h20, h18⟩ := of_bind h18
            refine cut_j ([(12, AVal.int IntKind.i64 (Prod.fst s18)), (11, AVal.ptr (2, 0) 4 0 0), (10, encL 4 encTTurn x15), (6, AVal.int IntKind.i64 (Prod.fst e3)), (5, AVal.bool (Prod.fst (Prod.snd e3))), (4, AVal.ptr (1, 0) 4 0 0)]) ({ nx := 4, rows := [(2, Ent.one { sz := 4, d := encTTurn { : TTurn }, l := [encTTurn e20] : Row }), (1, Ent.one { sz := 4, d := encTTurn { : TTurn }, l := [encTTurn (Prod.snd (Prod.snd e3))] : Row })] : Heap }) ?_ ?_
            ·
              try simp only [go_sem]
              obtain ⟨g21, h20⟩ := of_guard h20
              refine ob ⟨by assumption, by assumption⟩ ?_
              refine ob ⟨by intro h1 h2; simp only [h1, h2, Bool.and_self, Bool.not_true, Bool.not_false, Bool.and_true, Bool.true_and], by intro h1 h2; simp only [h1, h2, Bool.and_self, Bool.not_true, Bool.not_false, Bool.and_true, Bool.true_and]⟩ ?_
              refine cut_l ?_
              try simp only [go_sem]
              refine ways (fun c22 => ?_) (fun c22 => ?_)
              ·
                replace h20 := if_t c22 h20
                try simp only [Bool.and_eq_true, Bool.or_eq_true, Bool.not_eq_true', Bool.not_eq_false', Bool.and_eq_false_imp, Bool.or_eq_false_iff, decide_eq_true_eq, decide_eq_false_iff_not] at c22
                obtain rfl := Option.some.inj h20
                refine wk_of [(2, some 2), (1, some 1)] rfl ?_ ?_
                ·
                  try simp only [go_sem]
                  exact ⟨.same _ trivial, ⟨.ptr _ _ _ _ _ (rn_some rfl), ⟨.same _ trivial, ⟨.same _ trivial, ⟨.same _ trivial, .ptr _ _ _ _ _ (rn_some rfl)⟩⟩⟩⟩⟩
                ·
                  try simp only [go_sem]
                  exact ⟨wkR_box (rn_some rfl) rfl (wkE _), wkR_box (rn_some rfl) rfl (wkE _)⟩
              ·
                replace h20 := if_f c22 h20
                try simp only [Bool.and_eq_true, Bool.or_eq_true, Bool.not_eq_true', Bool.not_eq_false', Bool.and_eq_false_imp, Bool.or_eq_false_iff, decide_eq_true_eq, decide_eq_false_iff_not] at c22
                obtain rfl := Option.some.inj h20
                refine wk_of [(2, some 2), (1, some 1)] rfl ?_ ?_
                ·
                  try simp only [go_sem]
                  exact ⟨.same _ trivial, ⟨.ptr _ _ _ _ _ (rn_some rfl), ⟨.same _ trivial, ⟨.same _ trivial, ⟨.same _ trivial, .ptr _ _ _ _ _ (rn_some rfl)⟩⟩⟩⟩⟩
                ·
                  try simp only [go_sem]
                  exact ⟨wkR_box (rn_some rfl) rfl (wkE _), wkR_box (rn_some rfl) rfl (wkE _)⟩
            try simp only [go_sem]
            obtain ⟨⟨g23_0, g23_1⟩, h18⟩ := of_guard h18
            simp only [W64 g23_0 g23_1]
            obtain rfl := Option.some.inj h18
            refine nextL (hi18 _ rfl) ?_
            refine wk_of [(2, some 2), (1, some 1)] rfl ?_ ?_
            ·
              try simp only [go_sem]
              exact ⟨.same _ trivial, ⟨.ptr _ _ _ _ _ (rn_some rfl), ⟨.same _ trivial, ⟨.same _ trivial, ⟨.same _ trivial, .ptr _ _ _ _ _ (rn_some rfl)⟩⟩⟩⟩⟩
            ·
              try simp only [go_sem]
              exact ⟨wkR_box (rn_some rfl) rfl (wkE _), wkR_box (rn_some rfl) rfl (wkE _)⟩
          ·
            replace h18 := if_n c19 h18
            obtain rfl := Option.some.inj h18
            obtain rfl := he18 _ rfl
            refine wk_of [(2, some 2), (1, some 1)] rfl ?_ ?_
            ·
              try simp only [go_sem]
              exact ⟨.ptr _ _ _ _ _ (rn_some rfl), ⟨.same _ trivial, ⟨.same _ trivial, .ptr _ _ _ _ _ (rn_some rfl)⟩⟩⟩
            ·
              try simp only [go_sem]
              exact ⟨wkR_box (rn_some rfl) rfl (wkE _), wkR_box (rn_some rfl) rfl (wkE _)⟩
        try simp only [go_sem]
        obtain ⟨x24, hx24, h⟩ := of_bind h
        refine call_p false (c_ref1_CheckTurn hx24) ⟨wkE _, trivial⟩ nofun ?_
        try simp only [go_sem]
        refine cut_l ?_
        try simp only [go_sem]
        refine ways_n (fun c25 => ?_) (fun c25 => ?_)
        ·
          replace h := if_n c25 h
          obtain rfl := Option.some.inj h
          exact wkv_same (by simp only [go_sem]) rfl
        ·
          replace h := if_p c25 h
          obtain rfl := Option.some.inj h
          exact wkv_same (by simp only [go_sem]) rfl
theorem c_panel_CheckPanel {a0 : TPanel} {r : Int} (h : p_panel_CheckPanel a0 = some r)  : PCalls Try.prog 32 [encTPanel a0] (.int .i64 r) := by
  unfold p_panel_CheckPanel at h
  refine pcalls_of (fun _ => none) (fun _ => []) Try.func32 (by unfold Try.f32; rfl) (by kernel_rfl) (by kernel_rfl) ?_
  simp only [awp_seq]
  simp only [argSlots]
  dsimp only [Try.f32]
  try simp only [go_sem]
  obtain ⟨x0, hx0, h⟩ := of_bind h
  refine call_p false (c_panel_open hx0) ⟨wkE _, trivial⟩ nofun ?_
  try simp only [go_sem]
  obtain rfl := Option.some.inj h
  exact .same _ trivial
theorem c_panel_Use {a0 : TPanel} {r : TShare × Int} (h : p_panel_Use a0 = some r)  : PCalls Try.prog 48 [encTPanel a0] (tup [encTShare r.1, .int .i64 r.2]) := by
  unfold p_panel_Use at h
  refine pcalls_of (ordOf [(4, [0, 2, 4, 1, 3, 5, 6, 7, 8, 9])]) (fun _ => []) Try.func48 (by unfold Try.f48; rfl) (by kernel_rfl) (by kernel_rfl) ?_
  simp only [awp_seq]
  simp only [argSlots]
  dsimp only [Try.f48]
  try simp only [go_sem]
  obtain ⟨x0, hx0, h⟩ := of_bind h
  refine call_p false (c_panel_open hx0) ⟨wkE _, trivial⟩ nofun ?_
  try simp only [go_sem]
  refine cut_l ?_
  try simp only [go_sem]
  refine ways_n (fun c1 => ?_) (fun c1 => ?_)
  ·
    replace h := if_n c1 h
    obtain rfl := Option.some.inj h
    exact wkv_same (by simp only [go_sem]) rfl
  ·
    replace h := if_p c1 h
    obtain ⟨x2, hx2, h⟩ := of_bind h
    refine qcall_p false (fun _ => c_shape_AreaOf hx2) (fun _ => ⟨.same _ trivial, trivial⟩) nofun ?_
    obtain ⟨⟨g3_0, g3_1⟩, h⟩ := of_guard h
    simp only [W64 g3_0 g3_1]
    obtain ⟨x4, hx4, h⟩ := of_bind h
    refine qcall_p false (fun _ => c_panel_Lowest hx4) (fun _ => ⟨.same _ trivial, .same _ trivial, trivial⟩) nofun ?_
    try simp only [go_sem]
    obtain rfl := Option.some.inj h
    exact wkv_same (by simp only [go_sem]) rfl
theorem c_law9_awake {r : Bool} (h : p_law9_awake  = some r)  : PCalls Try.prog 16 [] (.bool r) := by
  unfold p_law9_awake at h
  refine pcalls_of (fun _ => none) (fun _ => []) Try.func16 (by unfold Try.f16; rfl) (by kernel_rfl) (by kernel_rfl) ?_
  simp only [awp_seq]
  simp only [argSlots]
  dsimp only [Try.f16]
  try simp only [go_sem]
  obtain ⟨x0, hx0, h⟩ := of_bind h
  refine call_p false (c_panel_Use hx0) ⟨wkv_aggA rfl ⟨.same _ trivial, .same _ trivial, .same _ trivial, .same _ trivial, wkv_nilL, wkv_nilL, wkv_nilL, trivial⟩, trivial⟩ nofun ?_
  try simp only [go_sem]
  obtain rfl := Option.some.inj h
  exact .same _ trivial
theorem c_panel_GoodMarks {a0 : TPanel} {r : Bool × Int} (h : p_panel_GoodMarks a0 = some r)  : PCalls Try.prog 33 [encTPanel a0] (tup [.bool r.1, .int .i64 r.2]) := by
  unfold p_panel_GoodMarks at h
  refine pcalls_of (fun _ => none) (fun _ => []) Try.func33 (by unfold Try.f33; rfl) (by kernel_rfl) (by kernel_rfl) ?_
  simp only [awp_seq]
  simp only [argSlots]
  dsimp only [Try.f33]
  try simp only [go_sem]
  obtain ⟨x0, hx0, h⟩ := of_bind h
  refine call_p false (c_panel_CheckPanel hx0) ⟨wkE _, trivial⟩ nofun ?_
  try simp only [go_sem]
  refine cut_l ?_
  try simp only [go_sem]
  refine ways_n (fun c1 => ?_) (fun c1 => ?_)
  ·
    replace h := if_n c1 h
    obtain rfl := Option.some.inj h
    exact wkv_same (by simp only [go_sem]) rfl
  ·
    replace h := if_p c1 h
    obtain ⟨x2, hx2, h⟩ := of_bind h
    refine qcall_p false (fun hg => c_panel_turns (if_t hg hx2)) (fun _ => ⟨.same _ trivial, .same _ trivial, trivial⟩) nofun ?_
    try simp only [go_sem]
    obtain rfl := Option.some.inj h
    exact wkv_same (by simp only [go_sem]) rfl
theorem c_panel_Lie {a0 : TPanel} {a1 : (List TPoint)} {r : TTurn × Bool × Int} (h : p_panel_Lie a0 a1 = some r)  : PCalls Try.prog 35 [encTPanel a0, encL 2 encTPoint a1] (tup [encTTurn r.1, .bool r.2.1, .int .i64 r.2.2]) := by
  unfold p_panel_Lie at h
  refine pcalls_of (fun _ => none) (fun _ => []) Try.func35 (by unfold Try.f35; rfl) (by kernel_rfl) (by kernel_rfl) ?_
  simp only [awp_seq]
  simp only [argSlots]
  dsimp only [Try.f35]
  try simp only [go_sem]
  obtain ⟨x0, hx0, h⟩ := of_bind h
  refine call_p false (c_panel_CheckPanel hx0) ⟨wkE _, trivial⟩ nofun ?_
  try simp only [go_sem]
  refine cut_l ?_
  try simp only [go_sem]
  refine ways_n (fun c1 => ?_) (fun c1 => ?_)
  ·
    replace h := if_n c1 h
    obtain rfl := Option.some.inj h
    exact wkv_same (by simp only [go_sem]) rfl
  ·
    replace h := if_p c1 h
    refine cut_l ?_
    try simp only [go_sem]
    refine ways_d (fun c2 => ?_) (fun c2 => ?_)
    ·
      replace h := if_p c2 h
      obtain rfl := Option.some.inj h
      exact wkv_same (by simp only [go_sem]) rfl
    ·
      replace h := if_n c2 h
      obtain ⟨z3, h3, h⟩ := of_bind h
      refine cut_z z3 (fun (s : Int × Bool × TTurn) => [(6, AVal.int IntKind.i64 (Prod.fst s)), (5, AVal.bool (Prod.fst (Prod.snd s))), (4, AVal.ptr (1, 0) 4 0 0), (2, AVal.ptr (0, 0) 7 0 0), (1, encL 2 encTPoint a1)]) (fun (s : Int × Bool × TTurn) => { nx := 2, rows := [(1, Ent.one { sz := 4, d := encTTurn { : TTurn }, l := [encTTurn (Prod.snd (Prod.snd s))] : Row }), (0, Ent.one { sz := 7, d := encTPanel a0, l := [encTPanel a0] : Row })] : Heap }) ?_ (fun e3 hz3 => ?_)
      ·
        try simp only [go_sem]
        refine loop_w h3 (fun (s : Int × Int × Bool × TTurn) => [(24, AVal.int IntKind.i64 (Prod.fst s)), (23, AVal.int IntKind.i64 (↑(List.length a1) : Int)), (22, encL 2 encTPoint a1), (6, AVal.int IntKind.i64 (Prod.fst (Prod.snd s))), (5, AVal.bool (Prod.fst (Prod.snd (Prod.snd s)))), (4, AVal.ptr (1, 0) 4 0 0), (2, AVal.ptr (0, 0) 7 0 0), (1, encL 2 encTPoint a1)]) (fun (s : Int × Int × Bool × TTurn) => { nx := 2, rows := [(1, Ent.one { sz := 4, d := encTTurn { : TTurn }, l := [encTTurn (Prod.snd (Prod.snd (Prod.snd s)))] : Row }), (0, Ent.one { sz := 7, d := encTPanel a0, l := [encTPanel a0] : Row })] : Heap }) ?_ ?_
        ·
          refine wk_of [(1, some 1), (0, some 0)] rfl ?_ ?_
          ·
            try simp only [go_sem]
            exact ⟨.same _ trivial, ⟨.same _ trivial, ⟨.same _ trivial, ⟨.same _ trivial, ⟨.same _ trivial, ⟨.ptr _ _ _ _ _ (rn_some rfl), ⟨.ptr _ _ _ _ _ (rn_some rfl), .same _ trivial⟩⟩⟩⟩⟩⟩⟩
          ·
            try simp only [go_sem]
            exact ⟨wkR_box (rn_some rfl) rfl (wkE _), wkR_box (rn_some rfl) rfl (wkE _)⟩
        intro n4 s4 o4 h4 he4 hi4
        try simp only [go_sem]
        refine cut_l ?_
        try simp only [go_sem]
        refine ways_d (fun c5 => ?_) (fun c5 => ?_)
        ·
          replace h4 := if_p c5 h4
          refine cut_l ?_
          try simp only [go_sem]
          obtain ⟨g6, h4⟩ := of_guard h4
          refine ob ⟨by assumption, by assumption⟩ ?_
          obtain ⟨x7, hx7, h4⟩ := of_bind h4
          refine call_p false (c_shape_IsPoint hx7) ⟨wkE _, trivial⟩ nofun ?_
          try simp only [go_sem]
          refine cut_l ?_
          try simp only [go_sem]
          refine ways (fun c8 => ?_) (fun c8 => ?_)
          ·
            replace h4 := if_t c8 h4
            try simp only [Bool.and_eq_true, Bool.or_eq_true, Bool.not_eq_true', Bool.not_eq_false', Bool.and_eq_false_imp, Bool.or_eq_false_iff, decide_eq_true_eq, decide_eq_false_iff_not] at c8
            obtain rfl := Option.some.inj h4
            obtain rfl := he4 _ rfl
            obtain rfl := Option.some.inj h
            exact wkv_same (by simp only [go_sem]) rfl
          ·
            replace h4 := if_f c8 h4
            try simp only [Bool.and_eq_true, Bool.or_eq_true, Bool.not_eq_true', Bool.not_eq_false', Bool.and_eq_false_imp, Bool.or_eq_false_iff, decide_eq_true_eq, decide_eq_false_iff_not] at c8
            refine ob ⟨by assumption, by omega⟩ ?_
            obtain ⟨x9, hx9, h4⟩ := of_bind h4
            refine qcall_p false (fun _ => c_slices_Contains_Point hx9) (fun _ => ⟨.same _ trivial, wkE _, trivial⟩) nofun ?_
            refine cut_l ?_
            try simp only [go_sem]
            refine ways (fun c10 => ?_) (fun c10 => ?_)
            ·
              replace h4 := if_t c10 h4
              try simp only [Bool.and_eq_true, Bool.or_eq_true, Bool.not_eq_true', Bool.not_eq_false', Bool.and_eq_false_imp, Bool.or_eq_false_iff, decide_eq_true_eq, decide_eq_false_iff_not] at c10
              obtain rfl := Option.some.inj h4
              obtain rfl := he4 _ rfl
              obtain rfl := Option.some.inj h
              exact wkv_same (by simp only [go_sem]) rfl
            ·
              replace h4 := if_f c10 h4
              try simp only [Bool.and_eq_true, Bool.or_eq_true, Bool.not_eq_true', Bool.not_eq_false', Bool.and_eq_false_imp, Bool.or_eq_false_iff, decide_eq_true_eq, decide_eq_false_iff_not] at c10
              simp only [W64 (n := Prod.fst s4 + 1) (by omega) (by omega)]
              obtain rfl := Option.some.inj h4
              refine nextL (hi4 _ rfl) ?_
              refine wk_of [(1, some 1), (0, some 0)] rfl ?_ ?_
              ·
                try simp only [go_sem]
                exact ⟨.same _ trivial, ⟨.same _ trivial, ⟨.same _ trivial, ⟨.same _ trivial, ⟨.same _ trivial, ⟨.ptr _ _ _ _ _ (rn_some rfl), ⟨.ptr _ _ _ _ _ (rn_some rfl), .same _ trivial⟩⟩⟩⟩⟩⟩⟩
              ·
                try simp only [go_sem]
                exact ⟨wkR_box (rn_some rfl) rfl (wkE _), wkR_box (rn_some rfl) rfl (wkE _)⟩
        ·
          replace h4 := if_n c5 h4
          obtain rfl := Option.some.inj h4
          obtain rfl := he4 _ rfl
          refine zend ?_
          refine wk_of [(1, some 1), (0, some 0)] rfl ?_ ?_
          ·
            try simp only [go_sem]
            exact ⟨.same _ trivial, ⟨.same _ trivial, ⟨.ptr _ _ _ _ _ (rn_some rfl), ⟨.ptr _ _ _ _ _ (rn_some rfl), .same _ trivial⟩⟩⟩⟩
          ·
            try simp only [go_sem]
            exact ⟨wkR_box (rn_some rfl) rfl (wkE _), wkR_box (rn_some rfl) rfl (wkE _)⟩
      subst hz3
      simp only [Sum.elim_inr] at h
      try simp only [go_sem]
      refine ob (by simp) ?_
      refine cut_l ?_
      try simp only [go_sem]
      refine ways (fun c11 => ?_) (fun c11 => ?_)
      ·
        replace h := if_t c11 h
        try simp only [Bool.and_eq_true, Bool.or_eq_true, Bool.not_eq_true', Bool.not_eq_false', Bool.and_eq_false_imp, Bool.or_eq_false_iff, decide_eq_true_eq, decide_eq_false_iff_not] at c11
        obtain rfl := Option.some.inj h
        exact wkv_same (by simp only [go_sem]) rfl
      ·
        replace h := if_f c11 h
        try simp only [Bool.and_eq_true, Bool.or_eq_true, Bool.not_eq_true', Bool.not_eq_false', Bool.and_eq_false_imp, Bool.or_eq_false_iff, decide_eq_true_eq, decide_eq_false_iff_not] at c11
        obtain ⟨x12, hx12, h⟩ := of_bind h
        refine call_p false (c_panel_turns hx12) ⟨.same _ trivial, .same _ trivial, trivial⟩ nofun ?_
        try simp only [go_sem]
        refine cut_l ?_
        try simp only [go_sem]
        refine ways_d (fun c13 => ?_) (fun c13 => ?_)
        ·
          replace h := if_p c13 h
          obtain rfl := Option.some.inj h
          exact wkv_same (by simp only [go_sem]) rfl
        ·
          replace h := if_n c13 h
          refine ob ⟨by omega, by omega⟩ ?_
          obtain ⟨x14, hx14, h⟩ := of_bind h
          refine call_p false (c_shape_CheckTurn hx14) ⟨wkE _, trivial⟩ nofun ?_
          try simp only [go_sem]
          refine cut_l ?_
          try simp only [go_sem]
          refine ways_n (fun c15 => ?_) (fun c15 => ?_)
          ·
            replace h := if_n c15 h
            obtain rfl := Option.some.inj h
            exact wkv_same (by simp only [go_sem]) rfl
          ·
            replace h := if_p c15 h
            refine ob ⟨by omega, by omega⟩ ?_
            obtain rfl := Option.some.inj h
            exact wkv_same (by simp only [go_sem]) rfl
theorem c_law9_MarksMatchSpec {a0 : TPanel} {a1 : (List TPoint)} {r : Bool} (h : p_law9_MarksMatchSpec a0 a1 = some r)  : PCalls Try.prog 10 [encTPanel a0, encL 2 encTPoint a1] (.bool r) := by
  unfold p_law9_MarksMatchSpec at h
  refine pcalls_of (fun _ => none) (fun _ => []) Try.func10 (by unfold Try.f10; rfl) (by kernel_rfl) (by kernel_rfl) ?_
  simp only [awp_seq]
  simp only [argSlots]
  dsimp only [Try.f10]
  try simp only [go_sem]
  obtain ⟨x0, hx0, h⟩ := of_bind h
  refine call_p false (c_panel_GoodMarks hx0) ⟨wkE _, trivial⟩ nofun ?_
  try simp only [go_sem]
  obtain ⟨x1, hx1, h⟩ := of_bind h
  refine call_p false (c_ref9_GoodMarks hx1) ⟨wkE _, trivial⟩ nofun ?_
  try simp only [go_sem]
  obtain ⟨x2, hx2, h⟩ := of_bind h
  refine call_p false (c_panel_Lie hx2) ⟨wkE _, .same _ trivial, trivial⟩ nofun ?_
  try simp only [go_sem]
  obtain ⟨x3, hx3, h⟩ := of_bind h
  refine call_p false (c_ref9_Lie hx3) ⟨wkE _, .same _ trivial, trivial⟩ nofun ?_
  try simp only [go_sem]
  obtain ⟨x4, hx4, h⟩ := of_bind h
  refine qcall_p false (fun hg => c_law9_awake (if_t hg hx4)) (fun _ => trivial) nofun ?_
  try simp only [go_sem]
  obtain rfl := Option.some.inj h
  exact .same _ trivial
end Go.Nw
