/- The walks of the functions. -/
import Derived.Test.YtngdglmimlfefaaNwSortF
import Derived.Test.YtngdglmimlfefaaNwDA
import Derived.Test.YtngdglmimlfefaaNwPA0
set_option linter.unusedVariables false
set_option linter.unusedSimpArgs false
set_option maxRecDepth 100000
namespace Go.Nw
open Go.Proofs
theorem c_law9_MarksTellTheTurn {a0 : TPanel} {a1 : TTurn} {r : Bool} (h : p_law9_MarksTellTheTurn a0 a1 = some r)  : PCalls Try.prog 12 [encTPanel a0, encTTurn a1] (.bool r) := by
  unfold p_law9_MarksTellTheTurn at h
  refine pcalls_of (ordOf [(8, [0, 2, 1, 3, 4, 5, 6, 7, 8, 9, 10, 11, 12])]) (fun _ => []) Try.func12 (by unfold Try.f12; rfl) (by kernel_rfl) (by kernel_rfl) ?_
  simp only [awp_seq]
  simp only [argSlots]
  dsimp only [Try.f12]
  try simp only [go_sem]
  obtain ⟨x0, hx0, h⟩ := of_bind h
  refine call_p false (c_panel_GoodMarks hx0) ⟨wkE _, trivial⟩ nofun ?_
  try simp only [go_sem]
  refine ob ⟨by simp, by simp⟩ ?_
  obtain ⟨x1, hx1, h⟩ := of_bind h
  refine qcall_p false (fun hg => c_shape_CheckTurn (if_t hg hx1)) (fun _ => ⟨wkE _, trivial⟩) nofun ?_
  try simp only [go_sem]
  refine ob (by simp) ?_
  refine cut_l ?_
  try simp only [go_sem]
  refine ways (fun c2 => ?_) (fun c2 => ?_)
  ·
    replace h := if_t c2 h
    try simp only [Bool.and_eq_true, Bool.or_eq_true, Bool.not_eq_true', Bool.not_eq_false', Bool.and_eq_false_imp, Bool.or_eq_false_iff, decide_eq_true_eq, decide_eq_false_iff_not] at c2
    refine ob (by simp) ?_
    obtain ⟨x3, hx3, h⟩ := of_bind h
    refine qcall_p false (fun hg => c_law9_awake (if_t hg hx3)) (fun _ => trivial) nofun ?_
    try simp only [go_sem]
    obtain rfl := Option.some.inj h
    exact .same _ trivial
  ·
    replace h := if_f c2 h
    try simp only [Bool.and_eq_true, Bool.or_eq_true, Bool.not_eq_true', Bool.not_eq_false', Bool.and_eq_false_imp, Bool.or_eq_false_iff, decide_eq_true_eq, decide_eq_false_iff_not] at c2
    obtain ⟨⟨g4_0, g4_1⟩, h⟩ := of_guard h
    simp only [W64 g4_0 g4_1]
    obtain ⟨z5, h5, h⟩ := of_bind h
    refine cut_z z5 (fun (s : List TPoint × Bool) => [(7, encL 2 encTPoint (Prod.fst s)), (6, AVal.int IntKind.i64 (Prod.snd x0)), (4, AVal.bool (Prod.snd s)), (3, AVal.ptr (1, 0) 4 0 0), (2, AVal.ptr (0, 0) 7 0 0)]) (fun (s : List TPoint × Bool) => { nx := 2, rows := [(1, Ent.one { sz := 4, d := encTTurn a1, l := [encTTurn a1] : Row }), (0, Ent.one { sz := 7, d := encTPanel a0, l := [encTPanel a0] : Row })] : Heap }) ?_ (fun e5 hz5 => ?_)
    ·
      try simp only [go_sem]
      refine loop_w h5 (fun (s : Int × List TPoint × Bool) => [(8, AVal.int IntKind.i64 (Prod.fst s)), (7, AVal.sref (2, 0) 0 2 (List.length (Prod.fst (Prod.snd s)))), (6, AVal.int IntKind.i64 (Prod.snd x0)), (4, AVal.bool (Prod.snd (Prod.snd s))), (3, AVal.ptr (1, 0) 4 0 0), (2, AVal.ptr (0, 0) 7 0 0)]) (fun (s : Int × List TPoint × Bool) => { nx := 3, rows := [(2, Ent.one { sz := 2, d := encTPoint default, l := List.map encTPoint (Prod.fst (Prod.snd s)) : Row }), (1, Ent.one { sz := 4, d := encTTurn a1, l := [encTTurn a1] : Row }), (0, Ent.one { sz := 7, d := encTPanel a0, l := [encTPanel a0] : Row })] : Heap }) ?_ ?_
      ·
        refine wk_of [(2, none), (1, some 1), (0, some 0)] rfl ?_ ?_
        ·
          try simp only [go_sem]
          exact ⟨.same _ trivial, ⟨wkv_nil (rn_none rfl) rfl, ⟨.same _ trivial, ⟨.same _ trivial, ⟨.ptr _ _ _ _ _ (rn_some rfl), .ptr _ _ _ _ _ (rn_some rfl)⟩⟩⟩⟩⟩
        ·
          try simp only [go_sem]
          exact ⟨wkR_nilT (rn_none rfl), ⟨wkR_box (rn_some rfl) rfl (wkE _), wkR_box (rn_some rfl) rfl (wkE _)⟩⟩
      intro n6 s6 o6 h6 he6 hi6
      try simp only [go_sem]
      refine cut_l ?_
      try simp only [go_sem]
      refine ways_d (fun c7 => ?_) (fun c7 => ?_)
      ·
        replace h6 := if_p c7 h6
        refine cut_l ?_
        try simp only [go_sem]
        obtain ⟨g8, h6⟩ := of_guard h6
        refine ob ⟨by assumption, by assumption⟩ ?_
        obtain ⟨x9, hx9, h6⟩ := of_bind h6
        refine qcall_p false (fun _ => c_shape_Turned hx9) (fun _ => ⟨wkE _, wkE _, trivial⟩) nofun ?_
        try simp only [go_sem]
        refine cut_l ?_
        try simp only [go_sem]
        refine ways_n (fun c10 => ?_) (fun c10 => ?_)
        ·
          replace h6 := if_n c10 h6
          obtain ⟨x11, hx11, h6⟩ := of_bind h6
          refine call_p false (c_law9_awake hx11) trivial nofun ?_
          obtain rfl := Option.some.inj h6
          obtain rfl := he6 _ rfl
          obtain rfl := Option.some.inj h
          exact .same _ trivial
        ·
          replace h6 := if_p c10 h6
          obtain ⟨g12, h6⟩ := of_guard h6
          refine ob ⟨by omega, by assumption⟩ ?_
          simp only [W64 (n := Prod.fst s6 - 1) (by omega) (by omega)]
          obtain rfl := Option.some.inj h6
          refine nextL (hi6 _ rfl) ?_
          refine wk_of [(2, some 10004), (1, some 1), (0, some 0)] rfl ?_ ?_
          ·
            try simp only [go_sem]
            exact ⟨.same _ trivial, ⟨wkv_sref (rn_some rfl) rfl, ⟨.same _ trivial, ⟨.same _ trivial, ⟨.ptr _ _ _ _ _ (rn_some rfl), .ptr _ _ _ _ _ (rn_some rfl)⟩⟩⟩⟩⟩
          ·
            try simp only [go_sem]
            exact ⟨wkR_typed (rn_some rfl) rfl rfl, ⟨wkR_box (rn_some rfl) rfl (wkE _), wkR_box (rn_some rfl) rfl (wkE _)⟩⟩
      ·
        replace h6 := if_n c7 h6
        obtain rfl := Option.some.inj h6
        obtain rfl := he6 _ rfl
        refine zend ?_
        refine wk_of [(1, some 1), (0, some 0)] rfl ?_ ?_
        ·
          try simp only [go_sem]
          exact ⟨wkv_own rfl (rn_notTo rfl) rfl, ⟨.same _ trivial, ⟨.same _ trivial, ⟨.ptr _ _ _ _ _ (rn_some rfl), .ptr _ _ _ _ _ (rn_some rfl)⟩⟩⟩⟩
        ·
          try simp only [go_sem]
          exact ⟨wkR_box (rn_some rfl) rfl (wkE _), wkR_box (rn_some rfl) rfl (wkE _)⟩
    subst hz5
    simp only [Sum.elim_inr] at h
    try simp only [go_sem]
    obtain ⟨x13, hx13, h⟩ := of_bind h
    refine call_p false (c_panel_Lie hx13) ⟨wkE _, .same _ trivial, trivial⟩ nofun ?_
    try simp only [go_sem]
    obtain ⟨x14, hx14, h⟩ := of_bind h
    refine qcall_p false (fun hg => c_law9_awake (if_t hg hx14)) (fun _ => trivial) nofun ?_
    try simp only [go_sem]
    obtain rfl := Option.some.inj h
    exact .same _ trivial
end Go.Nw
