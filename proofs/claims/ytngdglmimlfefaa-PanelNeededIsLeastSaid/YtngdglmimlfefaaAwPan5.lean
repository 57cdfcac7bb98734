import Derived.Test.YtngdglmimlfefaaAwPan4
set_option linter.unusedVariables false
set_option linter.unusedSimpArgs false
namespace Go.Aw
open Go.Proofs
theorem areaOf_0 : PCalls Try.prog 97 [encL 4 encRc []] (.int .i64 0) := by
  refine acalls_of Try.func97 (by unfold Try.f97; rfl) (by kernel_rfl) (by kernel_rfl) ?_
  have h1 : True := trivial
  simp only [awp_seq]
  simp only [argSlots]
  dsimp only [Try.f97]
  simp only [go_sem]
  refine loop_of (fun m τ σ => τ = [(8, .int .i64 0), (7, .int .i64 0), (3, .int .i64 0)] ∧ σ = []) 0 _ [] (wk_of (fun _ => False) ?_ (WkH.none _ _)) ⟨rfl, rfl⟩ ?_
  · simp only [go_sem]; exact .same _
  rintro m τ σ ⟨rfl, rfl⟩
  simp only [go_sem]
  refine ⟨fun ht => absurd ht (by decide), fun _ => ?_⟩
  simp only [go_sem]
theorem lowest_01 : PCalls Try.prog 96 [.int .i64 0, .int .i64 1] (encSh ⟨0, 1⟩) := by
  refine acalls_of Try.func96 (by unfold Try.f96; rfl) (by kernel_rfl) (by kernel_rfl) ?_
  have h1 : True := trivial
  simp only [awp_seq]
  simp only [argSlots]
  dsimp only [Try.f96]
  simp only [go_sem]
  intro b hb
  refine loop_of (fun m τ σ => ((m = 1 ∧ τ = [(5, .int .i64 0), (6, .int .i64 1), (0, .int .i64 0), (1, .int .i64 1), (4, .ptr (some b) 2 0 0)]) ∨ (m = 0 ∧ τ = [(5, .int .i64 1), (6, .int .i64 0), (0, .int .i64 0), (1, .int .i64 1), (4, .ptr (some b) 2 0 0)])) ∧ σ = [(some b, ⟨1, 1, 2, fun _ => agg [.int .i64 0, .int .i64 0]⟩)]) 1 _ [(some b, ⟨1, 1, 2, fun _ => agg [.int .i64 0, .int .i64 0]⟩)] (wk_of (fun _ => False) ?_ (wkH_cons (wkR_same get_hd id (Nat.le_refl _)) (WkH.none _ _))) ⟨.inl ⟨rfl, rfl⟩, rfl⟩ ?_
  · simp only [go_sem]
  rintro m τ σ ⟨⟨rfl, rfl⟩ | ⟨rfl, rfl⟩, rfl⟩
  · simp only [go_sem]
    refine ⟨fun _ => ⟨by decide, 0, _, _, wk_of (fun _ => False) ?_ (wkH_cons (wkR_same get_hd id (Nat.le_refl _)) (WkH.none _ _)), ⟨.inr ⟨rfl, rfl⟩, rfl⟩, by decide⟩, fun ht => absurd ht (by decide)⟩
    simp only [go_sem]; exact .same _
  · simp only [go_sem]
    refine ⟨fun ht => absurd ht (by decide), fun _ => ⟨by decide, fun _ => False, ?_⟩⟩
    exact .same _
def p0 : Pn := ⟨1, 1, 0, 0, [], [], []⟩
theorem use_0 : PCalls Try.prog 48 [encPn p0] (tup [encSh ⟨0, 1⟩, .int .i64 0]) := by
  refine acalls_of Try.func48 (by unfold Try.f48; rfl) (by kernel_rfl) (by kernel_rfl) ?_
  have h1 : True := trivial
  simp only [awp_seq]
  simp only [argSlots]
  dsimp only [Try.f48]
  simp only [go_sem]
  intro b hb b2 hb2
  simp only [go_sem] at hb2
  simp only [hb2, go_sem]
  refine call_f (args' := []) (open_c p0 ⟨by decide, nofun, by decide, by decide⟩) ?_
  simp only [hb2, go_sem]
  rw [show openF p0 = ([], 0) from rfl]
  refine ⟨fun ht => absurd ht (by decide), fun _ => ?_⟩
  refine qcall_p (fun _ => False) (fun _ => areaOf_0) (fun _ => Lend.refl _ _ _) trivial ?_
  rw [show W .i64 (p0.w * p0.h) = 1 from by decide]
  refine qcall_p (fun _ => False) (fun _ => lowest_01) (fun _ => Lend.refl _ _ _) ?_ ?_
  · intro j hj; rcases j with _ | _ | j <;> first | trivial | (simp at hj; omega)
  simp only [hb2, go_sem]
theorem awake_c : PCalls Try.prog 16 [] (.bool true) := by
  refine acalls_of Try.func16 (by unfold Try.f16; rfl) (by kernel_rfl) (by kernel_rfl) ?_
  have h1 : True := trivial
  simp only [awp_seq]
  simp only [argSlots]
  dsimp only [Try.f16]
  simp only [go_sem]
  refine call_p (fun _ => False) use_0 ⟨wkv_agg (by intro v hv; simp only [List.mem_cons, List.not_mem_nil, or_false] at hv; rcases hv with rfl | rfl | rfl | rfl | rfl | rfl | rfl <;> rfl) ⟨.same _, .same _, .same _, .same _, .nil_sl _ _, .nil_sl _ _, .nil_sl _ _, trivial⟩, trivial⟩ ?_ ?_
  · intro j hj; rcases j with _ | _ | j
    · intro i hi; rcases i with _ | _ | i <;> first | trivial | (simp at hi; omega)
    · trivial
    · simp at hj; omega
  simp only [go_sem]
  intro b hb
  exact ⟨fun _ => False, .same _⟩
def cntF (b : ByteArray) : List Sl → Nat
  | [] => 0
  | s :: l => (if s.board = b then 1 else 0) + cntF b l
theorem cntF_le (b : ByteArray) : ∀ l : List Sl, cntF b l ≤ l.length
  | [] => Nat.le_refl _
  | s :: l => by have := cntF_le b l; simp only [cntF, List.length_cons]; split <;> omega
def neededF (p : Pn) (b : ByteArray) (many : Int) : Int × Int × Int :=
  if (!decide ((openF p).2 = 0)) = true then (0, 0, (openF p).2) else
  if decide (kindAtF p b < 0) = true then (0, 0, 9) else
  if (!inR many 0 1000000) = true then (0, 0, 1) else
  if decide ((cntF b p.slots : Int) = 0) = true then (0, 0, 13) else
  ((many + cntF b p.slots - 1).tdiv (cntF b p.slots), (many + cntF b p.slots - 1).tdiv (cntF b p.slots) * cntF b p.slots - many, 0)
theorem open_slots {p : Pn} (h : (openF p).2 = 0) : p.slots.length ≤ 500 := by
  unfold openF at h
  split at h
  · cases h
  split at h
  · rename_i h1; simp only at h; rw [h] at h1; exact absurd h1 (by decide)
  split at h
  · rename_i h1; simp only at h; rw [h] at h1; exact absurd h1 (by decide)
  rename_i h1
  have h2 : (cellsF p).2 = 0 := by simpa using h1
  unfold cellsF at h2
  split at h2
  · cases h2
  · omega
theorem div_le {m c : Int} (hm : 0 ≤ m) (hm2 : m ≤ 1000000) (hc : 1 ≤ c) (hc2 : c ≤ 500) : 0 ≤ (m + c - 1).tdiv c ∧ (m + c - 1).tdiv c ≤ 1000500 ∧ m ≤ (m + c - 1).tdiv c * c ∧ (m + c - 1).tdiv c * c < m + c := by
  have h0 : 0 ≤ m + c - 1 := by omega
  have h1 : (m + c - 1).tdiv c = (m + c - 1) / c := Int.tdiv_eq_ediv_of_nonneg h0
  rw [h1]
  have h2 := Int.mul_ediv_add_emod (m + c - 1) c
  have h3 := Int.emod_nonneg (m + c - 1) (show c ≠ 0 by omega)
  have h4 := Int.emod_lt_of_pos (m + c - 1) (show 0 < c by omega)
  have h5 : 0 ≤ (m + c - 1) / c := Int.ediv_nonneg h0 (by omega)
  have h6 : (m + c - 1) / c ≤ m + c - 1 := Int.ediv_le_self c h0
  rw [Int.mul_comm] at h2
  refine ⟨h5, by omega, by omega, by omega⟩
theorem needed_c (p : Pn) (b : ByteArray) (many : Int) (hs : Fits p) : PCalls Try.prog 15 [encPn p, .str b, .int .i64 many] (tup [.int .i64 (neededF p b many).1, .int .i64 (neededF p b many).2.1, .int .i64 (neededF p b many).2.2]) := by
  refine acalls_of Try.func15 (by unfold Try.f15; rfl) (by kernel_rfl) (by kernel_rfl) ?_
  have h1 : True := trivial
  simp only [awp_seq]
  simp only [argSlots]
  dsimp only [Try.f15]
  simp only [go_sem]
  intro a ha
  refine call_p (fun _ => False) (checkPanel_c p hs) (Lend.refl _ _ _) trivial ?_
  simp only [go_sem]
  refine ⟨fun h1 => ?_, fun h1 => ?_⟩
  · simp only [neededF, if_pos h1, go_sem]
  refine call_p (fun _ => False) (kindAt_c p _ hs.kinds) (Lend.refl _ _ _) trivial ?_
  simp only [go_sem]
  refine ⟨fun h2 => ?_, fun h2 => ?_⟩
  · simp only [neededF, h1, h2, Bool.false_eq_true, if_false, if_true, go_sem]
  refine call_p (fun _ => False) (within_c' _ _ _) (Lend.refl _ _ _) trivial ?_
  simp only [go_sem]
  refine ⟨fun h3 => ?_, fun h3 => ?_⟩
  · simp only [neededF, h1, h2, h3, Bool.false_eq_true, if_false, if_true, go_sem]
  have hsl := open_slots (p := p) (by simpa using h1)
  have hc := cntF_le b p.slots
  refine loop_of (fun m τ σ => ∃ (i c : Nat), i ≤ p.slots.length ∧ m = p.slots.length - i ∧ c ≤ i ∧ c + cntF b (p.slots.drop i) = cntF b p.slots ∧ τ = [(29, .int .i64 i), (28, .int .i64 p.slots.length), (27, encL 4 encSl p.slots), (1, .str b), (2, .int .i64 many), (10, .int .i64 c)] ∧ σ = []) p.slots.length _ [] (wk_of (fun _ => False) ?_ (WkH.none _ _)) ⟨0, 0, Nat.zero_le _, rfl, Nat.le_refl _, by simp, rfl, rfl⟩ ?_
  · simp only [go_sem]
    exact .same _
  rintro m τ σ ⟨i, c, hi, rfl, hci, hinv, rfl, rfl⟩
  simp only [go_sem]
  refine ⟨fun ht => ?_, fun hf => ?_⟩
  · simp only [decide_eq_true_eq] at ht
    have hlt : i < p.slots.length := by omega
    have hj : ((i : Int)).toNat = i := Int.toNat_natCast i
    simp only [hj]
    rw [drop_get hlt] at hinv
    refine ⟨by omega, fun b2 hb2 => ?_⟩
    simp only [go_sem]
    refine ⟨fun h4 => ?_, fun h4 => ?_⟩
    · simp only [decide_eq_true_eq] at h4
      simp only [cntF, if_pos h4] at hinv
      refine ⟨p.slots.length - (i + 1), _, _, wk_of (fun _ => False) ?_ (WkH.none _ _), ⟨i + 1, c + 1, by omega, rfl, by omega, by omega, rfl, rfl⟩, by omega⟩
      rw [W64 (by omega) (by omega), W64 (by omega) (by omega)]; simp only [go_sem]; exact ⟨.same _, .same _⟩
    · simp only [decide_eq_false_iff_not] at h4
      simp only [cntF, if_neg h4] at hinv
      refine ⟨p.slots.length - (i + 1), _, _, wk_of (fun _ => False) ?_ (WkH.none _ _), ⟨i + 1, c, by omega, rfl, by omega, by omega, rfl, rfl⟩, by omega⟩
      rw [W64 (by omega) (by omega)]; simp only [go_sem]; exact .same _
  · simp only [decide_eq_false_iff_not] at hf
    have : i = p.slots.length := by omega
    rw [this, List.drop_length] at hinv
    simp only [cntF, Nat.add_zero] at hinv
    subst hinv
    refine ⟨fun h5 => ?_, fun h5 => ?_⟩
    · simp only [neededF, h1, h2, h3, h5, Bool.false_eq_true, if_false, if_true, go_sem]
    · have h6 : ((cntF b p.slots : Nat) : Int) ≠ 0 := by simpa using h5
      have hm := inR_iff.1 ((Bool.not_eq_false' _).mp h3)
      simp only [neededF, h1, h2, h3, h5, Bool.false_eq_true, if_false]
      refine ⟨h6, fun _ => False, ?_⟩
      have hc1 : (1 : Int) ≤ (cntF b p.slots : Int) := by omega
      have hc2 : (cntF b p.slots : Int) ≤ 500 := by omega
      generalize (cntF b p.slots : Int) = c at *
      have hd := div_le hm.1 hm.2 hc1 hc2
      rw [W64 (n := many + c) (by omega) (by omega), W64 (n := many + c - 1) (by omega) (by omega)]
      generalize (many + c - 1).tdiv c = q at *
      rw [W64 (n := q) (by omega) (by omega), W64 (n := q * c) (by omega) (by omega), W64 (n := q * c - many) (by omega) (by omega)]
      exact .same _
/-- the law's own count and answer -/
theorem law_needed {p : Pn} {b : ByteArray} {many : Int} (h : (neededF p b many).2.2 = 0) :
    p.slots.length ≤ 500 ∧ 0 ≤ (neededF p b many).1 ∧ (neededF p b many).1 ≤ 1000500 ∧ (neededF p b many).2.1 = (neededF p b many).1 * cntF b p.slots - many ∧ 0 ≤ (neededF p b many).2.1 ∧ (neededF p b many).2.1 < cntF b p.slots ∧ 0 ≤ many ∧ many ≤ 1000000 := by
  unfold neededF at h ⊢
  split at h
  · rename_i h1; simp only at h; rw [h] at h1; exact absurd h1 (by decide)
  split at h
  · cases h
  split at h
  · cases h
  split at h
  · cases h
  rename_i h1 h2 h3 h4
  rw [if_neg h1, if_neg h2, if_neg h3, if_neg h4]
  have hsl := open_slots (p := p) (by simpa using h1)
  have hc := cntF_le b p.slots
  have hm := inR_iff.1 (show inR many 0 1000000 = true by simpa using h3)
  have h6 : (cntF b p.slots : Int) ≠ 0 := by simpa using h4
  have hd := div_le hm.1 hm.2 (c := cntF b p.slots) (by omega) (by omega)
  simp only
  exact ⟨hsl, hd.1, hd.2.1, trivial, by omega, by omega, hm.1, hm.2⟩
theorem needed_err {p : Pn} {b : ByteArray} {many : Int} (h : (neededF p b many).2.2 ≠ 0) : (neededF p b many).1 = 0 ∧ (neededF p b many).2.1 = 0 := by
  unfold neededF at h ⊢
  split
  · exact ⟨rfl, rfl⟩
  split
  · exact ⟨rfl, rfl⟩
  split
  · exact ⟨rfl, rfl⟩
  split
  · exact ⟨rfl, rfl⟩
  rename_i h1 h2 h3 h4
  rw [if_neg h1, if_neg h2, if_neg h3, if_neg h4] at h
  exact absurd rfl h
theorem law_PanelNeededIsLeast (p : Pn) (b : ByteArray) (many : Int) (hs : Fits p) : PCalls Try.prog 3 [encPn p, .str b, .int .i64 many] (.bool true) := by
  refine acalls_of Try.func3 (by unfold Try.f3; rfl) (by kernel_rfl) (by kernel_rfl) ?_
  have h1 : True := trivial
  simp only [awp_seq]
  simp only [argSlots]
  dsimp only [Try.f3]
  simp only [go_sem]
  intro a ha
  refine call_p (fun _ => False) (needed_c p b many hs) (Lend.refl _ _ _) (by intro j hj; rcases j with _ | _ | _ | j <;> first | trivial | (simp at hj; omega)) ?_
  simp only [go_sem]
  refine ⟨fun h1 => ?_, fun h1 => ?_⟩
  · have h2 := needed_err (p := p) (b := b) (many := many) (by simpa using h1)
    rw [h2.1, h2.2]
    refine qcall_p (fun _ => False) (fun _ => awake_c) (fun _ => Lend.refl _ _ _) trivial ?_
    simp only [go_sem]
    exact ⟨fun _ => False, .same _⟩
  · have h2 := law_needed (p := p) (b := b) (many := many) (by simpa using h1)
    obtain ⟨hsl, h3, h4, h5, h6, h7, h8, h9⟩ := h2
    have hc := cntF_le b p.slots
    generalize (neededF p b many).1 = n at *
    generalize (neededF p b many).2.1 = left at *
    refine loop_of (fun m τ σ => ∃ (i c : Nat), i ≤ p.slots.length ∧ m = p.slots.length - i ∧ c ≤ i ∧ c + cntF b (p.slots.drop i) = cntF b p.slots ∧ τ = [(11, .int .i64 i), (10, .int .i64 c), (7, .int .i64 n), (8, .int .i64 left), (1, .str b), (2, .int .i64 many), (3, .ptr (some a) 7 0 0)] ∧ σ = [(some a, ⟨1, 1, 7, fun _ => encPn p⟩)]) p.slots.length _ [(some a, ⟨1, 1, 7, fun _ => encPn p⟩)] (wk_of (fun _ => False) ?_ (wkH_cons (wkR_same get_hd id (Nat.le_refl _)) (WkH.none _ _))) ⟨0, 0, Nat.zero_le _, rfl, Nat.le_refl _, by simp, rfl, rfl⟩ ?_
    · simp only [go_sem]
      exact .same _
    rintro m τ σ ⟨i, c, hi, rfl, hci, hinv, rfl, rfl⟩
    simp only [go_sem]
    refine ⟨fun ht => ?_, fun hf => ?_⟩
    · simp only [decide_eq_true_eq] at ht
      have hlt : i < p.slots.length := by omega
      have hj : ((i : Int)).toNat = i := Int.toNat_natCast i
      simp only [hj]
      rw [drop_get hlt] at hinv
      refine ⟨by omega, fun h0 => ?_, fun h0 => ?_⟩
      · simp only [decide_eq_true_eq] at h0
        simp only [cntF, if_pos h0] at hinv
        refine ⟨p.slots.length - (i + 1), _, _, wk_of (fun _ => False) ?_ (wkH_cons (wkR_same get_hd id (Nat.le_refl _)) (WkH.none _ _)), ⟨i + 1, c + 1, by omega, rfl, by omega, by omega, rfl, rfl⟩, by omega⟩
        rw [W64 (by omega) (by omega), W64 (by omega) (by omega)]; simp only [go_sem]; exact ⟨.same _, .same _⟩
      · simp only [decide_eq_false_iff_not] at h0
        simp only [cntF, if_neg h0] at hinv
        refine ⟨p.slots.length - (i + 1), _, _, wk_of (fun _ => False) ?_ (wkH_cons (wkR_same get_hd id (Nat.le_refl _)) (WkH.none _ _)), ⟨i + 1, c, by omega, rfl, by omega, by omega, rfl, rfl⟩, by omega⟩
        rw [W64 (by omega) (by omega)]; simp only [go_sem]; exact .same _
    · simp only [decide_eq_false_iff_not] at hf
      have : i = p.slots.length := by omega
      rw [this, List.drop_length] at hinv
      simp only [cntF, Nat.add_zero] at hinv
      subst hinv
      generalize (cntF b p.slots) = c at *
      rw [W64 (n := n * c) (by omega) (by omega), W64 (n := n * c - left) (by omega) (by omega)]
      have e1 : decide (n * c - left = many) = true := by simp only [decide_eq_true_eq]; omega
      have e2 : decide (0 ≤ left) = true := by simp only [decide_eq_true_eq]; omega
      have e3 : decide (left < c) = true := by simp only [decide_eq_true_eq]; omega
      simp only [e1, e2, e3, go_sem]
      refine qcall_p (fun _ => False) (fun _ => awake_c) (fun _ => Lend.refl _ _ _) trivial ?_
      simp only [go_sem]
      exact ⟨fun _ => False, .same _⟩
end Go.Aw
