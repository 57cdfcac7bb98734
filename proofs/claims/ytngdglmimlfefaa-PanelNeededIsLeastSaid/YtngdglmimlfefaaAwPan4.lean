import Derived.Test.YtngdglmimlfefaaAwPan3
set_option linter.unusedVariables false
set_option linter.unusedSimpArgs false
namespace Go.Aw
open Go.Proofs
theorem index_Pt (l : List Pt) (q : Pt) (hl : l.length < 281474976710656) : PCalls Try.prog 112 [encL 2 encPt l, encPt q] (.int .i64 (idxF (fun a => decide (q = a)) l 0)) := by
  refine acalls_of Try.func112 (by unfold Try.f112; rfl) (by kernel_rfl) (by kernel_rfl) ?_
  have h1 : True := trivial
  simp only [awp_seq]
  simp only [argSlots]
  dsimp only [Try.f112]
  simp only [go_sem]
  intro b hb
  refine loop_of (fun m τ σ => ∃ i : Nat, i ≤ l.length ∧ m = l.length - i ∧ idxF (fun a => decide (q = a)) (l.drop i) i = idxF (fun a => decide (q = a)) l 0 ∧ τ = [(8, .int .i64 i), (7, .int .i64 l.length), (0, encL 2 encPt l), (3, .ptr (some b) 2 0 0)] ∧ σ = [(some b, ⟨1, 1, 2, fun _ => encPt q⟩)]) l.length _ [(some b, ⟨1, 1, 2, fun _ => encPt q⟩)] (wk_of (fun _ => False) ?_ (wkH_cons (wkR_same get_hd id (Nat.le_refl _)) (WkH.none _ _))) ⟨0, Nat.zero_le _, rfl, rfl, rfl, rfl⟩ ?_
  · simp only [go_sem]
    exact .same _
  rintro m τ σ ⟨i, hi, rfl, hinv, rfl, rfl⟩
  simp only [go_sem]
  refine ⟨fun ht => ?_, fun hf => ?_⟩
  · simp only [decide_eq_true_eq] at ht
    have hlt : i < l.length := by omega
    have hj : ((i : Int)).toNat = i := Int.toNat_natCast i
    simp only [hj]
    rw [drop_get hlt] at hinv
    refine ⟨by omega, fun hp1 => ?_, fun hp1 => ?_⟩
    · simp only [idxF, hp1, if_true] at hinv
      rw [← hinv]; simp only [go_sem]
    · simp only [idxF, hp1, Bool.false_eq_true, if_false] at hinv
      refine ⟨l.length - (i + 1), _, _, wk_of (fun _ => False) ?_ (wkH_cons (wkR_same get_hd id (Nat.le_refl _)) (WkH.none _ _)), ⟨i + 1, by omega, rfl, ?_, rfl, rfl⟩, by omega⟩
      · rw [W64 (by omega) (by omega)]; simp only [go_sem]; exact .same _
      · rw [← hinv]; rfl
  · simp only [decide_eq_false_iff_not] at hf
    have : i = l.length := by omega
    rw [this, List.drop_length] at hinv
    rw [← hinv]; simp only [idxF, go_sem]
theorem contains_Pt (l : List Pt) (q : Pt) (hl : l.length < 281474976710656) : PCalls Try.prog 72 [encL 2 encPt l, encPt q] (.bool (anyF (fun a => decide (q = a)) l)) := by
  refine acalls_of Try.func72 (by unfold Try.f72; rfl) (by kernel_rfl) (by kernel_rfl) ?_
  have h1 : True := trivial
  simp only [awp_seq]
  simp only [argSlots]
  dsimp only [Try.f72]
  simp only [go_sem]
  intro b hb
  refine call_p (fun _ => False) (index_Pt l q hl) (Lend.refl _ _ _) trivial ?_
  unfold anyF
  simp only [go_sem]
def isOnPanelF (p : Pn) (q : Pt) : Bool := inR q.x 0 p.w && inR q.y 0 p.h
theorem isOnPanel_c' (p : Pn) (q : Pt) : PCalls Try.prog 60 [encPn p, encPt q] (.bool (isOnPanelF p q)) := isOnPanel_c p q
def markAt (p : Pn) (l : List Rc) (i : Nat) : Int :=
  if isOnPanelF p (p.marks.getD i default) = false then 1 else
  if anyF (isInF (p.marks.getD i default)) l = true then 12 else
  if anyF (fun a => decide (p.marks.getD i default = a)) (p.marks.take i) = true then 7 else 0
def badNum (p : Pn) : Bool := !inR p.w 1 1000000 || !inR p.h 1 1000000 || !inR p.rail 0 1000000 || !inR p.gap 0 1000000
def openF (p : Pn) : List Rc × Int :=
  if badNum p = true then ([], 1) else
  if (!decide (checkKindsF p.kinds = 0)) = true then ([], checkKindsF p.kinds) else
  if (!decide ((cellsF p).2 = 0)) = true then ([], (cellsF p).2) else
  if decide (10 < (p.marks.length : Int)) = true then ([], 2) else
  if firstF (markAt p (cellsF p).1) 0 p.marks.length ≠ 0 then ([], firstF (markAt p (cellsF p).1) 0 p.marks.length) else ((cellsF p).1, 0)
theorem firstF_zero {f : Nat → Int} : ∀ (n i : Nat), firstF f i n = 0 → ∀ j, i ≤ j → j < i + n → f j = 0
  | 0, i, _, j, h1, h2 => by omega
  | n + 1, i, h, j, h1, h2 => by
    simp only [firstF] at h
    split at h
    · rename_i h0; exact absurd h h0
    · rename_i h0
      by_cases hj : j = i
      · subst hj; simpa using h0
      · exact firstF_zero n (i + 1) h j (by omega) (by omega)
theorem good_of {p : Pn} (h1 : badNum p = false) (h2 : checkKindsF p.kinds = 0) : Good p := by
  simp only [badNum, Bool.or_eq_false_iff, Bool.not_eq_false'] at h1
  refine ⟨h1.1.1.1, h1.1.1.2, h1.1.2, h1.2, fun k hk => ?_⟩
  unfold checkKindsF at h2
  split at h2
  · cases h2
  obtain ⟨i, hi, rfl⟩ := List.getElem_of_mem hk
  have h := firstF_zero p.kinds.length 0 h2 i (Nat.zero_le _) (by omega)
  have hg : p.kinds.getD i default = p.kinds[i] := by simp [hi]
  unfold ckAt at h
  rw [hg] at h
  split at h
  · cases h
  split at h
  · cases h
  rename_i h4
  simpa [Bool.or_eq_true] using h4
/-- sizes that no machine exceeds -/
structure Fits (p : Pn) : Prop where
  kinds : p.kinds.length < 281474976710656
  names : ∀ k ∈ p.kinds, k.name.size < 281474976710656
  slots : p.slots.length < 281474976710656
  marks : p.marks.length < 281474976710656
theorem cellsFrom_len (p : Pn) : ∀ (l : List Sl) (out : List Rc), (cellsFrom p out l).1.length ≤ out.length + l.length
  | [], out => by simp [cellsFrom]
  | s :: l, out => by
    simp only [cellsFrom]
    split
    · simp
    · have := cellsFrom_len p l (out ++ [cellOfF p s]); simp at this ⊢; omega
theorem cellsF_len (p : Pn) : (cellsF p).1.length ≤ p.slots.length := by
  unfold cellsF; split
  · simp
  · have := cellsFrom_len p p.slots []; simpa using this
theorem take_getD {α : Type} [Inhabited α] {l : List α} {i j : Nat} (h : j < i) : (l.take i).getD j default = l.getD j default := by
  simp [List.getD_eq_getElem?_getD, List.getElem?_take, h]
theorem open_c (p : Pn) (hs : Fits p) : PCalls Try.prog 49 [encPn p] (tup [encL 4 encRc (openF p).1, .int .i64 (openF p).2]) := by
  refine acalls_of Try.func49 (by unfold Try.f49; rfl) (by kernel_rfl) (by kernel_rfl) ?_
  have h1 : True := trivial
  simp only [awp_seq]
  simp only [argSlots]
  dsimp only [Try.f49]
  simp only [go_sem]
  intro b hb
  refine call_p (fun _ => False) (within_c' _ _ _) (Lend.refl _ _ _) trivial ?_
  simp only [go_sem]
  refine qcall_p (fun _ => False) (fun _ => within_c' _ _ _) (fun _ => Lend.refl _ _ _) trivial ?_
  simp only [go_sem]
  refine qcall_p (fun _ => False) (fun _ => within_c' _ _ _) (fun _ => Lend.refl _ _ _) trivial ?_
  simp only [go_sem]
  refine qcall_p (fun _ => False) (fun _ => within_c' _ _ _) (fun _ => Lend.refl _ _ _) trivial ?_
  simp only [go_sem]
  refine ⟨fun h1 => ?_, fun h1 => ?_⟩
  · have : openF p = ([], 1) := by simp only [openF, badNum, h1, if_true]
    rw [this]; exact ⟨fun _ => False, wkv_tup ⟨.nil_sl _ _, .same _, trivial⟩⟩
  refine call_p (fun _ => False) (checkKinds_c p.kinds hs.kinds hs.names) (Lend.refl _ _ _) trivial ?_
  simp only [go_sem]
  refine ⟨fun h2 => ?_, fun h2 => ?_⟩
  · have : openF p = ([], checkKindsF p.kinds) := by simp only [openF, badNum, h1, h2, Bool.false_eq_true, if_false, if_true]
    rw [this]; exact ⟨fun _ => False, wkv_tup ⟨.nil_sl _ _, .same _, trivial⟩⟩
  have hg : Good p := good_of h1 (by simpa using h2)
  refine call_f (args' := []) (cells_c p hg hs.kinds) ?_
  simp only [go_sem]
  refine ⟨fun h3 => ?_, fun h3 => ?_⟩
  · have : openF p = ([], (cellsF p).2) := by simp only [openF, badNum, h1, h2, h3, Bool.false_eq_true, if_false, if_true]
    rw [this]; exact ⟨fun _ => False, wkv_tup ⟨.nil_sl _ _, .same _, trivial⟩⟩
  refine ⟨fun h4 => ?_, fun h4 => ?_⟩
  · have : openF p = ([], 2) := by simp only [openF, badNum, h1, h2, h3, h4, Bool.false_eq_true, if_false, if_true]
    rw [this]; exact ⟨fun _ => False, wkv_tup ⟨.nil_sl _ _, .same _, trivial⟩⟩
  have ho : openF p = if firstF (markAt p (cellsF p).1) 0 p.marks.length ≠ 0 then ([], firstF (markAt p (cellsF p).1) 0 p.marks.length) else ((cellsF p).1, 0) := by simp only [openF, badNum, h1, h2, h3, h4, Bool.false_eq_true, if_false]
  rw [ho]
  have hcl := cellsF_len p
  have hsl := hs.slots
  generalize (cellsF p).1 = cl at *
  have hml := hs.marks
  refine loop_of (fun m τ σ => ∃ i : Nat, i ≤ p.marks.length ∧ m = p.marks.length - i ∧ firstF (markAt p cl) i (p.marks.length - i) = firstF (markAt p cl) 0 p.marks.length ∧ τ = [(52, .int .i64 i), (51, .int .i64 p.marks.length), (50, encL 2 encPt p.marks), (1, .ptr (some b) 7 0 0), (5, encL 4 encRc cl)] ∧ σ = [(some b, ⟨1, 1, 7, fun _ => encPn p⟩)])
    p.marks.length _ [(some b, ⟨1, 1, 7, fun _ => encPn p⟩)] (wk_of (fun _ => False) ?_ (wkH_cons (wkR_same get_hd id (Nat.le_refl _)) (WkH.none _ _))) ⟨0, Nat.zero_le _, rfl, rfl, rfl, rfl⟩ ?_
  · simp only [go_sem]
    exact .same _
  rintro m τ σ ⟨i, hi, rfl, hinv, rfl, rfl⟩
  simp only [go_sem]
  refine ⟨fun ht => ?_, fun hf => ?_⟩
  · simp only [decide_eq_true_eq] at ht
    have hlt : i < p.marks.length := by omega
    have hj : ((i : Int)).toNat = i := Int.toNat_natCast i
    simp only [hj]
    rw [firstF_step hlt] at hinv
    refine ⟨by omega, fun b2 hb2 => ?_⟩
    simp only [go_sem] at hb2
    simp only [hb2, go_sem]
    refine call_p (fun _ => False) (isOnPanel_c' p _) (Lend.refl _ _ _) trivial ?_
    simp only [hb2, go_sem]
    refine ⟨fun h5 => ?_, fun h5 => ?_⟩
    · rw [Bool.not_eq_true'] at h5
      have : markAt p cl i = 1 := by simp only [markAt, h5, if_true]
      rw [this, if_pos (by decide)] at hinv
      rw [← hinv, if_pos (by decide)]; exact ⟨fun _ => False, wkv_tup ⟨.nil_sl _ _, .same _, trivial⟩⟩
    rw [Bool.not_eq_false'] at h5
    refine call_p (fun _ => True) (containsFunc_Rc cl _ [.iptr (encPt (p.marks.getD i default)) 0] (isInF (p.marks.getD i default)) (by omega) fun c _ => open1_c c _)
      ⟨.same _, wkv_fn (by simp [AVal.leaf]) ⟨wkv_ptr trivial get_hd rfl Nat.one_pos rfl rfl, trivial⟩, trivial⟩ trivial ?_
    simp only [hb2, go_sem]
    refine ⟨fun h6 => ?_, fun h6 => ?_⟩
    · have : markAt p cl i = 12 := by simp only [markAt, h5, h6, Bool.true_eq_false, if_false, if_true]
      rw [this, if_pos (by decide)] at hinv
      rw [← hinv, if_pos (by decide)]; exact ⟨fun _ => False, wkv_tup ⟨.nil_sl _ _, .same _, trivial⟩⟩
    simp only [hj]
    have htl : (p.marks.take i).length = i := by simp; omega
    refine ⟨by omega, qcall_p (fun _ => False) (fun _ => contains_Pt (p.marks.take i) _ (by omega)) (fun _ => ⟨wkv_sl (by rw [htl]; rfl) fun j hj' => ?_, .same _, trivial⟩) trivial ?_⟩
    · rw [htl] at hj'; rw [take_getD hj']
    refine ⟨fun h7 => ?_, fun h7 => ?_⟩
    · have : markAt p cl i = 7 := by simp only [markAt, h5, h6, h7, Bool.true_eq_false, Bool.false_eq_true, if_false, if_true]
      rw [this, if_pos (by decide)] at hinv
      rw [← hinv, if_pos (by decide)]; exact ⟨fun _ => False, wkv_tup ⟨.nil_sl _ _, .same _, trivial⟩⟩
    have : markAt p cl i = 0 := by simp only [markAt, h5, h6, h7, Bool.true_eq_false, Bool.false_eq_true, if_false]
    rw [this, if_neg (by decide)] at hinv
    refine ⟨p.marks.length - (i + 1), _, _, wk_of (fun _ => False) ?_ (wkH_cons (wkR_same (get_ts hb2.2 get_hd) id (Nat.le_refl _)) (WkH.none _ _)), ⟨i + 1, by omega, rfl, hinv, rfl, rfl⟩, by omega⟩
    rw [W64 (by omega) (by omega)]; simp only [go_sem]; exact .same _
  · simp only [decide_eq_false_iff_not] at hf
    have : i = p.marks.length := by omega
    rw [this, firstF_end] at hinv
    rw [← hinv]; simp only [ne_eq, not_true_eq_false, if_false, go_sem]
theorem checkPanel_c (p : Pn) (hs : Fits p) : PCalls Try.prog 32 [encPn p] (.int .i64 (openF p).2) := by
  refine acalls_of Try.func32 (by unfold Try.f32; rfl) (by kernel_rfl) (by kernel_rfl) ?_
  have h1 : True := trivial
  simp only [awp_seq]
  simp only [argSlots]
  dsimp only [Try.f32]
  simp only [go_sem]
  intro b hb
  refine call_f (args' := []) (open_c p hs) ?_
  simp only [go_sem]
end Go.Aw
