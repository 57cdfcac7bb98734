/- NqMk2: a part of the proof. -/
import Derived.Test.YtngdglmimlfefaaNqMk1
set_option linter.unusedVariables false
set_option linter.unusedSimpArgs false
set_option maxRecDepth 100000
namespace Go.Nw
open Go.Proofs Go.Sort
def leT (t u : TTurn) : Prop := t.At.Y < u.At.Y ∨ t.At.Y = u.At.Y ∧ t.At.X ≤ u.At.X
theorem sortT {l : List TTurn} (hb : ∀ x ∈ l, Bdd_TTurn x) (hl : l.length < 1000000000000) {Q : List TTurn → Prop}
    (k : ∀ r, r.Perm l → r.Pairwise leT → Q r) : Ok (p_slices_SortFunc_Turn_o l fun a b => p_panel_turns_1 a b) Q := by
  have hf : ∀ x y, Bdd_TTurn x → Bdd_TTurn y → p_panel_turns_1 x y = some (if x.At.Y = y.At.Y then x.At.X - y.At.X else x.At.Y - y.At.Y) := fun x y hx hy => by
    unfold p_panel_turns_1
    simp only [Bdd_TTurn] at hx hy
    by_cases c : x.At.Y = y.At.Y
    · rw [if_pos c, if_pos c, if_pos (by omega)]
    · rw [if_neg c, if_neg c, if_pos (by omega)]
  have hlt : ∀ x y, ltOf (cfP clamp_TTurn fun a b => p_panel_turns_1 a b) x y = decide ((clamp_TTurn x).At.Y < (clamp_TTurn y).At.Y ∨ (clamp_TTurn x).At.Y = (clamp_TTurn y).At.Y ∧ (clamp_TTurn x).At.X < (clamp_TTurn y).At.X) := fun x y => by
    unfold ltOf
    rw [cfP, hf _ _ (clamp_bdd_TTurn x) (clamp_bdd_TTurn y)]
    simp only [Option.getD_some]
    refine decide_eq_decide.2 ?_
    split <;> omega
  have hswo : SWO (ltOf (cfP clamp_TTurn fun a b => p_panel_turns_1 a b)) := by
    refine ⟨fun x => ?_, fun x y z => ?_, fun x y z => ?_⟩
    · rw [hlt]; simp
    · rw [hlt, hlt, hlt]; simp only [decide_eq_true_eq]; omega
    · rw [hlt, hlt, hlt]; simp only [decide_eq_false_iff_not]; omega
  obtain ⟨r, h1, h2, h3⟩ := sortP_ok (B := Bdd_TTurn) (cl := clamp_TTurn) (f1 := fun a b => p_panel_turns_1 a b) clamp_id_TTurn hb (fun x y hx hy => by rw [hf x y hx hy]; rfl) hswo (by omega)
  refine ⟨r, h1, k r h2 (h3.imp_of_mem fun {a b} ha hb' h => ?_)⟩
  rw [hlt, clamp_id_TTurn a (hb a (h2.mem_iff.1 ha)), clamp_id_TTurn b (hb b (h2.mem_iff.1 hb'))] at h
  simp only [decide_eq_false_iff_not] at h; unfold leT; omega
def IsT (l m : List TPoint) : Nat → List TTurn → Prop
  | 0, T => T = []
  | k + 1, T => ∃ T' S, T = T' ++ S ∧ IsT l m k T' ∧ S.Perm (block l m k m.length) ∧ S.Pairwise leT
theorem isT_len {l m : List TPoint} : ∀ {k : Nat} {T : List TTurn}, IsT l m k T → T.length = (blk l m k).length
  | 0, T, h => by cases h; rfl
  | k + 1, T, ⟨T', S, e, h1, h2, h3⟩ => by rw [e, blk, List.length_append, List.length_append, isT_len h1, h2.length_eq]
def HeadP (R : List TTurn) (t : TTurn) : Prop := t ∈ R ∧ t.Quarters = (R.getD 0 default).Quarters ∧ ∀ u ∈ R, u.Quarters = t.Quarters → leT t u
theorem head_eq {l m : List TPoint} {k : Nat} {t u : TTurn} (ht : HeadP (blk l m k) t) (hu : HeadP (blk l m k) u) : t = u := by
  obtain ⟨t1, t2, t3⟩ := ht
  obtain ⟨u1, u2, u3⟩ := hu
  have h1 := t3 u u1 (by rw [u2, t2])
  have h2 := u3 t t1 (by rw [u2, t2])
  obtain ⟨x, -, q, -, e⟩ := blk_mem t1
  obtain ⟨y, -, r, -, e'⟩ := blk_mem u1
  unfold leT at h1 h2
  have f1 : t.Flip = false := by rw [e]; rfl
  have f2 : u.Flip = false := by rw [e']; rfl
  ext
  · rw [f1, f2]
  · rw [u2, t2]
  · omega
  · omega
theorem isT_head {l m : List TPoint} : ∀ {k : Nat} {T : List TTurn}, IsT l m k T → 0 < T.length → HeadP (blk l m k) (T.getD 0 default)
  | 0, T, h, hn => by cases h; simp at hn
  | k + 1, T, ⟨T', S, e, h1, h2, h3⟩, hn => by
    subst e
    have hl := isT_len h1
    by_cases c : 0 < T'.length
    · obtain ⟨a1, a2, a3⟩ := isT_head h1 c
      have e1 : (T' ++ S).getD 0 default = T'.getD 0 default := by simp [List.getElem?_append_left c]
      have e2 : (blk l m (k + 1)).getD 0 default = (blk l m k).getD 0 default := by rw [blk]; simp [List.getElem?_append_left (show 0 < (blk l m k).length by omega)]
      rw [e1]
      refine ⟨by rw [blk]; exact List.mem_append_left _ a1, by rw [e2]; exact a2, fun u hu hq => ?_⟩
      rw [blk] at hu
      rcases List.mem_append.1 hu with hu | hu
      · exact a3 u hu hq
      · obtain ⟨x, -, e⟩ := block_mem hu
        obtain ⟨y, -, q, hqk, e'⟩ := blk_mem a1
        rw [e, e'] at hq
        simp only [toT] at hq
        omega
    · have eT : T' = [] := List.eq_nil_of_length_eq_zero (by omega)
      have eB : blk l m k = [] := List.eq_nil_of_length_eq_zero (by rw [← hl, eT]; rfl)
      subst eT
      simp only [List.nil_append] at hn ⊢
      have hm : ∀ u, u ∈ blk l m (k + 1) ↔ u ∈ S := fun u => by rw [blk, eB, List.nil_append]; exact h2.mem_iff.symm
      have hq : ∀ u ∈ blk l m (k + 1), u.Quarters = (k : Int) := fun u hu => by
        rw [blk, eB, List.nil_append] at hu
        obtain ⟨x, -, e⟩ := block_mem hu; rw [e]; rfl
      have hS : S.getD 0 default ∈ S := getD_mem hn
      have hB : 0 < (blk l m (k + 1)).length := by rw [blk, eB, List.nil_append, ← h2.length_eq]; exact hn
      refine ⟨(hm _).2 hS, by rw [hq _ ((hm _).2 hS), hq _ (getD_mem hB)], fun u hu _ => ?_⟩
      obtain ⟨i, hi, rfl⟩ := List.getElem_of_mem ((hm u).1 hu)
      have e0 : S.getD 0 default = S[0] := by simp [hn]
      rw [e0]
      by_cases c : i = 0
      · subst c; unfold leT; omega
      · exact List.pairwise_iff_getElem.1 h3 0 i hn hi (by omega)
theorem o_panel_turns {l m : List TPoint} (hl : l.length ≤ 10) (hm : m.length ≤ 10) (hn : 0 < l.length) (sl : ∀ p ∈ l, Sm p) (sm : ∀ p ∈ m, Sm p) {Q : List TTurn → Prop} (k : ∀ T, IsT l m 4 T → Q T) : Ok (p_panel_turns l m) Q := by
  unfold p_panel_turns
  refine ok_then ?_
  refine ok_for 4 (fun i out => IsT l m i out) rfl ?_ ?_
  · intro i out hi hI
    simp only [show Int.toNat 0 = 0 from rfl, Int.toNat_natCast]
    rw [if_pos (by omega)]
    refine ok_then (ok_then ?_)
    have hy := y0_sm (q := (i : Int)) sl hn
    obtain ⟨y, hyy⟩ : ∃ y, y = y0F l (i : Int) := ⟨_, rfl⟩
    rw [← hyy] at hy
    refine ok_for m.length (fun j out => out = block l m i j) (by simp [block]) ?_ ?_
    · rintro j out hj rfl
      have hx := sm _ (getD_mem (d := default) hj)
      have ht := toT_ok sl hn hx (q := (i : Int)) (by omega) (by omega)
      have hb2 := block_len l m i j
      have hs := block_step (l := l) (q := (i : Int)) hj
      unfold Sm at hx hy
      simp only [Int.toNat_natCast]
      rw [if_pos (by omega)]
      refine ok_then ?_
      rw [if_pos (by omega), if_pos (by omega)]
      refine ok_then (o_shape_TurnPoint (sl _ (getD_mem hn)).near (by unfold Near; simp) (by simp only; omega) ?_)
      rw [show turnF (l.getD 0 default) { Quarters := (i : Int) } = y from hyy.symm]
      rw [if_pos (by omega), if_pos (by omega)]
      have et : ({ Quarters := (i : Int), At := { X := (m.getD j default).X - y.X, Y := (m.getD j default).Y - y.Y } } : TTurn) = toT l i (m.getD j default) := by rw [hyy]; rfl
      rw [et]
      refine ok_then (o_panel_takes hl hm sl ht ?_)
      by_cases hk : takesF (toT l i (m.getD j default)) l m = true
      · rw [if_pos hk] at hs
        rw [if_pos hk, if_pos (by omega)]
        refine ok_some ?_
        rw [if_pos (by omega)]
        exact ok_some ⟨rfl, hs.symm⟩
      · rw [if_neg hk] at hs
        rw [if_neg hk]
        refine ok_some ?_
        rw [if_pos (by omega)]
        exact ok_some ⟨rfl, hs.symm⟩
    · rintro S rfl
      simp only
      rw [if_neg (by omega)]
      refine ok_some ?_
      simp only
      have hb2 := block_len l m i m.length
      refine ok_then (sortT (fun t ht => ?_) (by omega) fun r hp hs => ?_)
      · obtain ⟨x, hx, e⟩ := block_mem ht
        have := toT_ok sl hn (sm x hx) (q := (i : Int)) (by omega) (by omega)
        rw [← e] at this
        have a := this.q0; have b := this.q; have c := this.at'
        unfold Bdd_TTurn; omega
      · have hlen := isT_len hI
        have hbl := blk_len l m i
        have hb3 : i * m.length ≤ 4 * 10 := Nat.mul_le_mul (by omega) hm
        have hpl := hp.length_eq
        rw [if_pos ⟨by omega, by rw [List.length_take]; omega⟩]
        refine ok_some ?_
        rw [if_pos (by omega), List.take_of_length_le (by omega)]
        exact ok_some ⟨rfl, _, r, rfl, hI, hp, hs⟩
  · intro out hI
    simp only
    rw [if_neg (by omega)]
    exact ok_some (ok_some (k out hI))
/-- marks of a right panel -/
theorem marks_ok {p : TPanel} (h : checkF p = 0) : p.Marks.length ≤ 10 ∧ ∀ q ∈ p.Marks, Sm q := by
  unfold checkF at h
  by_cases c : rgsF p = true
  · rw [if_pos c] at h; cases h
  rw [if_neg c] at h
  by_cases c2 : kindsF p.Kinds = 0
  · rw [if_neg (not_not_intro c2)] at h
    by_cases c3 : slotsF p = 0
    · rw [if_neg (not_not_intro c3)] at h
      unfold marksF at h
      by_cases c4 : 10 < (p.Marks.length : Int)
      · rw [if_pos c4] at h; cases h
      rw [if_neg c4, faultF_eq0] at h
      refine ⟨by omega, fun q hq => ?_⟩
      obtain ⟨i, hi, rfl⟩ := List.getElem_of_mem hq
      have h1 := h i hi
      have o := rgs_of c
      obtain ⟨o1, o2, o3, o4, _⟩ := o
      have h2 : onPanelF p (markD p i) = true := by
        cases hf : onPanelF p (markD p i) with
        | true => rfl
        | false => rw [markFault_1 hf] at h1; cases h1
      have e : markD p i = p.Marks[i] := by simp [markD, hi]
      rw [e] at h2
      simp only [onPanelF, Bool.and_eq_true, decide_eq_true_eq] at h2
      unfold Sm; omega
    · rw [if_pos c3] at h; exact absurd h c3
  · rw [if_pos c2] at h; exact absurd h c2
noncomputable def goodF (p : TPanel) : Bool × Int := if checkF p = 0 then (decide (2 ≤ (p.Marks.length : Int)) && decide (((blk p.Marks p.Marks 4).length : Int) = 1), 0) else (false, checkF p)
theorem o_panel_GoodMarks {p : TPanel} (f : Fits p) {Q : Bool × Int → Prop} (k : Q (goodF p)) : Ok (p_panel_GoodMarks p) Q := by
  unfold p_panel_GoodMarks
  unfold goodF at k
  refine ok_then (o_panel_CheckPanel f ?_)
  by_cases h : checkF p = 0
  · rw [if_pos h] at k ⊢
    obtain ⟨m1, m2⟩ := marks_ok h
    by_cases h2 : 2 ≤ (p.Marks.length : Int)
    · rw [if_pos (decide_eq_true h2)]
      refine ok_then (o_panel_turns m1 m1 (by omega) m2 m2 fun T hT => ?_)
      rw [isT_len hT]; exact ok_some k
    · rw [if_neg (by simp; omega)]
      refine ok_then (ok_some (ok_some ?_))
      rw [decide_eq_false h2] at k ⊢
      exact k
  · rw [if_neg h] at k ⊢; exact ok_some k
theorem o_ref9_GoodMarks {p : TPanel} (f : Fits p) {Q : Bool × Int → Prop} (k : Q (goodF p)) : Ok (p_ref9_GoodMarks p) Q := by
  unfold p_ref9_GoodMarks
  unfold goodF at k
  refine ok_then (o_ref9_CheckPanel f ?_)
  by_cases h : checkF p = 0
  · rw [if_pos h] at k ⊢
    obtain ⟨m1, m2⟩ := marks_ok h
    by_cases h2 : 2 ≤ (p.Marks.length : Int)
    · rw [if_pos (decide_eq_true h2)]
      refine ok_then (o_ref9_turns m1 m1 m2 m2 ?_)
      rw [if_neg (by omega)]; exact ok_some k
    · rw [if_neg (by simp; omega)]
      refine ok_then (ok_some (ok_some ?_))
      rw [decide_eq_false h2] at k ⊢
      exact k
  · rw [if_neg h] at k ⊢; exact ok_some k
end Go.Nw
