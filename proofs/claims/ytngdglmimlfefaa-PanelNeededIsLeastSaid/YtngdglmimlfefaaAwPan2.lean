import Derived.Test.YtngdglmimlfefaaAwPan
set_option linter.unusedVariables false
set_option linter.unusedSimpArgs false
namespace Go.Aw
open Go.Proofs
def anyF {α : Type} (p : α → Bool) (l : List α) : Bool := decide (0 ≤ idxF p l 0)
theorem indexFunc_Rc (l : List Rc) (g : Nat) (caps : List AVal) (p : Rc → Bool) (hl : l.length < 281474976710656) (hp : ∀ a ∈ l, PCalls Try.prog g (encRc a :: caps) (.bool (p a))) :
    PCalls Try.prog 117 [encL 4 encRc l, fn g caps] (.int .i64 (idxF p l 0)) := by
  refine acalls_of Try.func117 (by unfold Try.f117; rfl) (by kernel_rfl) (by kernel_rfl) ?_
  have h1 : True := trivial
  simp only [awp_seq]
  simp only [argSlots]
  dsimp only [Try.f117]
  simp only [go_sem]
  refine loop_of (fun m τ σ => ∃ i : Nat, i ≤ l.length ∧ m = l.length - i ∧ idxF p (l.drop i) i = idxF p l 0 ∧ τ = [(8, .int .i64 i), (7, .int .i64 l.length), (0, encL 4 encRc l), (1, fn g caps)] ∧ σ = []) l.length _ [] (wk_of (fun _ => False) ?_ (WkH.none _ _)) ⟨0, Nat.zero_le _, rfl, rfl, rfl, rfl⟩ ?_
  · simp only [go_sem]
    exact .same _
  rintro m τ σ ⟨i, hi, rfl, hinv, rfl, rfl⟩
  simp only [go_sem]
  refine ⟨fun ht => ?_, fun hf => ?_⟩
  · simp only [decide_eq_true_eq] at ht
    have hlt : i < l.length := by omega
    have hj : ((i : Int)).toNat = i := Int.toNat_natCast i
    simp only [hj]
    refine ⟨by omega, call_p (fun _ => False) (hp _ (getD_mem hlt)) (Lend.refl _ _ _) trivial ?_⟩
    rw [drop_get hlt] at hinv
    refine ⟨fun hp1 => ?_, fun hp1 => ?_⟩
    · simp only [idxF, hp1, if_true] at hinv
      rw [← hinv]; simp only [go_sem]
    · simp only [idxF, hp1, Bool.false_eq_true, if_false] at hinv
      refine ⟨l.length - (i + 1), _, _, wk_of (fun _ => False) ?_ (WkH.none _ _), ⟨i + 1, by omega, rfl, ?_, rfl, rfl⟩, by omega⟩
      · rw [W64 (by omega) (by omega)]; simp only [go_sem]; exact .same _
      · rw [← hinv]; rfl
  · simp only [decide_eq_false_iff_not] at hf
    have : i = l.length := by omega
    rw [this, List.drop_length] at hinv
    rw [← hinv]; simp only [idxF, go_sem]
theorem containsFunc_Rc (l : List Rc) (g : Nat) (caps : List AVal) (p : Rc → Bool) (hl : l.length < 281474976710656) (hp : ∀ a ∈ l, PCalls Try.prog g (encRc a :: caps) (.bool (p a))) :
    PCalls Try.prog 78 [encL 4 encRc l, fn g caps] (.bool (anyF p l)) := by
  refine acalls_of Try.func78 (by unfold Try.f78; rfl) (by kernel_rfl) (by kernel_rfl) ?_
  have h1 : True := trivial
  simp only [awp_seq]
  simp only [argSlots]
  dsimp only [Try.f78]
  simp only [go_sem]
  refine call_p (fun _ => False) (indexFunc_Rc l g caps p hl hp) (Lend.refl _ _ _) trivial ?_
  unfold anyF
  simp only [go_sem]
def SmR (r : Rc) : Prop := Sm r.x0 ∧ Sm r.y0 ∧ Sm r.x1 ∧ Sm r.y1
def isApartF (a b : Rc) (gap : Int) : Bool := decide (a.x1 + gap ≤ b.x0) || decide (b.x1 + gap ≤ a.x0) || decide (a.y1 + gap ≤ b.y0) || decide (b.y1 + gap ≤ a.y0)
theorem isApart_c (a b : Rc) (gap : Int) (ha : SmR a) (hb : SmR b) (hg : Sm gap) : PCalls Try.prog 80 [encRc a, encRc b, .int .i64 gap] (.bool (isApartF a b gap)) := by
  refine acalls_of Try.func80 (by unfold Try.f80; rfl) (by kernel_rfl) (by kernel_rfl) ?_
  have h1 : True := trivial
  simp only [awp_seq]
  simp only [argSlots]
  dsimp only [Try.f80]
  simp only [go_sem]
  intro b1 hb1 b2 hb2
  simp only [go_sem] at hb2
  simp only [hb2, go_sem]
  rw [(ha.2.2.1.w2 hg).1, (hb.2.2.1.w2 hg).1, (ha.2.2.2.w2 hg).1, (hb.2.2.2.w2 hg).1]
  unfold isApartF
  simp only [go_sem]
theorem isInside_c (a : Rc) (q : Pt) : PCalls Try.prog 83 [encRc a, encPt q] (.bool (decide (a.x0 < q.x) && decide (q.x < a.x1) && decide (a.y0 < q.y) && decide (q.y < a.y1))) := by
  refine acalls_of Try.func83 (by unfold Try.f83; rfl) (by kernel_rfl) (by kernel_rfl) ?_
  have h1 : True := trivial
  simp only [awp_seq]
  simp only [argSlots]
  dsimp only [Try.f83]
  simp only [go_sem]
  intro b1 hb1 b2 hb2
  simp only [go_sem] at hb2
  simp only [hb2, go_sem]
theorem isOn_c (p : Pn) (c : Rc) (hp : Sm p.w ∧ Sm p.h ∧ Sm p.rail) : PCalls Try.prog 77 [encPn p, encRc c] (.bool (decide (p.rail ≤ c.x0) && decide (p.rail ≤ c.y0) && decide (c.x0 ≤ p.w) && decide (c.y0 ≤ p.h) && decide (c.x1 ≤ p.w - p.rail) && decide (c.y1 ≤ p.h - p.rail))) := by
  refine acalls_of Try.func77 (by unfold Try.f77; rfl) (by kernel_rfl) (by kernel_rfl) ?_
  have h1 : True := trivial
  simp only [awp_seq]
  simp only [argSlots]
  dsimp only [Try.f77]
  simp only [go_sem]
  intro b1 hb1 b2 hb2
  simp only [go_sem] at hb2
  simp only [hb2, go_sem]
  rw [(hp.1.w2 hp.2.2).2, (hp.2.1.w2 hp.2.2).2]
  simp only [go_sem]
theorem isOnPanel_c (p : Pn) (q : Pt) : PCalls Try.prog 60 [encPn p, encPt q] (.bool ((decide (0 ≤ q.x) && decide (q.x ≤ p.w)) && (decide (0 ≤ q.y) && decide (q.y ≤ p.h)))) := by
  refine acalls_of Try.func60 (by unfold Try.f60; rfl) (by kernel_rfl) (by kernel_rfl) ?_
  have h1 : True := trivial
  simp only [awp_seq]
  simp only [argSlots]
  dsimp only [Try.f60]
  simp only [go_sem]
  intro b1 hb1 b2 hb2
  simp only [go_sem] at hb2
  simp only [hb2, go_sem]
  refine call_p (fun _ => False) (within_c _ _ _) (Lend.refl _ _ _) trivial ?_
  simp only [hb2, go_sem]
  refine qcall_p (fun _ => False) (fun _ => within_c _ _ _) (fun _ => Lend.refl _ _ _) trivial ?_
  simp only [go_sem]
end Go.Aw
