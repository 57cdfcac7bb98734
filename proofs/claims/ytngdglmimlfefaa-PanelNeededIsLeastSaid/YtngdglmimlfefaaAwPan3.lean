import Derived.Test.YtngdglmimlfefaaAwPan2
set_option linter.unusedVariables false
set_option linter.unusedSimpArgs false
namespace Go.Aw
open Go.Proofs
def inR (n lo hi : Int) : Bool := decide (lo ≤ n) && decide (n ≤ hi)
def leB (a b : ByteArray) : Bool := Op.bytesLess a.toList b.toList || decide (a = b)
/-- the first fault, or 0 -/
def firstF (f : Nat → Int) : Nat → Nat → Int
  | _, 0 => 0
  | i, n + 1 => if f i ≠ 0 then f i else firstF f (i + 1) n
theorem firstF_step {f : Nat → Int} {i n : Nat} (h : i < n) : firstF f i (n - i) = if f i ≠ 0 then f i else firstF f (i + 1) (n - (i + 1)) := by
  obtain ⟨m, rfl⟩ : ∃ m, n = i + 1 + m := ⟨n - (i + 1), by omega⟩
  rw [show i + 1 + m - i = m + 1 by omega, show i + 1 + m - (i + 1) = m by omega]; rfl
theorem firstF_end {f : Nat → Int} {n : Nat} : firstF f n (n - n) = 0 := by rw [Nat.sub_self]; rfl
def ckAt (l : List Kd) (i : Nat) : Int :=
  if isNameF (l.getD i default).name = false then 5 else
  if (!inR (l.getD i default).w 1 1000000 || !inR (l.getD i default).h 1 1000000) = true then 1 else
  if (decide (0 < (i : Int)) && leB (l.getD i default).name (l.getD (i - 1) default).name) = true then 8 else 0
def checkKindsF (l : List Kd) : Int := if 50 < (l.length : Int) then 2 else firstF (ckAt l) 0 l.length
theorem within_c' (n lo hi : Int) : PCalls Try.prog 47 [.int .i64 n, .int .i64 lo, .int .i64 hi] (.bool (inR n lo hi)) := within_c n lo hi
theorem checkKinds_c (l : List Kd) (hl : l.length < 281474976710656) (hn : ∀ k ∈ l, k.name.size < 281474976710656) : PCalls Try.prog 98 [encL 3 encKd l] (.int .i64 (checkKindsF l)) := by
  refine acalls_of Try.func98 (by unfold Try.f98; rfl) (by kernel_rfl) (by kernel_rfl) ?_
  have h1 : True := trivial
  simp only [awp_seq]
  simp only [argSlots]
  dsimp only [Try.f98]
  simp only [go_sem]
  refine ⟨fun ht => ?_, fun hf => ?_⟩
  · simp only [decide_eq_true_eq] at ht; simp only [checkKindsF, if_pos ht, go_sem]
  simp only [decide_eq_false_iff_not] at hf
  simp only [checkKindsF, if_neg hf]
  refine loop_of (fun m τ σ => ∃ i : Nat, i ≤ l.length ∧ m = l.length - i ∧ firstF (ckAt l) i (l.length - i) = firstF (ckAt l) 0 l.length ∧ τ = [(10, .int .i64 i), (9, .int .i64 l.length), (8, encL 3 encKd l), (0, encL 3 encKd l)] ∧ σ = []) l.length _ [] (wk_of (fun _ => False) ?_ (WkH.none _ _)) ⟨0, Nat.zero_le _, rfl, rfl, rfl, rfl⟩ ?_
  · simp only [go_sem]
    exact .same _
  rintro m τ σ ⟨i, hi, rfl, hinv, rfl, rfl⟩
  simp only [go_sem]
  refine ⟨fun ht => ?_, fun hf => ?_⟩
  · simp only [decide_eq_true_eq] at ht
    have hlt : i < l.length := by omega
    have hj : ((i : Int)).toNat = i := Int.toNat_natCast i
    rw [firstF_step hlt] at hinv
    have hnm := hn _ (getD_mem hlt)
    simp only [hj]
    refine ⟨by omega, fun b hb => ?_⟩
    refine call_p (fun _ => False) (isName_c _ hnm) (Lend.refl _ _ _) trivial ?_
    simp only [go_sem]
    refine ⟨fun hb1 => ?_, fun hb1 => ?_⟩
    · rw [Bool.not_eq_true'] at hb1
      have : ckAt l i = 5 := by simp only [ckAt, hb1, if_true]
      rw [this, if_pos (by decide)] at hinv
      rw [← hinv]; simp only [go_sem]
    rw [Bool.not_eq_false'] at hb1
    refine call_p (fun _ => False) (within_c' _ _ _) (Lend.refl _ _ _) trivial ?_
    simp only [go_sem]
    refine qcall_p (fun _ => False) (fun _ => within_c' _ _ _) (fun _ => Lend.refl _ _ _) trivial ?_
    simp only [go_sem]
    refine ⟨fun hb2 => ?_, fun hb2 => ?_⟩
    · have : ckAt l i = 1 := by simp only [ckAt, hb1, hb2, Bool.true_eq_false, if_false, if_true]
      rw [this, if_pos (by decide)] at hinv
      rw [← hinv]; simp only [go_sem]
    have hw : W .i64 ((i : Int) - 1) = (i : Int) - 1 := W64 (by omega) (by omega)
    have hwn : ((i : Int) - 1).toNat = i - 1 := by omega
    simp only [hw, hwn]
    refine ⟨fun h0 => ?_, fun hb3 => ?_, fun hb3 => ?_⟩
    · simp only [decide_eq_true_eq] at h0; omega
    · have : ckAt l i = 8 := by simp only [ckAt, leB, hb1, hb2, hb3, Bool.true_eq_false, Bool.false_eq_true, if_false, if_true]
      rw [this, if_pos (by decide)] at hinv
      rw [← hinv]; simp only [go_sem]
    · have : ckAt l i = 0 := by simp only [ckAt, leB, hb1, hb2, hb3, Bool.true_eq_false, Bool.false_eq_true, if_false]
      rw [this, if_neg (by decide)] at hinv
      refine ⟨l.length - (i + 1), _, _, wk_of (fun _ => False) ?_ (WkH.none _ _), ⟨i + 1, by omega, rfl, hinv, rfl, rfl⟩, by omega⟩
      rw [W64 (by omega) (by omega)]; simp only [go_sem]; exact .same _
  · simp only [decide_eq_false_iff_not] at hf
    have : i = l.length := by omega
    rw [this, firstF_end] at hinv
    rw [← hinv]; simp only [go_sem]
/-- a panel whose numbers are right -/
structure Good (p : Pn) : Prop where
  w : inR p.w 1 1000000 = true
  h : inR p.h 1 1000000 = true
  rail : inR p.rail 0 1000000 = true
  gap : inR p.gap 0 1000000 = true
  kinds : ∀ k ∈ p.kinds, inR k.w 1 1000000 = true ∧ inR k.h 1 1000000 = true
theorem inR_iff {n lo hi : Int} : inR n lo hi = true ↔ lo ≤ n ∧ n ≤ hi := by simp [inR]
def isOnF (p : Pn) (c : Rc) : Bool := decide (p.rail ≤ c.x0) && decide (p.rail ≤ c.y0) && decide (c.x0 ≤ p.w) && decide (c.y0 ≤ p.h) && decide (c.x1 ≤ p.w - p.rail) && decide (c.y1 ≤ p.h - p.rail)
def cellAt (p : Pn) (out : List Rc) (s : Sl) : Int :=
  if decide (kindAtF p s.board < 0) = true then 5 else
  if (!inR s.q 0 3 || !inR s.at_.x 0 p.w || !inR s.at_.y 0 p.h) = true then 1 else
  if isOnF p (cellOfF p s) = false then 1 else
  if anyF (fun d => !isApartF (cellOfF p s) d p.gap) out = true then 12 else 0
def cellsFrom (p : Pn) : List Rc → List Sl → List Rc × Int
  | out, [] => (out, 0)
  | out, s :: l => if cellAt p out s ≠ 0 then ([], cellAt p out s) else cellsFrom p (out ++ [cellOfF p s]) l
def cellsF (p : Pn) : List Rc × Int := if 500 < (p.slots.length : Int) then ([], 2) else cellsFrom p [] p.slots
theorem cells1_c (c d : Rc) (p : Pn) (hc : SmR c) (hd : SmR d) (hg : Sm p.gap) : PCalls Try.prog 128 [encRc d, .iptr (encRc c) 0, .iptr (encPn p) 0] (.bool (!isApartF c d p.gap)) := by
  refine acalls_of Try.func128 (by unfold Try.f128; rfl) (by kernel_rfl) (by kernel_rfl) ?_
  have h1 : True := trivial
  simp only [awp_seq]
  simp only [argSlots]
  dsimp only [Try.f128]
  simp only [go_sem]
  intro b hb
  refine call_p (fun _ => False) (isApart_c c d p.gap hc hd hg) (Lend.refl _ _ _) trivial ?_
  simp only [go_sem]
def isInF (q : Pt) (c : Rc) : Bool := decide (c.x0 < q.x) && decide (q.x < c.x1) && decide (c.y0 < q.y) && decide (q.y < c.y1)
theorem open1_c (c : Rc) (q : Pt) : PCalls Try.prog 100 [encRc c, .iptr (encPt q) 0] (.bool (isInF q c)) := by
  refine acalls_of Try.func100 (by unfold Try.f100; rfl) (by kernel_rfl) (by kernel_rfl) ?_
  have h1 : True := trivial
  simp only [awp_seq]
  simp only [argSlots]
  dsimp only [Try.f100]
  simp only [go_sem]
  intro b hb
  refine call_p (fun _ => False) (isInside_c c q) (Lend.refl _ _ _) trivial ?_
  unfold isInF
  simp only [go_sem]
theorem isOn_c' (p : Pn) (c : Rc) (hp : Sm p.w ∧ Sm p.h ∧ Sm p.rail) : PCalls Try.prog 77 [encPn p, encRc c] (.bool (isOnF p c)) := isOn_c p c hp
theorem getD_drop {α : Type} [Inhabited α] (l : List α) (i : Nat) : (l.drop i).getD 0 default = l.getD i default := by
  simp [List.getD_eq_getElem?_getD]
theorem cells_c (p : Pn) (hp : Good p) (hl : p.kinds.length < 281474976710656) : PCalls Try.prog 99 [encPn p] (tup [encL 4 encRc (cellsF p).1, .int .i64 (cellsF p).2]) := by
  refine acalls_of Try.func99 (by unfold Try.f99; rfl) (by kernel_rfl) (by kernel_rfl) ?_
  have h1 : True := trivial
  simp only [awp_seq]
  simp only [argSlots]
  dsimp only [Try.f99]
  simp only [go_sem]
  intro b hb
  refine ⟨fun ht => ?_, fun hf => ?_⟩
  · simp only [decide_eq_true_eq] at ht; simp only [cellsF, if_pos ht, go_sem]
    exact ⟨fun _ => False, wkv_tup ⟨.nil_sl _ _, .same _, trivial⟩⟩
  simp only [decide_eq_false_iff_not] at hf
  have hcf : cellsF p = cellsFrom p [] p.slots := by simp only [cellsF, if_neg hf]
  have hpw := inR_iff.1 hp.w
  have hph := inR_iff.1 hp.h
  have hpr := inR_iff.1 hp.rail
  have hpg := inR_iff.1 hp.gap
  refine loop_of (fun m τ σ => ∃ (i : Nat) (out : List Rc) (k : Option Nat) (cap : Nat), i ≤ p.slots.length ∧ m = p.slots.length - i ∧ out.length = i ∧ (∀ d ∈ out, SmR d) ∧ cellsFrom p out (p.slots.drop i) = cellsF p ∧ out.length ≤ cap ∧ (¬ some b = k ∧ ¬ k = some b) ∧ (k = none → out.length = 0) ∧
    τ = [(15, .int .i64 i), (14, .int .i64 p.slots.length), (13, encL 4 encSl p.slots), (1, .ptr (some b) 7 0 0), (4, .sref k 0 4 out.length cap)] ∧ σ = [(k, ⟨out.length, cap, 4, fun j => encRc (out.getD j default)⟩), (some b, ⟨1, 1, 7, fun _ => encPn p⟩)])
    p.slots.length _ [(none, ⟨0, 0, 4, fun j => encRc (([] : List Rc).getD j default)⟩), (some b, ⟨1, 1, 7, fun _ => encPn p⟩)] (wk_of (fun _ => False) ?_ (wkH_cons (wkR_none rfl) (wkH_cons (wkR_same (by simp only [go_sem]) id (Nat.le_refl _)) (WkH.none _ _))))
    ⟨0, [], none, 0, Nat.zero_le _, rfl, rfl, nofun, by rw [hcf]; rfl, Nat.le_refl _, ⟨nofun, nofun⟩, fun _ => rfl, rfl, rfl⟩ ?_
  · simp only [go_sem]
    exact ⟨.same _, .nil_ref 4⟩
  rintro m τ σ ⟨i, out, k, cap, hi, rfl, hol, hsm, hinv, hcap, hk1, hk0, rfl, rfl⟩
  simp only [hk1, go_sem]
  refine ⟨fun ht => ?_, fun hf => ?_⟩
  · simp only [decide_eq_true_eq] at ht
    have hlt : i < p.slots.length := by omega
    have hj : ((i : Int)).toNat = i := Int.toNat_natCast i
    simp only [hj]
    refine ⟨by omega, fun b2 hb2 => ?_⟩
    simp only [go_sem] at hb2
    simp only [hb2, hk1, go_sem]
    rw [drop_get hlt] at hinv
    simp only [cellsFrom] at hinv
    have hsm2 := getD_mem hlt
    generalize p.slots.getD i default = s at *
    refine call_p (fun _ => False) (kindAt_c p _ hl) (Lend.refl _ _ _) trivial ?_
    simp only [hb2, hk1, go_sem]
    refine ⟨fun h5 => ?_, fun h5 => ?_⟩
    · have : cellAt p out s = 5 := by simp only [cellAt, if_pos h5]
      rw [this, if_pos (by decide)] at hinv
      rw [← hinv]; exact ⟨fun _ => False, wkv_tup ⟨.nil_sl _ _, .same _, trivial⟩⟩
    refine call_p (fun _ => False) (within_c' _ _ _) (Lend.refl _ _ _) trivial ?_
    simp only [hb2, hk1, go_sem]
    refine qcall_p (fun _ => False) (fun _ => within_c' _ _ _) (fun _ => Lend.refl _ _ _) trivial ?_
    simp only [hb2, hk1, go_sem]
    refine qcall_p (fun _ => False) (fun _ => within_c' _ _ _) (fun _ => Lend.refl _ _ _) trivial ?_
    simp only [hb2, hk1, go_sem]
    refine ⟨fun h1 => ?_, fun h1 => ?_⟩
    · have : cellAt p out s = 1 := by simp only [cellAt, h5, Bool.false_eq_true, if_false, if_pos h1]
      rw [this, if_pos (by decide)] at hinv
      rw [← hinv]; exact ⟨fun _ => False, wkv_tup ⟨.nil_sl _ _, .same _, trivial⟩⟩
    have hk : 0 ≤ kindAtF p s.board ∧ kindAtF p s.board < p.kinds.length := by
      simp only [decide_eq_false_iff_not] at h5
      rcases idxF_le (fun k => decide (k.name = s.board)) p.kinds 0 (Int.le_refl _) with h | h
      · have : kindAtF p s.board = -1 := h; omega
      · have : 0 ≤ kindAtF p s.board ∧ kindAtF p s.board < 0 + p.kinds.length := h; omega
    have hat : (0 ≤ s.at_.x ∧ s.at_.x ≤ p.w) ∧ (0 ≤ s.at_.y ∧ s.at_.y ≤ p.h) := by
      simp only [Bool.or_eq_false_iff, Bool.not_eq_false', inR_iff] at h1; exact ⟨h1.1.2, h1.2⟩
    have hks : ∀ k ∈ p.kinds, Sm k.w ∧ Sm k.h := fun k hk => by
      have h2 := hp.kinds k hk
      have h3 := inR_iff.1 h2.1
      have h4 := inR_iff.1 h2.2
      unfold Sm; omega
    have hkk := hp.kinds _ (getD_mem (l := p.kinds) (i := (kindAtF p s.board).toNat) (by omega))
    have hsc : SmR (cellOfF p s) := by
      have h3 := inR_iff.1 hkk.1
      have h4 := inR_iff.1 hkk.2
      unfold SmR Sm cellOfF sizeOfF
      simp only
      split <;> omega
    refine call_p (fun _ => False) (cellOf_c p s hl hk.1 hk.2 (by unfold Sm; omega) (by unfold Sm; omega) hks) (Lend.refl _ _ _) ?_ ?_
    · intro j hj; rcases j with _ | _ | _ | _ | j <;> first | trivial | (simp at hj; omega)
    simp only [hb2, hk1, go_sem]
    generalize hc : cellOfF p s = c at *
    intro b3 hb3
    simp only [go_sem] at hb3
    simp only [hb3, hb2, hk1, go_sem]
    refine call_p (fun _ => False) (isOn_c' p c (by unfold Sm; omega)) (Lend.refl _ _ _) trivial ?_
    simp only [hb3, hb2, hk1, go_sem]
    refine ⟨fun h2 => ?_, fun h2 => ?_⟩
    · rw [Bool.not_eq_true'] at h2
      have : cellAt p out s = 1 := by simp only [cellAt, hc, h5, h1, h2, Bool.false_eq_true, if_false, if_true]
      rw [this, if_pos (by decide)] at hinv
      rw [← hinv]; exact ⟨fun _ => False, wkv_tup ⟨.nil_sl _ _, .same _, trivial⟩⟩
    rw [Bool.not_eq_false'] at h2
    refine call_p (fun _ => True) (containsFunc_Rc out _ [.iptr (encRc c) 0, .iptr (encPn p) 0] (fun d => !isApartF c d p.gap) (by omega) fun d hd => cells1_c c d p hsc (hsm d hd) (by unfold Sm; omega))
      ⟨wkv_L hk0 (fun _ _ => trivial) (get_tl hb3.2.1.2 (get_tl hb2.1.2 get_hd)) rfl (Nat.le_refl _) (fun _ _ => rfl), wkv_fn (by simp [AVal.leaf]) ⟨wkv_ptr trivial get_hd rfl Nat.one_pos rfl rfl, wkv_ptr trivial (get_ts hb3.2.2.2 (get_ts hb2.2.2 (get_tl hk1.1 get_hd))) rfl Nat.one_pos rfl rfl, trivial⟩, trivial⟩ trivial ?_
    simp only [hb3, hb2, hk1, go_sem]
    refine ⟨fun h3 => ?_, fun h3 => ?_⟩
    · have : cellAt p out s = 12 := by simp only [cellAt, hc, h5, h1, h2, h3, Bool.false_eq_true, Bool.true_eq_false, if_false, if_true]
      rw [this, if_pos (by decide)] at hinv
      rw [← hinv]; exact ⟨fun _ => False, wkv_tup ⟨.nil_sl _ _, .same _, trivial⟩⟩
    have h0 : cellAt p out s = 0 := by simp only [cellAt, hc, h5, h1, h2, h3, Bool.false_eq_true, Bool.true_eq_false, if_false]
    rw [h0, if_neg (by decide)] at hinv
    intro b4 hb4
    simp only [go_sem] at hb4
    refine ⟨by simp only [elemsOk, go_sem], ?_⟩
    have hlen : (out ++ [c]).length = out.length + 1 := by simp
    refine append_use (fun j => encRc ((out ++ [c]).getD j default)) (by simp only [readS, go_sem]; rfl) (by simp only [go_sem]) (get_tl hb4.2.2.1.2 (get_tl hb3.2.1.2 (get_tl hb2.1.2 get_hd))) (Nat.le_refl _) rfl rfl (by simp only [go_sem]) (by simp only [go_sem, by_Rc]; omega) (fun j hj => ?_) (fun j hj => ?_) ?_
    · simp only [getD_app, if_pos hj]
    · have : j = 0 := by omega
      subst this; simp only [getD_app, Nat.add_zero, Nat.lt_irrefl, if_false, if_true]; rfl
    intro k' cap' hk' h0' hcap'
    have hkb := apart_new hk' hk1.1 (get_ts hb4.2.2.2.2 (get_ts hb3.2.2.2 (get_ts hb2.2.2 (get_tl hk1.1 get_hd))))
    refine ⟨p.slots.length - (i + 1), _, _, wk_of (fun _ => False) ?_ (wkH_cons (wkR_row get_hd h0' (fun _ _ => id) (Nat.le_refl _) hcap' (Nat.le_refl _) rfl (fun _ _ => .same _)) (wkH_cons (wkR_same (get_tl hkb.1 (get_er hk1.1 (get_ts hb4.2.2.2.2 (get_ts hb3.2.2.2 (get_ts hb2.2.2 (get_tl hk1.1 get_hd)))))) id (Nat.le_refl _)) (WkH.none _ _))),
      ⟨i + 1, out ++ [c], k', cap', by omega, rfl, by omega, ?_, hinv, by omega, hkb, by rw [hlen]; exact h0', rfl, by rw [hlen]⟩, by omega⟩
    · rw [W64 (by omega) (by omega)]; simp only [go_sem, hlen]; exact .same _
    · intro d hd
      rcases List.mem_append.1 hd with h | h
      · exact hsm d h
      · rw [List.mem_singleton.1 h]; exact hsc
  · simp only [decide_eq_false_iff_not] at hf
    have : i = p.slots.length := by omega
    rw [this, List.drop_length] at hinv
    rw [← hinv]; simp only [cellsFrom, go_sem]
    exact ⟨fun _ => True, wkv_tup ⟨wkv_L hk0 (fun _ _ => trivial) get_hd rfl (Nat.le_refl _) (fun _ _ => rfl), .same _, trivial⟩⟩
end Go.Aw
