/- NqRows: a part of the proof. -/
import Derived.Test.YtngdglmimlfefaaNqGrid
set_option linter.unusedVariables false
set_option linter.unusedSimpArgs false
set_option maxRecDepth 100000
namespace Go.Nw
theorem size0 (k : TBoardKind) : sizeF k 0 = (k.W, k.H) := by simp [sizeF]
theorem size1 (k : TBoardKind) : sizeF k 1 = (k.H, k.W) := by simp [sizeF]
/-- how boards go into rows, some turned -/
structure Ro where
  A : Int
  T : Int
  room : Int
  w : Int
  h : Int
  g : Int
def Ro.b (r : Ro) (n : Int) : Int := if 0 < r.T then manyF (r.room - n * (r.h + r.g)) r.w r.g else 0
def Ro.v (r : Ro) (n : Int) : Int := n * r.A + r.b n * r.T
def Ro.best (r : Ro) : Nat → Nat
  | 0 => 0
  | k + 1 => if r.v (r.best k) ≤ r.v ((k : Int) + 1) then k + 1 else r.best k
theorem Ro.best_is (r : Ro) : ∀ K : Nat, r.best K ≤ K ∧ ∀ j : Nat, j ≤ K → r.v j ≤ r.v (r.best K) ∧ (r.best K < j → r.v j < r.v (r.best K))
  | 0 => ⟨Nat.le_refl _, fun j hj => by obtain rfl : j = 0 := by omega
                                        exact ⟨Int.le_refl _, fun h => by simp [Ro.best] at h⟩⟩
  | K + 1 => by
    obtain ⟨h1, h2⟩ := r.best_is K
    by_cases c : r.v (r.best K) ≤ r.v ((K : Int) + 1)
    · simp only [Ro.best, if_pos c]
      refine ⟨Nat.le_refl _, fun j hj => ?_⟩
      by_cases e : j = K + 1
      · subst e; exact ⟨Int.le_refl _, fun h => by omega⟩
      · have := (h2 j (by omega)).1
        refine ⟨?_, fun h => by omega⟩
        rw [Int.natCast_add]; exact Int.le_trans this c
    · simp only [Ro.best, if_neg c]
      refine ⟨by omega, fun j hj => ?_⟩
      by_cases e : j = K + 1
      · subst e
        rw [Int.natCast_add]
        exact ⟨Int.le_of_lt (Int.not_le.1 c), fun _ => Int.not_le.1 c⟩
      · exact h2 j (by omega)
theorem Ro.best_one (r : Ro) {K n : Nat} (hn : n ≤ K) (h : ∀ j : Nat, j ≤ K → r.v j ≤ r.v n ∧ (n < j → r.v j < r.v n)) : n = r.best K := by
  obtain ⟨h1, h2⟩ := r.best_is K
  rcases Nat.lt_trichotomy n (r.best K) with e | e | e
  · have := (h _ h1).2 e; have := (h2 n hn).1; omega
  · exact e
  · have := (h2 n hn).2 e; have := (h _ h1).1; omega
noncomputable def roF (p : TPanel) (b : ByteArray) : Ro := ⟨colsF p b 0, colsF p b 1, p.H - 2 * p.Rail, (boardF p b).W, (boardF p b).H, p.Gap⟩
noncomputable def mostF (p : TPanel) (b : ByteArray) : Int := linesF p b 0
structure RoOk (r : Ro) : Prop where
  a0 : 0 ≤ r.A
  a1 : r.A ≤ 2000000
  t0 : 0 ≤ r.T
  t1 : r.T ≤ 2000000
  r0 : -2000000 ≤ r.room
  r1 : r.room ≤ 1000000
  w0 : 1 ≤ r.w
  w1 : r.w ≤ 1000000
  h0 : 1 ≤ r.h
  h1 : r.h ≤ 1000000
  g0 : 0 ≤ r.g
  g1 : r.g ≤ 1000000
theorem roOk {p : TPanel} {b : ByteArray} (o : Opn p) (h : 0 ≤ kindF p b) : RoOk (roF p b) := by
  have h1 := cols_b (q := 0) o h
  have h2 := cols_b (q := 1) o h
  have hb := o.board h
  obtain ⟨o1, o2, o3, o4, o5, o6, o7, o8⟩ := id o.toRgs
  exact ⟨h1.1, h1.2, h2.1, h2.2, by simp only [roF]; omega, by simp only [roF]; omega, hb.1, hb.2.1, hb.2.2.1, hb.2.2.2, o7, o8⟩
theorem RoOk.mul {r : Ro} (o : RoOk r) {n : Int} (h0 : 0 ≤ n) (h1 : n ≤ 2000000) : 0 ≤ n * (r.h + r.g) ∧ n * (r.h + r.g) ≤ 4000000000000 := by
  obtain ⟨_, _, _, _, _, _, _, _, c1, c2, c3, c4⟩ := o
  have := mulB (a := n) (b := r.h + r.g) (A := 2000000) (B := 2000000) h0 h1 (by omega) (by omega); omega
theorem RoOk.b {r : Ro} (o : RoOk r) {n : Int} (h0 : 0 ≤ n) (h1 : n ≤ 2000000) : 0 ≤ r.b n ∧ r.b n ≤ 2000000 := by
  have := o.mul h0 h1
  simp only [Ro.b]
  split
  · exact manyF_b (by have := o.r1; omega) o.w0 o.g0 o.g1
  · omega
theorem RoOk.v {r : Ro} (o : RoOk r) {n : Int} (h0 : 0 ≤ n) (h1 : n ≤ 2000000) : (0 ≤ n * r.A ∧ n * r.A ≤ 4000000000000) ∧ 0 ≤ r.b n * r.T ∧ r.b n * r.T ≤ 4000000000000 := by
  have hb := o.b h0 h1
  have m1 := mulB (a := n) (b := r.A) (A := 2000000) (B := 2000000) h0 h1 o.a0 o.a1
  have m2 := mulB (a := r.b n) (b := r.T) (A := 2000000) (B := 2000000) hb.1 hb.2 o.t0 o.t1
  omega
noncomputable def rowsBF (p : TPanel) (b : ByteArray) : TPanel × Int :=
  if checkF p = 0 then
    if kindF p b < 0 then ({}, 9)
    else rowsAll p b 0 (colsF p b 0) ((roF p b).best (mostF p b).toNat : Nat) (colsF p b 1) ((roF p b).b ((roF p b).best (mostF p b).toNat : Nat))
  else ({}, checkF p)
theorem t_panel_Rows {p : TPanel} {b : ByteArray} (f : Fits p) : p_panel_Rows p b = some (rowsBF p b) := by
  apply ok_val
  unfold p_panel_Rows
  have hkk := f.1
  refine ok_then (o_panel_CheckPanel f (ok_if (fun c => ?_) (fun c => ?_)))
  · have g := good_of c
    have o := g.toOpn
    have hlt := kindF_lt p b
    obtain ⟨o1, o2, o3, o4, o5, o6, o7, o8⟩ := id o.toRgs
    (try dsimp only); (repeat' (first | (with_reducible apply s_panel_kindAt; case hd => (intro hc; simp only [Bool.not_not, Bool.not_eq_true, Bool.not_eq_false'] at hc; simp only [hc, Bool.true_or, Bool.false_and, Bool.not_true, Bool.not_false, Bool.or_true, Bool.and_false])) | (with_reducible apply o_panel_kindAt <;> try first | assumption | omega) | (with_reducible apply ok_guard; case h => (first | assumption | omega | (simp; done) | (simp; omega) | (and_intros <;> first | omega | (intro _; omega)) | (simp only [Bool.or_eq_true, Bool.and_eq_true, Bool.not_eq_true', Bool.not_eq_true, Bool.not_eq_false', Bool.not_eq_false, Bool.or_eq_false_iff, Bool.and_eq_false_iff, decide_eq_true_eq, decide_eq_false_iff_not, Bool.not_not, beq_iff_eq, bne_iff_ne] at *; omega))) | (with_reducible apply ok_guard) | (with_reducible apply ok_if <;> intro _) | (with_reducible apply ok_some) | (with_reducible apply ok_esc) | (with_reducible apply ok_then))); (all_goals try dsimp only); (all_goals try (exfalso; omega))
    · rw [rowsBF, if_pos c, if_pos ‹_›]
    · rename_i c2
      have hk := Int.not_lt.1 c2
      have hz := o.board hk
      have hg : rowsBF p b = rowsAll p b 0 (colsF p b 0) ((roF p b).best (mostF p b).toNat : Nat) (colsF p b 1) ((roF p b).b ((roF p b).best (mostF p b).toNat : Nat)) := by rw [rowsBF, if_pos c, if_neg c2]
      have hr := roOk o hk
      have b1 := cols_b (q := 0) o hk
      have b1' := cols_b (q := 1) o hk
      have b2 := lines_b (q := 0) o hk
      have hl : linesF p b 0 = if colsF p b 0 = 0 then 0 else manyF (p.H - 2 * p.Rail) (sizeF (boardF p b) 0).2 p.Gap := rfl
      refine o_panel_sizeOf ?_
      change Ok _ _
      rw [show p.Kinds.getD (kindF p b).toNat default = boardF p b from rfl, size0]
      rw [size0] at hl
      (try dsimp only); (repeat' (first | (with_reducible apply ok_guard; case h => (first | assumption | omega | (simp; done) | (simp; omega) | (and_intros <;> first | omega | (intro _; omega)) | (simp only [Bool.or_eq_true, Bool.and_eq_true, Bool.not_eq_true', Bool.not_eq_true, Bool.not_eq_false', Bool.not_eq_false, Bool.or_eq_false_iff, Bool.and_eq_false_iff, decide_eq_true_eq, decide_eq_false_iff_not, Bool.not_not, beq_iff_eq, bne_iff_ne] at *; omega))) | (with_reducible apply ok_guard) | (with_reducible apply ok_if <;> intro _) | (with_reducible apply ok_some) | (with_reducible apply ok_esc) | (with_reducible apply ok_then))); (all_goals try dsimp only); (all_goals try (exfalso; omega))
      refine o_panel_many (by omega) ⟨hz.1, hz.2.1⟩ ⟨o7, o8⟩ ?_
      (try dsimp only); (repeat' (first | (with_reducible apply ok_guard; case h => (first | assumption | omega | (simp; done) | (simp; omega) | (and_intros <;> first | omega | (intro _; omega)) | (simp only [Bool.or_eq_true, Bool.and_eq_true, Bool.not_eq_true', Bool.not_eq_true, Bool.not_eq_false', Bool.not_eq_false, Bool.or_eq_false_iff, Bool.and_eq_false_iff, decide_eq_true_eq, decide_eq_false_iff_not, Bool.not_not, beq_iff_eq, bne_iff_ne] at *; omega))) | (with_reducible apply ok_guard) | (with_reducible apply ok_if <;> intro _) | (with_reducible apply ok_some) | (with_reducible apply ok_esc) | (with_reducible apply ok_then))); (all_goals try dsimp only); (all_goals try (exfalso; omega))
      refine o_panel_many (by omega) ⟨hz.2.2.1, hz.2.2.2⟩ ⟨o7, o8⟩ ?_
      (try dsimp only); (repeat' (first | (with_reducible apply ok_guard; case h => (first | assumption | omega | (simp; done) | (simp; omega) | (and_intros <;> first | omega | (intro _; omega)) | (simp only [Bool.or_eq_true, Bool.and_eq_true, Bool.not_eq_true', Bool.not_eq_true, Bool.not_eq_false', Bool.not_eq_false, Bool.or_eq_false_iff, Bool.and_eq_false_iff, decide_eq_true_eq, decide_eq_false_iff_not, Bool.not_not, beq_iff_eq, bne_iff_ne] at *; omega))) | (with_reducible apply ok_guard) | (with_reducible apply ok_if <;> intro _) | (with_reducible apply ok_some) | (with_reducible apply ok_esc) | (with_reducible apply ok_then))); (all_goals try dsimp only); (all_goals try (exfalso; omega))
      refine o_panel_many (by omega) ⟨hz.2.2.1, hz.2.2.2⟩ ⟨o7, o8⟩ ?_
      have ec0 : manyF (p.W - 2 * p.Rail) (boardF p b).W p.Gap = colsF p b 0 := by rw [colsF, size0]
      have ec1 : manyF (p.W - 2 * p.Rail) (boardF p b).H p.Gap = colsF p b 1 := by rw [colsF, size1]
      rw [ec0, ec1]
      refine ok_then (ok_mono (P := fun e => e = linesF p b 0) ?_ ?_)
      · rw [hl]
        (try dsimp only); (repeat' (first | (with_reducible apply ok_guard; case h => (first | assumption | omega | (simp; done) | (simp; omega) | (and_intros <;> first | omega | (intro _; omega)) | (simp only [Bool.or_eq_true, Bool.and_eq_true, Bool.not_eq_true', Bool.not_eq_true, Bool.not_eq_false', Bool.not_eq_false, Bool.or_eq_false_iff, Bool.and_eq_false_iff, decide_eq_true_eq, decide_eq_false_iff_not, Bool.not_not, beq_iff_eq, bne_iff_ne] at *; omega))) | (with_reducible apply ok_guard) | (with_reducible apply ok_if <;> intro _) | (with_reducible apply ok_some) | (with_reducible apply ok_esc) | (with_reducible apply ok_then))); (all_goals try dsimp only); (all_goals try (exfalso; omega))
        · rw [if_pos ‹_›]
        · rw [if_neg ‹_›]
      · rintro _ rfl
        refine ok_then (ok_mono (P := fun e => e = ((roF p b).b ((roF p b).best (mostF p b).toNat : Nat), (((roF p b).best (mostF p b).toNat : Nat) : Int))) ?_ ?_)
        · change Ok (loopO (fun (s15 : Int × Int × Int) => if s15.1 ≤ mostF p b then Option.bind (Option.bind (if 0 < (roF p b).T then _ else _) _) _ else _) _) _
          refine ok_for ((mostF p b).toNat + 1) (fun i x => (i = 0 ∧ x = (0, 0)) ∨ ∃ j : Nat, i = j + 1 ∧ x = ((roF p b).b ((roF p b).best j : Nat), (((roF p b).best j : Nat) : Int))) (.inl ⟨rfl, rfl⟩) ?_ ?_
          · intro i x hi hx
            have hM : 0 ≤ mostF p b ∧ mostF p b ≤ 2000000 := b2
            have hm := hr.mul (n := i) (by omega) (by omega)
            have hv := hr.v (n := i) (by omega) (by omega)
            have e1 : Ok (if 0 < (roF p b).T then if -9223372036854775808 ≤ (boardF p b).H + p.Gap ∧ (boardF p b).H + p.Gap ≤ 9223372036854775807 then if -9223372036854775808 ≤ (i : Int) * ((boardF p b).H + p.Gap) ∧ (i : Int) * ((boardF p b).H + p.Gap) ≤ 9223372036854775807 then if -9223372036854775808 ≤ p.H - 2 * p.Rail - (i : Int) * ((boardF p b).H + p.Gap) ∧ p.H - 2 * p.Rail - (i : Int) * ((boardF p b).H + p.Gap) ≤ 9223372036854775807 then Option.bind (p_panel_many (p.H - 2 * p.Rail - (i : Int) * ((boardF p b).H + p.Gap)) (boardF p b).W p.Gap) fun (x23 : Int) => some x23 else none else none else none else some 0) (fun z => z = (roF p b).b i) := by
              have hm' : 0 ≤ (i : Int) * ((boardF p b).H + p.Gap) ∧ (i : Int) * ((boardF p b).H + p.Gap) ≤ 4000000000000 := hm
              (try dsimp only); (repeat' (first | (with_reducible apply ok_guard; case h => (first | assumption | omega | (simp; done) | (simp; omega) | (and_intros <;> first | omega | (intro _; omega)) | (simp only [Bool.or_eq_true, Bool.and_eq_true, Bool.not_eq_true', Bool.not_eq_true, Bool.not_eq_false', Bool.not_eq_false, Bool.or_eq_false_iff, Bool.and_eq_false_iff, decide_eq_true_eq, decide_eq_false_iff_not, Bool.not_not, beq_iff_eq, bne_iff_ne] at *; omega))) | (with_reducible apply ok_guard) | (with_reducible apply ok_if <;> intro _) | (with_reducible apply ok_some) | (with_reducible apply ok_esc) | (with_reducible apply ok_then))); (all_goals try dsimp only); (all_goals try (exfalso; omega))
              · refine o_panel_many (by omega) ⟨hz.1, hz.2.1⟩ ⟨o7, o8⟩ ?_
                (try dsimp only); (repeat' (first | (with_reducible apply ok_guard; case h => (first | assumption | omega | (simp; done) | (simp; omega) | (and_intros <;> first | omega | (intro _; omega)) | (simp only [Bool.or_eq_true, Bool.and_eq_true, Bool.not_eq_true', Bool.not_eq_true, Bool.not_eq_false', Bool.not_eq_false, Bool.or_eq_false_iff, Bool.and_eq_false_iff, decide_eq_true_eq, decide_eq_false_iff_not, Bool.not_not, beq_iff_eq, bne_iff_ne] at *; omega))) | (with_reducible apply ok_guard) | (with_reducible apply ok_if <;> intro _) | (with_reducible apply ok_some) | (with_reducible apply ok_esc) | (with_reducible apply ok_then))); (all_goals try dsimp only); (all_goals try (exfalso; omega))
                simp only [Ro.b, if_pos ‹0 < (roF p b).T›]; rfl
              · simp only [Ro.b, if_neg ‹¬ 0 < (roF p b).T›]
            refine ok_if (fun _ => ?_) (fun h => by exfalso; omega)
            refine ok_then (ok_then (ok_mono e1 ?_))
            rintro _ rfl
            change (0 ≤ (i : Int) * colsF p b 0 ∧ (i : Int) * colsF p b 0 ≤ _) ∧ 0 ≤ (roF p b).b i * colsF p b 1 ∧ (roF p b).b i * colsF p b 1 ≤ _ at hv
            rcases hx with ⟨rfl, rfl⟩ | ⟨j, rfl, rfl⟩
            · (try dsimp only); (repeat' (first | (with_reducible apply ok_guard; case h => (first | assumption | omega | (simp; done) | (simp; omega) | (and_intros <;> first | omega | (intro _; omega)) | (simp only [Bool.or_eq_true, Bool.and_eq_true, Bool.not_eq_true', Bool.not_eq_true, Bool.not_eq_false', Bool.not_eq_false, Bool.or_eq_false_iff, Bool.and_eq_false_iff, decide_eq_true_eq, decide_eq_false_iff_not, Bool.not_not, beq_iff_eq, bne_iff_ne] at *; omega))) | (with_reducible apply ok_guard) | (with_reducible apply ok_if <;> intro _) | (with_reducible apply ok_some) | (with_reducible apply ok_esc) | (with_reducible apply ok_then))); (all_goals try dsimp only); (all_goals try (exfalso; omega))
              · exact ⟨rfl, .inr ⟨0, rfl, rfl⟩⟩
            · have hbj := (roF p b).best_is j
              have hvj := hr.v (n := ((roF p b).best j : Nat)) (by omega) (by omega)
              change (0 ≤ (((roF p b).best j : Nat) : Int) * colsF p b 0 ∧ (((roF p b).best j : Nat) : Int) * colsF p b 0 ≤ _) ∧ 0 ≤ (roF p b).b ((roF p b).best j : Nat) * colsF p b 1 ∧ (roF p b).b ((roF p b).best j : Nat) * colsF p b 1 ≤ _ at hvj
              (try dsimp only); (repeat' (first | (with_reducible apply ok_guard; case h => (first | assumption | omega | (simp; done) | (simp; omega) | (and_intros <;> first | omega | (intro _; omega)) | (simp only [Bool.or_eq_true, Bool.and_eq_true, Bool.not_eq_true', Bool.not_eq_true, Bool.not_eq_false', Bool.not_eq_false, Bool.or_eq_false_iff, Bool.and_eq_false_iff, decide_eq_true_eq, decide_eq_false_iff_not, Bool.not_not, beq_iff_eq, bne_iff_ne] at *; omega))) | (with_reducible apply ok_guard) | (with_reducible apply ok_if <;> intro _) | (with_reducible apply ok_some) | (with_reducible apply ok_esc) | (with_reducible apply ok_then))); (all_goals try dsimp only); (all_goals try (exfalso; omega))
              · rename_i h
                refine ⟨rfl, .inr ⟨j + 1, rfl, ?_⟩⟩
                have : (roF p b).v ((roF p b).best j : Nat) ≤ (roF p b).v ((j : Int) + 1) := h
                simp only [Ro.best, if_pos this]
              · rename_i h
                refine ⟨rfl, .inr ⟨j + 1, rfl, ?_⟩⟩
                have : ¬ (roF p b).v ((roF p b).best j : Nat) ≤ (roF p b).v ((j : Int) + 1) := h
                simp only [Ro.best, if_neg this]
          · intro x hx
            have hM : 0 ≤ mostF p b := b2.1
            refine ok_if (fun h => by exfalso; dsimp only at h; omega) (fun _ => ok_some ?_)
            rcases hx with ⟨h, _⟩ | ⟨j, h, rfl⟩
            · omega
            · obtain rfl : j = (mostF p b).toNat := by omega
              rfl
        · rintro _ rfl
          have hM : 0 ≤ mostF p b ∧ mostF p b ≤ 2000000 := b2
          have hbM := ((roF p b).best_is (mostF p b).toNat).1
          have hb2 := hr.b (n := ((roF p b).best (mostF p b).toNat : Nat)) (by omega) (by omega)
          refine ok_then (o_panel_rows g f hk (by omega) b1 b1' (by omega) hb2 (fun e => ?_) (fun e => ?_) ?_)
          · have : mostF p b = 0 := by change linesF p b 0 = 0; rw [hl, if_pos e]
            rw [this] at hbM ⊢; simp at hbM ⊢; exact hbM
          · simp only [Ro.b]; rw [if_neg]; change ¬ 0 < colsF p b 1; omega
          · (try dsimp only); (repeat' (first | (with_reducible apply ok_guard; case h => (first | assumption | omega | (simp; done) | (simp; omega) | (and_intros <;> first | omega | (intro _; omega)) | (simp only [Bool.or_eq_true, Bool.and_eq_true, Bool.not_eq_true', Bool.not_eq_true, Bool.not_eq_false', Bool.not_eq_false, Bool.or_eq_false_iff, Bool.and_eq_false_iff, decide_eq_true_eq, decide_eq_false_iff_not, Bool.not_not, beq_iff_eq, bne_iff_ne] at *; omega))) | (with_reducible apply ok_guard) | (with_reducible apply ok_if <;> intro _) | (with_reducible apply ok_some) | (with_reducible apply ok_esc) | (with_reducible apply ok_then))); (all_goals try dsimp only); (all_goals try (exfalso; omega))
            rw [hg]
  · refine ok_some ?_
    rw [rowsBF, if_neg c]
theorem o_panel_Rows {p : TPanel} {b : ByteArray} (f : Fits p) {Q_ : _ → Prop} (k_ : Q_ (rowsBF p b)) : Ok (p_panel_Rows p b) Q_ := ok_of (t_panel_Rows f) k_
theorem s_panel_Rows {β : Type} {cc_ : Prop} {d_ : Decidable cc_} {p : TPanel} {b : ByteArray} (f : cc_ → (Fits p)) {e_ : _} {f_ : _ → Option β} {Q_ : β → Prop} (hd : ¬ cc_ → f_ e_ = f_ (rowsBF p b)) (k_ : Ok (f_ (rowsBF p b)) Q_) : Ok (Option.bind (@ite _ cc_ d_ (p_panel_Rows p b) (some e_)) f_) Q_ := ok_short (fun hc__ => t_panel_Rows (f hc__)) hd k_
theorem rows_len {p : TPanel} {b : ByteArray} {k : TBoardKind} {q c n t : Int} (hn : 0 ≤ n) (hc : 0 ≤ c) (ht : 0 ≤ t) : ∀ i : Nat, ((rowsUp p b k q c n t i).2.length : Int) = if (i : Int) ≤ n then i * c else n * c + (i - n) * t
  | 0 => by simp [rowsUp]; omega
  | i + 1 => by
    have ih := rows_len (p := p) (b := b) (k := k) (q := q) hn hc ht i
    by_cases h : n ≤ (i : Int)
    · rw [rowsUp_ge h, if_neg (by omega)]
      simp only [List.length_append, rowF_len, Int.natCast_add]
      rw [ih]
      have e1 : ((i : Int) + (1 : Nat) - n) * t = (i - n) * t + t := by rw [show (i : Int) + (1 : Nat) - n = (i - n) + 1 by omega, Int.add_mul]; omega
      rw [e1]
      by_cases e : (i : Int) ≤ n
      · have : (i : Int) = n := by omega
        rw [if_pos e, this]; simp; omega
      · rw [if_neg e]; omega
    · rw [rowsUp_lt (by omega), if_pos (by omega)]
      simp only [List.length_append, rowF_len, Int.natCast_add]
      rw [ih, if_pos (by omega)]
      have : ((i : Int) + (1 : Nat)) * c = i * c + c := by rw [Int.add_mul]; omega
      rw [this]; omega
theorem t_ref9_Rows {p : TPanel} {b : ByteArray} (f : Fits p) : p_ref9_Rows p b = some (rowsBF p b) := by
  apply ok_val
  unfold p_ref9_Rows
  have hkk := f.1
  refine ok_then (o_ref9_CheckPanel f (ok_if (fun c => ?_) (fun c => ?_)))
  · have g := good_of c
    have o := g.toOpn
    have hlt := kindF_lt p b
    obtain ⟨o1, o2, o3, o4, o5, o6, o7, o8⟩ := id o.toRgs
    (try dsimp only); (repeat' (first | (with_reducible apply s_ref9_kind; case hd => (intro hc; simp only [Bool.not_not, Bool.not_eq_true, Bool.not_eq_false'] at hc; simp only [hc, Bool.true_or, Bool.false_and, Bool.not_true, Bool.not_false, Bool.or_true, Bool.and_false])) | (with_reducible apply o_ref9_kind <;> try first | assumption | omega) | (with_reducible apply ok_guard; case h => (first | assumption | omega | (simp; done) | (simp; omega) | (and_intros <;> first | omega | (intro _; omega)) | (simp only [Bool.or_eq_true, Bool.and_eq_true, Bool.not_eq_true', Bool.not_eq_true, Bool.not_eq_false', Bool.not_eq_false, Bool.or_eq_false_iff, Bool.and_eq_false_iff, decide_eq_true_eq, decide_eq_false_iff_not, Bool.not_not, beq_iff_eq, bne_iff_ne] at *; omega))) | (with_reducible apply ok_guard) | (with_reducible apply ok_if <;> intro _) | (with_reducible apply ok_some) | (with_reducible apply ok_esc) | (with_reducible apply ok_then))); (all_goals try dsimp only); (all_goals try (exfalso; omega))
    · rw [rowsBF, if_pos c, if_pos ‹_›]
    · rename_i c2
      have hk := Int.not_lt.1 c2
      have hz := o.board hk
      have hg : rowsBF p b = rowsAll p b 0 (colsF p b 0) ((roF p b).best (mostF p b).toNat : Nat) (colsF p b 1) ((roF p b).b ((roF p b).best (mostF p b).toNat : Nat)) := by rw [rowsBF, if_pos c, if_neg c2]
      have hr := roOk o hk
      have b1 := cols_b (q := 0) o hk
      have b1' := cols_b (q := 1) o hk
      have b2 := lines_b (q := 0) o hk
      have hl : linesF p b 0 = if colsF p b 0 = 0 then 0 else manyF (p.H - 2 * p.Rail) (sizeF (boardF p b) 0).2 p.Gap := rfl
      change Ok _ _
      rw [show p.Kinds.getD (kindF p b).toNat default = boardF p b from rfl]
      rw [size0] at hl
      refine o_ref9_fit (by omega) ⟨hz.1, hz.2.1⟩ ⟨o7, o8⟩ ?_
      (try dsimp only); (repeat' (first | (with_reducible apply ok_guard; case h => (first | assumption | omega | (simp; done) | (simp; omega) | (and_intros <;> first | omega | (intro _; omega)) | (simp only [Bool.or_eq_true, Bool.and_eq_true, Bool.not_eq_true', Bool.not_eq_true, Bool.not_eq_false', Bool.not_eq_false, Bool.or_eq_false_iff, Bool.and_eq_false_iff, decide_eq_true_eq, decide_eq_false_iff_not, Bool.not_not, beq_iff_eq, bne_iff_ne] at *; omega))) | (with_reducible apply ok_guard) | (with_reducible apply ok_if <;> intro _) | (with_reducible apply ok_some) | (with_reducible apply ok_esc) | (with_reducible apply ok_then))); (all_goals try dsimp only); (all_goals try (exfalso; omega))
      refine o_ref9_fit (by omega) ⟨hz.2.2.1, hz.2.2.2⟩ ⟨o7, o8⟩ ?_
      have ec0 : manyF (p.W - 2 * p.Rail) (boardF p b).W p.Gap = colsF p b 0 := by rw [colsF, size0]
      have ec1 : manyF (p.W - 2 * p.Rail) (boardF p b).H p.Gap = colsF p b 1 := by rw [colsF, size1]
      rw [ec0, ec1]
      refine ok_guard (by omega) (ok_then (ok_mono (P := fun e => e = linesF p b 0) ?_ ?_))
      · rw [hl]
        (try dsimp only); (repeat' (first | (with_reducible apply ok_guard; case h => (first | assumption | omega | (simp; done) | (simp; omega) | (and_intros <;> first | omega | (intro _; omega)) | (simp only [Bool.or_eq_true, Bool.and_eq_true, Bool.not_eq_true', Bool.not_eq_true, Bool.not_eq_false', Bool.not_eq_false, Bool.or_eq_false_iff, Bool.and_eq_false_iff, decide_eq_true_eq, decide_eq_false_iff_not, Bool.not_not, beq_iff_eq, bne_iff_ne] at *; omega))) | (with_reducible apply ok_guard) | (with_reducible apply ok_if <;> intro _) | (with_reducible apply ok_some) | (with_reducible apply ok_esc) | (with_reducible apply ok_then))); (all_goals try dsimp only); (all_goals try (exfalso; omega))
        · refine o_ref9_fit (by omega) ⟨hz.2.2.1, hz.2.2.2⟩ ⟨o7, o8⟩ ?_
          (try dsimp only); (repeat' (first | (with_reducible apply ok_guard; case h => (first | assumption | omega | (simp; done) | (simp; omega) | (and_intros <;> first | omega | (intro _; omega)) | (simp only [Bool.or_eq_true, Bool.and_eq_true, Bool.not_eq_true', Bool.not_eq_true, Bool.not_eq_false', Bool.not_eq_false, Bool.or_eq_false_iff, Bool.and_eq_false_iff, decide_eq_true_eq, decide_eq_false_iff_not, Bool.not_not, beq_iff_eq, bne_iff_ne] at *; omega))) | (with_reducible apply ok_guard) | (with_reducible apply ok_if <;> intro _) | (with_reducible apply ok_some) | (with_reducible apply ok_esc) | (with_reducible apply ok_then))); (all_goals try dsimp only); (all_goals try (exfalso; omega))
          rw [if_neg (by omega)]
        · rw [if_pos (by omega)]
      · rintro _ rfl
        have hM : 0 ≤ mostF p b ∧ mostF p b ≤ 2000000 := b2
        have hbM := ((roF p b).best_is (mostF p b).toNat).1
        have hb2 := hr.b (n := ((roF p b).best (mostF p b).toNat : Nat)) (by omega) (by omega)
        have hv2 := hr.v (n := ((roF p b).best (mostF p b).toNat : Nat)) (by omega) (by omega)
        refine ok_then (ok_mono (P := fun e => e = ((roF p b).b ((roF p b).best (mostF p b).toNat : Nat), (((roF p b).best (mostF p b).toNat : Nat) : Int), (roF p b).v ((roF p b).best (mostF p b).toNat : Nat))) ?_ ?_)
        · refine ok_loop (fun s : Int × Int × Int × Int => -1 ≤ s.1 ∧ s.1 ≤ mostF p b ∧ ((s.1 = mostF p b ∧ s.2 = (0, 0, -1)) ∨ ∃ n : Nat, s.1 < n ∧ n ≤ (mostF p b).toNat ∧ s.2 = ((roF p b).b n, (n : Int), (roF p b).v n) ∧ ∀ j : Nat, s.1 < j → j ≤ (mostF p b).toNat → (roF p b).v j ≤ (roF p b).v n ∧ (n < j → (roF p b).v j < (roF p b).v n)))
            (fun s => (s.1 + 1).toNat) ⟨by dsimp only; change -1 ≤ mostF p b; omega, Int.le_refl _, .inl ⟨rfl, rfl⟩⟩ ?_
          rintro ⟨a, m, n, bst⟩ ⟨ha1, ha2, hx⟩
          dsimp only at ha1 ha2 hx
          refine ok_if (fun h0 => ?_) (fun h0 => ?_)
          · dsimp only at h0
            have hm := hr.mul (n := a) (by omega) (by omega)
            have hv := hr.v (n := a) (by omega) (by omega)
            have hm' : 0 ≤ a * ((boardF p b).H + p.Gap) ∧ a * ((boardF p b).H + p.Gap) ≤ 4000000000000 := hm
            change (0 ≤ a * colsF p b 0 ∧ a * colsF p b 0 ≤ _) ∧ 0 ≤ (roF p b).b a * colsF p b 1 ∧ (roF p b).b a * colsF p b 1 ≤ _ at hv
            have e1 : Ok (if 0 < colsF p b 1 then Option.bind (p_ref9_fit (p.H - 2 * p.Rail - a * ((boardF p b).H + p.Gap)) (boardF p b).W p.Gap) fun (x22 : Int) => some x22 else some 0) (fun z => z = (roF p b).b a) := by
              have hT : (roF p b).T = colsF p b 1 := rfl
              (try dsimp only); (repeat' (first | (with_reducible apply ok_guard; case h => (first | assumption | omega | (simp; done) | (simp; omega) | (and_intros <;> first | omega | (intro _; omega)) | (simp only [Bool.or_eq_true, Bool.and_eq_true, Bool.not_eq_true', Bool.not_eq_true, Bool.not_eq_false', Bool.not_eq_false, Bool.or_eq_false_iff, Bool.and_eq_false_iff, decide_eq_true_eq, decide_eq_false_iff_not, Bool.not_not, beq_iff_eq, bne_iff_ne] at *; omega))) | (with_reducible apply ok_guard) | (with_reducible apply ok_if <;> intro _) | (with_reducible apply ok_some) | (with_reducible apply ok_esc) | (with_reducible apply ok_then))); (all_goals try dsimp only); (all_goals try (exfalso; omega))
              · refine o_ref9_fit (by omega) ⟨hz.1, hz.2.1⟩ ⟨o7, o8⟩ ?_
                (try dsimp only); (repeat' (first | (with_reducible apply ok_guard; case h => (first | assumption | omega | (simp; done) | (simp; omega) | (and_intros <;> first | omega | (intro _; omega)) | (simp only [Bool.or_eq_true, Bool.and_eq_true, Bool.not_eq_true', Bool.not_eq_true, Bool.not_eq_false', Bool.not_eq_false, Bool.or_eq_false_iff, Bool.and_eq_false_iff, decide_eq_true_eq, decide_eq_false_iff_not, Bool.not_not, beq_iff_eq, bne_iff_ne] at *; omega))) | (with_reducible apply ok_guard) | (with_reducible apply ok_if <;> intro _) | (with_reducible apply ok_some) | (with_reducible apply ok_esc) | (with_reducible apply ok_then))); (all_goals try dsimp only); (all_goals try (exfalso; omega))
                simp only [Ro.b, hT, if_pos ‹0 < colsF p b 1›]; rfl
              · simp only [Ro.b, hT, if_neg ‹¬ 0 < colsF p b 1›]
            refine ok_then (ok_guard (by omega) (ok_guard (by dsimp only; omega) (ok_guard (by dsimp only; omega) (ok_then (ok_mono e1 ?_)))))
            rintro _ rfl
            have hva : (roF p b).v a = a * colsF p b 0 + (roF p b).b a * colsF p b 1 := rfl
            have hat : ((a.toNat : Nat) : Int) = a := by omega
            (try dsimp only); (repeat' (first | (with_reducible apply ok_guard; case h => (first | assumption | omega | (simp; done) | (simp; omega) | (and_intros <;> first | omega | (intro _; omega)) | (simp only [Bool.or_eq_true, Bool.and_eq_true, Bool.not_eq_true', Bool.not_eq_true, Bool.not_eq_false', Bool.not_eq_false, Bool.or_eq_false_iff, Bool.and_eq_false_iff, decide_eq_true_eq, decide_eq_false_iff_not, Bool.not_not, beq_iff_eq, bne_iff_ne] at *; omega))) | (with_reducible apply ok_guard) | (with_reducible apply ok_if <;> intro _) | (with_reducible apply ok_some) | (with_reducible apply ok_esc) | (with_reducible apply ok_then))); (all_goals try dsimp only); (all_goals try (exfalso; omega))
            · rename_i h
              rw [← hva] at h ⊢
              refine ⟨⟨by omega, by omega, .inr ⟨a.toNat, by omega, by omega, by rw [hat], fun j hj1 hj2 => ?_⟩⟩, by omega⟩
              rw [hat]
              by_cases e : (j : Int) = a
              · rw [e]; exact ⟨Int.le_refl _, fun h => by omega⟩
              · rcases hx with ⟨h2, h3⟩ | ⟨n', h2, h3, h4, h5⟩
                · omega
                · simp only [Prod.mk.injEq] at h4
                  obtain ⟨rfl, rfl, rfl⟩ := h4
                  have := (h5 j (by omega) hj2).1
                  exact ⟨by omega, fun _ => by omega⟩
            · rename_i h
              rw [← hva] at h
              rcases hx with ⟨h2, h3⟩ | ⟨n', h2, h3, h4, h5⟩
              · simp only [Prod.mk.injEq] at h3
                obtain ⟨rfl, rfl, rfl⟩ := h3
                omega
              · simp only [Prod.mk.injEq] at h4
                obtain ⟨rfl, rfl, rfl⟩ := h4
                refine ⟨⟨by omega, by omega, .inr ⟨n', by omega, h3, rfl, fun j hj1 hj2 => ?_⟩⟩, by omega⟩
                by_cases e : (j : Int) = a
                · rw [e]; exact ⟨by omega, fun h => by omega⟩
                · exact h5 j (by omega) hj2
          · dsimp only at h0
            refine ok_some ?_
            rcases hx with ⟨h2, h3⟩ | ⟨n', h2, h3, h4, h5⟩
            · omega
            · dsimp only
              have := (roF p b).best_one h3 (fun j hj => h5 j (by omega) hj)
              simp only [Prod.mk.injEq] at h4
              obtain ⟨rfl, rfl, rfl⟩ := h4
              rw [← this]
        · rintro _ rfl
          have e0 : colsF p b 0 = 0 → ((roF p b).best (mostF p b).toNat : Nat) = (0 : Int) := fun e => by
            have : mostF p b = 0 := by change linesF p b 0 = 0; rw [hl, if_pos e]
            rw [this] at hbM ⊢; simp at hbM ⊢; exact hbM
          have e1 : colsF p b 1 = 0 → (roF p b).b ((roF p b).best (mostF p b).toNat : Nat) = 0 := fun e => by
            simp only [Ro.b]; rw [if_neg]; change ¬ 0 < colsF p b 1; omega
          rw [hg]
          have hv : (roF p b).v ((roF p b).best (mostF p b).toNat : Nat) = ((roF p b).best (mostF p b).toNat : Nat) * colsF p b 0 + (roF p b).b ((roF p b).best (mostF p b).toNat : Nat) * colsF p b 1 := rfl
          dsimp only
          rw [hv]
          have f1 := few (n := (((roF p b).best (mostF p b).toNat : Nat) : Int)) (by omega) b1.1 e0
          have f2 := few hb2.1 b1'.1 e1
          change (0 ≤ (((roF p b).best (mostF p b).toNat : Nat) : Int) * colsF p b 0 ∧ _ ≤ _) ∧ 0 ≤ (roF p b).b ((roF p b).best (mostF p b).toNat : Nat) * colsF p b 1 ∧ _ ≤ _ at hv2
          generalize (roF p b).b ((roF p b).best (mostF p b).toNat : Nat) = m at *
          generalize (roF p b).best (mostF p b).toNat = n at *
          refine ok_if (fun c5 => ?_) (fun c5 => ?_)
          · refine ok_some ?_
            rw [rowsAll, if_pos c5]
          · rw [rowsAll, if_neg c5]
            have hup := fun i => rowsUp_b (q := 0) (n := n) o hk b1 b1' i
            refine ok_then (ok_mono (P := fun e => e = rowsUp p b (boardF p b) 0 (colsF p b 0) n (colsF p b 1) n) (ok_for n (fun i x => x = rowsUp p b (boardF p b) 0 (colsF p b 0) n (colsF p b 1) i) rfl ?_ ?_) ?_)
            · intro i x hi hx
              subst hx
              obtain ⟨u1, u2⟩ := hup i
              rw [rowsUp_lt (by omega), size0]
              refine ok_if (fun _ => ?_) (fun h => by exfalso; dsimp only at h; omega)
              refine ok_then (o_ref9_row_o o.toRgs ⟨hz.1, hz.2.1⟩ (by dsimp only; omega) b1.2 ?_)
              (try dsimp only); (repeat' (first | (with_reducible apply ok_guard; case h => (first | assumption | omega | (simp; done) | (simp; omega) | (and_intros <;> first | omega | (intro _; omega)) | (simp only [Bool.or_eq_true, Bool.and_eq_true, Bool.not_eq_true', Bool.not_eq_true, Bool.not_eq_false', Bool.not_eq_false, Bool.or_eq_false_iff, Bool.and_eq_false_iff, decide_eq_true_eq, decide_eq_false_iff_not, Bool.not_not, beq_iff_eq, bne_iff_ne] at *; omega))) | (with_reducible apply ok_guard) | (with_reducible apply ok_if <;> intro _) | (with_reducible apply ok_some) | (with_reducible apply ok_esc) | (with_reducible apply ok_then))); (all_goals try dsimp only); (all_goals try (exfalso; omega))
              exact ⟨rfl, rfl⟩
            · intro x hx
              subst hx
              (try dsimp only); (repeat' (first | (with_reducible apply ok_guard; case h => (first | assumption | omega | (simp; done) | (simp; omega) | (and_intros <;> first | omega | (intro _; omega)) | (simp only [Bool.or_eq_true, Bool.and_eq_true, Bool.not_eq_true', Bool.not_eq_true, Bool.not_eq_false', Bool.not_eq_false, Bool.or_eq_false_iff, Bool.and_eq_false_iff, decide_eq_true_eq, decide_eq_false_iff_not, Bool.not_not, beq_iff_eq, bne_iff_ne] at *; omega))) | (with_reducible apply ok_guard) | (with_reducible apply ok_if <;> intro _) | (with_reducible apply ok_some) | (with_reducible apply ok_esc) | (with_reducible apply ok_then))); (all_goals try dsimp only); (all_goals try (exfalso; omega))
            · rintro _ rfl
              refine ok_then (ok_mono (P := fun e => e = (rowsUp p b (boardF p b) 0 (colsF p b 0) n (colsF p b 1) (n + m.toNat)).2) (ok_for m.toNat (fun i x => x = rowsUp p b (boardF p b) 0 (colsF p b 0) n (colsF p b 1) (n + i)) rfl ?_ ?_) ?_)
              · intro i x hi hx
                subst hx
                obtain ⟨u1, u2⟩ := hup (n + i)
                have := rowsUp_ge (p := p) (b := b) (k := boardF p b) (q := 0) (c := colsF p b 0) (n := n) (t := colsF p b 1) (i := n + i) (by omega)
                rw [← Nat.add_assoc, this, show (0 : Int) + 1 = 1 from rfl, size1]
                refine ok_if (fun _ => ?_) (fun h => by exfalso; dsimp only at h; omega)
                refine ok_then (o_ref9_row_o o.toRgs ⟨hz.2.2.1, hz.2.2.2⟩ (by dsimp only; omega) b1'.2 ?_)
                (try dsimp only); (repeat' (first | (with_reducible apply ok_guard; case h => (first | assumption | omega | (simp; done) | (simp; omega) | (and_intros <;> first | omega | (intro _; omega)) | (simp only [Bool.or_eq_true, Bool.and_eq_true, Bool.not_eq_true', Bool.not_eq_true, Bool.not_eq_false', Bool.not_eq_false, Bool.or_eq_false_iff, Bool.and_eq_false_iff, decide_eq_true_eq, decide_eq_false_iff_not, Bool.not_not, beq_iff_eq, bne_iff_ne] at *; omega))) | (with_reducible apply ok_guard) | (with_reducible apply ok_if <;> intro _) | (with_reducible apply ok_some) | (with_reducible apply ok_esc) | (with_reducible apply ok_then))); (all_goals try dsimp only); (all_goals try (exfalso; omega))
                exact ⟨rfl, rfl⟩
              · intro x hx
                subst hx
                (try dsimp only); (repeat' (first | (with_reducible apply ok_guard; case h => (first | assumption | omega | (simp; done) | (simp; omega) | (and_intros <;> first | omega | (intro _; omega)) | (simp only [Bool.or_eq_true, Bool.and_eq_true, Bool.not_eq_true', Bool.not_eq_true, Bool.not_eq_false', Bool.not_eq_false, Bool.or_eq_false_iff, Bool.and_eq_false_iff, decide_eq_true_eq, decide_eq_false_iff_not, Bool.not_not, beq_iff_eq, bne_iff_ne] at *; omega))) | (with_reducible apply ok_guard) | (with_reducible apply ok_if <;> intro _) | (with_reducible apply ok_some) | (with_reducible apply ok_esc) | (with_reducible apply ok_then))); (all_goals try dsimp only); (all_goals try (exfalso; omega))
              · rintro _ rfl
                obtain ⟨u1, u2⟩ := hup (n + m.toNat)
                refine ok_then (o_ref9_laid f (by omega) ?_)
                (try dsimp only); (repeat' (first | (with_reducible apply ok_guard; case h => (first | assumption | omega | (simp; done) | (simp; omega) | (and_intros <;> first | omega | (intro _; omega)) | (simp only [Bool.or_eq_true, Bool.and_eq_true, Bool.not_eq_true', Bool.not_eq_true, Bool.not_eq_false', Bool.not_eq_false, Bool.or_eq_false_iff, Bool.and_eq_false_iff, decide_eq_true_eq, decide_eq_false_iff_not, Bool.not_not, beq_iff_eq, bne_iff_ne] at *; omega))) | (with_reducible apply ok_guard) | (with_reducible apply ok_if <;> intro _) | (with_reducible apply ok_some) | (with_reducible apply ok_esc) | (with_reducible apply ok_then))); (all_goals try dsimp only); (all_goals try (exfalso; omega))
                rw [show ((n : Int) + m).toNat = n + m.toNat by omega]
  · refine ok_some ?_
    rw [rowsBF, if_neg c]
theorem o_ref9_Rows {p : TPanel} {b : ByteArray} (f : Fits p) {Q_ : _ → Prop} (k_ : Q_ (rowsBF p b)) : Ok (p_ref9_Rows p b) Q_ := ok_of (t_ref9_Rows f) k_
theorem s_ref9_Rows {β : Type} {cc_ : Prop} {d_ : Decidable cc_} {p : TPanel} {b : ByteArray} (f : cc_ → (Fits p)) {e_ : _} {f_ : _ → Option β} {Q_ : β → Prop} (hd : ¬ cc_ → f_ e_ = f_ (rowsBF p b)) (k_ : Ok (f_ (rowsBF p b)) Q_) : Ok (Option.bind (@ite _ cc_ d_ (p_ref9_Rows p b) (some e_)) f_) Q_ := ok_short (fun hc__ => t_ref9_Rows (f hc__)) hd k_
end Go.Nw
