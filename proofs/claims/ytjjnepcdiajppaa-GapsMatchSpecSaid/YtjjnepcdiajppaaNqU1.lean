/- NqU1: a part of the proof. -/
import Derived.Test.YtjjnepcdiajppaaNqRef2
set_option linter.unusedVariables false
set_option linter.unusedSimpArgs false
set_option maxRecDepth 100000
namespace Go.Nw
/-! How far apart; the nearest squares. -/
def farX (a0 a1 b0 b1 : Int) : Int := if a0 - b1 + 1 > (if b0 - a1 + 1 > 0 then b0 - a1 + 1 else 0) then a0 - b1 + 1 else if b0 - a1 + 1 > 0 then b0 - a1 + 1 else 0
theorem farX_le {a0 a1 b0 b1 n : Int} : farX a0 a1 b0 b1 ≤ n ↔ 0 ≤ n ∧ b0 - a1 + 1 ≤ n ∧ a0 - b1 + 1 ≤ n := by
  unfold farX
  by_cases c : b0 - a1 + 1 > 0
  · rw [if_pos c]
    by_cases d : a0 - b1 + 1 > b0 - a1 + 1
    · rw [if_pos d]; omega
    · rw [if_neg d]; omega
  · rw [if_neg c]
    by_cases d : a0 - b1 + 1 > 0
    · rw [if_pos d]; omega
    · rw [if_neg d]; omega
def farR (r q : TRect) : Int := if farX r.Y0 r.Y1 q.Y0 q.Y1 > farX r.X0 r.X1 q.X0 q.X1 then farX r.Y0 r.Y1 q.Y0 q.Y1 else farX r.X0 r.X1 q.X0 q.X1
theorem farR_le {r q : TRect} {n : Int} : farR r q ≤ n ↔ 0 ≤ n ∧ (q.X0 - r.X1 + 1 ≤ n ∧ r.X0 - q.X1 + 1 ≤ n) ∧ q.Y0 - r.Y1 + 1 ≤ n ∧ r.Y0 - q.Y1 + 1 ≤ n := by
  have h1 := farX_le (a0 := r.X0) (a1 := r.X1) (b0 := q.X0) (b1 := q.X1) (n := n)
  have h2 := farX_le (a0 := r.Y0) (a1 := r.Y1) (b0 := q.Y0) (b1 := q.Y1) (n := n)
  have h : farR r q ≤ n ↔ farX r.X0 r.X1 q.X0 q.X1 ≤ n ∧ farX r.Y0 r.Y1 q.Y0 q.Y1 ≤ n := by
    unfold farR
    generalize farX r.X0 r.X1 q.X0 q.X1 = u
    generalize farX r.Y0 r.Y1 q.Y0 q.Y1 = v
    by_cases c : v > u
    · rw [if_pos c]; omega
    · rw [if_neg c]; omega
  rw [h, h1, h2]; omega
theorem farR_0 (r q : TRect) : 0 ≤ farR r q := (farR_le.1 (Int.le_refl _)).1
theorem farR_in {r q : TRect} (hr : RIn r) (hq : RIn q) : farR r q ≤ 3000000 := by
  have h1 := hr.x0; have h2 := hr.xx; have h3 := hr.x1; have h4 := hr.y0; have h5 := hr.yy; have h6 := hr.y1
  have g1 := hq.x0; have g2 := hq.xx; have g3 := hq.x1; have g4 := hq.y0; have g5 := hq.yy; have g6 := hq.y1
  exact farR_le.2 (by omega)
theorem t_shape_Far {r q : TRect} (hr : RIn r) (hq : RIn q) : p_shape_Far r q = some (farR r q) := by
  apply ok_val
  unfold p_shape_Far
  have h1 := hr.x0; have h2 := hr.xx; have h3 := hr.x1; have h4 := hr.y0; have h5 := hr.yy; have h6 := hr.y1
  have g1 := hq.x0; have g2 := hq.xx; have g3 := hq.x1; have g4 := hq.y0; have g5 := hq.yy; have g6 := hq.y1
  unfold p_shape_between
  refine ok_then (ok_guard (by omega) (ok_guard (by omega) (ok_guard (by omega) (ok_guard (by omega) (ok_some ?_)))))
  refine ok_then (ok_guard (by omega) (ok_guard (by omega) (ok_guard (by omega) (ok_guard (by omega) (ok_some ?_)))))
  exact ok_some rfl
theorem o_shape_Far {r q : TRect} (hr : RIn r) (hq : RIn q) {Q_ : _ → Prop} (k_ : Q_ (farR r q)) : Ok (p_shape_Far r q) Q_ := ok_of (t_shape_Far hr hq) k_
theorem s_shape_Far {β : Type} {cc_ : Prop} {d_ : Decidable cc_} {r q : TRect} (hr : cc_ → (RIn r)) (hq : cc_ → (RIn q)) {e_ : _} {f_ : _ → Option β} {Q_ : β → Prop} (hd : ¬ cc_ → f_ e_ = f_ (farR r q)) (k_ : Ok (f_ (farR r q)) Q_) : Ok (Option.bind (@ite _ cc_ d_ (p_shape_Far r q) (some e_)) f_) Q_ := ok_short (fun hc__ => t_shape_Far (hr hc__) (hq hc__)) hd k_
theorem t_ref1_farRects {r q : TRect} (hr : RIn r) (hq : RIn q) : p_ref1_farRects r q = some (farR r q) := by
  apply ok_val
  unfold p_ref1_farRects
  have h1 := hr.x0; have h2 := hr.xx; have h3 := hr.x1; have h4 := hr.y0; have h5 := hr.yy; have h6 := hr.y1
  have g1 := hq.x0; have g2 := hq.xx; have g3 := hq.x1; have g4 := hq.y0; have g5 := hq.yy; have g6 := hq.y1
  have e : ∀ a b : Int, a - (b - 1) = a - b + 1 := fun a b => by omega
  unfold p_ref1_far
  simp only [e]
  refine ok_then (ok_guard (by omega) (ok_guard (by omega) (ok_guard (by omega) (ok_guard (by omega) (ok_some ?_)))))
  refine ok_then (ok_guard (by omega) (ok_guard (by omega) (ok_guard (by omega) (ok_guard (by omega) (ok_some ?_)))))
  exact ok_some rfl
theorem o_ref1_farRects {r q : TRect} (hr : RIn r) (hq : RIn q) {Q_ : _ → Prop} (k_ : Q_ (farR r q)) : Ok (p_ref1_farRects r q) Q_ := ok_of (t_ref1_farRects hr hq) k_
theorem s_ref1_farRects {β : Type} {cc_ : Prop} {d_ : Decidable cc_} {r q : TRect} (hr : cc_ → (RIn r)) (hq : cc_ → (RIn q)) {e_ : _} {f_ : _ → Option β} {Q_ : β → Prop} (hd : ¬ cc_ → f_ e_ = f_ (farR r q)) (k_ : Ok (f_ (farR r q)) Q_) : Ok (Option.bind (@ite _ cc_ d_ (p_ref1_farRects r q) (some e_)) f_) Q_ := ok_short (fun hc__ => t_ref1_farRects (hr hc__) (hq hc__)) hd k_
/-- the least distance -/
def IsMin (a b : List TRect) (n : Int) : Prop := (∀ r ∈ a, ∀ q ∈ b, n ≤ farR r q) ∧ ∃ r ∈ a, ∃ q ∈ b, farR r q = n
theorem isMin_eq {a b : List TRect} {n m : Int} (h : IsMin a b n) (h' : IsMin a b m) : n = m := by
  obtain ⟨h1, r, hr, q, hq, e⟩ := h
  obtain ⟨h1', r', hr', q', hq', e'⟩ := h'
  have := h1 r' hr' q' hq'; have := h1' r hr q hq; omega
def MinI (a b : List TRect) (i j : Nat) (n : Int) : Prop := (∃ r ∈ a, ∃ q ∈ b, farR r q = n) ∧ (∀ r ∈ a.take i, ∀ q ∈ b, n ≤ farR r q) ∧ ∀ q ∈ b.take j, n ≤ farR (a.getD i default) q
theorem minI_step {a b : List TRect} {i j : Nat} {n : Int} (hi : i < a.length) (hj : j < b.length) (h : MinI a b i j n) : MinI a b i (j + 1) (if farR (a.getD i default) (b.getD j default) < n then farR (a.getD i default) (b.getD j default) else n) := by
  obtain ⟨h1, h2, h3⟩ := h
  obtain ⟨x, hx⟩ : ∃ x, x = farR (a.getD i default) (b.getD j default) := ⟨_, rfl⟩
  rw [← hx]
  have hle : (if x < n then x else n) ≤ n ∧ (if x < n then x else n) ≤ x := by split <;> omega
  refine ⟨?_, fun r hr q hq => Int.le_trans hle.1 (h2 r hr q hq), fun q hq => ?_⟩
  · split
    · exact ⟨_, mem_getD hi, _, mem_getD hj, hx.symm⟩
    · exact h1
  · rw [take_snoc (d := default) hj] at hq
    rcases List.mem_append.1 hq with hq | hq
    · exact Int.le_trans hle.1 (h3 q hq)
    · obtain rfl := List.mem_singleton.1 hq; rw [← hx]; exact hle.2
theorem minI_end {a b : List TRect} {i : Nat} {n : Int} (hi : i < a.length) (h : MinI a b i b.length n) : MinI a b (i + 1) 0 n := by
  obtain ⟨h1, h2, h3⟩ := h
  rw [List.take_length] at h3
  refine ⟨h1, fun r hr q hq => ?_, by simp⟩
  rw [take_snoc (d := default) hi] at hr
  rcases List.mem_append.1 hr with hr | hr
  · exact h2 r hr q hq
  · obtain rfl := List.mem_singleton.1 hr; exact h3 q hq
theorem minI_all {a b : List TRect} {n : Int} (h : MinI a b a.length 0 n) : IsMin a b n := by
  obtain ⟨h1, h2, h3⟩ := h
  rw [List.take_length] at h2
  exact ⟨h2, h1⟩
theorem o_ref1_farRegions {a b : List TRect} (la : a.length ≤ 2000) (lb : b.length ≤ 2000) (ha : ∀ r ∈ a, RIn r) (hb : ∀ r ∈ b, RIn r) (na : 0 < a.length) (nb : 0 < b.length) {Q : Int → Prop} (k : ∀ n, IsMin a b n → Q n) : Ok (p_ref1_farRegions a b) Q := by
  unfold p_ref1_farRegions
  refine ok_guard (by omega) ?_
  refine ok_then (o_ref1_farRects (ha _ (mem_getD na)) (hb _ (mem_getD nb)) ?_)
  refine ok_then ?_
  refine ok_for a.length (fun i n => MinI a b i 0 n) ⟨⟨_, mem_getD na, _, mem_getD nb, rfl⟩, by simp, by simp⟩ ?_ ?_
  · intro i n hi hI
    simp only [Int.toNat_natCast]
    rw [if_pos (by omega)]
    refine ok_then ?_
    refine ok_for b.length (fun j n => MinI a b i j n) hI ?_ ?_
    · intro j n hj hI
      simp only [Int.toNat_natCast]
      rw [if_pos (by omega), if_pos (by omega)]
      refine ok_then (o_ref1_farRects (ha _ (mem_getD hi)) (hb _ (mem_getD hj)) ?_)
      rw [if_pos (by omega)]
      exact ok_some ⟨rfl, minI_step hi hj hI⟩
    · intro n hI
      simp only
      rw [if_neg (by omega)]
      refine ok_some ?_
      simp only
      rw [if_pos (by omega)]
      exact ok_some ⟨rfl, minI_end hi hI⟩
  · intro n hI
    simp only
    rw [if_neg (by omega)]
    exact ok_some (ok_some (k n (minI_all hI)))
def lessF (p q : TPoint) : Bool := decide (p.Y < q.Y) || decide (p.Y = q.Y) && decide (p.X < q.X)
theorem lessF_iff {p q : TPoint} : lessF p q = true ↔ p.Y < q.Y ∨ p.Y = q.Y ∧ p.X < q.X := by simp [lessF]
theorem t_shape_less {p q : TPoint} : p_shape_less p q = some (lessF p q) := rfl
theorem o_shape_less {p q : TPoint} {Q_ : _ → Prop} (k_ : Q_ (lessF p q)) : Ok (p_shape_less p q) Q_ := ok_of (t_shape_less ) k_
theorem s_shape_less {β : Type} {cc_ : Prop} {d_ : Decidable cc_} {p q : TPoint} {e_ : _} {f_ : _ → Option β} {Q_ : β → Prop} (hd : ¬ cc_ → f_ e_ = f_ (lessF p q)) (k_ : Ok (f_ (lessF p q)) Q_) : Ok (Option.bind (@ite _ cc_ d_ (p_shape_less p q) (some e_)) f_) Q_ := ok_short (fun hc__ => t_shape_less ) hd k_
def nearP (r q : TRect) (n : Int) : TPoint := { X := if q.X0 - n > r.X0 then q.X0 - n else r.X0, Y := if q.Y0 - n > r.Y0 then q.Y0 - n else r.Y0 }
theorem t_shape_near {r q : TRect} {n : Int} (hq : RIn q) (h1 : 0 ≤ n) (h2 : n ≤ 3000000) : p_shape_near r q n = some (nearP r q n) := by
  apply ok_val
  unfold p_shape_near
  have g1 := hq.x0; have g2 := hq.xx; have g3 := hq.x1; have g4 := hq.y0; have g5 := hq.yy; have g6 := hq.y1
  exact ok_guard (by omega) (ok_guard (by omega) (ok_some rfl))
theorem o_shape_near {r q : TRect} {n : Int} (hq : RIn q) (h1 : 0 ≤ n) (h2 : n ≤ 3000000) {Q_ : _ → Prop} (k_ : Q_ (nearP r q n)) : Ok (p_shape_near r q n) Q_ := ok_of (t_shape_near hq h1 h2) k_
theorem s_shape_near {β : Type} {cc_ : Prop} {d_ : Decidable cc_} {r q : TRect} {n : Int} (hq : cc_ → (RIn q)) (h1 : cc_ → (0 ≤ n)) (h2 : cc_ → (n ≤ 3000000)) {e_ : _} {f_ : _ → Option β} {Q_ : β → Prop} (hd : ¬ cc_ → f_ e_ = f_ (nearP r q n)) (k_ : Ok (f_ (nearP r q n)) Q_) : Ok (Option.bind (@ite _ cc_ d_ (p_shape_near r q n) (some e_)) f_) Q_ := ok_short (fun hc__ => t_shape_near (hq hc__) (h1 hc__) (h2 hc__)) hd k_
/-- the least square of a that is at most n from b -/
def IsNear (a b : List TRect) (n : Int) (p : TPoint) : Prop := (∃ r ∈ a, ∃ q ∈ b, farR r q ≤ n ∧ p = nearP r q n) ∧ ∀ r ∈ a, ∀ q ∈ b, farR r q ≤ n → lessF (nearP r q n) p = false
theorem isNear_eq {a b : List TRect} {n : Int} {p p' : TPoint} (h : IsNear a b n p) (h' : IsNear a b n p') : p = p' := by
  obtain ⟨⟨r, hr, q, hq, h1, rfl⟩, h2⟩ := h
  obtain ⟨⟨r', hr', q', hq', h1', rfl⟩, h2'⟩ := h'
  have a1 := h2 r' hr' q' hq' h1'
  have a2 := h2' r hr q hq h1
  have b1 : ¬ ((nearP r' q' n).Y < (nearP r q n).Y ∨ (nearP r' q' n).Y = (nearP r q n).Y ∧ (nearP r' q' n).X < (nearP r q n).X) := fun c => by rw [lessF_iff.2 c] at a1; cases a1
  have b2 : ¬ ((nearP r q n).Y < (nearP r' q' n).Y ∨ (nearP r q n).Y = (nearP r' q' n).Y ∧ (nearP r q n).X < (nearP r' q' n).X) := fun c => by rw [lessF_iff.2 c] at a2; cases a2
  ext <;> omega
def Cand (a b : List TRect) (n : Int) (i j : Nat) (r q : TRect) : Prop := ((r ∈ a.take i ∧ q ∈ b) ∨ (r = a.getD i default ∧ q ∈ b.take j)) ∧ farR r q ≤ n
def NearI (a b : List TRect) (n : Int) (i j : Nat) (s : Bool × TPoint) : Prop :=
  (s.1 = false ∧ ∀ r q, ¬ Cand a b n i j r q) ∨ (s.1 = true ∧ (∃ r ∈ a, ∃ q ∈ b, farR r q ≤ n ∧ s.2 = nearP r q n) ∧ ∀ r q, Cand a b n i j r q → lessF (nearP r q n) s.2 = false)
theorem cand_step {a b : List TRect} {n : Int} {i j : Nat} (hj : j < b.length) (r q : TRect) : Cand a b n i (j + 1) r q ↔ Cand a b n i j r q ∨ (r = a.getD i default ∧ q = b.getD j default ∧ farR r q ≤ n) := by
  unfold Cand
  rw [take_snoc (d := default) hj]
  simp only [List.mem_append, List.mem_singleton]
  constructor
  · rintro ⟨h | ⟨h1, h2 | h2⟩, h'⟩
    · exact .inl ⟨.inl h, h'⟩
    · exact .inl ⟨.inr ⟨h1, h2⟩, h'⟩
    · exact .inr ⟨h1, h2, h'⟩
  · rintro (⟨h | ⟨h1, h2⟩, h'⟩ | ⟨h1, h2, h'⟩)
    · exact ⟨.inl h, h'⟩
    · exact ⟨.inr ⟨h1, .inl h2⟩, h'⟩
    · exact ⟨.inr ⟨h1, .inr h2⟩, h'⟩
theorem near_skip {a b : List TRect} {n : Int} {i j : Nat} {s : Bool × TPoint} (hj : j < b.length) (h : NearI a b n i j s) (hf : ¬ farR (a.getD i default) (b.getD j default) ≤ n) : NearI a b n i (j + 1) s := by
  have e : ∀ r q, Cand a b n i (j + 1) r q ↔ Cand a b n i j r q := fun r q => by
    rw [cand_step hj]
    constructor
    · rintro (h | ⟨rfl, rfl, h⟩)
      · exact h
      · exact absurd h hf
    · exact .inl
  unfold NearI at h ⊢
  simp only [e]; exact h
theorem near_take {a b : List TRect} {n : Int} {i j : Nat} {s : Bool × TPoint} (hi : i < a.length) (hj : j < b.length) (h : NearI a b n i j s) (hf : farR (a.getD i default) (b.getD j default) ≤ n) (hc : s.1 = false ∨ lessF (nearP (a.getD i default) (b.getD j default) n) s.2 = true) :
    NearI a b n i (j + 1) (true, nearP (a.getD i default) (b.getD j default) n) := by
  refine .inr ⟨rfl, ⟨_, mem_getD hi, _, mem_getD hj, hf, rfl⟩, fun r q hq => ?_⟩
  show lessF (nearP r q n) (nearP (a.getD i default) (b.getD j default) n) = false
  rcases (cand_step hj r q).1 hq with hq | ⟨rfl, rfl, -⟩
  · rcases h with ⟨h1, h2⟩ | ⟨h1, h2, h3⟩
    · exact absurd hq (h2 r q)
    · have h4 := h3 r q hq
      rcases hc with hc | hc
      · rw [h1] at hc; cases hc
      · rw [← Bool.not_eq_true] at h4 ⊢
        rw [lessF_iff] at h4 hc ⊢
        omega
  · rw [← Bool.not_eq_true, lessF_iff]; omega
theorem near_keep {a b : List TRect} {n : Int} {i j : Nat} {s : Bool × TPoint} (hi : i < a.length) (hj : j < b.length) (h : NearI a b n i j s) (hc : ¬ (s.1 = false ∨ lessF (nearP (a.getD i default) (b.getD j default) n) s.2 = true)) :
    NearI a b n i (j + 1) s := by
  rcases h with ⟨h1, h2⟩ | ⟨h1, h2, h3⟩
  · exact absurd (.inl h1) hc
  · refine .inr ⟨h1, h2, fun r q hq => ?_⟩
    rcases (cand_step hj r q).1 hq with hq | ⟨rfl, rfl, -⟩
    · exact h3 r q hq
    · rw [← Bool.not_eq_true]; exact fun c => hc (.inr c)
theorem near_end {a b : List TRect} {n : Int} {i : Nat} {s : Bool × TPoint} (hi : i < a.length) (h : NearI a b n i b.length s) : NearI a b n (i + 1) 0 s := by
  have e : ∀ r q, Cand a b n (i + 1) 0 r q ↔ Cand a b n i b.length r q := fun r q => by
    unfold Cand
    rw [take_snoc (d := default) hi, List.take_length]
    simp only [List.mem_append, List.mem_singleton, List.take_zero, List.not_mem_nil, and_false, or_false]
    constructor
    · rintro ⟨⟨h | h, h1⟩, h2⟩
      · exact ⟨.inl ⟨h, h1⟩, h2⟩
      · exact ⟨.inr ⟨h, h1⟩, h2⟩
    · rintro ⟨⟨h, h1⟩ | ⟨h, h1⟩, h2⟩
      · exact ⟨⟨.inl h, h1⟩, h2⟩
      · exact ⟨⟨.inr h, h1⟩, h2⟩
  unfold NearI at h ⊢
  simp only [e]; exact h
theorem near_i0 (a b : List TRect) (n : Int) (p : TPoint) : NearI a b n 0 0 (false, p) := .inl ⟨rfl, fun r q h => by
  rcases h with ⟨⟨h, -⟩ | ⟨-, h⟩, -⟩
  · simp at h
  · simp at h⟩
theorem near_all {a b : List TRect} {n : Int} {s : Bool × TPoint} (h : NearI a b n a.length 0 s) (hm : ∃ r ∈ a, ∃ q ∈ b, farR r q ≤ n) : s.1 = true ∧ IsNear a b n s.2 := by
  have e : ∀ r q, Cand a b n a.length 0 r q ↔ r ∈ a ∧ q ∈ b ∧ farR r q ≤ n := fun r q => by
    unfold Cand
    rw [List.take_length]
    simp only [List.take_zero, List.not_mem_nil, and_false, or_false]
    exact and_assoc
  obtain ⟨r, hr, q, hq, hf⟩ := hm
  rcases h with ⟨h1, h2⟩ | ⟨h1, h2, h3⟩
  · exact absurd ((e r q).2 ⟨hr, hq, hf⟩) (h2 r q)
  · exact ⟨h1, h2, fun r hr q hq hf => h3 r q ((e r q).2 ⟨hr, hq, hf⟩)⟩
end Go.Nw
