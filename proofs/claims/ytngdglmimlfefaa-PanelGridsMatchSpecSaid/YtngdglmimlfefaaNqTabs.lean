/- NqTabs: a part of the proof. -/
import Derived.Test.YtngdglmimlfefaaNqLaw2
set_option linter.unusedVariables false
set_option linter.unusedSimpArgs false
set_option maxRecDepth 100000
namespace Go.Nw
theorem tdiv_b {a b : Int} (h : 0 ≤ a) (k : 1 ≤ b) : 0 ≤ a.tdiv b ∧ a.tdiv b ≤ a := by
  rw [Int.tdiv_eq_ediv_of_nonneg h]
  exact ⟨Int.ediv_nonneg h (by omega), Int.ediv_le_self _ h⟩
def parF (len most : Int) : Int := if (len + most - 1).tdiv most > 2 then (len + most - 1).tdiv most else 2
theorem parF_b {len most : Int} (h1 : 1 ≤ len) (h2 : len ≤ 1000000) (h3 : 1 ≤ most) (h4 : most ≤ 1000000) : 2 ≤ parF len most ∧ parF len most ≤ 2000000 := by
  have := tdiv_b (a := len + most - 1) (b := most) (by omega) h3
  simp only [parF]; split <;> omega
theorem t_ref9_parts {len most : Int} (h1 : 1 ≤ len) (h2 : len ≤ 1000000) (h3 : 1 ≤ most) (h4 : most ≤ 1000000) : p_ref9_parts len most = some (parF len most) := by
  apply ok_val
  unfold p_ref9_parts
  have := tdiv_b (a := len + most - 1) (b := most) (by omega) h3
  (try dsimp only); (repeat' (first | (with_reducible apply ok_guard; case h => (first | assumption | omega | (simp; done) | (simp; omega) | (and_intros <;> first | omega | (intro _; omega)) | (simp only [Bool.or_eq_true, Bool.and_eq_true, Bool.not_eq_true', Bool.not_eq_true, Bool.not_eq_false', Bool.not_eq_false, Bool.or_eq_false_iff, Bool.and_eq_false_iff, decide_eq_true_eq, decide_eq_false_iff_not, Bool.not_not, beq_iff_eq, bne_iff_ne] at *; omega))) | (with_reducible apply ok_guard) | (with_reducible apply ok_if <;> intro _) | (with_reducible apply ok_some) | (with_reducible apply ok_esc) | (with_reducible apply ok_then))); (all_goals try dsimp only); (all_goals try (exfalso; omega))
  rfl
theorem o_ref9_parts {len most : Int} (h1 : 1 ≤ len) (h2 : len ≤ 1000000) (h3 : 1 ≤ most) (h4 : most ≤ 1000000) {Q_ : _ → Prop} (k_ : Q_ (parF len most)) : Ok (p_ref9_parts len most) Q_ := ok_of (t_ref9_parts h1 h2 h3 h4) k_
theorem s_ref9_parts {β : Type} {cc_ : Prop} {d_ : Decidable cc_} {len most : Int} (h1 : cc_ → (1 ≤ len)) (h2 : cc_ → (len ≤ 1000000)) (h3 : cc_ → (1 ≤ most)) (h4 : cc_ → (most ≤ 1000000)) {e_ : _} {f_ : _ → Option β} {Q_ : β → Prop} (hd : ¬ cc_ → f_ e_ = f_ (parF len most)) (k_ : Ok (f_ (parF len most)) Q_) : Ok (Option.bind (@ite _ cc_ d_ (p_ref9_parts len most) (some e_)) f_) Q_ := ok_short (fun hc__ => t_ref9_parts (h1 hc__) (h2 hc__) (h3 hc__) (h4 hc__)) hd k_
def sideLen (c : TRect) (i : Int) : Int := if i.tmod 2 = 1 then c.Y1 - c.Y0 else c.X1 - c.X0
theorem t_panel_Tabs_1 {i most : Int} {c : TRect} (h1 : 1 ≤ c.X1 - c.X0) (h2 : c.X1 - c.X0 ≤ 1000000) (h1' : 1 ≤ c.Y1 - c.Y0) (h2' : c.Y1 - c.Y0 ≤ 1000000) (h3 : 1 ≤ most) (h4 : most ≤ 1000000) : p_panel_Tabs_1 i c most = some (sideLen c i, parF (sideLen c i) most) := by
  apply ok_val
  unfold p_panel_Tabs_1
  have t1 := tdiv_b (a := c.Y1 - c.Y0 + most - 1) (b := most) (by omega) h3
  have t2 := tdiv_b (a := c.X1 - c.X0 + most - 1) (b := most) (by omega) h3
  (try dsimp only); (repeat' (first | (with_reducible apply ok_guard; case h => (first | assumption | omega | (simp; done) | (simp; omega) | (and_intros <;> first | omega | (intro _; omega)) | (simp only [Bool.or_eq_true, Bool.and_eq_true, Bool.not_eq_true', Bool.not_eq_true, Bool.not_eq_false', Bool.not_eq_false, Bool.or_eq_false_iff, Bool.and_eq_false_iff, decide_eq_true_eq, decide_eq_false_iff_not, Bool.not_not, beq_iff_eq, bne_iff_ne] at *; omega))) | (with_reducible apply ok_guard) | (with_reducible apply ok_if <;> intro _) | (with_reducible apply ok_some) | (with_reducible apply ok_esc) | (with_reducible apply ok_then))); (all_goals try dsimp only); (all_goals try (exfalso; omega))
  · simp only [sideLen, if_pos ‹Int.tmod i 2 = 1›, parF]
  · simp only [sideLen, if_neg ‹¬ Int.tmod i 2 = 1›, parF]
theorem o_panel_Tabs_1 {i most : Int} {c : TRect} (h1 : 1 ≤ c.X1 - c.X0) (h2 : c.X1 - c.X0 ≤ 1000000) (h1' : 1 ≤ c.Y1 - c.Y0) (h2' : c.Y1 - c.Y0 ≤ 1000000) (h3 : 1 ≤ most) (h4 : most ≤ 1000000) {Q_ : _ → Prop} (k_ : Q_ (sideLen c i, parF (sideLen c i) most)) : Ok (p_panel_Tabs_1 i c most) Q_ := ok_of (t_panel_Tabs_1 h1 h2 h1' h2' h3 h4) k_
theorem s_panel_Tabs_1 {β : Type} {cc_ : Prop} {d_ : Decidable cc_} {i most : Int} {c : TRect} (h1 : cc_ → (1 ≤ c.X1 - c.X0)) (h2 : cc_ → (c.X1 - c.X0 ≤ 1000000)) (h1' : cc_ → (1 ≤ c.Y1 - c.Y0)) (h2' : cc_ → (c.Y1 - c.Y0 ≤ 1000000)) (h3 : cc_ → (1 ≤ most)) (h4 : cc_ → (most ≤ 1000000)) {e_ : _} {f_ : _ → Option β} {Q_ : β → Prop} (hd : ¬ cc_ → f_ e_ = f_ (sideLen c i, parF (sideLen c i) most)) (k_ : Ok (f_ (sideLen c i, parF (sideLen c i) most)) Q_) : Ok (Option.bind (@ite _ cc_ d_ (p_panel_Tabs_1 i c most) (some e_)) f_) Q_ := ok_short (fun hc__ => t_panel_Tabs_1 (h1 hc__) (h2 hc__) (h1' hc__) (h2' hc__) (h3 hc__) (h4 hc__)) hd k_
def dxF (i : Nat) : Int := if i = 0 then 1 else if i = 2 then -1 else 0
def dyF (i : Nat) : Int := if i = 1 then 1 else if i = 3 then -1 else 0
def crn (c : TRect) : List TPoint := [{ X := c.X0, Y := c.Y0 }, { X := c.X1, Y := c.Y0 }, { X := c.X1, Y := c.Y1 }, { X := c.X0, Y := c.Y1 }]
def tabPt (c : TRect) (i : Nat) (d : Int) : TPoint := { X := ((crn c).getD i default).X + dxF i * d, Y := ((crn c).getD i default).Y + dyF i * d }
def tabAt (c : TRect) (most : Int) (i k : Nat) : TPoint := tabPt c i ((sideLen c i * ((k : Int) + 1)).tdiv (parF (sideLen c i) most))
def tabsN (c : TRect) (most : Int) (i : Nat) : List TPoint := (List.range (parF (sideLen c i) most - 1).toNat).map (tabAt c most i)
def tabsUp (c : TRect) (most : Int) : Nat → List TPoint
  | 0 => []
  | i + 1 => tabsUp c most i ++ tabsN c most i
def tabCount (c : TRect) (most : Int) : Int := 2 * (parF (c.X1 - c.X0) most - 1) + 2 * (parF (c.Y1 - c.Y0) most - 1)
structure Dims (c : TRect) : Prop where
  sm : Small c
  w1 : 1 ≤ c.X1 - c.X0
  w2 : c.X1 - c.X0 ≤ 1000000
  h1 : 1 ≤ c.Y1 - c.Y0
  h2 : c.Y1 - c.Y0 ≤ 1000000
theorem Good.dims {p : TPanel} (g : Good p) {i : Nat} (hi : i < p.Slots.length) : Dims (cellF p (slotD p i)) := by
  obtain ⟨h1, h2, h3⟩ := g.toOpn.slot (g.ss i hi)
  have := g.toOpn.size h1 (slotD p i).Quarters
  exact ⟨h3, by simp only [cellF]; omega, by simp only [cellF]; omega, by simp only [cellF]; omega, by simp only [cellF]; omega⟩
theorem Dims.side {c : TRect} (h : Dims c) (i : Int) : 1 ≤ sideLen c i ∧ sideLen c i ≤ 1000000 := by
  obtain ⟨_, h1, h2, h3, h4⟩ := h
  simp only [sideLen]; split <;> omega
theorem len_tabsUp {c : TRect} {most : Int} (h : Dims c) (h3 : 1 ≤ most) (h4 : most ≤ 1000000) (i : Nat) : (tabsUp c most i).length ≤ i * 2000000 := by
  induction i with
  | zero => simp [tabsUp]
  | succ i ih =>
    have := parF_b (h.side i).1 (h.side i).2 h3 h4
    simp only [tabsUp, tabsN, List.length_append, List.length_map, List.length_range]; omega
theorem tab_d {len n : Int} {k : Nat} (h1 : 1 ≤ len) (h2 : len ≤ 1000000) (h3 : 2 ≤ n) (h4 : n ≤ 2000000) (hk : k < (n - 1).toNat) : (0 ≤ len * ((k : Int) + 1) ∧ len * ((k : Int) + 1) ≤ 2000000000000) ∧ 0 ≤ (len * ((k : Int) + 1)).tdiv n ∧ (len * ((k : Int) + 1)).tdiv n ≤ len := by
  have a0 : 0 ≤ len * ((k : Int) + 1) := Int.mul_nonneg (by omega) (by omega)
  have a1 : len * ((k : Int) + 1) ≤ len * n := Int.mul_le_mul_of_nonneg_left (by omega) (by omega)
  have a2 : len * n ≤ 1000000 * 2000000 := Int.mul_le_mul (by omega) h4 (by omega) (by omega)
  rw [Int.tdiv_eq_ediv_of_nonneg a0]
  exact ⟨⟨a0, by omega⟩, Int.ediv_nonneg a0 (by omega), Int.ediv_le_of_le_mul (by omega) a1⟩
theorem side4 {i : Nat} (hi : i < 4) : i = 0 ∨ i = 1 ∨ i = 2 ∨ i = 3 := by omega
theorem range_map_succ {α : Type} (f : Nat → α) (k : Nat) : (List.range (k + 1)).map f = (List.range k).map f ++ [f k] := by rw [List.range_succ, List.map_append]; rfl
noncomputable def tabsF (p : TPanel) (slot most : Int) : List TPoint × Int :=
  if checkF p = 0 then
    if (!(decide (0 ≤ slot) && decide (slot ≤ (p.Slots.length : Int) - 1))) = true then ([], 9)
    else if (!(decide (1 ≤ most) && decide (most ≤ 1000000))) = true then ([], 1)
    else if 2000 < tabCount (cellF p (p.Slots.getD slot.toNat default)) most then ([], 2)
    else (tabsUp (cellF p (p.Slots.getD slot.toNat default)) most 4, 0)
  else ([], checkF p)
theorem tabPt_eq {c : TRect} {i : Nat} {d x y : Int} (hx : ((crn c).getD i default).X + dxF i * d = x) (hy : ((crn c).getD i default).Y + dyF i * d = y) : tabPt c i d = { X := x, Y := y } := by rw [tabPt, hx, hy]
theorem t_ref9_Tabs {p : TPanel} {slot most : Int} (f : Fits p) : p_ref9_Tabs p slot most = some (tabsF p slot most) := by
  apply ok_val
  unfold p_ref9_Tabs
  have hl := f.2.1
  refine ok_then (o_ref9_CheckPanel f (ok_if (fun c => ?_) (fun c => ?_)))
  · have g := good_of c
    (try dsimp only); (repeat' (first | (with_reducible apply s_ref9_within; case hd => (intro hc; simp only [Bool.not_not, Bool.not_eq_true, Bool.not_eq_false'] at hc; simp only [hc, Bool.true_or, Bool.false_and, Bool.not_true, Bool.not_false, Bool.or_true, Bool.and_false])) | (with_reducible apply o_ref9_within <;> try first | assumption | omega) | (with_reducible apply ok_guard; case h => (first | assumption | omega | (simp; done) | (simp; omega) | (and_intros <;> first | omega | (intro _; omega)) | (simp only [Bool.or_eq_true, Bool.and_eq_true, Bool.not_eq_true', Bool.not_eq_true, Bool.not_eq_false', Bool.not_eq_false, Bool.or_eq_false_iff, Bool.and_eq_false_iff, decide_eq_true_eq, decide_eq_false_iff_not, Bool.not_not, beq_iff_eq, bne_iff_ne] at *; omega))) | (with_reducible apply ok_guard) | (with_reducible apply ok_if <;> intro _) | (with_reducible apply ok_some) | (with_reducible apply ok_esc) | (with_reducible apply ok_then))); (all_goals try dsimp only); (all_goals try (exfalso; omega))
    · rename_i c2; rw [tabsF, if_pos c, if_pos c2]
    · rename_i c2 c3; rw [tabsF, if_pos c, if_neg c2, if_pos c3]
    · rename_i c2 c3
      have e1 := c2
      (simp only [Bool.or_eq_true, Bool.and_eq_true, Bool.not_eq_true', Bool.not_eq_true, Bool.not_eq_false', Bool.not_eq_false, Bool.or_eq_false_iff, Bool.and_eq_false_iff, decide_eq_true_eq, decide_eq_false_iff_not, Bool.not_not, beq_iff_eq, bne_iff_ne] at e1)
      have e2 := c3
      (simp only [Bool.or_eq_true, Bool.and_eq_true, Bool.not_eq_true', Bool.not_eq_true, Bool.not_eq_false', Bool.not_eq_false, Bool.or_eq_false_iff, Bool.and_eq_false_iff, decide_eq_true_eq, decide_eq_false_iff_not, Bool.not_not, beq_iff_eq, bne_iff_ne] at e2)
      have hm : 1 ≤ most ∧ most ≤ 1000000 := by omega
      have hi : slot.toNat < p.Slots.length := by omega
      obtain ⟨ha1, ha2, _⟩ := g.at (i := slot) (by omega) (by omega)
      have hd : Dims (cellF p (p.Slots.getD slot.toNat default)) := g.dims hi
      have hup := len_tabsUp hd hm.1 hm.2
      refine o_ref9_cellOf g.toOpn ha1 ha2 ?_
      have ht : tabsF p slot most = if 2000 < tabCount (cellF p (p.Slots.getD slot.toNat default)) most then ([], 2) else (tabsUp (cellF p (p.Slots.getD slot.toNat default)) most 4, 0) := by
        rw [tabsF, if_pos c, if_neg c2, if_neg c3]
      rw [ht]
      generalize cellF p (p.Slots.getD slot.toNat default) = r at *
      obtain ⟨hs, hw1, hw2, hh1, hh2⟩ := id hd
      obtain ⟨⟨b1, b2⟩, ⟨b3, b4⟩, ⟨b5, b6⟩, b7, b8⟩ := id hs
      have p1 := parF_b hw1 hw2 hm.1 hm.2
      have p2 := parF_b hh1 hh2 hm.1 hm.2
      (try dsimp only); (repeat' (first | (with_reducible apply ok_guard; case h => (first | assumption | omega | (simp; done) | (simp; omega) | (and_intros <;> first | omega | (intro _; omega)) | (simp only [Bool.or_eq_true, Bool.and_eq_true, Bool.not_eq_true', Bool.not_eq_true, Bool.not_eq_false', Bool.not_eq_false, Bool.or_eq_false_iff, Bool.and_eq_false_iff, decide_eq_true_eq, decide_eq_false_iff_not, Bool.not_not, beq_iff_eq, bne_iff_ne] at *; omega))) | (with_reducible apply ok_guard) | (with_reducible apply ok_if <;> intro _) | (with_reducible apply ok_some) | (with_reducible apply ok_esc) | (with_reducible apply ok_then))); (all_goals try dsimp only); (all_goals try (exfalso; omega))
      refine o_ref9_parts hw1 hw2 hm.1 hm.2 ?_
      (try dsimp only); (repeat' (first | (with_reducible apply ok_guard; case h => (first | assumption | omega | (simp; done) | (simp; omega) | (and_intros <;> first | omega | (intro _; omega)) | (simp only [Bool.or_eq_true, Bool.and_eq_true, Bool.not_eq_true', Bool.not_eq_true, Bool.not_eq_false', Bool.not_eq_false, Bool.or_eq_false_iff, Bool.and_eq_false_iff, decide_eq_true_eq, decide_eq_false_iff_not, Bool.not_not, beq_iff_eq, bne_iff_ne] at *; omega))) | (with_reducible apply ok_guard) | (with_reducible apply ok_if <;> intro _) | (with_reducible apply ok_some) | (with_reducible apply ok_esc) | (with_reducible apply ok_then))); (all_goals try dsimp only); (all_goals try (exfalso; omega))
      refine o_ref9_parts hh1 hh2 hm.1 hm.2 ?_
      (try dsimp only); (repeat' (first | (with_reducible apply ok_guard; case h => (first | assumption | omega | (simp; done) | (simp; omega) | (and_intros <;> first | omega | (intro _; omega)) | (simp only [Bool.or_eq_true, Bool.and_eq_true, Bool.not_eq_true', Bool.not_eq_true, Bool.not_eq_false', Bool.not_eq_false, Bool.or_eq_false_iff, Bool.and_eq_false_iff, decide_eq_true_eq, decide_eq_false_iff_not, Bool.not_not, beq_iff_eq, bne_iff_ne] at *; omega))) | (with_reducible apply ok_guard) | (with_reducible apply ok_if <;> intro _) | (with_reducible apply ok_some) | (with_reducible apply ok_esc) | (with_reducible apply ok_then))); (all_goals try dsimp only); (all_goals try (exfalso; omega))
      · rename_i c5; rw [if_pos (by simp only [tabCount]; exact c5)]
      · rename_i c5
        rw [if_neg (by simp only [tabCount]; exact c5)]
        refine ok_for 4 (fun i x => x = tabsUp r most i) rfl ?_ ?_
        · intro i x hi hx
          subst hx
          have hup := hup i
          have hsd := hd.side i
          have hp := parF_b hsd.1 hsd.2 hm.1 hm.2
          have he : Ok (if Int.tmod (i : Int) 2 = 1 then some (r.Y1 - r.Y0) else some (r.X1 - r.X0)) (fun z => z = sideLen r i) := by
            (try dsimp only); (repeat' (first | (with_reducible apply ok_guard; case h => (first | assumption | omega | (simp; done) | (simp; omega) | (and_intros <;> first | omega | (intro _; omega)) | (simp only [Bool.or_eq_true, Bool.and_eq_true, Bool.not_eq_true', Bool.not_eq_true, Bool.not_eq_false', Bool.not_eq_false, Bool.or_eq_false_iff, Bool.and_eq_false_iff, decide_eq_true_eq, decide_eq_false_iff_not, Bool.not_not, beq_iff_eq, bne_iff_ne] at *; omega))) | (with_reducible apply ok_guard) | (with_reducible apply ok_if <;> intro _) | (with_reducible apply ok_some) | (with_reducible apply ok_esc) | (with_reducible apply ok_then))); (all_goals try dsimp only); (all_goals try (exfalso; omega))
            · rw [sideLen, if_pos ‹_›]
            · rw [sideLen, if_neg ‹_›]
          refine ok_if (fun _ => ?_) (fun h => by exfalso; omega)
          refine ok_then (ok_then (ok_mono he ?_))
          rintro _ rfl
          refine ok_then (o_ref9_parts hsd.1 hsd.2 hm.1 hm.2 ?_)
          refine ok_for1 (parF (sideLen r i) most - 1).toNat (fun k x => x = tabsUp r most i ++ (List.range k).map (tabAt r most i)) (by simp) ?_ ?_
          · intro k x hk hx
            subst hx
            obtain ⟨d1, d2⟩ := tab_d hsd.1 hsd.2 hp.1 hp.2 hk
            have hlen : (tabsUp r most i ++ (List.range k).map (tabAt r most i)).length ≤ 10000000 := by rw [List.length_append, List.length_map, List.length_range]; omega
            have e : ((k : Int) + 1) * sideLen r i = sideLen r i * ((k : Int) + 1) := Int.mul_comm _ _
            have hpt : tabAt r most i k = tabPt r i ((sideLen r i * ((k : Int) + 1)).tdiv (parF (sideLen r i) most)) := rfl
            simp only [e]
            have hsl : (i = 0 ∨ i = 2 → sideLen r i = r.X1 - r.X0) ∧ (i = 1 ∨ i = 3 → sideLen r i = r.Y1 - r.Y0) := by
              rcases side4 hi with rfl | rfl | rfl | rfl <;> simp [sideLen]
            generalize (sideLen r i * ((k : Int) + 1)).tdiv (parF (sideLen r i) most) = d at *
            rw [List.range_succ, List.map_append, List.map_singleton, hpt]
            rcases side4 hi with rfl | rfl | rfl | rfl
            · have h1 := hsl.1 (by simp)
              rw [tabPt_eq (x := r.X0 + d) (y := r.Y0) (by simp [crn, dxF]) (by simp [crn, dyF])]
              (try dsimp only); (repeat' (first | (with_reducible apply ok_guard; case h => (first | assumption | omega | (simp; done) | (simp; omega) | (and_intros <;> first | omega | (intro _; omega)) | (simp only [Bool.or_eq_true, Bool.and_eq_true, Bool.not_eq_true', Bool.not_eq_true, Bool.not_eq_false', Bool.not_eq_false, Bool.or_eq_false_iff, Bool.and_eq_false_iff, decide_eq_true_eq, decide_eq_false_iff_not, Bool.not_not, beq_iff_eq, bne_iff_ne] at *; omega))) | (with_reducible apply ok_guard) | (with_reducible apply ok_if <;> intro _) | (with_reducible apply ok_some) | (with_reducible apply ok_esc) | (with_reducible apply ok_then))); (all_goals try dsimp only); (all_goals try (exfalso; omega))
              exact ⟨rfl, by simp⟩
            · have h1 := hsl.2 (by simp)
              rw [tabPt_eq (x := r.X1) (y := r.Y0 + d) (by simp [crn, dxF]) (by simp [crn, dyF])]
              (try dsimp only); (repeat' (first | (with_reducible apply ok_guard; case h => (first | assumption | omega | (simp; done) | (simp; omega) | (and_intros <;> first | omega | (intro _; omega)) | (simp only [Bool.or_eq_true, Bool.and_eq_true, Bool.not_eq_true', Bool.not_eq_true, Bool.not_eq_false', Bool.not_eq_false, Bool.or_eq_false_iff, Bool.and_eq_false_iff, decide_eq_true_eq, decide_eq_false_iff_not, Bool.not_not, beq_iff_eq, bne_iff_ne] at *; omega))) | (with_reducible apply ok_guard) | (with_reducible apply ok_if <;> intro _) | (with_reducible apply ok_some) | (with_reducible apply ok_esc) | (with_reducible apply ok_then))); (all_goals try dsimp only); (all_goals try (exfalso; omega))
              exact ⟨rfl, by simp⟩
            · have h1 := hsl.1 (by simp)
              rw [tabPt_eq (x := r.X1 - d) (y := r.Y1) (by simp [crn, dxF]; omega) (by simp [crn, dyF])]
              (try dsimp only); (repeat' (first | (with_reducible apply ok_guard; case h => (first | assumption | omega | (simp; done) | (simp; omega) | (and_intros <;> first | omega | (intro _; omega)) | (simp only [Bool.or_eq_true, Bool.and_eq_true, Bool.not_eq_true', Bool.not_eq_true, Bool.not_eq_false', Bool.not_eq_false, Bool.or_eq_false_iff, Bool.and_eq_false_iff, decide_eq_true_eq, decide_eq_false_iff_not, Bool.not_not, beq_iff_eq, bne_iff_ne] at *; omega))) | (with_reducible apply ok_guard) | (with_reducible apply ok_if <;> intro _) | (with_reducible apply ok_some) | (with_reducible apply ok_esc) | (with_reducible apply ok_then))); (all_goals try dsimp only); (all_goals try (exfalso; omega))
              exact ⟨rfl, by simp⟩
            · have h1 := hsl.2 (by simp)
              rw [tabPt_eq (x := r.X0) (y := r.Y1 - d) (by simp [crn, dxF]) (by simp [crn, dyF]; omega)]
              (try dsimp only); (repeat' (first | (with_reducible apply ok_guard; case h => (first | assumption | omega | (simp; done) | (simp; omega) | (and_intros <;> first | omega | (intro _; omega)) | (simp only [Bool.or_eq_true, Bool.and_eq_true, Bool.not_eq_true', Bool.not_eq_true, Bool.not_eq_false', Bool.not_eq_false, Bool.or_eq_false_iff, Bool.and_eq_false_iff, decide_eq_true_eq, decide_eq_false_iff_not, Bool.not_not, beq_iff_eq, bne_iff_ne] at *; omega))) | (with_reducible apply ok_guard) | (with_reducible apply ok_if <;> intro _) | (with_reducible apply ok_some) | (with_reducible apply ok_esc) | (with_reducible apply ok_then))); (all_goals try dsimp only); (all_goals try (exfalso; omega))
              exact ⟨rfl, by simp⟩
          · intro x hx
            subst hx
            (try dsimp only); (repeat' (first | (with_reducible apply ok_guard; case h => (first | assumption | omega | (simp; done) | (simp; omega) | (and_intros <;> first | omega | (intro _; omega)) | (simp only [Bool.or_eq_true, Bool.and_eq_true, Bool.not_eq_true', Bool.not_eq_true, Bool.not_eq_false', Bool.not_eq_false, Bool.or_eq_false_iff, Bool.and_eq_false_iff, decide_eq_true_eq, decide_eq_false_iff_not, Bool.not_not, beq_iff_eq, bne_iff_ne] at *; omega))) | (with_reducible apply ok_guard) | (with_reducible apply ok_if <;> intro _) | (with_reducible apply ok_some) | (with_reducible apply ok_esc) | (with_reducible apply ok_then))); (all_goals try dsimp only); (all_goals try (exfalso; omega))
            exact ⟨rfl, rfl⟩
        · intro x hx
          subst hx
          (try dsimp only); (repeat' (first | (with_reducible apply ok_guard; case h => (first | assumption | omega | (simp; done) | (simp; omega) | (and_intros <;> first | omega | (intro _; omega)) | (simp only [Bool.or_eq_true, Bool.and_eq_true, Bool.not_eq_true', Bool.not_eq_true, Bool.not_eq_false', Bool.not_eq_false, Bool.or_eq_false_iff, Bool.and_eq_false_iff, decide_eq_true_eq, decide_eq_false_iff_not, Bool.not_not, beq_iff_eq, bne_iff_ne] at *; omega))) | (with_reducible apply ok_guard) | (with_reducible apply ok_if <;> intro _) | (with_reducible apply ok_some) | (with_reducible apply ok_esc) | (with_reducible apply ok_then))); (all_goals try dsimp only); (all_goals try (exfalso; omega))
  · refine ok_some ?_
    rw [tabsF, if_neg c]
theorem o_ref9_Tabs {p : TPanel} {slot most : Int} (f : Fits p) {Q_ : _ → Prop} (k_ : Q_ (tabsF p slot most)) : Ok (p_ref9_Tabs p slot most) Q_ := ok_of (t_ref9_Tabs f) k_
theorem s_ref9_Tabs {β : Type} {cc_ : Prop} {d_ : Decidable cc_} {p : TPanel} {slot most : Int} (f : cc_ → (Fits p)) {e_ : _} {f_ : _ → Option β} {Q_ : β → Prop} (hd : ¬ cc_ → f_ e_ = f_ (tabsF p slot most)) (k_ : Ok (f_ (tabsF p slot most)) Q_) : Ok (Option.bind (@ite _ cc_ d_ (p_ref9_Tabs p slot most) (some e_)) f_) Q_ := ok_short (fun hc__ => t_ref9_Tabs (f hc__)) hd k_
def tabSum (c : TRect) (most : Int) : Nat → Int
  | 0 => 0
  | i + 1 => tabSum c most i + (parF (sideLen c i) most - 1)
theorem tabSum_4 (c : TRect) (most : Int) : tabSum c most 4 = tabCount c most := by
  simp [tabSum, tabCount, sideLen]; omega
theorem tabSum_b {c : TRect} {most : Int} (h : Dims c) (h3 : 1 ≤ most) (h4 : most ≤ 1000000) (i : Nat) : 0 ≤ tabSum c most i ∧ tabSum c most i ≤ i * 2000000 := by
  induction i with
  | zero => simp [tabSum]
  | succ i ih =>
    have := parF_b (h.side i).1 (h.side i).2 h3 h4
    simp only [tabSum]; omega
/-- from one corner to the next -/
theorem crn_step {c : TRect} (h : Dims c) {i : Nat} (hi : i < 4) :
    (((crn c).getD (Int.tmod ((i : Int) + 1) 4).toNat default).X - ((crn c).getD i default).X = dxF i * sideLen c i) ∧ (((crn c).getD (Int.tmod ((i : Int) + 1) 4).toNat default).Y - ((crn c).getD i default).Y = dyF i * sideLen c i) ∧
    ((dxF i = 1 ∧ dyF i = 0) ∨ (dxF i = 0 ∧ dyF i = 1) ∨ (dxF i = -1 ∧ dyF i = 0) ∨ (dxF i = 0 ∧ dyF i = -1)) ∧
    (0 ≤ ((crn c).getD i default).X ∧ ((crn c).getD i default).X ≤ 2000000) ∧ (0 ≤ ((crn c).getD i default).Y ∧ ((crn c).getD i default).Y ≤ 2000000) ∧ Int.tmod ((i : Int) + 1) 4 < 4 ∧ 0 ≤ Int.tmod ((i : Int) + 1) 4 := by
  obtain ⟨⟨⟨b1, b2⟩, ⟨b3, b4⟩, ⟨b5, b6⟩, b7, b8⟩, _⟩ := h
  rcases side4 hi with rfl | rfl | rfl | rfl <;> simp [crn, dxF, dyF, sideLen] <;> omega
theorem tdiv_dx {l d : Int} (hl : 1 ≤ l) (hd : d = 1 ∨ d = 0 ∨ d = -1) : (d * l).tdiv l = d := by
  rw [Int.mul_tdiv_cancel _ (by omega)]
theorem t_panel_Tabs {p : TPanel} {slot most : Int} (f : Fits p) : p_panel_Tabs p slot most = some (tabsF p slot most) := by
  apply ok_val
  unfold p_panel_Tabs
  have hl := f.2.1
  refine ok_then (o_panel_open f (ok_if (fun c => ?_) (fun c => ?_)))
  · change checkF p = 0 at c
    have g := good_of c
    have eo : openF p = (p.Slots.map (cellF p), 0) := by rw [openF, c, if_pos rfl]
    rw [eo]
    dsimp only
    rw [List.length_map]
    (try dsimp only); (repeat' (first | (with_reducible apply s_panel_within; case hd => (intro hc; simp only [Bool.not_not, Bool.not_eq_true, Bool.not_eq_false'] at hc; simp only [hc, Bool.true_or, Bool.false_and, Bool.not_true, Bool.not_false, Bool.or_true, Bool.and_false])) | (with_reducible apply o_panel_within <;> try first | assumption | omega) | (with_reducible apply ok_guard; case h => (first | assumption | omega | (simp; done) | (simp; omega) | (and_intros <;> first | omega | (intro _; omega)) | (simp only [Bool.or_eq_true, Bool.and_eq_true, Bool.not_eq_true', Bool.not_eq_true, Bool.not_eq_false', Bool.not_eq_false, Bool.or_eq_false_iff, Bool.and_eq_false_iff, decide_eq_true_eq, decide_eq_false_iff_not, Bool.not_not, beq_iff_eq, bne_iff_ne] at *; omega))) | (with_reducible apply ok_guard) | (with_reducible apply ok_if <;> intro _) | (with_reducible apply ok_some) | (with_reducible apply ok_esc) | (with_reducible apply ok_then))); (all_goals try dsimp only); (all_goals try (exfalso; omega))
    · rename_i c2; rw [tabsF, if_pos c, if_pos c2]
    · rename_i c2 c3; rw [tabsF, if_pos c, if_neg c2, if_pos c3]
    · rename_i c2 c3
      have e1 := c2
      (simp only [Bool.or_eq_true, Bool.and_eq_true, Bool.not_eq_true', Bool.not_eq_true, Bool.not_eq_false', Bool.not_eq_false, Bool.or_eq_false_iff, Bool.and_eq_false_iff, decide_eq_true_eq, decide_eq_false_iff_not, Bool.not_not, beq_iff_eq, bne_iff_ne] at e1)
      have e2 := c3
      (simp only [Bool.or_eq_true, Bool.and_eq_true, Bool.not_eq_true', Bool.not_eq_true, Bool.not_eq_false', Bool.not_eq_false, Bool.or_eq_false_iff, Bool.and_eq_false_iff, decide_eq_true_eq, decide_eq_false_iff_not, Bool.not_not, beq_iff_eq, bne_iff_ne] at e2)
      have hm : 1 ≤ most ∧ most ≤ 1000000 := by omega
      have hi : slot.toNat < p.Slots.length := by omega
      have hd : Dims (cellF p (p.Slots.getD slot.toNat default)) := g.dims hi
      rw [getD_map (cellF p) p.Slots slot.toNat default default hi]
      have ht : tabsF p slot most = if 2000 < tabCount (cellF p (p.Slots.getD slot.toNat default)) most then ([], 2) else (tabsUp (cellF p (p.Slots.getD slot.toNat default)) most 4, 0) := by
        rw [tabsF, if_pos c, if_neg c2, if_neg c3]
      rw [ht]
      have hup := len_tabsUp hd hm.1 hm.2
      have hsum := tabSum_b hd hm.1 hm.2
      generalize cellF p (p.Slots.getD slot.toNat default) = r at *
      obtain ⟨hs, hw1, hw2, hh1, hh2⟩ := id hd
      refine ok_mono (P := fun e => e = tabSum r most 4) (ok_for 4 (fun i x => x = tabSum r most i) rfl ?_ ?_) ?_
      · intro i x hi hx
        subst hx
        have hsm := hsum i
        have hp := parF_b (hd.side i).1 (hd.side i).2 hm.1 hm.2
        refine ok_if (fun _ => ?_) (fun h => by exfalso; omega)
        refine ok_then (o_panel_Tabs_1 hw1 hw2 hh1 hh2 hm.1 hm.2 ?_)
        (try dsimp only); (repeat' (first | (with_reducible apply ok_guard; case h => (first | assumption | omega | (simp; done) | (simp; omega) | (and_intros <;> first | omega | (intro _; omega)) | (simp only [Bool.or_eq_true, Bool.and_eq_true, Bool.not_eq_true', Bool.not_eq_true, Bool.not_eq_false', Bool.not_eq_false, Bool.or_eq_false_iff, Bool.and_eq_false_iff, decide_eq_true_eq, decide_eq_false_iff_not, Bool.not_not, beq_iff_eq, bne_iff_ne] at *; omega))) | (with_reducible apply ok_guard) | (with_reducible apply ok_if <;> intro _) | (with_reducible apply ok_some) | (with_reducible apply ok_esc) | (with_reducible apply ok_then))); (all_goals try dsimp only); (all_goals try (exfalso; omega))
        exact ⟨rfl, rfl⟩
      · rintro x rfl
        (try dsimp only); (repeat' (first | (with_reducible apply ok_guard; case h => (first | assumption | omega | (simp; done) | (simp; omega) | (and_intros <;> first | omega | (intro _; omega)) | (simp only [Bool.or_eq_true, Bool.and_eq_true, Bool.not_eq_true', Bool.not_eq_true, Bool.not_eq_false', Bool.not_eq_false, Bool.or_eq_false_iff, Bool.and_eq_false_iff, decide_eq_true_eq, decide_eq_false_iff_not, Bool.not_not, beq_iff_eq, bne_iff_ne] at *; omega))) | (with_reducible apply ok_guard) | (with_reducible apply ok_if <;> intro _) | (with_reducible apply ok_some) | (with_reducible apply ok_esc) | (with_reducible apply ok_then))); (all_goals try dsimp only); (all_goals try (exfalso; omega))
      · rintro _ rfl
        rw [tabSum_4]
        refine ok_if (fun c5 => ?_) (fun c5 => ?_)
        · rw [if_pos c5]; exact ok_some rfl
        · rw [if_neg c5]
          refine ok_then ?_
          refine ok_for 4 (fun i x => x = (tabsUp r most i, crn r, r, most)) rfl ?_ ?_
          · intro i x hi hx
            subst hx
            have hup := hup i
            have hsd := hd.side i
            have hp := parF_b hsd.1 hsd.2 hm.1 hm.2
            obtain ⟨hx, hy, hxy, hX, hY, ht1, ht2⟩ := crn_step hd hi
            have ex : (dxF i * sideLen r i).tdiv (sideLen r i) = dxF i := tdiv_dx hsd.1 (by omega)
            have ey : (dyF i * sideLen r i).tdiv (sideLen r i) = dyF i := tdiv_dx hsd.1 (by omega)
            have hbx : -1000000 ≤ dxF i * sideLen r i ∧ dxF i * sideLen r i ≤ 1000000 := by rcases hxy with ⟨h, _⟩ | ⟨h, _⟩ | ⟨h, _⟩ | ⟨h, _⟩ <;> rw [h] <;> omega
            have hby : -1000000 ≤ dyF i * sideLen r i ∧ dyF i * sideLen r i ≤ 1000000 := by rcases hxy with ⟨_, h⟩ | ⟨_, h⟩ | ⟨_, h⟩ | ⟨_, h⟩ <;> rw [h] <;> omega
            have hcl : (crn r).length = 4 := rfl
            dsimp only
            simp only [Int.toNat_natCast, hcl, hx, hy, ex, ey]
            refine ok_if (fun _ => ?_) (fun h => by exfalso; omega)
            refine ok_then (ok_guard (by omega) (ok_guard (by omega) ?_))
            refine ok_then (o_panel_Tabs_1 hw1 hw2 hh1 hh2 hm.1 hm.2 ?_)
            dsimp only
            simp only [ex, ey]
            refine ok_for1 (parF (sideLen r i) most - 1).toNat (fun k x => x = tabsUp r most i ++ (List.range k).map (tabAt r most i)) (by simp) ?_ ?_
            · intro k x hk hx
              subst hx
              obtain ⟨d1, d2⟩ := tab_d hsd.1 hsd.2 hp.1 hp.2 hk
              have hlen : (tabsUp r most i ++ (List.range k).map (tabAt r most i)).length ≤ 10000000 := by rw [List.length_append, List.length_map, List.length_range]; omega
              have hpt : tabAt r most i k = tabPt r i ((sideLen r i * ((k : Int) + 1)).tdiv (parF (sideLen r i) most)) := rfl
              rw [List.range_succ, List.map_append, List.map_singleton, hpt, tabPt]
              generalize (sideLen r i * ((k : Int) + 1)).tdiv (parF (sideLen r i) most) = d at *
              have hdx : -1000000 ≤ dxF i * d ∧ dxF i * d ≤ 1000000 := by rcases hxy with ⟨h, _⟩ | ⟨h, _⟩ | ⟨h, _⟩ | ⟨h, _⟩ <;> rw [h] <;> omega
              have hdy : -1000000 ≤ dyF i * d ∧ dyF i * d ≤ 1000000 := by rcases hxy with ⟨_, h⟩ | ⟨_, h⟩ | ⟨_, h⟩ | ⟨_, h⟩ <;> rw [h] <;> omega
              (try dsimp only); (repeat' (first | (with_reducible apply ok_guard; case h => (first | assumption | omega | (simp; done) | (simp; omega) | (and_intros <;> first | omega | (intro _; omega)) | (simp only [Bool.or_eq_true, Bool.and_eq_true, Bool.not_eq_true', Bool.not_eq_true, Bool.not_eq_false', Bool.not_eq_false, Bool.or_eq_false_iff, Bool.and_eq_false_iff, decide_eq_true_eq, decide_eq_false_iff_not, Bool.not_not, beq_iff_eq, bne_iff_ne] at *; omega))) | (with_reducible apply ok_guard) | (with_reducible apply ok_if <;> intro _) | (with_reducible apply ok_some) | (with_reducible apply ok_esc) | (with_reducible apply ok_then))); (all_goals try dsimp only); (all_goals try (exfalso; omega))
              exact ⟨rfl, by simp⟩
            · intro x hx
              subst hx
              (try dsimp only); (repeat' (first | (with_reducible apply ok_guard; case h => (first | assumption | omega | (simp; done) | (simp; omega) | (and_intros <;> first | omega | (intro _; omega)) | (simp only [Bool.or_eq_true, Bool.and_eq_true, Bool.not_eq_true', Bool.not_eq_true, Bool.not_eq_false', Bool.not_eq_false, Bool.or_eq_false_iff, Bool.and_eq_false_iff, decide_eq_true_eq, decide_eq_false_iff_not, Bool.not_not, beq_iff_eq, bne_iff_ne] at *; omega))) | (with_reducible apply ok_guard) | (with_reducible apply ok_if <;> intro _) | (with_reducible apply ok_some) | (with_reducible apply ok_esc) | (with_reducible apply ok_then))); (all_goals try dsimp only); (all_goals try (exfalso; omega))
              exact ⟨rfl, rfl⟩
          · intro x hx
            subst hx
            (try dsimp only); (repeat' (first | (with_reducible apply ok_guard; case h => (first | assumption | omega | (simp; done) | (simp; omega) | (and_intros <;> first | omega | (intro _; omega)) | (simp only [Bool.or_eq_true, Bool.and_eq_true, Bool.not_eq_true', Bool.not_eq_true, Bool.not_eq_false', Bool.not_eq_false, Bool.or_eq_false_iff, Bool.and_eq_false_iff, decide_eq_true_eq, decide_eq_false_iff_not, Bool.not_not, beq_iff_eq, bne_iff_ne] at *; omega))) | (with_reducible apply ok_guard) | (with_reducible apply ok_if <;> intro _) | (with_reducible apply ok_some) | (with_reducible apply ok_esc) | (with_reducible apply ok_then))); (all_goals try dsimp only); (all_goals try (exfalso; omega))
  · change ¬ checkF p = 0 at c
    refine ok_some ?_
    rw [tabsF, if_neg c]; rfl
theorem o_panel_Tabs {p : TPanel} {slot most : Int} (f : Fits p) {Q_ : _ → Prop} (k_ : Q_ (tabsF p slot most)) : Ok (p_panel_Tabs p slot most) Q_ := ok_of (t_panel_Tabs f) k_
theorem s_panel_Tabs {β : Type} {cc_ : Prop} {d_ : Decidable cc_} {p : TPanel} {slot most : Int} (f : cc_ → (Fits p)) {e_ : _} {f_ : _ → Option β} {Q_ : β → Prop} (hd : ¬ cc_ → f_ e_ = f_ (tabsF p slot most)) (k_ : Ok (f_ (tabsF p slot most)) Q_) : Ok (Option.bind (@ite _ cc_ d_ (p_panel_Tabs p slot most) (some e_)) f_) Q_ := ok_short (fun hc__ => t_panel_Tabs (f hc__)) hd k_
end Go.Nw
