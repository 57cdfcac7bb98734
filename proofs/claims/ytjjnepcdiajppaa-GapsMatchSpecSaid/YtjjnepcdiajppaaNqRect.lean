/- NqRect: a part of the proof. -/
import Derived.Test.YtjjnepcdiajppaaNqReg
import Derived.Test.YtjjnepcdiajppaaNwTyR2
/- Rectangles, what they cover, and the bands of that. -/
set_option linter.unusedVariables false
set_option linter.unusedSimpArgs false
namespace Go.Nw
def inR (r : TRect) (x y : Int) : Prop := (r.X0 ≤ x ∧ x < r.X1) ∧ r.Y0 ≤ y ∧ y < r.Y1
def cov (l : List TRect) (x y : Int) : Prop := ∃ r ∈ l, inR r x y
def rectsB (b : Bd) : List TRect := (pairsX b.xs).map fun p => { X0 := p.1, Y0 := b.y0, X1 := p.2, Y1 := b.y1 }
def rectsOf (l : List Bd) : List TRect := l.flatMap rectsB
theorem mem_rectsOf {l : List Bd} {r : TRect} : r ∈ rectsOf l ↔ ∃ b ∈ l, r.Y0 = b.y0 ∧ r.Y1 = b.y1 ∧ (r.X0, r.X1) ∈ pairsX b.xs := by
  simp only [rectsOf, rectsB, List.mem_flatMap, List.mem_map]
  constructor
  · rintro ⟨b, hb, p, hp, rfl⟩; exact ⟨b, hb, rfl, rfl, hp⟩
  · rintro ⟨b, hb, h1, h2, hp⟩; exact ⟨b, hb, _, hp, by ext <;> simp [h1, h2]⟩
theorem cov_rectsOf {l : List Bd} (h : Canon l) (x y : Int) : cov (rectsOf l) x y ↔ inB l x y = true := by
  simp only [cov, mem_rectsOf, inR, inB]
  constructor
  · rintro ⟨r, ⟨b, hb, h1, h2, hp⟩, h3, h4, h5⟩
    have ok := h.ok b hb
    rw [h.sec_at hb (by omega) (by omega), pairsX_in ok.up ok.ev]
    exact ⟨_, hp, h3⟩
  · intro hx
    rcases sec_mem (l := l) (y := y) with e | ⟨b, hb, h1, h2, h3⟩
    · rw [e] at hx; cases hx
    · have ok := h.ok b hb
      rw [h3, pairsX_in ok.up ok.ev] at hx
      obtain ⟨p, hp, h4⟩ := hx
      exact ⟨{ X0 := p.1, Y0 := b.y0, X1 := p.2, Y1 := b.y1 }, ⟨b, hb, rfl, rfl, hp⟩, h4, h1, h2⟩
theorem setB_cov {l : List Bd} (h : Canon l) : setB (cov (rectsOf l)) = l := setB_eq h fun x y => (cov_rectsOf h x y).symm
theorem rectsOf_inj {a b : List Bd} (ha : Canon a) (hb : Canon b) (h : rectsOf a = rectsOf b) : a = b := by rw [← setB_cov ha, h, setB_cov hb]
theorem pairsX_lt : ∀ {l : List Int}, Up l → ∀ p ∈ pairsX l, p.1 < p.2 ∧ p.1 ∈ l ∧ p.2 ∈ l
  | [], _, p, h => by cases h
  | [a], _, p, h => by cases h
  | a :: b :: l, hu, p, h => by
    obtain ⟨h1, h2⟩ := List.pairwise_cons.1 hu
    rcases List.mem_cons.1 h with rfl | h
    · exact ⟨h1 b (by simp), by simp, by simp⟩
    · obtain ⟨h3, h4, h5⟩ := pairsX_lt (List.pairwise_cons.1 h2).2 p h
      exact ⟨h3, by simp [h4], by simp [h5]⟩
theorem pairsX_len : ∀ (l : List Int), (pairsX l).length = l.length / 2
  | [] => rfl
  | [a] => by simp [pairsX]
  | a :: b :: l => by rw [pairsX, List.length_cons, pairsX_len l, List.length_cons, List.length_cons]; omega
end Go.Nw
