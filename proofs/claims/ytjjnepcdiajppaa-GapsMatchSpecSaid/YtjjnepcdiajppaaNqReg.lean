/- NqReg: a part of the proof. -/
import Derived.Test.YtjjnepcdiajppaaNqLib
/- Plane regions: bands of stretches, what they cover; the canonical form is the only one. No program in sight. -/
set_option linter.unusedVariables false
set_option linter.unusedSimpArgs false
namespace Go.Nw
/-- a place lies within stretches if an odd number of their ends is at most so far right -/
def inX : List Int → Int → Bool
  | [], _ => false
  | a :: l, x => if x < a then false else !inX l x
abbrev Up (l : List Int) : Prop := l.Pairwise (· < ·)
theorem inX_lt : ∀ {l : List Int} {x : Int}, (∀ b ∈ l, x < b) → inX l x = false
  | [], _, _ => rfl
  | a :: l, x, h => by simp [inX, h a (by simp)]
theorem inX_head {a : Int} {l : List Int} (h : Up (a :: l)) : inX (a :: l) a = true := by
  rw [inX, if_neg (by omega), inX_lt (List.pairwise_cons.1 h).1]; rfl
theorem inX_ext : ∀ {l m : List Int}, Up l → Up m → (∀ x, inX l x = inX m x) → l = m
  | [], [], _, _, _ => rfl
  | [], b :: m, _, hm, h => by have := h b; rw [inX_head hm] at this; cases this
  | a :: l, [], hl, _, h => by have := h a; rw [inX_head hl] at this; cases this
  | a :: l, b :: m, hl, hm, h => by
    obtain ⟨l1, l2⟩ := List.pairwise_cons.1 hl
    obtain ⟨m1, m2⟩ := List.pairwise_cons.1 hm
    have e : a = b := by
      rcases Int.lt_trichotomy a b with c | c | c
      · have := h a; rw [inX_head hl, inX, if_pos c] at this; cases this
      · exact c
      · have := h b; rw [inX_head hm, inX, if_pos c] at this; cases this
    subst e
    congr 1
    refine inX_ext l2 m2 fun x => ?_
    by_cases c : x < a
    · rw [inX_lt fun b hb => Int.lt_trans c (l1 b hb), inX_lt fun b hb => Int.lt_trans c (m1 b hb)]
    · have := h x; simp only [inX, if_neg c] at this; simpa using this
/-- behind all ends one is outside, if their number is even -/
theorem inX_ge : ∀ {l : List Int} {x : Int}, (∀ b ∈ l, b ≤ x) → inX l x = decide (l.length % 2 = 1)
  | [], _, _ => rfl
  | a :: l, x, h => by
    have := h a (by simp)
    rw [inX, if_neg (by omega), inX_ge fun b hb => h b (by simp [hb])]
    by_cases c : l.length % 2 = 1
    · rw [decide_eq_true c, decide_eq_false (by rw [List.length_cons]; omega)]; rfl
    · rw [decide_eq_false c, decide_eq_true (by rw [List.length_cons]; omega)]; rfl
theorem inX_append : ∀ {l m : List Int} {x : Int}, (∀ a ∈ l, ∀ b ∈ m, a ≤ b) → inX (l ++ m) x = (inX l x != inX m x)
  | [], m, x, _ => by simp [inX]
  | a :: l, m, x, h => by
    simp only [List.cons_append, inX]
    have ih := inX_append (l := l) (m := m) (x := x) fun a ha b hb => h a (by simp [ha]) b hb
    by_cases c : x < a
    · rw [if_pos c, if_pos c, inX_lt fun b hb => Int.lt_of_lt_of_le c (h a (by simp) b hb)]; rfl
    · rw [if_neg c, if_neg c, ih]; cases inX l x <;> cases inX m x <;> rfl
theorem inX_one (a x : Int) : inX [a] x = decide (a ≤ x) := by
  simp only [inX]; by_cases c : x < a
  · rw [if_pos c, decide_eq_false (by omega)]
  · rw [if_neg c, decide_eq_true (by omega)]; rfl
theorem inX_two {a b : Int} (h : a ≤ b) (x : Int) : inX [a, b] x = (decide (a ≤ x) && decide (x < b)) := by
  simp only [inX]
  by_cases c : x < a
  · rw [if_pos c, decide_eq_false (by omega)]; rfl
  · rw [if_neg c, decide_eq_true (by omega)]
    by_cases d : x < b
    · rw [if_pos d, decide_eq_true d]; rfl
    · rw [if_neg d, decide_eq_false d]; rfl

/-- What a region has from one height to another one. -/
structure Bd where
  y0 : Int
  y1 : Int
  xs : List Int
structure Bd.Ok (b : Bd) : Prop where
  lt : b.y0 < b.y1
  ne : b.xs ≠ []
  up : Up b.xs
  ev : b.xs.length % 2 = 0
def sec : List Bd → Int → List Int
  | [], _ => []
  | b :: l, y => if b.y0 ≤ y ∧ y < b.y1 then b.xs else sec l y
def Above (b c : Bd) : Prop := b.y1 ≤ c.y0 ∧ (b.y1 = c.y0 → b.xs ≠ c.xs)
structure Canon (l : List Bd) : Prop where
  ok : ∀ b ∈ l, b.Ok
  ab : l.Pairwise Above
theorem canon_nil : Canon [] := ⟨(fun _ h => nomatch h), List.Pairwise.nil⟩
theorem Canon.tail {b : Bd} {l : List Bd} (h : Canon (b :: l)) : Canon l := ⟨fun c hc => h.ok c (by simp [hc]), (List.pairwise_cons.1 h.ab).2⟩
theorem Canon.head {b : Bd} {l : List Bd} (h : Canon (b :: l)) : ∀ c ∈ l, b.y1 ≤ c.y0 := fun c hc => ((List.pairwise_cons.1 h.ab).1 c hc).1
theorem sec_lt : ∀ {l : List Bd} {y : Int}, (∀ b ∈ l, y < b.y0) → sec l y = []
  | [], _, _ => rfl
  | b :: l, y, h => by
    rw [sec, if_neg (by have := h b (by simp); omega), sec_lt fun c hc => h c (by simp [hc])]
theorem sec_ge : ∀ {l : List Bd} {y : Int}, (∀ b ∈ l, b.y1 ≤ y) → sec l y = []
  | [], _, _ => rfl
  | b :: l, y, h => by
    rw [sec, if_neg (by have := h b (by simp); omega), sec_ge fun c hc => h c (by simp [hc])]
theorem sec_mem : ∀ {l : List Bd} {y : Int}, sec l y = [] ∨ ∃ b ∈ l, b.y0 ≤ y ∧ y < b.y1 ∧ sec l y = b.xs
  | [], _ => .inl rfl
  | b :: l, y => by
    by_cases c : b.y0 ≤ y ∧ y < b.y1
    · exact .inr ⟨b, by simp, c.1, c.2, by rw [sec, if_pos c]⟩
    · rw [sec, if_neg c]
      rcases sec_mem (l := l) (y := y) with h | ⟨d, h1, h2⟩
      · exact .inl h
      · exact .inr ⟨d, by simp [h1], h2⟩
theorem Canon.sec_up {l : List Bd} (h : Canon l) (y : Int) : Up (sec l y) := by
  rcases sec_mem (l := l) (y := y) with e | ⟨b, h1, h2, h3, h4⟩
  · rw [e]; exact List.Pairwise.nil
  · rw [h4]; exact (h.ok b h1).up
theorem Canon.sec_ev {l : List Bd} (h : Canon l) (y : Int) : (sec l y).length % 2 = 0 := by
  rcases sec_mem (l := l) (y := y) with e | ⟨b, h1, h2, h3, h4⟩
  · rw [e]; rfl
  · rw [h4]; exact (h.ok b h1).ev
theorem Canon.sec_at {l : List Bd} (h : Canon l) {b : Bd} (hb : b ∈ l) {y : Int} (h1 : b.y0 ≤ y) (h2 : y < b.y1) : sec l y = b.xs := by
  induction l with
  | nil => cases hb
  | cons c l ih =>
    rcases List.mem_cons.1 hb with rfl | hb'
    · rw [sec, if_pos ⟨h1, h2⟩]
    · have := h.head b hb'
      rw [sec, if_neg (by omega), ih h.tail hb']
theorem sec_snoc : ∀ {l : List Bd} {c : Bd} {y : Int}, (∀ d ∈ l, d.y1 ≤ c.y0) → sec (l ++ [c]) y = if c.y0 ≤ y ∧ y < c.y1 then c.xs else sec l y
  | [], c, y, _ => rfl
  | b :: l, c, y, h => by
    have ih := sec_snoc (l := l) (c := c) (y := y) fun d hd => h d (by simp [hd])
    have hb := h b (by simp)
    by_cases q : b.y0 ≤ y ∧ y < b.y1
    · have e : ∀ l, sec (b :: l) y = b.xs := fun l => if_pos q
      rw [List.cons_append, e, e, if_neg (by omega)]
    · have e : ∀ l, sec (b :: l) y = sec l y := fun l => if_neg q
      rw [List.cons_append, e, e, ih]
def inB (l : List Bd) (x y : Int) : Bool := inX (sec l y) x
/-- where the sections agree, the bands do -/
theorem canon_sec : ∀ {a b : List Bd}, Canon a → Canon b → (∀ y, sec a y = sec b y) → a = b
  | [], [], _, _, _ => rfl
  | [], c :: m, _, hm, h => by
    have ok := hm.ok c (by simp)
    have := h c.y0
    rw [hm.sec_at (b := c) (by simp) (Int.le_refl _) ok.lt] at this
    exact absurd this.symm ok.ne
  | b :: l, [], hl, _, h => by
    have ok := hl.ok b (by simp)
    have := h b.y0
    rw [hl.sec_at (b := b) (by simp) (Int.le_refl _) ok.lt] at this
    exact absurd this ok.ne
  | b :: l, c :: m, hl, hm, h => by
    have ob := hl.ok b (by simp)
    have oc := hm.ok c (by simp)
    have lb := ob.lt; have lc := oc.lt
    -- both begin at one height
    have e0 : b.y0 = c.y0 := by
      rcases Int.lt_trichotomy b.y0 c.y0 with q | q | q
      · have := h b.y0
        rw [hl.sec_at (b := b) (by simp) (Int.le_refl _) ob.lt, sec_lt] at this
        · exact absurd this ob.ne
        · intro d hd
          rcases List.mem_cons.1 hd with rfl | hd'
          · exact q
          · have := hm.head d hd'; omega
      · exact q
      · have := h c.y0
        rw [hm.sec_at (b := c) (by simp) (Int.le_refl _) oc.lt, sec_lt] at this
        · exact absurd this.symm oc.ne
        · intro d hd
          rcases List.mem_cons.1 hd with rfl | hd'
          · exact q
          · have := hl.head d hd'; omega
    have ex : b.xs = c.xs := by
      have := h b.y0
      rw [hl.sec_at (b := b) (by simp) (Int.le_refl _) ob.lt, hm.sec_at (b := c) (by simp) (by omega) (by omega)] at this
      exact this
    -- and end at one
    have key : ∀ {b c : Bd} {l m : List Bd}, Canon (b :: l) → Canon (c :: m) → b.xs = c.xs → b.y0 = c.y0 → b.y1 < c.y1 → (∀ y, sec (b :: l) y = sec (c :: m) y) → False := by
      intro b c l m hl hm ex e0 q h
      have ob := hl.ok b (by simp)
      have lb := ob.lt
      have h1 := h b.y1
      rw [hm.sec_at (b := c) (by simp) (by omega) q, sec, if_neg (by omega)] at h1
      rcases sec_mem (l := l) (y := b.y1) with e | ⟨d, d1, d2, d3, d4⟩
      · rw [e, ← ex] at h1; exact ob.ne h1.symm
      · rw [d4, ← ex] at h1
        have ha := (List.pairwise_cons.1 hl.ab).1 d d1
        exact ha.2 (by have := ha.1; omega) h1.symm
    have e1 : b.y1 = c.y1 := by
      rcases Int.lt_trichotomy b.y1 c.y1 with q | q | q
      · exact (key hl hm ex e0 q h).elim
      · exact q
      · exact (key hm hl ex.symm e0.symm q fun y => (h y).symm).elim
    have eb : b = c := by cases b; cases c; simp only at e0 e1 ex; subst e0 e1 ex; rfl
    subst eb
    congr 1
    refine canon_sec hl.tail hm.tail fun y => ?_
    have := h y
    simp only [sec] at this
    by_cases q : b.y0 ≤ y ∧ y < b.y1
    · by_cases q2 : y < b.y1
      · rw [sec_lt fun d hd => by have := hl.head d hd; omega, sec_lt fun d hd => by have := hm.head d hd; omega]
      · omega
    · rw [if_neg q, if_neg q] at this; exact this
theorem canon_ext {a b : List Bd} (ha : Canon a) (hb : Canon b) (h : ∀ x y, inB a x y = inB b x y) : a = b :=
  canon_sec ha hb fun y => inX_ext (ha.sec_up y) (hb.sec_up y) fun x => h x y
open Classical in
/-- the bands that cover just these squares -/
noncomputable def setB (P : Int → Int → Prop) : List Bd := if h : ∃ l, Canon l ∧ ∀ x y, inB l x y = true ↔ P x y then h.choose else []
theorem setB_eq {P : Int → Int → Prop} {l : List Bd} (h : Canon l) (hP : ∀ x y, inB l x y = true ↔ P x y) : setB P = l := by
  have e : ∃ l, Canon l ∧ ∀ x y, inB l x y = true ↔ P x y := ⟨l, h, hP⟩
  rw [setB, dif_pos e]
  obtain ⟨h1, h2⟩ := e.choose_spec
  refine canon_ext h1 h fun x y => ?_
  rw [Bool.eq_iff_iff, h2, hP]
theorem setB_canon (P : Int → Int → Prop) : Canon (setB P) := by
  by_cases e : ∃ l, Canon l ∧ ∀ x y, inB l x y = true ↔ P x y
  · rw [setB, dif_pos e]; exact e.choose_spec.1
  · rw [setB, dif_neg e]; exact canon_nil
theorem setB_congr {P Q : Int → Int → Prop} (h : ∀ x y, P x y ↔ Q x y) : setB P = setB Q := by
  have : P = Q := by funext x y; exact propext (h x y)
  rw [this]
theorem setB_self {l : List Bd} (h : Canon l) : setB (fun x y => inB l x y = true) = l := setB_eq h fun _ _ => Iff.rfl

/-! A band put above others. -/
def pushB (s : List Bd) (b : Bd) : List Bd :=
  if b.xs = [] ∨ b.y1 ≤ b.y0 then s
  else match s.getLast? with
    | none => [b]
    | some c => if c.y1 = b.y0 ∧ c.xs = b.xs then s.dropLast ++ [⟨c.y0, b.y1, c.xs⟩] else s ++ [b]
theorem pushB_canon {s : List Bd} {b : Bd} (hs : Canon s) (hle : ∀ c ∈ s, c.y1 ≤ b.y0) (hu : Up b.xs) (he : b.xs.length % 2 = 0) :
    Canon (pushB s b) ∧ (∀ t, b.y0 ≤ t → b.y1 ≤ t → ∀ c ∈ pushB s b, c.y1 ≤ t) ∧ ∀ y, sec (pushB s b) y = if b.y0 ≤ y ∧ y < b.y1 then b.xs else sec s y := by
  unfold pushB
  by_cases h0 : b.xs = [] ∨ b.y1 ≤ b.y0
  · rw [if_pos h0]
    refine ⟨hs, fun t ht _ c hc => Int.le_trans (hle c hc) ht, fun y => ?_⟩
    by_cases c : b.y0 ≤ y ∧ y < b.y1
    · rw [if_pos c]
      rcases h0 with h0 | h0
      · rw [h0, sec_ge fun d hd => by have := hle d hd; omega]
      · omega
    · rw [if_neg c]
  · rw [if_neg h0]
    have h1 : b.xs ≠ [] := fun e => h0 (.inl e)
    have h2 : b.y0 < b.y1 := by rcases Int.lt_or_le b.y0 b.y1 with q | q; exact q; exact absurd (.inr q) h0
    have ob : b.Ok := ⟨h2, h1, hu, he⟩
    rcases List.eq_nil_or_concat s with rfl | ⟨s', c, rfl⟩
    · refine ⟨⟨fun d hd => ?_, by simp⟩, fun t _ ht d hd => ?_, fun y => rfl⟩
      · simp at hd; subst hd; exact ob
      · simp at hd; subst hd; exact ht
    · simp only [List.concat_eq_append] at *
      have oc := hs.ok c (by simp)
      have hc := hle c (by simp)
      have hp := List.pairwise_append.1 hs.ab
      have hs' : Canon s' := ⟨fun d hd => hs.ok d (by simp [hd]), hp.1⟩
      have hab : ∀ d ∈ s', Above d c := fun d hd => hp.2.2 d hd c (by simp)
      have hg : (s' ++ [c]).getLast? = some c := by simp
      have hd' : (s' ++ [c]).dropLast = s' := by simp
      rw [hg]
      simp only [hd']
      have lc := oc.lt
      have hsec : ∀ y, sec (s' ++ [c]) y = if c.y0 ≤ y ∧ y < c.y1 then c.xs else sec s' y := fun y => sec_snoc fun d hd => (hab d hd).1
      by_cases hm : c.y1 = b.y0 ∧ c.xs = b.xs
      · rw [if_pos hm]
        refine ⟨⟨fun d hd => ?_, List.pairwise_append.2 ⟨hp.1, by simp, fun d hd e he => ?_⟩⟩, fun t _ ht d hd => ?_, fun y => ?_⟩
        · rcases List.mem_append.1 hd with hd | hd
          · exact hs'.ok d hd
          · simp at hd; subst hd; exact ⟨by simp only; omega, oc.ne, oc.up, oc.ev⟩
        · simp at he; subst he; exact hab d hd
        · rcases List.mem_append.1 hd with hd | hd
          · have := (hab d hd).1; omega
          · simp at hd; subst hd; exact ht
        · rw [sec_snoc (c := ⟨c.y0, b.y1, c.xs⟩) fun d hd => (hab d hd).1, hsec]
          simp only
          by_cases q : c.y0 ≤ y ∧ y < b.y1
          · rw [if_pos q]
            by_cases q2 : b.y0 ≤ y ∧ y < b.y1
            · rw [if_pos q2, hm.2]
            · rw [if_neg q2, if_pos (by omega)]
          · rw [if_neg q, if_neg (by omega), if_neg (by omega)]
      · rw [if_neg hm]
        refine ⟨⟨fun d hd => ?_, List.pairwise_append.2 ⟨hs.ab, by simp, fun d hd e he => ?_⟩⟩, fun t _ ht d hd => ?_, fun y => ?_⟩
        · rcases List.mem_append.1 hd with hd | hd
          · exact hs.ok d hd
          · simp at hd; subst hd; exact ob
        · simp at he; subst he
          refine ⟨hle d hd, fun e1 e2 => ?_⟩
          rcases List.mem_append.1 hd with hd | hd
          · have := (hab d hd).1; omega
          · simp at hd; subst hd; exact hm ⟨e1, e2⟩
        · rcases List.mem_append.1 hd with hd | hd
          · have := hle d hd; omega
          · simp at hd; subst hd; exact ht
        · rw [sec_snoc fun d hd => hle d hd]
/-! Strips: the bands between heights. -/
def stripsB (f : Int → List Int) : List Bd → List Int → List Bd
  | s, a :: b :: l => stripsB f (pushB s ⟨a, b, f a⟩) (b :: l)
  | s, _ => s
theorem pushB_in {s : List Bd} {b : Bd} (hs : Canon s) (hle : ∀ c ∈ s, c.y1 ≤ b.y0) (hu : Up b.xs) (he : b.xs.length % 2 = 0) (x y : Int) :
    inB (pushB s b) x y = true ↔ inB s x y = true ∨ (b.y0 ≤ y ∧ y < b.y1) ∧ inX b.xs x = true := by
  rw [inB, (pushB_canon hs hle hu he).2.2 y, inB]
  by_cases c : b.y0 ≤ y ∧ y < b.y1
  · rw [if_pos c, sec_ge fun d hd => by have := hle d hd; omega]; simp [inX, c]
  · rw [if_neg c]; simp [c]
theorem stripsB_ok {f : Int → List Int} {Q : Int → Int → Prop} (hf : ∀ a, Up (f a) ∧ (f a).length % 2 = 0) : ∀ {l : List Int} {s : List Bd}, Canon s → Up l → (∀ a ∈ l, ∀ c ∈ s, c.y1 ≤ a) →
    (∀ a ∈ l, ∀ x y, a ≤ y → (∀ c ∈ l, c ≤ a ∨ y < c) → (inX (f a) x = true ↔ Q x y)) →
    Canon (stripsB f s l) ∧ ∀ x y, inB (stripsB f s l) x y = true ↔ inB s x y = true ∨ ((∃ a ∈ l, a ≤ y) ∧ (∃ b ∈ l, y < b) ∧ Q x y)
  | [], s, hs, _, _, _ => ⟨hs, fun x y => by simp [stripsB]⟩
  | [a], s, hs, _, _, _ => ⟨hs, fun x y => by simp [stripsB]; omega⟩
  | a :: b :: l, s, hs, hl, hle, he => by
    obtain ⟨h1, h2⟩ := List.pairwise_cons.1 hl
    obtain ⟨h3, h4⟩ := List.pairwise_cons.1 h2
    have hab := h1 b (by simp)
    obtain ⟨p1, p2, p3⟩ := pushB_canon (b := ⟨a, b, f a⟩) hs (fun c hc => hle a (by simp) c hc) (hf a).1 (hf a).2
    have p4 := pushB_in (b := ⟨a, b, f a⟩) hs (fun c hc => hle a (by simp) c hc) (hf a).1 (hf a).2
    simp only at p2 p3 p4
    have hb : ∀ d ∈ b :: l, b ≤ d := fun d hd => by
      rcases List.mem_cons.1 hd with rfl | hd
      · exact Int.le_refl _
      · exact Int.le_of_lt (h3 d hd)
    obtain ⟨q1, q2⟩ := stripsB_ok (Q := Q) hf p1 h2 (fun d hd c hc => Int.le_trans (p2 b (Int.le_of_lt hab) (Int.le_refl _) c hc) (hb d hd))
      (fun c hc x y hy h => he c (List.mem_cons_of_mem _ hc) x y hy fun d hd => by
        rcases List.mem_cons.1 hd with rfl | hd
        · exact .inl (Int.le_of_lt (h1 c hc))
        · exact h d hd)
    rw [show stripsB f s (a :: b :: l) = stripsB f (pushB s ⟨a, b, f a⟩) (b :: l) from rfl]
    refine ⟨q1, fun x y => ?_⟩
    rw [q2, p4, or_assoc]
    refine or_congr Iff.rfl ⟨?_, ?_⟩
    · rintro (⟨⟨h5, h6⟩, h7⟩ | ⟨⟨c, hc, h5⟩, ⟨d, hd, h6⟩, h7⟩)
      · refine ⟨⟨a, by simp, h5⟩, ⟨b, by simp, h6⟩, (he a (by simp) x y h5 fun c hc => ?_).1 h7⟩
        rcases List.mem_cons.1 hc with rfl | hc
        · exact .inl (Int.le_refl _)
        · exact .inr (Int.lt_of_lt_of_le h6 (hb c hc))
      · exact ⟨⟨c, List.mem_cons_of_mem _ hc, h5⟩, ⟨d, List.mem_cons_of_mem _ hd, h6⟩, h7⟩
    · rintro ⟨⟨c, hc, h5⟩, ⟨d, hd, h6⟩, h7⟩
      by_cases q : y < b
      · have hay : a ≤ y := by
          rcases List.mem_cons.1 hc with rfl | hc
          · exact h5
          · have := hb c hc; omega
        refine .inl ⟨⟨hay, q⟩, (he a (by simp) x y hay fun c hc => ?_).2 h7⟩
        rcases List.mem_cons.1 hc with rfl | hc
        · exact .inl (Int.le_refl _)
        · exact .inr (Int.lt_of_lt_of_le q (hb c hc))
      · refine .inr ⟨⟨b, by simp, by omega⟩, ⟨d, ?_, h6⟩, h7⟩
        rcases List.mem_cons.1 hd with rfl | hd
        · omega
        · exact hd
/-- what strips cover, if what is to be covered changes at the heights alone -/
theorem strips_cov {f : Int → List Int} {l : List Int} {Q : Int → Int → Prop} (hf : ∀ a, Up (f a) ∧ (f a).length % 2 = 0) (hl : Up l)
    (hq : ∀ x y, Q x y → (∃ a ∈ l, a ≤ y) ∧ ∃ b ∈ l, y < b) (he : ∀ a ∈ l, ∀ x y, a ≤ y → (∀ c ∈ l, c ≤ a ∨ y < c) → (inX (f a) x = true ↔ Q x y)) :
    Canon (stripsB f [] l) ∧ ∀ x y, inB (stripsB f [] l) x y = true ↔ Q x y := by
  obtain ⟨h1, h2⟩ := stripsB_ok hf canon_nil hl (fun a _ c hc => by cases hc) he
  refine ⟨h1, fun x y => ?_⟩
  rw [h2]
  simp only [inB, sec, inX, Bool.false_eq_true, false_or]
  exact ⟨fun h => h.2.2, fun h => ⟨(hq x y h).1, (hq x y h).2, h⟩⟩
/-- the stretches, as pairs -/
def pairsX : List Int → List (Int × Int)
  | a :: b :: l => (a, b) :: pairsX l
  | _ => []
theorem pairsX_in : ∀ {l : List Int}, Up l → l.length % 2 = 0 → ∀ x, inX l x = true ↔ ∃ p ∈ pairsX l, p.1 ≤ x ∧ x < p.2
  | [], _, _, x => by simp [inX, pairsX]
  | [a], _, h, _ => by simp at h
  | a :: b :: l, hu, he, x => by
    obtain ⟨h1, h2⟩ := List.pairwise_cons.1 hu
    obtain ⟨h3, h4⟩ := List.pairwise_cons.1 h2
    have hab := h1 b (by simp)
    have ih := pairsX_in h4 (by simp only [List.length_cons] at he; omega) x
    simp only [pairsX, List.mem_cons, exists_eq_or_imp]
    rw [show a :: b :: l = [a, b] ++ l from rfl, inX_append (fun c hc d hd => by
      simp at hc
      rcases hc with rfl | rfl
      · exact Int.le_of_lt (h1 d (by simp [hd]))
      · exact Int.le_of_lt (h3 d hd)), inX_two (by omega), ← ih]
    by_cases q : a ≤ x ∧ x < b
    · have hf : inX l x = false := inX_lt fun d hd => Int.lt_trans q.2 (h3 d hd)
      rw [hf]; simp [q]
    · have hf : (decide (a ≤ x) && decide (x < b)) = false := by simp; omega
      rw [hf]; simp [q]
end Go.Nw
