/- NqSeq: a part of the proof. -/
import Derived.Test.YtjjnepcdiajppaaNqReg
/- Numbers in order; spans; two rows of stretches merged. No program in sight. -/
set_option linter.unusedVariables false
set_option linter.unusedSimpArgs false
namespace Go.Nw
/-- a number put to others, in order, once -/
def putF (l : List Int) (n : Int) : List Int := l.filter (fun a => decide (a < n)) ++ n :: l.filter (fun a => decide (n < a))
theorem mem_putF {l : List Int} {n a : Int} : a ∈ putF l n ↔ a = n ∨ a ∈ l := by
  simp only [putF, List.mem_append, List.mem_cons, List.mem_filter, decide_eq_true_eq]
  constructor
  · rintro (h | h | h)
    · exact .inr h.1
    · exact .inl h
    · exact .inr h.1
  · rintro (h | h)
    · exact .inr (.inl h)
    · rcases Int.lt_trichotomy a n with q | q | q
      · exact .inl ⟨h, q⟩
      · exact .inr (.inl q)
      · exact .inr (.inr ⟨h, q⟩)
theorem putF_up {l : List Int} (h : Up l) (n : Int) : Up (putF l n) := by
  refine List.pairwise_append.2 ⟨h.filter _, List.pairwise_cons.2 ⟨fun b hb => ?_, h.filter _⟩, fun a ha b hb => ?_⟩
  · simpa using (List.mem_filter.1 hb).2
  · have ha := (List.mem_filter.1 ha).2
    simp only [decide_eq_true_eq] at ha
    rcases List.mem_cons.1 hb with rfl | hb
    · exact ha
    · have hb := (List.mem_filter.1 hb).2
      simp only [decide_eq_true_eq] at hb; omega
theorem putF_split {l : List Int} {n : Int} {k : Nat} (hk : k ≤ l.length) (h1 : ∀ a ∈ l.take k, a < n) (h2 : ∀ a ∈ l.drop k, n < a) : putF l n = l.take k ++ n :: l.drop k := by
  have e : ∀ p : Int → Bool, l.filter p = (l.take k).filter p ++ (l.drop k).filter p := fun p => by rw [← List.filter_append, List.take_append_drop]
  rw [putF, e, e, List.filter_eq_self.2 (by simpa using h1), List.filter_eq_nil_iff.2 (fun a ha => by have := h2 a ha; simp; omega),
    List.filter_eq_nil_iff.2 (fun a ha => by have := h1 a ha; simp; omega), List.filter_eq_self.2 (by simpa using h2), List.append_nil, List.nil_append]
theorem putF_in {l : List Int} {n : Int} {k : Nat} (hl : Up l) (hk : k < l.length) (hn : l.getD k 0 = n) : putF l n = l := by
  have e : l[k] = n := by simpa [hk] using hn
  have es : l = l.take k ++ n :: l.drop (k + 1) := by
    conv => lhs; rw [← List.take_append_drop k l, List.drop_eq_getElem_cons hk, e]
  have hp := hl
  rw [es] at hp
  obtain ⟨p1, p2, p3⟩ := List.pairwise_append.1 hp
  obtain ⟨p4, p5⟩ := List.pairwise_cons.1 p2
  conv => rhs; rw [es]
  rw [putF]
  have e1 : l.filter (fun a => decide (a < n)) = l.take k := by
    conv => lhs; rw [es]
    rw [List.filter_append, List.filter_eq_self.2 (fun a ha => by simpa using p3 a ha n (by simp)), List.filter_eq_nil_iff.2 (fun a ha => ?_), List.append_nil]
    rcases List.mem_cons.1 ha with rfl | ha
    · simp
    · have := p4 a ha; simp; omega
  have e2 : l.filter (fun a => decide (n < a)) = l.drop (k + 1) := by
    conv => lhs; rw [es]
    rw [List.filter_append, List.filter_eq_nil_iff.2 (fun a ha => by have := p3 a ha n (by simp); simp; omega), List.nil_append, List.filter_cons_of_neg (by simp), List.filter_eq_self.2 (fun a ha => by simpa using p4 a ha)]
  rw [e1, e2]
theorem putF_len (l : List Int) (n : Int) : (putF l n).length ≤ l.length + 1 := by
  rw [putF, List.length_append, List.length_cons]
  have : (l.filter fun a => decide (a < n)).length + (l.filter fun a => decide (n < a)).length ≤ l.length := by
    induction l with
    | nil => simp
    | cons a l ih =>
      simp only [List.filter_cons, List.length_cons]
      by_cases c : a < n
      · rw [if_pos (by simpa using c), if_neg (by simp; omega), List.length_cons]; omega
      · rw [if_neg (by simpa using c)]
        split
        · rw [List.length_cons]; omega
        · omega
  omega
/-- pairs cover a place -/
def covX (l : List (Int × Int)) (x : Int) : Prop := ∃ p ∈ l, p.1 ≤ x ∧ x < p.2
theorem covX_nil (x : Int) : covX [] x ↔ False := by simp [covX]
theorem covX_cons (p : Int × Int) (l : List (Int × Int)) (x : Int) : covX (p :: l) x ↔ (p.1 ≤ x ∧ x < p.2) ∨ covX l x := by simp [covX]
theorem covX_append (l m : List (Int × Int)) (x : Int) : covX (l ++ m) x ↔ covX l x ∨ covX m x := by
  simp only [covX, List.mem_append]
  constructor
  · rintro ⟨p, h | h, q⟩
    · exact .inl ⟨p, h, q⟩
    · exact .inr ⟨p, h, q⟩
  · rintro (⟨p, h, q⟩ | ⟨p, h, q⟩)
    · exact ⟨p, .inl h, q⟩
    · exact ⟨p, .inr h, q⟩
/-- spans with gaps between them -/
structure Gaps (l : List (Int × Int)) : Prop where
  lt : ∀ p ∈ l, p.1 < p.2
  ap : l.Pairwise fun p q => p.2 < q.1
theorem gaps_nil : Gaps [] := ⟨(fun _ h => nomatch h), List.Pairwise.nil⟩
/-- the ends of spans -/
def fl : List (Int × Int) → List Int
  | [] => []
  | p :: l => p.1 :: p.2 :: fl l
theorem fl_len : ∀ l : List (Int × Int), (fl l).length = 2 * l.length
  | [] => rfl
  | p :: l => by rw [fl, List.length_cons, List.length_cons, fl_len l, List.length_cons]; omega
theorem pairsX_fl : ∀ l : List (Int × Int), pairsX (fl l) = l
  | [] => rfl
  | p :: l => by rw [fl, pairsX, pairsX_fl l]
theorem mem_fl {l : List (Int × Int)} {a : Int} : a ∈ fl l ↔ ∃ p ∈ l, a = p.1 ∨ a = p.2 := by
  induction l with
  | nil => simp [fl]
  | cons p l ih =>
    simp only [fl, List.mem_cons, ih]
    constructor
    · rintro (h | h | ⟨q, h1, h2⟩)
      · exact ⟨p, .inl rfl, .inl h⟩
      · exact ⟨p, .inl rfl, .inr h⟩
      · exact ⟨q, .inr h1, h2⟩
    · rintro ⟨q, rfl | h1, h2⟩
      · rcases h2 with h | h
        · exact .inl h
        · exact .inr (.inl h)
      · exact .inr (.inr ⟨q, h1, h2⟩)
theorem Gaps.up : ∀ {l : List (Int × Int)}, Gaps l → Up (fl l)
  | [], _ => List.Pairwise.nil
  | p :: l, h => by
    obtain ⟨h1, h2⟩ := List.pairwise_cons.1 h.ap
    have hp := h.lt p (by simp)
    have hl : Gaps l := ⟨fun q hq => h.lt q (by simp [hq]), h2⟩
    have hb : ∀ a ∈ fl l, p.2 < a := fun a ha => by
      obtain ⟨q, hq, e⟩ := mem_fl.1 ha
      have := h1 q hq; have := hl.lt q hq
      rcases e with e | e <;> omega
    refine List.pairwise_cons.2 ⟨fun a ha => ?_, List.pairwise_cons.2 ⟨hb, hl.up⟩⟩
    rcases List.mem_cons.1 ha with rfl | ha
    · exact hp
    · have := hb a ha; omega
theorem Gaps.inX {l : List (Int × Int)} (h : Gaps l) (x : Int) : inX (fl l) x = true ↔ covX l x := by
  rw [pairsX_in h.up (by rw [fl_len]; omega), pairsX_fl]; rfl
theorem fl_inj {l m : List (Int × Int)} (h : fl l = fl m) : l = m := by rw [← pairsX_fl l, h, pairsX_fl]
theorem fl_pairsX : ∀ {l : List Int}, l.length % 2 = 0 → fl (pairsX l) = l
  | [], _ => rfl
  | [a], h => by simp at h
  | a :: b :: l, h => by rw [pairsX, fl, fl_pairsX (by simp only [List.length_cons] at h; omega)]
theorem fl_up : ∀ {l : List (Int × Int)}, Up (fl l) → Gaps l
  | [], _ => gaps_nil
  | p :: l, h => by
    obtain ⟨h1, h2⟩ := List.pairwise_cons.1 h
    obtain ⟨h3, h4⟩ := List.pairwise_cons.1 h2
    have hl := fl_up h4
    refine ⟨fun q hq => ?_, List.pairwise_cons.2 ⟨fun q hq => h3 _ (mem_fl.2 ⟨q, hq, .inl rfl⟩), hl.ap⟩⟩
    rcases List.mem_cons.1 hq with rfl | hq
    · exact h1 _ (by simp)
    · exact hl.lt q hq
/-- a span joined to others: those left of it, it and what it touches, those right of it -/
theorem joined_ok {l : List (Int × Int)} (hl : Gaps l) {s t : Int × Int} {i k : Nat} (hik : i ≤ k) (hk : k ≤ l.length) (hs : s.1 < s.2)
    (h1 : ∀ p ∈ l.take i, p.2 < t.1) (h2 : ∀ p ∈ l.drop k, t.2 < p.1) (ht1 : t.1 ≤ s.1) (ht2 : s.2 ≤ t.2) (hc : ∀ x, (t.1 ≤ x ∧ x < t.2) ↔ (s.1 ≤ x ∧ x < s.2) ∨ covX ((l.take k).drop i) x) :
    Gaps (l.take i ++ t :: l.drop k) ∧ ∀ x, covX (l.take i ++ t :: l.drop k) x ↔ covX l x ∨ (s.1 ≤ x ∧ x < s.2) := by
  have ht : t.1 < t.2 := by omega
  refine ⟨⟨fun p hp => ?_, List.pairwise_append.2 ⟨hl.ap.sublist (List.take_sublist _ _), List.pairwise_cons.2 ⟨h2, hl.ap.sublist (List.drop_sublist _ _)⟩, fun p hp q hq => ?_⟩⟩, fun x => ?_⟩
  · rcases List.mem_append.1 hp with hp | hp
    · exact hl.lt p (List.mem_of_mem_take hp)
    · rcases List.mem_cons.1 hp with rfl | hp
      · exact ht
      · exact hl.lt p (List.mem_of_mem_drop hp)
  · rcases List.mem_cons.1 hq with rfl | hq
    · exact h1 p hp
    · have := h1 p hp; have := h2 q hq; omega
  · have e : l = l.take i ++ ((l.take k).drop i ++ l.drop k) := by
      have : l.take i = (l.take k).take i := by rw [List.take_take, Nat.min_eq_left hik]
      rw [← List.append_assoc, this, List.take_append_drop, List.take_append_drop]
    conv => rhs; rw [e]
    rw [covX_append, covX_append, covX_append, covX_cons, hc]
    constructor
    · rintro (h | (h | h) | h)
      · exact .inl (.inl h)
      · exact .inr h
      · exact .inl (.inr (.inl h))
      · exact .inl (.inr (.inr h))
    · rintro ((h | h | h) | h)
      · exact .inl h
      · exact .inr (.inl (.inr h))
      · exact .inr (.inr h)
      · exact .inr (.inl (.inl h))
theorem up_suffix {d a : List Int} (h : Up (d ++ a)) : (∀ e ∈ d, ∀ x ∈ a, e < x) ∧ Up d ∧ Up a := by
  obtain ⟨h1, h2, h3⟩ := List.pairwise_append.1 h; exact ⟨h3, h1, h2⟩
/-- what is left of a row of ends, ahead of others o; p: is one inside? -/
def Rst (A a o : List Int) (p : Bool) : Prop := ∃ d, A = d ++ a ∧ p = decide (d.length % 2 = 1) ∧ ∀ e ∈ d, ∀ z ∈ o, e < z
theorem rst_in {A a o : List Int} {p : Bool} {x : Int} (hA : Up A) (h : Rst A a o p) (h1 : ∀ e ∈ a, x < e) (h2 : ∀ d, A = d ++ a → ∀ e ∈ d, e ≤ x) : inX A x = p := by
  obtain ⟨d, rfl, rfl, -⟩ := h
  obtain ⟨s1, s2, s3⟩ := up_suffix hA
  rw [inX_append fun e he z hz => Int.le_of_lt (s1 e he z hz), inX_lt h1, inX_ge (h2 d rfl)]; simp
/-- how two rows of stretches are merged: so far -/
structure Mrg (keep : Bool → Bool → Bool) (A B a b : List Int) (pa pb is : Bool) (out : List Int) : Prop where
  ha : Rst A a b pa
  hb : Rst B b a pb
  is : is = keep pa pb ∧ is = decide (out.length % 2 = 1)
  up : Up out
  oa : ∀ e ∈ out, ∀ z ∈ a, e < z
  ob : ∀ e ∈ out, ∀ z ∈ b, e < z
  cv : ∀ x, (∀ e ∈ a, x < e) → (∀ e ∈ b, x < e) → inX out x = keep (inX A x) (inX B x)
  sub : ∀ e ∈ out, e ∈ A ∨ e ∈ B
  len : out.length + a.length + b.length ≤ A.length + B.length
theorem mrg_0 {keep : Bool → Bool → Bool} {A B : List Int} (h : keep false false = false) : Mrg keep A B A B false false false [] :=
  ⟨⟨[], rfl, rfl, fun _ h => nomatch h⟩, ⟨[], rfl, rfl, fun _ h => nomatch h⟩, ⟨h.symm, rfl⟩, List.Pairwise.nil, (fun _ h => nomatch h), (fun _ h => nomatch h), fun x h1 h2 => by rw [inX_lt h1, inX_lt h2, h]; rfl, (fun _ h => nomatch h), by simp⟩
/-- a head is taken, or not -/
def Tk (x : Int) (a a' : List Int) (p p' : Bool) : Prop := (a = x :: a' ∧ p' = !p) ∨ (a' = a ∧ p' = p ∧ x ∉ a)
theorem tk_side {A a a' b b' : List Int} {pa pa' : Bool} {x : Int} (hA : Up A) (h : Rst A a b pa) (hxa : ∀ e ∈ a, x ≤ e) (hxb : ∀ e ∈ b, x ≤ e) (hx : x ∈ a ∨ x ∈ b) (h1 : Tk x a a' pa pa') (hb' : ∀ e ∈ b', x < e) (hbs : ∀ e ∈ b', e ∈ b) :
    Rst A a' b' pa' ∧ (∀ e ∈ a', x < e) ∧ ∀ y, x ≤ y → (∀ e ∈ a', y < e) → inX A y = pa' := by
  obtain ⟨d, rfl, rfl, h3⟩ := h
  obtain ⟨s1, s2, s3⟩ := up_suffix hA
  have hd : ∀ e ∈ d, e < x := fun e he => by
    rcases hx with q | q
    · exact s1 e he x q
    · exact h3 e he x q
  rcases h1 with ⟨rfl, rfl⟩ | ⟨rfl, rfl, hn⟩
  · have hlt : ∀ e ∈ a', x < e := (List.pairwise_cons.1 s3).1
    have hr : Rst (d ++ x :: a') a' b' (!decide (d.length % 2 = 1)) := by
      refine ⟨d ++ [x], by simp, ?_, fun e he z hz => ?_⟩
      · rw [List.length_append, List.length_singleton]
        by_cases c : d.length % 2 = 1
        · rw [decide_eq_true c, decide_eq_false (by omega)]; rfl
        · rw [decide_eq_false c, decide_eq_true (by omega)]; rfl
      · rcases List.mem_append.1 he with he | he
        · exact h3 e he z (hbs z hz)
        · simp at he; subst he; exact hb' z hz
    refine ⟨hr, hlt, fun y hy hye => rst_in hA hr hye fun d' e' e he => ?_⟩
    have : d' = d ++ [x] := List.append_cancel_right (show d' ++ a' = (d ++ [x]) ++ a' by rw [← e']; simp)
    subst this
    rcases List.mem_append.1 he with he | he
    · have := hd e he; omega
    · simp at he; omega
  · have hlt : ∀ e ∈ a', x < e := fun e he => by
      have := hxa e he
      have : e ≠ x := fun q => hn (q ▸ he)
      omega
    have hr : Rst (d ++ a') a' b' (decide (d.length % 2 = 1)) := ⟨d, rfl, rfl, fun e he z hz => h3 e he z (hbs z hz)⟩
    refine ⟨hr, hlt, fun y hy hye => rst_in hA hr hye fun d' e' e he => ?_⟩
    have : d' = d := List.append_cancel_right e'.symm
    subst this
    have := hd e he; omega
theorem tk_sub {x : Int} {a a' : List Int} {p p' : Bool} (h : Tk x a a' p p') : ∀ e ∈ a', e ∈ a := by
  rcases h with ⟨rfl, -⟩ | ⟨rfl, -⟩
  · intro e he; simp [he]
  · exact fun _ h => h
theorem tk_lt {x : Int} {a a' : List Int} {p p' : Bool} (hu : Up a) (hxa : ∀ e ∈ a, x ≤ e) (h : Tk x a a' p p') : ∀ e ∈ a', x < e := by
  rcases h with ⟨rfl, -⟩ | ⟨rfl, -, hn⟩
  · exact (List.pairwise_cons.1 hu).1
  · intro e he
    have := hxa e he
    have : e ≠ x := fun q => hn (q ▸ he)
    omega
/-- one step: at the least head x; a' and b' are the rows without it -/
theorem mrg_step {keep : Bool → Bool → Bool} {A B a b a' b' out : List Int} {pa pb is pa' pb' : Bool} {x : Int} (hA : Up A) (hB : Up B) (h : Mrg keep A B a b pa pb is out)
    (hxa : ∀ e ∈ a, x ≤ e) (hxb : ∀ e ∈ b, x ≤ e) (hx : x ∈ a ∨ x ∈ b) (h1 : Tk x a a' pa pa') (h2 : Tk x b b' pb pb') :
    Mrg keep A B a' b' pa' pb' (keep pa' pb') (if keep pa' pb' = is then out else out ++ [x]) := by
  have ua : Up a := by obtain ⟨d, rfl, -⟩ := h.ha; exact (up_suffix hA).2.2
  have ub : Up b := by obtain ⟨d, rfl, -⟩ := h.hb; exact (up_suffix hB).2.2
  have la := tk_lt ua hxa h1
  have lb := tk_lt ub hxb h2
  obtain ⟨ra, -, ya⟩ := tk_side hA h.ha hxa hxb hx h1 lb (tk_sub h2)
  obtain ⟨rb, -, yb⟩ := tk_side hB h.hb hxb hxa hx.symm h2 la (tk_sub h1)
  have hxA : x ∈ A ∨ x ∈ B := by
    rcases hx with q | q
    · obtain ⟨d, e, -⟩ := h.ha; exact .inl (by rw [e]; simp [q])
    · obtain ⟨d, e, -⟩ := h.hb; exact .inr (by rw [e]; simp [q])
  have hox : ∀ e ∈ out, e < x := fun e he => by
    rcases hx with q | q
    · exact h.oa e he x q
    · exact h.ob e he x q
  have hlen : a'.length + b'.length + 1 ≤ a.length + b.length := by
    rcases h1 with ⟨rfl, -⟩ | ⟨rfl, -, hn⟩
    · rcases h2 with ⟨rfl, -⟩ | ⟨rfl, -⟩ <;> simp only [List.length_cons] <;> omega
    · rcases h2 with ⟨rfl, -⟩ | ⟨rfl, -, hn'⟩
      · simp only [List.length_cons]; omega
      · exact absurd hx (by simp [hn, hn'])
  have hnew : ∀ y, (∀ e ∈ a', y < e) → (∀ e ∈ b', y < e) → y < x → inX out y = keep (inX A y) (inX B y) := fun y hya hyb hy =>
    h.cv y (fun e he => Int.lt_of_lt_of_le hy (hxa e he)) (fun e he => Int.lt_of_lt_of_le hy (hxb e he))
  by_cases c : keep pa' pb' = is
  · rw [if_pos c]
    refine ⟨ra, rb, ⟨rfl, c.trans h.is.2⟩, h.up, fun e he z hz => h.oa e he z (tk_sub h1 z hz), fun e he z hz => h.ob e he z (tk_sub h2 z hz), fun y hya hyb => ?_, h.sub, by have := h.len; omega⟩
    by_cases hy : y < x
    · exact hnew y hya hyb hy
    · rw [ya y (by omega) hya, yb y (by omega) hyb, c, inX_ge (fun e he => by have := hox e he; omega)]
      exact h.is.2.symm
  · rw [if_neg c]
    have hpar : decide ((out ++ [x]).length % 2 = 1) = keep pa' pb' := by
      have e1 : keep pa' pb' = !is := by cases hk : keep pa' pb' <;> cases hi : is <;> simp_all
      rw [e1, h.is.2, List.length_append, List.length_singleton]
      by_cases q : out.length % 2 = 1
      · rw [decide_eq_true q, decide_eq_false (by omega)]; rfl
      · rw [decide_eq_false q, decide_eq_true (by omega)]; rfl
    refine ⟨ra, rb, ⟨rfl, hpar.symm⟩, List.pairwise_append.2 ⟨h.up, by simp, fun e he z hz => by simp at hz; subst hz; exact hox e he⟩, fun e he z hz => ?_, fun e he z hz => ?_, fun y hya hyb => ?_, fun e he => ?_, by have := h.len; rw [List.length_append, List.length_singleton]; omega⟩
    · rcases List.mem_append.1 he with he | he
      · exact h.oa e he z (tk_sub h1 z hz)
      · simp at he; subst he; exact la z hz
    · rcases List.mem_append.1 he with he | he
      · exact h.ob e he z (tk_sub h2 z hz)
      · simp at he; subst he; exact lb z hz
    · by_cases hy : y < x
      · rw [inX_append (fun e he z hz => by simp at hz; subst hz; exact Int.le_of_lt (hox e he)), inX_lt (l := [x]) (by simpa using hy), hnew y hya hyb hy]; simp
      · rw [ya y (by omega) hya, yb y (by omega) hyb, ← hpar, inX_ge]
        intro e he
        rcases List.mem_append.1 he with he | he
        · have := hox e he; omega
        · simp at he; omega
    · rcases List.mem_append.1 he with he | he
      · exact h.sub e he
      · simp at he; subst he; exact hxA
/-- the end -/
theorem mrg_end {keep : Bool → Bool → Bool} {A B out : List Int} {pa pb is : Bool} (hA : A.length % 2 = 0) (hB : B.length % 2 = 0) (h0 : keep false false = false) (h : Mrg keep A B [] [] pa pb is out) :
    Up out ∧ out.length % 2 = 0 ∧ (∀ x, inX out x = keep (inX A x) (inX B x)) ∧ (∀ e ∈ out, e ∈ A ∨ e ∈ B) ∧ out.length ≤ A.length + B.length := by
  refine ⟨h.up, ?_, fun x => h.cv x (fun _ h => nomatch h) (fun _ h => nomatch h), h.sub, by have := h.len; simpa using this⟩
  obtain ⟨d, rfl, e1, -⟩ := h.ha
  obtain ⟨d', rfl, e2, -⟩ := h.hb
  rw [List.append_nil] at hA hB
  rw [decide_eq_false (by omega)] at e1 e2
  have := h.is
  rw [e1, e2, h0] at this
  rw [this.1] at this
  have := of_decide_eq_false this.2.symm
  omega
end Go.Nw
