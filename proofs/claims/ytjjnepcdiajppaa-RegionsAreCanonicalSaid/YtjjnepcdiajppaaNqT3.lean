/- NqT3: a part of the proof. -/
import Derived.Test.YtjjnepcdiajppaaNqT2
set_option linter.unusedVariables false
set_option linter.unusedSimpArgs false
set_option maxRecDepth 100000
namespace Go.Nw
/-- which operation keeps a square that is in the first or in the second region -/
def keepF (n : Int) (a b : Bool) : Bool := decide (n = 1) && (a || b) || decide (n = 2) && a && b || decide (n = 3) && a && !b
theorem keepF_0 (n : Int) : keepF n false false = false := by simp [keepF]
theorem keepF_or {n : Int} {a b : Bool} (h : keepF n a b = true) : a = true ∨ b = true := by
  cases a <;> cases b <;> simp_all [keepF]
theorem t_ref1_inside {A : List Int} {x : Int} (hl : A.length < 1000000000000) (hu : Up A) (he : A.length % 2 = 0) : p_ref1_inside ((pairsX A).map sp) x = some (inX A x) := by
  apply ok_val
  unfold p_ref1_inside
  have hpl := pairsX_len A
  simp only [List.length_map]
  refine ok_esc ?_
  refine ok_for (pairsX A).length (fun i _ => ∀ j < i, ¬ (((pairsX A).getD j default).1 ≤ x ∧ x < ((pairsX A).getD j default).2)) (by intro j h; omega) ?_ ?_
  · intro i u hi hI
    have e1 : (((pairsX A).map sp).getD i default).from_ = ((pairsX A).getD i default).1 := by rw [getD_sp hi]; rfl
    have e2 : (((pairsX A).map sp).getD i default).to_ = ((pairsX A).getD i default).2 := by rw [getD_sp hi]; rfl
    simp only [Int.toNat_natCast, e1, e2]
    rw [if_pos (by omega), if_pos ⟨by omega, fun _ => ⟨by omega, by omega⟩⟩]
    by_cases c : ((pairsX A).getD i default).1 ≤ x ∧ x < ((pairsX A).getD i default).2
    · rw [if_pos (by simpa using c)]
      refine ok_some ?_
      simp only
      refine ok_some ?_
      exact ((pairsX_in hu he x).2 ⟨_, mem_getD hi, c⟩).symm
    · rw [if_neg (by simpa using c), if_pos (by omega)]
      exact ok_some ⟨rfl, all_lt hI c⟩
  · intro u hI
    rw [if_neg (by omega)]
    refine ok_some ?_
    simp only
    refine ok_some ?_
    symm
    rw [← Bool.not_eq_true, pairsX_in hu he]
    rintro ⟨p, hp, h⟩
    obtain ⟨j, hj, rfl⟩ := List.getElem_of_mem hp
    have := hI j hj
    rw [getD_in hj] at this
    exact this h
theorem o_ref1_inside {A : List Int} {x : Int} (hl : A.length < 1000000000000) (hu : Up A) (he : A.length % 2 = 0) {Q_ : _ → Prop} (k_ : Q_ (inX A x)) : Ok (p_ref1_inside ((pairsX A).map sp) x) Q_ := ok_of (t_ref1_inside hl hu he) k_
theorem s_ref1_inside {β : Type} {cc_ : Prop} {d_ : Decidable cc_} {A : List Int} {x : Int} (hl : cc_ → (A.length < 1000000000000)) (hu : cc_ → (Up A)) (he : cc_ → (A.length % 2 = 0)) {e_ : _} {f_ : _ → Option β} {Q_ : β → Prop} (hd : ¬ cc_ → f_ e_ = f_ (inX A x)) (k_ : Ok (f_ (inX A x)) Q_) : Ok (Option.bind (@ite _ cc_ d_ (p_ref1_inside ((pairsX A).map sp) x) (some e_)) f_) Q_ := ok_short (fun hc__ => t_ref1_inside (hl hc__) (hu hc__) (he hc__)) hd k_
theorem inX_const : ∀ {A : List Int} {a x : Int}, a ≤ x → (∀ e ∈ A, e ≤ a ∨ x < e) → inX A a = inX A x
  | [], _, _, _, _ => rfl
  | e :: A, a, x, h, h' => by
    have ih := inX_const (A := A) h fun e he => h' e (by simp [he])
    have := h' e (by simp)
    simp only [inX]
    by_cases c : a < e
    · rw [if_pos c, if_pos (by omega)]
    · rw [if_neg c, if_neg (by omega), ih]
theorem bracket {ns : List Int} (hu : Up ns) {a b x : Int} (ha : a ∈ ns) (hb : b ∈ ns) (h1 : a ≤ x) (h2 : x < b) : ∃ j, j + 1 < ns.length ∧ ns.getD j 0 ≤ x ∧ x < ns.getD (j + 1) 0 := by
  obtain ⟨i, hi, rfl⟩ := List.getElem_of_mem ha
  obtain ⟨q, hq, rfl⟩ := List.getElem_of_mem hb
  obtain ⟨p, p1, p2, p3⟩ := least (n := ns.length) (P := fun j => x < ns.getD j 0) ⟨q, hq, by rw [getD_in hq]; exact h2⟩
  have h0 : p ≠ 0 := by
    rintro rfl
    rw [getD_in p1] at p2
    by_cases e : i = 0
    · subst e; omega
    · have := List.pairwise_iff_getElem.1 hu 0 i p1 hi (by omega); omega
  refine ⟨p - 1, by omega, ?_, by rw [show p - 1 + 1 = p by omega]; exact p2⟩
  have := p3 (p - 1) (by omega)
  omega
theorem ends_mem {A : List Int} (hu : Up A) (he : A.length % 2 = 0) {x : Int} (h : inX A x = true) : ∃ a ∈ A, a ≤ x ∧ ∃ b ∈ A, x < b := by
  obtain ⟨p, hp, h1, h2⟩ := (pairsX_in hu he x).1 h
  obtain ⟨-, q1, q2⟩ := pairsX_lt hu p hp
  exact ⟨_, q1, h1, _, q2, h2⟩
theorem mem_pairs {A : List Int} (he : A.length % 2 = 0) {a : Int} : (∃ p ∈ pairsX A, a = p.1 ∨ a = p.2) ↔ a ∈ A := by
  conv => rhs; rw [← fl_pairsX he]
  exact mem_fl.symm
theorem o_ref1_mixed' {A B : List Int} {n : Int} (lA : A.length < 10000000) (lB : B.length < 10000000) (hA : Up A) (hB : Up B) (eA : A.length % 2 = 0) (eB : B.length % 2 = 0) {Q : List TEtchhouseref1span → Prop}
    (k : ∀ out, Up out → out.length % 2 = 0 → (∀ x, inX out x = keepF n (inX A x) (inX B x)) → out.length ≤ 2 * (A.length + B.length) → Q ((pairsX out).map sp)) : Ok (p_ref1_mixed ((pairsX A).map sp) ((pairsX B).map sp) n) Q := by
  have pA := pairsX_len A
  have pB := pairsX_len B
  unfold p_ref1_mixed
  simp only [List.length_map]
  refine ok_then ?_
  refine ok_for (pairsX A).length (fun i out => Up out ∧ (∀ a, a ∈ out ↔ ∃ p ∈ (pairsX A).take i, a = p.1 ∨ a = p.2) ∧ out.length ≤ 2 * i) ⟨List.Pairwise.nil, fun a => by simp, by simp⟩ ?_ ?_
  · rintro i out hi ⟨h1, h2, h3⟩
    have e1 : (((pairsX A).map sp).getD i default).from_ = ((pairsX A).getD i default).1 := by rw [getD_sp hi]; rfl
    have e2 : (((pairsX A).map sp).getD i default).to_ = ((pairsX A).getD i default).2 := by rw [getD_sp hi]; rfl
    simp only [Int.toNat_natCast, e1, e2]
    have g1 := putF_len out ((pairsX A).getD i default).1
    have g2 := putF_len (putF out ((pairsX A).getD i default).1) ((pairsX A).getD i default).2
    rw [if_pos (by omega), if_pos (by omega)]
    refine ok_then (o_ref1_put (by omega) h1 ?_)
    refine ok_then (o_ref1_put (by omega) (putF_up h1 _) ?_)
    rw [if_pos (by omega)]
    refine ok_some ⟨rfl, putF_up (putF_up h1 _) _, fun a => ?_, by simp only; omega⟩
    simp only
    rw [mem_putF, mem_putF, h2, take_snoc (d := default) hi]
    simp only [List.mem_append, List.mem_singleton]
    constructor
    · rintro (h | h | ⟨r, h, h'⟩)
      · exact ⟨_, .inr rfl, .inr h⟩
      · exact ⟨_, .inr rfl, .inl h⟩
      · exact ⟨r, .inl h, h'⟩
    · rintro ⟨r, h | rfl, h'⟩
      · exact .inr (.inr ⟨r, h, h'⟩)
      · rcases h' with h | h
        · exact .inr (.inl h)
        · exact .inl h
  rintro out0 ⟨h1, h2, h3⟩
  rw [if_neg (by omega)]
  refine ok_some (ok_then ?_)
  rw [List.take_length] at h2
  refine ok_for (pairsX B).length (fun i out => Up out ∧ (∀ a, a ∈ out ↔ a ∈ A ∨ ∃ p ∈ (pairsX B).take i, a = p.1 ∨ a = p.2) ∧ out.length ≤ A.length + 2 * i) ⟨h1, fun a => by rw [h2, mem_pairs eA]; simp, by simp only at h3 ⊢; omega⟩ ?_ ?_
  · rintro i out hi ⟨h1, h2, h3⟩
    have e1 : (((pairsX B).map sp).getD i default).from_ = ((pairsX B).getD i default).1 := by rw [getD_sp hi]; rfl
    have e2 : (((pairsX B).map sp).getD i default).to_ = ((pairsX B).getD i default).2 := by rw [getD_sp hi]; rfl
    simp only [Int.toNat_natCast, e1, e2]
    have g1 := putF_len out ((pairsX B).getD i default).1
    have g2 := putF_len (putF out ((pairsX B).getD i default).1) ((pairsX B).getD i default).2
    rw [if_pos (by omega), if_pos (by omega)]
    refine ok_then (o_ref1_put (by omega) h1 ?_)
    refine ok_then (o_ref1_put (by omega) (putF_up h1 _) ?_)
    rw [if_pos (by omega)]
    refine ok_some ⟨rfl, putF_up (putF_up h1 _) _, fun a => ?_, by simp only; omega⟩
    simp only
    rw [mem_putF, mem_putF, h2, take_snoc (d := default) hi]
    simp only [List.mem_append, List.mem_singleton]
    constructor
    · rintro (h | h | h | ⟨r, h, h'⟩)
      · exact .inr ⟨_, .inr rfl, .inr h⟩
      · exact .inr ⟨_, .inr rfl, .inl h⟩
      · exact .inl h
      · exact .inr ⟨r, .inl h, h'⟩
    · rintro (h | ⟨r, h | rfl, h'⟩)
      · exact .inr (.inr (.inl h))
      · exact .inr (.inr (.inr ⟨r, h, h'⟩))
      · rcases h' with h | h
        · exact .inr (.inl h)
        · exact .inl h
  rintro ns ⟨n1, n2, n3⟩
  replace n3 : ns.length ≤ A.length + 2 * (pairsX B).length := n3
  rw [if_neg (by omega)]
  refine ok_some (ok_then ?_)
  rw [List.take_length] at n2
  have n4 : ∀ a, a ∈ ns ↔ a ∈ A ∨ a ∈ B := fun a => by rw [n2, mem_pairs eB]
  clear n2 h1 h2 h3
  have nlt : ∀ i, i + 1 < ns.length → ns.getD i 0 < ns.getD (i + 1) 0 := fun i h => by
    rw [getD_in (show i < ns.length by omega), getD_in h]; exact List.pairwise_iff_getElem.1 n1 i (i + 1) _ h (by omega)
  have nconst : ∀ i, i + 1 < ns.length → ∀ x, ns.getD i 0 ≤ x → x < ns.getD (i + 1) 0 → inX A (ns.getD i 0) = inX A x ∧ inX B (ns.getD i 0) = inX B x := fun i h x x1 x2 => by
    have hh : ∀ e ∈ ns, e ≤ ns.getD i 0 ∨ x < e := fun e he => by
      obtain ⟨j, hj, rfl⟩ := List.getElem_of_mem he
      rw [getD_in (show i < ns.length by omega)] at x1 ⊢
      rw [getD_in h] at x2
      by_cases c : j ≤ i
      · left
        by_cases e : j = i
        · subst e; exact Int.le_refl _
        · exact Int.le_of_lt (List.pairwise_iff_getElem.1 n1 j i hj _ (by omega))
      · right
        by_cases e : j = i + 1
        · subst e; exact x2
        · exact Int.lt_trans x2 (List.pairwise_iff_getElem.1 n1 (i + 1) j h hj (by omega))
    exact ⟨inX_const x1 fun e he => hh e ((n4 e).2 (.inl he)), inX_const x1 fun e he => hh e ((n4 e).2 (.inr he))⟩
  refine ok_for1 (ns.length - 1) (fun i out => ∃ m, out = m.map sp ∧ Gaps m ∧ m.length ≤ i ∧ ∀ x, covX m x ↔ ∃ j < i, (ns.getD j 0 ≤ x ∧ x < ns.getD (j + 1) 0) ∧ keepF n (inX A (ns.getD j 0)) (inX B (ns.getD j 0)) = true) ⟨[], rfl, gaps_nil, by simp, fun x => by simp [covX]⟩ ?_ ?_
  · rintro i out hi ⟨m, rfl, m1, m2, m3⟩
    have e1 : ((i : Int) + 1).toNat = i + 1 := by omega
    have e2 : ((i : Int) + 1 - 1).toNat = i := by omega
    simp only [e1, e2]
    rw [if_pos (by omega), if_pos (by omega), if_pos (by omega)]
    have hsucc : ∀ x, (∃ j < i + 1, (ns.getD j 0 ≤ x ∧ x < ns.getD (j + 1) 0) ∧ keepF n (inX A (ns.getD j 0)) (inX B (ns.getD j 0)) = true) ↔
        (∃ j < i, (ns.getD j 0 ≤ x ∧ x < ns.getD (j + 1) 0) ∧ keepF n (inX A (ns.getD j 0)) (inX B (ns.getD j 0)) = true) ∨ ((ns.getD i 0 ≤ x ∧ x < ns.getD (i + 1) 0) ∧ keepF n (inX A (ns.getD i 0)) (inX B (ns.getD i 0)) = true) := fun x => by
      constructor
      · rintro ⟨j, h, h'⟩
        by_cases e : j = i
        · subst e; exact .inr h'
        · exact .inl ⟨j, by omega, h'⟩
      · rintro (⟨j, h, h'⟩ | h')
        · exact ⟨j, by omega, h'⟩
        · exact ⟨i, by omega, h'⟩
    refine ok_then (ok_then (o_ref1_inside (by omega) hA eA ?_))
    refine ok_then (o_ref1_inside (by omega) hB eB ?_)
    have hkd : ∀ a b : Bool, (decide (n = 1) && (a || b) || decide (n = 2) && a && b || decide (n = 3) && a && !b) = keepF n a b := fun _ _ => rfl
    simp only [hkd]
    have hd : (default : Int) = 0 := rfl
    simp only [hd]
    by_cases c : keepF n (inX A (ns.getD i 0)) (inX B (ns.getD i 0)) = true
    · rw [if_pos c]
      refine ok_then (o_ref1_joined (s := (ns.getD i 0, ns.getD (i + 1) 0)) (by omega) m1 (nlt i (by omega)) fun r g1 g2 g3 => ?_)
      refine ok_some ?_
      rw [if_pos (by omega)]
      refine ok_some ⟨by simp, r, rfl, g1, by omega, fun x => ?_⟩
      rw [g2, m3, hsucc]
      exact or_congr Iff.rfl ⟨fun h => ⟨h, c⟩, fun h => h.1⟩
    · rw [if_neg c]
      refine ok_some ?_
      rw [if_pos (by omega)]
      refine ok_some ⟨by simp, m, rfl, m1, by omega, fun x => ?_⟩
      rw [m3, hsucc]
      constructor
      · exact .inl
      · rintro (h | h)
        · exact h
        · exact absurd h.2 c
  · rintro out ⟨m, rfl, m1, m2, m3⟩
    dsimp only
    refine ok_if (fun h => by exfalso; omega) (fun _ => ?_)
    refine ok_some (ok_some ?_)
    have key : ∀ x, inX (fl m) x = keepF n (inX A x) (inX B x) := fun x => by
      rw [Bool.eq_iff_iff, m1.inX, m3]
      constructor
      · rintro ⟨j, j1, ⟨j2, j3⟩, j4⟩
        obtain ⟨q1, q2⟩ := nconst j (by omega) x j2 j3
        rw [← q1, ← q2]; exact j4
      · intro h
        obtain ⟨a, b, ha, hb, h1, h2⟩ : ∃ a b, a ∈ ns ∧ b ∈ ns ∧ a ≤ x ∧ x < b := by
          rcases keepF_or h with h | h
          · obtain ⟨a, ha, h1, b, hb, h2⟩ := ends_mem hA eA h
            exact ⟨a, b, (n4 a).2 (.inl ha), (n4 b).2 (.inl hb), h1, h2⟩
          · obtain ⟨a, ha, h1, b, hb, h2⟩ := ends_mem hB eB h
            exact ⟨a, b, (n4 a).2 (.inr ha), (n4 b).2 (.inr hb), h1, h2⟩
        obtain ⟨j, j1, j2, j3⟩ := bracket n1 ha hb h1 h2
        obtain ⟨q1, q2⟩ := nconst j j1 x j2 j3
        exact ⟨j, by omega, ⟨j2, j3⟩, by rw [q1, q2]; exact h⟩
    have := k (fl m) m1.up (by rw [fl_len]; omega) key (by rw [fl_len]; have m2' : m.length ≤ ns.length - 1 := m2; clear m2; omega)
    rw [pairsX_fl] at this
    exact this
open Classical in
noncomputable def mixF (n : Int) (A B : List Int) : List Int := if h : ∃ xs, Up xs ∧ xs.length % 2 = 0 ∧ ∀ x, inX xs x = keepF n (inX A x) (inX B x) then h.choose else []
theorem mixF_eq {n : Int} {A B xs : List Int} (hu : Up xs) (he : xs.length % 2 = 0) (hx : ∀ x, inX xs x = keepF n (inX A x) (inX B x)) : mixF n A B = xs := by
  have e : ∃ xs, Up xs ∧ xs.length % 2 = 0 ∧ ∀ x, inX xs x = keepF n (inX A x) (inX B x) := ⟨xs, hu, he, hx⟩
  rw [mixF, dif_pos e]
  obtain ⟨h1, h2, h3⟩ := e.choose_spec
  exact inX_ext h1 hu fun x => by rw [h3, hx]
theorem mixF_all {A B : List Int} {n : Int} (lA : A.length < 10000000) (lB : B.length < 10000000) (hA : Up A) (hB : Up B) (eA : A.length % 2 = 0) (eB : B.length % 2 = 0) :
    (Up (mixF n A B) ∧ (mixF n A B).length % 2 = 0 ∧ (∀ x, inX (mixF n A B) x = keepF n (inX A x) (inX B x)) ∧ (mixF n A B).length ≤ 2 * (A.length + B.length)) ∧ p_ref1_mixed ((pairsX A).map sp) ((pairsX B).map sp) n = some ((pairsX (mixF n A B)).map sp) := by
  obtain ⟨r, e, out, h1, h2, h3, h4, rfl⟩ := o_ref1_mixed' (n := n) lA lB hA hB eA eB (Q := fun r => ∃ out, Up out ∧ out.length % 2 = 0 ∧ (∀ x, inX out x = keepF n (inX A x) (inX B x)) ∧ out.length ≤ 2 * (A.length + B.length) ∧ r = (pairsX out).map sp)
    fun out h1 h2 h3 h4 => ⟨out, h1, h2, h3, h4, rfl⟩
  rw [mixF_eq h1 h2 h3]
  exact ⟨⟨h1, h2, h3, h4⟩, e⟩
end Go.Nw
