/- NqLib: a part of the proof. -/
import Derived.Test.YtngdglmimlfefaaNwVal
namespace Go.Nw
/-- 'Ok o Q': the answer is there, and it is as 'Q' says. -/
inductive Ok {α : Type} (o : Option α) (Q : α → Prop) : Prop
  | intro (r : α) (h : o = some r ∧ Q r) : Ok o Q
theorem ok_some {α : Type} {a : α} {Q : α → Prop} (h : Q a) : Ok (some a) Q := ⟨a, rfl, h⟩
theorem ok_some_iff {α : Type} {a : α} {Q : α → Prop} : Ok (some a) Q ↔ Q a := ⟨fun ⟨_, h, q⟩ => by cases h; exact q, ok_some⟩
theorem ok_ex {α : Type} {o : Option α} {Q : α → Prop} (h : Ok o Q) : ∃ r, o = some r ∧ Q r := by obtain ⟨r, h⟩ := h; exact ⟨r, h⟩
theorem ok_bind {α β : Type} {o : Option α} {f : α → Option β} {P : α → Prop} {Q : β → Prop} (h : Ok o P) (k : ∀ a, P a → Ok (f a) Q) : Ok (Option.bind o f) Q := by
  obtain ⟨r, rfl, hr⟩ := h
  exact k r hr
theorem ok_eq {α : Type} {o : Option α} {r : α} (h : o = some r) : Ok o (fun x => x = r) := ⟨r, h, rfl⟩
theorem ok_val {α : Type} {o : Option α} {r : α} (h : Ok o (fun x => x = r)) : o = some r := by obtain ⟨x, h, rfl⟩ := h; exact h
theorem ok_mono {α : Type} {o : Option α} {P Q : α → Prop} (h : Ok o P) (k : ∀ a, P a → Q a) : Ok o Q := by obtain ⟨r, e, hr⟩ := h; exact ⟨r, e, k r hr⟩
theorem ok_bind_eq {α β : Type} {o : Option α} {f : α → Option β} {r : α} {Q : β → Prop} (h : o = some r) (k : Ok (f r) Q) : Ok (Option.bind o f) Q := by subst h; exact k
theorem ok_if {α : Type} {c : Prop} {d : Decidable c} {a b : Option α} {Q : α → Prop} (h : c → Ok a Q) (k : ¬ c → Ok b Q) : Ok (if c then a else b) Q := by
  by_cases e : c
  · rw [if_pos e]; exact h e
  · rw [if_neg e]; exact k e
theorem ok_guard {α : Type} {c : Prop} {d : Decidable c} {a : Option α} {Q : α → Prop} (h : c) (k : Ok a Q) : Ok (if c then a else none) Q := by rw [if_pos h]; exact k
theorem ok_of {α : Type} {o : Option α} {r : α} {Q : α → Prop} (h : o = some r) (k : Q r) : Ok o Q := ⟨r, h, k⟩
theorem ok_then {α β : Type} {o : Option α} {f : α → Option β} {Q : β → Prop} (h : Ok o fun r => Ok (f r) Q) : Ok (Option.bind o f) Q := by
  obtain ⟨r, rfl, hr⟩ := h
  exact hr
theorem ok_esc {α β γ : Type} {o : Option (α ⊕ β)} {f : α → Option γ} {g : β → Option γ} {Q : γ → Prop} (h : Ok o fun z => match z with | .inl v => Ok (f v) Q | .inr e => Ok (g e) Q) :
    Ok (Option.bind o fun z => Sum.elim (fun v => f v) (fun e => g e) z) Q := by
  obtain ⟨z, rfl, hz⟩ := h
  cases z with
  | inl v => exact hz
  | inr e => exact hz
/-- a call that is made only if 'c' is: what it gives does not matter else -/
theorem ok_short {α β : Type} {c : Prop} {d : Decidable c} {o : Option α} {r e : α} {f : α → Option β} {Q : β → Prop} (ho : c → o = some r) (hd : ¬ c → f e = f r) (k : Ok (f r) Q) : Ok (Option.bind (@ite _ c d o (some e)) f) Q := by
  by_cases h : c
  · rw [if_pos h, ho h]; exact k
  · rw [if_neg h]; show Ok (f e) Q; rw [hd h]; exact k
/-- a loop ends, as a measure falls -/
theorem ok_loop {S E : Type} {step : S → Option (S ⊕ E)} {Q : E → Prop} (I : S → Prop) (μ : S → Nat) {s : S} (h0 : I s)
    (hs : ∀ s, I s → Ok (step s) fun o => match o with | .inl s' => I s' ∧ μ s' < μ s | .inr e => Q e) : Ok (loopO step s) Q := by
  have : ∀ n s, I s → μ s < n → Ok (loopO step s) Q := by
    intro n
    induction n with
    | zero => intro s _ h; omega
    | succ n ih =>
      intro s hI hn
      obtain ⟨o, he, ho⟩ := hs s hI
      cases o with
      | inl s' => rw [loopO_inl he]; exact ih s' ho.1 (by have := ho.2; omega)
      | inr e => exact ⟨e, loopO_inr he, ho⟩
  exact this _ s h0 (Nat.lt_succ_self _)
/-- a loop over the numbers below 'n', the number first in the state -/
theorem ok_for {S E : Type} {step : Int × S → Option ((Int × S) ⊕ E)} {Q : E → Prop} (n : Nat) (I : Nat → S → Prop) {x : S} (h0 : I 0 x)
    (hc : ∀ i x, i < n → I i x → Ok (step ((i : Int), x)) fun o => match o with | .inl s' => s'.1 = (i : Int) + 1 ∧ I (i + 1) s'.2 | .inr e => Q e)
    (hn : ∀ x, I n x → Ok (step ((n : Int), x)) fun o => match o with | .inl _ => False | .inr e => Q e) : Ok (loopO step (0, x)) Q := by
  refine ok_loop (fun s : Int × S => ∃ i : Nat, s.1 = i ∧ i ≤ n ∧ I i s.2) (fun s : Int × S => n - s.1.toNat) ⟨0, rfl, by omega, h0⟩ ?_
  rintro ⟨j, x⟩ ⟨i, e, hi, hI⟩
  simp only at e hI
  subst e
  by_cases h : i < n
  · refine ok_mono (hc i x h hI) ?_
    intro o ho
    cases o with
    | inl s' => exact ⟨⟨i + 1, by rw [ho.1]; simp, by omega, ho.2⟩, by rw [ho.1]; simp; omega⟩
    | inr e => exact ho
  · obtain rfl : i = n := by omega
    refine ok_mono (hn x hI) ?_
    intro o ho
    cases o with
    | inl s' => exact ho.elim
    | inr e => exact ho
/-- the same, from 1 on -/
theorem ok_for1 {S E : Type} {step : Int × S → Option ((Int × S) ⊕ E)} {Q : E → Prop} (n : Nat) (I : Nat → S → Prop) {x : S} (h0 : I 0 x)
    (hc : ∀ i x, i < n → I i x → Ok (step ((i : Int) + 1, x)) fun o => match o with | .inl s' => s'.1 = (i : Int) + 1 + 1 ∧ I (i + 1) s'.2 | .inr e => Q e)
    (hn : ∀ x, I n x → Ok (step ((n : Int) + 1, x)) fun o => match o with | .inl _ => False | .inr e => Q e) : Ok (loopO step (1, x)) Q := by
  refine ok_loop (fun s : Int × S => ∃ i : Nat, s.1 = (i : Int) + 1 ∧ i ≤ n ∧ I i s.2) (fun s : Int × S => n + 1 - s.1.toNat) ⟨0, rfl, by omega, h0⟩ ?_
  rintro ⟨j, x⟩ ⟨i, e, hi, hI⟩
  simp only at e hI
  subst e
  by_cases h : i < n
  · refine ok_mono (hc i x h hI) ?_
    intro o ho
    cases o with
    | inl s' => exact ⟨⟨i + 1, by rw [ho.1]; simp, by omega, ho.2⟩, by rw [ho.1]; simp; omega⟩
    | inr e => exact ho
  · obtain rfl : i = n := by omega
    refine ok_mono (hn x hI) ?_
    intro o ho
    cases o with
    | inl s' => exact ho.elim
    | inr e => exact ho
/-- the same, for a state that is the number alone -/
theorem ok_for' {E : Type} {step : Int → Option (Int ⊕ E)} {Q : E → Prop} (n : Nat) (I : Nat → Prop) (h0 : I 0)
    (hc : ∀ i, i < n → I i → Ok (step (i : Int)) fun o => match o with | .inl s' => s' = (i : Int) + 1 ∧ I (i + 1) | .inr e => Q e)
    (hn : I n → Ok (step (n : Int)) fun o => match o with | .inl _ => False | .inr e => Q e) : Ok (loopO step 0) Q := by
  refine ok_loop (fun s : Int => ∃ i : Nat, s = i ∧ i ≤ n ∧ I i) (fun s : Int => n - s.toNat) ⟨0, rfl, by omega, h0⟩ ?_
  rintro j ⟨i, e, hi, hI⟩
  subst e
  by_cases h : i < n
  · refine ok_mono (hc i h hI) ?_
    intro o ho
    cases o with
    | inl s' => obtain ⟨rfl, h2⟩ := ho; exact ⟨⟨i + 1, by simp, by omega, h2⟩, by simp; omega⟩
    | inr e => exact ho
  · obtain rfl : i = n := by omega
    refine ok_mono (hn hI) ?_
    intro o ho
    cases o with
    | inl s' => exact ho.elim
    | inr e => exact ho
theorem all_lt {P : Nat → Prop} {i : Nat} (h : ∀ j < i, P j) (hi : P i) : ∀ j < i + 1, P j := fun j hj => by
  by_cases e : j = i
  · rw [e]; exact hi
  · exact h j (by omega)
open Classical in
theorem least {n : Nat} {P : Nat → Prop} (h : ∃ i, i < n ∧ P i) : ∃ i, i < n ∧ P i ∧ ∀ j < i, ¬ P j := by
  have : ∀ m i, i ≤ m → i < n → P i → ∃ i, i < n ∧ P i ∧ ∀ j < i, ¬ P j := by
    intro m
    induction m with
    | zero => intro i h1 h2 h3; exact ⟨i, h2, h3, fun j hj => by omega⟩
    | succ m ih =>
      intro i h1 h2 h3
      by_cases e : ∃ j, j < i ∧ P j
      · obtain ⟨j, hj, hP⟩ := e
        exact ih j (by omega) (by omega) hP
      · exact ⟨i, h2, h3, fun j hj hP => e ⟨j, hj, hP⟩⟩
  obtain ⟨i, h1, h2⟩ := h
  exact this i i (Nat.le_refl _) h1 h2
open Classical in
/-- the first place below 'n' where 'P' is, or -1 -/
noncomputable def firstF (n : Nat) (P : Nat → Bool) : Int := if h : ∃ i, i < n ∧ P i = true ∧ ∀ j < i, P j = false then (h.choose : Int) else -1
theorem firstF_at {n : Nat} {P : Nat → Bool} {i : Nat} (hi : i < n) (h : P i = true) (hj : ∀ j < i, P j = false) : firstF n P = i := by
  have e : ∃ i, i < n ∧ P i = true ∧ ∀ j < i, P j = false := ⟨i, hi, h, hj⟩
  rw [firstF, dif_pos e]
  obtain ⟨h1, h2, h3⟩ := e.choose_spec
  have : e.choose = i := by
    rcases Nat.lt_trichotomy e.choose i with h' | h' | h'
    · rw [hj _ h'] at h2; cases h2
    · exact h'
    · rw [h3 _ h'] at h; cases h
  omega
theorem firstF_none {n : Nat} {P : Nat → Bool} (h : ∀ j < n, P j = false) : firstF n P = -1 := by
  rw [firstF, dif_neg]
  rintro ⟨i, hi, h2, _⟩
  rw [h i hi] at h2; cases h2
theorem firstF_cases (n : Nat) (P : Nat → Bool) : (firstF n P = -1 ∧ ∀ j < n, P j = false) ∨ ∃ i : Nat, i < n ∧ firstF n P = i ∧ P i = true ∧ ∀ j < i, P j = false := by
  by_cases e : ∃ i, i < n ∧ P i = true
  · obtain ⟨i, h1, h2, h3⟩ := least e
    have h3' : ∀ j < i, P j = false := fun j hj => by simpa using h3 j hj
    exact .inr ⟨i, h1, firstF_at h1 h2 h3', h2, h3'⟩
  · have : ∀ j < n, P j = false := fun j hj => by
      cases h : P j
      · rfl
      · exact (e ⟨j, hj, h⟩).elim
    exact .inl ⟨firstF_none this, this⟩
theorem firstF_range (n : Nat) (P : Nat → Bool) : -1 ≤ firstF n P ∧ firstF n P < n := by
  rcases firstF_cases n P with ⟨h, _⟩ | ⟨i, h1, h2, _⟩ <;> omega
theorem firstF_any (n : Nat) (P : Nat → Bool) : 0 ≤ firstF n P ↔ ∃ i, i < n ∧ P i = true := by
  rcases firstF_cases n P with ⟨h, h2⟩ | ⟨i, h1, h2, h3, _⟩
  · constructor
    · intro h'; omega
    · rintro ⟨i, h3, h4⟩; rw [h2 i h3] at h4; cases h4
  · exact ⟨fun _ => ⟨i, h1, h3⟩, fun _ => by omega⟩
open Classical in
/-- the first fault of 'n' things, or 0 -/
noncomputable def faultF (n : Nat) (f : Nat → Int) : Int := if h : ∃ i, i < n ∧ f i ≠ 0 ∧ ∀ j < i, f j = 0 then f h.choose else 0
theorem faultF_at {n : Nat} {f : Nat → Int} {i : Nat} (hi : i < n) (h : f i ≠ 0) (hj : ∀ j < i, f j = 0) : faultF n f = f i := by
  have e : ∃ i, i < n ∧ f i ≠ 0 ∧ ∀ j < i, f j = 0 := ⟨i, hi, h, hj⟩
  rw [faultF, dif_pos e]
  obtain ⟨h1, h2, h3⟩ := e.choose_spec
  have : e.choose = i := by
    rcases Nat.lt_trichotomy e.choose i with h' | h' | h'
    · exact (h2 (hj _ h')).elim
    · exact h'
    · exact (h (h3 _ h')).elim
  rw [this]
theorem faultF_0 {n : Nat} {f : Nat → Int} (h : ∀ j < n, f j = 0) : faultF n f = 0 := by
  rw [faultF, dif_neg]
  rintro ⟨i, hi, h2, _⟩
  exact h2 (h i hi)
theorem faultF_eq0 {n : Nat} {f : Nat → Int} : faultF n f = 0 ↔ ∀ j < n, f j = 0 := by
  refine ⟨fun h j hj => ?_, faultF_0⟩
  by_cases e : ∃ i, i < n ∧ f i ≠ 0
  · obtain ⟨i, h1, h2, h3⟩ := least e
    rw [faultF_at h1 h2 (fun j hj => by simpa using h3 j hj)] at h
    exact (h2 h).elim
  · simpa using fun h' => e ⟨j, hj, h'⟩
theorem faultF_congr {n : Nat} {f g : Nat → Int} (h : ∀ i < n, (∀ j < i, f j = 0 ∧ g j = 0) → f i = g i) : faultF n f = faultF n g := by
  by_cases e : ∃ i, i < n ∧ (f i ≠ 0 ∨ g i ≠ 0)
  · obtain ⟨i, h1, h2, h3⟩ := least e
    have h4 : ∀ j < i, f j = 0 ∧ g j = 0 := fun j hj => by have := h3 j hj; simp only [not_or, ne_eq, Decidable.not_not] at this; exact this
    have h5 := h i h1 h4
    have h6 : f i ≠ 0 := by rcases h2 with h | h; exact h; rw [h5]; exact h
    rw [faultF_at h1 h6 (fun j hj => (h4 j hj).1), faultF_at h1 (by rw [← h5]; exact h6) (fun j hj => (h4 j hj).2), h5]
  · rw [faultF_0 (fun j hj => ?_), faultF_0 (fun j hj => ?_)]
    · exact Classical.byContradiction fun h' => e ⟨j, hj, .inr h'⟩
    · exact Classical.byContradiction fun h' => e ⟨j, hj, .inl h'⟩
end Go.Nw
