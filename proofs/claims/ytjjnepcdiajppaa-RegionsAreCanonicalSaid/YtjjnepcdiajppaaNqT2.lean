/- NqT2: a part of the proof. -/
import Derived.Test.YtjjnepcdiajppaaNqT1
set_option linter.unusedVariables false
set_option linter.unusedSimpArgs false
set_option maxRecDepth 100000
namespace Go.Nw
theorem sec_append_ge : ∀ {d a : List Bd} {z : Int}, (∀ c ∈ d, c.y1 ≤ z) → sec (d ++ a) z = sec a z
  | [], _, _, _ => rfl
  | b :: d, a, z, h => by
    have hb := h b (by simp)
    rw [List.cons_append, sec, if_neg (by omega), sec_append_ge fun c hc => h c (by simp [hc])]
/-- what is left of bands, from a height on -/
def Sfx (A a : List Bd) (y : Int) : Prop := ∃ d, A = d ++ a ∧ ∀ c ∈ d, c.y1 ≤ y
theorem Sfx.sec {A a : List Bd} {y z : Int} (h : Sfx A a y) (hz : y ≤ z) : sec A z = sec a z := by
  obtain ⟨d, rfl, h⟩ := h
  exact sec_append_ge fun c hc => Int.le_trans (h c hc) hz
theorem canon_suffix {d a : List Bd} (h : Canon (d ++ a)) : Canon a := ⟨fun b hb => h.ok b (by simp [hb]), (List.pairwise_append.1 h.ab).2.1⟩
theorem Sfx.canon {A a : List Bd} {y : Int} (h : Sfx A a y) (hA : Canon A) : Canon a := by
  obtain ⟨d, rfl, _⟩ := h; exact canon_suffix hA
theorem Sfx.le {A a : List Bd} {y z : Int} (h : Sfx A a y) (hz : y ≤ z) : Sfx A a z := by
  obtain ⟨d, rfl, h⟩ := h; exact ⟨d, rfl, fun c hc => Int.le_trans (h c hc) hz⟩
theorem Sfx.mem {A a : List Bd} {y : Int} (h : Sfx A a y) : ∀ c ∈ a, c ∈ A := by
  obtain ⟨d, rfl, h⟩ := h; intro c hc; simp [hc]
theorem o_dropB {A a : List Bd} {y : Int} (hA : Canon A) (h : Sfx A a y) {Q : List TShapeBand → Prop} (k : ∀ a', Sfx A a' y → (∀ c ∈ a', y < c.y1) → Q (a'.map ofBd)) :
    Ok (loopO (fun s17 : List TShapeBand => if (decide (0 < (↑(List.length s17) : Int)) && decide (TShapeBand.Y1 (List.getD s17 (Int.toNat 0) default) ≤ y)) = true then some (Sum.inl (List.drop (Int.toNat 1) s17)) else some (Sum.inr s17)) (a.map ofBd)) Q := by
  refine ok_loop (fun s : List TShapeBand => ∃ a', s = a'.map ofBd ∧ Sfx A a' y) (fun s => s.length) ⟨a, rfl, h⟩ ?_
  rintro s ⟨a', rfl, h'⟩
  cases a' with
  | nil => exact ok_some (k [] h' (by simp))
  | cons b a' =>
    have p : (0 : Int) < ((ofBd b :: a'.map ofBd).length : Int) := by rw [List.length_cons]; omega
    have e1 : (ofBd b).Y1 = b.y1 := rfl
    simp only [List.map_cons, p, decide_true, Bool.true_and, show Int.toNat 0 = 0 from rfl, show Int.toNat 1 = 1 from rfl, List.getD_cons_zero, List.drop_succ_cons, List.drop_zero, e1, decide_eq_true_eq]
    by_cases c : b.y1 ≤ y
    · rw [if_pos c]
      refine ok_some ⟨⟨a', rfl, ?_⟩, by simp⟩
      obtain ⟨d, e, hd⟩ := h'
      refine ⟨d ++ [b], by rw [e]; simp, fun c' hc' => ?_⟩
      rcases List.mem_append.1 hc' with hc' | hc'
      · exact hd c' hc'
      · simp at hc'; subst hc'; exact c
    · rw [if_neg c]
      refine ok_some ?_
      have hc := h'.canon hA
      have := k (b :: a') h' fun c' hc' => by
        rcases List.mem_cons.1 hc' with rfl | hc'
        · omega
        · have := hc.head c' hc'; have := (hc.ok c' (by simp [hc'])).lt; omega
      exact this
theorem pushB_xs' {s : List Bd} {b : Bd} {P : List Int → Prop} (h : ∀ c ∈ s, P c.xs) (hb : P b.xs) : ∀ c ∈ pushB s b, P c.xs := by
  have := stripsB_xs (f := fun _ => b.xs) (P := P) [b.y0, b.y1] s h (fun _ _ => hb)
  simpa [stripsB] using this
theorem pushB_len' (s : List Bd) (b : Bd) : (pushB s b).length ≤ s.length + 1 := by
  unfold pushB
  split
  · omega
  · split
    · simp
    · split <;> simp <;> omega
theorem canon_le : ∀ {S : List Bd}, Canon S → ∀ {c : Bd}, S.head? = some c → ∀ d ∈ S, c.y0 ≤ d.y0
  | b :: S, h, c, e, d, hd => by
    simp at e; subst e
    rcases List.mem_cons.1 hd with rfl | hd
    · exact Int.le_refl _
    · have := h.head d hd; have := (h.ok b (by simp)).lt; omega
theorem ends_ok {S : List Bd} (h : Canon S) (hn : 0 < S.length) : ∃ f0 l1 : Int, ((S.map ofBd).getD 0 default).Y0 = f0 ∧ ((S.map ofBd).getD (S.length - 1) default).Y1 = l1 ∧ f0 < l1 ∧ (∀ c ∈ S, f0 ≤ c.y0 ∧ c.y1 ≤ l1) ∧ (∃ c ∈ S, c.y0 = f0) ∧ ∃ c ∈ S, c.y1 = l1 := by
  have e0 : (S.map ofBd).getD 0 default = ofBd S[0] := by simp [hn]
  have e1 : (S.map ofBd).getD (S.length - 1) default = ofBd S[S.length - 1] := by rw [getD_in (by simp; omega)]; simp
  have hle : ∀ i j (hi : i < S.length) (hj : j < S.length), i ≤ j → S[i].y0 ≤ S[j].y0 ∧ S[i].y1 ≤ S[j].y1 := fun i j hi hj hij => by
    by_cases e : i = j
    · subst e; exact ⟨Int.le_refl _, Int.le_refl _⟩
    · have h1 := (List.pairwise_iff_getElem.1 h.ab i j hi hj (by omega)).1
      have h2 := (h.ok _ (List.getElem_mem hi)).lt
      have h3 := (h.ok _ (List.getElem_mem hj)).lt
      omega
  have hall : ∀ c ∈ S, S[0].y0 ≤ c.y0 ∧ c.y1 ≤ S[S.length - 1].y1 := fun c hc => by
    obtain ⟨i, hi, rfl⟩ := List.getElem_of_mem hc
    exact ⟨(hle 0 i hn hi (by omega)).1, (hle i (S.length - 1) hi (by omega) (by omega)).2⟩
  refine ⟨S[0].y0, S[S.length - 1].y1, by rw [e0]; rfl, by rw [e1]; rfl, ?_, hall, ⟨_, List.getElem_mem hn, rfl⟩, ⟨_, List.getElem_mem (by omega), rfl⟩⟩
  have h1 := (hall _ (List.getElem_mem hn)).2
  have h2 := (h.ok _ (List.getElem_mem hn)).lt
  omega
/-- bands of a tame size -/
structure Tame (S : List Bd) : Prop where
  canon : Canon S
  len : S.length < 1000000000
  ys : ∀ c ∈ S, -10000000 ≤ c.y0 ∧ c.y1 ≤ 10000000
  xl : ∀ c ∈ S, c.xs.length < 10000
theorem o_shape_Merge {A B : List Bd} {f : Bool → Bool → Option Bool} {keep : Bool → Bool → Bool} (hf : ∀ a b, f a b = some (keep a b)) (h0 : keep false false = false) (hA : Tame A) (hB : Tame B) {Q : List TShapeBand → Prop}
    (k : ∀ out, Canon out → (∀ x y, inB out x y = keep (inB A x y) (inB B x y)) → out.length ≤ 20000000 → (∀ c ∈ out, c.xs.length < 20000) → Q (out.map ofBd)) : Ok (p_shape_Merge (A.map ofBd) (B.map ofBd) f) Q := by
  have lA := hA.len
  have lB := hB.len
  unfold p_shape_Merge
  simp only [List.length_map]
  refine ok_guard (by omega) ?_
  by_cases hz : (A.length : Int) + (B.length : Int) = 0
  · rw [if_pos hz]
    have eA : A = [] := List.eq_nil_of_length_eq_zero (by omega)
    have eB : B = [] := List.eq_nil_of_length_eq_zero (by omega)
    subst eA eB
    exact ok_some (k [] canon_nil (fun x y => by simp [inB, sec, inX, h0]) (by simp) (by simp))
  rw [if_neg hz]
  refine ok_then ?_
  refine ok_loop (fun s : Int × Int × Int => ∃ n : Nat, s.1 = n ∧ n ≤ 2 ∧ (1 ≤ n → ∀ c ∈ A, s.2.2 ≤ c.y0 ∧ c.y1 ≤ s.2.1) ∧ (2 ≤ n → ∀ c ∈ B, s.2.2 ≤ c.y0 ∧ c.y1 ≤ s.2.1) ∧ ((n = 0 ∨ n = 1 ∧ A.length = 0) ∨ (-10000000 ≤ s.2.2 ∧ s.2.1 ≤ 10000000 ∧ s.2.2 < s.2.1)))
    (fun s => 2 - s.1.toNat) ⟨0, rfl, by omega, by omega, by omega, .inl (.inl rfl)⟩ ?_
  · rintro ⟨s1, e, y⟩ ⟨n, e1, hn, hI1, hI2, hI3⟩
    simp only at e1 hI1 hI2 hI3
    subst e1
    match n, hn with
    | 0, _ =>
      simp only [Int.natCast_zero, show Int.toNat 0 = 0 from rfl, List.getD_cons_zero, List.length_map, show ((0 : Nat) : Int) = 0 from rfl]
      rw [if_pos (by omega)]
      refine ok_then (ok_guard (by omega) ?_)
      by_cases hl : (0 : Int) < (A.length : Int)
      · obtain ⟨f0, l1, r1, r2, r3, r4, ⟨c1, r5, r5'⟩, c2, r6, r6'⟩ := ends_ok hA.canon (by omega)
        have b1 := hA.ys c1 r5; have b2 := hA.ys c2 r6
        have ei : ((A.length : Int) - 1).toNat = A.length - 1 := by omega
        simp only [ei, r1, r2]
        rw [if_pos hl, if_pos (by simp), if_pos (by omega)]
        refine ok_then (ok_some ?_)
        simp only
        rw [if_pos (by omega), if_neg (by omega), if_neg (by omega)]
        refine ok_some ?_
        rw [if_pos (by omega)]
        exact ok_some ⟨⟨1, by simp, by omega, fun _ => r4, by omega, .inr ⟨by simp only; omega, by simp only; omega, r3⟩⟩, by simp⟩
      · rw [if_neg hl]
        refine ok_some ?_
        rw [if_pos (by omega)]
        have eA : A = [] := List.eq_nil_of_length_eq_zero (by omega)
        subst eA
        exact ok_some ⟨⟨1, by simp, by omega, by simp, by omega, .inl (.inr ⟨rfl, rfl⟩)⟩, by simp⟩
    | 1, _ =>
      simp only [show ((1 : Nat) : Int) = 1 from rfl, show Int.toNat 0 = 0 from rfl, show Int.toNat 1 = 1 from rfl, List.getD_cons_succ, List.getD_cons_zero, List.length_map]
      rw [if_pos (by omega)]
      refine ok_then (ok_guard (by omega) ?_)
      by_cases hl : (0 : Int) < (B.length : Int)
      · obtain ⟨f0, l1, r1, r2, r3, r4, ⟨c1, r5, r5'⟩, c2, r6, r6'⟩ := ends_ok hB.canon (by omega)
        have b1 := hB.ys c1 r5; have b2 := hB.ys c2 r6
        have ei : ((B.length : Int) - 1).toNat = B.length - 1 := by omega
        simp only [ei, r1, r2, show decide ((1 : Int) = 0) = false from rfl, Bool.false_or, decide_eq_true_eq]
        rw [if_pos hl]
        by_cases ha : (A.length : Int) = 0
        · rw [if_pos ha, if_pos (by omega)]
          refine ok_then (ok_some ?_)
          simp only
          rw [if_pos (by omega), if_neg (by omega), if_neg (by omega)]
          refine ok_some ?_
          rw [if_pos (by omega)]
          have eA : A = [] := List.eq_nil_of_length_eq_zero (by omega)
          subst eA
          exact ok_some ⟨⟨2, by simp, by omega, by simp, fun _ => r4, .inr ⟨by simp only; omega, by simp only; omega, r3⟩⟩, by simp⟩
        · rw [if_neg ha]
          refine ok_then (ok_some ?_)
          simp only
          rw [if_pos (by omega)]
          refine ok_some ?_
          rw [if_pos (by omega)]
          rcases hI3 with h | ⟨g1, g2, g3⟩
          · omega
          have m1 : e ≤ (if l1 > e then l1 else e) ∧ l1 ≤ (if l1 > e then l1 else e) ∧ (if l1 > e then l1 else e) ≤ 10000000 := by split <;> omega
          have m2 : (if f0 < y then f0 else y) ≤ y ∧ (if f0 < y then f0 else y) ≤ f0 ∧ -10000000 ≤ (if f0 < y then f0 else y) := by split <;> omega
          refine ok_some ⟨⟨2, by simp, by omega, fun _ c hc => ?_, fun _ c hc => ?_, .inr ⟨by simp only; omega, by simp only; omega, by simp only; omega⟩⟩, by simp⟩
          · have := hI1 (by omega) c hc; simp only; omega
          · have := r4 c hc; simp only; omega
      · rw [if_neg hl]
        refine ok_some ?_
        rw [if_pos (by omega)]
        have eB : B = [] := List.eq_nil_of_length_eq_zero (by omega)
        subst eB
        refine ok_some ⟨⟨2, by simp, by omega, fun _ => hI1 (by omega), by simp, .inr ?_⟩, by simp⟩
        rcases hI3 with h | h
        · have z : (([] : List Bd).length : Int) = 0 := rfl
          omega
        · exact h
    | 2, _ =>
      have hI1 := hI1 (by omega)
      have hI2 := hI2 (by omega)
      have hI3 : -10000000 ≤ y ∧ e ≤ 10000000 ∧ y < e := by rcases hI3 with h | h; omega; exact h
      obtain ⟨g1, g2, g3⟩ := hI3
      simp only [show ((2 : Nat) : Int) = 2 from rfl, Int.lt_irrefl, if_false]
      refine ok_some (ok_then ?_)
      simp only
      obtain ⟨y0, hy0⟩ : ∃ y0, y0 = y := ⟨y, rfl⟩
      refine ok_loop (fun s : Int × List TShapeBand × List TShapeBand × List TShapeBand => ∃ out a b, s.2.1 = out.map ofBd ∧ s.2.2.1 = a.map ofBd ∧ s.2.2.2 = b.map ofBd ∧ y0 ≤ s.1 ∧ s.1 ≤ e ∧ Sfx A a s.1 ∧ Sfx B b s.1 ∧ Canon out ∧ (∀ c ∈ out, c.y1 ≤ s.1) ∧
          (out.length : Int) ≤ s.1 - y0 ∧ (∀ c ∈ out, c.xs.length < 20000) ∧ ∀ z, z < s.1 → ∀ x, inB out x z = keep (inB A x z) (inB B x z)) (fun s => (e - s.1).toNat)
        ⟨[], A, B, rfl, rfl, rfl, by simp only; omega, by simp only; omega, ⟨[], rfl, by simp⟩, ⟨[], rfl, by simp⟩, canon_nil, by simp, by simp [hy0], by simp, fun z hz x => ?_⟩ ?_
      · simp only at hz
        rw [inB, inB, inB, sec_lt (l := A) fun c hc => by have := (hI1 c hc).1; omega, sec_lt (l := B) fun c hc => by have := (hI2 c hc).1; omega]
        simp [sec, inX, h0]
      rintro ⟨y, o_, a_, b_⟩ ⟨out, a, b, e1, e2, e3, j1, j2, j3, j4, j5, j6, j7, j8, j9⟩
      simp only at e1 e2 e3 j1 j2 j3 j4 j6 j7 j9
      subst e1 e2 e3
      by_cases hye : y < e
      · rw [if_pos hye]
        refine ok_then (o_dropB hA.canon j3 fun a' n1 n2 => ?_)
        refine ok_then (o_dropB hB.canon j4 fun b' n3 n4 => ?_)
        refine ok_then (o_shape_Set_at ?_)
        refine ok_then (o_shape_Set_at ?_)
        obtain ⟨t1, t2, t3, t4⟩ := atF_ok (n1.canon hA.canon) n2 hye
        obtain ⟨u1, u2, u3, u4⟩ := atF_ok (n3.canon hB.canon) n4 hye
        obtain ⟨xa, ha⟩ : ∃ xa, atF a' y e = xa := ⟨_, rfl⟩
        obtain ⟨xb, hb⟩ : ∃ xb, atF b' y e = xb := ⟨_, rfl⟩
        rw [ha] at t1 t2 t3 t4 ⊢
        rw [hb] at u1 u2 u3 u4 ⊢
        obtain ⟨xa1, xa2⟩ := xa
        obtain ⟨xb1, xb2⟩ := xb
        simp only at t1 t2 t3 t4 u1 u2 u3 u4 ⊢
        have okA : Up xa1 ∧ xa1.length % 2 = 0 ∧ xa1.length < 10000 := by
          rcases t3 with rfl | ⟨c, hc, rfl⟩
          · exact ⟨List.Pairwise.nil, rfl, by simp⟩
          · have := hA.canon.ok c (n1.mem c hc); exact ⟨this.up, this.ev, hA.xl c (n1.mem c hc)⟩
        have okB : Up xb1 ∧ xb1.length % 2 = 0 ∧ xb1.length < 10000 := by
          rcases u3 with rfl | ⟨c, hc, rfl⟩
          · exact ⟨List.Pairwise.nil, rfl, by simp⟩
          · have := hB.canon.ok c (n3.mem c hc); exact ⟨this.up, this.ev, hB.xl c (n3.mem c hc)⟩
        refine ok_then (o_shape_line hf h0 okA.1 okB.1 okA.2.1 okB.2.1 (by omega) (by omega) fun xs v1 v2 v3 v4 v5 => ?_)
        obtain ⟨y', hy'⟩ : ∃ y', (if xb2 < xa2 then xb2 else xa2) = y' := ⟨_, rfl⟩
        rw [hy']
        have w1 : y < y' ∧ y' ≤ xa2 ∧ y' ≤ xb2 ∧ y' ≤ e := by rw [← hy']; split <;> omega
        refine ok_then (o_shape_Set_push_o (s := out) (b := ⟨y, y', xs⟩) (by omega) (fun c hc => by have := j8 c hc; omega) (by simp only; omega) ?_)
        obtain ⟨p1, p2, p3⟩ := pushB_canon (s := out) (b := ⟨y, y', xs⟩) j5 j6 v1 v2
        refine ok_some ⟨⟨_, a', b', rfl, rfl, rfl, by simp only; omega, by simp only; omega, n1.le (by simp only; omega), n3.le (by simp only; omega), p1, p2 y' (by simp only; omega) (by simp only; omega), ?_, pushB_xs' (P := fun l => l.length < 20000) j8 (show xs.length < 20000 by omega), fun z hz x => ?_⟩, by simp only; omega⟩
        · have := pushB_len' out ⟨y, y', xs⟩
          simp only; omega
        · simp only at hz
          rw [inB, p3]
          simp only
          by_cases c : y ≤ z
          · rw [if_pos ⟨c, hz⟩, v3, inB, inB, n1.sec c, n3.sec c, t4 z c (by omega), u4 z c (by omega)]
          · rw [if_neg (by omega)]
            exact j9 z (by omega) x
      · rw [if_neg hye]
        refine ok_some (ok_some (k out j5 (fun x z => ?_) (by omega) j8))
        by_cases c : z < y
        · exact j9 z c x
        · rw [inB, inB, inB, sec_ge (l := A) fun d hd => by have := (hI1 d hd).2; omega, sec_ge (l := B) fun d hd => by have := (hI2 d hd).2; omega, sec_ge (l := out) fun d hd => by have := j6 d hd; omega]
          simp [inX, h0]
    | n + 3, h => omega
end Go.Nw
