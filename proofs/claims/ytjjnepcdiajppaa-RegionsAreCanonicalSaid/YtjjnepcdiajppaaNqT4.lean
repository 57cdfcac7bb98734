/- NqT4: a part of the proof. -/
import Derived.Test.YtjjnepcdiajppaaNqT3
set_option linter.unusedVariables false
set_option linter.unusedSimpArgs false
set_option maxRecDepth 100000
namespace Go.Nw
def KeepP (n : Int) (p q : Prop) : Prop := (n = 1 ∧ (p ∨ q)) ∨ (n = 2 ∧ p ∧ q) ∨ (n = 3 ∧ p ∧ ¬ q)
theorem keepF_iff {n : Int} {a b : Bool} : keepF n a b = true ↔ KeepP n (a = true) (b = true) := by
  simp only [keepF, KeepP, Bool.or_eq_true, Bool.and_eq_true, decide_eq_true_eq, Bool.not_eq_true', Bool.not_eq_true, or_assoc, and_assoc]
theorem KeepP.or {n : Int} {p q : Prop} (h : KeepP n p q) : p ∨ q := by
  rcases h with ⟨-, h⟩ | ⟨-, h, -⟩ | ⟨-, h, -⟩
  · exact h
  · exact .inl h
  · exact .inl h
theorem keepP_congr {n : Int} {p q p' q' : Prop} (h : p ↔ p') (h' : q ↔ q') : KeepP n p q ↔ KeepP n p' q' := by rw [propext h, propext h']
/-- the bands of two regions taken together -/
noncomputable def combB (n : Int) (l m : List TRect) : List Bd := setB fun x y => KeepP n (cov l x y) (cov m x y)
noncomputable def combF (n : Int) (l m : List TRect) : List TRect := rectsOf (combB n l m)
theorem set_tame {l : List TRect} (h : rectsFault l = 0) : Tame (setB (cov l)) ∧ ∀ x y, inB (setB (cov l)) x y = true ↔ cov l x y := by
  obtain ⟨h1, h2⟩ := rectsFault_0.1 h
  have hS := setB_ok (fun r hr => (h2 r hr).xx) (fun r hr => (h2 r hr).yy)
  refine ⟨⟨hS.canon, by have := hS.len; omega, fun c hc => ?_, fun c hc => by have := hS.xl c hc; omega⟩, hS.cv⟩
  obtain ⟨⟨r, hr, h3⟩, q, hq, h4⟩ := hS.ym c hc
  have a1 := h2 r hr; have a2 := h2 q hq
  have b1 := a1.y0; have b2 := a1.yy; have b3 := a1.y1; have c1 := a2.y0; have c2 := a2.yy; have c3 := a2.y1
  rcases h3 with h3 | h3 <;> rcases h4 with h4 | h4 <;> omega
theorem comb_all {l m : List TRect} {n : Int} {f : Bool → Bool → Option Bool} (hf : ∀ a b, f a b = some (keepF n a b)) (hl : rectsFault l = 0) (hm : rectsFault m = 0) :
    (Canon (combB n l m) ∧ (∀ x y, inB (combB n l m) x y = true ↔ KeepP n (cov l x y) (cov m x y)) ∧ (combB n l m).length ≤ 20000000 ∧ ∀ c ∈ combB n l m, c.xs.length < 20000) ∧
      p_shape_Merge ((setB (cov l)).map ofBd) ((setB (cov m)).map ofBd) f = some ((combB n l m).map ofBd) := by
  obtain ⟨tl, cl⟩ := set_tame hl
  obtain ⟨tm, cm⟩ := set_tame hm
  obtain ⟨r, e, out, h1, h2, h3, h4, rfl⟩ := o_shape_Merge hf (keepF_0 n) tl tm (Q := fun r => ∃ out, Canon out ∧ (∀ x y, inB out x y = keepF n (inB (setB (cov l)) x y) (inB (setB (cov m)) x y)) ∧ out.length ≤ 20000000 ∧ (∀ c ∈ out, c.xs.length < 20000) ∧ r = out.map ofBd)
    fun out h1 h2 h3 h4 => ⟨out, h1, h2, h3, h4, rfl⟩
  have hP : ∀ x y, inB out x y = true ↔ KeepP n (cov l x y) (cov m x y) := fun x y => by rw [h2, keepF_iff]; exact keepP_congr (cl x y) (cm x y)
  have : combB n l m = out := setB_eq h1 hP
  rw [this]
  exact ⟨⟨h1, hP, h3, h4⟩, e⟩
structure CombOk (n : Int) (l m : List TRect) : Prop where
  canon : Canon (combB n l m)
  cv : ∀ x y, inB (combB n l m) x y = true ↔ KeepP n (cov l x y) (cov m x y)
  len : (combB n l m).length ≤ 20000000
  ev : ∀ b ∈ combB n l m, b.xs.length % 2 = 0
  many : (rectsOf (combB n l m)).length < 1000000000000
theorem comb_ok {l m : List TRect} (n : Int) (hl : rectsFault l = 0) (hm : rectsFault m = 0) : CombOk n l m := by
  obtain ⟨⟨h1, h2, h3, h4⟩, -⟩ := comb_all (n := n) (f := fun a b => some (keepF n a b)) (fun _ _ => rfl) hl hm
  refine ⟨h1, h2, h3, fun b hb => (h1.ok b hb).ev, ?_⟩
  have h5 := sum_len rectsB 10000 (combB n l m) fun b hb => by rw [rectsB_len]; have := h4 b hb; omega
  have : (combB n l m).length * 10000 ≤ 20000000 * 10000 := Nat.mul_le_mul_right _ h3
  have h6 : (rectsOf (combB n l m)).length ≤ (combB n l m).length * 10000 := h5
  omega
theorem o_comb {l m : List TRect} {n : Int} {f : Bool → Bool → Option Bool} (hf : ∀ a b, f a b = some (keepF n a b)) (hl : rectsFault l = 0) (hm : rectsFault m = 0) {Q : List TShapeBand → Prop} (k : Q ((combB n l m).map ofBd)) :
    Ok (p_shape_Merge ((setB (cov l)).map ofBd) ((setB (cov m)).map ofBd) f) Q := ok_of (comb_all hf hl hm).2 k
theorem regionFault_r {l : List TRect} (h : regionFault l = 0) : rectsFault l = 0 := by
  have := (regionFault_0.1 h).1; exact rectsFault_0.2 ⟨this.n, this.ok⟩
noncomputable def twoF (n : Int) (l m : List TRect) : List TRect × Int := if regionFault l = 0 then (if regionFault m = 0 then toldF (combF n l m) else ([], regionFault m)) else ([], regionFault l)
theorem twoF_len (n : Int) (l m : List TRect) : (twoF n l m).1.length ≤ 2000 := by
  unfold twoF
  split
  · split
    · exact toldF_len _
    · simp
  · simp
theorem o_shape_two {l m : List TRect} {n : Int} {f : List TShapeBand → List TShapeBand → Option (List TShapeBand)} (hl : l.length < 281474976710656) (hm : m.length < 281474976710656)
    (hf : rectsFault l = 0 → rectsFault m = 0 → f ((setB (cov l)).map ofBd) ((setB (cov m)).map ofBd) = some ((combB n l m).map ofBd)) {Q : List TRect × Int → Prop} (k : Q (twoF n l m)) : Ok (p_shape_two l m f) Q := by
  unfold p_shape_two
  unfold twoF at k
  refine ok_then (o_shape_CheckRegion hl ?_)
  by_cases h : regionFault l = 0
  · rw [if_pos h] at k ⊢
    refine ok_then (o_shape_CheckRegion hm ?_)
    by_cases h' : regionFault m = 0
    · rw [if_pos h'] at k ⊢
      have rl := regionFault_r h; have rm := regionFault_r h'
      obtain ⟨a1, a2⟩ := rectsFault_0.1 rl
      obtain ⟨b1, b2⟩ := rectsFault_0.1 rm
      have C := comb_ok n rl rm
      refine ok_then (o_shape_SetOf (by omega) (fun r hr => (a2 r hr).ok) ?_)
      refine ok_then (o_shape_SetOf (by omega) (fun r hr => (b2 r hr).ok) ?_)
      refine ok_bind_eq (hf rl rm) ?_
      exact ok_then (o_shape_Set_Told (by have := C.len; omega) C.ev C.many (ok_some k))
    · rw [if_neg h'] at k ⊢; exact ok_some k
  · rw [if_neg h] at k ⊢; exact ok_some k
theorem t_shape_Union {l m : List TRect} (hl : l.length < 281474976710656) (hm : m.length < 281474976710656) : p_shape_Union l m = some (twoF 1 l m) := by
  apply ok_val
  unfold p_shape_Union
  refine ok_then (o_shape_two (n := 1) hl hm (fun rl rm => ?_) (ok_some rfl))
  apply ok_val
  unfold p_shape_Set_Or
  exact ok_then (o_comb (n := 1) (fun a b => by unfold p_shape_Set_Or_1; cases a <;> cases b <;> rfl) rl rm (ok_some rfl))
theorem o_shape_Union {l m : List TRect} (hl : l.length < 281474976710656) (hm : m.length < 281474976710656) {Q_ : _ → Prop} (k_ : Q_ (twoF 1 l m)) : Ok (p_shape_Union l m) Q_ := ok_of (t_shape_Union hl hm) k_
theorem s_shape_Union {β : Type} {cc_ : Prop} {d_ : Decidable cc_} {l m : List TRect} (hl : cc_ → (l.length < 281474976710656)) (hm : cc_ → (m.length < 281474976710656)) {e_ : _} {f_ : _ → Option β} {Q_ : β → Prop} (hd : ¬ cc_ → f_ e_ = f_ (twoF 1 l m)) (k_ : Ok (f_ (twoF 1 l m)) Q_) : Ok (Option.bind (@ite _ cc_ d_ (p_shape_Union l m) (some e_)) f_) Q_ := ok_short (fun hc__ => t_shape_Union (hl hc__) (hm hc__)) hd k_
theorem t_shape_Both {l m : List TRect} (hl : l.length < 281474976710656) (hm : m.length < 281474976710656) : p_shape_Both l m = some (twoF 2 l m) := by
  apply ok_val
  unfold p_shape_Both
  refine ok_then (o_shape_two (n := 2) hl hm (fun rl rm => ?_) (ok_some rfl))
  apply ok_val
  unfold p_shape_Set_And
  exact ok_then (o_comb (n := 2) (fun a b => by unfold p_shape_Set_And_1; cases a <;> cases b <;> rfl) rl rm (ok_some rfl))
theorem o_shape_Both {l m : List TRect} (hl : l.length < 281474976710656) (hm : m.length < 281474976710656) {Q_ : _ → Prop} (k_ : Q_ (twoF 2 l m)) : Ok (p_shape_Both l m) Q_ := ok_of (t_shape_Both hl hm) k_
theorem s_shape_Both {β : Type} {cc_ : Prop} {d_ : Decidable cc_} {l m : List TRect} (hl : cc_ → (l.length < 281474976710656)) (hm : cc_ → (m.length < 281474976710656)) {e_ : _} {f_ : _ → Option β} {Q_ : β → Prop} (hd : ¬ cc_ → f_ e_ = f_ (twoF 2 l m)) (k_ : Ok (f_ (twoF 2 l m)) Q_) : Ok (Option.bind (@ite _ cc_ d_ (p_shape_Both l m) (some e_)) f_) Q_ := ok_short (fun hc__ => t_shape_Both (hl hc__) (hm hc__)) hd k_
theorem t_shape_Minus {l m : List TRect} (hl : l.length < 281474976710656) (hm : m.length < 281474976710656) : p_shape_Minus l m = some (twoF 3 l m) := by
  apply ok_val
  unfold p_shape_Minus
  refine ok_then (o_shape_two (n := 3) hl hm (fun rl rm => ?_) (ok_some rfl))
  apply ok_val
  unfold p_shape_Set_Less
  exact ok_then (o_comb (n := 3) (fun a b => by unfold p_shape_Set_Less_1; cases a <;> cases b <;> rfl) rl rm (ok_some rfl))
theorem o_shape_Minus {l m : List TRect} (hl : l.length < 281474976710656) (hm : m.length < 281474976710656) {Q_ : _ → Prop} (k_ : Q_ (twoF 3 l m)) : Ok (p_shape_Minus l m) Q_ := ok_of (t_shape_Minus hl hm) k_
theorem s_shape_Minus {β : Type} {cc_ : Prop} {d_ : Decidable cc_} {l m : List TRect} (hl : cc_ → (l.length < 281474976710656)) (hm : cc_ → (m.length < 281474976710656)) {e_ : _} {f_ : _ → Option β} {Q_ : β → Prop} (hd : ¬ cc_ → f_ e_ = f_ (twoF 3 l m)) (k_ : Ok (f_ (twoF 3 l m)) Q_) : Ok (Option.bind (@ite _ cc_ d_ (p_shape_Minus l m) (some e_)) f_) Q_ := ok_short (fun hc__ => t_shape_Minus (hl hc__) (hm hc__)) hd k_
theorem rowF_cov {l : List TRect} {ys : List Int} (hx : ∀ r ∈ l, r.X0 < r.X1) (hh : ∀ r ∈ l, r.Y0 ∈ ys ∧ r.Y1 ∈ ys) {a x y : Int} (hay : a ≤ y) (hc : ∀ c ∈ ys, c ≤ a ∨ y < c) : inX (rowF l a) x = true ↔ cov l x y := by
  rw [(rowF_ok hx a).2.2]
  constructor
  · rintro ⟨r, hr, h1, h2, h3⟩
    refine ⟨r, hr, h1, by omega, ?_⟩
    rcases hc r.Y1 (hh r hr).2 with h | h <;> omega
  · rintro ⟨r, hr, h1, h2, h3⟩
    refine ⟨r, hr, h1, ?_, by omega⟩
    rcases hc r.Y0 (hh r hr).1 with h | h <;> omega
theorem t_ref1_combined {l m : List TRect} {n : Int} (hl : rectsFault l = 0) (hm : rectsFault m = 0) : p_ref1_combined l m n = some (combF n l m) := by
  apply ok_val
  unfold p_ref1_combined
  obtain ⟨a1, a2⟩ := rectsFault_0.1 hl
  obtain ⟨b1, b2⟩ := rectsFault_0.1 hm
  have C := comb_ok n hl hm
  have xl := fun r hr => (a2 r hr).xx
  have xm := fun r hr => (b2 r hr).xx
  refine ok_guard (by omega) (ok_guard (by omega) ?_)
  refine ok_then (o_ref1_heights (by rw [List.length_append]; omega) fun ys H hyl => ?_)
  rw [List.length_append] at hyl
  have hml : ∀ r ∈ l, r.Y0 ∈ ys ∧ r.Y1 ∈ ys := fun r hr => ⟨(H.mem _).2 ⟨r, by simp [hr], .inl rfl⟩, (H.mem _).2 ⟨r, by simp [hr], .inr rfl⟩⟩
  have hmm : ∀ r ∈ m, r.Y0 ∈ ys ∧ r.Y1 ∈ ys := fun r hr => ⟨(H.mem _).2 ⟨r, by simp [hr], .inl rfl⟩, (H.mem _).2 ⟨r, by simp [hr], .inr rfl⟩⟩
  obtain ⟨f, hf⟩ : ∃ f : Int → List Int, f = fun y => mixF n (rowF l y) (rowF m y) := ⟨_, rfl⟩
  have M : ∀ y, (Up (f y) ∧ (f y).length % 2 = 0 ∧ (∀ x, inX (f y) x = keepF n (inX (rowF l y) x) (inX (rowF m y) x)) ∧ (f y).length ≤ 2 * ((rowF l y).length + (rowF m y).length)) ∧ p_ref1_mixed ((pairsX (rowF l y)).map sp) ((pairsX (rowF m y)).map sp) n = some ((pairsX (f y)).map sp) := fun y => by
    have r1 := (rowF_all xl y).2.1; have r2 := (rowF_all xm y).2.1
    rw [hf]
    exact mixF_all (by omega) (by omega) (rowF_ok xl y).1 (rowF_ok xm y).1 (rowF_ok xl y).2.1 (rowF_ok xm y).2.1
  have hst : combB n l m = stripsB f [] ys := by
    obtain ⟨s1, s2⟩ := strips_cov (f := f) (l := ys) (Q := fun x y => KeepP n (cov l x y) (cov m x y)) (fun a => ⟨(M a).1.1, (M a).1.2.1⟩) H.up (fun x y h => by
      rcases h.or with ⟨r, hr, h1, h2⟩ | ⟨r, hr, h1, h2⟩
      · exact ⟨⟨_, (hml r hr).1, h2.1⟩, _, (hml r hr).2, h2.2⟩
      · exact ⟨⟨_, (hmm r hr).1, h2.1⟩, _, (hmm r hr).2, h2.2⟩) (fun a ha x y hay hc => by
      rw [(M a).1.2.2.1, keepF_iff]
      exact keepP_congr (rowF_cov xl hml hay hc) (rowF_cov xm hmm hay hc))
    exact setB_eq s1 s2
  have hfl : ∀ a, (f a).length < 1000000 := fun a => by
    have r1 := (rowF_all xl a).2.1; have r2 := (rowF_all xm a).2.1; have r3 := (M a).1.2.2.2; omega
  have h2 := C.ev; have h3 := C.many; have h4 := C.len
  rw [combF]
  rw [hst] at h2 h3 h4 ⊢
  refine ok_then ?_
  refine ok_for1 (ys.length - 1) (fun i out => out = (stripsB f [] (ys.take (i + 1))).map rb) ?_ ?_ ?_
  · match ys with
    | [] => rfl
    | [a] => rfl
    | a :: b :: m => rfl
  · rintro i out hi rfl
    have e1 : ((i : Int) + 1).toNat = i + 1 := by omega
    have e2 : ((i : Int) + 1 - 1).toNat = i := by omega
    simp only [e1, e2]
    have hs1 := stripsB_len f (ys.take (i + 1)) []
    have hs2 := stripsB_xs (f := f) (P := fun xs => xs.length < 1000000000000 ∧ xs.length % 2 = 0) (ys.take (i + 1)) [] (fun _ h => nomatch h) (fun a _ => ⟨by have := hfl a; omega, (M a).1.2.1⟩)
    rw [List.length_take] at hs1
    simp only [List.length_nil] at hs1
    have hlt : ys.getD i 0 < ys.getD (i + 1) 0 := by
      rw [getD_in (show i < ys.length by omega), getD_in (show i + 1 < ys.length by omega)]
      exact List.pairwise_iff_getElem.1 H.up i (i + 1) _ _ (by omega)
    have hd : (default : Int) = 0 := rfl
    simp only [hd]
    rw [if_pos (by omega), if_pos (by omega), if_pos (by omega)]
    refine ok_then (o_ref1_row (by omega) xl ?_)
    refine ok_then (o_ref1_row (by omega) xm ?_)
    refine ok_bind_eq (M (ys.getD i 0)).2 ?_
    refine ok_then (o_ref1_stacked_o (s := stripsB f [] (ys.take (i + 1))) (b := ⟨ys.getD i 0, ys.getD (i + 1) 0, f (ys.getD i 0)⟩) (by omega) hs2 (M _).1.2.1 hlt ?_)
    rw [if_pos (by omega)]
    refine ok_some ⟨by simp, ?_⟩
    have t1 : ys.take (i + 1) = ys.take i ++ [ys.getD i 0] := take_snoc (by omega)
    have t2 : ys.take (i + 1 + 1) = ys.take i ++ [ys.getD i 0, ys.getD (i + 1) 0] := by rw [take_snoc (d := 0) (show i + 1 < ys.length by omega), t1]; simp
    rw [t2, stripsB_snoc, t1]
  · rintro out rfl
    dsimp only
    refine ok_if (fun h => by exfalso; omega) (fun _ => ?_)
    refine ok_some ?_
    rw [List.take_of_length_le (by omega)]
    exact ok_then (o_ref1_told (by omega) h2 h3 (ok_some rfl))
theorem o_ref1_combined {l m : List TRect} {n : Int} (hl : rectsFault l = 0) (hm : rectsFault m = 0) {Q_ : _ → Prop} (k_ : Q_ (combF n l m)) : Ok (p_ref1_combined l m n) Q_ := ok_of (t_ref1_combined hl hm) k_
theorem s_ref1_combined {β : Type} {cc_ : Prop} {d_ : Decidable cc_} {l m : List TRect} {n : Int} (hl : cc_ → (rectsFault l = 0)) (hm : cc_ → (rectsFault m = 0)) {e_ : _} {f_ : _ → Option β} {Q_ : β → Prop} (hd : ¬ cc_ → f_ e_ = f_ (combF n l m)) (k_ : Ok (f_ (combF n l m)) Q_) : Ok (Option.bind (@ite _ cc_ d_ (p_ref1_combined l m n) (some e_)) f_) Q_ := ok_short (fun hc__ => t_ref1_combined (hl hc__) (hm hc__)) hd k_
theorem t_ref1_two {l m : List TRect} {n : Int} (hl : l.length < 281474976710656) (hm : m.length < 281474976710656) : p_ref1_two l m n = some (twoF n l m) := by
  apply ok_val
  unfold p_ref1_two
  unfold twoF
  refine ok_then (o_ref1_CheckRegion hl ?_)
  by_cases h : regionFault l = 0
  · rw [if_pos h, if_pos h]
    refine ok_then (o_ref1_CheckRegion hm ?_)
    by_cases h' : regionFault m = 0
    · rw [if_pos h', if_pos h']
      refine ok_then (o_ref1_combined (regionFault_r h) (regionFault_r h') ?_)
      exact ok_then (o_ref1_limited (ok_some rfl))
    · rw [if_neg h', if_neg h']; exact ok_some rfl
  · rw [if_neg h, if_neg h]; exact ok_some rfl
theorem o_ref1_two {l m : List TRect} {n : Int} (hl : l.length < 281474976710656) (hm : m.length < 281474976710656) {Q_ : _ → Prop} (k_ : Q_ (twoF n l m)) : Ok (p_ref1_two l m n) Q_ := ok_of (t_ref1_two hl hm) k_
theorem s_ref1_two {β : Type} {cc_ : Prop} {d_ : Decidable cc_} {l m : List TRect} {n : Int} (hl : cc_ → (l.length < 281474976710656)) (hm : cc_ → (m.length < 281474976710656)) {e_ : _} {f_ : _ → Option β} {Q_ : β → Prop} (hd : ¬ cc_ → f_ e_ = f_ (twoF n l m)) (k_ : Ok (f_ (twoF n l m)) Q_) : Ok (Option.bind (@ite _ cc_ d_ (p_ref1_two l m n) (some e_)) f_) Q_ := ok_short (fun hc__ => t_ref1_two (hl hc__) (hm hc__)) hd k_
theorem t_ref1_Union {l m : List TRect} (hl : l.length < 281474976710656) (hm : m.length < 281474976710656) : p_ref1_Union l m = some (twoF 1 l m) := by
  apply ok_val
  unfold p_ref1_Union
  exact ok_then (o_ref1_two hl hm (ok_some rfl))
theorem o_ref1_Union {l m : List TRect} (hl : l.length < 281474976710656) (hm : m.length < 281474976710656) {Q_ : _ → Prop} (k_ : Q_ (twoF 1 l m)) : Ok (p_ref1_Union l m) Q_ := ok_of (t_ref1_Union hl hm) k_
theorem s_ref1_Union {β : Type} {cc_ : Prop} {d_ : Decidable cc_} {l m : List TRect} (hl : cc_ → (l.length < 281474976710656)) (hm : cc_ → (m.length < 281474976710656)) {e_ : _} {f_ : _ → Option β} {Q_ : β → Prop} (hd : ¬ cc_ → f_ e_ = f_ (twoF 1 l m)) (k_ : Ok (f_ (twoF 1 l m)) Q_) : Ok (Option.bind (@ite _ cc_ d_ (p_ref1_Union l m) (some e_)) f_) Q_ := ok_short (fun hc__ => t_ref1_Union (hl hc__) (hm hc__)) hd k_
theorem t_ref1_Both {l m : List TRect} (hl : l.length < 281474976710656) (hm : m.length < 281474976710656) : p_ref1_Both l m = some (twoF 2 l m) := by
  apply ok_val
  unfold p_ref1_Both
  exact ok_then (o_ref1_two hl hm (ok_some rfl))
theorem o_ref1_Both {l m : List TRect} (hl : l.length < 281474976710656) (hm : m.length < 281474976710656) {Q_ : _ → Prop} (k_ : Q_ (twoF 2 l m)) : Ok (p_ref1_Both l m) Q_ := ok_of (t_ref1_Both hl hm) k_
theorem s_ref1_Both {β : Type} {cc_ : Prop} {d_ : Decidable cc_} {l m : List TRect} (hl : cc_ → (l.length < 281474976710656)) (hm : cc_ → (m.length < 281474976710656)) {e_ : _} {f_ : _ → Option β} {Q_ : β → Prop} (hd : ¬ cc_ → f_ e_ = f_ (twoF 2 l m)) (k_ : Ok (f_ (twoF 2 l m)) Q_) : Ok (Option.bind (@ite _ cc_ d_ (p_ref1_Both l m) (some e_)) f_) Q_ := ok_short (fun hc__ => t_ref1_Both (hl hc__) (hm hc__)) hd k_
theorem t_ref1_Minus {l m : List TRect} (hl : l.length < 281474976710656) (hm : m.length < 281474976710656) : p_ref1_Minus l m = some (twoF 3 l m) := by
  apply ok_val
  unfold p_ref1_Minus
  exact ok_then (o_ref1_two hl hm (ok_some rfl))
theorem o_ref1_Minus {l m : List TRect} (hl : l.length < 281474976710656) (hm : m.length < 281474976710656) {Q_ : _ → Prop} (k_ : Q_ (twoF 3 l m)) : Ok (p_ref1_Minus l m) Q_ := ok_of (t_ref1_Minus hl hm) k_
theorem s_ref1_Minus {β : Type} {cc_ : Prop} {d_ : Decidable cc_} {l m : List TRect} (hl : cc_ → (l.length < 281474976710656)) (hm : cc_ → (m.length < 281474976710656)) {e_ : _} {f_ : _ → Option β} {Q_ : β → Prop} (hd : ¬ cc_ → f_ e_ = f_ (twoF 3 l m)) (k_ : Ok (f_ (twoF 3 l m)) Q_) : Ok (Option.bind (@ite _ cc_ d_ (p_ref1_Minus l m) (some e_)) f_) Q_ := ok_short (fun hc__ => t_ref1_Minus (hl hc__) (hm hc__)) hd k_
theorem t_ref1_Area {l : List TRect} (hl : l.length < 281474976710656) : p_ref1_Area l = some (areaOfF l) := by
  apply ok_val
  unfold p_ref1_Area
  refine ok_then (o_ref1_CheckRegion hl ?_)
  unfold areaOfF
  by_cases h0 : regionFault l = 0
  · rw [if_pos h0, if_pos h0]
    obtain ⟨h1, h2⟩ := rectsFault_0.1 (regionFault_r h0)
    exact ok_then (o_ref1_AreaOf h1 h2 (ok_some rfl))
  · rw [if_neg h0, if_neg h0]; exact ok_some rfl
theorem o_ref1_Area {l : List TRect} (hl : l.length < 281474976710656) {Q_ : _ → Prop} (k_ : Q_ (areaOfF l)) : Ok (p_ref1_Area l) Q_ := ok_of (t_ref1_Area hl) k_
theorem s_ref1_Area {β : Type} {cc_ : Prop} {d_ : Decidable cc_} {l : List TRect} (hl : cc_ → (l.length < 281474976710656)) {e_ : _} {f_ : _ → Option β} {Q_ : β → Prop} (hd : ¬ cc_ → f_ e_ = f_ (areaOfF l)) (k_ : Ok (f_ (areaOfF l)) Q_) : Ok (Option.bind (@ite _ cc_ d_ (p_ref1_Area l) (some e_)) f_) Q_ := ok_short (fun hc__ => t_ref1_Area (hl hc__)) hd k_
theorem row_SetsMatchSpec (a0 a1 : List TRect) (h0 : a0.length < 281474976710656 ∧ ∀ x ∈ a0, okTRect x) (h1 : a1.length < 281474976710656 ∧ ∀ x ∈ a1, okTRect x) : p_law1_SetsMatchSpec a0 a1 = some true := by
  have hl := h0.1
  have hm := h1.1
  have t1 := twoF_len 1 a0 a1
  have t2 := twoF_len 2 a0 a1
  have t3 := twoF_len 3 a0 a1
  apply ok_val
  unfold p_law1_SetsMatchSpec
  refine ok_then (o_shape_Union hl hm ?_)
  refine ok_then (o_ref1_Union hl hm ?_)
  refine ok_then (o_slices_Equal_Rect (by omega) ?_)
  rw [if_neg (by simp)]
  refine ok_then (o_shape_Both hl hm ?_)
  refine ok_then (o_ref1_Both hl hm ?_)
  refine ok_then (o_slices_Equal_Rect (by omega) ?_)
  rw [if_neg (by simp)]
  refine ok_then (o_shape_Minus hl hm ?_)
  refine ok_then (o_ref1_Minus hl hm ?_)
  refine ok_then (o_shape_Area hl ?_)
  refine ok_then (o_ref1_Area hl ?_)
  refine ok_then (o_slices_Equal_Rect (by omega) ?_)
  rw [if_pos (by simp)]
  refine ok_then (o_law1_awake (ok_some ?_))
  simp
end Go.Nw
