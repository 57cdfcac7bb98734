/- The abstract walk, part 14: '==' of structs. -/
import Derived.Test.YtngdglmimlfefaaNwVal
import Derived.Laws.StructEq
namespace Go.Nw
set_option linter.unusedVariables false
set_option linter.unusedSimpArgs false
variable {P : Program}
/-- the size of a type that can be compared cell by cell, from cell o -/
def eqChk (P : Program) (ks : Nat → LK) : Nat → TypeId → Nat → Option Nat
  | 0, _, _ => none
  | d + 1, t, o => match P.underlying t with
    | some .bool => if ks o = .bool then some 1 else none
    | some .string => if ks o = .str then some 1 else none
    | some (.int _) => match ks o with | .int _ => some 1 | _ => none
    | some (.struct fs) => if P.stoodInHeld t = false then fs.toList.foldl (fun (a : Option Nat) f => match a with
        | some c => if f.name ≠ "_" ∧ f.offset = c then (eqChk P ks d f.type (o + c)).bind fun n => if (szT P f.type = n ∧ 0 < n) ∧ (P.info? f.type).isSome then some (c + n) else none else none
        | none => none) (some 0) else none
    | _ => none
/-- a part of the cells -/
def sub (P : Program) (t : TypeId) (xs : Array Value) (o n : Nat) : Value := if aggT P t = true then .agg (xs.extract o (o + n)) else xs.getD o undef
theorem fold_none (fs : List Field) (g : Nat → Field → Option Nat) : fs.foldl (fun (a : Option Nat) f => match a with | some c => g c f | none => none) none = none := by
  induction fs with
  | nil => rfl
  | cons f fs ih => exact ih
theorem run_part_sub {t : TypeId} {xs : Array Value} {o n m c : Nat} {w : World} {D : TypeDesc} (hu : P.underlying t = some D) (hi : (P.info? t).isSome = true) (hs : szT P t = n) (hn : 0 < n) (hx : o + c + n ≤ xs.size) (hm : c + n ≤ m) (ho : o + m ≤ xs.size) :
    (part t (xs.extract o (o + m)) c).run P w = .ok (sub P t xs (o + c) n) w := by
  unfold part sub
  by_cases ha : aggT P t = true
  · have : (isAgg t).run P w = .ok true w := by rw [run_isAgg hu w, ha]
    simp only [Sem.run_bind, this, Result.andThen_ok, if_true, run_sizeOf' hi w, Sem.run_pure, ha]
    congr 2
    rw [Array.extract_extract, hs]
    congr 1 <;> omega
  · have ha' : aggT P t = false := by simpa using ha
    have : (isAgg t).run P w = .ok false w := by rw [run_isAgg hu w, ha']
    have hg : (xs.extract o (o + m))[c]? = some (xs.getD (o + c) undef) := by
      have h2 : o + c < xs.size := by omega
      simp [Array.getElem?_extract, h2]; omega
    simp only [Sem.run_bind, this, Result.andThen_ok, Bool.false_eq_true, if_false, ha', hg, Sem.run_pure]
theorem all_range_add (c n : Nat) (p : Nat → Bool) : (List.range (c + n)).all p = ((List.range c).all p && (List.range n).all fun j => p (c + j)) := by
  rw [Bool.eq_iff_iff]
  simp only [List.all_eq_true, List.mem_range, Bool.and_eq_true]
  constructor
  · exact fun h => ⟨fun j hj => h j (by omega), fun j hj => h (c + j) (by omega)⟩
  · rintro ⟨h1, h2⟩ j hj
    by_cases hc : j < c
    · exact h1 j hc
    · have := h2 (j - c) (by omega)
      rwa [show c + (j - c) = j by omega] at this
theorem valK_bool {x : Value} (h : valK .bool x = true) : ∃ a, x = .bool a := by cases x <;> first | exact ⟨_, rfl⟩ | cases h
theorem valK_str {x : Value} (h : valK .str x = true) : ∃ a, x = .string a := by cases x <;> first | exact ⟨_, rfl⟩ | cases h
theorem valK_int {k : IntKind} {x : Value} (h : valK (.int k) x = true) : ∃ a, x = .int k a := by
  cases x <;> first | (cases h; done) | skip
  rename_i k' a
  have : k' = k := by simpa [valK] using h
  exact ⟨a, by rw [this]⟩
theorem eq_run (ks : Nat → LK) (xs ys : Array Value) (w : World) : ∀ (d : Nat) (t : TypeId) (o n : Nat), eqChk P ks d t o = some n → 0 < n → ∀ D, d ≤ D → o + n ≤ xs.size → o + n ≤ ys.size →
    (∀ j, j < n → valK (ks (o + j)) (xs.getD (o + j) undef) = true ∧ valK (ks (o + j)) (ys.getD (o + j) undef) = true) →
    (Op.equalIn D t (sub P t xs o n) (sub P t ys o n)).run P w = .ok ((List.range n).all fun j => leafE2 (xs.getD (o + j) undef) (ys.getD (o + j) undef)) w
  | 0, t, o, n, h, _, _, _, _, _, _ => by simp [eqChk] at h
  | d + 1, t, o, n, h, hn, 0, hD, _, _, _ => by omega
  | d + 1, t, o, n, h, hn, D + 1, hD, hx, hy, hv => by
    have one : (List.range 1).all (fun j => leafE2 (xs.getD (o + j) undef) (ys.getD (o + j) undef)) = leafE2 (xs.getD o undef) (ys.getD o undef) := by simp [List.range_succ]
    unfold eqChk at h
    split at h
    · rename_i hu
      have ha : aggT P t = false := by simp [aggT, hu]
      split at h
      · rename_i hk; cases h
        have h0 := hv 0 (by omega); rw [Nat.add_zero, hk] at h0
        rw [one]; simp only [sub, ha, Bool.false_eq_true, if_false]
        obtain ⟨a, ha'⟩ := valK_bool h0.1
        obtain ⟨b, hb'⟩ := valK_bool h0.2
        rw [ha', hb']; simp [leafE2, Op.equalIn, run_underlying hu w]
      · cases h
    · rename_i hu
      have ha : aggT P t = false := by simp [aggT, hu]
      split at h
      · rename_i hk; cases h
        have h0 := hv 0 (by omega); rw [Nat.add_zero, hk] at h0
        rw [one]; simp only [sub, ha, Bool.false_eq_true, if_false]
        obtain ⟨a, ha'⟩ := valK_str h0.1
        obtain ⟨b, hb'⟩ := valK_str h0.2
        rw [ha', hb']; simp [leafE2, Op.equalIn, run_underlying hu w]; exact (beq_toListBytes a b).trans (str_eq a b)
      · cases h
    · rename_i hu
      have ha : aggT P t = false := by simp [aggT, hu]
      split at h
      · rename_i k hk; cases h
        have h0 := hv 0 (by omega); rw [Nat.add_zero, hk] at h0
        rw [one]; simp only [sub, ha, Bool.false_eq_true, if_false]
        obtain ⟨a, ha'⟩ := valK_int h0.1
        obtain ⟨b, hb'⟩ := valK_int h0.2
        rw [ha', hb']; simp [leafE2, Op.equalIn, run_underlying hu w]; rfl
      · cases h
    · rename_i fs hu
      have ha : aggT P t = true := by simp [aggT, hu]
      split at h
      · rename_i hst
        have hf : P.fieldsOf t = fs := by simp [Program.fieldsOf, hu]
        simp only [sub, ha, if_true]
        rw [run_equalIn_struct (P := P) w D t _ _ (by rw [hf]; exact hu) hst, hf]
        have key : ∀ (l : List Field) (c m : Nat), l.foldl (fun (a : Option Nat) f => match a with
            | some c => if f.name ≠ "_" ∧ f.offset = c then (eqChk P ks d f.type (o + c)).bind fun n => if (szT P f.type = n ∧ 0 < n) ∧ (P.info? f.type).isSome then some (c + n) else none else none
            | none => none) (some c) = some m → c ≤ m ∧ (m ≤ n → (Op.eqFields D (xs.extract o (o + n)) (ys.extract o (o + n)) l).run P w = .ok ((List.range (m - c)).all fun j => leafE2 (xs.getD (o + (c + j)) undef) (ys.getD (o + (c + j)) undef)) w) := by
          intro l
          induction l with
          | nil => intro c m h; cases h; exact ⟨Nat.le_refl _, fun _ => by simp [Op.eqFields]⟩
          | cons f l ih =>
            intro c m h
            simp only [List.foldl_cons] at h
            split at h
            · rename_i hnm
              cases hq : eqChk P ks d f.type (o + c) with
              | none => rw [hq] at h; simp only [Option.bind_none] at h; rw [fold_none] at h; cases h
              | some q =>
                rw [hq] at h
                simp only [Option.bind_some] at h
                split at h
                · rename_i hsz
                  obtain ⟨h1, h2⟩ := ih (c + q) m h
                  refine ⟨by omega, fun hm => ?_⟩
                  have hu' : ∃ D', P.underlying f.type = some D' := by
                    cases hu' : P.underlying f.type with
                    | some D' => exact ⟨D', rfl⟩
                    | none => cases d <;> simp [eqChk, hu'] at hq
                  obtain ⟨D', hu'⟩ := hu'
                  have e1 := run_part_sub (P := P) (xs := xs) (o := o) (n := q) (m := n) (c := c) (w := w) hu' hsz.2 hsz.1.1 hsz.1.2 (by omega) (by omega) hx
                  have e2 := run_part_sub (P := P) (xs := ys) (o := o) (n := q) (m := n) (c := c) (w := w) hu' hsz.2 hsz.1.1 hsz.1.2 (by omega) (by omega) hy
                  have e3 := eq_run ks xs ys w d f.type (o + c) q hq hsz.1.2 D (by omega) (by omega) (by omega) fun j hj => by
                    have := hv (c + j) (by omega); rwa [← Nat.add_assoc] at this
                  have e4 := h2 hm
                  rw [show m - c = q + (m - (c + q)) by omega, all_range_add]
                  rw [Op.eqFields, if_pos hnm.1, hnm.2]
                  simp only [Sem.run_bind, e1, e2, e3, Result.andThen_ok]
                  have e5 : ((List.range q).all fun j => leafE2 (xs.getD (o + (c + j)) undef) (ys.getD (o + (c + j)) undef)) = (List.range q).all fun j => leafE2 (xs.getD (o + c + j) undef) (ys.getD (o + c + j) undef) := by simp only [Nat.add_assoc]
                  rw [e5]
                  cases (List.range q).all fun j => leafE2 (xs.getD (o + c + j) undef) (ys.getD (o + c + j) undef) with
                  | false => simp
                  | true => simp only [Bool.not_true, Bool.false_eq_true, if_false, Bool.true_and]; rw [e4]; simp only [Nat.add_assoc]
                · rw [fold_none] at h; cases h
            · rw [fold_none] at h; cases h
        have := (key fs.toList 0 n h).2 (Nat.le_refl _)
        rw [this]; simp only [Nat.zero_add, Nat.sub_zero]
      · cases h
    · cases h
theorem eqOk_of {t : TypeId} {n : Nat} {ks : Nat → LK} (hu : (match P.underlying t with | some (.struct _) => true | _ => false) = true) (hc : eqChk P ks Op.maxDepth t 0 = some n) (hn : 0 < n) (hg : P.eqGuardType P.depth t = false) : EqOk P t n ks := by
  intro xs ys w hx hy hv
  have ha : aggT P t = true := by
    unfold aggT
    split at hu
    · rename_i h; rw [h]
    · cases hu
  have h := eq_run (P := P) ks xs ys w Op.maxDepth t 0 n hc hn Op.maxDepth (Nat.le_refl _) (by omega) (by omega) (by simpa using hv)
  simp only [sub, ha, if_true, Nat.zero_add] at h
  rw [← hx] at h
  rw [show xs.extract 0 xs.size = xs by simp, show ys.extract 0 xs.size = ys by rw [hx, ← hy]; simp, hx] at h
  have hgd : (eqGuard .eql t (.tmp 0) (.tmp 1) (.agg xs) (.agg ys)).run P w = .ok () w := by
    simp [eqGuard, hg]
  rw [Sem.run_bind, hgd]
  exact h
end Go.Nw
