/- The named walk, part 5: new blocks, stores. -/
import Derived.Test.YtngdglmimlfefaaNwPureA
import Derived.Laws.CopyRow
namespace Go.Nw
set_option linter.unusedVariables false
set_option linter.unusedSimpArgs false
variable {P : Program} {I : Nat → Prop} {μ : Where} {σ : Heap} {w : World} {e : Operand → AVal} {ρ : Operand → Value}

theorem rget_append : ∀ (a b : Rows) (k : Key), rget (a ++ b) k = (rget a k).or (rget b k)
  | [], b, k => rfl
  | (j, e) :: a, b, k => by
    simp only [List.cons_append, rget]
    split
    · rw [rget_append a b k, Option.or_assoc]
    · exact rget_append a b k
theorem ent_set_get (e : Ent) (i j : Nat) (r : Row) : (e.set i r).get j = if j = i ∧ e.get i ≠ none then some r else e.get j := by
  cases e with
  | one q =>
    simp only [Ent.set, Ent.get]
    by_cases hj : j = 0
    · subst hj
      by_cases hi : i = 0
      · subst hi; simp
      · simp [hi, Ne.symm hi]
    · by_cases hi : i = 0
      · simp [hi, hj]
      · simp [hi, hj]
  | fam f => by_cases h : j = i ∧ f i ≠ none <;> simp [Ent.set, Ent.get, h]
theorem rset_get : ∀ (σ : Rows) (k k' : Key) (r : Row), rget (rset σ k r) k' = if k' = k ∧ rget σ k ≠ none then some r else rget σ k'
  | [], k, k', r => by simp [rset, rget]
  | (j, e) :: σ, k, k', r => by
    simp only [rset]
    by_cases hk : k.1 = j
    · rw [if_pos hk]
      simp only [rget, rset_get σ k k' r, ent_set_get, if_pos hk]
      by_cases hk' : k' = k
      · subst hk'
        rw [if_pos hk]
        by_cases h1 : e.get k'.2 = none
        · simp [h1]
        · obtain ⟨q, hq⟩ := Option.ne_none_iff_exists'.1 h1
          simp [hq]
      · by_cases hj' : k'.1 = j
        · have h2 : ¬ k'.2 = k.2 := fun h => hk' (Prod.ext (hj'.trans hk.symm) h)
          simp [hj', hk', h2]
        · simp [hj', hk']
    · rw [if_neg hk]
      simp only [rget, rset_get σ k k' r, if_neg hk]
      by_cases hj' : k'.1 = j
      · have : ¬ k' = k := by rintro rfl; exact hk hj'
        simp [hj', this]
      · simp [hj']
theorem rdel_get : ∀ (σ : Rows) (k k' : Key), rget (rdel σ k) k' = if k' = k then none else rget σ k'
  | [], k, k' => by simp [rdel, rget]
  | (j, e) :: σ, k, k' => by
    simp only [rdel]
    by_cases hk : k.1 = j
    · rw [if_pos hk, rget_append, rdel_get σ k k']
      by_cases hk' : k' = k
      · subst hk'
        rw [if_pos rfl, if_pos rfl]
        cases e with
        | one r => simp only [Ent.del]; split <;> simp_all [rget, Ent.get]
        | fam f => simp [Ent.del, rget, Ent.get]
      · rw [if_neg hk', if_neg hk']
        by_cases hj' : k'.1 = j
        · have h2 : ¬ k'.2 = k.2 := fun h => hk' (Prod.ext (hj'.trans hk.symm) h)
          cases e with
          | one r =>
            simp only [Ent.del, rget, if_pos hj', Ent.get]
            by_cases h0 : k.2 = 0
            · rw [h0] at h2; simp [h0, h2, rget]
            · simp [h0, rget, Ent.get, hj']
          | fam f => simp [Ent.del, rget, Ent.get, hj', h2]
        · cases e with
          | one r => simp only [Ent.del]; split <;> simp [rget, hj']
          | fam f => simp [Ent.del, rget, hj']
    · rw [if_neg hk]
      simp only [rget, rdel_get σ k k']
      by_cases hk' : k' = k
      · subst hk'; simp [hk]
      · simp [hk']
theorem get_set (σ : Heap) (k k' : Key) (r : Row) : (σ.set k r).get k' = if k' = k ∧ σ.get k ≠ none then some r else σ.get k' := rset_get σ.rows k k' r
theorem get_del (σ : Heap) (k k' : Key) : (σ.del k).get k' = if k' = k then none else σ.get k' := rdel_get σ.rows k k'
theorem get_bump (σ : Heap) (n : Nat) (k : Key) : (σ.bump n).get k = σ.get k := rfl
theorem get_put (σ : Heap) (p : Nat) (r : Row) (k : Key) : (σ.put p r).get k = if k = (p, 0) then some r else σ.get k := by
  simp only [Heap.put, Heap.get, rget, Ent.get]
  by_cases h1 : k.1 = p
  · by_cases h2 : k.2 = 0
    · have : k = (p, 0) := Prod.ext h1 h2
      simp [this]
    · have : ¬ k = (p, 0) := by rintro rfl; exact h2 rfl
      simp [h1, h2, this]
  · have : ¬ k = (p, 0) := by rintro rfl; exact h1 rfl
    simp [h1, this]

/-- where one more row lies -/
def Where.upd (μ : Where) (k : Key) (x : Option (Nat × Nat)) : Where := fun q => if q = k then some x else μ q
theorem upd_le {k : Key} {x : Option (Nat × Nat)} (h : μ k = none) : μ.le (μ.upd k x) := fun q y hq => by
  unfold Where.upd
  rw [if_neg (by rintro rfl; rw [h] at hq; cases hq)]; exact hq
theorem upd_self (μ : Where) (k : Key) (x : Option (Nat × Nat)) : μ.upd k x k = some x := by simp [Where.upd]
theorem upd_ne {k q : Key} {x : Option (Nat × Nat)} (h : q ≠ k) : μ.upd k x q = μ q := by simp [Where.upd, h]
theorem Inv.new_none (hinv : Inv I μ σ w) (i : Nat) : μ (σ.nx, i) = none := by
  cases h : μ (σ.nx, i) with
  | none => rfl
  | some x => have := hinv.nm (σ.nx, i) (by simp [h]); omega
theorem Inv.get_none (hinv : Inv I μ σ w) (i : Nat) : σ.get (σ.nx, i) = none := by
  cases h : σ.get (σ.nx, i) with
  | none => rfl
  | some r => obtain ⟨x, hx, -⟩ := hinv.row _ _ h; rw [hinv.new_none] at hx; cases hx
theorem Inv.bump (hinv : Inv I μ σ w) (n : Nat) : Inv I μ (σ.bump n) w :=
  ⟨hinv.imm, hinv.row, hinv.inj, fun k hk => Nat.lt_of_lt_of_le (hinv.nm k hk) (Nat.le_add_right _ _)⟩
theorem Inv.lt (hinv : Inv I μ σ w) {b : Nat} (h : Blk μ σ b) : b < w.heap.size := by
  obtain ⟨k, C, h1, h2⟩ := h
  obtain ⟨r, hr⟩ := Option.ne_none_iff_exists'.1 h1
  obtain ⟨x, hx, h3⟩ := hinv.row k r hr
  rw [h2] at hx; cases hx
  obtain ⟨cs, ty, hh, -⟩ := h3
  exact (Array.getElem?_eq_some_iff.1 hh).1
theorem Ext.refl (I B : Nat → Prop) (w : World) : Ext I I B B w w := ⟨rfl, rfl, rfl, Nat.le_refl _, fun _ _ _ => rfl, fun _ h => h, fun _ h => .inl h, fun _ h => .inl h, Nat.le_refl _⟩
theorem Ext.trans {I I' I'' B B' B'' : Nat → Prop} {w w' w'' : World} (h : Ext I I' B B' w w') (k : Ext I' I'' B' B'' w' w'') : Ext I I'' B B'' w w'' where
  os := k.os.trans h.os
  tape := k.tape.trans h.tape
  drawn := Nat.le_trans h.drawn k.drawn
  output := k.output.trans h.output
  size := Nat.le_trans h.size k.size
  old := fun b hb hs => by
    have h1 := h.old b hb hs
    have h2 : ¬ B' b := fun hq => by rcases h.row b hq with h' | h' <;> first | exact hs h' | omega
    rw [k.old b (Nat.lt_of_lt_of_le hb h.size) h2, h1]
  imm := fun b hb => k.imm b (h.imm b hb)
  imm' := fun b hb => by
    rcases k.imm' b hb with h' | h' | h'
    · exact h.imm' b h'
    · exact .inr (.inl (Nat.le_trans h.size h'))
    · rcases h.row b h' with h' | h'
      · exact .inr (.inr h')
      · exact .inr (.inl h')
  row := fun b hb => by
    rcases k.row b hb with h' | h'
    · exact h.row b h'
    · exact .inr (Nat.le_trans h.size h')
/-- what is immutable stays -/
theorem Ext.keep {I' B' : Nat → Prop} {w' : World} (h : Ext I I' (Blk μ σ) B' w w') (hinv : Inv I μ σ w) : ∀ b, I b → w'.heap[b]? = w.heap[b]? :=
  fun b hb => h.old b (hinv.imm b hb).1 (hinv.imm b hb).2
theorem VR_ext {I' B' : Nat → Prop} {μ' : Where} {w' : World} (h : Ext I I' (Blk μ σ) B' w w') (hm : μ.le μ') (hinv : Inv I μ σ w) {v : AVal} {x : Value} (hv : VR I μ w v x) : VR I' μ' w' v x :=
  VR_mono h.imm hm (h.keep hinv) v x hv

/-- A block of cells is laid. -/
theorem push_row {cells : Array Value} {ty : TypeId} {r : Row} {C p : Nat} (hinv : Inv I μ σ w) (hp : μ (p, 0) = none) (hlt : p < σ.nx) (h1 : r.l.length ≤ C) (h2 : C * r.sz ≤ cells.size) (h3 : ∀ i (h : i < r.l.length), LR I μ w r.l[i] r.sz fun j => cells[i * r.sz + j]?) :
    Inv I (μ.upd (p, 0) (some (w.heap.size, C))) (σ.put p r) { w with heap := w.heap.push (.cells cells ty) } ∧
    Ext I I (Blk μ σ) (Blk (μ.upd (p, 0) (some (w.heap.size, C))) (σ.put p r)) w { w with heap := w.heap.push (.cells cells ty) } ∧ μ.to p (μ.upd (p, 0) (some (w.heap.size, C))) := by
  have hold : ∀ b, b < w.heap.size → (w.heap.push (.cells cells ty))[b]? = w.heap[b]? := fun b hb => by rw [Array.getElem?_push, if_neg (by omega)]
  have hkeep : ∀ b, I b → ({ w with heap := w.heap.push (.cells cells ty) } : World).heap[b]? = w.heap[b]? := fun b hb => hold b (hinv.imm b hb).1
  have hle := upd_le (x := some (w.heap.size, C)) (hp)
  have hblk : ∀ b, Blk (μ.upd (p, 0) (some (w.heap.size, C))) (σ.put p r) b → Blk μ σ b ∨ b = w.heap.size := by
    rintro b ⟨k, C', hg, hk⟩
    by_cases hkn : k = (p, 0)
    · subst hkn; rw [upd_self] at hk; cases hk; exact .inr rfl
    · rw [upd_ne hkn] at hk; rw [get_put, if_neg hkn] at hg; exact .inl ⟨k, C', hg, hk⟩
  refine ⟨⟨fun b hb => ?_, fun k r' hr => ?_, fun k k' b C1 C2 hg hg' hk hk' => ?_, fun k hk => ?_⟩, ⟨rfl, rfl, rfl, by simp, fun b hb _ => hold b hb, fun _ h => h, fun _ h => .inl h, fun b hb => ?_, Nat.le_refl _⟩, hle, fun k hk => upd_ne (by rintro rfl; exact hk rfl)⟩
  · obtain ⟨h4, h5⟩ := hinv.imm b hb
    refine ⟨by simp; omega, fun h => ?_⟩
    rcases hblk b h with h | h
    · exact h5 h
    · omega
  · rw [get_put] at hr
    by_cases hk : k = (p, 0)
    · rw [if_pos hk] at hr
      cases hr
      subst hk
      refine ⟨_, upd_self _ _ _, cells, ty, by simp, h1, h2, fun i hi => LR_mono (fun _ h => h) hkeep _ _ _ hle _ _ _ (fun _ _ => rfl) (h3 i hi)⟩
    · rw [if_neg hk] at hr
      obtain ⟨x, hx, hrow⟩ := hinv.row k r' hr
      refine ⟨x, hle _ _ hx, ?_⟩
      cases x with
      | none => exact hrow
      | some p =>
        obtain ⟨cs, ty', hh, h4, h5, h6⟩ := hrow
        exact ⟨cs, ty', by rw [show ({ w with heap := w.heap.push (.cells cells ty) } : World).heap[p.1]? = _ from hold p.1 (hinv.lt ⟨k, p.2, by simp [hr], hx⟩)]; exact hh, h4, h5, fun i hi => LR_mono (fun _ h => h) hkeep _ _ _ hle _ _ _ (fun _ _ => rfl) (h6 i hi)⟩
  · rw [get_put] at hg hg'
    by_cases h : k = (p, 0)
    · by_cases h' : k' = (p, 0)
      · rw [h, h']
      · rw [if_neg h'] at hg'
        rw [upd_ne h'] at hk'
        subst h
        rw [upd_self] at hk; cases hk
        have := hinv.lt ⟨k', C2, hg', hk'⟩; omega
    · rw [if_neg h] at hg
      rw [upd_ne h] at hk
      by_cases h' : k' = (p, 0)
      · subst h'
        rw [upd_self] at hk'; cases hk'
        have := hinv.lt ⟨k, C1, hg, hk⟩; omega
      · rw [if_neg h'] at hg'
        rw [upd_ne h'] at hk'
        exact hinv.inj k k' b C1 C2 hg hg' hk hk'
  · by_cases h : k = (p, 0)
    · subst h; exact hlt
    · rw [upd_ne h] at hk; exact hinv.nm k hk
  · rcases hblk b hb with h | h
    · exact .inl h
    · exact .inr (by omega)
/-- A row that lies nowhere yet. -/
theorem push_nil {sz p : Nat} {d : AVal} (hinv : Inv I μ σ w) (hp : μ (p, 0) = none) (hlt : p < σ.nx) : Inv I (μ.upd (p, 0) none) (σ.put p ⟨sz, d, []⟩) w ∧ Ext I I (Blk μ σ) (Blk (μ.upd (p, 0) none) (σ.put p ⟨sz, d, []⟩)) w w ∧ μ.to p (μ.upd (p, 0) none) := by
  have hle := upd_le (x := none) (hp)
  have hblk : ∀ b, Blk (μ.upd (p, 0) none) (σ.put p ⟨sz, d, []⟩) b → Blk μ σ b := by
    rintro b ⟨k, C', hg, hk⟩
    by_cases hkn : k = (p, 0)
    · subst hkn; rw [upd_self] at hk; cases hk
    · rw [upd_ne hkn] at hk; rw [get_put, if_neg hkn] at hg; exact ⟨k, C', hg, hk⟩
  have hne : ∀ k b C, μ.upd (p, 0) none k = some (some (b, C)) → k ≠ (p, 0) := by rintro k b C h rfl; rw [upd_self] at h; cases h
  refine ⟨⟨fun b hb => ⟨(hinv.imm b hb).1, fun h => (hinv.imm b hb).2 (hblk b h)⟩, fun k r' hr => ?_, fun k k' b C1 C2 hg hg' hk hk' => ?_, fun k hk => ?_⟩, ⟨rfl, rfl, rfl, Nat.le_refl _, fun b hb _ => rfl, fun _ h => h, fun _ h => .inl h, fun b hb => .inl (hblk b hb), Nat.le_refl _⟩, hle, fun k hk => upd_ne (by rintro rfl; exact hk rfl)⟩
  · rw [get_put] at hr
    by_cases hk : k = (p, 0)
    · rw [if_pos hk] at hr
      cases hr
      subst hk
      exact ⟨_, upd_self _ _ _, rfl⟩
    · rw [if_neg hk] at hr
      obtain ⟨x, hx, hrow⟩ := hinv.row k r' hr
      refine ⟨x, hle _ _ hx, ?_⟩
      cases x with
      | none => exact hrow
      | some p =>
        obtain ⟨cs, ty', hh, h4, h5, h6⟩ := hrow
        exact ⟨cs, ty', hh, h4, h5, fun i hi => LR_mono (fun _ h => h) (fun _ _ => rfl) _ _ _ hle _ _ _ (fun _ _ => rfl) (h6 i hi)⟩
  · have h := hne _ _ _ hk
    have h' := hne _ _ _ hk'
    rw [get_put, if_neg h] at hg
    rw [get_put, if_neg h'] at hg'
    rw [upd_ne h] at hk
    rw [upd_ne h'] at hk'
    exact hinv.inj k k' b C1 C2 hg hg' hk hk'
  · by_cases h : k = (p, 0)
    · subst h; exact hlt
    · rw [upd_ne h] at hk; exact hinv.nm k hk

theorem elems_at {ps : List (Nat × Operand)} {sz : Nat} : ∀ (i : Nat), elemsOk sz (ps.map fun p => e p.2) → (∀ p ∈ ps, VR I μ w (e p.2) (ρ p.2)) → ∀ h : i < ps.length,
    (e ps[i].2).cells = sz ∧ (e ps[i].2).known = true ∧ VR I μ w (e ps[i].2) (ρ ps[i].2) := by
  induction ps with
  | nil => intro i _ _ h; simp at h
  | cons p ps ih =>
    rintro i ⟨h1, h2⟩ hv h
    cases i with
    | zero => exact ⟨h1.2, h1.1, hv p (by simp)⟩
    | succ i => exact ih i h2 (fun q hq => hv q (by simp [hq])) (by simpa using h)
theorem LR_of_parts {v : AVal} {c : Nat → Option Value} (hk : v.known = true) (h : ∀ j < v.cells, (v.part j 1 false).leaf = true ∧ LR I μ w (v.part j 1 false) 1 fun _ => c j) : LR I μ w v v.cells c := by
  by_cases hl : v.leaf = true
  · have hn : v.cells = 1 := by cases v <;> first | rfl | simp [AVal.leaf] at hl
    have h0 := (h 0 (by omega)).2
    have hp : v.part 0 1 false = v := by cases v <;> first | rfl | simp [AVal.leaf] at hl
    rw [hp] at h0
    rw [hn]
    exact LR_to (fun j hj => by rw [show j = 0 by omega]) h0
  · cases v with
    | aggF n f => exact ⟨rfl, fun j hj => h j hj⟩
    | tupF n f => simp [AVal.known] at hk
    | when g u => simp [AVal.known] at hk
    | _ => exact absurd rfl hl
theorem fold_elems {sz j q : Nat} {i : Nat} (hj : j = i * sz + q) (hq : q < sz) : ∀ (vs : List AVal) (k : Nat) (a : AVal),
    (((List.range' k vs.length).zip vs).foldl (fun (a : AVal) (p : Nat × AVal) => if p.1 * sz ≤ j ∧ j < p.1 * sz + sz then p.2.part (j - p.1 * sz) 1 false else a) a) = if k ≤ i ∧ i < k + vs.length then (lst vs (i - k)).part q 1 false else a
  | [], k, a => by simp; omega
  | v :: vs, k, a => by
    simp only [List.length_cons, List.range'_succ, List.zip_cons_cons, List.foldl_cons]
    rw [fold_elems hj hq vs (k + 1)]
    have hcond : (k * sz ≤ j ∧ j < k * sz + sz) ↔ i = k := by
      subst hj
      constructor
      · rintro ⟨h1, h2⟩
        rcases Nat.lt_trichotomy i k with h | h | h
        · have : (i + 1) * sz ≤ k * sz := Nat.mul_le_mul_right _ h
          rw [Nat.add_mul] at this; omega
        · exact h
        · have : (k + 1) * sz ≤ i * sz := Nat.mul_le_mul_right _ h
          rw [Nat.add_mul] at this; omega
      · rintro rfl; omega
    by_cases hik : i = k
    · subst hik
      rw [if_neg (by omega), if_pos (hcond.2 rfl), if_pos (by omega), Nat.sub_self, hj, Nat.add_sub_cancel_left]; rfl
    · rw [if_neg (fun h => hik (hcond.1 h))]
      by_cases hin : k + 1 ≤ i ∧ i < k + 1 + vs.length
      · rw [if_pos hin, if_pos (by omega), show i - k = (i - (k + 1)) + 1 by omega]; rfl
      · rw [if_neg hin, if_neg (by omega)]


/-- A row of the heap is written in memory. -/
theorem put_row {k : Key} {b C : Nat} {r r' : Row} {cs cs' : Array Value} {ty : TypeId} {w' : World} (hinv : Inv I μ σ w) (hr : σ.get k = some r) (hk : μ k = some (some (b, C))) (hh : w.heap[b]? = some (.cells cs ty (0, 0)))
    (hw : w' = { w with heap := w.heap.setIfInBounds b (.cells cs' ty (0, 0)) }) (h1 : r'.l.length ≤ C) (h2 : C * r'.sz ≤ cs'.size) (h3 : ∀ i (h : i < r'.l.length), LR I μ w r'.l[i] r'.sz fun j => cs'[i * r'.sz + j]?) :
    Inv I μ (σ.set k r') w' ∧ Ext I I (Blk μ σ) (Blk μ (σ.set k r')) w w' := by
  have hB : Blk μ σ b := ⟨k, C, by simp [hr], hk⟩
  have hb : b < w.heap.size := hinv.lt hB
  have hold : ∀ q, q ≠ b → w'.heap[q]? = w.heap[q]? := fun q hq => by rw [hw]; exact Array.getElem?_setIfInBounds_ne (fun h => hq h.symm)
  have hkeep : ∀ q, I q → w'.heap[q]? = w.heap[q]? := fun q hq => hold q (by rintro rfl; exact (hinv.imm q hq).2 hB)
  have hg := fun k' => get_set σ k k' r'
  have hsz : w'.heap.size = w.heap.size := by rw [hw]; simp
  have hnone : ∀ q, (σ.set k r').get q ≠ none → σ.get q ≠ none := fun q hq => by
    rw [hg] at hq
    by_cases h : q = k
    · subst h; simp [hr]
    · rw [if_neg (fun h' => h h'.1)] at hq; exact hq
  have hblk : ∀ q, Blk μ (σ.set k r') q → Blk μ σ q := fun q ⟨k', C', h, h'⟩ => ⟨k', C', hnone k' h, h'⟩
  refine ⟨⟨fun q hq => ⟨by rw [hsz]; exact (hinv.imm q hq).1, fun h => (hinv.imm q hq).2 (hblk q h)⟩, fun k' r'' hq => ?_, fun k1 k2 b' C1 C2 a1 a2 a3 a4 => hinv.inj k1 k2 b' C1 C2 (hnone _ a1) (hnone _ a2) a3 a4, hinv.nm⟩,
    ⟨by rw [hw], by rw [hw], by rw [hw], by omega, fun q hq hs => hold q (by rintro rfl; exact hs hB), fun _ h => h, fun _ h => .inl h, fun q hq => .inl (hblk q hq), by rw [hw]; exact Nat.le_refl _⟩⟩
  rw [hg] at hq
  by_cases hqk : k' = k
  · subst hqk
    rw [if_pos ⟨rfl, by simp [hr]⟩] at hq
    cases hq
    refine ⟨_, hk, cs', ty, ?_, h1, h2, fun i hi => LR_mono (fun _ h => h) hkeep _ _ _ (Where.le_refl μ) _ _ _ (fun _ _ => rfl) (h3 i hi)⟩
    rw [hw]; exact Array.getElem?_setIfInBounds_self_of_lt hb
  · rw [if_neg (fun h => hqk h.1)] at hq
    obtain ⟨x, hx, hrow⟩ := hinv.row k' r'' hq
    refine ⟨x, hx, ?_⟩
    cases x with
    | none => exact hrow
    | some p =>
      obtain ⟨ds, ty', h4, h5, h6, h7⟩ := hrow
      have hpb : p.1 ≠ b := by
        intro h
        obtain ⟨p1, p2⟩ := p
        simp only at h; subst h
        exact hqk (hinv.inj k' k p1 p2 C (by simp [hq]) (by simp [hr]) hx hk)
      exact ⟨ds, ty', by rw [hold p.1 hpb]; exact h4, h5, h6, fun i hi => LR_mono (fun _ h => h) hkeep _ _ _ (Where.le_refl μ) _ _ _ (fun _ _ => rfl) (h7 i hi)⟩

/-- a part of what lies in memory, written -/
theorem LR_put {v x : AVal} {m o xn : Nat} {c c' : Nat → Option Value} {xs : Array Value} (h : LR I μ w v m c) (hp : putOk v o x) (hk : x.known = true) (hxn : x.cells = xn) (hx : LR I μ w x xn fun j => xs[j]?)
    (hc : ∀ j < m, c' j = if o ≤ j ∧ j < o + xn then xs[j - o]? else c j) : LR I μ w (putPart v o x) m c' ∧ o + xn ≤ m := by
  have hleaf1 : ∀ (x : AVal), x.leaf = true → x.cells = 1 := fun x hl => by cases x <;> first | rfl | simp [AVal.leaf] at hl
  cases v with
  | aggF n f =>
    obtain ⟨hmn, hf⟩ := h
    subst hmn
    have hp' : o + xn ≤ m := by rw [← hxn]; exact hp
    refine ⟨?_, hp'⟩
    by_cases hl : x.leaf = true
    · have h1 : xn = 1 := hxn ▸ hleaf1 x hl
      have he : putPart (.aggF m f) o x = .aggF m (fun j => if j = o then x else f j) := by cases x <;> first | rfl | simp [AVal.leaf] at hl
      rw [he]
      refine ⟨rfl, fun j hj => ?_⟩
      by_cases hj' : j = o
      · simp only [hj', if_pos]
        refine ⟨hl, ?_⟩
        rw [h1] at hx
        exact LR_to (fun q hq => by rw [hc o (by omega), if_pos (by omega)]; simp [show q = 0 by omega]) hx
      · simp only [if_neg hj']
        exact ⟨(hf j hj).1, LR_to (fun q hq => by rw [hc j hj, if_neg (by omega)]) (hf j hj).2⟩
    · cases x with
      | aggF m2 g =>
        obtain ⟨h5, hg⟩ := hx
        subst h5
        simp only [putPart]
        by_cases hw : o = 0 ∧ xn = m
        · obtain ⟨ho, hm⟩ := hw
          subst ho hm
          rw [if_pos ⟨rfl, rfl⟩]
          exact ⟨rfl, fun j hj => ⟨(hg j hj).1, LR_to (fun q hq => by rw [hc j hj, if_pos (by omega)]; rfl) (hg j hj).2⟩⟩
        · rw [if_neg hw]
          refine ⟨rfl, fun j hj => ?_⟩
          by_cases hj' : o ≤ j ∧ j < o + xn
          · simp only [if_pos hj']
            exact ⟨(hg (j - o) (by omega)).1, LR_to (fun q hq => by rw [hc j hj, if_pos hj']) (hg (j - o) (by omega)).2⟩
          · simp only [if_neg hj']
            exact ⟨(hf j hj).1, LR_to (fun q hq => by rw [hc j hj, if_neg hj']) (hf j hj).2⟩
      | tupF m g => simp [AVal.known] at hk
      | when g u => simp [AVal.known] at hk
      | _ => exact absurd rfl hl
  | tupF n f => exact h.elim
  | when g u => exact h.elim
  | undef => exact False.elim hp
  | _ =>
    obtain ⟨rfl, hl⟩ := hp
    have h1 : xn = 1 := hxn ▸ hleaf1 x hl
    have hm := h.1; subst hm
    refine ⟨?_, by omega⟩
    have he : ∀ (u : AVal), (∀ n f, u ≠ .aggF n f) → putPart u 0 x = x := fun u hu => by cases u <;> first | rfl | exact absurd rfl (hu _ _)
    rw [he _ (by intros; simp)]
    rw [h1] at hx
    exact LR_to (fun q hq => by rw [hc q hq, if_pos (by omega)]; rfl) hx

/-- cells, written into a block -/
def layAt (cs : Array Value) (o : Nat) (vs : List Value) : Array Value := (cs.toList.take o ++ vs ++ cs.toList.drop (o + vs.length)).toArray
theorem layAt_get {cs : Array Value} {o : Nat} {vs : List Value} (h : o + vs.length ≤ cs.size) (j : Nat) : (layAt cs o vs)[j]? = if o ≤ j ∧ j < o + vs.length then vs[j - o]? else cs[j]? := by
  have hlen : (cs.toList.take o).length = o := by simp; omega
  simp only [layAt, List.getElem?_toArray]
  by_cases h1 : j < o
  · rw [if_neg (by omega), List.append_assoc, List.getElem?_append_left (by omega), List.getElem?_take_of_lt h1]; simp
  · by_cases h2 : j < o + vs.length
    · rw [if_pos ⟨by omega, h2⟩, List.append_assoc, List.getElem?_append_right (by omega), hlen, List.getElem?_append_left (by omega)]
    · rw [if_neg (by omega), List.getElem?_append_right (by simp; omega)]
      simp only [List.length_append, hlen, List.getElem?_drop]
      rw [show o + vs.length + (j - (o + vs.length)) = j by omega]; simp
theorem layAt_size {cs : Array Value} {o : Nat} {vs : List Value} (h : o + vs.length ≤ cs.size) : (layAt cs o vs).size = cs.size := by
  simp [layAt]; omega
theorem run_storeRow {b o : Nat} {cs : Array Value} {ty : TypeId} {vs : List Value} (hh : w.heap[b]? = some (.cells cs ty (0, 0)))
    (ho : o + vs.length ≤ cs.size) (h1 : ∀ x ∈ vs, x.oneCell' = true) :
    (storeCells ⟨b, o, none⟩ vs).run P w = .ok () { w with heap := w.heap.setIfInBounds b (.cells (layAt cs o vs) ty (0, 0)) } := by
  have hst := run_storeCells_at (P := P) b o ty vs 0 cs w hh (by simpa using ho) h1
  rw [hst]
  simp only [Nat.add_zero]
  congr 1
  simp only [World.setRow, layAt]
  congr 1
  apply Array.ext_getElem?
  intro q
  simp only [Array.getElem?_modify, Array.getElem?_setIfInBounds]
  have hb : b < w.heap.size := (Array.getElem?_eq_some_iff.1 hh).1
  by_cases hq : b = q
  · subst hq; rw [if_pos rfl, if_pos rfl, hh, if_pos hb]; rfl
  · simp [hq]
theorem run_storeVar {t : TypeId} {b o : Nat} {cs : Array Value} {ty : TypeId} {v : Value} (hi : (P.info? t).isSome = true) (hh : w.heap[b]? = some (.cells cs ty (0, 0))) (hn : v.cells.size = szT P t)
    (ho : o + v.cells.size ≤ cs.size) (h1 : ∀ x ∈ v.cells.toList, x.oneCell' = true) :
    (storeVar t ⟨b, o, none⟩ v).run P w = .ok () { w with heap := w.heap.setIfInBounds b (.cells (layAt cs o v.cells.toList) ty (0, 0)) } := by
  have hst := run_storeRow (P := P) (w := w) (vs := v.cells.toList) hh (by simpa using ho) h1
  simp only [storeVar, Sem.run_bind, run_sizeOf' hi, Result.andThen_ok, hn, ne_eq, not_true_eq_false, if_false, hst]

theorem store_sound {t : TypeId} {x y : Operand} (hok : loadOk P t = true) (hx : VR I μ w (e x) (ρ x)) (hy : VR I μ w (e y) (ρ y)) (hinv : Inv I μ σ w) (hc : (storeF (szT P t) σ (e x) (e y)).1) :
    ∃ w', (Instr.storeAt t (ρ x) (ρ y)).run P w = .ok () w' ∧ Inv I μ (storeF (szT P t) σ (e x) (e y)).2 w' ∧ Ext I I (Blk μ σ) (Blk μ (storeF (szT P t) σ (e x) (e y)).2) w w' := by
  generalize e x = v at *
  generalize e y = u at *
  cases v with
  | ptr k sz i o =>
    obtain ⟨-, b, C, hk, hb⟩ := hx
    have hb := Option.some.inj hb
    simp only [storeF, storeR] at hc ⊢
    cases hr : σ.get k with
    | none => simp [hr] at hc
    | some r =>
      simp only [hr] at hc ⊢
      obtain ⟨⟨⟨h1, rfl⟩, h3⟩, h4, h5⟩ := hc
      obtain ⟨xx, hxx, hrow⟩ := hinv.row k r hr
      rw [hk] at hxx; cases hxx
      obtain ⟨cs, ty, hh, h6, h7, hl⟩ := hrow
      have hgi : r.l.getD i r.d = r.l[i] := by simp [h1]
      rw [hgi] at h3 ⊢
      obtain ⟨hv1, hv2⟩ := VR_cells h5 hy
      rw [h4] at hv1 hv2
      have hle : (i + 1) * r.sz ≤ C * r.sz := Nat.mul_le_mul_right _ (by omega)
      rw [Nat.add_mul, Nat.one_mul] at hle
      have hlen : (ρ y).cells.toList.length = szT P t := by simpa using hv1
      -- the element's cells, as they will be
      have hput : ∀ c' : Nat → Option Value, (∀ j < r.sz, c' j = if o ≤ j ∧ j < o + szT P t then (ρ y).cells[j - o]? else cs[i * r.sz + j]?) → LR I μ w (putPart r.l[i] o u) r.sz c' ∧ o + szT P t ≤ r.sz :=
        fun c' hc' => LR_put (hl i h1) h3 h5 h4 hv2 hc'
      have hos : o + szT P t ≤ r.sz := (hput (fun j => if o ≤ j ∧ j < o + szT P t then (ρ y).cells[j - o]? else cs[i * r.sz + j]?) fun _ _ => rfl).2
      have hfit : i * r.sz + o + (ρ y).cells.toList.length ≤ cs.size := by omega
      have hone : ∀ q ∈ (ρ y).cells.toList, q.oneCell' = true := by
        intro q hq
        obtain ⟨j, hj, hjq⟩ := List.getElem_of_mem hq
        obtain ⟨z, hz, hz1⟩ := LR_cells hv2 j (by omega)
        have : (ρ y).cells[j]? = some q := by rw [← hjq]; simp
        rw [this] at hz; cases hz; exact hz1
      have hi : (P.info? t).isSome = true := by
        simp only [loadOk, Bool.and_eq_true, Option.isSome_iff_exists] at hok
        obtain ⟨⟨d, hd⟩, -⟩ := hok
        obtain ⟨i, hi⟩ := info_of_underlying hd
        simp [hi]
      have hrun := run_storeVar (P := P) (t := t) (o := i * r.sz + o) hi hh hv1 (by rw [hv1]; omega) hone
      obtain ⟨h8, h9⟩ := put_row (r' := ⟨r.sz, r.d, r.l.set i (putPart r.l[i] o u)⟩) hinv hr hk hh rfl (by simpa using h6) (by rw [layAt_size hfit]; exact h7) (by
        intro q hq
        simp only [List.length_set] at hq
        simp only [List.getElem_set]
        by_cases hqi : i = q
        · subst hqi
          rw [if_pos rfl]
          refine (hput _ fun j hj => ?_).1
          rw [layAt_get hfit, hlen]
          by_cases hin : o ≤ j ∧ j < o + szT P t
          · rw [if_pos (by omega), if_pos hin, show i * r.sz + j - (i * r.sz + o) = j - o by omega]; simp
          · rw [if_neg (by omega), if_neg hin]
        · rw [if_neg hqi]
          refine LR_to (fun j hj => ?_) (hl q hq)
          rw [layAt_get hfit, hlen, if_neg]
          rintro ⟨h10, h11⟩
          rcases Nat.lt_or_gt_of_ne hqi with h | h
          · have : (i + 1) * r.sz ≤ q * r.sz := Nat.mul_le_mul_right _ h
            rw [Nat.add_mul, Nat.one_mul] at this; omega
          · have : (q + 1) * r.sz ≤ i * r.sz := Nat.mul_le_mul_right _ h
            rw [Nat.add_mul, Nat.one_mul] at this; omega)
      refine ⟨_, ?_, h8, h9⟩
      simp only [Instr.storeAt, Instr.sureAddr, hb, Sem.run_bind, Sem.run_pure, Result.andThen_ok, hrun]
  | _ => exact hc.elim

end Go.Nw
