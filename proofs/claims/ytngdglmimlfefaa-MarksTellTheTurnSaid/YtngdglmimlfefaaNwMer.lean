/- The named walk, part 9b: what lies where behind a call that was handed rows. -/
import Derived.Test.YtngdglmimlfefaaNwWk
namespace Go.Nw
set_option linter.unusedVariables false
set_option linter.unusedSimpArgs false
variable {P : Program}

theorem WkV.hle {σ σ' : Heap} {ρ : Ren} {z : Bool} (hle : HLe σ σ') {v u : AVal} (h : WkV σ ρ z v u) : WkV σ' ρ z v u := by
  induction h with
  | same v h => exact .same v h
  | undef v => exact .undef v
  | sref k k0 e0 sz n h => exact .sref k k0 e0 sz n h
  | ptr k k0 sz e o h => exact .ptr k k0 sz e o h
  | nil_ref k sz h => exact .nil_ref k sz h
  | nil_sl sz f => exact .nil_sl sz f
  | ref_nil sz e0 f k => exact .ref_nil sz e0 f k
  | ref_sl k e0 sz n f r hz hb hr hs hn hf _ ih => exact .ref_sl k e0 sz n f r hz hb (hle k r hr) hs hn hf ih
  | sl_sl sz n f g h => exact .sl_sl sz n f g h
  | agg n f g hl _ ih => exact .agg n f g hl ih
  | iptr k sz e o v r hz hb hr hs he hc hv _ ih => exact .iptr k sz e o v r hz hb (hle k r hr) hs he hc hv ih
  | tup n f g _ ih => exact .tup n f g ih
  | fn g n f h hl _ ih => exact .fn g n f h hl ih
theorem Lend.hle {σ σ' : Heap} {ρ : Ren} {z : Bool} (hle : HLe σ σ') : ∀ {vs us : List AVal}, Lend σ ρ z vs us → Lend σ' ρ z vs us
  | [], [], h => h
  | _ :: _, _ :: _, h => ⟨h.1.hle hle, Lend.hle hle h.2⟩
  | [], _ :: _, h => h.elim
  | _ :: _, [], h => h.elim
theorem free_lr {I I' : Nat → Prop} {μ : Where} {w w' : World} : ∀ (v : AVal), v.free → ∀ (sz : Nat) (c : Nat → Option Value), LR I μ w v sz c → LR I' μ w' v sz c := by
  intro v
  induction v with
  | sl s n f ih => rintro rfl sz c ⟨rfl, a, cap, h, -⟩; exact ⟨rfl, a, cap, h, .inl rfl⟩
  | iptr v o ih => intro h; exact h.elim
  | aggF n f ih => rintro hf sz c ⟨rfl, h⟩; exact ⟨rfl, fun j hj => ⟨(h j hj).1, ih j (hf j hj) 1 _ (h j hj).2⟩⟩
  | tupF n f ih => intro _ sz c h; exact h.elim
  | when g v ih => intro _ sz c h; exact h.elim
  | fnF g n f ih => rintro hf sz c ⟨rfl, cs, h1, h2, h3⟩; exact ⟨rfl, cs, h1, h2, fun j hj => ⟨(h3 j hj).1, ih j (hf j hj) 1 _ (h3 j hj).2⟩⟩
  | _ => intro _ sz c h; exact h
theorem free_vr {I I' : Nat → Prop} {μ : Where} {w w' : World} : ∀ (v : AVal), v.free → ∀ (x : Value), VR I μ w v x → VR I' μ w' v x := by
  intro v
  induction v with
  | undef => intros; trivial
  | when g v ih => intro hf x h; exact ⟨fun hg => ih hf x (h.1 hg), h.2⟩
  | tupF n f ih => rintro hf x ⟨vs, rfl, hn, h⟩; exact ⟨vs, rfl, hn, fun j hj => let ⟨y, hy, hv⟩ := h j hj; ⟨y, hy, ih j (hf j hj) y hv⟩⟩
  | aggF n f ih => rintro hf x ⟨cs, rfl, hn, h⟩; exact ⟨cs, rfl, hn, free_lr _ hf _ _ h⟩
  | _ => intro hf x h; exact free_lr _ hf _ _ h
theorem ren_leaf {κ : Key → Key} (v : AVal) : (v.ren κ).leaf = v.leaf := by cases v <;> rfl
theorem ren_free {κ : Key → Key} : ∀ {v : AVal}, v.free → (v.ren κ).free := by
  intro v
  induction v with
  | aggF n f ih => exact fun h j hj => ih j (h j hj)
  | tupF n f ih => exact fun h j hj => ih j (h j hj)
  | fnF g n f ih => exact fun h j hj => ih j (h j hj)
  | when g v ih => exact fun h => ih h
  | _ => exact fun h => h
theorem ren_lr {I : Nat → Prop} {μ μ' : Where} {w : World} {κ : Key → Key} (hκ : ∀ k x, μ k = some x → μ' (κ k) = some x) : ∀ (v : AVal) (sz : Nat) (c : Nat → Option Value), LR I μ w v sz c → LR I μ' w (v.ren κ) sz c := by
  intro v
  induction v with
  | sref k e0 s n => rintro sz c ⟨rfl, x, a, cap, h, h1⟩; exact ⟨rfl, x, a, cap, hκ _ _ h, h1⟩
  | ptr k s e o => rintro sz c ⟨rfl, b, C, h, h1⟩; exact ⟨rfl, b, C, hκ _ _ h, h1⟩
  | aggF n f ih => rintro sz c ⟨rfl, h⟩; exact ⟨rfl, fun j hj => ⟨(ren_leaf _).trans (h j hj).1, ih j 1 _ (h j hj).2⟩⟩
  | fnF g n f ih => rintro sz c ⟨rfl, cs, h1, h2, h3⟩; exact ⟨rfl, cs, h1, h2, fun j hj => ⟨(ren_leaf _).trans (h3 j hj).1, ih j 1 _ (h3 j hj).2⟩⟩
  | tupF n f ih => intro sz c h; exact h.elim
  | when g v ih => intro sz c h; exact h.elim
  | _ => intro sz c h; exact h
theorem ren_vr {I : Nat → Prop} {μ μ' : Where} {w : World} {κ : Key → Key} (hκ : ∀ k x, μ k = some x → μ' (κ k) = some x) : ∀ (v : AVal) (x : Value), VR I μ w v x → VR I μ' w (v.ren κ) x := by
  intro v
  induction v with
  | undef => intros; trivial
  | when g v ih => intro x h; exact ⟨fun hg => ih x (h.1 hg), h.2⟩
  | tupF n f ih => rintro x ⟨vs, rfl, hn, h⟩; exact ⟨vs, rfl, hn, fun j hj => let ⟨y, hy, hv⟩ := h j hj; ⟨y, hy, ih j y hv⟩⟩
  | aggF n f ih => rintro x ⟨cs, rfl, hn, h⟩; exact ⟨cs, rfl, hn, ren_lr hκ (.aggF n f) _ _ h⟩
  | _ => intro x h; exact ren_lr hκ _ _ _ h
/-- What names no row is not named anew. -/
theorem ren_nameless {κ : Key → Key} : ∀ {v : AVal}, v.nameless → (∀ n f, v ≠ .aggF n f) → (∀ n f, v ≠ .tupF n f) → (∀ g n f, v ≠ .fnF g n f) → (∀ g u, v ≠ .when g u) → v.ren κ = v := by
  intro v h h1 h2 h3 h4
  cases v <;> first | rfl | exact h.elim | exact absurd rfl (h1 _ _) | exact absurd rfl (h2 _ _) | exact absurd rfl (h3 _ _ _) | exact absurd rfl (h4 _ _)
theorem ent_ren_get (κ : Key → Key) (e : Ent) (i : Nat) : (e.ren κ).get i = (e.get i).map (Row.ren κ) := by
  cases e with
  | one r => simp only [Ent.ren, Ent.get]; split <;> rfl
  | fam f => rfl

/-- the heap behind a call that was handed the rows ks -/
def mergeH (σ : Heap) (ks : List Nat) (σr : Heap) : Heap := ⟨σ.nx + (σr.nx - ks.length), mapN ks σ.nx σr.rows ++ delN ks σ.rows⟩
def invN (ks : List Nat) (c n : Nat) : Option Nat := if n ∈ ks then some (ks.idxOf n) else if c ≤ n then some (n - c + ks.length) else none
theorem delN_get (ks : List Nat) : ∀ (σ : Rows) (k : Key), rget (delN ks σ) k = if k.1 ∈ ks then none else rget σ k
  | [], k => by simp [delN, rget]
  | (j, e) :: σ, k => by
    simp only [delN]
    by_cases hj : j ∈ ks
    · rw [if_pos hj, delN_get ks σ k]
      by_cases hk : k.1 ∈ ks
      · rw [if_pos hk, if_pos hk]
      · rw [if_neg hk, if_neg hk]
        simp only [rget]
        rw [if_neg (by rintro rfl; exact hk hj)]
    · rw [if_neg hj]
      simp only [rget, delN_get ks σ k]
      by_cases hk : k.1 ∈ ks
      · have hne : ¬ k.1 = j := by rintro rfl; exact hj hk
        simp [hk, hne]
      · simp [hk]
theorem idxOf_get : ∀ {ks : List Nat} (hnd : ks.Nodup) (j : Nat) (h : j < ks.length), ks.idxOf (ks.getD j 0) = j
  | [], _, j, h => by simp at h
  | a :: ks, hnd, 0, h => by simp [List.idxOf_cons]
  | a :: ks, hnd, j + 1, h => by
    obtain ⟨h1, h2⟩ := List.nodup_cons.1 hnd
    have hj : j < ks.length := by simpa using h
    have hne : (a == ks.getD j 0) = false := by
      rw [beq_eq_false_iff_ne]
      intro e; apply h1; rw [e]; simp [hj]
    have := idxOf_get h2 j hj
    simp only [List.getD_cons_succ]
    rw [List.idxOf_cons, hne, this]; rfl
theorem kap_inv {ks : List Nat} {c : Nat} (hnd : ks.Nodup) (hlt : ∀ j ∈ ks, j < c) (j n : Nat) : kapN ks c j = n ↔ invN ks c n = some j := by
  unfold kapN invN
  constructor
  · intro h
    by_cases hj : j < ks.length
    · rw [if_pos hj] at h
      subst h
      have hm : ks.getD j 0 ∈ ks := by simp [hj]
      rw [if_pos hm, idxOf_get hnd j hj]
    · rw [if_neg hj] at h
      have hm : ¬ n ∈ ks := fun hm => by have := hlt n hm; omega
      rw [if_neg hm, if_pos (by omega)]
      congr 1; omega
  · intro h
    by_cases hm : n ∈ ks
    · rw [if_pos hm] at h
      cases h
      have hl := List.idxOf_lt_length_of_mem hm
      rw [if_pos hl]
      simp [hl, List.getElem_idxOf]
    · rw [if_neg hm] at h
      split at h
      · cases h
        rw [if_neg (by omega)]; omega
      · cases h
theorem mapN_get {ks : List Nat} {c : Nat} (hnd : ks.Nodup) (hlt : ∀ j ∈ ks, j < c) : ∀ (σ : Rows) (k : Key), rget (mapN ks c σ) k = (invN ks c k.1).bind fun j => (rget σ (j, k.2)).map (Row.ren (kap ks c))
  | [], k => by cases h : invN ks c k.1 <;> simp [mapN, rget]
  | (j, e) :: σ, k => by
    simp only [mapN, rget, mapN_get hnd hlt σ k, ent_ren_get]
    by_cases hj : k.1 = kapN ks c j
    · have := (kap_inv hnd hlt j k.1).1 hj.symm
      rw [if_pos hj, this]
      simp only [Option.bind_some, if_true]
      cases e.get k.2 <;> simp
    · rw [if_neg hj]
      cases h : invN ks c k.1 with
      | none => simp
      | some i =>
        have hne : ¬ i = j := by rintro rfl; exact hj ((kap_inv hnd hlt i k.1).2 h).symm
        simp [hne]
theorem merge_get {ks : List Nat} {σ σr : Heap} (hnd : ks.Nodup) (hlt : ∀ j ∈ ks, j < σ.nx) (k : Key) : (mergeH σ ks σr).get k = ((invN ks σ.nx k.1).bind fun j => (σr.get (j, k.2)).map (Row.ren (kap ks σ.nx))).or (if k.1 ∈ ks then none else σ.get k) := by
  show rget (mapN ks σ.nx σr.rows ++ delN ks σ.rows) k = _
  rw [rget_append, mapN_get hnd hlt, delN_get]; rfl

theorem Lend.get {σ : Heap} {ρ : Ren} {z : Bool} : ∀ {vs us : List AVal}, Lend σ ρ z vs us → vs.length = us.length ∧ ∀ j, j < vs.length → WkV σ ρ z (lst vs j) (lst us j)
  | [], [], _ => ⟨rfl, fun j hj => by simp at hj⟩
  | v :: vs, u :: us, h => by
    obtain ⟨h1, h2⟩ := h.2.get
    refine ⟨by simp [h1], fun j hj => ?_⟩
    cases j with
    | zero => exact h.1
    | succ j => exact h2 j (by simpa using hj)
  | [], _ :: _, h => h.elim
  | _ :: _, [], h => h.elim
theorem Lend.rel {σ : Heap} {ρ : Ren} {z : Bool} {I : Nat → Prop} {μ : Where} {w : World} {vs us : List AVal} {cargs : Array Value} (hinv : Inv I μ σ w) (h : Lend σ ρ z vs us) (hA : ARel I μ w us cargs) :
    ARel (Imm I μ σ ρ z) (ρ.at_ μ) w vs cargs := by
  obtain ⟨h1, h2⟩ := h.get
  refine ⟨hA.1.trans h1.symm, fun j hj => ?_⟩
  obtain ⟨x, hx, hr⟩ := hA.2 j (by omega)
  exact ⟨x, hx, (h2 j hj).vr hinv hr⟩

theorem WkR.hle {σ σ' : Heap} {ρ : Ren} {z : Bool} (hle : HLe σ σ') {k : Key} {r' : Row} (h : WkR σ ρ z k r') : WkR σ' ρ z k r' := by
  rcases h with h | ⟨k0, r, h1, h2, h3, h4, h5⟩
  · exact .inl h
  · exact .inr ⟨k0, r, h1, hle _ _ h2, h3, h4, fun i hi => (h5 i hi).hle hle⟩
theorem WkH.hle {σ σ' : Heap} {ρ : Ren} {z : Bool} (hle : HLe σ σ') {τ : Heap} (h : WkH σ ρ z τ) : WkH σ' ρ z τ := ⟨h.nm, h.inj, fun k r' hr => (h.row k r' hr).hle hle⟩
theorem mergeP_get {ks : List Nat} {σ σr : Heap} {p : Nat} (hnd : ks.Nodup) (hlt : ∀ j ∈ ks, j < p) (k : Key) : (mergeP σ ks σr p).get k = ((invN ks p k.1).bind fun j => (σr.get (j, k.2)).map (Row.ren (kap ks p))).or (if k.1 ∈ ks then none else σ.get k) := by
  show rget (mapN ks p σr.rows ++ delN ks σ.rows) k = _
  rw [rget_append, mapN_get hnd hlt, delN_get]; rfl
theorem rget_off : ∀ {τ : Rows} {n : Nat} {k : Key}, (τ.all fun x => decide (x.1 ≤ n)) = true → n < k.1 → rget τ k = none
  | [], _, _, _, _ => rfl
  | (j, e) :: τ, n, k, h, hk => by
    simp only [List.all_cons, Bool.and_eq_true, decide_eq_true_eq] at h
    simp only [rget]
    rw [if_neg (by omega), rget_off h.2 hk]
/-- what was not handed over, and is not new -/
theorem mergeP_off {ks : List Nat} {σ σr : Heap} {p : Nat} (hnd : ks.Nodup) (hlt : ∀ j ∈ ks, j < p) (hr : (σr.rows.all fun x => decide (x.1 ≤ ks.length)) = true) {k : Key} (h1 : k.1 ∉ ks) (h2 : k.1 ≠ p) : (mergeP σ ks σr p).get k = σ.get k := by
  rw [mergeP_get hnd hlt, if_neg h1]
  unfold invN
  rw [if_neg h1]
  split
  · rw [Option.bind_some, show σr.get (k.1 - p + ks.length, k.2) = none from rget_off hr (by simp only; omega)]; rfl
  · rfl
/-- A call that is handed the rows ks; its new row is named p. -/
theorem call_gen {f : FuncId} {args args' : List AVal} {σ σa σr : Heap} {r : AVal} (z : Bool) (ks : List Nat) (p : Nat) (h : ACalls P f args' σa (fun r' σ' => r' = r ∧ σ' = σr)) (hl : Lend σ (rho ks) z args' args) (hH : WkH σ (rho ks) z σa) (hn : σa.nx = ks.length)
    (hnd : ks.Nodup) (hlt : ∀ j ∈ ks, j < p) (hr1 : σr.nx ≤ ks.length + 1) (hz : z = true → freeR r σr) (hp : p < σ.nx)
    {I : Nat → Prop} {μ : Where} {w : World} {cargs : Array Value} (hinv : Inv I μ σ w) (hA : ARel I μ w args cargs) (hp3 : ∀ i, μ (p, i) = none) :
    Calls P f cargs w fun e w' => ∃ cv I1 μ1, e = .returned cv ∧ VR I1 μ1 w' (r.ren (kap ks p)) cv ∧ Inv I1 μ1 (mergeP σ ks σr p) w' ∧ Ext I I1 (Blk μ σ) (Blk μ1 (mergeP σ ks σr p)) w w' ∧ μ.le μ1 ∧ ∀ k : Key, k.1 ≠ p → μ k = none → k.1 ∉ ks → μ1 k = none := by
  obtain ⟨hia, hba⟩ := Wk.inv hinv hH
  refine (h.2 _ _ w cargs hia (hl.rel hinv hA)).mono ?_
  rintro e w' ⟨cv, r', σr', I', μ', rfl, ⟨rfl, rfl⟩, hv, hinv', hx, hm⟩
  have hget := mergeP_get (σ := σ) (σr := σr') hnd hlt
  -- where all lies, behind the call
  obtain ⟨μ1, hμ1⟩ : ∃ μ1 : Where, ∀ k, μ1 k = if k.1 = p then μ' (ks.length, k.2) else (μ k).or (if k.1 ∈ ks then μ' (ks.idxOf k.1, k.2) else none) := ⟨_, fun _ => rfl⟩
  have hat : ∀ j i, j < ks.length → (rho ks).at_ μ (j, i) = μ (ks.getD j 0, i) := fun j i hj => by simp only [Ren.at_, rho, if_pos hj]
  have hle : μ.le μ1 := fun k x hk => by
    have hkp : ¬ k.1 = p := fun e => by have := hp3 k.2; rw [← e, hk] at this; cases this
    rw [hμ1, if_neg hkp, hk]; rfl
  have hκ : ∀ k x, μ' k = some x → μ1 (kap ks p k) = some x := by
    rintro ⟨j, i⟩ x hk
    rw [hμ1]
    simp only [kap, kapN]
    by_cases hj : j < ks.length
    · have hmem : ks.getD j 0 ∈ ks := by simp [hj]
      simp only [if_pos hj]
      rw [if_neg (by have := hlt _ hmem; omega), if_pos hmem, idxOf_get hnd j hj, hk]
      cases hq : μ (ks.getD j 0, i) with
      | none => rfl
      | some y =>
        have := hm (j, i) y (by rw [hat j i hj]; exact hq)
        rw [hk] at this; cases this; rfl
    · simp only [if_neg hj]
      have hj2 := hinv'.nm (j, i) (by simp [hk])
      have hj3 : j = ks.length := by simp only at hj2; omega
      subst hj3
      rw [if_pos (by omega)]; exact hk
  -- what is written no longer, behind the call
  obtain ⟨I1, hI1⟩ : ∃ I1 : Nat → Prop, ∀ b, I1 b ↔ if z = true then I b else I' b := ⟨_, fun _ => Iff.rfl⟩
  have himm : ∀ b, Imm I μ σ (rho ks) z b → I' b := fun b hb => hx.imm b hb
  have hII : ∀ b, I b → I1 b := fun b hb => by
    rw [hI1]; split
    · exact hb
    · exact himm b (.inl hb)
  have hv1 : ∀ {v : AVal}, (z = true → v.free) → ∀ {x : Value}, VR I' μ' w' v x → VR I1 μ1 w' (v.ren (kap ks p)) x := by
    intro v hf x hx
    have := ren_vr hκ v x hx
    by_cases hz1 : z = true
    · exact free_vr _ (ren_free (hf hz1)) _ this
    · exact VR_mono (fun b hb => by rw [hI1, if_neg hz1]; exact hb) (Where.le_refl μ1) (fun _ _ => rfl) _ _ this
  have hl1 : ∀ {v : AVal}, (z = true → v.free) → ∀ {sz : Nat} {c : Nat → Option Value}, LR I' μ' w' v sz c → LR I1 μ1 w' (v.ren (kap ks p)) sz c := by
    intro v hf sz c hx
    have := ren_lr hκ v sz c hx
    by_cases hz1 : z = true
    · exact free_lr _ (ren_free (hf hz1)) _ _ this
    · exact LR_mono (fun b hb => by rw [hI1, if_neg hz1]; exact hb) (fun _ _ => rfl) _ _ _ (Where.le_refl μ1) _ _ _ (fun _ _ => rfl) this
  -- the blocks of the rows handed over
  have hpass : ∀ b, Blk ((rho ks).at_ μ) σa b → ∃ k C, k.1 ∈ ks ∧ σ.get k ≠ none ∧ μ k = some (some (b, C)) := by
    rintro b ⟨⟨j, i⟩, C, h1, h2⟩
    obtain ⟨r', hr'⟩ := Option.ne_none_iff_exists'.1 h1
    have hj : j < ks.length := by have := hia.nm (j, i) (by simp [h2]); rw [hn] at this; exact this
    rw [hat j i hj] at h2
    rcases hH.row (j, i) r' hr' with ⟨h3, -⟩ | ⟨k0, r0, h3, h4, -⟩
    · simp only [rho, if_pos hj] at h3; cases h3
    · simp only [rho, if_pos hj] at h3; cases h3
      exact ⟨_, C, by simp [hj], by rw [h4]; exact Option.some_ne_none _, h2⟩
  have hframe : ∀ k b C, ¬ k.1 ∈ ks → σ.get k ≠ none → μ k = some (some (b, C)) → ¬ Blk ((rho ks).at_ μ) σa b := by
    intro k b C h1 h2 h3 hb
    obtain ⟨k', C', h4, h5, h6⟩ := hpass b hb
    have := hinv.inj k k' b C C' h2 h5 h3 h6
    subst this; exact h1 h4
  have hold : ∀ k b C, ¬ k.1 ∈ ks → σ.get k ≠ none → μ k = some (some (b, C)) → w'.heap[b]? = w.heap[b]? := fun k b C h1 h2 h3 =>
    hx.old b (hinv.lt ⟨k, C, h2, h3⟩) (hframe k b C h1 h2 h3)
  have hkeep : ∀ b, I b → w'.heap[b]? = w.heap[b]? := fun b hb => hx.old b (hinv.imm b hb).1 fun h => (hinv.imm b hb).2 (hba b h)
  -- a row behind the call: one of the callee's, or one that was not handed over
  have hcase : ∀ k q, (mergeP σ ks σr' p).get k = some q → (∃ j q0, invN ks p k.1 = some j ∧ σr'.get (j, k.2) = some q0 ∧ q = q0.ren (kap ks p)) ∨ (¬ k.1 ∈ ks ∧ σ.get k = some q) := by
    intro k q hq
    rw [hget] at hq
    cases hi : (invN ks p k.1).bind fun j => (σr'.get (j, k.2)).map (Row.ren (kap ks p)) with
    | none =>
      rw [hi] at hq
      simp only [Option.none_or] at hq
      split at hq
      · cases hq
      · exact .inr ⟨by assumption, hq⟩
    | some q' =>
      rw [hi] at hq
      simp only [Option.some_or] at hq
      cases hq
      cases hj : invN ks p k.1 with
      | none => rw [hj] at hi; cases hi
      | some j =>
        rw [hj] at hi
        simp only [Option.bind_some] at hi
        cases hg : σr'.get (j, k.2) with
        | none => rw [hg] at hi; cases hi
        | some q0 => rw [hg] at hi; cases hi; exact .inl ⟨j, q0, by first | rfl | exact hj, by first | rfl | exact hg, rfl⟩
  have hkapk : ∀ (k : Key) j, invN ks p k.1 = some j → kap ks p (j, k.2) = k := fun k j hj => Prod.ext ((kap_inv hnd hlt j k.1).2 hj) rfl
  have hblk : ∀ b, Blk μ1 (mergeP σ ks σr' p) b → Blk μ' σr' b ∨ ∃ k C, ¬ k.1 ∈ ks ∧ σ.get k ≠ none ∧ μ k = some (some (b, C)) := by
    rintro b ⟨k, C, h1, h2⟩
    obtain ⟨q, hq⟩ := Option.ne_none_iff_exists'.1 h1
    rcases hcase k q hq with ⟨j, q0, h3, h4, -⟩ | ⟨h3, h4⟩
    · obtain ⟨x, hx1, -⟩ := hinv'.row (j, k.2) q0 h4
      have := hκ _ _ hx1
      rw [hkapk k j h3, h2] at this
      cases this
      exact .inl ⟨(j, k.2), C, by simp [h4], hx1⟩
    · obtain ⟨x, hx1, -⟩ := hinv.row k q h4
      have := hle _ _ hx1
      rw [h2] at this; cases this
      exact .inr ⟨k, C, h3, by simp [h4], hx1⟩
  have hsep : ∀ k b C, ¬ k.1 ∈ ks → σ.get k ≠ none → μ k = some (some (b, C)) → ¬ Blk μ' σr' b := by
    intro k b C h1 h2 h3 h4
    rcases hx.row b h4 with h | h
    · exact hframe k b C h1 h2 h3 h
    · have := hinv.lt ⟨k, C, h2, h3⟩; omega
  refine ⟨cv, I1, μ1, rfl, hv1 (fun h => (hz h).1) hv, ⟨fun b hb => ?_, fun k q hq => ?_, fun k k' b C C' h1 h2 h3 h4 => ?_, fun k hk => ?_⟩, ⟨hx.os, hx.tape, hx.output, hx.size, fun b hb hs => hx.old b hb fun h => hs (hba b h), hII, fun b hb => ?_, fun b hb => ?_, hx.drawn⟩, hle, fun k h1 h2 h3 => by rw [hμ1, if_neg h1, h2, if_neg h3]; rfl⟩
  · rw [hI1] at hb
    by_cases hz1 : z = true
    · rw [if_pos hz1] at hb
      refine ⟨Nat.lt_of_lt_of_le (hinv.imm b hb).1 hx.size, fun h => ?_⟩
      rcases hblk b h with h | ⟨k, C, h1, h2, h3⟩
      · rcases hx.row b h with h | h
        · exact (hinv.imm b hb).2 (hba b h)
        · have := (hinv.imm b hb).1; omega
      · exact (hinv.imm b hb).2 ⟨k, C, h2, h3⟩
    · rw [if_neg hz1] at hb
      refine ⟨(hinv'.imm b hb).1, fun h => ?_⟩
      rcases hblk b h with h | ⟨k, C, h1, h2, h3⟩
      · exact (hinv'.imm b hb).2 h
      · rcases hx.imm' b hb with h | h | h
        · rcases h with h | ⟨h, -⟩
          · exact (hinv.imm b h).2 ⟨k, C, h2, h3⟩
          · exact hz1 h
        · have := hinv.lt ⟨k, C, h2, h3⟩; omega
        · exact hframe k b C h1 h2 h3 h
  · rcases hcase k q hq with ⟨j, q0, h3, h4, rfl⟩ | ⟨h3, h4⟩
    · obtain ⟨x, hx1, hrow⟩ := hinv'.row (j, k.2) q0 h4
      have := hκ _ _ hx1
      rw [hkapk k j h3] at this
      refine ⟨x, this, ?_⟩
      cases x with
      | none => simp only at hrow ⊢; simp [Row.ren, hrow]
      | some pb =>
        obtain ⟨cs, ty, hh, a1, a2, a3⟩ := hrow
        refine ⟨cs, ty, hh, by simpa [Row.ren] using a1, a2, fun e he => ?_⟩
        have he' : e < q0.l.length := by simpa [Row.ren] using he
        have hg : (q0.ren (kap ks p)).l[e] = (q0.l[e]).ren (kap ks p) := by simp [Row.ren]
        rw [hg]
        exact hl1 (fun h => (hz h).2 _ _ h4 _ (List.getElem_mem _)) (a3 e he')
    · obtain ⟨x, hx1, hrow⟩ := hinv.row k q h4
      refine ⟨x, hle _ _ hx1, ?_⟩
      cases x with
      | none => exact hrow
      | some pb =>
        obtain ⟨cs, ty, hh, a1, a2, a3⟩ := hrow
        exact ⟨cs, ty, by rw [hold k pb.1 pb.2 h3 (by simp [h4]) hx1]; exact hh, a1, a2, fun e he => LR_mono hII hkeep _ _ _ hle _ _ _ (fun _ _ => rfl) (a3 e he)⟩
  · obtain ⟨q, hq⟩ := Option.ne_none_iff_exists'.1 h1
    obtain ⟨q', hq'⟩ := Option.ne_none_iff_exists'.1 h2
    have hown : ∀ k q C, (mergeP σ ks σr' p).get k = some q → μ1 k = some (some (b, C)) → (∃ j, invN ks p k.1 = some j ∧ σr'.get (j, k.2) ≠ none ∧ μ' (j, k.2) = some (some (b, C))) ∨ (¬ k.1 ∈ ks ∧ σ.get k ≠ none ∧ μ k = some (some (b, C))) := by
      intro k q C hq hk
      rcases hcase k q hq with ⟨j, q0, h3, h4, rfl⟩ | ⟨h3, h4⟩
      · obtain ⟨x, hx1, -⟩ := hinv'.row (j, k.2) q0 h4
        have := hκ _ _ hx1
        rw [hkapk k j h3, hk] at this; cases this
        exact .inl ⟨j, h3, by simp [h4], hx1⟩
      · obtain ⟨x, hx1, -⟩ := hinv.row k q h4
        have := hle _ _ hx1
        rw [hk] at this; cases this
        exact .inr ⟨h3, by simp [h4], hx1⟩
    rcases hown k q C hq h3 with ⟨j, a1, a2, a3⟩ | ⟨a1, a2, a3⟩
    · rcases hown k' q' C' hq' h4 with ⟨j', b1, b2, b3⟩ | ⟨b1, b2, b3⟩
      · have := hinv'.inj _ _ b C C' a2 b2 a3 b3
        have e1 := hkapk k j a1
        have e2 := hkapk k' j' b1
        rw [← e1, ← e2, this]
      · exact (hsep k' b C' b1 b2 b3 ⟨_, C, a2, a3⟩).elim
    · rcases hown k' q' C' hq' h4 with ⟨j', b1, b2, b3⟩ | ⟨b1, b2, b3⟩
      · exact (hsep k b C a1 a2 a3 ⟨_, C', b2, b3⟩).elim
      · exact hinv.inj k k' b C C' a2 b2 a3 b3
  · rw [hμ1] at hk
    show k.1 < σ.nx
    split at hk
    · omega
    · cases hq : μ k with
      | some y => exact hinv.nm k (by simp [hq])
      | none =>
        rw [hq] at hk
        split at hk
        · rename_i hm; have := hlt _ hm; omega
        · exact absurd rfl hk
  · rw [hI1] at hb
    split at hb
    · exact .inl hb
    · rename_i hz1
      rcases hx.imm' b hb with h | h | h
      · rcases h with h | ⟨h, -⟩
        · exact .inl h
        · exact absurd h hz1
      · exact .inr (.inl h)
      · exact .inr (.inr (hba b h))
  · rcases hblk b hb with h | ⟨k, C, h1, h2, h3⟩
    · rcases hx.row b h with h | h
      · exact .inl (hba b h)
      · exact .inr h
    · exact .inl ⟨k, C, h2, h3⟩
end Go.Nw
