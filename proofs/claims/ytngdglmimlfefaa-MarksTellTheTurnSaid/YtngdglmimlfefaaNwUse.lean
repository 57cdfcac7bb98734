/- The named walk, part 13: what walks are ended and loops are begun with. -/
import Derived.Test.YtngdglmimlfefaaNwSet
namespace Go.Nw
set_option linter.unusedVariables false
set_option linter.unusedSimpArgs false
variable {P : Program}

theorem W64 {n : Int} (h1 : -9223372036854775808 ≤ n) (h2 : n ≤ 9223372036854775807) : W .i64 n = n := by
  have e1 : (2 : Int) ^ 64 = 18446744073709551616 := by decide
  have e2 : (2 : Int) ^ (64 - 1) = 9223372036854775808 := by decide
  simp only [W, IntKind.wrap, IntKind.signed, IntKind.bits, e1, e2, Bool.true_and, decide_eq_true_eq]
  split <;> omega
/-! Names. -/
def R0 : Ren := fun _ => none
def look : List (Nat × Option Nat) → Nat → Option (Option Nat)
  | [], _ => none
  | (j, o) :: l, n => if n = j then some o else look l n
/-- new names for old ones, listed -/
def rn (l : List (Nat × Option Nat)) : Ren := fun k => match look l k.1 with
  | none => none
  | some none => some none
  | some (some j) => some (some (j, k.2))
theorem rn_none {l : List (Nat × Option Nat)} {j i : Nat} (h : look l j = some none) : rn l (j, i) = some none := by simp only [rn, h]
theorem rn_some {l : List (Nat × Option Nat)} {j i j0 : Nat} (h : look l j = some (some j0)) : rn l (j, i) = some (some (j0, i)) := by simp only [rn, h]
/-- no name for j -/
def notTo (l : List (Nat × Option Nat)) (j : Nat) : Bool := l.all fun p => p.2 != some j
theorem look_mem : ∀ {l : List (Nat × Option Nat)} {n : Nat} {o : Option Nat}, look l n = some o → (n, o) ∈ l
  | [], n, o, h => by cases h
  | (j, x) :: l, n, o, h => by
    simp only [look] at h
    split at h
    · cases h; rename_i e; subst e; exact List.mem_cons_self
    · exact List.mem_cons_of_mem _ (look_mem h)
theorem rn_notTo {l : List (Nat × Option Nat)} {j i : Nat} (h : notTo l j = true) (k' : Key) : rn l k' ≠ some (some (j, i)) := by
  intro e
  simp only [rn] at e
  split at e
  · cases e
  · cases e
  · rename_i j' hj
    cases e
    have := List.all_eq_true.1 h _ (look_mem hj)
    simp at this
/-- What must hold of a list of names: names below nx, no old one twice, names below c0 stay. -/
def rnOk (l : List (Nat × Option Nat)) (ks : List Nat) (nx c0 : Nat) : Bool := l.all (fun p => decide (p.1 < nx)) && decide (((l.filter fun p => ks.contains p.1).filterMap fun p => p.2).Nodup) && (List.range c0).all fun j => look l j == some (some j)
theorem rn_inj : ∀ {l : List (Nat × Option Nat)}, (l.filterMap fun p => p.2).Nodup → ∀ {a b j : Nat}, look l a = some (some j) → look l b = some (some j) → a = b
  | [], _, a, b, j, h, _ => by cases h
  | (q, x) :: l, hnd, a, b, j, ha, hb => by
    have hmem : ∀ {n : Nat}, look l n = some (some j) → j ∈ l.filterMap fun p => p.2 := fun h => List.mem_filterMap.2 ⟨_, look_mem h, rfl⟩
    have hnd' : (l.filterMap fun p => p.2).Nodup := by
      cases x with
      | none => simpa using hnd
      | some y => simp only [List.filterMap_cons] at hnd; exact (List.nodup_cons.1 hnd).2
    have hx : x = some j → ¬ j ∈ l.filterMap fun p => p.2 := by
      rintro rfl
      simp only [List.filterMap_cons] at hnd
      exact (List.nodup_cons.1 hnd).1
    simp only [look] at ha hb
    split at ha
    · rename_i e1; subst e1
      split at hb
      · rename_i e2; exact e2.symm
      · exact absurd (hmem hb) (hx (Option.some.inj ha))
    · split at hb
      · exact absurd (hmem ha) (hx (Option.some.inj hb))
      · exact rn_inj hnd' ha hb
/-- rows, said with less, one by one -/
def WkRs (σ : Heap) (ρ : Ren) : Rows → Prop
  | [] => True
  | (j, .one r) :: τ => WkR σ ρ true (j, 0) r ∧ WkRs σ ρ τ
  | (j, .fam f) :: τ => (∀ i r, f i = some r → WkR σ ρ true (j, i) r) ∧ WkRs σ ρ τ
theorem WkRs.get {σ : Heap} {ρ : Ren} : ∀ {τ : Rows}, WkRs σ ρ τ → ∀ k r, rget τ k = some r → WkR σ ρ true k r
  | [], _, k, r, hr => by cases hr
  | (j, .one q) :: τ, h, k, r, hr => by
    simp only [rget, Ent.get] at hr
    split at hr
    · rename_i hk
      split at hr
      · rename_i h0
        simp only [Option.some_or] at hr
        cases hr
        have : k = (j, 0) := Prod.ext hk h0
        rw [this]; exact h.1
      · simp only [Option.none_or] at hr; exact h.2.get k r hr
    · exact h.2.get k r hr
  | (j, .fam f) :: τ, h, k, r, hr => by
    simp only [rget, Ent.get] at hr
    split at hr
    · rename_i hk
      cases hf : f k.2 with
      | none => rw [hf] at hr; simp only [Option.none_or] at hr; exact h.2.get k r hr
      | some q =>
        rw [hf] at hr
        simp only [Option.some_or] at hr
        cases hr
        have : k = (j, k.2) := Prod.ext hk rfl
        rw [this]; exact h.1 _ _ hf
    · exact h.2.get k r hr
theorem look_filter {ks : List Nat} : ∀ {l : List (Nat × Option Nat)} {j : Nat} {x : Option Nat}, ks.contains j = true → look l j = some x → look (l.filter fun p => ks.contains p.1) j = some x
  | [], _, _, _, h => h
  | (q, y) :: l, j, x, hk, h => by
    simp only [look] at h
    split at h
    · rename_i e; subst e
      rw [List.filter_cons_of_pos (by exact hk)]
      simp only [look, if_true]; exact h
    · rename_i e
      by_cases hq : ks.contains q = true
      · rw [List.filter_cons_of_pos (by exact hq)]
        simp only [look]; rw [if_neg e]; exact look_filter hk h
      · rw [List.filter_cons_of_neg (by exact hq)]; exact look_filter hk h
theorem rget_mem : ∀ {τ : Rows} {k : Key}, rget τ k ≠ none → k.1 ∈ τ.map (·.1)
  | [], _, h => absurd rfl h
  | (j, e) :: τ, k, h => by
    by_cases hj : k.1 = j
    · simp [hj]
    · have : rget ((j, e) :: τ) k = rget τ k := by simp only [rget]; rw [if_neg hj]
      rw [this] at h
      exact List.mem_cons_of_mem _ (rget_mem h)
theorem wkH_rn {σ σ' : Heap} {l : List (Nat × Option Nat)} {c0 : Nat} (hok : rnOk l (σ'.rows.map (·.1)) σ'.nx c0 = true) (h : WkRs σ (rn l) σ'.rows) : WkH σ (rn l) true σ' := by
  simp only [rnOk, Bool.and_eq_true, List.all_eq_true, decide_eq_true_eq] at hok
  obtain ⟨⟨h1, h2⟩, -⟩ := hok
  refine ⟨fun k hk => ?_, fun k k' k0 g1 g2 h3 h4 => ?_, fun k r hr => h.get k r hr⟩
  · simp only [rn] at hk
    split at hk
    · exact absurd rfl hk
    · rename_i e; exact h1 _ (look_mem e)
    · rename_i e; exact h1 _ (look_mem e)
  · simp only [rn] at h3 h4
    split at h3 <;> first | (cases h3; done) | skip
    split at h4 <;> first | (cases h4; done) | skip
    rename_i j e1 _ j' e2
    have e3 : (j, k.2) = k0 := Option.some.inj (Option.some.inj h3)
    have e4 : (j', k'.2) = k0 := Option.some.inj (Option.some.inj h4)
    subst e3
    obtain ⟨rfl, e5⟩ := Prod.mk.inj e4
    exact Prod.ext (rn_inj h2 (look_filter (by simpa using rget_mem g1) e1) (look_filter (by simpa using rget_mem g2) e2)) e5.symm
theorem rn_stay {l : List (Nat × Option Nat)} {nx c0 : Nat} {ks : List Nat} (hok : rnOk l ks nx c0 = true) (k : Key) (hk : k.1 < c0) : rn l k = some (some k) := by
  simp only [rnOk, Bool.and_eq_true, List.all_eq_true, List.mem_range, beq_iff_eq] at hok
  have := hok.2 k.1 hk
  simp only [rn, this]
/-- Less is said of slots, one by one. -/
def WkL (σ : Heap) (ρ : Ren) (τ : Slots) : Slots → Prop
  | [] => True
  | (i, v) :: τ' => WkV σ ρ true v (τ.get i) ∧ WkL σ ρ τ τ'
theorem WkL.wks {σ : Heap} {ρ : Ren} {τ : Slots} : ∀ {τ' : Slots}, WkL σ ρ τ τ' → WkS σ ρ true τ' τ
  | [], _, i => .undef _
  | (j, v) :: τ', h, i => by
    simp only [Slots.get]
    by_cases hi : i = j
    · rw [if_pos hi, hi]; exact h.1
    · rw [if_neg hi]; exact WkL.wks h.2 i
theorem wk_of {σ σ' : Heap} {c0 : Nat} (l : List (Nat × Option Nat)) {τ τ' : Slots} (hok : rnOk l (σ'.rows.map (·.1)) σ'.nx c0 = true) (h : WkL σ (rn l) τ τ') (h' : WkRs σ (rn l) σ'.rows) : Wk c0 τ σ τ' σ' := ⟨rn l, rn_stay hok, h.wks, wkH_rn hok h'⟩
/-- A loop whose rounds are numbered; what is kept: slots and heap, as they were. -/
theorem loop_of {cf : Cfg} {body : (AExit → Slots → Heap → Prop) → Slots → Heap → Prop} {Q : AExit → Slots → Heap → Prop} {τ : Slots} {σ : Heap} (J : Nat → Slots → Heap → Prop) (n : Nat) (τ' : Slots) (σ' : Heap)
    (hw : Wk cf.c0 τ σ τ' σ') (h0 : J n τ' σ') (h : ∀ n τ σ, J n τ σ → body (AExit.then (fun τ' σ' => ∃ m τ'' σ'', Wk cf.c0 τ' σ' τ'' σ'' ∧ J m τ'' σ'' ∧ m < n) Q) τ σ) : Loop cf body Q τ σ := ⟨J, ⟨n, τ', σ', hw, h0⟩, h⟩
@[go_sem] theorem wkL_nil (σ : Heap) (ρ : Ren) (τ : Slots) : WkL σ ρ τ [] = True := rfl
@[go_sem] theorem wkL_cons (σ : Heap) (ρ : Ren) (τ τ' : Slots) (i : Nat) (v : AVal) : WkL σ ρ τ ((i, v) :: τ') = (WkV σ ρ true v (τ.get i) ∧ WkL σ ρ τ τ') := rfl
@[go_sem] theorem wkRs_nil (σ : Heap) (ρ : Ren) : WkRs σ ρ [] = True := rfl
@[go_sem] theorem wkRs_one (σ : Heap) (ρ : Ren) (j : Nat) (r : Row) (τ : Rows) : WkRs σ ρ ((j, .one r) :: τ) = (WkR σ ρ true (j, 0) r ∧ WkRs σ ρ τ) := rfl

/-! Values that name no row; that say nothing of memory; named anew. -/
def nmL : List AVal → Prop
  | [] => True
  | v :: l => v.nameless ∧ nmL l
def frL : List AVal → Prop
  | [] => True
  | v :: l => v.free ∧ frL l
theorem nmL_get : ∀ {l : List AVal}, nmL l → ∀ j, (lst l j).nameless
  | [], _, j => trivial
  | v :: l, h, 0 => h.1
  | v :: l, h, j + 1 => nmL_get h.2 j
theorem get_nmL : ∀ {l : List AVal}, (∀ j < l.length, (lst l j).nameless) → nmL l
  | [], _ => trivial
  | v :: l, h => ⟨h 0 (by simp), get_nmL fun j hj => h (j + 1) (by simpa using hj)⟩
theorem frL_get : ∀ {l : List AVal}, frL l → ∀ j, (lst l j).free
  | [], _, j => trivial
  | v :: l, h, 0 => h.1
  | v :: l, h, j + 1 => frL_get h.2 j
theorem get_frL : ∀ {l : List AVal}, (∀ j < l.length, (lst l j).free) → frL l
  | [], _ => trivial
  | v :: l, h => ⟨h 0 (by simp), get_frL fun j hj => h (j + 1) (by simpa using hj)⟩
@[go_sem] theorem nmL_nil : nmL [] = True := rfl
@[go_sem] theorem nmL_cons (v : AVal) (l : List AVal) : nmL (v :: l) = (v.nameless ∧ nmL l) := rfl
@[go_sem] theorem frL_nil : frL [] = True := rfl
@[go_sem] theorem frL_cons (v : AVal) (l : List AVal) : frL (v :: l) = (v.free ∧ frL l) := rfl
@[go_sem] theorem nm_agg (l : List AVal) : (agg l).nameless = nmL l := propext ⟨fun h => get_nmL h, fun h j _ => nmL_get h j⟩
@[go_sem] theorem nm_tup (l : List AVal) : (tup l).nameless = nmL l := propext ⟨fun h => get_nmL h, fun h j _ => nmL_get h j⟩
@[go_sem] theorem nm_fn (g : Nat) (l : List AVal) : (fn g l).nameless = nmL l := propext ⟨fun h => get_nmL h, fun h j _ => nmL_get h j⟩
@[go_sem] theorem nm_int (k : IntKind) (n : Int) : (AVal.int k n).nameless = True := rfl
@[go_sem] theorem nm_bool (b : Bool) : (AVal.bool b).nameless = True := rfl
@[go_sem] theorem nm_str (s : ByteArray) : (AVal.str s).nameless = True := rfl
@[go_sem] theorem nm_nil : AVal.nilsl.nameless = True := rfl
@[go_sem] theorem nm_undef : AVal.undef.nameless = True := rfl
@[go_sem] theorem nm_sl (s n : Nat) (f : Nat → AVal) : (AVal.sl s n f).nameless = True := rfl
@[go_sem] theorem nm_iptr (v : AVal) (o : Nat) : (AVal.iptr v o).nameless = True := rfl
@[go_sem] theorem nm_when (g : Bool) (v : AVal) : (AVal.when g v).nameless = v.nameless := rfl
@[go_sem] theorem fr_agg (l : List AVal) : (agg l).free = frL l := propext ⟨fun h => get_frL h, fun h j _ => frL_get h j⟩
@[go_sem] theorem fr_tup (l : List AVal) : (tup l).free = frL l := propext ⟨fun h => get_frL h, fun h j _ => frL_get h j⟩
@[go_sem] theorem fr_fn (g : Nat) (l : List AVal) : (fn g l).free = frL l := propext ⟨fun h => get_frL h, fun h j _ => frL_get h j⟩
@[go_sem] theorem fr_int (k : IntKind) (n : Int) : (AVal.int k n).free = True := rfl
@[go_sem] theorem fr_bool (b : Bool) : (AVal.bool b).free = True := rfl
@[go_sem] theorem fr_str (s : ByteArray) : (AVal.str s).free = True := rfl
@[go_sem] theorem fr_nil : AVal.nilsl.free = True := rfl
@[go_sem] theorem fr_sref (k : Key) (e s n : Nat) : (AVal.sref k e s n).free = True := rfl
@[go_sem] theorem fr_ptr (k : Key) (s e o : Nat) : (AVal.ptr k s e o).free = True := rfl
@[go_sem] theorem fr_undef : AVal.undef.free = True := rfl
theorem ren_lst (κ : Key → Key) : ∀ (l : List AVal), (fun i => (lst l i).ren κ) = lst (l.map (AVal.ren κ))
  | [] => rfl
  | v :: l => by
    funext i
    cases i with
    | zero => rfl
    | succ i => exact congrFun (ren_lst κ l) i
@[go_sem] theorem ren_agg (κ : Key → Key) (l : List AVal) : (agg l).ren κ = agg (l.map (AVal.ren κ)) := by simp only [agg, AVal.ren, ren_lst, List.length_map]
@[go_sem] theorem ren_tup (κ : Key → Key) (l : List AVal) : (tup l).ren κ = tup (l.map (AVal.ren κ)) := by simp only [tup, AVal.ren, ren_lst, List.length_map]
@[go_sem] theorem ren_fn (κ : Key → Key) (g : Nat) (l : List AVal) : (fn g l).ren κ = fn g (l.map (AVal.ren κ)) := by simp only [fn, AVal.ren, ren_lst, List.length_map]
@[go_sem] theorem ren_int (κ : Key → Key) (k : IntKind) (n : Int) : (AVal.int k n).ren κ = .int k n := rfl
@[go_sem] theorem ren_bool (κ : Key → Key) (b : Bool) : (AVal.bool b).ren κ = .bool b := rfl
@[go_sem] theorem ren_str (κ : Key → Key) (s : ByteArray) : (AVal.str s).ren κ = .str s := rfl
@[go_sem] theorem ren_nil (κ : Key → Key) : AVal.nilsl.ren κ = .nilsl := rfl
@[go_sem] theorem ren_undef (κ : Key → Key) : AVal.undef.ren κ = .undef := rfl
@[go_sem] theorem ren_sl (κ : Key → Key) (s n : Nat) (f : Nat → AVal) : (AVal.sl s n f).ren κ = .sl s n f := rfl
@[go_sem] theorem ren_iptr (κ : Key → Key) (v : AVal) (o : Nat) : (AVal.iptr v o).ren κ = .iptr v o := rfl
@[go_sem] theorem ren_sref (ks : List Nat) (c j i e s n : Nat) : (AVal.sref (j, i) e s n).ren (kap ks c) = .sref (kapN ks c j, i) e s n := rfl
@[go_sem] theorem ren_ptr (ks : List Nat) (c j i s e o : Nat) : (AVal.ptr (j, i) s e o).ren (kap ks c) = .ptr (kapN ks c j, i) s e o := rfl
@[go_sem] theorem row_ren (κ : Key → Key) (sz : Nat) (d : AVal) (l : List AVal) : Row.ren κ ⟨sz, d, l⟩ = ⟨sz, d.ren κ, l.map (AVal.ren κ)⟩ := rfl
@[go_sem] theorem ent_ren (κ : Key → Key) (r : Row) : Ent.ren κ (.one r) = .one (r.ren κ) := rfl
@[go_sem] theorem mapN_nil (ks : List Nat) (c : Nat) : mapN ks c [] = [] := rfl
@[go_sem] theorem mapN_cons (ks : List Nat) (c j : Nat) (e : Ent) (τ : Rows) : mapN ks c ((j, e) :: τ) = (kapN ks c j, e.ren (kap ks c)) :: mapN ks c τ := rfl
@[go_sem] theorem delN_nil (ks : List Nat) : delN ks [] = [] := rfl
@[go_sem] theorem delN_cons (ks : List Nat) (j : Nat) (e : Ent) (τ : Rows) : delN ks ((j, e) :: τ) = if j ∈ ks then delN ks τ else (j, e) :: delN ks τ := rfl
theorem delN_none : ∀ (τ : Rows), delN [] τ = τ
  | [] => rfl
  | (j, e) :: τ => by simp only [delN, List.not_mem_nil, if_false, delN_none τ]
@[go_sem] theorem merge_mk (n n' : Nat) (τ τ' : Rows) (ks : List Nat) : mergeH ⟨n, τ⟩ ks ⟨n', τ'⟩ = ⟨n + (n' - ks.length), mapN ks n τ' ++ delN ks τ⟩ := rfl
attribute [go_sem] kapN List.getD_cons_succ List.cons_append List.nil_append List.mem_cons List.not_mem_nil or_false false_or or_true true_or Nat.reduceSub if_true if_false

/-! The end of a function. -/
/-- 'v' may be said instead of 'u', if rows are written no longer. -/
def Wks (σ : Heap) (v u : AVal) : Prop := WkV σ R0 true v u
/-- the results -/
def resL (P : Program) (τ : Slots) (σ : Heap) : List ResultVar → List AVal
  | [] => []
  | r :: rs => (resF P τ σ r).2 :: resL P τ σ rs
theorem resL_map (τ : Slots) (σ : Heap) : ∀ rs, resL P τ σ rs = rs.map fun x => (resF P τ σ x).2
  | [] => rfl
  | r :: rs => congrArg _ (resL_map τ σ rs)
theorem resL_nil (τ : Slots) (σ : Heap) : resL P τ σ [] = [] := rfl
theorem resL_cons (τ : Slots) (σ : Heap) (r : ResultVar) (rs : List ResultVar) : resL P τ σ (r :: rs) = (resF P τ σ r).2 :: resL P τ σ rs := rfl
theorem ret_p (rs : List ResultVar) (r : AVal) (τ : Slots) (σ : Heap) : Ret P 0 rs (fun r' σ' => r' = r ∧ σ' = Heap.nil) τ σ = Ob (resC P τ σ rs) (Wks σ r (resV (resL P τ σ rs))) := by
  rw [resL_map]
  apply propext
  constructor
  · rintro ⟨h1, r', σ', ⟨ρ, -, h2, h3⟩, rfl, rfl⟩
    have : ρ = R0 := by
      funext k
      cases h : ρ k with
      | none => rfl
      | some x => have := h3.nm k (by simp [h]); exact absurd this (Nat.not_lt_zero _)
    subst this
    exact ⟨h1, h2⟩
  · rintro ⟨h1, h2⟩
    exact ⟨h1, r, Heap.nil, ⟨R0, fun k hk => absurd hk (Nat.not_lt_zero _), h2, ⟨fun k hk => absurd rfl hk, fun k k' k0 h3 => absurd rfl h3, fun k r' hr => by cases hr⟩⟩, rfl, rfl⟩
theorem ret_m (c0 : Nat) (rs : List ResultVar) (r : AVal) (σr : Heap) (τ : Slots) (σ : Heap) (l : List (Nat × Option Nat)) (hok : rnOk l (σr.rows.map (·.1)) σr.nx c0 = true) (h1 : resC P τ σ rs) (h2 : WkV σ (rn l) true r (resV (resL P τ σ rs))) (h3 : WkRs σ (rn l) σr.rows) :
    Ret P c0 rs (fun r' σ' => r' = r ∧ σ' = σr) τ σ := ⟨h1, r, σr, ⟨rn l, rn_stay hok, by rw [← resL_map]; exact h2, wkH_rn hok h3⟩, rfl, rfl⟩
theorem resC_nil (τ : Slots) (σ : Heap) : resC P τ σ [] = True := rfl
theorem resC_cons (τ : Slots) (σ : Heap) (r : ResultVar) (rs : List ResultVar) : resC P τ σ (r :: rs) = ((resF P τ σ r).1 ∧ resC P τ σ rs) := rfl
theorem resF_tmp (τ : Slots) (σ : Heap) (t : Tmp) : resF P τ σ (.tmp t) = (True, τ.get t) := rfl
theorem resF_cell (τ : Slots) (σ : Heap) (a : Tmp) (t : TypeId) : resF P τ σ (.cell a t) = loadF (szT P t) (aggT P t) σ (τ.get a) := rfl
theorem resV_1 (v : AVal) : resV [v] = v := rfl
theorem resV_0 : resV [] = tup [] := rfl
theorem resV_2 (v u : AVal) (l : List AVal) : resV (v :: u :: l) = tup (v :: u :: l) := rfl
attribute [go_sem] ret_p resL_nil resL_cons resC_nil resC_cons resF_tmp resF_cell resV_1 resV_0 resV_2 imp_self implies_true and_imp

/-! Closures called. -/
theorem range_lst (l : List AVal) : (List.range l.length).map (lst l) = l := by
  have : ∀ (k : Nat) (m : List AVal), (∀ j, lst l (k + j) = lst m j) → (List.range' k m.length).map (lst l) = m := by
    intro k m
    induction m generalizing k with
    | nil => intro _; rfl
    | cons a m ih =>
      intro h
      simp only [List.length_cons, List.range'_succ, List.map_cons]
      rw [show lst l k = a from h 0, ih (k + 1) fun j => by rw [Nat.add_assoc, Nat.add_comm 1 j]; exact h (j + 1)]
  rw [List.range_eq_range']
  exact this 0 l fun j => by rw [Nat.zero_add]
theorem callv_fn (g : Nat) (caps args : List AVal) (σ : Heap) (K : AVal → Heap → Prop) : CallV P (fn g caps) args σ K = CallTo P g (args ++ caps) σ K := by
  simp only [CallV, fn, range_lst]
theorem known_fn (g : Nat) (caps : List AVal) : (fn g caps).known = true := rfl
theorem cells_fn (g : Nat) (caps : List AVal) : (fn g caps).cells = 1 := rfl
theorem strip_fn (g : Nat) (caps : List AVal) : (fn g caps).strip = fn g caps := rfl
theorem leaf_fn (g : Nat) (caps : List AVal) : (fn g caps).leaf = true := rfl
theorem part_fn (g : Nat) (caps : List AVal) (o s : Nat) (a : Bool) : (fn g caps).part o s a = fn g caps := rfl
theorem pok_fn (g : Nat) (caps : List AVal) (o s : Nat) (a : Bool) : partOk (fn g caps) o s a = (o = 0 ∧ a = false) := rfl
attribute [go_sem] callv_fn known_fn cells_fn strip_fn leaf_fn part_fn pok_fn

/-! Contracts. -/
/-- A contract of a function that hands back what names no row. -/
def PCalls (P : Program) (f : FuncId) (args : List AVal) (r : AVal) : Prop := ACalls P f args Heap.nil fun r' σ' => r' = r ∧ σ' = Heap.nil
/-- A contract of a function that is handed rows, or hands some back. -/
def MCalls (P : Program) (f : FuncId) (args : List AVal) (σ : Heap) (r : AVal) (σ' : Heap) : Prop := ACalls P f args σ fun r' σ1 => r' = r ∧ σ1 = σ'
theorem R0_rho : rho [] = R0 := by funext k; simp [rho, R0]
/-- A call of a function that hands back what names no row: the heap stays. -/
theorem qcalls_p {f : FuncId} {args args' : List AVal} {r : AVal} {σ : Heap} (z : Bool) (h : PCalls P f args' r) (hl : Lend σ R0 z args' args) (hf : z = true → r.free) : QCalls P f args σ r := by
  refine ⟨h.1, fun σ1 I μ w cargs hle hinv hA => ?_⟩
  have hH : WkH σ1 R0 z Heap.nil := ⟨fun k hk => absurd rfl hk, fun k k' k0 h3 => absurd rfl h3, fun k r' hr => by cases hr⟩
  obtain ⟨hia, hba⟩ := Wk.inv hinv hH
  refine (h.2 _ _ w cargs hia ((hl.hle hle).rel hinv hA)).mono ?_
  rintro e w' ⟨cv, r', σ', I', μ', rfl, ⟨rfl, rfl⟩, hv, hinv', hx, hm⟩
  have hno : ∀ (m : Where) b, ¬ Blk m Heap.nil b := fun m b ⟨k, C, h1, _⟩ => h1 rfl
  have hμ : μ'.le W0 := fun k x hk => absurd (hinv'.nm k (by simp [hk])) (Nat.not_lt_zero _)
  have hold : ∀ b, b < w.heap.size → w'.heap[b]? = w.heap[b]? := fun b hb => hx.old b hb (hno _ b)
  obtain ⟨I1, hI1⟩ : ∃ I1 : Nat → Prop, ∀ b, I1 b ↔ if z = true then I b else I' b := ⟨_, fun _ => Iff.rfl⟩
  have hII : ∀ b, I b → I1 b := fun b hb => by
    rw [hI1]; split
    · exact hb
    · exact hx.imm b (.inl hb)
  have hv1 : VR I1 W0 w' r' cv := by
    have h1 : VR I' W0 w' r' cv := VR_mono (fun _ h => h) hμ (fun _ _ => rfl) _ _ hv
    by_cases hz : z = true
    · exact free_vr _ (hf hz) _ h1
    · exact VR_mono (fun b hb => by rw [hI1, if_neg hz]; exact hb) (Where.le_refl W0) (fun _ _ => rfl) _ _ h1
  have hkeep : ∀ b, I b → w'.heap[b]? = w.heap[b]? := fun b hb => hold b (hinv.imm b hb).1
  refine ⟨cv, I1, rfl, hv1, ⟨fun b hb => ?_, fun k q hq => ?_, hinv.inj, hinv.nm⟩, ⟨hx.os, hx.tape, hx.output, hx.size, fun b hb _ => hold b hb, hII, fun b hb => ?_, fun b hb => .inl hb, hx.drawn⟩⟩
  · rw [hI1] at hb
    by_cases hz : z = true
    · rw [if_pos hz] at hb
      exact ⟨Nat.lt_of_lt_of_le (hinv.imm b hb).1 hx.size, (hinv.imm b hb).2⟩
    · rw [if_neg hz] at hb
      refine ⟨(hinv'.imm b hb).1, fun hB => ?_⟩
      rcases hx.imm' b hb with h | h | h
      · rcases h with h | ⟨h, -⟩
        · exact (hinv.imm b h).2 hB
        · exact hz h
      · have := hinv.lt hB; omega
      · exact hno _ b h
  · obtain ⟨x, hx1, hrow⟩ := hinv.row k q hq
    refine ⟨x, hx1, ?_⟩
    cases x with
    | none => exact hrow
    | some p =>
      obtain ⟨cs, ty, hh, a1, a2, a3⟩ := hrow
      exact ⟨cs, ty, by rw [hold p.1 (hinv.lt ⟨k, p.2, by simp [hq], hx1⟩)]; exact hh, a1, a2, fun e he => LR_mono hII hkeep _ _ _ (Where.le_refl μ) _ _ _ (fun _ _ => rfl) (a3 e he)⟩
  · rw [hI1] at hb
    split at hb
    · exact .inl hb
    · rename_i hz
      rcases hx.imm' b hb with h | h | h
      · rcases h with h | ⟨h, -⟩
        · exact .inl h
        · exact absurd h hz
      · exact .inr (.inl h)
      · exact absurd h (hno _ b)
theorem call_p {f : FuncId} {args args' : List AVal} {r : AVal} {σ : Heap} {K : AVal → Heap → Prop} (z : Bool) (h : PCalls P f args' r) (hl : Lend σ R0 z args' args) (hf : z = true → r.free) (hK : K r σ) : CallTo P f args σ K := by
  refine ⟨fun r' σ' => r' = r ∧ σ' = σ, ⟨h.1, fun I μ w cargs hinv hA => ?_⟩, by rintro r' σ' ⟨rfl, rfl⟩; exact hK⟩
  refine ((qcalls_p z h hl hf).2 σ I μ w cargs (fun _ _ h => h) hinv hA).mono ?_
  rintro e w' ⟨cv, I', rfl, hv, hi, hx⟩
  exact ⟨cv, r, σ, I', μ, rfl, ⟨rfl, rfl⟩, VR_mono (fun _ h => h) (fun k x hk => by cases hk) (fun _ _ => rfl) _ _ hv, hi, hx, Where.le_refl μ⟩
/-- A call that is lent all rows: what it hands back may speak of them, nobody writes them any more. -/
theorem call_z {f : FuncId} {args args' : List AVal} {r : AVal} {σ : Heap} {K : AVal → Heap → Prop} (h : PCalls P f args' r) (hl : Lend σ R0 true args' args) (hK : K r ⟨σ.nx, []⟩) : CallTo P f args σ K := by
  refine ⟨fun r' σ' => r' = r ∧ σ' = ⟨σ.nx, []⟩, ⟨h.1, fun I μ w cargs hinv hA => ?_⟩, by rintro r' σ' ⟨rfl, rfl⟩; exact hK⟩
  have hH : WkH σ R0 true Heap.nil := ⟨fun k hk => absurd rfl hk, fun k k' k0 h3 => absurd rfl h3, fun k r' hr => by cases hr⟩
  obtain ⟨hia, hba⟩ := Wk.inv hinv hH
  refine (h.2 _ _ w cargs hia (hl.rel hinv hA)).mono ?_
  rintro e w' ⟨cv, r', σ', I', μ', rfl, ⟨rfl, rfl⟩, hv, hinv', hx, hm⟩
  have hno : ∀ (m : Where) b, ¬ Blk m Heap.nil b := fun m b ⟨k, C, h1, _⟩ => h1 rfl
  have hno' : ∀ (m : Where) b, ¬ Blk m ⟨σ.nx, []⟩ b := fun m b ⟨k, C, h1, _⟩ => h1 rfl
  have hμ : μ'.le μ := fun k x hk => absurd (hinv'.nm k (by simp [hk])) (Nat.not_lt_zero _)
  refine ⟨cv, r', ⟨σ.nx, []⟩, I', μ, rfl, ⟨rfl, rfl⟩, VR_mono (fun _ h => h) hμ (fun _ _ => rfl) _ _ hv, ⟨fun b hb => ⟨(hinv'.imm b hb).1, hno' μ b⟩, (fun k q hq => nomatch hq), fun k k' b C C' h1 => absurd rfl h1, hinv.nm⟩,
    ⟨hx.os, hx.tape, hx.output, hx.size, fun b hb _ => hx.old b hb (hno _ b), fun b hb => hx.imm b (.inl hb), fun b hb => ?_, fun b hb => absurd hb (hno' μ b), hx.drawn⟩, Where.le_refl μ⟩
  rcases hx.imm' b hb with h | h | h
  · rcases h with h | ⟨-, k, C, h1, h2, -⟩
    · exact .inl h
    · exact .inr (.inr ⟨k, C, h1, h2⟩)
  · exact .inr (.inl h)
  · exact absurd h (hno _ b)
/-- A call in an open region. -/
theorem qcall_p {f : FuncId} {args args' : List AVal} {r : AVal} {σ : Heap} {K : AVal → Prop} {g : Bool} (z : Bool) (h : g = true → PCalls P f args' r) (hl : g = true → Lend σ R0 z args' args) (hf : z = true → r.free) (hK : K r) : QCall P g f args σ K :=
  ⟨r, fun hg => qcalls_p z (h hg) (hl hg) hf, hK⟩
/-- A call that is handed rows, or hands some back. -/
theorem call_r {f : FuncId} {args args' : List AVal} {r : AVal} {σ σa σr : Heap} {K : AVal → Heap → Prop} (z : Bool) (ks : List Nat) (h : MCalls P f args' σa r σr) (hl : Lend σ (rho ks) z args' args) (hH : WkH σ (rho ks) z σa) (hn : σa.nx = ks.length)
    (hnd : ks.Nodup) (hlt : ∀ j ∈ ks, j < σ.nx) (hz : z = true → r.free ∧ ∀ k q, σr.get k = some q → ∀ v ∈ q.l, v.free) (hK : K (r.ren (kap ks σ.nx)) (mergeH σ ks σr)) : CallTo P f args σ K :=
  call_m z ks h hl hH hn hnd hlt (fun hz1 r' σ' hr => by obtain ⟨rfl, rfl⟩ := hr; exact hz hz1) (by rintro r' σ' ⟨rfl, rfl⟩; exact hK)
/-- A call that is handed rows, or hands one back, among others in any order. -/
theorem rcall_r {f : FuncId} {args args' : List AVal} {r : AVal} {σ σa σr : Heap} {p : Nat} {K : AVal → Heap → Prop} (z : Bool) (ks : List Nat) (h : MCalls P f args' σa r σr) (hl : Lend σ (rho ks) z args' args) (hH : WkH σ (rho ks) z σa) (hn : σa.nx = ks.length)
    (hnd : ks.Nodup) (hlt : ∀ j ∈ ks, j < σ.nx ∧ j ∈ argNames args) (hr : (decide (σr.nx ≤ ks.length + 1) && σr.rows.all fun x => decide (x.1 ≤ ks.length)) = true) (hz : z = true → r.free ∧ ∀ k q, σr.get k = some q → ∀ v ∈ q.l, v.free)
    (hK : K (r.ren (kap ks p)) (mergeP σ ks σr p)) : RCall P f args σ p K :=
  ⟨z, ks, args', σa, σr, r, h, hl, hH, hn, hnd, hlt, by simpa using hr, hz, hK⟩
@[go_sem] theorem mergeP_mk (n n' p : Nat) (τ τ' : Rows) (ks : List Nat) : mergeP ⟨n, τ⟩ ks ⟨n', τ'⟩ p = ⟨n, mapN ks p τ' ++ delN ks τ⟩ := rfl
@[go_sem] theorem lend_nil (σ : Heap) (ρ : Ren) (z : Bool) : Lend σ ρ z [] [] = True := rfl
@[go_sem] theorem lend_cons (σ : Heap) (ρ : Ren) (z : Bool) (v u : AVal) (vs us : List AVal) : Lend σ ρ z (v :: vs) (u :: us) = (WkV σ ρ z v u ∧ Lend σ ρ z vs us) := rfl
/-- rows handed over, one by one -/
def HandR (σ : Heap) (ks : List Nat) (z : Bool) : Rows → Prop
  | [] => True
  | (j, .one r) :: τ => (j < ks.length ∧ WkR σ (rho ks) z (j, 0) r) ∧ HandR σ ks z τ
  | _ => False
theorem HandR.get {σ : Heap} {ks : List Nat} {z : Bool} : ∀ {τ : Rows}, HandR σ ks z τ → ∀ k r, rget τ k = some r → WkR σ (rho ks) z k r
  | [], _, k, r, hr => by cases hr
  | (j, .one q) :: τ, h, k, r, hr => by
    simp only [rget, Ent.get] at hr
    split at hr
    · rename_i hk
      split at hr
      · rename_i h0
        simp only [Option.some_or] at hr
        cases hr
        have : k = (j, 0) := Prod.ext hk h0
        rw [this]; exact h.1.2
      · simp only [Option.none_or] at hr; exact h.2.get k r hr
    · exact h.2.get k r hr
  | (j, .fam f) :: τ, h, k, r, hr => h.elim
theorem wkH_rho {σ σa : Heap} {ks : List Nat} {z : Bool} (hnd : ks.Nodup) (hn : σa.nx = ks.length) (h : HandR σ ks z σa.rows) : WkH σ (rho ks) z σa := by
  refine ⟨fun k hk => ?_, fun k k' k0 _ _ h3 h4 => ?_, fun k r hr => h.get k r hr⟩
  · simp only [rho] at hk
    split at hk
    · rw [hn]; assumption
    · exact absurd rfl hk
  · simp only [rho] at h3 h4
    split at h3 <;> first | (cases h3; done) | skip
    split at h4 <;> first | (cases h4; done) | skip
    rename_i l1 l2
    have e3 := Option.some.inj (Option.some.inj h3)
    have e4 := Option.some.inj (Option.some.inj h4)
    rw [← e3] at e4
    obtain ⟨e5, e6⟩ := Prod.mk.inj e4
    have := idxOf_get hnd k.1 l1
    rw [← e5, idxOf_get hnd k'.1 l2] at this
    exact Prod.ext this.symm e6.symm
@[go_sem] theorem hand_nil (σ : Heap) (ks : List Nat) (z : Bool) : HandR σ ks z [] = True := rfl
@[go_sem] theorem hand_one (σ : Heap) (ks : List Nat) (z : Bool) (j : Nat) (r : Row) (τ : Rows) : HandR σ ks z ((j, .one r) :: τ) = ((j < ks.length ∧ WkR σ (rho ks) z (j, 0) r) ∧ HandR σ ks z τ) := rfl
end Go.Nw
