/- The named walk, part 16: values of types: numbers, strings, lists. -/
import Derived.Test.YtngdglmimlfefaaNwUse
namespace Go.Nw
set_option linter.unusedVariables false
set_option linter.unusedSimpArgs false
variable {P : Program}
@[reducible] def encI (n : Int) : AVal := .int .i64 n
@[reducible] def encU (n : Int) : AVal := .int .u8 n
@[reducible] def encS (s : ByteArray) : AVal := .str s
@[reducible] def encB (b : Bool) : AVal := .bool b
@[go_sem] theorem encI_eq (n : Int) : encI n = .int .i64 n := rfl
@[go_sem] theorem encU_eq (n : Int) : encU n = .int .u8 n := rfl
@[go_sem] theorem encS_eq (s : ByteArray) : encS s = .str s := rfl
@[go_sem] theorem encB_eq (b : Bool) : encB b = .bool b := rfl
/-- Encoded values name no row. -/
class Nml {α : Type} (enc : α → AVal) : Prop where
  nm : ∀ a, (enc a).nameless
  ren : ∀ κ a, (enc a).ren κ = enc a
instance : Nml encI := ⟨fun _ => trivial, fun _ _ => rfl⟩
instance : Nml encU := ⟨fun _ => trivial, fun _ _ => rfl⟩
instance : Nml encS := ⟨fun _ => trivial, fun _ _ => rfl⟩
instance : Nml encB := ⟨fun _ => trivial, fun _ _ => rfl⟩
/-- A slice of what is encoded. -/
def encL {α : Type} [Inhabited α] (sz : Nat) (enc : α → AVal) (l : List α) : AVal := .sl sz l.length fun i => enc (l.getD i default)
section
variable {α : Type} [Inhabited α] (sz : Nat) (enc : α → AVal) (l : List α)
instance : Nml (encL sz enc) := ⟨fun _ => trivial, fun _ _ => rfl⟩
@[go_sem] theorem len_L : lenF false (encL sz enc l) = (True, .int .i64 l.length) := by simp [encL, lenF]
@[go_sem] theorem index_L (s' : Nat) (k : IntKind) (j : Int) : indexF s' (encL sz enc l) (.int k j) = ((0 ≤ j ∧ j < l.length) ∧ sz = s', .iptr (enc (l.getD j.toNat default)) 0) := rfl
theorem getD_take_drop {α : Type} [Inhabited α] (l : List α) (a b i : Nat) (h : i < b - a) : ((l.take b).drop a).getD i default = l.getD (a + i) default := by
  simp only [List.getD_eq_getElem?_getD, List.getElem?_drop]
  rw [List.getElem?_take_of_lt (by omega)]
/-- a slice of a list is a list's -/
@[go_sem] theorem slice_L (b : Bool) (s' : Nat) (lo hi : Option AVal) : sliceF b s' (encL sz enc l) lo hi = ((b = false ∧ sz = s') ∧ (boundF l.length l.length hi).1 ∧ (boundF (boundF l.length l.length hi).2 0 lo).1, encL sz enc ((l.take (boundF l.length l.length hi).2).drop (boundF (boundF l.length l.length hi).2 0 lo).2)) := by
  simp only [encL, sliceF]
  congr 1
  generalize (boundF l.length l.length hi).2 = h
  generalize (boundF h 0 lo).2 = a
  have hl : ((l.take h).drop a).length = min h l.length - a := by simp
  rw [hl]
  congr 1
  funext i
  by_cases hi : i < min h l.length - a
  · rw [if_pos hi, getD_take_drop l a h i (by omega)]
  · rw [if_neg hi]
    congr 1
    simp only [List.getD_eq_getElem?_getD]
    rw [List.getElem?_eq_none (by omega), List.getElem?_eq_none (by omega)]
@[go_sem] theorem cells_L : (encL sz enc l).cells = 1 := rfl
@[go_sem] theorem known_L : (encL sz enc l).known = true := rfl
@[go_sem] theorem leaf_L : (encL sz enc l).leaf = true := by rw [encL]; rfl
@[go_sem] theorem strip_L : (encL sz enc l).strip = encL sz enc l := rfl
@[go_sem] theorem okw_L (g : Bool) : (encL sz enc l).okw g = True := rfl
@[go_sem] theorem part_L (o n : Nat) (a : Bool) : (encL sz enc l).part o n a = encL sz enc l := rfl
@[go_sem] theorem pok_L (o n : Nat) (a : Bool) : partOk (encL sz enc l) o n a = (o = 0 ∧ a = false) := rfl
@[go_sem] theorem namesA_L : namesA (encL sz enc l) = [] := rfl
@[go_sem] theorem nm_L : (encL sz enc l).nameless = True := rfl
@[go_sem] theorem ren_L (κ : Key → Key) : (encL sz enc l).ren κ = encL sz enc l := rfl
@[go_sem] theorem cut0_L (t : TypeId) (k k' : IntKind) (σ : Heap) (p : Nat) : cut0F P t (encL sz enc l) (.int k 0) (.int k' 0) σ p = (strT P t = false, .sref (p, 0) 0 (szT P (elT P t)) 0, σ.put p ⟨szT P (elT P t), zeroT P (elT P t), []⟩) := rfl
theorem range_map_getD (l : List α) (f : α → AVal) : (List.range l.length).map (fun i => f (l.getD i default)) = l.map f := by
  apply List.ext_getElem
  · simp
  · intro i h1 h2
    have hi : i < l.length := by simpa using h1
    simp [hi]
@[go_sem] theorem readS_L (s' : Nat) (σ : Heap) : readS s' σ (encL sz enc l) = (sz = s', l.map enc) := by
  simp only [encL, readS, range_map_getD]
@[go_sem] theorem bin_eqL (t : TypeId) : binT P t .eql (encL sz enc l) .nilsl = (slT P t = true ∧ True, if l.length = 0 then .anyb else .bool false) := rfl
@[go_sem] theorem bin_neL (t : TypeId) : binT P t .neq (encL sz enc l) .nilsl = (slT P t = true ∧ True, notA (if l.length = 0 then .anyb else .bool false)) := rfl
@[go_sem] theorem mkL_L (m : List AVal) : mkL (encL sz enc l :: m) = mkP (encL sz enc) [l] m := rfl
end
@[go_sem] theorem mkL_I (n : Int) (l : List AVal) : mkL (.int .i64 n :: l) = mkP encI [n] l := rfl
@[go_sem] theorem mkP_I (acc : List Int) (n : Int) (l : List AVal) : mkP encI acc (.int .i64 n :: l) = mkP encI (acc ++ [n]) l := mkP_cons encI acc n l
@[go_sem] theorem mkL_S (n : ByteArray) (l : List AVal) : mkL (.str n :: l) = mkP encS [n] l := rfl
@[go_sem] theorem mkP_S (acc : List ByteArray) (n : ByteArray) (l : List AVal) : mkP encS acc (.str n :: l) = mkP encS (acc ++ [n]) l := mkP_cons encS acc n l
@[go_sem] theorem mkL_B (n : Bool) (l : List AVal) : mkL (.bool n :: l) = mkP encB [n] l := rfl
@[go_sem] theorem mkP_B (acc : List Bool) (n : Bool) (l : List AVal) : mkP encB acc (.bool n :: l) = mkP encB (acc ++ [n]) l := mkP_cons encB acc n l
@[go_sem] theorem strip_iptr' (v : AVal) (o : Nat) : (AVal.iptr v o).strip = .iptr v o := rfl

/-! Rows of what is encoded. -/
section
variable {α : Type} {enc : α → AVal} (l : List α)
@[go_sem] theorem getD_row [Inhabited α] (e : Nat) : (l.map enc).getD e (enc default) = enc (l.getD e default) := by
  simp only [List.getD_eq_getElem?_getD, List.getElem?_map]
  cases l[e]? <;> rfl
@[go_sem] theorem getD_rowL {α : Type} [Inhabited α] (sz : Nat) (enc : α → AVal) (l : List (List α)) (e : Nat) : (l.map (encL sz enc)).getD e (encL sz enc []) = encL sz enc (l.getD e []) := getD_row (enc := encL sz enc) l e
@[go_sem] theorem getD_rowI (l : List Int) (e : Nat) : (l.map encI).getD e (.int .i64 0) = .int .i64 (l.getD e 0) := getD_row (enc := encI) l e
@[go_sem] theorem getD_rowS (l : List ByteArray) (e : Nat) : (l.map encS).getD e (.str ByteArray.empty) = .str (l.getD e ByteArray.empty) := getD_row (enc := encS) l e
@[go_sem] theorem getD_rowB (l : List Bool) (e : Nat) : (l.map encB).getD e (.bool false) = .bool (l.getD e false) := getD_row (enc := encB) l e
@[go_sem] theorem take_row (n : Nat) : (l.map enc).take n = (l.take n).map enc := by rw [List.map_take]
@[go_sem] theorem drop_row (n : Nat) : (l.map enc).drop n = (l.drop n).map enc := by rw [List.map_drop]
@[go_sem] theorem set_row (e : Nat) (a : α) : (l.map enc).set e (enc a) = (l.set e a).map enc := by rw [List.map_set]
@[go_sem] theorem set_rowI (l : List Int) (e : Nat) (a : Int) : (l.map encI).set e (.int .i64 a) = (l.set e a).map encI := by rw [List.map_set]
@[go_sem] theorem set_rowB (l : List Bool) (e : Nat) (a : Bool) : (l.map encB).set e (.bool a) = (l.set e a).map encB := by rw [List.map_set]
@[go_sem] theorem set_rowS (l : List ByteArray) (e : Nat) (a : ByteArray) : (l.map encS).set e (.str a) = (l.set e a).map encS := by rw [List.map_set]
@[go_sem] theorem app_row (m : List α) : l.map enc ++ m.map enc = (l ++ m).map enc := by rw [List.map_append]
@[go_sem] theorem ren_row [Nml enc] (κ : Key → Key) : (l.map enc).map (AVal.ren κ) = l.map enc := by
  rw [List.map_map]
  exact List.map_congr_left fun a _ => Nml.ren κ a
theorem len_take (l : List AVal) (n : Nat) (h : n = l.length) : l.take n = l := by rw [h, List.take_length]
attribute [go_sem] List.take_length List.take_zero List.drop_zero List.take_succ_cons
end
/-- a row of the own, lent or kept for good -/
theorem wkv_own {α : Type} [Inhabited α] {σ : Heap} {ρ : Ren} {k : Key} {sz n : Nat} {d : AVal} {enc : α → AVal} [Nml enc] {l : List α} (hr : σ.get k = some ⟨sz, d, l.map enc⟩) (hb : ∀ k', ρ k' ≠ some (some k)) (hn : n = l.length) : WkV σ ρ true (encL sz enc l) (.sref k 0 sz n) := by
  subst hn
  refine .ref_sl k 0 sz _ _ _ rfl hb hr rfl (by simp) (fun i _ => Nml.nm _) fun i hi => ?_
  have hg : (l.map enc).getD (0 + i) d = enc (l.getD i default) := by
    simp only [Nat.zero_add, List.getD_eq_getElem?_getD, List.getElem?_map, List.getElem?_eq_getElem hi]; rfl
  simp only [hg]
  exact .same _ (Nml.nm _)
/-- a part of a row of the own -/
theorem wkv_part {α : Type} [Inhabited α] {σ : Heap} {ρ : Ren} {k : Key} {sz e n : Nat} {d : AVal} {enc : α → AVal} [Nml enc] {l : List α} (hr : σ.get k = some ⟨sz, d, l.map enc⟩) (hb : ∀ k', ρ k' ≠ some (some k)) (hn : e + n ≤ l.length) : WkV σ ρ true (encL sz enc ((l.drop e).take n)) (.sref k e sz n) := by
  have hl : ((l.drop e).take n).length = n := by simp; omega
  unfold encL
  rw [hl]
  refine .ref_sl k e sz _ _ _ rfl hb hr rfl (by simpa using hn) (fun i _ => Nml.nm _) fun i hi => ?_
  have hg : (l.map enc).getD (e + i) d = enc (((l.drop e).take n).getD i default) := by
    simp only [List.getD_eq_getElem?_getD, List.getElem?_map]
    rw [List.getElem?_take_of_lt hi, List.getElem?_drop, List.getElem?_eq_getElem (by omega)]; rfl
  simp only [hg]
  exact .same _ (Nml.nm _)
theorem wkv_nilL {α : Type} [Inhabited α] {σ : Heap} {ρ : Ren} {z : Bool} {sz : Nat} {enc : α → AVal} : WkV σ ρ z (encL sz enc ([] : List α)) .nilsl := .nil_sl _ _
/-- a variable of the own, lent -/
theorem wkv_box {σ : Heap} {ρ : Ren} {k : Key} {sz o : Nat} {d v u : AVal} (hr : σ.get k = some ⟨sz, d, [u]⟩) (hb : ∀ k', ρ k' ≠ some (some k)) (hc : v.cells = sz) (hv : v.nameless) (h : WkV σ ρ true v u) : WkV σ ρ true (.iptr v o) (.ptr k sz 0 o) :=
  .iptr k sz 0 o v _ rfl hb hr rfl Nat.one_pos hc hv h
theorem wkv_fn {σ : Heap} {ρ : Ren} {z : Bool} {g : Nat} {l m : List AVal} (hl : ∀ v ∈ l, v.leaf = true) (h : Lend σ ρ z l m) : WkV σ ρ z (fn g l) (fn g m) := by
  obtain ⟨h1, h2⟩ := h.get
  unfold fn
  rw [← h1]
  refine .fn g _ _ _ (fun i hi => ?_) fun i hi => h2 i hi
  have : ∀ (l : List AVal) (i : Nat), i < l.length → lst l i ∈ l := by
    intro l
    induction l with
    | nil => intro i h; simp at h
    | cons a l ih => intro i h; cases i with
      | zero => exact List.mem_cons_self
      | succ i => exact List.mem_cons_of_mem _ (ih i (by simpa using h))
  exact hl _ (this l i hi)
theorem wkv_tup {σ : Heap} {ρ : Ren} {z : Bool} {l m : List AVal} (h : Lend σ ρ z l m) : WkV σ ρ z (tup l) (tup m) := by
  obtain ⟨h1, h2⟩ := h.get
  unfold tup
  rw [← h1]
  exact .tup _ _ _ fun i hi => h2 i hi
theorem wkv_agg {σ : Heap} {ρ : Ren} {z : Bool} {l m : List AVal} (hl : ∀ v ∈ l, v.leaf = true) (h : Lend σ ρ z l m) : WkV σ ρ z (agg l) (agg m) := by
  obtain ⟨h1, h2⟩ := h.get
  unfold agg
  rw [← h1]
  refine .agg _ _ _ (fun i hi => ?_) fun i hi => h2 i hi
  have : ∀ (l : List AVal) (i : Nat), i < l.length → lst l i ∈ l := by
    intro l
    induction l with
    | nil => intro i h; simp at h
    | cons a l ih => intro i h; cases i with
      | zero => exact List.mem_cons_self
      | succ i => exact List.mem_cons_of_mem _ (ih i (by simpa using h))
  exact hl _ (this l i hi)
/-- rows kept -/
theorem wkR_typed {α : Type} {σ : Heap} {ρ : Ren} {z : Bool} {j j0 sz : Nat} {d d0 : AVal} {us : List AVal} {enc : α → AVal} [Nml enc] {l : List α} (h1 : ρ (j, 0) = some (some (j0, 0))) (h2 : σ.get (j0, 0) = some ⟨sz, d0, us⟩) (h3 : us = l.map enc) : WkR σ ρ z (j, 0) ⟨sz, d, l.map enc⟩ := by
  subst h3
  refine .inr ⟨_, _, h1, h2, Nat.le_refl _, rfl, fun i hi => ?_⟩
  have hi' : i < l.length := by simpa using hi
  have hg : ∀ d, (l.map enc).getD i d = enc l[i] := fun d => by simp [hi']
  rw [hg, hg]
  exact .same _ (Nml.nm _)
theorem wkR_take {α : Type} {σ : Heap} {ρ : Ren} {z : Bool} {j j0 sz n : Nat} {d d0 : AVal} {us : List AVal} {enc : α → AVal} [Nml enc] {l : List α} (h1 : ρ (j, 0) = some (some (j0, 0))) (h2 : σ.get (j0, 0) = some ⟨sz, d0, us⟩) (h3 : us = l.map enc) : WkR σ ρ z (j, 0) ⟨sz, d, (l.take n).map enc⟩ := by
  subst h3
  refine .inr ⟨_, _, h1, h2, by simp; omega, rfl, fun i hi => ?_⟩
  have hi' : i < l.length := by simp at hi; omega
  have hi2 : i < (l.take n).length := by simpa using hi
  have hn : i < n := by rw [List.length_take] at hi2; omega
  have e1 : ((l.take n).map enc).getD i d = enc l[i] := by rw [List.getD, List.getElem?_map, List.getElem?_take_of_lt hn, List.getElem?_eq_getElem hi']; rfl
  have e2 : (l.map enc).getD i d0 = enc l[i] := by simp [List.getD, List.getElem?_eq_getElem hi']
  show WkV σ ρ z (((l.take n).map enc).getD i d) ((l.map enc).getD i d0)
  rw [e1, e2]
  exact .same _ (Nml.nm _)
theorem wkR_box {σ : Heap} {ρ : Ren} {z : Bool} {j j0 sz : Nat} {d d0 v u : AVal} (h1 : ρ (j, 0) = some (some (j0, 0))) (h2 : σ.get (j0, 0) = some ⟨sz, d0, [u]⟩) (h : WkV σ ρ z v u) : WkR σ ρ z (j, 0) ⟨sz, d, [v]⟩ := by
  refine .inr ⟨_, _, h1, h2, Nat.le_refl _, rfl, fun i hi => ?_⟩
  obtain rfl : i = 0 := by simpa using hi
  exact h
theorem wkR_nil {σ : Heap} {ρ : Ren} {z : Bool} {j sz : Nat} {d : AVal} (h1 : ρ (j, 0) = some none) : WkR σ ρ z (j, 0) ⟨sz, d, []⟩ := .inl ⟨h1, rfl⟩
theorem wkR_nilT {α : Type} {σ : Heap} {ρ : Ren} {z : Bool} {j sz : Nat} {d : AVal} {enc : α → AVal} (h1 : ρ (j, 0) = some none) : WkR σ ρ z (j, 0) ⟨sz, d, ([] : List α).map enc⟩ := .inl ⟨h1, rfl⟩
theorem rho_none {ks : List Nat} {j i : Nat} (h : ¬ j ∈ ks) (k' : Key) : rho ks k' ≠ some (some (j, i)) := by
  intro e
  simp only [rho] at e
  split at e
  · rename_i hl
    have := (Prod.mk.inj (Option.some.inj (Option.some.inj e))).1
    exact h (by rw [← this]; simp [hl])
  · cases e
theorem R0_ne (k k' : Key) : R0 k' ≠ some (some k) := nofun
/-- A walked loop: 'step' is a round, in numbers and lists. -/
def iterN {S E : Type} (step : S → Option (S ⊕ E)) : Nat → S → Option E
  | 0, _ => none
  | n + 1, s => match step s with
    | none => none
    | some (.inl s') => iterN step n s'
    | some (.inr e) => some e
open Classical in
noncomputable def loopO {S E : Type} (step : S → Option (S ⊕ E)) (s : S) : Option E := if h : ∃ n e, iterN step n s = some e then iterN step h.choose s else none
theorem iterN_mono {S E : Type} {step : S → Option (S ⊕ E)} : ∀ {n m : Nat} {s : S} {e : E}, iterN step n s = some e → n ≤ m → iterN step m s = some e
  | 0, _, s, e, h, _ => by cases h
  | n + 1, 0, s, e, h, hl => by omega
  | n + 1, m + 1, s, e, h, hl => by
    simp only [iterN] at h ⊢
    cases hs : step s with
    | none => rw [hs] at h; cases h
    | some o =>
      rw [hs] at h
      cases o with
      | inl s' => exact iterN_mono (n := n) (m := m) h (by omega)
      | inr e' => exact h
theorem loopO_iter {S E : Type} {step : S → Option (S ⊕ E)} {s : S} {e : E} : loopO step s = some e ↔ ∃ n, iterN step n s = some e := by
  unfold loopO
  constructor
  · intro h
    split at h
    · exact ⟨_, h⟩
    · cases h
  · rintro ⟨n, h⟩
    have hex : ∃ n e, iterN step n s = some e := ⟨n, e, h⟩
    rw [dif_pos hex]
    obtain ⟨e', he'⟩ := hex.choose_spec
    have h1 := iterN_mono he' (Nat.le_max_left hex.choose n)
    have h2 := iterN_mono h (Nat.le_max_right hex.choose n)
    rw [h1] at h2; cases h2; exact he'
theorem loopO_inl {S E : Type} {step : S → Option (S ⊕ E)} {s s' : S} (h : step s = some (.inl s')) : loopO step s = loopO step s' := by
  apply Option.ext
  intro e
  rw [loopO_iter, loopO_iter]
  constructor
  · rintro ⟨n, hn⟩
    cases n with
    | zero => cases hn
    | succ n => simp only [iterN, h] at hn; exact ⟨n, hn⟩
  · rintro ⟨n, hn⟩
    exact ⟨n + 1, by simp only [iterN, h]; exact hn⟩
theorem loopO_inr {S E : Type} {step : S → Option (S ⊕ E)} {s : S} {e : E} (h : step s = some (.inr e)) : loopO step s = some e := loopO_iter.2 ⟨1, by simp only [iterN, h]⟩
/-- the way on to the next round -/
def NextL {S : Type} (c0 : Nat) (N : S → Prop) (ts : S → Slots) (hs : S → Heap) (τ : Slots) (σ : Heap) : Prop := ∃ s', N s' ∧ Wk c0 τ σ (ts s') (hs s')
@[congr] theorem nextL_congr {S : Type} (c0 : Nat) (N : S → Prop) (ts : S → Slots) (hs : S → Heap) {τ τ' : Slots} {σ σ' : Heap} (h1 : τ = τ') (h2 : σ = σ') : NextL c0 N ts hs τ σ = NextL c0 N ts hs τ' σ' := by rw [h1, h2]
theorem nextL {S : Type} {c0 : Nat} {N : S → Prop} {ts : S → Slots} {hs : S → Heap} {τ : Slots} {σ : Heap} {s' : S} (h : N s') (k : Wk c0 τ σ (ts s') (hs s')) : NextL c0 N ts hs τ σ := ⟨s', h, k⟩
/-- A loop, walked: what it comes to in numbers and lists is what it comes to. -/
theorem loop_w {cf : Cfg} {body : (AExit → Slots → Heap → Prop) → Slots → Heap → Prop} {Q : AExit → Slots → Heap → Prop} {τ : Slots} {σ : Heap} {S E : Type} {step : S → Option (S ⊕ E)} {s : S} {e : E} (h : loopO step s = some e) (ts : S → Slots) (hs : S → Heap)
    (hw : Wk cf.c0 τ σ (ts s) (hs s))
    (hb : ∀ (N : S → Prop) s o, step s = some o → (∀ e', o = .inr e' → e' = e) → (∀ s', o = .inl s' → N s') → body (AExit.then (NextL cf.c0 N ts hs) Q) (ts s) (hs s)) : Loop cf body Q τ σ := by
  obtain ⟨n0, hn0⟩ := loopO_iter.1 h
  refine ⟨fun n τ σ => ∃ s, iterN step n s = some e ∧ τ = ts s ∧ σ = hs s, ⟨n0, _, _, hw, s, hn0, rfl, rfl⟩, ?_⟩
  rintro n τ σ ⟨s, hn, rfl, rfl⟩
  cases n with
  | zero => cases hn
  | succ n =>
    simp only [iterN] at hn
    have heq : (fun τ' σ' => ∃ m τ'' σ'', Wk cf.c0 τ' σ' τ'' σ'' ∧ (∃ s, iterN step m s = some e ∧ τ'' = ts s ∧ σ'' = hs s) ∧ m < n + 1) = NextL cf.c0 (fun s' => iterN step n s' = some e) ts hs := by
      funext τ' σ'
      apply propext
      constructor
      · rintro ⟨m, τ'', σ'', h1, ⟨s', h2, rfl, rfl⟩, h3⟩
        exact ⟨s', iterN_mono h2 (by omega), h1⟩
      · rintro ⟨s', h1, h2⟩
        exact ⟨n, _, _, h2, ⟨s', h1, rfl, rfl⟩, Nat.lt_succ_self n⟩
    rw [heq]
    cases ho : step s with
    | none => rw [ho] at hn; cases hn
    | some o =>
      rw [ho] at hn
      refine hb _ s o ho ?_ ?_
      · rintro e' rfl; cases hn; rfl
      · rintro s' rfl; exact hn
theorem of_guard {α : Type} {c : Prop} [Decidable c] {x : Option α} {b : α} (h : (if c then x else none) = some b) : c ∧ x = some b := by
  split at h
  · exact ⟨by assumption, h⟩
  · cases h
theorem of_bind {α β : Type} {x : Option α} {f : α → Option β} {b : β} (h : x.bind f = some b) : ∃ a, x = some a ∧ f a = some b := Option.bind_eq_some_iff.1 h
theorem ofConst_agg (l : List Value) : ofConst (.agg l.toArray) = agg (l.map leafC) := by
  simp only [ofConst, agg, List.size_toArray, List.length_map]
  congr 1
  funext i
  induction l generalizing i with
  | nil => rfl
  | cons a l ih =>
    cases i with
    | zero => rfl
    | succ i => have := ih i; simpa [lst] using this
@[go_sem] theorem putOk_agg (l : List AVal) (o : Nat) (x : AVal) : putOk (agg l) o x = (o + x.cells ≤ l.length) := rfl
@[go_sem] theorem putOk_aggF (n : Nat) (f : Nat → AVal) (o : Nat) (x : AVal) : putOk (.aggF n f) o x = (o + x.cells ≤ n) := rfl
@[go_sem] theorem putL_agg (l : List AVal) (o : Nat) (x : AVal) (hx : x.leaf = true) : putPart (agg l) o x = .aggF l.length fun j => if j = o then x else lst l j := by cases x <;> first | rfl | cases hx
theorem lst_drop : ∀ (l : List AVal) (o j : Nat), lst (l.drop o) j = lst l (o + j)
  | l, 0, j => by rw [List.drop_zero, Nat.zero_add]
  | [], o + 1, j => by simp [lst]
  | a :: l, o + 1, j => by rw [List.drop_succ_cons, lst_drop l o j, Nat.add_right_comm]; rfl
theorem lst_take : ∀ (l : List AVal) (s j : Nat), lst (l.take s) j = if j < s then lst l j else .undef
  | l, 0, j => by simp [lst]
  | [], s + 1, j => by simp [lst]
  | a :: l, s + 1, 0 => by simp [lst]
  | a :: l, s + 1, j + 1 => by
    rw [List.take_succ_cons]
    show lst (l.take s) j = _
    rw [lst_take l s j]
    by_cases h : j < s
    · rw [if_pos h, if_pos (by omega)]; rfl
    · rw [if_neg h, if_neg (by omega)]
@[go_sem] theorem part_agg (l : List AVal) (o s : Nat) (h : o + s ≤ l.length) : (agg l).part o s true = agg ((l.drop o).take s) := by
  simp only [agg, AVal.part, if_true, List.length_take, List.length_drop]
  rw [Nat.min_eq_left (by omega)]
  congr 1
  funext j
  rw [lst_take, lst_drop]
@[go_sem] theorem pok_aggl (l : List AVal) (o s : Nat) (a : Bool) : partOk (agg l) o s a = (o + s ≤ l.length) := rfl
@[go_sem] theorem part_agg_l (l : List AVal) (o s : Nat) : (agg l).part o s false = lst l o := rfl
theorem lst_set : ∀ (l : List AVal) (o : Nat) (x : AVal) (j : Nat), o < l.length → lst (l.set o x) j = if j = o then x else lst l j
  | [], _, _, _, h => by simp at h
  | a :: l, 0, x, 0, _ => by simp [lst]
  | a :: l, 0, x, j + 1, _ => by simp [lst]
  | a :: l, o + 1, x, 0, _ => by simp [lst]
  | a :: l, o + 1, x, j + 1, h => by
    rw [List.set_cons_succ]
    show lst (l.set o x) j = _
    rw [lst_set l o x j (by simpa using h)]
    by_cases e : j = o
    · rw [if_pos e, if_pos (by omega)]
    · rw [if_neg e, if_neg (by omega)]; rfl
@[go_sem high] theorem putA (l : List AVal) (o : Nat) (x : AVal) (hx : x.leaf = true) (h : o < l.length) : putPart (agg l) o x = agg (l.set o x) := by
  rw [putL_agg l o x hx]
  simp only [agg, List.length_set]
  congr 1
  funext j
  rw [lst_set l o x j h]
@[go_sem] theorem putP_aggs (l l' : List AVal) (h : l'.length = l.length) : putPart (agg l) 0 (agg l') = agg l' := by
  simp only [agg, putPart, h, and_self, if_true]
@[go_sem] theorem leaf_iptr (v : AVal) (o : Nat) : (AVal.iptr v o).leaf = true := rfl
@[go_sem] theorem leaf_int (k : IntKind) (n : Int) : (AVal.int k n).leaf = true := rfl
@[go_sem] theorem leaf_bool (b : Bool) : (AVal.bool b).leaf = true := rfl
@[go_sem] theorem leaf_str (b : ByteArray) : (AVal.str b).leaf = true := rfl
@[go_sem] theorem leaf_nilsl : AVal.nilsl.leaf = true := rfl
@[go_sem] theorem leaf_sref (k : Key) (e s n : Nat) : (AVal.sref k e s n).leaf = true := rfl
@[go_sem] theorem putOk_int (k : IntKind) (n : Int) (o : Nat) (x : AVal) : putOk (.int k n) o x = (o = 0 ∧ x.leaf = true) := rfl
@[go_sem] theorem putOk_bool (b : Bool) (o : Nat) (x : AVal) : putOk (.bool b) o x = (o = 0 ∧ x.leaf = true) := rfl
@[go_sem] theorem putOk_str (b : ByteArray) (o : Nat) (x : AVal) : putOk (.str b) o x = (o = 0 ∧ x.leaf = true) := rfl
@[go_sem] theorem putOk_nilsl (o : Nat) (x : AVal) : putOk .nilsl o x = (o = 0 ∧ x.leaf = true) := rfl
@[go_sem] theorem putOk_sref (k : Key) (e s n : Nat) (o : Nat) (x : AVal) : putOk (.sref k e s n) o x = (o = 0 ∧ x.leaf = true) := rfl
@[go_sem] theorem putOk_L {α : Type} [Inhabited α] (sz : Nat) (enc : α → AVal) (l : List α) (o : Nat) (x : AVal) : putOk (encL sz enc l) o x = (o = 0 ∧ x.leaf = true) := rfl
@[go_sem] theorem putP_int (k : IntKind) (n : Int) (o : Nat) (x : AVal) : putPart (.int k n) o x = x := by cases x <;> rfl
@[go_sem] theorem putP_bool (b : Bool) (o : Nat) (x : AVal) : putPart (.bool b) o x = x := by cases x <;> rfl
@[go_sem] theorem putP_str (b : ByteArray) (o : Nat) (x : AVal) : putPart (.str b) o x = x := by cases x <;> rfl
@[go_sem] theorem putP_nilsl (o : Nat) (x : AVal) : putPart .nilsl o x = x := by cases x <;> rfl
@[go_sem] theorem putP_sref (k : Key) (e s n : Nat) (o : Nat) (x : AVal) : putPart (.sref k e s n) o x = x := by cases x <;> rfl
@[go_sem] theorem putP_L {α : Type} [Inhabited α] (sz : Nat) (enc : α → AVal) (l : List α) (o : Nat) (x : AVal) : putPart (encL sz enc l) o x = x := by cases x <;> rfl
attribute [go_sem] List.drop_zero List.drop_succ_cons List.take_succ_cons List.take_zero List.take_nil List.drop_nil List.set_cons_zero List.set_cons_succ List.length_cons List.length_nil
@[go_sem] theorem repl_rowI (k : Nat) : List.replicate k (AVal.int .i64 0) = (List.replicate k (0 : Int)).map encI := by rw [List.map_replicate]
@[go_sem] theorem repl_rowB (k : Nat) : List.replicate k (AVal.bool false) = (List.replicate k false).map encB := by rw [List.map_replicate]
@[go_sem] theorem repl_rowS (k : Nat) : List.replicate k (AVal.str ByteArray.empty) = (List.replicate k ByteArray.empty).map encS := by rw [List.map_replicate]
@[go_sem] theorem repl_row {α : Type} (enc : α → AVal) (k : Nat) (a : α) : List.replicate k (enc a) = (List.replicate k a).map enc := by rw [List.map_replicate]
/-- whole numbers, sorted -/
def sortI (l : List Int) : List Int := l.mergeSort fun x y => decide (x ≤ y)
theorem sortI_len (l : List Int) : (sortI l).length = l.length := by simp [sortI]
end Go.Nw
