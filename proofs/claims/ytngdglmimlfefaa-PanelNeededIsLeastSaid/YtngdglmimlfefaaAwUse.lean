/- The abstract walk, part 13: what walks are ended and loops are begun with. -/
import Derived.Test.YtngdglmimlfefaaAwSet
namespace Go.Aw
set_option linter.unusedVariables false
set_option linter.unusedSimpArgs false
variable {P : Program}

theorem W64 {n : Int} (h1 : -9223372036854775808 ≤ n) (h2 : n ≤ 9223372036854775807) : W .i64 n = n := by
  have e1 : (2 : Int) ^ 64 = 18446744073709551616 := by decide
  have e2 : (2 : Int) ^ (64 - 1) = 9223372036854775808 := by decide
  simp only [W, IntKind.wrap, IntKind.signed, IntKind.bits, e1, e2, Bool.true_and, decide_eq_true_eq]
  split <;> omega
/-- 'v' may be said instead of 'u', if some rows are written no longer. -/
def Wks (σ : Heap) (v u : AVal) : Prop := ∃ F : Nat → Prop, WkV σ F v u
@[go_sem] theorem wks_same (σ : Heap) (v : AVal) : Wks σ v v = True := eq_true ⟨fun _ => False, .same v⟩
theorem WkH.none (σ : Heap) (F : Nat → Prop) : WkH σ F [] := fun k r h => by simp [Heap.get] at h
theorem ret_p (rs : List ResultVar) (r : AVal) (τ : Slots) (σ : Heap) : Ret P rs (fun r' σ' => r' = r ∧ σ' = []) τ σ = (resC P τ σ rs ∧ Wks σ r (resV (rs.map fun x => (resF P τ σ x).2))) := by
  apply propext
  constructor
  · rintro ⟨h1, r', σ', ⟨F, h2, h3⟩, rfl, rfl⟩; exact ⟨h1, F, h2⟩
  · rintro ⟨h1, F, h2⟩; exact ⟨h1, r, [], ⟨F, h2, WkH.none σ F⟩, rfl, rfl⟩
theorem resC_nil (τ : Slots) (σ : Heap) : resC P τ σ [] = True := rfl
theorem resC_cons (τ : Slots) (σ : Heap) (r : ResultVar) (rs : List ResultVar) : resC P τ σ (r :: rs) = ((resF P τ σ r).1 ∧ resC P τ σ rs) := rfl
theorem resF_tmp (τ : Slots) (σ : Heap) (t : Tmp) : resF P τ σ (.tmp t) = (True, τ.get t) := rfl
theorem resF_cell (τ : Slots) (σ : Heap) (a : Tmp) (t : TypeId) : resF P τ σ (.cell a t) = loadF (szT P t) (aggT P t) σ (τ.get a) := rfl
theorem resV_1 (v : AVal) : resV [v] = v := rfl
theorem resV_0 : resV [] = tup [] := rfl
theorem resV_2 (v u : AVal) (l : List AVal) : resV (v :: u :: l) = tup (v :: u :: l) := rfl
attribute [go_sem] ret_p resC_nil resC_cons resF_tmp resF_cell resV_1 resV_0 resV_2 imp_self implies_true and_imp
/-- Less is said of slots, one by one. -/
def WkL (σ : Heap) (F : Nat → Prop) (τ : Slots) : Slots → Prop
  | [] => True
  | (i, v) :: τ' => WkV σ F v (τ.get i) ∧ WkL σ F τ τ'
theorem WkL.wks {σ : Heap} {F : Nat → Prop} {τ : Slots} : ∀ {τ' : Slots}, WkL σ F τ τ' → WkS σ F τ' τ
  | [], _, i => .undef _
  | (j, v) :: τ', h, i => by
    simp only [Slots.get]
    by_cases hi : i = j
    · rw [if_pos hi, hi]; exact h.1
    · rw [if_neg hi]; exact WkL.wks h.2 i
theorem wk_of {σ σ' : Heap} (F : Nat → Prop) {τ τ' : Slots} (h : WkL σ F τ τ') (h' : WkH σ F σ') : Wk τ σ τ' σ' := ⟨F, h.wks, h'⟩
/-- A loop whose rounds are numbered; what is kept: slots and heap, as they were. -/
theorem loop_of {body : (AExit → Slots → Heap → Prop) → Slots → Heap → Prop} {Q : AExit → Slots → Heap → Prop} {τ : Slots} {σ : Heap} (J : Nat → Slots → Heap → Prop) (n : Nat) (τ' : Slots) (σ' : Heap)
    (hw : Wk τ σ τ' σ') (h0 : J n τ' σ') (h : ∀ n τ σ, J n τ σ → body (AExit.then (fun τ' σ' => ∃ m τ'' σ'', Wk τ' σ' τ'' σ'' ∧ J m τ'' σ'' ∧ m < n) Q) τ σ) : Loop body Q τ σ := ⟨J, ⟨n, τ', σ', hw, h0⟩, h⟩
@[go_sem] theorem wkL_nil (σ : Heap) (F : Nat → Prop) (τ : Slots) : WkL σ F τ [] = True := rfl
@[go_sem] theorem wkL_cons (σ : Heap) (F : Nat → Prop) (τ τ' : Slots) (i : Nat) (v : AVal) : WkL σ F τ ((i, v) :: τ') = (WkV σ F v (τ.get i) ∧ WkL σ F τ τ') := rfl
@[go_sem] theorem wkV_same (σ : Heap) (F : Nat → Prop) (v : AVal) : WkV σ F v v = True := eq_true (.same v)
end Go.Aw
namespace Go.Aw
variable {P : Program}
theorem range_lst (l : List AVal) : (List.range l.length).map (lst l) = l := by
  have : ∀ (k : Nat) (m : List AVal), (∀ j, lst l (k + j) = lst m j) → (List.range' k m.length).map (lst l) = m := by
    intro k m
    induction m generalizing k with
    | nil => intro _; rfl
    | cons a m ih =>
      intro h
      simp only [List.length_cons, List.range'_succ, List.map_cons]
      rw [show lst l k = a from h 0, ih (k + 1) fun j => by rw [Nat.add_assoc, Nat.add_comm 1 j]; exact h (j + 1)]
  rw [List.range_eq_range']
  exact this 0 l fun j => by rw [Nat.zero_add]
theorem callv_fn (g : Nat) (caps args : List AVal) (σ : Heap) (K : AVal → Heap → Prop) : CallV P (fn g caps) args σ K = CallTo P g (args ++ caps) σ K := by
  simp only [CallV, fn, range_lst]
theorem qcallv_fn (b : Bool) (g : Nat) (caps args : List AVal) (σ : Heap) (K : AVal → Prop) : QCallV P b (fn g caps) args σ K = QCall P b g (args ++ caps) σ K := by
  simp only [QCallV, QCall, callv_fn]
theorem known_fn (g : Nat) (caps : List AVal) : (fn g caps).known = true := rfl
theorem cells_fn (g : Nat) (caps : List AVal) : (fn g caps).cells = 1 := rfl
theorem strip_fn (g : Nat) (caps : List AVal) : (fn g caps).strip = fn g caps := rfl
attribute [go_sem] callv_fn qcallv_fn known_fn cells_fn strip_fn List.cons_append List.nil_append
/-- the first at which p is true, or -1 -/
def idxF {α : Type} (p : α → Bool) : List α → Int → Int
  | [], _ => -1
  | a :: l, i => if p a = true then i else idxF p l (i + 1)
theorem drop_get {α : Type} [Inhabited α] {l : List α} {i : Nat} (h : i < l.length) : l.drop i = l.getD i default :: l.drop (i + 1) := by
  rw [List.drop_eq_getElem_cons h]; simp [h]
theorem getD_mem {α : Type} [Inhabited α] {l : List α} {i : Nat} (h : i < l.length) : l.getD i default ∈ l := by
  simp [h]
/-- A call's result leaves the heap as it is. -/
theorem qcall_p {f : FuncId} {args args' : List AVal} {r : AVal} {σ : Heap} {K : AVal → Prop} {g : Bool} (F : Nat → Prop) (h : g = true → PCalls P f args' r) (hl : g = true → Lend σ F args' args) (hf : r.free) (hK : K r) : QCall P g f args σ K :=
  ⟨r, fun hg => call_p F (h hg) (hl hg) hf ⟨rfl, rfl⟩, hK⟩
end Go.Aw
namespace Go.Aw
theorem wkv_fn {σ : Heap} {F : Nat → Prop} {g : Nat} {l m : List AVal} (hl : ∀ v ∈ l, v.leaf = true) (h : Lend σ F l m) : WkV σ F (fn g l) (fn g m) := by
  obtain ⟨h1, h2⟩ := h.get
  unfold fn
  rw [h1]
  refine .fn g _ _ _ (fun i hi => ?_) fun i _ => h2 i
  rw [← h1] at hi
  have : ∀ (l : List AVal) (i : Nat), i < l.length → lst l i ∈ l := by
    intro l
    induction l with
    | nil => intro i h; simp at h
    | cons a l ih => intro i h; cases i with
      | zero => exact List.mem_cons_self
      | succ i => exact List.mem_cons_of_mem _ (ih i (by simpa using h))
  exact hl _ (this l i hi)
theorem wkv_ptr {σ : Heap} {F : Nat → Prop} {b sz e o : Nat} {v : AVal} {r : Row} (hb : F b) (hr : σ.get (some b) = some r) (hs : r.sz = sz) (he : e < r.n) (hc : v.cells = sz) (hv : r.f e = v) : WkV σ F (.iptr v o) (.ptr (some b) sz e o) :=
  .ptr b sz e o v r hb hr hs he hc (hv ▸ .same _)
end Go.Aw
namespace Go.Aw
theorem ofConst_agg (l : List Value) : ofConst (.agg l.toArray) = agg (l.map leafC) := by
  simp only [ofConst, agg, List.size_toArray, List.length_map]
  congr 1
  funext i
  induction l generalizing i with
  | nil => rfl
  | cons a l ih =>
    cases i with
    | zero => rfl
    | succ i => have := ih i; simpa [lst] using this
@[go_sem] theorem putOk_agg (l : List AVal) (o : Nat) (x : AVal) : putOk (agg l) o x = (o + x.cells ≤ l.length) := rfl
@[go_sem] theorem putOk_aggF (n : Nat) (f : Nat → AVal) (o : Nat) (x : AVal) : putOk (.aggF n f) o x = (o + x.cells ≤ n) := rfl
@[go_sem] theorem putL_agg (l : List AVal) (o : Nat) (x : AVal) (hx : x.leaf = true) : putPart (agg l) o x = .aggF l.length fun j => if j = o then x else lst l j := by cases x <;> first | rfl | cases hx
@[go_sem] theorem putL_aggF (n : Nat) (f : Nat → AVal) (o : Nat) (x : AVal) (hx : x.leaf = true) : putPart (.aggF n f) o x = .aggF n fun j => if j = o then x else f j := by cases x <;> first | rfl | cases hx
@[go_sem] theorem pok_agg'' (l : List AVal) (o s : Nat) (a : Bool) : partOk (agg l) o s a = (o + s ≤ l.length) := rfl
@[go_sem] theorem part_agg'' (l : List AVal) (o s : Nat) : (agg l).part o s false = lst l o := rfl
@[go_sem] theorem leaf_int (k : IntKind) (n : Int) : (AVal.int k n).leaf = true := rfl
@[go_sem] theorem leaf_bool (b : Bool) : (AVal.bool b).leaf = true := rfl
@[go_sem] theorem leaf_str (s : ByteArray) : (AVal.str s).leaf = true := rfl
end Go.Aw
namespace Go.Aw
variable {P : Program}
@[go_sem] theorem partsOk_nil (t : TypeId) : partsOk P t [] = True := rfl
@[go_sem] theorem partsOk_cons (t : TypeId) (p : Nat × AVal) (l : List (Nat × AVal)) : partsOk P t (p :: l) = ((p.2.known = true ∧ p.2.cells = szT P (ftyT P t p.1)) ∧ partsOk P t l) := rfl
@[go_sem] theorem part_all (l : List AVal) (n : Nat) (h : n = l.length) : (agg l).part 0 n true = agg l := by
  subst h; simp only [agg, AVal.part, if_true, Nat.zero_add]
@[go_sem] theorem putP_all (l m : List AVal) (h : m.length = l.length) : putPart (agg l) 0 (agg m) = agg m := by
  simp only [agg, putPart, h, and_self, if_true]
end Go.Aw
namespace Go.Aw
variable {P : Program}
/-- A function that only computes; its result may speak of new memory. -/
theorem call_f {f : FuncId} {args args' : List AVal} {r : AVal} {σ : Heap} {K : AVal → Heap → Prop} (h : PCalls P f args r) (hK : K r σ) : CallTo P f args σ K := by
  refine ⟨fun r' σ' => r' = r ∧ σ' = σ, ⟨h.1, fun I w cargs hinv hA => ?_⟩, by rintro r' σ' ⟨rfl, rfl⟩; exact hK⟩
  have hW : WkH σ (fun _ => False) σ := by
    intro k q hq
    cases k with
    | none => exact .inl ⟨rfl, hinv.no q hq⟩
    | some b =>
      obtain ⟨cs, ty, -, h1, -⟩ := hinv.row b q hq
      exact .inr ⟨b, q, rfl, nofun, hq, Nat.le_refl _, h1, Nat.le_refl _, rfl, fun i _ => .same _⟩
  obtain ⟨R, ⟨h1, h2⟩, h3⟩ := call_z (K := fun r' σ' => r' = r ∧ σ' = σ) (fun _ => False) h (Lend.refl σ _ args) hW ⟨rfl, rfl⟩
  refine (h2 I w cargs hinv hA).mono ?_
  rintro e w' ⟨cv, r', σ', I', h4, h5, h6⟩
  exact ⟨cv, r', σ', I', h4, h3 _ _ h5, h6⟩
theorem wkv_tup {σ : Heap} {F : Nat → Prop} {l m : List AVal} (h : Lend σ F l m) : WkV σ F (tup l) (tup m) := by
  obtain ⟨h1, h2⟩ := h.get
  unfold tup
  rw [h1]
  exact .tup _ _ _ fun i _ => h2 i
end Go.Aw
namespace Go.Aw
@[go_sem] theorem bnot_imp (b : Bool) : (b = false → (!b) = true) = True := eq_true fun h => by rw [h]; rfl
/-- so small that no sum overflows -/
def Sm (n : Int) : Prop := -1099511627776 ≤ n ∧ n ≤ 1099511627776
theorem Sm.w2 {a b : Int} (ha : Sm a) (hb : Sm b) : W .i64 (a + b) = a + b ∧ W .i64 (a - b) = a - b := by
  obtain ⟨h1, h2⟩ := ha; obtain ⟨h3, h4⟩ := hb; exact ⟨W64 (by omega) (by omega), W64 (by omega) (by omega)⟩
end Go.Aw
namespace Go.Aw
/-- a row, said with less -/
def WkR (σ : Heap) (F : Nat → Prop) (k : Option Nat) (r' : Row) : Prop :=
  (k = none ∧ r'.n = 0) ∨ ∃ b r, k = some b ∧ ¬ F b ∧ σ.get k = some r ∧ r'.n ≤ r.n ∧ r'.n ≤ r'.cap ∧ r'.cap ≤ r.cap ∧ r'.sz = r.sz ∧ ∀ i, i < r'.n → WkV σ F (r'.f i) (r.f i)
theorem wkH_cons {σ σ' : Heap} {F : Nat → Prop} {k : Option Nat} {r' : Row} (h : WkR σ F k r') (h' : WkH σ F σ') : WkH σ F ((k, r') :: σ') := by
  intro j q hq
  simp only [Heap.get] at hq
  by_cases hj : j = k
  · subst hj; rw [if_pos rfl] at hq; cases hq; exact h
  · rw [if_neg hj] at hq; exact h' j q hq
theorem wkR_row {σ : Heap} {F : Nat → Prop} {k : Option Nat} {r r' : Row} (hr : σ.get k = some r) (h0 : k = none → r'.n = 0) (hF : ∀ b, k = some b → ¬ F b) (h1 : r'.n ≤ r.n) (h2 : r'.n ≤ r'.cap) (h3 : r'.cap ≤ r.cap) (h4 : r'.sz = r.sz)
    (h5 : ∀ i, i < r'.n → WkV σ F (r'.f i) (r.f i)) : WkR σ F k r' := by
  cases k with
  | none => exact .inl ⟨rfl, h0 rfl⟩
  | some b => exact .inr ⟨b, r, rfl, hF b rfl, hr, h1, h2, h3, h4, h5⟩
theorem wkR_same {σ : Heap} {F : Nat → Prop} {b : Nat} {r : Row} (hr : σ.get (some b) = some r) (hF : ¬ F b) (h : r.n ≤ r.cap) : WkR σ F (some b) r :=
  .inr ⟨b, r, rfl, hF, hr, Nat.le_refl _, h, Nat.le_refl _, rfl, fun _ _ => .same _⟩
theorem wkR_none {σ : Heap} {F : Nat → Prop} {r : Row} (h : r.n = 0) : WkR σ F none r := .inl ⟨rfl, h⟩
end Go.Aw
namespace Go.Aw
theorem idxF_le {α : Type} (p : α → Bool) : ∀ (l : List α) (i : Int), 0 ≤ i → idxF p l i = -1 ∨ (i ≤ idxF p l i ∧ idxF p l i < i + l.length)
  | [], i, _ => .inl rfl
  | a :: l, i, hi => by
    simp only [idxF]
    split
    · right; simp only [List.length_cons]; omega
    · rcases idxF_le p l (i + 1) (by omega) with h | h
      · exact .inl h
      · right; simp only [List.length_cons]; omega
/-- A slice of a row of the own, lent or handed back. -/
theorem wkv_L {σ : Heap} {F : Nat → Prop} {k : Option Nat} {sz cap : Nat} {r : Row} {f : Nat → AVal} {n : Nat} (h0 : k = none → n = 0) (hF : ∀ b, k = some b → F b) (hr : σ.get k = some r) (hs : r.sz = sz) (hn : n ≤ r.n)
    (h : ∀ i, i < n → r.f i = f i) : WkV σ F (.sl sz n f) (.sref k 0 sz n cap) := by
  cases k with
  | none => rw [h0 rfl]; exact .ref_nil sz 0 cap f none
  | some b => exact .ref_sl b 0 sz n cap f r (hF b rfl) hr hs (by omega) fun i hi => by rw [Nat.zero_add, h i hi]; exact .same _
end Go.Aw
namespace Go.Aw
theorem get_hd {σ : Heap} {k : Option Nat} {r : Row} : Heap.get ((k, r) :: σ) k = some r := by simp only [Heap.get, if_true]
theorem get_tl {σ : Heap} {k j : Option Nat} {r r' : Row} (h : ¬ k = j) (h' : Heap.get σ k = some r) : Heap.get ((j, r') :: σ) k = some r := by simp only [Heap.get, if_neg h]; exact h'
theorem get_ts {σ : Heap} {k j : Nat} {r r' : Row} (h : ¬ k = j) (h' : Heap.get σ (some k) = some r) : Heap.get ((some j, r') :: σ) (some k) = some r := get_tl (fun e => h (Option.some.inj e)) h'
end Go.Aw
namespace Go.Aw
variable {P : Program}
theorem get_er {σ : Heap} {k j : Option Nat} {r : Row} (h : ¬ k = j) (h' : Heap.get σ k = some r) : Heap.get (σ.erase j) k = some r := by rw [herase_get, if_neg h]; exact h'
/-- where a row lies after 'append': apart from the others -/
theorem apart_new {σ : Heap} {k k' : Option Nat} {b : Nat} {r : Row} (h : k' = k ∨ ∃ b, k' = some b ∧ Heap.notin b σ) (hk : ¬ some b = k) (hr : Heap.get σ (some b) = some r) : ¬ some b = k' ∧ ¬ k' = some b := by
  have : ¬ some b = k' := by
    rcases h with rfl | ⟨c, rfl, hc⟩
    · exact hk
    · intro e; cases Option.some.inj e; rw [notin_iff.1 hc] at hr; cases hr
  exact ⟨this, fun e => this e.symm⟩
theorem append_use {t : TypeId} {k : Option Nat} {sz n cap m : Nat} {g : Nat → AVal} {y : AVal} {σ : Heap} {K : AVal → Heap → Prop} {r : Row} {c : Prop} (f : Nat → AVal) (hread : readS sz σ y = (c, m, g)) (hc : c) (hr : σ.get k = some r) (hcap : cap ≤ r.cap) (hn : n = r.n) (hs : r.sz = sz)
    (hsz : sz = szT P (elT P t)) (hby : (n + m) * (2 * byT P (elT P t)) < 281474976710656) (hf1 : ∀ i, i < n → f i = r.f i) (hf2 : ∀ i, i < m → f (n + i) = g i)
    (hK : ∀ k' cap', (k' = k ∨ ∃ b, k' = some b ∧ Heap.notin b σ) → (k' = none → n + m = 0) → n + m ≤ cap' → K (.sref k' 0 sz (n + m) cap') ((k', ⟨n + m, cap', sz, f⟩) :: σ.erase k)) : Append P t (.sref k 0 sz n cap) y σ K := by
  simp only [Append, hr, hread]
  exact ⟨⟨hc, hcap, trivial, hn, hs, hsz, hby⟩, f, hf1, hf2, fun k' cap' h => hK k' cap' h.1 h.2.1 h.2.2⟩
theorem getD_app {α : Type} [Inhabited α] (l : List α) (a : α) (i : Nat) : (l ++ [a]).getD i default = if i < l.length then l.getD i default else if i = l.length then a else default := by
  simp only [List.getD_eq_getElem?_getD]
  by_cases h : i < l.length
  · rw [if_pos h, List.getElem?_append_left h]
  · rw [if_neg h, List.getElem?_append_right (by omega)]
    by_cases h2 : i = l.length
    · rw [if_pos h2, h2]; simp
    · rw [if_neg h2, List.getElem?_eq_none (by simp; omega)]; rfl
end Go.Aw
namespace Go.Aw
theorem wkv_sl {σ : Heap} {F : Nat → Prop} {sz n m : Nat} {f g : Nat → AVal} (hn : n = m) (h : ∀ i, i < n → f i = g i) : WkV σ F (.sl sz n f) (.sl sz m g) := by
  subst hn; exact .sl_sl sz n f g fun i hi => by rw [h i hi]; exact .same _
end Go.Aw
namespace Go.Aw
theorem wkv_agg {σ : Heap} {F : Nat → Prop} {l m : List AVal} (hl : ∀ v ∈ l, v.leaf = true) (h : Lend σ F l m) : WkV σ F (agg l) (agg m) := by
  obtain ⟨h1, h2⟩ := h.get
  unfold agg
  rw [h1]
  refine .agg _ _ _ (fun i hi => ?_) fun i _ => h2 i
  rw [← h1] at hi
  have : ∀ (l : List AVal) (i : Nat), i < l.length → lst l i ∈ l := by
    intro l
    induction l with
    | nil => intro i h; simp at h
    | cons a l ih => intro i h; cases i with
      | zero => exact List.mem_cons_self
      | succ i => exact List.mem_cons_of_mem _ (ih i (by simpa using h))
  exact hl _ (this l i hi)
end Go.Aw
