/- The named walk, part 20: short steps for printed walks. -/
import Derived.Test.YtngdglmimlfefaaNwRow
namespace Go.Nw
set_option linter.unusedVariables false
section
variable {P : Program}
theorem ways_d {p : Prop} [Decidable p] {X Y : Prop} (h : p → X) (k : ¬ p → Y) : Ways (.bool (decide p)) X Y := ⟨fun e => h (of_decide_eq_true e), fun e => k (of_decide_eq_false e)⟩
theorem ways_n {p : Prop} [Decidable p] {X Y : Prop} (h : ¬ p → X) (k : p → Y) : Ways (.bool (!decide p)) X Y := ⟨fun e => h (of_decide_eq_false (by simpa using e)), fun e => k (of_decide_eq_true (by simpa using e))⟩
theorem if_t {α : Type} {t : Bool} {a b c : α} (h1 : t = true) (h : (if t = true then a else b) = c) : a = c := by rw [if_pos h1] at h; exact h
theorem if_f {α : Type} {t : Bool} {a b c : α} (h1 : t = false) (h : (if t = true then a else b) = c) : b = c := by rw [if_neg (by rw [h1]; exact Bool.false_ne_true)] at h; exact h
theorem if_p {α : Type} {p : Prop} [Decidable p] {a b c : α} (h1 : p) (h : (if p then a else b) = c) : a = c := by rw [if_pos h1] at h; exact h
theorem if_n {α : Type} {p : Prop} [Decidable p] {a b c : α} (h1 : ¬ p) (h : (if p then a else b) = c) : b = c := by rw [if_neg h1] at h; exact h
theorem wkv_sref {σ : Heap} {ρ : Ren} {z : Bool} {k k0 : Key} {e sz n m : Nat} (h : ρ k = some (some k0)) (hn : n = m) : WkV σ ρ z (.sref k e sz n) (.sref k0 e sz m) := by subst hn; exact .sref k k0 e sz n h
theorem wkv_nil {σ : Heap} {ρ : Ren} {z : Bool} {k : Key} {sz n : Nat} (h : ρ k = some none) (hn : n = 0) : WkV σ ρ z (.sref k 0 sz n) .nilsl := by subst hn; exact .nil_ref k sz h
theorem wkv_same {σ : Heap} {ρ : Ren} {z : Bool} {v u : AVal} (h : v.nameless) (e : v = u) : WkV σ ρ z v u := by subst e; exact .same v h
/-- A function that is handed no row, by the walk of its body. -/
theorem pcalls_of {f : FuncId} {fn : Func} {c : Code} {args : List AVal} {r : AVal} (od : Nat → Option (List Nat)) (prs : Nat → List (Nat × Nat)) (hf : P.funcs[f]? = some fn) (hb : fn.body = some c) (hnm : fnOk P f = true)
    (hok : (codeOk P fn.ntmps ⟨0, od, prs⟩ c && fn.results.toList.all (resOk P) && decide (args.length ≤ fn.ntmps)) = true)
    (h : awp P ⟨0, od, prs⟩ c (Ends P 0 fn.results.toList fun r' σ' => r' = r ∧ σ' = Heap.nil) (argSlots 0 args) ⟨0, []⟩) : PCalls P f args r := acalls_of od prs hf hb hnm hok h
theorem wkE {α : Type} {enc : α → AVal} [Nml enc] {σ : Heap} {ρ : Ren} {z : Bool} (a : α) : WkV σ ρ z (enc a) (enc a) := .same _ (Nml.nm a)
theorem nextR {S : Type} {p q : S → Prop} (s : S) (h : p s) (k : q s) : ∃ s, p s ∧ q s := ⟨s, h, k⟩
theorem zend {R E : Type} {p : E → Prop} {e : E} (k : p e) : ∃ e', (Sum.inr e : R ⊕ E) = Sum.inr e' ∧ p e' := ⟨e, rfl, k⟩
theorem lend_self {σ : Heap} {ρ : Ren} {z : Bool} : ∀ {l : List AVal}, nmL l → Lend σ ρ z l l
  | [], _ => trivial
  | _ :: _, h => ⟨.same _ h.1, lend_self h.2⟩
attribute [go_sem] List.cons_append List.nil_append
@[go_sem] theorem append_c {α : Type} (a : α) (l m : List α) : List.append (a :: l) m = a :: List.append l m := rfl
@[go_sem] theorem append_n {α : Type} (m : List α) : List.append [] m = m := rfl
theorem wkv_fnA {σ : Heap} {ρ : Ren} {z : Bool} {g : Nat} {l m : List AVal} (hl : l.all AVal.leaf = true) (h : Lend σ ρ z l m) : WkV σ ρ z (fn g l) (fn g m) := wkv_fn (fun v hv => List.all_eq_true.1 hl v hv) h
theorem wkv_aggA {σ : Heap} {ρ : Ren} {z : Bool} {l m : List AVal} (hl : l.all AVal.leaf = true) (h : Lend σ ρ z l m) : WkV σ ρ z (agg l) (agg m) := wkv_agg (fun v hv => List.all_eq_true.1 hl v hv) h
def frR : Rows → Prop
  | [] => True
  | (_, .one r) :: τ => (∀ v ∈ r.l, v.free) ∧ frR τ
  | _ => False
theorem frR_get : ∀ {τ : Rows} {k : Key} {q : Row}, frR τ → rget τ k = some q → ∀ v ∈ q.l, v.free
  | [], _, _, _, h => by cases h
  | (j, .one r) :: τ, k, q, hf, h => by
    by_cases hk : k.1 = j
    · simp only [rget, hk, if_true] at h
      by_cases h2 : k.2 = 0
      · simp only [Ent.get, h2, if_true, Option.some_or] at h; cases h; exact hf.1
      · simp only [Ent.get, h2, if_false, Option.none_or] at h; exact frR_get hf.2 h
    · simp only [rget] at h; rw [if_neg hk] at h; exact frR_get hf.2 h
  | (_, .fam _) :: _, _, _, hf, _ => hf.elim
@[go_sem] theorem frR_nil : frR [] = True := rfl
/-- values that say nothing of memory -/
class Fre {α : Type} (enc : α → AVal) : Prop where
  fr : ∀ a, (enc a).free
instance : Fre encI := ⟨fun _ => trivial⟩
instance : Fre encU := ⟨fun _ => trivial⟩
instance : Fre encS := ⟨fun _ => trivial⟩
instance : Fre encB := ⟨fun _ => trivial⟩
@[go_sem] theorem frR_one {α : Type} {enc : α → AVal} [Fre enc] (j sz : Nat) (d : AVal) (l : List α) (τ : Rows) : frR ((j, .one ⟨sz, d, l.map enc⟩) :: τ) = frR τ := by
  simp only [frR]
  exact propext ⟨fun h => h.2, fun h => ⟨fun v hv => by obtain ⟨a, -, rfl⟩ := List.mem_map.1 hv; exact Fre.fr a, h⟩⟩
theorem free_rows {r : AVal} {σ : Heap} (h : r.free) (h2 : frR σ.rows) : r.free ∧ ∀ k q, σ.get k = some q → ∀ v ∈ q.l, v.free := ⟨h, fun _ _ hq => frR_get h2 hq⟩
/-- the end of a function that hands rows on -/
def Wkm (c0 : Nat) (σ : Heap) (r : AVal) (σr : Heap) (u : AVal) : Prop := ∃ l, rnOk l (σr.rows.map (·.1)) σr.nx c0 = true ∧ WkV σ (rn l) true r u ∧ WkRs σ (rn l) σr.rows
theorem wkm {c0 : Nat} {σ σr : Heap} {r u : AVal} (l : List (Nat × Option Nat)) (h : rnOk l (σr.rows.map (·.1)) σr.nx c0 = true) (h1 : WkV σ (rn l) true r u) (h2 : WkRs σ (rn l) σr.rows) : Wkm c0 σ r σr u := ⟨l, h, h1, h2⟩
theorem ret_o {c0 : Nat} {rs : List ResultVar} {r : AVal} {σr : Heap} {τ : Slots} {σ : Heap} (h : Ob (resC P τ σ rs) (Wkm c0 σ r σr (resV (resL P τ σ rs)))) : Ret P c0 rs (fun r' σ' => r' = r ∧ σ' = σr) τ σ := by
  obtain ⟨h1, l, h2, h3, h4⟩ := h
  exact ret_m c0 rs r σr τ σ l h2 h1 h3 h4
def ordOf : List (Nat × List Nat) → Nat → Option (List Nat)
  | [], _ => none
  | (i, l) :: r, j => if i = j then some l else ordOf r j
def prsOf : List (Nat × List (Nat × Nat)) → Nat → List (Nat × Nat)
  | [], _ => []
  | (i, l) :: r, j => if i = j then l else prsOf r j
@[go_sem] theorem ordOf_nil (j : Nat) : ordOf [] j = none := rfl
@[go_sem] theorem ordOf_cons (i : Nat) (l : List Nat) (r : List (Nat × List Nat)) (j : Nat) : ordOf ((i, l) :: r) j = if i = j then some l else ordOf r j := rfl
@[go_sem] theorem prsOf_nil (j : Nat) : prsOf [] j = [] := rfl
@[go_sem] theorem prsOf_cons (i : Nat) (l : List (Nat × Nat)) (r : List (Nat × List (Nat × Nat))) (j : Nat) : prsOf ((i, l) :: r) j = if i = j then l else prsOf r j := rfl
end
end Go.Nw
