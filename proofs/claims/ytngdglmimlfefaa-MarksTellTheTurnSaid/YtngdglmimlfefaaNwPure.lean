/- The abstract walk, part 2: what the pure operations come to is what the machine does. -/
import Derived.Test.YtngdglmimlfefaaNwDefs
import Derived.Laws.Cells
import Derived.Laws.Rows
import Derived.ChangeKeysEq
namespace Go.Nw
set_option linter.unusedVariables false
set_option linter.unusedSimpArgs false

/-! Relations are kept. -/
theorem LR_mono {I I' : Nat → Prop} {w w' : World} (hI : ∀ b, I b → I' b) (hw : ∀ b, I b → w'.heap[b]? = w.heap[b]?) :
    ∀ (v : AVal) (μ m' : Where) (hm : μ.le m') (sz : Nat) (c c' : Nat → Option Value), (∀ j < sz, c' j = c j) → LR I μ w v sz c → LR I' m' w' v sz c' := by
  have hcell : ∀ b o, I b → w'.cell? ⟨b, o, none⟩ = w.cell? ⟨b, o, none⟩ := fun b o h => by simp [World.cell?, hw b h]
  have h00 : W0.le W0 := fun _ _ h => h
  intro v
  induction v with
  | undef => intro μ m' hm sz c c' hc h j hj; rw [hc j hj]; exact h j hj
  | bool b => rintro μ m' hm sz c c' hc ⟨rfl, h⟩; exact ⟨rfl, by rw [hc 0 (by omega)]; exact h⟩
  | anyb => rintro μ m' hm sz c c' hc ⟨rfl, b, h⟩; exact ⟨rfl, b, by rw [hc 0 (by omega)]; exact h⟩
  | int k n => rintro μ m' hm sz c c' hc ⟨rfl, h⟩; exact ⟨rfl, by rw [hc 0 (by omega)]; exact h⟩
  | str s => rintro μ m' hm sz c c' hc ⟨rfl, h⟩; exact ⟨rfl, by rw [hc 0 (by omega)]; exact h⟩
  | nilsl => rintro μ m' hm sz c c' hc ⟨rfl, h⟩; exact ⟨rfl, by rw [hc 0 (by omega)]; exact h⟩
  | sl s n f ih =>
    rintro μ m' hm sz c c' hc ⟨rfl, a, cap, h, h'⟩
    refine ⟨rfl, a, cap, by rw [hc 0 (by omega)]; exact h, ?_⟩
    rcases h' with h' | ⟨b, off, ha, hb, hf⟩
    · exact .inl h'
    · exact .inr ⟨b, off, ha, hI b hb, hf.1, fun i hi => ih i W0 W0 h00 s _ _ (fun j _ => hcell b _ hb) (hf.2 i hi)⟩
  | sref k e0 s n => rintro μ m' hm sz c c' hc ⟨rfl, x, a, cap, h, h1, h2⟩; exact ⟨rfl, x, a, cap, hm _ _ h, by rw [hc 0 (by omega)]; exact h1, h2⟩
  | ptr k s e o => rintro μ m' hm sz c c' hc ⟨rfl, b, C, h, h1⟩; exact ⟨rfl, b, C, hm _ _ h, by rw [hc 0 (by omega)]; exact h1⟩
  | iptr v o ih =>
    rintro μ m' hm sz c c' hc ⟨rfl, b, off, h, hb, hv⟩
    exact ⟨rfl, b, off, by rw [hc 0 (by omega)]; exact h, hI b hb, ih W0 W0 h00 _ _ _ (fun j _ => hcell b _ hb) hv⟩
  | aggF n f ih => rintro μ m' hm sz c c' hc ⟨rfl, h⟩; exact ⟨rfl, fun j hj => ⟨(h j hj).1, ih j μ m' hm 1 _ _ (fun _ _ => hc j hj) (h j hj).2⟩⟩
  | tupF n f ih => intro μ m' hm sz c c' hc h; exact h.elim
  | fnF g n caps ih => rintro μ m' hm sz c c' hc ⟨rfl, cs, h, hn, hj⟩; exact ⟨rfl, cs, by rw [hc 0 (by omega)]; exact h, hn, fun j hj' => ⟨(hj j hj').1, ih j μ m' hm 1 _ _ (fun _ _ => rfl) (hj j hj').2⟩⟩
  | when g v ih => intro μ m' hm sz c c' hc h; exact h.elim
theorem Where.le_refl (μ : Where) : μ.le μ := fun _ _ h => h
theorem Where.le_trans {μ m' m'' : Where} (h : μ.le m') (h' : m'.le m'') : μ.le m'' := fun k x hk => h' k x (h k x hk)

theorem VR_mono {I I' : Nat → Prop} {μ m' : Where} {w w' : World} (hI : ∀ b, I b → I' b) (hm : μ.le m') (hw : ∀ b, I b → w'.heap[b]? = w.heap[b]?) :
    ∀ (v : AVal) (cv : Value), VR I μ w v cv → VR I' m' w' v cv := by
  intro v
  induction v with
  | undef => intros; trivial
  | when g v ih => intro cv h; exact ⟨fun hg => ih cv (h.1 hg), h.2⟩
  | tupF n f ih => rintro cv ⟨vs, rfl, hn, h⟩; exact ⟨vs, rfl, hn, fun j hj => let ⟨x, hx, hv⟩ := h j hj; ⟨x, hx, ih j x hv⟩⟩
  | aggF n f ih => rintro cv ⟨cs, rfl, hn, h⟩; exact ⟨cs, rfl, hn, LR_mono hI hw _ μ m' hm _ _ _ (fun _ _ => rfl) h⟩
  | _ => intro cv h; exact LR_mono hI hw _ μ m' hm _ _ _ (fun _ _ => rfl) h
/-- the same, in other words -/
theorem LR_to {I : Nat → Prop} {μ : Where} {w : World} {v : AVal} {sz : Nat} {c c' : Nat → Option Value} (hc : ∀ j < sz, c' j = c j) (h : LR I μ w v sz c) : LR I μ w v sz c' :=
  LR_mono (fun _ h => h) (fun _ _ => rfl) v μ μ (fun _ _ h => h) sz c c' hc h
/-- What names no row does not hang on where rows lie. -/
theorem LR_nameless {I : Nat → Prop} {μ m' : Where} {w : World} : ∀ {v : AVal}, v.nameless → ∀ {sz : Nat} {c : Nat → Option Value}, LR I μ w v sz c → LR I m' w v sz c := by
  intro v
  induction v with
  | sref => intro h; exact h.elim
  | ptr => intro h; exact h.elim
  | aggF n f ih => rintro h sz c ⟨rfl, hf⟩; exact ⟨rfl, fun j hj => ⟨(hf j hj).1, ih j (h j hj) (hf j hj).2⟩⟩
  | fnF g n f ih => rintro h sz c ⟨rfl, cs, h1, h2, h3⟩; exact ⟨rfl, cs, h1, h2, fun j hj => ⟨(h3 j hj).1, ih j (h j hj) (h3 j hj).2⟩⟩
  | _ => intro _ sz c h; exact h
theorem VR_nameless {I : Nat → Prop} {μ m' : Where} {w : World} : ∀ {v : AVal}, v.nameless → ∀ {x : Value}, VR I μ w v x → VR I m' w v x := by
  intro v
  induction v with
  | undef => intros; trivial
  | when g v ih => intro h x hx; exact ⟨fun hg => ih h (hx.1 hg), hx.2⟩
  | tupF n f ih => rintro h x ⟨vs, rfl, hn, hk⟩; exact ⟨vs, rfl, hn, fun j hj => let ⟨y, hy, hr⟩ := hk j hj; ⟨y, hy, ih j (h j hj) hr⟩⟩
  | aggF n f ih => rintro h x ⟨cs, rfl, hn, hk⟩; exact ⟨cs, rfl, hn, LR_nameless h hk⟩
  | _ => intro h x hx; exact LR_nameless h hx

section
variable {I : Nat → Prop} {μ : Where} {w : World}
/-- every cell of what lies in memory is one cell -/
theorem LR_leaf {v : AVal} {c : Nat → Option Value} (hv : v.leaf = true) (h : LR I μ w v 1 c) : ∃ x, c 0 = some x ∧ x.oneCell' = true := by
  cases v with
  | undef => exact h 0 (by omega)
  | bool b => exact ⟨_, h.2, rfl⟩
  | anyb => obtain ⟨-, b, h⟩ := h; exact ⟨_, h, rfl⟩
  | int k n => exact ⟨_, h.2, rfl⟩
  | str s => exact ⟨_, h.2, rfl⟩
  | nilsl => exact ⟨_, h.2, rfl⟩
  | sl s n f => obtain ⟨-, a, cap, h, -⟩ := h; exact ⟨_, h, rfl⟩
  | sref k e0 s n => obtain ⟨-, x, a, cap, -, h, -⟩ := h; exact ⟨_, h, rfl⟩
  | ptr k s e o => obtain ⟨-, b, C, -, h⟩ := h; exact ⟨_, h, rfl⟩
  | iptr v o => obtain ⟨-, b, off, h, -⟩ := h; exact ⟨_, h, rfl⟩
  | aggF n f => simp [AVal.leaf] at hv
  | tupF n f => exact h.elim
  | fnF g n caps => obtain ⟨-, cs, h, -⟩ := h; exact ⟨_, h, rfl⟩
  | when g v => exact h.elim
theorem LR_cells {v : AVal} {sz : Nat} {c : Nat → Option Value} (h : LR I μ w v sz c) : ∀ j < sz, ∃ x, c j = some x ∧ x.oneCell' = true := by
  intro j hj
  by_cases hl : v.leaf = true
  · cases v with
    | undef => exact h j hj
    | aggF n f => simp [AVal.leaf] at hl
    | tupF n f => simp [AVal.leaf] at hl
    | when g v => simp [AVal.leaf] at hl
    | _ => have h1 := h.1; subst h1; obtain rfl : j = 0 := by omega
           exact LR_leaf rfl h
  · cases v with
    | aggF n f => obtain ⟨rfl, h⟩ := h; obtain ⟨h1, h2⟩ := h j hj; exact LR_leaf h1 h2
    | tupF n f => exact h.elim
    | when g v => exact h.elim
    | _ => simp [AVal.leaf] at hl
/-- a leaf, as a slot's value -/
theorem VR_of_LR {v : AVal} {c : Nat → Option Value} {x : Value} (hv : v.leaf = true) (h : LR I μ w v 1 c) (hx : c 0 = some x) : VR I μ w v x := by
  have h' : LR I μ w v 1 fun _ => some x := LR_to (fun j hj => (by rw [show j = 0 by omega]; exact hx.symm)) h
  cases v with
  | undef => trivial
  | aggF n f => simp [AVal.leaf] at hv
  | tupF n f => exact h'.elim
  | when g v => exact h'.elim
  | _ => exact h'
theorem LR_of_VR {v : AVal} {x : Value} (hv : v.leaf = true) (hk : v.known = true) (h : VR I μ w v x) : LR I μ w v 1 fun _ => some x := by
  cases v with
  | undef => simp [AVal.known] at hk
  | aggF n f => simp [AVal.leaf] at hv
  | tupF n f => simp [AVal.leaf] at hv
  | when g v => simp [AVal.leaf] at hv
  | _ => exact h
/-- what a slot's value says of its cells -/
theorem VR_cells {v : AVal} {x : Value} (hk : v.known = true) (h : VR I μ w v x) : x.cells.size = v.cells ∧ LR I μ w v v.cells fun j => x.cells[j]? := by
  by_cases hl : v.leaf = true
  · have h1 := LR_of_VR hl hk h
    obtain ⟨y, hy, h2⟩ := LR_leaf hl h1
    cases hy
    have hc : x.cells = #[x] := by cases x <;> first | rfl | simp [Value.oneCell'] at h2
    have hn : v.cells = 1 := by cases v <;> first | rfl | simp [AVal.leaf] at hl
    rw [hc, hn]
    exact ⟨rfl, LR_to (fun j hj => (by rw [show j = 0 by omega]; rfl)) h1⟩
  · cases v with
    | aggF n f => obtain ⟨cs, rfl, hn, h⟩ := h; exact ⟨hn, h⟩
    | tupF n f => simp [AVal.known] at hk
    | when g v => simp [AVal.known] at hk
    | _ => simp [AVal.leaf] at hl
theorem VR_okw {v : AVal} {x : Value} {g : Bool} (hg : g = true) (ho : v.okw g) (h : VR I μ w v x) : VR I μ w v.strip x := by
  cases v with
  | when g' v => exact h.1 (ho hg)
  | _ => exact h
theorem partOk_leaf {v : AVal} {o size : Nat} {a : Bool} (hp : partOk v o size a) (hl : v.leaf = true) : o = 0 ∧ a = false ∧ v.cells = 1 ∧ ∀ m c, LR I μ w v m c → m = 1 := by
  cases v <;> first | exact ⟨hp.1, hp.2, rfl, fun _ _ h => h.1⟩ | exact False.elim hp | simp [AVal.leaf] at hl
theorem partOk_agg {v : AVal} {m o size : Nat} {a : Bool} {c : Nat → Option Value} (hp : partOk v o size a) (hl : ¬ v.leaf = true) (h : LR I μ w v m c) : o + size ≤ m ∧ o + size ≤ v.cells := by
  cases v <;> first | exact absurd rfl hl | exact False.elim h | (obtain ⟨rfl, -⟩ := h; exact ⟨hp, hp⟩)
/-- a part of what lies in memory -/
theorem LR_part {v : AVal} {m o size : Nat} {a : Bool} {c : Nat → Option Value} (h : LR I μ w v m c) (hp : partOk v o size a) (hs : a = false → size = 1) :
    (a = true → ∀ cs : Array Value, cs.size = size → (∀ j < size, cs[j]? = c (o + j)) → VR I μ w (v.part o size a) (.agg cs)) ∧ (a = false → ∀ x, c o = some x → VR I μ w (v.part o size a) x) := by
  by_cases hl : v.leaf = true
  · have hp' : o = 0 ∧ a = false := ⟨(partOk_leaf (I := I) (μ := μ) (w := w) hp hl).1, (partOk_leaf (I := I) (μ := μ) (w := w) hp hl).2.1⟩
    obtain ⟨rfl, rfl⟩ := hp'
    refine ⟨nofun, fun _ x hx => ?_⟩
    have he : v.part 0 size false = v := by cases v <;> first | rfl | simp [AVal.leaf] at hl
    rw [he]
    cases v with
    | undef => trivial
    | aggF n f => simp [AVal.leaf] at hl
    | tupF n f => exact h.elim
    | when g v => exact h.elim
    | _ => have h1 := h.1; subst h1; exact VR_of_LR rfl h hx
  · cases v with
    | aggF n f =>
      obtain ⟨rfl, h⟩ := h
      simp only [partOk] at hp
      constructor
      · rintro rfl cs hn hc
        exact ⟨cs, rfl, hn, rfl, fun j hj => by
          show (if j < size then f (o + j) else AVal.undef).leaf = true ∧ LR I μ w (if j < size then f (o + j) else AVal.undef) 1 _
          rw [if_pos hj]; exact ⟨(h (o + j) (by omega)).1, LR_to (fun _ _ => hc j hj) (h (o + j) (by omega)).2⟩⟩
      · rintro rfl x hx
        have := hs rfl
        obtain ⟨h1, h2⟩ := h o (by omega)
        exact VR_of_LR h1 h2 hx
    | tupF n f => exact h.elim
    | when g v => exact h.elim
    | _ => simp [AVal.leaf] at hl
end

/-! The static look at an operation. -/
def opdOk : Operand → Bool
  | .const (.agg cs) => cs.all (·.oneCell')
  | .global _ => false
  | _ => true
def zeroOk (P : Program) (t : TypeId) : Bool :=
  match P.info? t with
  | some i => match i.zero with
    | some z => z.cells.size == i.size && z.cells.all (·.oneCell')
    | none => false
  | none => false
def loadOk (P : Program) (t : TypeId) : Bool := (P.underlying t).isSome && (aggT P t || szT P t == 1)
def structOk (P : Program) (t : TypeId) : Bool :=
  match P.underlying t with
  | some (.struct fs) => fs.all fun f => (P.info? f.type).isSome && decide (f.offset + szT P f.type ≤ szT P t)
  | _ => false
def bOk (P : Program) (b : Builtin) (args : Array Operand) (argTypes : Array TypeId) : Bool :=
  match b with
  | .len => args.size == 1 && match P.underlying (argTypes.getD 0 0) with | some (.slice _) | some .string => argTypes.size == 1 | _ => false
  | .append => args.size == 2 && argTypes.size == 2 && (match P.underlying (argTypes.getD 0 0) with | some (.slice e) => zeroOk P e && decide (0 < byT P e) | _ => false) && (match P.underlying (argTypes.getD 1 0) with | some (.slice _) => true | _ => false)
  | .cap => args.size == 1 && match P.underlying (argTypes.getD 0 0) with | some (.slice _) => argTypes.size == 1 | _ => false
  | .clear => args.size == 1 && argTypes.size == 1 && (match P.underlying (argTypes.getD 0 0) with | some (.slice e) => zeroOk P e | _ => false)
  | .max => args.size == 2 || args.size == 3
  | .min => args.size == 2 || args.size == 3
  | _ => false
def opOk (P : Program) (op : Op) : Bool :=
  op.operands.all opdOk && match op with
  | .convert src _ _ => (P.underlying src).isSome
  | .move _ | .assign _ | .pick .. | .extract .. | .nilCheck _ | .unOp .. | .binOp .. | .box .. => true
  | .makeFunc (.func _) first _ => first.size == 0
  | .load t _ | .store t _ _ => loadOk P t
  | .build t parts => structOk P t && zeroOk P t && aggT P t && parts.all fun p => (fldT P t p.1).isSome
  | .fieldAddr s _ f => match fldT P s f with | some fd => szT P fd.type != 0 && (P.info? fd.type).isSome | none => false
  | .field s _ f => match fldT P s f with | some fd => loadOk P fd.type | none => false
  | .index t _ _ => strT P t
  | .slice t _ _ _ none => match P.underlying t with | some (.slice e) => (P.info? e).isSome | some .string => true | _ => false
  | .slice t _ none (some _) (some _) => match P.underlying t with | some (.slice e) => (P.info? e).isSome | _ => false
  | .makeSlice t _ _ => match P.underlying t with | some (.slice e) => zeroOk P e && decide (0 < byT P e) | _ => false
  | .indexAddr t _ _ => match P.underlying t with | some (.slice e) => (P.info? e).isSome && szT P e != 0 | _ => false
  | .alloc t => zeroOk P t
  | .buildSlice t len parts => match P.underlying t with | some (.slice e) => zeroOk P e && decide (len * szT P e ≤ 16777216) && decide (0 < szT P e) && decide (parts.toList.map (·.1) = List.range len) | _ => false
  | .call { callee := .builtin b, args, argTypes } => bOk P b args argTypes
  | .call { callee := .value (.func g), .. } => fnOk P g
  | .call { callee := .value (.tmp _), .. } => true
  | _ => false
end Go.Nw
