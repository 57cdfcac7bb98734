/- The abstract walk, part 11: the walk's rules, for simp. -/
import Derived.Test.YtngdglmimlfefaaNwCall
namespace Go.Nw
set_option linter.unusedVariables false
set_option linter.unusedSimpArgs false
section
variable {P : Program}
def RunV (P : Program) (q : Rg) (all : List Oper) (rest : List Oper) (τ : Slots) (σ : Heap) (d : Option Nat) (c : Prop) (K : Slots → Heap → Prop) (r : Prop × AVal) : Prop := Run P q all rest (putd τ d r.2) σ (c ∧ r.1) K
def RunS (P : Program) (all : List Oper) (rest : List Oper) (τ : Slots) (d : Option Nat) (c : Prop) (K : Slots → Heap → Prop) (r : Prop × Heap) : Prop := Run P none all rest (putd τ d .undef) (r.2.bump 1) (c ∧ r.1) K
def RunT (P : Program) (rc : List Nat) (all : List Oper) (rest : List Oper) (τ : Slots) (d : Option Nat) (c : Prop) (K : Slots → Heap → Prop) (r : Prop × Heap) : Prop := Run P (some rc) all rest (putd τ d .undef) r.2 (c ∧ r.1) K
def RunE (P : Program) (all : List Oper) (rest : List Oper) (τ : Slots) (d : Option Nat) (c : Prop) (K : Slots → Heap → Prop) (r : Prop × (AVal × Heap)) : Prop := Run P none all rest (putd τ d r.2.1) (r.2.2.bump 1) (c ∧ r.1) K
def RunD (P : Program) (rc : List Nat) (all : List Oper) (rest : List Oper) (τ : Slots) (d : Option Nat) (c : Prop) (K : Slots → Heap → Prop) (r : Prop × (AVal × Heap)) : Prop := Run P (some rc) all rest (putd τ d r.2.1) r.2.2 (c ∧ r.1) K
/-- what must hold, and then the rest -/
def Ob (c K : Prop) : Prop := c ∧ K
theorem ob {c K : Prop} (h : c) (k : K) : Ob c K := ⟨h, k⟩
theorem ob_true (K : Prop) : Ob True K = K := by simp [Ob]
/-- operands, read -/
def evL (τ : Slots) : List Operand → List AVal
  | [] => []
  | x :: l => ev τ x :: evL τ l
def evLs (τ : Slots) : List Operand → List AVal
  | [] => []
  | x :: l => (ev τ x).strip :: evLs τ l
def evP (τ : Slots) : List (Nat × Operand) → List AVal
  | [] => []
  | x :: l => ev τ x.2 :: evP τ l
def evQ (τ : Slots) : List (Nat × Operand) → List (Nat × AVal)
  | [] => []
  | x :: l => (x.1, ev τ x.2) :: evQ τ l
def evQs (τ : Slots) : List (Nat × Operand) → List (Nat × AVal)
  | [] => []
  | x :: l => (x.1, (ev τ x.2).strip) :: evQs τ l
theorem evL_map (τ : Slots) : ∀ l, evL τ l = l.map (ev τ)
  | [] => rfl
  | x :: l => congrArg _ (evL_map τ l)
theorem evLs_map (τ : Slots) : ∀ l, evLs τ l = l.map fun x => (ev τ x).strip
  | [] => rfl
  | x :: l => congrArg _ (evLs_map τ l)
theorem evP_map (τ : Slots) : ∀ l, evP τ l = l.map fun p => ev τ p.2
  | [] => rfl
  | x :: l => congrArg _ (evP_map τ l)
theorem evQ_map (τ : Slots) : ∀ l, evQ τ l = l.map fun p => (p.1, ev τ p.2)
  | [] => rfl
  | x :: l => congrArg _ (evQ_map τ l)
theorem evQs_map (τ : Slots) : ∀ l, evQs τ l = l.map fun p => (p.1, (ev τ p.2).strip)
  | [] => rfl
  | x :: l => congrArg _ (evQs_map τ l)
theorem evL_nil (τ : Slots) : evL τ [] = [] := rfl
theorem evL_cons (τ : Slots) (x : Operand) (l : List Operand) : evL τ (x :: l) = ev τ x :: evL τ l := rfl
theorem evLs_nil (τ : Slots) : evLs τ [] = [] := rfl
theorem evLs_cons (τ : Slots) (x : Operand) (l : List Operand) : evLs τ (x :: l) = (ev τ x).strip :: evLs τ l := rfl
theorem evP_nil (τ : Slots) : evP τ [] = [] := rfl
theorem evP_cons (τ : Slots) (i : Nat) (x : Operand) (l : List (Nat × Operand)) : evP τ ((i, x) :: l) = ev τ x :: evP τ l := rfl
theorem evQ_nil (τ : Slots) : evQ τ [] = [] := rfl
theorem evQ_cons (τ : Slots) (i : Nat) (x : Operand) (l : List (Nat × Operand)) : evQ τ ((i, x) :: l) = (i, ev τ x) :: evQ τ l := rfl
theorem evQs_nil (τ : Slots) : evQs τ [] = [] := rfl
theorem evQs_cons (τ : Slots) (i : Nat) (x : Operand) (l : List (Nat × Operand)) : evQs τ ((i, x) :: l) = (i, (ev τ x).strip) :: evQs τ l := rfl
/-- a row, made of a list's values -/
def mkL (l : List AVal) : List AVal := l
def mkP {α : Type} (enc : α → AVal) (acc : List α) (l : List AVal) : List AVal := acc.map enc ++ l
theorem mkL_nil : mkL [] = [] := rfl
theorem mkP_nil {α : Type} (enc : α → AVal) (acc : List α) : mkP enc acc [] = acc.map enc := List.append_nil _
theorem mkP_cons {α : Type} (enc : α → AVal) (acc : List α) (a : α) (l : List AVal) : mkP enc acc (enc a :: l) = mkP enc (acc ++ [a]) l := by simp [mkP]
theorem mkL_sref (k : Key) (e s n : Nat) (l : List AVal) : mkL (.sref k e s n :: l) = .sref k e s n :: l := rfl
theorem mkL_fn (g : Nat) (c l : List AVal) : mkL (fn g c :: l) = fn g c :: l := rfl
theorem mkL_nilsl (l : List AVal) : mkL (.nilsl :: l) = .nilsl :: l := rfl
theorem mkL_agg (c l : List AVal) : mkL (agg c :: l) = agg c :: l := rfl
theorem mkL_ptr (k : Key) (s e o : Nat) (l : List AVal) : mkL (.ptr k s e o :: l) = .ptr k s e o :: l := rfl
theorem map_ren_nil (κ : Key → Key) : List.map (AVal.ren κ) [] = [] := rfl
theorem map_ren_cons (κ : Key → Key) (v : AVal) (l : List AVal) : List.map (AVal.ren κ) (v :: l) = v.ren κ :: List.map (AVal.ren κ) l := rfl
/-- a guarded operation -/
def RunG (P : Program) (q : Rg) (all : List Oper) (rest : List Oper) (τ : Slots) (σ : Heap) (d : Option Nat) (c : Prop) (K : Slots → Heap → Prop) (g : Option Bool) (r : Prop × AVal) (os : List AVal) : Prop :=
  match g with
  | some g => Run P q all rest (putd τ d (.when g r.2)) σ (c ∧ (g = true → r.1 ∧ okAll g os)) K
  | none => False
/-- a guarded 'pick' -/
def RunGP (P : Program) (q : Rg) (all : List Oper) (rest : List Oper) (τ : Slots) (σ : Heap) (d : Option Nat) (c : Prop) (K : Slots → Heap → Prop) (g : Option Bool) (x y z : AVal) : Prop :=
  match g with
  | some g => Run P q all rest (putd τ d (.when g (pickF x.strip y z).2)) σ (c ∧ (g = true → (pickF x.strip y z).1 ∧ x.okw g)) K
  | none => False
theorem gd_b (want t : Bool) : gdF want (.bool t) = some (t == want) := rfl
theorem gd_w (want t g : Bool) : gdF want (.when g (.bool t)) = some (g && (t == want)) := rfl
theorem run_move (q : Rg) (all rest : List Oper) (τ : Slots) (σ : Heap) (c : Prop) (K : Slots → Heap → Prop) (d : Option Nat) (x : Operand) (t : TypeId) (pos : String) (af : Array Edge) :
    Run P q all ({ dst := d, op := .move x, type := t, pos := pos, after := af, guard := none } :: rest) τ σ c K = RunV P q all rest τ σ d c K ((True, ev τ x)) := rfl
theorem rug_move (q : Rg) (all rest : List Oper) (τ : Slots) (σ : Heap) (c : Prop) (K : Slots → Heap → Prop) (d : Option Nat) (x : Operand) (t : TypeId) (pos : String) (af : Array Edge) (j : Nat) (want : Bool) :
    Run P q all ({ dst := d, op := .move x, type := t, pos := pos, after := af, guard := some (j, want) } :: rest) τ σ c K = RunG P q all rest τ σ d c K (gdF want (τ.get (dstAt all j))) ((True, (ev τ x).strip)) [ev τ x] := by
  rw [Run.eq_def]
  simp only [RunG]
  cases h : gdF want (τ.get (dstAt all j)) <;> first | rfl | simp [kindOf, gF, pureF, Op.operands, Call.operands]
theorem run_assign (q : Rg) (all rest : List Oper) (τ : Slots) (σ : Heap) (c : Prop) (K : Slots → Heap → Prop) (d : Option Nat) (x : Operand) (t : TypeId) (pos : String) (af : Array Edge) :
    Run P q all ({ dst := d, op := .assign x, type := t, pos := pos, after := af, guard := none } :: rest) τ σ c K = RunV P q all rest τ σ d c K ((True, ev τ x)) := rfl
theorem rug_assign (q : Rg) (all rest : List Oper) (τ : Slots) (σ : Heap) (c : Prop) (K : Slots → Heap → Prop) (d : Option Nat) (x : Operand) (t : TypeId) (pos : String) (af : Array Edge) (j : Nat) (want : Bool) :
    Run P q all ({ dst := d, op := .assign x, type := t, pos := pos, after := af, guard := some (j, want) } :: rest) τ σ c K = RunG P q all rest τ σ d c K (gdF want (τ.get (dstAt all j))) ((True, (ev τ x).strip)) [ev τ x] := by
  rw [Run.eq_def]
  simp only [RunG]
  cases h : gdF want (τ.get (dstAt all j)) <;> first | rfl | simp [kindOf, gF, pureF, Op.operands, Call.operands]
theorem run_pick (q : Rg) (all rest : List Oper) (τ : Slots) (σ : Heap) (c : Prop) (K : Slots → Heap → Prop) (d : Option Nat) (x y z : Operand) (t : TypeId) (pos : String) (af : Array Edge) :
    Run P q all ({ dst := d, op := .pick x y z, type := t, pos := pos, after := af, guard := none } :: rest) τ σ c K = RunV P q all rest τ σ d c K (pickF (ev τ x) (ev τ y) (ev τ z)) := rfl
theorem rug_pick (q : Rg) (all rest : List Oper) (τ : Slots) (σ : Heap) (c : Prop) (K : Slots → Heap → Prop) (d : Option Nat) (x y z : Operand) (t : TypeId) (pos : String) (af : Array Edge) (j : Nat) (want : Bool) :
    Run P q all ({ dst := d, op := .pick x y z, type := t, pos := pos, after := af, guard := some (j, want) } :: rest) τ σ c K = RunGP P q all rest τ σ d c K (gdF want (τ.get (dstAt all j))) (ev τ x) (ev τ y) (ev τ z) := by
  rw [Run.eq_def]
  simp only [RunGP]
  cases h : gdF want (τ.get (dstAt all j)) <;> simp [kindOf, gF]
theorem run_build (q : Rg) (all rest : List Oper) (τ : Slots) (σ : Heap) (c : Prop) (K : Slots → Heap → Prop) (d : Option Nat) (ty : TypeId) (parts : List (Nat × Operand)) (t : TypeId) (pos : String) (af : Array Edge) :
    Run P q all ({ dst := d, op := .build ty parts.toArray, type := t, pos := pos, after := af, guard := none } :: rest) τ σ c K = RunV P q all rest τ σ d c K ((partsOk P ty (evQ τ parts), buildF P ty (evQ τ parts))) := by simp only [evQ_map, evL_map]; rfl
theorem run_load (q : Rg) (all rest : List Oper) (τ : Slots) (σ : Heap) (c : Prop) (K : Slots → Heap → Prop) (d : Option Nat) (ty : TypeId) (x : Operand) (t : TypeId) (pos : String) (af : Array Edge) :
    Run P q all ({ dst := d, op := .load ty x, type := t, pos := pos, after := af, guard := none } :: rest) τ σ c K = RunV P q all rest τ σ d c K (loadF (szT P ty) (aggT P ty) σ (ev τ x)) := rfl
theorem rug_load (q : Rg) (all rest : List Oper) (τ : Slots) (σ : Heap) (c : Prop) (K : Slots → Heap → Prop) (d : Option Nat) (ty : TypeId) (x : Operand) (t : TypeId) (pos : String) (af : Array Edge) (j : Nat) (want : Bool) :
    Run P q all ({ dst := d, op := .load ty x, type := t, pos := pos, after := af, guard := some (j, want) } :: rest) τ σ c K = RunG P q all rest τ σ d c K (gdF want (τ.get (dstAt all j))) (loadF (szT P ty) (aggT P ty) σ ((ev τ x).strip)) [ev τ x] := by
  rw [Run.eq_def]
  simp only [RunG]
  cases h : gdF want (τ.get (dstAt all j)) <;> first | rfl | simp [kindOf, gF, pureF, Op.operands, Call.operands]
theorem run_nilCheck (q : Rg) (all rest : List Oper) (τ : Slots) (σ : Heap) (c : Prop) (K : Slots → Heap → Prop) (d : Option Nat) (x : Operand) (t : TypeId) (pos : String) (af : Array Edge) :
    Run P q all ({ dst := d, op := .nilCheck x, type := t, pos := pos, after := af, guard := none } :: rest) τ σ c K = RunV P q all rest τ σ d c K (nilF (ev τ x)) := rfl
theorem rug_nilCheck (q : Rg) (all rest : List Oper) (τ : Slots) (σ : Heap) (c : Prop) (K : Slots → Heap → Prop) (d : Option Nat) (x : Operand) (t : TypeId) (pos : String) (af : Array Edge) (j : Nat) (want : Bool) :
    Run P q all ({ dst := d, op := .nilCheck x, type := t, pos := pos, after := af, guard := some (j, want) } :: rest) τ σ c K = RunG P q all rest τ σ d c K (gdF want (τ.get (dstAt all j))) (nilF ((ev τ x).strip)) [ev τ x] := by
  rw [Run.eq_def]
  simp only [RunG]
  cases h : gdF want (τ.get (dstAt all j)) <;> first | rfl | simp [kindOf, gF, pureF, Op.operands, Call.operands]
theorem run_binOp (q : Rg) (all rest : List Oper) (τ : Slots) (σ : Heap) (c : Prop) (K : Slots → Heap → Prop) (d : Option Nat) (o : BinOp) (ty : TypeId) (x y : Operand) (ty' : TypeId) (t : TypeId) (pos : String) (af : Array Edge) :
    Run P q all ({ dst := d, op := .binOp o ty x y ty', type := t, pos := pos, after := af, guard := none } :: rest) τ σ c K = RunV P q all rest τ σ d c K (binT P ty o (ev τ x) (ev τ y)) := rfl
theorem rug_binOp (q : Rg) (all rest : List Oper) (τ : Slots) (σ : Heap) (c : Prop) (K : Slots → Heap → Prop) (d : Option Nat) (o : BinOp) (ty : TypeId) (x y : Operand) (ty' : TypeId) (t : TypeId) (pos : String) (af : Array Edge) (j : Nat) (want : Bool) :
    Run P q all ({ dst := d, op := .binOp o ty x y ty', type := t, pos := pos, after := af, guard := some (j, want) } :: rest) τ σ c K = RunG P q all rest τ σ d c K (gdF want (τ.get (dstAt all j))) (binT P ty o ((ev τ x).strip) ((ev τ y).strip)) [ev τ x, ev τ y] := by
  rw [Run.eq_def]
  simp only [RunG]
  cases h : gdF want (τ.get (dstAt all j)) <;> first | rfl | simp [kindOf, gF, pureF, Op.operands, Call.operands]
theorem run_fieldAddr (q : Rg) (all rest : List Oper) (τ : Slots) (σ : Heap) (c : Prop) (K : Slots → Heap → Prop) (d : Option Nat) (ty : TypeId) (x : Operand) (f : Nat) (t : TypeId) (pos : String) (af : Array Edge) :
    Run P q all ({ dst := d, op := .fieldAddr ty x f, type := t, pos := pos, after := af, guard := none } :: rest) τ σ c K = RunV P q all rest τ σ d c K (fieldF (ev τ x) (foffT P ty f)) := rfl
theorem rug_fieldAddr (q : Rg) (all rest : List Oper) (τ : Slots) (σ : Heap) (c : Prop) (K : Slots → Heap → Prop) (d : Option Nat) (ty : TypeId) (x : Operand) (f : Nat) (t : TypeId) (pos : String) (af : Array Edge) (j : Nat) (want : Bool) :
    Run P q all ({ dst := d, op := .fieldAddr ty x f, type := t, pos := pos, after := af, guard := some (j, want) } :: rest) τ σ c K = RunG P q all rest τ σ d c K (gdF want (τ.get (dstAt all j))) (fieldF ((ev τ x).strip) (foffT P ty f)) [ev τ x] := by
  rw [Run.eq_def]
  simp only [RunG]
  cases h : gdF want (τ.get (dstAt all j)) <;> first | rfl | simp [kindOf, gF, pureF, Op.operands, Call.operands]
theorem run_field (q : Rg) (all rest : List Oper) (τ : Slots) (σ : Heap) (c : Prop) (K : Slots → Heap → Prop) (d : Option Nat) (ty : TypeId) (x : Operand) (f : Nat) (t : TypeId) (pos : String) (af : Array Edge) :
    Run P q all ({ dst := d, op := .field ty x f, type := t, pos := pos, after := af, guard := none } :: rest) τ σ c K = RunV P q all rest τ σ d c K (fieldVF (ev τ x) (foffT P ty f) (szT P (ftyT P ty f)) (aggT P (ftyT P ty f))) := rfl
theorem rug_field (q : Rg) (all rest : List Oper) (τ : Slots) (σ : Heap) (c : Prop) (K : Slots → Heap → Prop) (d : Option Nat) (ty : TypeId) (x : Operand) (f : Nat) (t : TypeId) (pos : String) (af : Array Edge) (j : Nat) (want : Bool) :
    Run P q all ({ dst := d, op := .field ty x f, type := t, pos := pos, after := af, guard := some (j, want) } :: rest) τ σ c K = RunG P q all rest τ σ d c K (gdF want (τ.get (dstAt all j))) (fieldVF ((ev τ x).strip) (foffT P ty f) (szT P (ftyT P ty f)) (aggT P (ftyT P ty f))) [ev τ x] := by
  rw [Run.eq_def]
  simp only [RunG]
  cases h : gdF want (τ.get (dstAt all j)) <;> first | rfl | simp [kindOf, gF, pureF, Op.operands, Call.operands]
theorem run_indexAddr (q : Rg) (all rest : List Oper) (τ : Slots) (σ : Heap) (c : Prop) (K : Slots → Heap → Prop) (d : Option Nat) (ty : TypeId) (x y : Operand) (t : TypeId) (pos : String) (af : Array Edge) :
    Run P q all ({ dst := d, op := .indexAddr ty x y, type := t, pos := pos, after := af, guard := none } :: rest) τ σ c K = RunV P q all rest τ σ d c K (indexF (szT P (elT P ty)) (ev τ x) (ev τ y)) := rfl
theorem rug_indexAddr (q : Rg) (all rest : List Oper) (τ : Slots) (σ : Heap) (c : Prop) (K : Slots → Heap → Prop) (d : Option Nat) (ty : TypeId) (x y : Operand) (t : TypeId) (pos : String) (af : Array Edge) (j : Nat) (want : Bool) :
    Run P q all ({ dst := d, op := .indexAddr ty x y, type := t, pos := pos, after := af, guard := some (j, want) } :: rest) τ σ c K = RunG P q all rest τ σ d c K (gdF want (τ.get (dstAt all j))) (indexF (szT P (elT P ty)) ((ev τ x).strip) ((ev τ y).strip)) [ev τ x, ev τ y] := by
  rw [Run.eq_def]
  simp only [RunG]
  cases h : gdF want (τ.get (dstAt all j)) <;> first | rfl | simp [kindOf, gF, pureF, Op.operands, Call.operands]
theorem run_extract (q : Rg) (all rest : List Oper) (τ : Slots) (σ : Heap) (c : Prop) (K : Slots → Heap → Prop) (d : Option Nat) (x : Operand) (i : Nat) (t : TypeId) (pos : String) (af : Array Edge) :
    Run P q all ({ dst := d, op := .extract x i, type := t, pos := pos, after := af, guard := none } :: rest) τ σ c K = RunV P q all rest τ σ d c K (extractF (ev τ x) i) := rfl
theorem rug_extract (q : Rg) (all rest : List Oper) (τ : Slots) (σ : Heap) (c : Prop) (K : Slots → Heap → Prop) (d : Option Nat) (x : Operand) (i : Nat) (t : TypeId) (pos : String) (af : Array Edge) (j : Nat) (want : Bool) :
    Run P q all ({ dst := d, op := .extract x i, type := t, pos := pos, after := af, guard := some (j, want) } :: rest) τ σ c K = RunG P q all rest τ σ d c K (gdF want (τ.get (dstAt all j))) (extractF ((ev τ x).strip) i) [ev τ x] := by
  rw [Run.eq_def]
  simp only [RunG]
  cases h : gdF want (τ.get (dstAt all j)) <;> first | rfl | simp [kindOf, gF, pureF, Op.operands, Call.operands]
theorem run_makeFunc (q : Rg) (all rest : List Oper) (τ : Slots) (σ : Heap) (c : Prop) (K : Slots → Heap → Prop) (d : Option Nat) (g : Nat) (fs : Array Operand) (caps : List Operand) (t : TypeId) (pos : String) (af : Array Edge) :
    Run P q all ({ dst := d, op := .makeFunc (.func g) fs caps.toArray, type := t, pos := pos, after := af, guard := none } :: rest) τ σ c K = RunV P q all rest τ σ d c K ((capsOk (evL τ caps), fn g (evL τ caps))) := by simp only [evQ_map, evL_map]; rfl
theorem run_convert (q : Rg) (all rest : List Oper) (τ : Slots) (σ : Heap) (c : Prop) (K : Slots → Heap → Prop) (d : Option Nat) (ts ty : TypeId) (x : Operand) (t : TypeId) (pos : String) (af : Array Edge) :
    Run P q all ({ dst := d, op := .convert ts ty x, type := t, pos := pos, after := af, guard := none } :: rest) τ σ c K = RunV P q all rest τ σ d c K (convF (kindT P ty) (ev τ x)) := rfl
theorem rug_convert (q : Rg) (all rest : List Oper) (τ : Slots) (σ : Heap) (c : Prop) (K : Slots → Heap → Prop) (d : Option Nat) (ts ty : TypeId) (x : Operand) (t : TypeId) (pos : String) (af : Array Edge) (j : Nat) (want : Bool) :
    Run P q all ({ dst := d, op := .convert ts ty x, type := t, pos := pos, after := af, guard := some (j, want) } :: rest) τ σ c K = RunG P q all rest τ σ d c K (gdF want (τ.get (dstAt all j))) (convF (kindT P ty) ((ev τ x).strip)) [ev τ x] := by
  rw [Run.eq_def]
  simp only [RunG]
  cases h : gdF want (τ.get (dstAt all j)) <;> first | rfl | simp [kindOf, gF, pureF, Op.operands, Call.operands]
theorem run_cap (q : Rg) (all rest : List Oper) (τ : Slots) (σ : Heap) (c : Prop) (K : Slots → Heap → Prop) (d : Option Nat) (x : Operand) (ty : Array TypeId) (t : TypeId) (pos : String) (af : Array Edge) :
    Run P q all ({ dst := d, op := .call { callee := .builtin .cap, args := #[x], argTypes := ty }, type := t, pos := pos, after := af, guard := none } :: rest) τ σ c K = RunV P q all rest τ σ d c K (capF (ev τ x)) := rfl
theorem rug_cap (q : Rg) (all rest : List Oper) (τ : Slots) (σ : Heap) (c : Prop) (K : Slots → Heap → Prop) (d : Option Nat) (x : Operand) (ty : Array TypeId) (t : TypeId) (pos : String) (af : Array Edge) (j : Nat) (want : Bool) :
    Run P q all ({ dst := d, op := .call { callee := .builtin .cap, args := #[x], argTypes := ty }, type := t, pos := pos, after := af, guard := some (j, want) } :: rest) τ σ c K = RunG P q all rest τ σ d c K (gdF want (τ.get (dstAt all j))) (capF ((ev τ x).strip)) [ev τ x] := by
  rw [Run.eq_def]
  simp only [RunG]
  cases h : gdF want (τ.get (dstAt all j)) <;> first | rfl | simp [kindOf, gF, pureF, Op.operands, Call.operands]
theorem run_max3 (q : Rg) (all rest : List Oper) (τ : Slots) (σ : Heap) (c : Prop) (K : Slots → Heap → Prop) (d : Option Nat) (x y z : Operand) (ty : Array TypeId) (t : TypeId) (pos : String) (af : Array Edge) :
    Run P q all ({ dst := d, op := .call { callee := .builtin .max, args := #[x, y, z], argTypes := ty }, type := t, pos := pos, after := af, guard := none } :: rest) τ σ c K = RunV P q all rest τ σ d c K (((maxF (ev τ x) (ev τ y)).1 ∧ (maxF (maxF (ev τ x) (ev τ y)).2 (ev τ z)).1, (maxF (maxF (ev τ x) (ev τ y)).2 (ev τ z)).2)) := rfl
theorem rug_max3 (q : Rg) (all rest : List Oper) (τ : Slots) (σ : Heap) (c : Prop) (K : Slots → Heap → Prop) (d : Option Nat) (x y z : Operand) (ty : Array TypeId) (t : TypeId) (pos : String) (af : Array Edge) (j : Nat) (want : Bool) :
    Run P q all ({ dst := d, op := .call { callee := .builtin .max, args := #[x, y, z], argTypes := ty }, type := t, pos := pos, after := af, guard := some (j, want) } :: rest) τ σ c K = RunG P q all rest τ σ d c K (gdF want (τ.get (dstAt all j))) (((maxF ((ev τ x).strip) ((ev τ y).strip)).1 ∧ (maxF (maxF ((ev τ x).strip) ((ev τ y).strip)).2 ((ev τ z).strip)).1, (maxF (maxF ((ev τ x).strip) ((ev τ y).strip)).2 ((ev τ z).strip)).2)) [ev τ x, ev τ y, ev τ z] := by
  rw [Run.eq_def]
  simp only [RunG]
  cases h : gdF want (τ.get (dstAt all j)) <;> first | rfl | simp [kindOf, gF, pureF, Op.operands, Call.operands]
theorem run_min3 (q : Rg) (all rest : List Oper) (τ : Slots) (σ : Heap) (c : Prop) (K : Slots → Heap → Prop) (d : Option Nat) (x y z : Operand) (ty : Array TypeId) (t : TypeId) (pos : String) (af : Array Edge) :
    Run P q all ({ dst := d, op := .call { callee := .builtin .min, args := #[x, y, z], argTypes := ty }, type := t, pos := pos, after := af, guard := none } :: rest) τ σ c K = RunV P q all rest τ σ d c K (((minF (ev τ x) (ev τ y)).1 ∧ (minF (minF (ev τ x) (ev τ y)).2 (ev τ z)).1, (minF (minF (ev τ x) (ev τ y)).2 (ev τ z)).2)) := rfl
theorem rug_min3 (q : Rg) (all rest : List Oper) (τ : Slots) (σ : Heap) (c : Prop) (K : Slots → Heap → Prop) (d : Option Nat) (x y z : Operand) (ty : Array TypeId) (t : TypeId) (pos : String) (af : Array Edge) (j : Nat) (want : Bool) :
    Run P q all ({ dst := d, op := .call { callee := .builtin .min, args := #[x, y, z], argTypes := ty }, type := t, pos := pos, after := af, guard := some (j, want) } :: rest) τ σ c K = RunG P q all rest τ σ d c K (gdF want (τ.get (dstAt all j))) (((minF ((ev τ x).strip) ((ev τ y).strip)).1 ∧ (minF (minF ((ev τ x).strip) ((ev τ y).strip)).2 ((ev τ z).strip)).1, (minF (minF ((ev τ x).strip) ((ev τ y).strip)).2 ((ev τ z).strip)).2)) [ev τ x, ev τ y, ev τ z] := by
  rw [Run.eq_def]
  simp only [RunG]
  cases h : gdF want (τ.get (dstAt all j)) <;> first | rfl | simp [kindOf, gF, pureF, Op.operands, Call.operands]
theorem run_len (q : Rg) (all rest : List Oper) (τ : Slots) (σ : Heap) (c : Prop) (K : Slots → Heap → Prop) (d : Option Nat) (x : Operand) (ty : TypeId) (t : TypeId) (pos : String) (af : Array Edge) :
    Run P q all ({ dst := d, op := .call { callee := .builtin .len, args := #[x], argTypes := #[ty] }, type := t, pos := pos, after := af, guard := none } :: rest) τ σ c K = RunV P q all rest τ σ d c K (lenF (strT P ty) (ev τ x)) := rfl
theorem rug_len (q : Rg) (all rest : List Oper) (τ : Slots) (σ : Heap) (c : Prop) (K : Slots → Heap → Prop) (d : Option Nat) (x : Operand) (ty : TypeId) (t : TypeId) (pos : String) (af : Array Edge) (j : Nat) (want : Bool) :
    Run P q all ({ dst := d, op := .call { callee := .builtin .len, args := #[x], argTypes := #[ty] }, type := t, pos := pos, after := af, guard := some (j, want) } :: rest) τ σ c K = RunG P q all rest τ σ d c K (gdF want (τ.get (dstAt all j))) (lenF (strT P ty) ((ev τ x).strip)) [ev τ x] := by
  rw [Run.eq_def]
  simp only [RunG]
  cases h : gdF want (τ.get (dstAt all j)) <;> first | rfl | simp [kindOf, gF, pureF, Op.operands, Call.operands]
theorem run_max (q : Rg) (all rest : List Oper) (τ : Slots) (σ : Heap) (c : Prop) (K : Slots → Heap → Prop) (d : Option Nat) (x y : Operand) (ty : Array TypeId) (t : TypeId) (pos : String) (af : Array Edge) :
    Run P q all ({ dst := d, op := .call { callee := .builtin .max, args := #[x, y], argTypes := ty }, type := t, pos := pos, after := af, guard := none } :: rest) τ σ c K = RunV P q all rest τ σ d c K (maxF (ev τ x) (ev τ y)) := rfl
theorem rug_max (q : Rg) (all rest : List Oper) (τ : Slots) (σ : Heap) (c : Prop) (K : Slots → Heap → Prop) (d : Option Nat) (x y : Operand) (ty : Array TypeId) (t : TypeId) (pos : String) (af : Array Edge) (j : Nat) (want : Bool) :
    Run P q all ({ dst := d, op := .call { callee := .builtin .max, args := #[x, y], argTypes := ty }, type := t, pos := pos, after := af, guard := some (j, want) } :: rest) τ σ c K = RunG P q all rest τ σ d c K (gdF want (τ.get (dstAt all j))) (maxF ((ev τ x).strip) ((ev τ y).strip)) [ev τ x, ev τ y] := by
  rw [Run.eq_def]
  simp only [RunG]
  cases h : gdF want (τ.get (dstAt all j)) <;> first | rfl | simp [kindOf, gF, pureF, Op.operands, Call.operands]
theorem run_min (q : Rg) (all rest : List Oper) (τ : Slots) (σ : Heap) (c : Prop) (K : Slots → Heap → Prop) (d : Option Nat) (x y : Operand) (ty : Array TypeId) (t : TypeId) (pos : String) (af : Array Edge) :
    Run P q all ({ dst := d, op := .call { callee := .builtin .min, args := #[x, y], argTypes := ty }, type := t, pos := pos, after := af, guard := none } :: rest) τ σ c K = RunV P q all rest τ σ d c K (minF (ev τ x) (ev τ y)) := rfl
theorem rug_min (q : Rg) (all rest : List Oper) (τ : Slots) (σ : Heap) (c : Prop) (K : Slots → Heap → Prop) (d : Option Nat) (x y : Operand) (ty : Array TypeId) (t : TypeId) (pos : String) (af : Array Edge) (j : Nat) (want : Bool) :
    Run P q all ({ dst := d, op := .call { callee := .builtin .min, args := #[x, y], argTypes := ty }, type := t, pos := pos, after := af, guard := some (j, want) } :: rest) τ σ c K = RunG P q all rest τ σ d c K (gdF want (τ.get (dstAt all j))) (minF ((ev τ x).strip) ((ev τ y).strip)) [ev τ x, ev τ y] := by
  rw [Run.eq_def]
  simp only [RunG]
  cases h : gdF want (τ.get (dstAt all j)) <;> first | rfl | simp [kindOf, gF, pureF, Op.operands, Call.operands]
theorem run_index (q : Rg) (all rest : List Oper) (τ : Slots) (σ : Heap) (c : Prop) (K : Slots → Heap → Prop) (d : Option Nat) (ty : TypeId) (x y : Operand) (t : TypeId) (pos : String) (af : Array Edge) :
    Run P q all ({ dst := d, op := .index ty x y, type := t, pos := pos, after := af, guard := none } :: rest) τ σ c K = RunV P q all rest τ σ d c K (indexSF (ev τ x) (ev τ y)) := rfl
theorem rug_index (q : Rg) (all rest : List Oper) (τ : Slots) (σ : Heap) (c : Prop) (K : Slots → Heap → Prop) (d : Option Nat) (ty : TypeId) (x y : Operand) (t : TypeId) (pos : String) (af : Array Edge) (j : Nat) (want : Bool) :
    Run P q all ({ dst := d, op := .index ty x y, type := t, pos := pos, after := af, guard := some (j, want) } :: rest) τ σ c K = RunG P q all rest τ σ d c K (gdF want (τ.get (dstAt all j))) (indexSF ((ev τ x).strip) ((ev τ y).strip)) [ev τ x, ev τ y] := by
  rw [Run.eq_def]
  simp only [RunG]
  cases h : gdF want (τ.get (dstAt all j)) <;> first | rfl | simp [kindOf, gF, pureF, Op.operands, Call.operands]
theorem run_slice_nn (q : Rg) (all rest : List Oper) (τ : Slots) (σ : Heap) (c : Prop) (K : Slots → Heap → Prop) (d : Option Nat) (ty : TypeId) (x : Operand) (t : TypeId) (pos : String) (af : Array Edge) :
    Run P q all ({ dst := d, op := .slice ty x none none none, type := t, pos := pos, after := af, guard := none } :: rest) τ σ c K = RunV P q all rest τ σ d c K (sliceF (strT P ty) (szT P (elT P ty)) (ev τ x) none none) := rfl
theorem rug_slice_nn (q : Rg) (all rest : List Oper) (τ : Slots) (σ : Heap) (c : Prop) (K : Slots → Heap → Prop) (d : Option Nat) (ty : TypeId) (x : Operand) (t : TypeId) (pos : String) (af : Array Edge) (j : Nat) (want : Bool) :
    Run P q all ({ dst := d, op := .slice ty x none none none, type := t, pos := pos, after := af, guard := some (j, want) } :: rest) τ σ c K = RunG P q all rest τ σ d c K (gdF want (τ.get (dstAt all j))) (sliceF (strT P ty) (szT P (elT P ty)) ((ev τ x).strip) none none) [ev τ x] := by
  rw [Run.eq_def]
  simp only [RunG]
  cases h : gdF want (τ.get (dstAt all j)) <;> first | rfl | simp [kindOf, gF, pureF, Op.operands, Call.operands]
theorem run_slice_ns (q : Rg) (all rest : List Oper) (τ : Slots) (σ : Heap) (c : Prop) (K : Slots → Heap → Prop) (d : Option Nat) (ty : TypeId) (x y : Operand) (t : TypeId) (pos : String) (af : Array Edge) :
    Run P q all ({ dst := d, op := .slice ty x none (some y) none, type := t, pos := pos, after := af, guard := none } :: rest) τ σ c K = RunV P q all rest τ σ d c K (sliceF (strT P ty) (szT P (elT P ty)) (ev τ x) none (some (ev τ y))) := rfl
theorem rug_slice_ns (q : Rg) (all rest : List Oper) (τ : Slots) (σ : Heap) (c : Prop) (K : Slots → Heap → Prop) (d : Option Nat) (ty : TypeId) (x y : Operand) (t : TypeId) (pos : String) (af : Array Edge) (j : Nat) (want : Bool) :
    Run P q all ({ dst := d, op := .slice ty x none (some y) none, type := t, pos := pos, after := af, guard := some (j, want) } :: rest) τ σ c K = RunG P q all rest τ σ d c K (gdF want (τ.get (dstAt all j))) (sliceF (strT P ty) (szT P (elT P ty)) ((ev τ x).strip) none (some ((ev τ y).strip))) [ev τ x, ev τ y] := by
  rw [Run.eq_def]
  simp only [RunG]
  cases h : gdF want (τ.get (dstAt all j)) <;> first | rfl | simp [kindOf, gF, pureF, Op.operands, Call.operands]
theorem run_slice_sn (q : Rg) (all rest : List Oper) (τ : Slots) (σ : Heap) (c : Prop) (K : Slots → Heap → Prop) (d : Option Nat) (ty : TypeId) (x y : Operand) (t : TypeId) (pos : String) (af : Array Edge) :
    Run P q all ({ dst := d, op := .slice ty x (some y) none none, type := t, pos := pos, after := af, guard := none } :: rest) τ σ c K = RunV P q all rest τ σ d c K (sliceF (strT P ty) (szT P (elT P ty)) (ev τ x) (some (ev τ y)) none) := rfl
theorem rug_slice_sn (q : Rg) (all rest : List Oper) (τ : Slots) (σ : Heap) (c : Prop) (K : Slots → Heap → Prop) (d : Option Nat) (ty : TypeId) (x y : Operand) (t : TypeId) (pos : String) (af : Array Edge) (j : Nat) (want : Bool) :
    Run P q all ({ dst := d, op := .slice ty x (some y) none none, type := t, pos := pos, after := af, guard := some (j, want) } :: rest) τ σ c K = RunG P q all rest τ σ d c K (gdF want (τ.get (dstAt all j))) (sliceF (strT P ty) (szT P (elT P ty)) ((ev τ x).strip) (some ((ev τ y).strip)) none) [ev τ x, ev τ y] := by
  rw [Run.eq_def]
  simp only [RunG]
  cases h : gdF want (τ.get (dstAt all j)) <;> first | rfl | simp [kindOf, gF, pureF, Op.operands, Call.operands]
theorem run_slice_ss (q : Rg) (all rest : List Oper) (τ : Slots) (σ : Heap) (c : Prop) (K : Slots → Heap → Prop) (d : Option Nat) (ty : TypeId) (x y z : Operand) (t : TypeId) (pos : String) (af : Array Edge) :
    Run P q all ({ dst := d, op := .slice ty x (some y) (some z) none, type := t, pos := pos, after := af, guard := none } :: rest) τ σ c K = RunV P q all rest τ σ d c K (sliceF (strT P ty) (szT P (elT P ty)) (ev τ x) (some (ev τ y)) (some (ev τ z))) := rfl
theorem rug_slice_ss (q : Rg) (all rest : List Oper) (τ : Slots) (σ : Heap) (c : Prop) (K : Slots → Heap → Prop) (d : Option Nat) (ty : TypeId) (x y z : Operand) (t : TypeId) (pos : String) (af : Array Edge) (j : Nat) (want : Bool) :
    Run P q all ({ dst := d, op := .slice ty x (some y) (some z) none, type := t, pos := pos, after := af, guard := some (j, want) } :: rest) τ σ c K = RunG P q all rest τ σ d c K (gdF want (τ.get (dstAt all j))) (sliceF (strT P ty) (szT P (elT P ty)) ((ev τ x).strip) (some ((ev τ y).strip)) (some ((ev τ z).strip))) [ev τ x, ev τ y, ev τ z] := by
  rw [Run.eq_def]
  simp only [RunG]
  cases h : gdF want (τ.get (dstAt all j)) <;> first | rfl | simp [kindOf, gF, pureF, Op.operands, Call.operands]
theorem run_not (q : Rg) (all rest : List Oper) (τ : Slots) (σ : Heap) (c : Prop) (K : Slots → Heap → Prop) (d : Option Nat) (ty : TypeId) (x : Operand) (t : TypeId) (pos : String) (af : Array Edge) :
    Run P q all ({ dst := d, op := .unOp .not ty x, type := t, pos := pos, after := af, guard := none } :: rest) τ σ c K = RunV P q all rest τ σ d c K (notF (ev τ x)) := rfl
theorem rug_not (q : Rg) (all rest : List Oper) (τ : Slots) (σ : Heap) (c : Prop) (K : Slots → Heap → Prop) (d : Option Nat) (ty : TypeId) (x : Operand) (t : TypeId) (pos : String) (af : Array Edge) (j : Nat) (want : Bool) :
    Run P q all ({ dst := d, op := .unOp .not ty x, type := t, pos := pos, after := af, guard := some (j, want) } :: rest) τ σ c K = RunG P q all rest τ σ d c K (gdF want (τ.get (dstAt all j))) (notF ((ev τ x).strip)) [ev τ x] := by
  rw [Run.eq_def]
  simp only [RunG]
  cases h : gdF want (τ.get (dstAt all j)) <;> first | rfl | simp [kindOf, gF, pureF, Op.operands, Call.operands]
theorem run_neg (q : Rg) (all rest : List Oper) (τ : Slots) (σ : Heap) (c : Prop) (K : Slots → Heap → Prop) (d : Option Nat) (ty : TypeId) (x : Operand) (t : TypeId) (pos : String) (af : Array Edge) :
    Run P q all ({ dst := d, op := .unOp .neg ty x, type := t, pos := pos, after := af, guard := none } :: rest) τ σ c K = RunV P q all rest τ σ d c K (negF (ev τ x)) := rfl
theorem rug_neg (q : Rg) (all rest : List Oper) (τ : Slots) (σ : Heap) (c : Prop) (K : Slots → Heap → Prop) (d : Option Nat) (ty : TypeId) (x : Operand) (t : TypeId) (pos : String) (af : Array Edge) (j : Nat) (want : Bool) :
    Run P q all ({ dst := d, op := .unOp .neg ty x, type := t, pos := pos, after := af, guard := some (j, want) } :: rest) τ σ c K = RunG P q all rest τ σ d c K (gdF want (τ.get (dstAt all j))) (negF ((ev τ x).strip)) [ev τ x] := by
  rw [Run.eq_def]
  simp only [RunG]
  cases h : gdF want (τ.get (dstAt all j)) <;> first | rfl | simp [kindOf, gF, pureF, Op.operands, Call.operands]
theorem run_nil (q : Rg) (all : List Oper) (τ : Slots) (σ : Heap) (c : Prop) (K : Slots → Heap → Prop) : Run P q all [] τ σ c K = Ob c (K τ σ) := rfl
theorem run_store (all rest : List Oper) (τ : Slots) (σ : Heap) (c : Prop) (K : Slots → Heap → Prop) (d : Option Nat) (ty : TypeId) (x y : Operand) (t : TypeId) (pos : String) (af : Array Edge) :
    Run P none all ({ dst := d, op := .store ty x y, type := t, pos := pos, after := af, guard := none } :: rest) τ σ c K = RunS P all rest τ d c K (storeF (szT P ty) σ (ev τ x) (ev τ y)) := rfl
theorem rud_store (rc : List Nat) (all rest : List Oper) (τ : Slots) (σ : Heap) (c : Prop) (K : Slots → Heap → Prop) (d : Option Nat) (ty : TypeId) (x y : Operand) (t : TypeId) (pos : String) (af : Array Edge) :
    Run P (some rc) all ({ dst := d, op := .store ty x y, type := t, pos := pos, after := af, guard := none } :: rest) τ σ c K = RunT P rc all rest τ d c K (storeF (szT P ty) σ (ev τ x) (ev τ y)) := rfl
theorem run_alloc (all rest : List Oper) (τ : Slots) (σ : Heap) (c : Prop) (K : Slots → Heap → Prop) (d : Option Nat) (ty : TypeId) (t : TypeId) (pos : String) (af : Array Edge) :
    Run P none all ({ dst := d, op := .alloc ty, type := t, pos := pos, after := af, guard := none } :: rest) τ σ c K = RunE P all rest τ d c K ((σ.get (σ.nx, 0) = none, .ptr (σ.nx, 0) (szT P ty) 0 0, σ.put σ.nx ⟨szT P ty, zeroT P ty, [zeroT P ty]⟩)) := rfl
theorem rud_alloc (rc : List Nat) (all rest : List Oper) (τ : Slots) (σ : Heap) (c : Prop) (K : Slots → Heap → Prop) (d : Option Nat) (ty : TypeId) (t : TypeId) (pos : String) (af : Array Edge) :
    Run P (some rc) all ({ dst := d, op := .alloc ty, type := t, pos := pos, after := af, guard := none } :: rest) τ σ c K = RunD P rc all rest τ d c K ((σ.get ((σ.nx + d.getD 0), 0) = none, .ptr ((σ.nx + d.getD 0), 0) (szT P ty) 0 0, σ.put (σ.nx + d.getD 0) ⟨szT P ty, zeroT P ty, [zeroT P ty]⟩)) := rfl
theorem run_box (all rest : List Oper) (τ : Slots) (σ : Heap) (c : Prop) (K : Slots → Heap → Prop) (d : Option Nat) (ty : TypeId) (x : Operand) (t : TypeId) (pos : String) (af : Array Edge) :
    Run P none all ({ dst := d, op := .box ty x, type := t, pos := pos, after := af, guard := none } :: rest) τ σ c K = RunE P all rest τ d c K ((σ.get (σ.nx, 0) = none ∧ (ev τ x).cells = szT P ty ∧ (ev τ x).known = true, .ptr (σ.nx, 0) (szT P ty) 0 0, σ.put σ.nx ⟨szT P ty, ev τ x, [ev τ x]⟩)) := rfl
theorem rud_box (rc : List Nat) (all rest : List Oper) (τ : Slots) (σ : Heap) (c : Prop) (K : Slots → Heap → Prop) (d : Option Nat) (ty : TypeId) (x : Operand) (t : TypeId) (pos : String) (af : Array Edge) :
    Run P (some rc) all ({ dst := d, op := .box ty x, type := t, pos := pos, after := af, guard := none } :: rest) τ σ c K = RunD P rc all rest τ d c K ((σ.get ((σ.nx + d.getD 0), 0) = none ∧ (ev τ x).cells = szT P ty ∧ (ev τ x).known = true, .ptr ((σ.nx + d.getD 0), 0) (szT P ty) 0 0, σ.put (σ.nx + d.getD 0) ⟨szT P ty, ev τ x, [ev τ x]⟩)) := rfl
theorem run_buildSlice (all rest : List Oper) (τ : Slots) (σ : Heap) (c : Prop) (K : Slots → Heap → Prop) (d : Option Nat) (ty : TypeId) (len : Nat) (parts : List (Nat × Operand)) (t : TypeId) (pos : String) (af : Array Edge) :
    Run P none all ({ dst := d, op := .buildSlice ty len parts.toArray, type := t, pos := pos, after := af, guard := none } :: rest) τ σ c K = RunE P all rest τ d c K ((σ.get (σ.nx, 0) = none ∧ len = parts.length ∧ elemsOk (szT P (elT P ty)) (evP τ parts), .sref (σ.nx, 0) 0 (szT P (elT P ty)) len, σ.put σ.nx ⟨szT P (elT P ty), zeroT P (elT P ty), mkL (evP τ parts)⟩)) := by simp only [evP_map, mkL]; rfl
theorem rud_buildSlice (rc : List Nat) (all rest : List Oper) (τ : Slots) (σ : Heap) (c : Prop) (K : Slots → Heap → Prop) (d : Option Nat) (ty : TypeId) (len : Nat) (parts : List (Nat × Operand)) (t : TypeId) (pos : String) (af : Array Edge) :
    Run P (some rc) all ({ dst := d, op := .buildSlice ty len parts.toArray, type := t, pos := pos, after := af, guard := none } :: rest) τ σ c K = RunD P rc all rest τ d c K ((σ.get ((σ.nx + d.getD 0), 0) = none ∧ len = parts.length ∧ elemsOk (szT P (elT P ty)) (evP τ parts), .sref ((σ.nx + d.getD 0), 0) 0 (szT P (elT P ty)) len, σ.put (σ.nx + d.getD 0) ⟨szT P (elT P ty), zeroT P (elT P ty), mkL (evP τ parts)⟩)) := by simp only [evP_map, mkL]; rfl
theorem run_makeSlice (all rest : List Oper) (τ : Slots) (σ : Heap) (c : Prop) (K : Slots → Heap → Prop) (d : Option Nat) (ty : TypeId) (x y : Operand) (t : TypeId) (pos : String) (af : Array Edge) :
    Run P none all ({ dst := d, op := .makeSlice ty x y, type := t, pos := pos, after := af, guard := none } :: rest) τ σ c K = RunE P all rest τ d c K (mkF P ty (ev τ x) (ev τ y) σ σ.nx) := rfl
theorem rud_makeSlice (rc : List Nat) (all rest : List Oper) (τ : Slots) (σ : Heap) (c : Prop) (K : Slots → Heap → Prop) (d : Option Nat) (ty : TypeId) (x y : Operand) (t : TypeId) (pos : String) (af : Array Edge) :
    Run P (some rc) all ({ dst := d, op := .makeSlice ty x y, type := t, pos := pos, after := af, guard := none } :: rest) τ σ c K = RunD P rc all rest τ d c K (mkF P ty (ev τ x) (ev τ y) σ (σ.nx + d.getD 0)) := rfl
theorem run_cut0 (all rest : List Oper) (τ : Slots) (σ : Heap) (c : Prop) (K : Slots → Heap → Prop) (d : Option Nat) (ty : TypeId) (x y z : Operand) (t : TypeId) (pos : String) (af : Array Edge) :
    Run P none all ({ dst := d, op := .slice ty x none (some y) (some z), type := t, pos := pos, after := af, guard := none } :: rest) τ σ c K = RunE P all rest τ d c K (cut0F P ty (ev τ x) (ev τ y) (ev τ z) σ σ.nx) := rfl
theorem rud_cut0 (rc : List Nat) (all rest : List Oper) (τ : Slots) (σ : Heap) (c : Prop) (K : Slots → Heap → Prop) (d : Option Nat) (ty : TypeId) (x y z : Operand) (t : TypeId) (pos : String) (af : Array Edge) :
    Run P (some rc) all ({ dst := d, op := .slice ty x none (some y) (some z), type := t, pos := pos, after := af, guard := none } :: rest) τ σ c K = RunD P rc all rest τ d c K (cut0F P ty (ev τ x) (ev τ y) (ev τ z) σ (σ.nx + d.getD 0)) := rfl
theorem run_append (all rest : List Oper) (τ : Slots) (σ : Heap) (c : Prop) (K : Slots → Heap → Prop) (d : Option Nat) (x y : Operand) (ty ty' : TypeId) (t : TypeId) (pos : String) (af : Array Edge) :
    Run P none all ({ dst := d, op := .call { callee := .builtin .append, args := #[x, y], argTypes := #[ty, ty'] }, type := t, pos := pos, after := af, guard := none } :: rest) τ σ c K = RunE P all rest τ d c K (appF P ty (ev τ x) (ev τ y) σ σ.nx) := rfl
theorem rud_append (rc : List Nat) (all rest : List Oper) (τ : Slots) (σ : Heap) (c : Prop) (K : Slots → Heap → Prop) (d : Option Nat) (x y : Operand) (ty ty' : TypeId) (t : TypeId) (pos : String) (af : Array Edge) :
    Run P (some rc) all ({ dst := d, op := .call { callee := .builtin .append, args := #[x, y], argTypes := #[ty, ty'] }, type := t, pos := pos, after := af, guard := none } :: rest) τ σ c K = RunD P rc all rest τ d c K (appF P ty (ev τ x) (ev τ y) σ (σ.nx + d.getD 0)) := rfl
theorem run_clear (all rest : List Oper) (τ : Slots) (σ : Heap) (c : Prop) (K : Slots → Heap → Prop) (d : Option Nat) (x : Operand) (ty : TypeId) (t : TypeId) (pos : String) (af : Array Edge) :
    Run P none all ({ dst := d, op := .call { callee := .builtin .clear, args := #[x], argTypes := #[ty] }, type := t, pos := pos, after := af, guard := none } :: rest) τ σ c K = RunE P all rest τ d c K (clearF P ty (ev τ x) σ) := rfl
theorem rud_clear (rc : List Nat) (all rest : List Oper) (τ : Slots) (σ : Heap) (c : Prop) (K : Slots → Heap → Prop) (d : Option Nat) (x : Operand) (ty : TypeId) (t : TypeId) (pos : String) (af : Array Edge) :
    Run P (some rc) all ({ dst := d, op := .call { callee := .builtin .clear, args := #[x], argTypes := #[ty] }, type := t, pos := pos, after := af, guard := none } :: rest) τ σ c K = RunD P rc all rest τ d c K (clearF P ty (ev τ x) σ) := rfl
theorem run_call (all rest : List Oper) (τ : Slots) (σ : Heap) (c : Prop) (K : Slots → Heap → Prop) (d : Option Nat) (f : FuncId) (args : List Operand) (tys : Array TypeId) (t : TypeId) (pos : String) (af : Array Edge) :
    Run P none all ({ dst := d, op := .call { callee := .value (.func f), args := args.toArray, argTypes := tys }, type := t, pos := pos, after := af, guard := none } :: rest) τ σ c K = Ob c (CallTo P f (evL τ args) σ fun v σ' => Run P none all rest (putd τ d v) σ' True K) := by simp only [evL_map, Ob]; rfl
theorem run_callv (all rest : List Oper) (τ : Slots) (σ : Heap) (c : Prop) (K : Slots → Heap → Prop) (d : Option Nat) (f : Nat) (args : List Operand) (tys : Array TypeId) (t : TypeId) (pos : String) (af : Array Edge) :
    Run P none all ({ dst := d, op := .call { callee := .value (.tmp f), args := args.toArray, argTypes := tys }, type := t, pos := pos, after := af, guard := none } :: rest) τ σ c K = Ob c (CallV P (ev τ (.tmp f)) (evL τ args) σ fun v σ' => Run P none all rest (putd τ d v) σ' True K) := by simp only [evL_map, Ob]; rfl
/-- a call that leaves the heap as it is -/
def QCall (P : Program) (g : Bool) (f : FuncId) (args : List AVal) (σ : Heap) (K : AVal → Prop) : Prop := ∃ r, (g = true → QCalls P f args σ r) ∧ K r
def QV (P : Program) (x : AVal) (args : List AVal) (σ : Heap) (r : AVal) : Prop := match x with | .fnF f n caps => QCalls P f (args ++ (List.range n).map caps) σ r | _ => False
def QCallV (P : Program) (g : Bool) (x : AVal) (args : List AVal) (σ : Heap) (K : AVal → Prop) : Prop := ∃ r, (g = true → QV P x args σ r) ∧ K r
theorem lst_get : ∀ (l : List AVal) (i : Nat) (h : i < l.length), lst l i = l[i]
  | a :: l, 0, _ => rfl
  | a :: l, i + 1, h => lst_get l i (Nat.lt_of_succ_lt_succ h)
theorem qcallv_fn (g : Bool) (f : FuncId) (caps args : List AVal) (σ : Heap) (K : AVal → Prop) : QCallV P g (fn f caps) args σ K = QCall P g f (args ++ caps) σ K := by
  have h : (List.range caps.length).map (lst caps) = caps := by
    apply List.ext_getElem
    · simp
    · intro i h1 h2; simp [lst_get _ i h2]
  simp only [QCallV, QV, QCall, fn, h]
def GCall (P : Program) (g : Option Bool) (f : FuncId) (args : List AVal) (σ : Heap) (K : Bool → AVal → Prop) : Prop := match g with | some g => QCall P g f args σ (K g) | none => False
def inRc (rc : List Nat) (d : Option Nat) : Bool := match d with | some d => rc.contains d | none => false
theorem inRc_none (rc : List Nat) : inRc rc none = false := rfl
theorem inRc_nil (d : Option Nat) : inRc [] d = false := by cases d <;> rfl
theorem inRc_cons (a : Nat) (rc : List Nat) (d : Nat) : inRc (a :: rc) (some d) = if d = a then true else inRc rc (some d) := by
  by_cases h : d = a
  · rw [if_pos h, h]; simp [inRc]
  · rw [if_neg h]; simp [inRc, h]
/-- a call that is handed rows, among others in any order -/
def RCall (P : Program) (f : FuncId) (args : List AVal) (σ : Heap) (p : Nat) (K : AVal → Heap → Prop) : Prop := RCalls P f args σ p K
def DCall (P : Program) (b : Bool) (f : FuncId) (args : List AVal) (σ : Heap) (p : Nat) (K : AVal → Heap → Prop) : Prop := match b with | false => QCall P true f args (σ.bump lim) fun v => K v σ | true => RCall P f args σ p K
def DCallV (P : Program) (b : Bool) (x : AVal) (args : List AVal) (σ : Heap) (K : AVal → Prop) : Prop := match b with | false => QCallV P true x args (σ.bump lim) K | true => False
theorem dcall_f (f : FuncId) (args : List AVal) (σ : Heap) (p : Nat) (K : AVal → Heap → Prop) : DCall P false f args σ p K = QCall P true f args (σ.bump lim) fun v => K v σ := rfl
theorem dcall_t (f : FuncId) (args : List AVal) (σ : Heap) (p : Nat) (K : AVal → Heap → Prop) : DCall P true f args σ p K = RCall P f args σ p K := rfl
theorem dcallV_f (x : AVal) (args : List AVal) (σ : Heap) (K : AVal → Prop) : DCallV P false x args σ K = QCallV P true x args (σ.bump lim) K := rfl
theorem ruq_call (rc : List Nat) (all rest : List Oper) (τ : Slots) (σ : Heap) (c : Prop) (K : Slots → Heap → Prop) (d : Option Nat) (f : FuncId) (args : List Operand) (tys : Array TypeId) (t : TypeId) (pos : String) (af : Array Edge) :
    Run P (some rc) all ({ dst := d, op := .call { callee := .value (.func f), args := args.toArray, argTypes := tys }, type := t, pos := pos, after := af, guard := none } :: rest) τ σ c K = Ob c (DCall P (inRc rc d) f (evL τ args) σ (σ.nx + d.getD 0) fun v σ' => Run P (some rc) all rest (putd τ d v) σ' True K) := by
  have h0 : Run P (some rc) all ({ dst := d, op := .call { callee := .value (.func f), args := args.toArray, argTypes := tys }, type := t, pos := pos, after := af, guard := none } :: rest) τ σ c K = (match inRc rc d with
    | false => c ∧ Quiet P true (.call { callee := .value (.func f), args := args.toArray, argTypes := tys }) (ev τ) (σ.bump lim) fun v => Run P (some rc) all rest (putd τ d v) σ True K
    | true => c ∧ RStop P (.call { callee := .value (.func f), args := args.toArray, argTypes := tys }) (ev τ) σ (σ.nx + d.getD 0) fun v σ' => Run P (some rc) all rest (putd τ d v) σ' True K) := rfl
  rw [h0]
  cases inRc rc d
  · simp only [evL_map, Ob, DCall]; rfl
  · simp only [evL_map, Ob, DCall]; rfl
theorem ruq_callv (rc : List Nat) (all rest : List Oper) (τ : Slots) (σ : Heap) (c : Prop) (K : Slots → Heap → Prop) (d : Option Nat) (f : Nat) (args : List Operand) (tys : Array TypeId) (t : TypeId) (pos : String) (af : Array Edge) :
    Run P (some rc) all ({ dst := d, op := .call { callee := .value (.tmp f), args := args.toArray, argTypes := tys }, type := t, pos := pos, after := af, guard := none } :: rest) τ σ c K = Ob c (DCallV P (inRc rc d) (ev τ (.tmp f)) (evL τ args) σ fun v => Run P (some rc) all rest (putd τ d v) σ True K) := by
  have : ∀ r, QStop P (Op.call { callee := .value (.tmp f), args := args.toArray, argTypes := tys }) (ev τ) (σ.bump lim) r = QV P (ev τ (.tmp f)) (args.map (ev τ)) (σ.bump lim) r := by
    intro r; unfold QStop QV; simp only [List.toList_toArray]; cases ev τ (.tmp f) <;> rfl
  have h0 : Run P (some rc) all ({ dst := d, op := .call { callee := .value (.tmp f), args := args.toArray, argTypes := tys }, type := t, pos := pos, after := af, guard := none } :: rest) τ σ c K = (match inRc rc d with
    | false => c ∧ Quiet P true (.call { callee := .value (.tmp f), args := args.toArray, argTypes := tys }) (ev τ) (σ.bump lim) fun v => Run P (some rc) all rest (putd τ d v) σ True K
    | true => c ∧ RStop P (.call { callee := .value (.tmp f), args := args.toArray, argTypes := tys }) (ev τ) σ (σ.nx + d.getD 0) fun v σ' => Run P (some rc) all rest (putd τ d v) σ' True K) := rfl
  rw [h0]
  cases inRc rc d
  · simp only [evL_map, Ob, DCallV]
    exact congrArg (c ∧ ·) (congrArg Exists (funext fun r => congrArg (fun X => (true = true → X) ∧ Run P (some rc) all rest (putd τ d r) σ True K) (this r)))
  · simp only [evL_map, Ob, DCallV]; rfl
theorem rug_call (q : Rg) (all rest : List Oper) (τ : Slots) (σ : Heap) (c : Prop) (K : Slots → Heap → Prop) (d : Option Nat) (f : FuncId) (args : List Operand) (tys : Array TypeId) (t : TypeId) (pos : String) (af : Array Edge) (j : Nat) (want : Bool) :
    Run P q all ({ dst := d, op := .call { callee := .value (.func f), args := args.toArray, argTypes := tys }, type := t, pos := pos, after := af, guard := some (j, want) } :: rest) τ σ c K = Ob c (GCall P (gdF want (τ.get (dstAt all j))) f (evLs τ args) (σ.bump lim) fun g v => Run P q all rest (putd τ d (.when g v)) σ (g = true → okAll g (fn f [] :: evL τ args)) K) := by
  rw [Run.eq_def]
  simp only [GCall]
  cases h : gdF want (τ.get (dstAt all j)) with
  | some t =>
    have hop : (Op.call { callee := .value (.func f), args := args.toArray, argTypes := tys }).operands.toList = .func f :: args := by simp [Op.operands, Call.operands]
    simp only [hop, List.map_cons]
    simp only [evL_map, evLs_map]
    rfl
  | none => exact propext ⟨fun h => h.elim, fun h => h.2.elim⟩
theorem rug_build (q : Rg) (all rest : List Oper) (τ : Slots) (σ : Heap) (c : Prop) (K : Slots → Heap → Prop) (d : Option Nat) (ty : TypeId) (parts : List (Nat × Operand)) (t : TypeId) (pos : String) (af : Array Edge) (j : Nat) (want : Bool) :
    Run P q all ({ dst := d, op := .build ty parts.toArray, type := t, pos := pos, after := af, guard := some (j, want) } :: rest) τ σ c K = RunG P q all rest τ σ d c K (gdF want (τ.get (dstAt all j))) (partsOk P ty (evQs τ parts), buildF P ty (evQs τ parts)) (evP τ parts) := by
  rw [Run.eq_def]
  simp only [RunG]
  cases h : gdF want (τ.get (dstAt all j)) <;> simp [kindOf, gF, pureF, Op.operands, Function.comp_def, evQs_map, evP_map]
theorem rug_makeFunc (q : Rg) (all rest : List Oper) (τ : Slots) (σ : Heap) (c : Prop) (K : Slots → Heap → Prop) (d : Option Nat) (g : Nat) (caps : List Operand) (t : TypeId) (pos : String) (af : Array Edge) (j : Nat) (want : Bool) :
    Run P q all ({ dst := d, op := .makeFunc (.func g) #[] caps.toArray, type := t, pos := pos, after := af, guard := some (j, want) } :: rest) τ σ c K = RunG P q all rest τ σ d c K (gdF want (τ.get (dstAt all j))) (capsOk (evLs τ caps), fn g (evLs τ caps)) (evL τ caps) := by
  rw [Run.eq_def]
  simp only [RunG]
  cases h : gdF want (τ.get (dstAt all j)) <;> simp [kindOf, gF, pureF, Op.operands, Function.comp_def, evLs_map, evL_map, okAll]
def GCallV (P : Program) (g : Option Bool) (x : AVal) (args : List AVal) (σ : Heap) (K : Bool → AVal → Prop) : Prop := match g with | some g => QCallV P g x args σ (K g) | none => False
theorem gcallv_mk (g : Bool) (x : AVal) (args : List AVal) (σ : Heap) (K : Bool → AVal → Prop) : GCallV P (some g) x args σ K = QCallV P g x args σ (K g) := rfl
theorem rug_callv (q : Rg) (all rest : List Oper) (τ : Slots) (σ : Heap) (c : Prop) (K : Slots → Heap → Prop) (d : Option Nat) (f : Nat) (args : List Operand) (tys : Array TypeId) (t : TypeId) (pos : String) (af : Array Edge) (j : Nat) (want : Bool) :
    Run P q all ({ dst := d, op := .call { callee := .value (.tmp f), args := args.toArray, argTypes := tys }, type := t, pos := pos, after := af, guard := some (j, want) } :: rest) τ σ c K = Ob c (GCallV P (gdF want (τ.get (dstAt all j))) (ev τ (.tmp f)).strip (evLs τ args) (σ.bump lim) fun g v => Run P q all rest (putd τ d (.when g v)) σ (g = true → okAll g (ev τ (.tmp f) :: evL τ args)) K) := by
  rw [Run.eq_def]
  simp only [GCallV]
  cases h : gdF want (τ.get (dstAt all j)) with
  | some t =>
    have hop : (Op.call { callee := .value (.tmp f), args := args.toArray, argTypes := tys }).operands.toList = .tmp f :: args := by simp [Op.operands, Call.operands]
    simp only [hop, List.map_cons]
    simp only [evL_map, evLs_map]
    have hq : ∀ r, QStop P (Op.call { callee := .value (.tmp f), args := args.toArray, argTypes := tys }) (fun x => (ev τ x).strip) (σ.bump lim) r = QV P (ev τ (.tmp f)).strip (args.map fun x => (ev τ x).strip) (σ.bump lim) r := by
      intro r; unfold QStop QV; simp only [List.toList_toArray]; cases (ev τ (.tmp f)).strip <;> rfl
    exact congrArg (c ∧ ·) (congrArg Exists (funext fun r => congrArg (fun X => (t = true → X) ∧ _) (hq r)))
  | none => exact propext ⟨fun h => h.elim, fun h => h.2.elim⟩
theorem runV_mk (q : Rg) (all rest : List Oper) (τ : Slots) (σ : Heap) (d : Option Nat) (c c' : Prop) (K : Slots → Heap → Prop) (v : AVal) : RunV P q all rest τ σ d c K (c', v) = Run P q all rest (putd τ d v) σ (c ∧ c') K := rfl
theorem runS_mk (all rest : List Oper) (τ : Slots) (d : Option Nat) (c c' : Prop) (K : Slots → Heap → Prop) (σ : Heap) : RunS P all rest τ d c K (c', σ) = Run P none all rest (putd τ d .undef) (σ.bump 1) (c ∧ c') K := rfl
theorem runT_mk (rc : List Nat) (all rest : List Oper) (τ : Slots) (d : Option Nat) (c c' : Prop) (K : Slots → Heap → Prop) (σ : Heap) : RunT P rc all rest τ d c K (c', σ) = Run P (some rc) all rest (putd τ d .undef) σ (c ∧ c') K := rfl
theorem runE_mk (all rest : List Oper) (τ : Slots) (d : Option Nat) (c c' : Prop) (K : Slots → Heap → Prop) (v : AVal) (σ : Heap) : RunE P all rest τ d c K (c', v, σ) = Run P none all rest (putd τ d v) (σ.bump 1) (c ∧ c') K := rfl
theorem runD_mk (rc : List Nat) (all rest : List Oper) (τ : Slots) (d : Option Nat) (c c' : Prop) (K : Slots → Heap → Prop) (v : AVal) (σ : Heap) : RunD P rc all rest τ d c K (c', v, σ) = Run P (some rc) all rest (putd τ d v) σ (c ∧ c') K := rfl
theorem runG_mk (q : Rg) (all rest : List Oper) (τ : Slots) (σ : Heap) (d : Option Nat) (c c' : Prop) (K : Slots → Heap → Prop) (g : Bool) (v : AVal) (os : List AVal) : RunG P q all rest τ σ d c K (some g) (c', v) os = Run P q all rest (putd τ d (.when g v)) σ (c ∧ (g = true → c' ∧ okAll g os)) K := rfl
theorem runGP_mk (q : Rg) (all rest : List Oper) (τ : Slots) (σ : Heap) (d : Option Nat) (c : Prop) (K : Slots → Heap → Prop) (g : Bool) (x y z : AVal) : RunGP P q all rest τ σ d c K (some g) x y z = RunV P q all rest τ σ d c (K) (g = true → (pickF x.strip y z).1 ∧ x.okw g, .when g (pickF x.strip y z).2) := rfl
theorem gcall_mk (g : Bool) (f : FuncId) (args : List AVal) (σ : Heap) (K : Bool → AVal → Prop) : GCall P (some g) f args σ K = QCall P g f args σ (K g) := rfl
theorem putd_some (τ : Slots) (d : Nat) (v : AVal) : putd τ (some d) v = (d, v) :: τ := rfl
theorem putd_none (τ : Slots) (v : AVal) : putd τ none v = τ := rfl
theorem sget (τ : Slots) (i j : Nat) (v : AVal) : Slots.get ((j, v) :: τ) i = if i = j then v else Slots.get τ i := rfl
theorem hget_one (n : Nat) (τ : Rows) (k j : Nat) (v : Row) : Heap.get ⟨n, (j, .one v) :: τ⟩ (k, 0) = if k = j then some v else Heap.get ⟨n, τ⟩ (k, 0) := by
  show (if k = j then (Ent.get (.one v) 0).or (rget τ (k, 0)) else rget τ (k, 0)) = _
  simp only [Ent.get, if_true, Option.some_or]; rfl
theorem hget_nil (n : Nat) (k : Key) : Heap.get ⟨n, []⟩ k = none := rfl
theorem hput (n : Nat) (τ : Rows) (p : Nat) (r : Row) : Heap.put ⟨n, τ⟩ p r = ⟨n, (p, .one r) :: τ⟩ := rfl
theorem hbump (n m : Nat) (τ : Rows) : Heap.bump ⟨n, τ⟩ m = ⟨n + m, τ⟩ := rfl
theorem lim_eq : lim = 10000 := rfl
theorem hset_mk (n : Nat) (τ : Rows) (k : Key) (r : Row) : Heap.set ⟨n, τ⟩ k r = ⟨n, rset τ k r⟩ := rfl
theorem rset_one (τ : Rows) (k j : Nat) (v r : Row) : rset ((j, .one v) :: τ) (k, 0) r = if k = j then (j, .one r) :: rset τ (k, 0) r else (j, .one v) :: rset τ (k, 0) r := by
  simp only [rset, Ent.set, if_true]
theorem rset_nil (k : Key) (r : Row) : rset [] k r = [] := rfl
theorem hdel_mk (n : Nat) (τ : Rows) (k : Key) : Heap.del ⟨n, τ⟩ k = ⟨n, rdel τ k⟩ := rfl
theorem rdel_one (τ : Rows) (k j : Nat) (v : Row) : rdel ((j, .one v) :: τ) (k, 0) = if k = j then rdel τ (k, 0) else (j, .one v) :: rdel τ (k, 0) := by
  simp only [rdel, Ent.del, if_true, List.nil_append]
theorem rdel_nil (k : Key) : rdel [] k = [] := rfl
-- operands
theorem ev_tmp (τ : Slots) (i : Nat) : ev τ (.tmp i) = τ.get i := rfl
theorem ev_fn (τ : Slots) (g : Nat) : ev τ (.func g) = fn g [] := rfl
theorem ev_bool (τ : Slots) (b : Bool) : ev τ (.const (.bool b)) = .bool b := rfl
theorem ev_int (τ : Slots) (k : IntKind) (n : Int) : ev τ (.const (.int k n)) = .int k n := rfl
theorem ev_str (τ : Slots) (s : ByteArray) : ev τ (.const (.string s)) = .str s := rfl
theorem ev_nil (τ : Slots) : ev τ (.const (.slice none 0 0)) = .nilsl := rfl
-- values
theorem cells_agg (n : Nat) (f : Nat → AVal) : (AVal.aggF n f).cells = n := rfl
theorem cells_agg' (l : List AVal) : (agg l).cells = l.length := rfl
theorem cells_int (k : IntKind) (n : Int) : (AVal.int k n).cells = 1 := rfl
theorem cells_bool (b : Bool) : (AVal.bool b).cells = 1 := rfl
theorem cells_str (s : ByteArray) : (AVal.str s).cells = 1 := rfl
theorem cells_nil : AVal.nilsl.cells = 1 := rfl
theorem cells_sl (s n : Nat) (f : Nat → AVal) : (AVal.sl s n f).cells = 1 := rfl
theorem cells_sref (k : Key) (e s n : Nat) : (AVal.sref k e s n).cells = 1 := rfl
theorem known_agg (n : Nat) (f : Nat → AVal) : (AVal.aggF n f).known = true := rfl
theorem known_agg' (l : List AVal) : (agg l).known = true := rfl
theorem known_int (k : IntKind) (n : Int) : (AVal.int k n).known = true := rfl
theorem known_bool (b : Bool) : (AVal.bool b).known = true := rfl
theorem known_str (s : ByteArray) : (AVal.str s).known = true := rfl
theorem known_nil : AVal.nilsl.known = true := rfl
theorem known_sl (s n : Nat) (f : Nat → AVal) : (AVal.sl s n f).known = true := rfl
theorem known_sref (k : Key) (e s n : Nat) : (AVal.sref k e s n).known = true := rfl
theorem known_ptr (k : Key) (s e o : Nat) : (AVal.ptr k s e o).known = true := rfl
theorem leaf_ptr (k : Key) (s e o : Nat) : (AVal.ptr k s e o).leaf = true := rfl
theorem part_a (n : Nat) (f : Nat → AVal) (o s : Nat) : (AVal.aggF n f).part o s true = .aggF s fun j => if j < s then f (o + j) else .undef := rfl
theorem part_l (n : Nat) (f : Nat → AVal) (o s : Nat) : (AVal.aggF n f).part o s false = f o := rfl
theorem part_int (k : IntKind) (n : Int) (o s : Nat) (a : Bool) : (AVal.int k n).part o s a = .int k n := rfl
theorem part_bool (b : Bool) (o s : Nat) (a : Bool) : (AVal.bool b).part o s a = .bool b := rfl
theorem part_str (b : ByteArray) (o s : Nat) (a : Bool) : (AVal.str b).part o s a = .str b := rfl
theorem part_nil (o s : Nat) (a : Bool) : AVal.nilsl.part o s a = .nilsl := rfl
theorem part_sl (z n : Nat) (f : Nat → AVal) (o s : Nat) (a : Bool) : (AVal.sl z n f).part o s a = .sl z n f := rfl
theorem part_sref (k : Key) (e z n : Nat) (o s : Nat) (a : Bool) : (AVal.sref k e z n).part o s a = .sref k e z n := rfl
theorem pok_agg (n : Nat) (f : Nat → AVal) (o s : Nat) (a : Bool) : partOk (.aggF n f) o s a = (o + s ≤ n) := rfl
theorem pok_int (k : IntKind) (n : Int) (o s : Nat) (a : Bool) : partOk (.int k n) o s a = (o = 0 ∧ a = false) := rfl
theorem pok_bool (b : Bool) (o s : Nat) (a : Bool) : partOk (.bool b) o s a = (o = 0 ∧ a = false) := rfl
theorem pok_str (b : ByteArray) (o s : Nat) (a : Bool) : partOk (.str b) o s a = (o = 0 ∧ a = false) := rfl
theorem pok_nil (o s : Nat) (a : Bool) : partOk .nilsl o s a = (o = 0 ∧ a = false) := rfl
theorem pok_sl (z n : Nat) (f : Nat → AVal) (o s : Nat) (a : Bool) : partOk (.sl z n f) o s a = (o = 0 ∧ a = false) := rfl
theorem pok_sref (k : Key) (e z n : Nat) (o s : Nat) (a : Bool) : partOk (.sref k e z n) o s a = (o = 0 ∧ a = false) := rfl
theorem strip_int (k : IntKind) (n : Int) : (AVal.int k n).strip = .int k n := rfl
theorem strip_bool (b : Bool) : (AVal.bool b).strip = .bool b := rfl
theorem strip_str (b : ByteArray) : (AVal.str b).strip = .str b := rfl
theorem strip_nil : AVal.nilsl.strip = .nilsl := rfl
theorem strip_sl (z n : Nat) (f : Nat → AVal) : (AVal.sl z n f).strip = .sl z n f := rfl
theorem strip_sref (k : Key) (e z n : Nat) : (AVal.sref k e z n).strip = .sref k e z n := rfl
theorem strip_ptr (k : Key) (s e o : Nat) : (AVal.ptr k s e o).strip = .ptr k s e o := rfl
theorem strip_iptr (v : AVal) (o : Nat) : (AVal.iptr v o).strip = .iptr v o := rfl
theorem strip_agg (n : Nat) (f : Nat → AVal) : (AVal.aggF n f).strip = .aggF n f := rfl
theorem strip_when (g : Bool) (v : AVal) : (AVal.when g v).strip = v := rfl
theorem okw_int (g : Bool) (k : IntKind) (n : Int) : (AVal.int k n).okw g = True := rfl
theorem okw_bool (g : Bool) (b : Bool) : (AVal.bool b).okw g = True := rfl
theorem okw_str (g : Bool) (b : ByteArray) : (AVal.str b).okw g = True := rfl
theorem okw_nil (g : Bool) : AVal.nilsl.okw g = True := rfl
theorem okw_undef (g : Bool) : AVal.undef.okw g = True := rfl
theorem okw_sl (g : Bool) (z n : Nat) (f : Nat → AVal) : (AVal.sl z n f).okw g = True := rfl
theorem okw_sref (g : Bool) (k : Key) (e z n : Nat) : (AVal.sref k e z n).okw g = True := rfl
theorem okw_ptr (g : Bool) (k : Key) (s e o : Nat) : (AVal.ptr k s e o).okw g = True := rfl
theorem okw_iptr (g : Bool) (v : AVal) (o : Nat) : (AVal.iptr v o).okw g = True := rfl
theorem okw_agg (g : Bool) (n : Nat) (f : Nat → AVal) : (AVal.aggF n f).okw g = True := rfl
theorem okw_when (g g' : Bool) (v : AVal) : (AVal.when g' v).okw g = (g = true → g' = true) := rfl
theorem okw_fn (g : Bool) (f : Nat) (l : List AVal) : (fn f l).okw g = True := rfl
theorem okAll_nil (g : Bool) : okAll g [] = True := rfl
theorem okAll_cons (g : Bool) (v : AVal) (l : List AVal) : okAll g (v :: l) = (v.okw g ∧ okAll g l) := rfl
theorem capsOk_nil : capsOk [] = True := rfl
theorem capsOk_cons (v : AVal) (l : List AVal) : capsOk (v :: l) = ((v.leaf = true ∧ v.known = true) ∧ capsOk l) := rfl
theorem lst_z (a : AVal) (l : List AVal) : lst (a :: l) 0 = a := rfl
theorem lst_s (a : AVal) (l : List AVal) (n : Nat) : lst (a :: l) (n + 1) = lst l n := rfl
-- what operations come to
theorem load_ptr (s : Nat) (a : Bool) (σ : Heap) (k : Key) (z e o : Nat) : loadF s a σ (.ptr k z e o) = loadR s a z e o (σ.get k) := rfl
theorem load_iptr (s : Nat) (a : Bool) (σ : Heap) (v : AVal) (o : Nat) : loadF s a σ (.iptr v o) = (partOk v o s a, v.part o s a) := rfl
theorem loadR_mk (s : Nat) (a : Bool) (z e o : Nat) (z' : Nat) (d : AVal) (l : List AVal) : loadR s a z e o (some ⟨z', d, l⟩) = ((e < l.length ∧ z' = z) ∧ partOk (l.getD e d) o s a, (l.getD e d).part o s a) := rfl
theorem store_ptr (s : Nat) (σ : Heap) (k : Key) (z e o : Nat) (v : AVal) : storeF s σ (.ptr k z e o) v = storeR s σ k z e o v (σ.get k) := rfl
theorem storeR_mk (s : Nat) (σ : Heap) (k : Key) (z e o : Nat) (v : AVal) (z' : Nat) (d : AVal) (l : List AVal) : storeR s σ k z e o v (some ⟨z', d, l⟩) = (((e < l.length ∧ z' = z) ∧ putOk (l.getD e d) o v) ∧ v.cells = s ∧ v.known = true, σ.set k ⟨z', d, l.set e (putPart (l.getD e d) o v)⟩) := rfl
theorem index_sl (z s n : Nat) (f : Nat → AVal) (k : IntKind) (j : Int) : indexF z (.sl s n f) (.int k j) = ((0 ≤ j ∧ j < n) ∧ s = z, .iptr (f j.toNat) 0) := rfl
theorem index_sref (z : Nat) (b : Key) (e s n : Nat) (k : IntKind) (j : Int) : indexF z (.sref b e s n) (.int k j) = ((0 ≤ j ∧ j < n) ∧ s = z, .ptr b z (e + j.toNat) 0) := rfl
theorem field_ptr (k : Key) (s e o off : Nat) : fieldF (.ptr k s e o) off = (True, .ptr k s e (o + off)) := rfl
theorem field_iptr (v : AVal) (o off : Nat) : fieldF (.iptr v o) off = (True, .iptr v (o + off)) := rfl
theorem len_sl (b : Bool) (s n : Nat) (f : Nat → AVal) : lenF b (.sl s n f) = (b = false, .int .i64 n) := rfl
theorem len_sref (b : Bool) (k : Key) (e s n : Nat) : lenF b (.sref k e s n) = (b = false, .int .i64 n) := rfl
theorem len_nil (b : Bool) : lenF b .nilsl = (b = false, .int .i64 0) := rfl
theorem len_str (b : Bool) (s : ByteArray) : lenF b (.str s) = (b = true, .int .i64 s.size) := rfl
theorem pick_bb (t x y : Bool) : pickF (.bool t) (.bool x) (.bool y) = (True, .bool (cond t x y)) := rfl
theorem pick_wb (t g x y : Bool) : pickF (.bool t) (.when g (.bool x)) (.bool y) = (t = true → g = true, .bool (cond t x y)) := rfl
theorem pick_bw (t g x y : Bool) : pickF (.bool t) (.bool x) (.when g (.bool y)) = (t = false → g = true, .bool (cond t x y)) := rfl
theorem pick_ww (t g g' x y : Bool) : pickF (.bool t) (.when g (.bool x)) (.when g' (.bool y)) = ((t = true → g = true) ∧ (t = false → g' = true), .bool (cond t x y)) := rfl
theorem max_mk (k k' : IntKind) (a b : Int) : maxF (.int k a) (.int k' b) = (k = k', .int k (if b > a then b else a)) := rfl
theorem min_mk (k k' : IntKind) (a b : Int) : minF (.int k a) (.int k' b) = (k = k', .int k (if b < a then b else a)) := rfl
theorem idxs (s : ByteArray) (k : IntKind) (j : Int) : indexSF (.str s) (.int k j) = (0 ≤ j ∧ j < s.size, .int .u8 (s.data.getD j.toNat 0).toNat) := rfl
theorem bound_n (n d : Nat) : boundF n d none = (True, d) := rfl
theorem bound_s (n d : Nat) (k : IntKind) (j : Int) : boundF n d (some (.int k j)) = (0 ≤ j ∧ j ≤ n, j.toNat) := rfl
theorem slice_sl (b : Bool) (sz s n : Nat) (f : Nat → AVal) (lo hi : Option AVal) : sliceF b sz (.sl s n f) lo hi = ((b = false ∧ s = sz) ∧ (boundF n n hi).1 ∧ (boundF (boundF n n hi).2 0 lo).1, .sl s (min (boundF n n hi).2 n - (boundF (boundF n n hi).2 0 lo).2) fun i => if i < min (boundF n n hi).2 n - (boundF (boundF n n hi).2 0 lo).2 then f ((boundF (boundF n n hi).2 0 lo).2 + i) else f n) := rfl
theorem slice_sref (b : Bool) (sz s n e : Nat) (k : Key) (lo hi : Option AVal) : sliceF b sz (.sref k e s n) lo hi = ((b = false ∧ s = sz) ∧ (boundF n n hi).1 ∧ (boundF (boundF n n hi).2 0 lo).1, .sref k (e + (boundF (boundF n n hi).2 0 lo).2) s ((boundF n n hi).2 - (boundF (boundF n n hi).2 0 lo).2)) := rfl
theorem slice_nil (b : Bool) (sz : Nat) (lo hi : Option AVal) : sliceF b sz .nilsl lo hi = (b = false ∧ (boundF 0 0 hi).1 ∧ (boundF (boundF 0 0 hi).2 0 lo).1, .nilsl) := rfl
theorem cap_nil : capF .nilsl = (True, .int .i64 0) := rfl
theorem conv_mk (k k' : IntKind) (n : Int) : convF (some k) (.int k' n) = (True, .int k (W k n)) := rfl
theorem mk_mk (t : TypeId) (n c : Int) (σ : Heap) (p : Nat) : mkF P t (.int .i64 n) (.int .i64 c) σ p = ((0 ≤ n ∧ c = n) ∧ n * byT P (elT P t) < 281474976710656, .sref (p, 0) 0 (szT P (elT P t)) n.toNat, σ.put p ⟨szT P (elT P t), zeroT P (elT P t), List.replicate n.toNat (zeroT P (elT P t))⟩) := rfl
theorem cut0_sl (t : TypeId) (s n : Nat) (f : Nat → AVal) (k k' : IntKind) (σ : Heap) (p : Nat) : cut0F P t (.sl s n f) (.int k 0) (.int k' 0) σ p = (strT P t = false, .sref (p, 0) 0 (szT P (elT P t)) 0, σ.put p ⟨szT P (elT P t), zeroT P (elT P t), []⟩) := rfl
theorem cut0_sref (t : TypeId) (k0 : Key) (e s n : Nat) (k k' : IntKind) (σ : Heap) (p : Nat) : cut0F P t (.sref k0 e s n) (.int k 0) (.int k' 0) σ p = (strT P t = false, .sref (p, 0) 0 (szT P (elT P t)) 0, σ.put p ⟨szT P (elT P t), zeroT P (elT P t), []⟩) := rfl
theorem cut0_nil (t : TypeId) (k k' : IntKind) (σ : Heap) (p : Nat) : cut0F P t .nilsl (.int k 0) (.int k' 0) σ p = (strT P t = false, .nilsl, σ) := rfl
def AppR (P : Program) (t : TypeId) (n : Nat) (k : Key) (sz : Nat) (σ : Heap) (p : Nat) (r : Option Row) (y : Prop × List AVal) : Prop × (AVal × Heap) := match r with
  | some r => (((y.1 ∧ n ≤ r.l.length ∧ r.sz = sz ∧ sz = szT P (elT P t)) ∧ (n + y.2.length) * (2 * byT P (elT P t)) < 281474976710656), .sref (p, 0) 0 sz (r.l.take n ++ y.2).length, (σ.del k).put p ⟨sz, r.d, r.l.take n ++ y.2⟩)
  | none => (False, .undef, σ)
theorem app_sref (t : TypeId) (k : Key) (sz n : Nat) (y : AVal) (σ : Heap) (p : Nat) : appF P t (.sref k 0 sz n) y σ p = AppR P t n k sz σ p (σ.get k) (readS sz σ y) := by
  simp only [appF, AppR]
  cases σ.get k <;> simp
theorem appR_mk (t : TypeId) (k : Key) (sz n : Nat) (σ : Heap) (p : Nat) (z : Nat) (d : AVal) (l : List AVal) (c : Prop) (ys : List AVal) : AppR P t n k sz σ p (some ⟨z, d, l⟩) (c, ys) = (((c ∧ n ≤ l.length ∧ z = sz ∧ sz = szT P (elT P t)) ∧ (n + ys.length) * (2 * byT P (elT P t)) < 281474976710656), .sref (p, 0) 0 sz (l.take n ++ ys).length, (σ.del k).put p ⟨sz, d, l.take n ++ ys⟩) := rfl
def AppN (P : Program) (t : TypeId) (σ : Heap) (p : Nat) (y : Prop × List AVal) : Prop × (AVal × Heap) := (y.1 ∧ y.2.length * (2 * byT P (elT P t)) < 281474976710656,
        .sref (p, 0) 0 (szT P (elT P t)) y.2.length, σ.put p ⟨szT P (elT P t), zeroT P (elT P t), y.2⟩)
theorem app_nil (t : TypeId) (y : AVal) (σ : Heap) (p : Nat) : appF P t .nilsl y σ p = AppN P t σ p (readS (szT P (elT P t)) σ y) := rfl
theorem appN_mk (t : TypeId) (σ : Heap) (p : Nat) (c : Prop) (ys : List AVal) : AppN P t σ p (c, ys) = (c ∧ ys.length * (2 * byT P (elT P t)) < 281474976710656, .sref (p, 0) 0 (szT P (elT P t)) ys.length, σ.put p ⟨szT P (elT P t), zeroT P (elT P t), ys⟩) := rfl
def ReadR (sz s e n : Nat) (r : Option Row) : Prop × List AVal := match r with
  | some r => ((s = sz ∧ r.sz = sz) ∧ e + n ≤ r.l.length, (r.l.drop e).take n)
  | none => (False, [])
theorem readS_sref (sz : Nat) (σ : Heap) (k : Key) (e s n : Nat) : readS sz σ (.sref k e s n) = ReadR sz s e n (σ.get k) := rfl
theorem readR_mk (sz s e n z : Nat) (d : AVal) (l : List AVal) : ReadR sz s e n (some ⟨z, d, l⟩) = ((s = sz ∧ z = sz) ∧ e + n ≤ l.length, (l.drop e).take n) := rfl
theorem readS_nil (sz : Nat) (σ : Heap) : readS sz σ .nilsl = (True, []) := rfl
theorem readS_sl (sz s n : Nat) (f : Nat → AVal) (σ : Heap) : readS sz σ (.sl s n f) = (s = sz, (List.range n).map f) := rfl
def ClrR (P : Program) (t : TypeId) (k : Key) (e0 sz n : Nat) (σ : Heap) (r : Option Row) : Prop × (AVal × Heap) := match r with
  | some r => ((e0 + n ≤ r.l.length ∧ r.sz = sz) ∧ sz = szT P (elT P t), tup [], σ.set k ⟨r.sz, r.d, r.l.take e0 ++ List.replicate n (zeroT P (elT P t)) ++ r.l.drop (e0 + n)⟩)
  | none => (False, .undef, σ)
theorem clr_sref (t : TypeId) (k : Key) (e0 sz n : Nat) (σ : Heap) : clearF P t (.sref k e0 sz n) σ = ClrR P t k e0 sz n σ (σ.get k) := rfl
theorem clrR_mk (t : TypeId) (k : Key) (e0 sz n : Nat) (σ : Heap) (z : Nat) (d : AVal) (l : List AVal) : ClrR P t k e0 sz n σ (some ⟨z, d, l⟩) = ((e0 + n ≤ l.length ∧ z = sz) ∧ sz = szT P (elT P t), tup [], σ.set k ⟨z, d, l.take e0 ++ List.replicate n (zeroT P (elT P t)) ++ l.drop (e0 + n)⟩) := rfl
theorem clr_nil (t : TypeId) (σ : Heap) : clearF P t .nilsl σ = (True, tup [], σ) := rfl
theorem slice_str (b : Bool) (sz : Nat) (s : ByteArray) (lo hi : Option AVal) : sliceF b sz (.str s) lo hi = (b = true ∧ (boundF s.size s.size hi).1 ∧ (boundF (boundF s.size s.size hi).2 0 lo).1, .str (s.extract (boundF (boundF s.size s.size hi).2 0 lo).2 (boundF s.size s.size hi).2)) := rfl
theorem extract_mk (n : Nat) (f : Nat → AVal) (i : Nat) : extractF (.tupF n f) i = (i < n, f i) := rfl
theorem extract_tup (l : List AVal) (i : Nat) : extractF (tup l) i = (i < l.length, lst l i) := rfl
theorem not_mk (b : Bool) : notF (.bool b) = (True, .bool (!b)) := rfl
theorem neg_mk (k : IntKind) (n : Int) : negF (.int k n) = (True, .int k (W k (0 - n))) := rfl
theorem nil_ptr (k : Key) (s e o : Nat) : nilF (.ptr k s e o) = (True, .ptr k s e o) := rfl
theorem nil_iptr (v : AVal) (o : Nat) : nilF (.iptr v o) = (True, .iptr v o) := rfl
theorem bin_add (t : TypeId) (k k' : IntKind) (a b : Int) : binT P t .add (.int k a) (.int k' b) = (k = k', .int k (W k (a + b))) := rfl
theorem bin_sub (t : TypeId) (k k' : IntKind) (a b : Int) : binT P t .sub (.int k a) (.int k' b) = (k = k', .int k (W k (a - b))) := rfl
theorem bin_mul (t : TypeId) (k k' : IntKind) (a b : Int) : binT P t .mul (.int k a) (.int k' b) = (k = k', .int k (W k (a * b))) := rfl
theorem bin_quo (t : TypeId) (k k' : IntKind) (a b : Int) : binT P t .quo (.int k a) (.int k' b) = (k = k' ∧ b ≠ 0, .int k (W k (a.tdiv b))) := rfl
theorem bin_rem (t : TypeId) (k k' : IntKind) (a b : Int) : binT P t .rem (.int k a) (.int k' b) = (k = k' ∧ b ≠ 0, .int k (a.tmod b)) := rfl
theorem bin_eql (t : TypeId) (k k' : IntKind) (a b : Int) : binT P t .eql (.int k a) (.int k' b) = (k = k', .bool (decide (a = b))) := rfl
theorem bin_neq (t : TypeId) (k k' : IntKind) (a b : Int) : binT P t .neq (.int k a) (.int k' b) = (k = k', .bool (!decide (a = b))) := rfl
theorem bin_lss (t : TypeId) (k k' : IntKind) (a b : Int) : binT P t .lss (.int k a) (.int k' b) = (k = k', .bool (decide (a < b))) := rfl
theorem bin_leq (t : TypeId) (k k' : IntKind) (a b : Int) : binT P t .leq (.int k a) (.int k' b) = (k = k', .bool (decide (a ≤ b))) := rfl
theorem bin_gtr (t : TypeId) (k k' : IntKind) (a b : Int) : binT P t .gtr (.int k a) (.int k' b) = (k = k', .bool (decide (b < a))) := rfl
theorem bin_geq (t : TypeId) (k k' : IntKind) (a b : Int) : binT P t .geq (.int k a) (.int k' b) = (k = k', .bool (decide (b ≤ a))) := rfl
theorem bin_and (t : TypeId) (k k' : IntKind) (a b : Int) : binT P t .and (.int k a) (.int k' b) = (k = k', .int k (bitF .and k a b)) := rfl
theorem bin_or (t : TypeId) (k k' : IntKind) (a b : Int) : binT P t .or (.int k a) (.int k' b) = (k = k', .int k (bitF .or k a b)) := rfl
theorem bin_xor (t : TypeId) (k k' : IntKind) (a b : Int) : binT P t .xor (.int k a) (.int k' b) = (k = k', .int k (bitF .xor k a b)) := rfl
theorem bin_andNot (t : TypeId) (k k' : IntKind) (a b : Int) : binT P t .andNot (.int k a) (.int k' b) = (k = k', .int k (bitF .andNot k a b)) := rfl
theorem bin_shl (t : TypeId) (k k' : IntKind) (a b : Int) : binT P t .shl (.int k a) (.int k' b) = (0 ≤ b, .int k (shlF k a b)) := rfl
theorem bin_shr (t : TypeId) (k k' : IntKind) (a b : Int) : binT P t .shr (.int k a) (.int k' b) = (0 ≤ b, .int k (shrF k a b)) := rfl
theorem bin_gtr' (t : TypeId) (a b : ByteArray) : binT P t .gtr (.str a) (.str b) = (True, .bool (!(Op.bytesLess a.toList b.toList || decide (a = b)))) := rfl
theorem bin_geq' (t : TypeId) (a b : ByteArray) : binT P t .geq (.str a) (.str b) = (True, .bool (!Op.bytesLess a.toList b.toList)) := rfl
theorem bin_adds (t : TypeId) (a b : ByteArray) : binT P t .add (.str a) (.str b) = (a.size + b.size < 9223372036854775808, .str (a ++ b)) := rfl
theorem bin_eqs (t : TypeId) (a b : ByteArray) : binT P t .eql (.str a) (.str b) = (True, .bool (decide (a = b))) := rfl
theorem bin_nes (t : TypeId) (a b : ByteArray) : binT P t .neq (.str a) (.str b) = (True, .bool (!decide (a = b))) := rfl
theorem bin_lss' (t : TypeId) (a b : ByteArray) : binT P t .lss (.str a) (.str b) = (True, .bool (Op.bytesLess a.toList b.toList)) := rfl
theorem bin_leq' (t : TypeId) (a b : ByteArray) : binT P t .leq (.str a) (.str b) = (True, .bool (Op.bytesLess a.toList b.toList || decide (a = b))) := rfl
theorem bin_eqn (t : TypeId) (k : Key) (e s n : Nat) : binT P t .eql (.sref k e s n) .nilsl = (slT P t = true ∧ True, if n = 0 then .anyb else .bool false) := rfl
theorem bin_nen (t : TypeId) (k : Key) (e s n : Nat) : binT P t .neq (.sref k e s n) .nilsl = (slT P t = true ∧ True, notA (if n = 0 then .anyb else .bool false)) := rfl
theorem bin_eqn0 (t : TypeId) : binT P t .eql .nilsl .nilsl = (slT P t = true ∧ True, .bool true) := rfl
theorem bin_nen0 (t : TypeId) : binT P t .neq .nilsl .nilsl = (slT P t = true ∧ True, .bool false) := rfl
theorem bin_eqb (t : TypeId) (a b : Bool) : binT P t .eql (.bool a) (.bool b) = (P.underlying t = some .bool, .bool (a == b)) := rfl
theorem bin_neb (t : TypeId) (a b : Bool) : binT P t .neq (.bool a) (.bool b) = (P.underlying t = some .bool, .bool (!(a == b))) := rfl
theorem bin_eqa (t : TypeId) (n m : Nat) (f g : Nat → AVal) : binT P t .eql (.aggF n f) (.aggF m g) = (∃ ks, EqOk P t n ks ∧ n = m ∧ ∀ j < n, leafK (ks j) (f j) ∧ leafK (ks j) (g j), .bool (aeq n f g)) := rfl
theorem bin_nea (t : TypeId) (n m : Nat) (f g : Nat → AVal) : binT P t .neq (.aggF n f) (.aggF m g) = (∃ ks, EqOk P t n ks ∧ n = m ∧ ∀ j < n, leafK (ks j) (f j) ∧ leafK (ks j) (g j), .bool (!aeq n f g)) := rfl
-- bools
theorem cond_tf (t x : Bool) : cond t x false = (t && x) := by cases t <;> rfl
theorem cond_tt (t x : Bool) : cond t true x = (t || x) := by cases t <;> rfl
theorem cond_ft (t x : Bool) : cond t false x = (!t && x) := by cases t <;> rfl
theorem cond_xt (t x : Bool) : cond t x true = (!t || x) := by cases t <;> rfl
theorem beq_t (t : Bool) : (t == true) = t := by cases t <;> rfl
theorem beq_f (t : Bool) : (t == false) = !t := by cases t <;> rfl
-- code
theorem awp_seq (a b : Code) (cf : Cfg) (Q : AExit → Slots → Heap → Prop) (τ : Slots) (σ : Heap) : awp P cf (.seq a b) Q τ σ = awp P cf a (AExit.then (awp P cf b Q) Q) τ σ := rfl
theorem awp_skip (cf : Cfg) (Q : AExit → Slots → Heap → Prop) (τ : Slots) (σ : Heap) : awp P cf .skip Q τ σ = Q .normal τ σ := rfl
theorem awp_ret (cf : Cfg) (Q : AExit → Slots → Heap → Prop) (τ : Slots) (σ : Heap) : awp P cf .ret Q τ σ = Q .ret τ σ := rfl
theorem awp_exit (n : Nat) (cf : Cfg) (Q : AExit → Slots → Heap → Prop) (τ : Slots) (σ : Heap) : awp P cf (.exit n) Q τ σ = Q (.exit n) τ σ := rfl
def CondB (P : Program) (cf : Cfg) (c : Operand) (x y : Code) (Q : AExit → Slots → Heap → Prop) (τ : Slots) (σ : Heap) : Prop := Ways (ev τ c) (awp P cf x Q τ σ) (awp P cf y Q τ σ)
def BlkB (P : Program) (cf : Cfg) (n : Nat) (c : Code) (Q : AExit → Slots → Heap → Prop) (τ : Slots) (σ : Heap) : Prop := awp P cf c (AExit.blk n Q) τ σ
theorem awp_block (n : Nat) (c : Code) (cf : Cfg) (Q : AExit → Slots → Heap → Prop) (τ : Slots) (σ : Heap) : awp P cf (.block n c) Q τ σ = Cut cf (BlkB P cf n c) Q τ σ := rfl
theorem awp_cond (c : Operand) (x y : Code) (cf : Cfg) (Q : AExit → Slots → Heap → Prop) (τ : Slots) (σ : Heap) : awp P cf (.cond c x y) Q τ σ = Cut cf (CondB P cf c x y) Q τ σ := rfl
theorem condB_eq (c : Operand) (x y : Code) (cf : Cfg) (Q : AExit → Slots → Heap → Prop) (τ : Slots) (σ : Heap) : CondB P cf c x y Q τ σ = Ways (ev τ c) (awp P cf x Q τ σ) (awp P cf y Q τ σ) := rfl
theorem blkB_eq (n : Nat) (c : Code) (cf : Cfg) (Q : AExit → Slots → Heap → Prop) (τ : Slots) (σ : Heap) : BlkB P cf n c Q τ σ = awp P cf c (AExit.blk n Q) τ σ := rfl
/-- on, without a meeting -/
theorem cut_l {cf : Cfg} {A : (AExit → Slots → Heap → Prop) → Slots → Heap → Prop} {Q : AExit → Slots → Heap → Prop} {τ : Slots} {σ : Heap} (h : A Q τ σ) : Cut cf A Q τ σ := .inl h
/-- the ways out meet -/
theorem cut_j {cf : Cfg} {A : (AExit → Slots → Heap → Prop) → Slots → Heap → Prop} {Q : AExit → Slots → Heap → Prop} {τ : Slots} {σ : Heap} (τ1 : Slots) (σ1 : Heap) (h1 : A (AExit.then (fun τ' σ' => Wk cf.c0 τ' σ' τ1 σ1) Q) τ σ) (h2 : Q .normal τ1 σ1) : Cut cf A Q τ σ := by
  refine .inr ⟨fun τ σ => τ = τ1 ∧ σ = σ1, ?_, by rintro _ _ ⟨rfl, rfl⟩; exact h2⟩
  have : Weak cf.c0 (fun τ σ => τ = τ1 ∧ σ = σ1) = fun τ' σ' => Wk cf.c0 τ' σ' τ1 σ1 := by
    funext τ' σ'
    exact propext ⟨by rintro ⟨_, _, h, rfl, rfl⟩; exact h, fun h => ⟨_, _, h, rfl, rfl⟩⟩
  rw [this]; exact h1
/-- the same, where some ways return -/
theorem cut_z {cf : Cfg} {A : (AExit → Slots → Heap → Prop) → Slots → Heap → Prop} {Q : AExit → Slots → Heap → Prop} {τ : Slots} {σ : Heap} {R E : Type} (z : R ⊕ E) (ts : E → Slots) (hs : E → Heap) (h1 : A (AExit.then (fun τ' σ' => ∃ e, z = .inr e ∧ Wk cf.c0 τ' σ' (ts e) (hs e)) Q) τ σ) (h2 : ∀ e, z = .inr e → Q .normal (ts e) (hs e)) : Cut cf A Q τ σ := by
  refine .inr ⟨fun τ σ => ∃ e, z = .inr e ∧ τ = ts e ∧ σ = hs e, ?_, by rintro _ _ ⟨e, he, rfl, rfl⟩; exact h2 e he⟩
  have : Weak cf.c0 (fun τ σ => ∃ e, z = .inr e ∧ τ = ts e ∧ σ = hs e) = fun τ' σ' => ∃ e, z = .inr e ∧ Wk cf.c0 τ' σ' (ts e) (hs e) := by
    funext τ' σ'
    exact propext ⟨by rintro ⟨_, _, h, e, he, rfl, rfl⟩; exact ⟨e, he, h⟩, fun ⟨e, he, h⟩ => ⟨_, _, h, e, he, rfl, rfl⟩⟩
  rw [this]; exact h1
theorem awp_loop (c : Code) (cf : Cfg) (Q : AExit → Slots → Heap → Prop) (τ : Slots) (σ : Heap) : awp P cf (.loop c) Q τ σ = Loop cf (awp P cf c) Q τ σ := rfl
theorem awp_region (id : Nat) (ops : List Oper) (c0 : Nat) (Q : AExit → Slots → Heap → Prop) (prs : Nat → List (Nat × Nat)) (τ : Slots) (σ : Heap) : awp P ⟨c0, fun _ => none, prs⟩ (.region id ops.toArray false) Q τ σ = Run P none ops ops τ σ True (Q .normal) := rfl
/-- an open region -/
def RunI (P : Program) (rc : List Nat) (ops l : List Oper) (τ : Slots) (σ : Heap) (K : Slots → Heap → Prop) : Prop := Run P (some rc) ops l τ σ True K
theorem runI_nil (ops l : List Oper) (τ : Slots) (σ : Heap) (K : Slots → Heap → Prop) : RunI P [] ops l τ σ K = Run P (some []) ops l τ σ True K := rfl
theorem runI_cons (d : Nat) (rc : List Nat) (ops l : List Oper) (τ : Slots) (σ : Heap) (K : Slots → Heap → Prop) : RunI P (d :: rc) ops l τ σ K = Run P (some (d :: rc)) ops l τ σ True K := rfl
theorem rcOf_nil (ops : List Oper) : rcOf ops [] = [] := rfl
theorem rcOf_cons (ops : List Oper) (l i : Nat) (rest : List (Nat × Nat)) : rcOf ops ((l, i) :: rest) = if l = i then l :: rcOf ops rest else rcOf ops rest := rfl
/-- an open region's end -/
def TailR (P : Program) (ops tl : List Oper) (Q : Slots → Heap → Prop) (τ : Slots) (σ : Heap) : Prop := Run P none ops tl τ σ True Q
def EndD (P : Program) (ops : List Oper) (prs : List (Nat × Nat)) (Q : Slots → Heap → Prop) (τ : Slots) (σ : Heap) : Prop := prsOk P σ.nx τ ops prs ∧ Q τ (σ.bump lim)
theorem awp_draw (id : Nat) (ops : List Oper) (c0 : Nat) (Q : AExit → Slots → Heap → Prop) (prs : Nat → List (Nat × Nat)) (τ : Slots) (σ : Heap) : awp P ⟨c0, fun _ => none, prs⟩ (.region id ops.toArray true) Q τ σ = RunI P (rcOf ops (prs id)) ops ops τ σ (EndD P ops (prs id) (TailR P ops [] (Q .normal))) := rfl
theorem awp_regc (id : Nat) (ops : List Oper) (cf : Cfg) (Q : AExit → Slots → Heap → Prop) (τ : Slots) (σ : Heap) : awp P cf (.region id ops.toArray false) Q τ σ = Run P none ops (ordOps (cf.ord id) ops) τ σ True (Q .normal) := rfl
theorem awp_regd (id : Nat) (ops : List Oper) (cf : Cfg) (Q : AExit → Slots → Heap → Prop) (τ : Slots) (σ : Heap) : awp P cf (.region id ops.toArray true) Q τ σ = RunI P (rcOf ops (cf.prs id)) ops (ordOps (cf.ord id) ops) τ σ (EndD P ops (cf.prs id) (TailR P ops (tailOps (cf.ord id) ops) (Q .normal))) := rfl
theorem tail_none (ops : List Oper) : tailOps none ops = [] := rfl
theorem tail_some (l : List Nat) (ops : List Oper) : tailOps (some l) ops = dropL l ops := rfl
theorem dropL_nil (ops : List Oper) : dropL [] ops = ops := rfl
theorem dropL_cons (i : Nat) (l : List Nat) (o : Oper) (ops : List Oper) : dropL (i :: l) (o :: ops) = dropL l ops := rfl
theorem dropL_none (l : List Nat) : dropL l [] = [] := by cases l <;> rfl
theorem tailR_nil (ops : List Oper) (Q : Slots → Heap → Prop) (τ : Slots) (σ : Heap) : TailR P ops [] Q τ σ = Q τ σ := by simp [TailR, Run]
theorem tailR_cons (ops : List Oper) (o : Oper) (tl : List Oper) (Q : Slots → Heap → Prop) (τ : Slots) (σ : Heap) : TailR P ops (o :: tl) Q τ σ = Run P none ops (o :: tl) τ σ True Q := rfl
def EndC (e c K : Prop) : Prop := (e ∨ c) ∧ K
theorem endC_t (c K : Prop) : EndC True c K = K := by simp [EndC]
theorem endC_f (c K : Prop) : EndC False c K = Ob c K := by simp [EndC, Ob]
theorem endD_nil (ops : List Oper) (Q : Slots → Heap → Prop) (τ : Slots) (σ : Heap) : EndD P ops [] Q τ σ = Q τ (σ.bump lim) := by simp [EndD, prsOk]
theorem endD_cons (ops : List Oper) (l i : Nat) (prs : List (Nat × Nat)) (Q : Slots → Heap → Prop) (τ : Slots) (n : Nat) (τ' : Rows) : EndD P ops ((l, i) :: prs) Q τ ⟨n, τ'⟩ = EndC (l = i) (compat (fpOf P n τ (ops.getD l default)) (fpOf P n τ (ops.getD i default))) (EndD P ops prs Q τ ⟨n, τ'⟩) := by simp only [EndD, EndC, prsOk, and_assoc]
def fpL (P : Program) (t : TypeId) : AVal → Fp
  | .ptr k _ e f => .rd k (aggT P t) e f (szT P t)
  | _ => .fz
def fpS (P : Program) (t : TypeId) : AVal → Fp
  | .ptr k _ e f => .wr k e f (szT P t)
  | _ => .bad
theorem fp_load (b : Nat) (τ : Slots) (d : Option Nat) (ty : TypeId) (x : Operand) (t : TypeId) (pos : String) (af : Array Edge) (g : Option (Nat × Bool)) : fpOf P b τ { dst := d, op := .load ty x, type := t, pos := pos, after := af, guard := g } = fpL P ty (ev τ x) := rfl
theorem fp_store (b : Nat) (τ : Slots) (d : Option Nat) (ty : TypeId) (x y : Operand) (t : TypeId) (pos : String) (af : Array Edge) (g : Option (Nat × Bool)) : fpOf P b τ { dst := d, op := .store ty x y, type := t, pos := pos, after := af, guard := g } = fpS P ty (ev τ x) := rfl
theorem fp_alloc (b : Nat) (τ : Slots) (d : Option Nat) (ty : TypeId) (t : TypeId) (pos : String) (af : Array Edge) (g : Option (Nat × Bool)) : fpOf P b τ { dst := d, op := .alloc ty, type := t, pos := pos, after := af, guard := g } = .nw (b + d.getD 0) := rfl
theorem fp_box (b : Nat) (τ : Slots) (d : Option Nat) (ty : TypeId) (x : Operand) (t : TypeId) (pos : String) (af : Array Edge) (g : Option (Nat × Bool)) : fpOf P b τ { dst := d, op := .box ty x, type := t, pos := pos, after := af, guard := g } = .nw (b + d.getD 0) := rfl
theorem fp_bs (b : Nat) (τ : Slots) (d : Option Nat) (ty : TypeId) (n : Nat) (ps : Array (Nat × Operand)) (t : TypeId) (pos : String) (af : Array Edge) (g : Option (Nat × Bool)) : fpOf P b τ { dst := d, op := .buildSlice ty n ps, type := t, pos := pos, after := af, guard := g } = .nw (b + d.getD 0) := rfl
theorem fp_append (b : Nat) (τ : Slots) (d : Option Nat) (x y : Operand) (tys : Array TypeId) (t : TypeId) (pos : String) (af : Array Edge) (g : Option (Nat × Bool)) : fpOf P b τ { dst := d, op := .call { callee := .builtin .append, args := #[x, y], argTypes := tys }, type := t, pos := pos, after := af, guard := g } = .ap (keysOf (ev τ x)) (keysOf (ev τ y)) (b + d.getD 0) := rfl
theorem fpL_ptr (t : TypeId) (k : Key) (s e f : Nat) : fpL P t (.ptr k s e f) = .rd k (aggT P t) e f (szT P t) := rfl
theorem fpL_iptr (t : TypeId) (v : AVal) (f : Nat) : fpL P t (.iptr v f) = .fz := rfl
theorem cp_f1 (x : Fp) : compat .fz x = True := rfl
theorem cp_f2 (x : Fp) : compat x .fz = True := by cases x <;> rfl
theorem fp_call (b : Nat) (τ : Slots) (d : Option Nat) (f : Operand) (args : List Operand) (tys : Array TypeId) (t : TypeId) (pos : String) (af : Array Edge) (g : Option (Nat × Bool)) : fpOf P b τ { dst := d, op := .call { callee := .value f, args := args.toArray, argTypes := tys }, type := t, pos := pos, after := af, guard := g } = .cl (argNames (evL τ args)) (b + d.getD 0) := by simp only [evL_map]; rfl
theorem argN_nil : argNames [] = [] := rfl
theorem argN_cons (v : AVal) (l : List AVal) : argNames (v :: l) = namesA v ++ argNames l := rfl
theorem namesA_sref (k : Key) (e s n : Nat) : namesA (.sref k e s n) = [k.1] := rfl
theorem namesA_ptr (k : Key) (s e o : Nat) : namesA (.ptr k s e o) = [k.1] := rfl
theorem namesA_nilsl : namesA .nilsl = [] := rfl
theorem namesA_int (k : IntKind) (n : Int) : namesA (.int k n) = [] := rfl
theorem namesA_bool (b : Bool) : namesA (.bool b) = [] := rfl
theorem namesA_str (b : ByteArray) : namesA (.str b) = [] := rfl
theorem namesA_iptr (v : AVal) (o : Nat) : namesA (.iptr v o) = [] := rfl
theorem namesA_aggF (n : Nat) (f : Nat → AVal) : namesA (.aggF n f) = [] := rfl
theorem namesA_agg (l : List AVal) : namesA (agg l) = [] := rfl
theorem namesA_sl (s n : Nat) (f : Nat → AVal) : namesA (.sl s n f) = [] := rfl
theorem namesA_fnF (g n : Nat) (f : Nat → AVal) : namesA (.fnF g n f) = [] := rfl
theorem offN_nil (n : Nat) : offN n [] = True := rfl
theorem offN_cons (n k : Nat) (l : List Nat) : offN n (k :: l) = (n ≠ k ∧ offN n l) := rfl
theorem cp_rc (k : Key) (a : Bool) (e o n p : Nat) (ks : List Nat) : compat (.rd k a e o n) (.cl ks p) = (offN k.1 ks ∧ k.1 ≠ p) := rfl
theorem cp_cr (k : Key) (a : Bool) (e o n p : Nat) (ks : List Nat) : compat (.cl ks p) (.rd k a e o n) = (offN k.1 ks ∧ k.1 ≠ p) := rfl
theorem fpS_ptr (t : TypeId) (k : Key) (s e f : Nat) : fpS P t (.ptr k s e f) = .wr k e f (szT P t) := rfl
theorem keysOf_sref (k : Key) (e s n : Nat) : keysOf (.sref k e s n) = [k] := rfl
theorem keysOf_nil : keysOf .nilsl = [] := rfl
theorem keysOf_sl (s n : Nat) (f : Nat → AVal) : keysOf (.sl s n f) = [] := rfl
theorem offK_nil (p : Nat) : offK p [] = True := rfl
theorem offK_cons (p : Nat) (k : Key) (l : List Key) : offK p (k :: l) = (k.1 ≠ p ∧ offK p l) := rfl
theorem notK_nil (k : Key) : notK k [] = True := rfl
theorem notK_cons (k q : Key) (l : List Key) : notK k (q :: l) = (k ≠ q ∧ notK k l) := rfl
theorem cp_rw (k k' : Key) (a : Bool) (e o n e' o' n' : Nat) : compat (.rd k a e o n) (.wr k' e' o' n') = (k ≠ k' ∨ (a = false ∧ n = 1) ∧ (e ≠ e' ∨ o + n ≤ o' ∨ o' + n' ≤ o)) := rfl
theorem cp_wr (k k' : Key) (a : Bool) (e o n e' o' n' : Nat) : compat (.wr k' e' o' n') (.rd k a e o n) = (k ≠ k' ∨ (a = false ∧ n = 1) ∧ (e ≠ e' ∨ o + n ≤ o' ∨ o' + n' ≤ o)) := rfl
theorem cp_ra (k : Key) (a : Bool) (e o n p : Nat) (del src : List Key) : compat (.rd k a e o n) (.ap del src p) = (notK k del ∧ k.1 ≠ p) := rfl
theorem cp_ar (k : Key) (a : Bool) (e o n p : Nat) (del src : List Key) : compat (.ap del src p) (.rd k a e o n) = (notK k del ∧ k.1 ≠ p) := rfl
theorem cp_nw (p : Nat) (k : Key) (e o n : Nat) : compat (.nw p) (.wr k e o n) = (k.1 ≠ p) := rfl
theorem cp_wn (p : Nat) (k : Key) (e o n : Nat) : compat (.wr k e o n) (.nw p) = (k.1 ≠ p) := rfl
theorem cp_na (p q : Nat) (del src : List Key) : compat (.nw p) (.ap del src q) = (p ≠ q ∧ offK p del ∧ offK p src) := rfl
theorem cp_an (p q : Nat) (del src : List Key) : compat (.ap del src q) (.nw p) = (p ≠ q ∧ offK p del ∧ offK p src) := rfl
theorem partsOk_nil (t : TypeId) : partsOk P t [] = True := rfl
theorem partsOk_cons (t : TypeId) (i : Nat) (v : AVal) (l : List (Nat × AVal)) : partsOk P t ((i, v) :: l) = ((v.known = true ∧ v.cells = szT P (ftyT P t i)) ∧ partsOk P t l) := rfl
theorem elemsOk_nil (n : Nat) : elemsOk n [] = True := rfl
theorem elemsOk_cons (n : Nat) (v : AVal) (l : List AVal) : elemsOk n (v :: l) = ((v.known = true ∧ v.cells = n) ∧ elemsOk n l) := rfl
theorem ord_none (ops : List Oper) : ordOps none ops = ops := rfl
def ordL (ops : List Oper) : List Nat → List Oper
  | [] => []
  | i :: l => ops.getD i default :: ordL ops l
theorem ord_some (l : List Nat) (ops : List Oper) : ordOps (some l) ops = ordL ops l := by
  induction l with
  | nil => rfl
  | cons i l ih => exact congrArg _ ih
theorem ordL_nil (ops : List Oper) : ordL ops [] = [] := rfl
theorem ordL_cons (ops : List Oper) (i : Nat) (l : List Nat) : ordL ops (i :: l) = ops.getD i default :: ordL ops l := rfl
theorem then_normal (K : Slots → Heap → Prop) (Q : AExit → Slots → Heap → Prop) : AExit.then K Q .normal = K := rfl
theorem then_ret (K : Slots → Heap → Prop) (Q : AExit → Slots → Heap → Prop) : AExit.then K Q .ret = Q .ret := rfl
theorem then_exit (K : Slots → Heap → Prop) (Q : AExit → Slots → Heap → Prop) (n : Nat) : AExit.then K Q (.exit n) = Q (.exit n) := rfl
theorem blk_normal (n : Nat) (Q : AExit → Slots → Heap → Prop) : AExit.blk n Q .normal = Q .normal := rfl
theorem blk_ret (n : Nat) (Q : AExit → Slots → Heap → Prop) : AExit.blk n Q .ret = Q .ret := rfl
theorem blk_exit (n m : Nat) (Q : AExit → Slots → Heap → Prop) : AExit.blk n Q (.exit m) = if m = n then Q .normal else Q (.exit m) := rfl
theorem ends_normal (c0 : Nat) (rs : List ResultVar) (R : AVal → Heap → Prop) : Ends P c0 rs R .normal = Ret P c0 rs R := rfl
theorem ends_ret (c0 : Nat) (rs : List ResultVar) (R : AVal → Heap → Prop) : Ends P c0 rs R .ret = Ret P c0 rs R := rfl
theorem ways {t : Bool} {X Y : Prop} (h : t = true → X) (k : t = false → Y) : Ways (.bool t) X Y := ⟨h, k⟩
theorem ways_any (X Y : Prop) : Ways .anyb X Y = (X ∧ Y) := rfl
theorem ways_true (X Y : Prop) : Ways (.bool true) X Y = X := by simp [Ways]
theorem ways_false (X Y : Prop) : Ways (.bool false) X Y = Y := by simp [Ways]
theorem ob_congr {c c' K K' : Prop} (h : c = c') (k : K = K') : Ob c K = Ob c' K' := by rw [h, k]
-- what simp is not to look into
theorem run_congr (q : Rg) (all ops : List Oper) {τ τ' : Slots} {σ σ' : Heap} {c c' : Prop} (K : Slots → Heap → Prop) (h1 : τ = τ') (h2 : σ = σ') (h3 : c = c') : Run P q all ops τ σ c K = Run P q all ops τ' σ' c' K := by rw [h1, h2, h3]
theorem runV_congr (q : Rg) (all rest : List Oper) {τ τ' : Slots} {σ σ' : Heap} (d : Option Nat) {c c' : Prop} (K : Slots → Heap → Prop) {r r' : Prop × AVal} (h1 : τ = τ') (h0 : σ = σ') (h2 : c = c') (h3 : r = r') : RunV P q all rest τ σ d c K r = RunV P q all rest τ' σ' d c' K r' := by rw [h1, h0, h2, h3]
theorem runS_congr (all rest : List Oper) {τ τ' : Slots} (d : Option Nat) {c c' : Prop} (K : Slots → Heap → Prop) {r r' : Prop × Heap} (h1 : τ = τ') (h2 : c = c') (h3 : r = r') : RunS P all rest τ d c K r = RunS P all rest τ' d c' K r' := by rw [h1, h2, h3]
theorem runT_congr (rc : List Nat) (all rest : List Oper) {τ τ' : Slots} (d : Option Nat) {c c' : Prop} (K : Slots → Heap → Prop) {r r' : Prop × Heap} (h1 : τ = τ') (h2 : c = c') (h3 : r = r') : RunT P rc all rest τ d c K r = RunT P rc all rest τ' d c' K r' := by rw [h1, h2, h3]
theorem runG_congr (q : Rg) (all rest : List Oper) {τ τ' : Slots} {σ σ' : Heap} (d : Option Nat) {c c' : Prop} (K : Slots → Heap → Prop) {g g' : Option Bool} {r r' : Prop × AVal} {os os' : List AVal} (h1 : τ = τ') (h0 : σ = σ') (h2 : c = c') (h3 : g = g') (h4 : r = r') (h5 : os = os') : RunG P q all rest τ σ d c K g r os = RunG P q all rest τ' σ' d c' K g' r' os' := by rw [h1, h0, h2, h3, h4, h5]
theorem runGP_congr (q : Rg) (all rest : List Oper) {τ τ' : Slots} {σ σ' : Heap} (d : Option Nat) {c c' : Prop} (K : Slots → Heap → Prop) {g g' : Option Bool} {x x' y y' z z' : AVal} (h1 : τ = τ') (h0 : σ = σ') (h2 : c = c') (h3 : g = g') (h4 : x = x') (h5 : y = y') (h6 : z = z') : RunGP P q all rest τ σ d c K g x y z = RunGP P q all rest τ' σ' d c' K g' x' y' z' := by rw [h1, h0, h2, h3, h4, h5, h6]
theorem runE_congr (all rest : List Oper) {τ τ' : Slots} (d : Option Nat) {c c' : Prop} (K : Slots → Heap → Prop) {r r' : Prop × (AVal × Heap)} (h1 : τ = τ') (h2 : c = c') (h3 : r = r') : RunE P all rest τ d c K r = RunE P all rest τ' d c' K r' := by rw [h1, h2, h3]
theorem runD_congr (rc : List Nat) (all rest : List Oper) {τ τ' : Slots} (d : Option Nat) {c c' : Prop} (K : Slots → Heap → Prop) {r r' : Prop × (AVal × Heap)} (h1 : τ = τ') (h2 : c = c') (h3 : r = r') : RunD P rc all rest τ d c K r = RunD P rc all rest τ' d c' K r' := by rw [h1, h2, h3]
theorem awp_congr (cf : Cfg) (c : Code) (Q : AExit → Slots → Heap → Prop) {τ τ' : Slots} {σ σ' : Heap} (h1 : τ = τ') (h2 : σ = σ') : awp P cf c Q τ σ = awp P cf c Q τ' σ' := by rw [h1, h2]
theorem ways_congr {t t' : AVal} (X Y : Prop) (h : t = t') : Ways t X Y = Ways t' X Y := by rw [h]
theorem callTo_congr (f : FuncId) {a a' : List AVal} {σ σ' : Heap} (K : AVal → Heap → Prop) (h : a = a') (h2 : σ = σ') : CallTo P f a σ K = CallTo P f a' σ' K := by rw [h, h2]
theorem callV_congr {x x' : AVal} {a a' : List AVal} {σ σ' : Heap} (K : AVal → Heap → Prop) (h1 : x = x') (h : a = a') (h2 : σ = σ') : CallV P x a σ K = CallV P x' a' σ' K := by rw [h1, h, h2]
theorem qcall_congr {g g' : Bool} (f : FuncId) {a a' : List AVal} {σ σ' : Heap} (K : AVal → Prop) (h0 : g = g') (h : a = a') (h2 : σ = σ') : QCall P g f a σ K = QCall P g' f a' σ' K := by rw [h0, h, h2]
theorem gcallV_congr {g g' : Option Bool} {x x' : AVal} {a a' : List AVal} {σ σ' : Heap} (K : Bool → AVal → Prop) (h0 : g = g') (h1 : x = x') (h : a = a') (h2 : σ = σ') : GCallV P g x a σ K = GCallV P g' x' a' σ' K := by rw [h0, h1, h, h2]
theorem gcall_congr {g g' : Option Bool} (f : FuncId) {a a' : List AVal} {σ σ' : Heap} (K : Bool → AVal → Prop) (h0 : g = g') (h : a = a') (h2 : σ = σ') : GCall P g f a σ K = GCall P g' f a' σ' K := by rw [h0, h, h2]
theorem qcallV_congr {g g' : Bool} {x x' : AVal} {a a' : List AVal} {σ σ' : Heap} (K : AVal → Prop) (h0 : g = g') (h1 : x = x') (h : a = a') (h2 : σ = σ') : QCallV P g x a σ K = QCallV P g' x' a' σ' K := by rw [h0, h1, h, h2]
theorem loop_congr (cf : Cfg) (b : (AExit → Slots → Heap → Prop) → Slots → Heap → Prop) (Q : AExit → Slots → Heap → Prop) {τ τ' : Slots} {σ σ' : Heap} (h1 : τ = τ') (h2 : σ = σ') : Loop cf b Q τ σ = Loop cf b Q τ' σ' := by rw [h1, h2]
theorem runI_congr {rc rc' : List Nat} (ops : List Oper) {l l' : List Oper} {τ τ' : Slots} {σ σ' : Heap} (K : Slots → Heap → Prop) (h : rc = rc') (h0 : l = l') (h1 : τ = τ') (h2 : σ = σ') : RunI P rc ops l τ σ K = RunI P rc' ops l' τ' σ' K := by rw [h, h0, h1, h2]
theorem rcOf_congr (ops : List Oper) {p p' : List (Nat × Nat)} (h : p = p') : rcOf ops p = rcOf ops p' := by rw [h]
theorem rcall_congr (f : FuncId) {a a' : List AVal} {σ σ' : Heap} {p p' : Nat} (K : AVal → Heap → Prop) (h : a = a') (h2 : σ = σ') (h3 : p = p') : RCall P f a σ p K = RCall P f a' σ' p' K := by rw [h, h2, h3]
theorem dcall_congr {b b' : Bool} (f : FuncId) {a a' : List AVal} {σ σ' : Heap} {p p' : Nat} (K : AVal → Heap → Prop) (h0 : b = b') (h : a = a') (h2 : σ = σ') (h3 : p = p') : DCall P b f a σ p K = DCall P b' f a' σ' p' K := by rw [h0, h, h2, h3]
theorem dcallV_congr {b b' : Bool} {x x' : AVal} {a a' : List AVal} {σ σ' : Heap} (K : AVal → Prop) (h0 : b = b') (h1 : x = x') (h : a = a') (h2 : σ = σ') : DCallV P b x a σ K = DCallV P b' x' a' σ' K := by rw [h0, h1, h, h2]
theorem endC_congr {e e' : Prop} (c K : Prop) (h : e = e') : EndC e c K = EndC e' c K := by rw [h]
theorem endD_congr (ops : List Oper) {prs prs' : List (Nat × Nat)} (Q : Slots → Heap → Prop) {τ τ' : Slots} {σ σ' : Heap} (h0 : prs = prs') (h1 : τ = τ') (h2 : σ = σ') : EndD P ops prs Q τ σ = EndD P ops prs' Q τ' σ' := by rw [h0, h1, h2]
theorem cut_congr (cf : Cfg) (A : (AExit → Slots → Heap → Prop) → Slots → Heap → Prop) (Q : AExit → Slots → Heap → Prop) {τ τ' : Slots} {σ σ' : Heap} (h1 : τ = τ') (h2 : σ = σ') : Cut cf A Q τ σ = Cut cf A Q τ' σ' := by rw [h1, h2]
theorem ret_congr (c0 : Nat) (rs : List ResultVar) (R : AVal → Heap → Prop) {τ τ' : Slots} {σ σ' : Heap} (h1 : τ = τ') (h2 : σ = σ') : Ret P c0 rs R τ σ = Ret P c0 rs R τ' σ' := by rw [h1, h2]
end
attribute [congr] runI_congr rcOf_congr rcall_congr dcall_congr dcallV_congr endC_congr run_congr runV_congr runT_congr runD_congr endD_congr cut_congr gcallV_congr runS_congr runG_congr runGP_congr runE_congr awp_congr ways_congr callTo_congr callV_congr qcall_congr gcall_congr qcallV_congr loop_congr ret_congr
end Go.Nw
