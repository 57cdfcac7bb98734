/- The abstract walk, part 11: the walk's rules, for simp. -/
import Derived.Test.YtngdglmimlfefaaAwCall
namespace Go.Aw
set_option linter.unusedVariables false
set_option linter.unusedSimpArgs false
section
variable {P : Program}
def RunV (P : Program) (q : Bool) (all : List Oper) (rest : List Oper) (τ : Slots) (σ : Heap) (d : Option Nat) (c : Prop) (K : Slots → Heap → Prop) (r : Prop × AVal) : Prop := Run P q all rest (putd τ d r.2) σ (c ∧ r.1) K
def RunS (P : Program) (q : Bool) (all : List Oper) (rest : List Oper) (τ : Slots) (d : Option Nat) (c : Prop) (K : Slots → Heap → Prop) (r : Prop × Heap) : Prop := Run P q all rest (putd τ d .undef) r.2 (c ∧ r.1) K
def RunN (P : Program) (q : Bool) (all : List Oper) (rest : List Oper) (τ : Slots) (σ : Heap) (d : Option Nat) (K : Slots → Heap → Prop) (b : Nat) (r : Prop × (AVal × Row)) : Prop := Run P q all rest (putd τ d r.2.1) ((some b, r.2.2) :: σ) r.1 K
/-- a guarded operation -/
def RunG (P : Program) (q : Bool) (all : List Oper) (rest : List Oper) (τ : Slots) (σ : Heap) (d : Option Nat) (c : Prop) (K : Slots → Heap → Prop) (g : Option Bool) (r : Prop × AVal) (os : List AVal) : Prop :=
  match g with
  | some g => Run P q all rest (putd τ d (.when g r.2)) σ (c ∧ (g = true → r.1 ∧ okAll g os)) K
  | none => False
/-- a guarded 'pick' -/
def RunGP (P : Program) (q : Bool) (all : List Oper) (rest : List Oper) (τ : Slots) (σ : Heap) (d : Option Nat) (c : Prop) (K : Slots → Heap → Prop) (g : Option Bool) (x y z : AVal) : Prop :=
  match g with
  | some g => Run P q all rest (putd τ d (.when g (pickF x.strip y z).2)) σ (c ∧ (g = true → (pickF x.strip y z).1 ∧ x.okw g)) K
  | none => False
theorem gd_b (want t : Bool) : gdF want (.bool t) = some (t == want) := rfl
theorem gd_w (want t g : Bool) : gdF want (.when g (.bool t)) = some (g && (t == want)) := rfl
theorem run_move (q : Bool) (all rest : List Oper) (τ : Slots) (σ : Heap) (c : Prop) (K : Slots → Heap → Prop) (d : Option Nat) (x : Operand) (t : TypeId) (pos : String) (af : Array Edge) :
    Run P q all ({ dst := d, op := .move x, type := t, pos := pos, after := af, guard := none } :: rest) τ σ c K = RunV P q all rest τ σ d c K ((True, ev τ x)) := rfl
theorem rug_move (q : Bool) (all rest : List Oper) (τ : Slots) (σ : Heap) (c : Prop) (K : Slots → Heap → Prop) (d : Option Nat) (x : Operand) (t : TypeId) (pos : String) (af : Array Edge) (j : Nat) (want : Bool) :
    Run P q all ({ dst := d, op := .move x, type := t, pos := pos, after := af, guard := some (j, want) } :: rest) τ σ c K = RunG P q all rest τ σ d c K (gdF want (τ.get (dstAt all j))) ((True, (ev τ x).strip)) [ev τ x] := by
  rw [Run.eq_def]
  simp only [RunG]
  cases h : gdF want (τ.get (dstAt all j)) <;> first | rfl | simp [kindOf, gF, pureF, Op.operands, Call.operands]
theorem run_assign (q : Bool) (all rest : List Oper) (τ : Slots) (σ : Heap) (c : Prop) (K : Slots → Heap → Prop) (d : Option Nat) (x : Operand) (t : TypeId) (pos : String) (af : Array Edge) :
    Run P q all ({ dst := d, op := .assign x, type := t, pos := pos, after := af, guard := none } :: rest) τ σ c K = RunV P q all rest τ σ d c K ((True, ev τ x)) := rfl
theorem rug_assign (q : Bool) (all rest : List Oper) (τ : Slots) (σ : Heap) (c : Prop) (K : Slots → Heap → Prop) (d : Option Nat) (x : Operand) (t : TypeId) (pos : String) (af : Array Edge) (j : Nat) (want : Bool) :
    Run P q all ({ dst := d, op := .assign x, type := t, pos := pos, after := af, guard := some (j, want) } :: rest) τ σ c K = RunG P q all rest τ σ d c K (gdF want (τ.get (dstAt all j))) ((True, (ev τ x).strip)) [ev τ x] := by
  rw [Run.eq_def]
  simp only [RunG]
  cases h : gdF want (τ.get (dstAt all j)) <;> first | rfl | simp [kindOf, gF, pureF, Op.operands, Call.operands]
theorem run_pick (q : Bool) (all rest : List Oper) (τ : Slots) (σ : Heap) (c : Prop) (K : Slots → Heap → Prop) (d : Option Nat) (x y z : Operand) (t : TypeId) (pos : String) (af : Array Edge) :
    Run P q all ({ dst := d, op := .pick x y z, type := t, pos := pos, after := af, guard := none } :: rest) τ σ c K = RunV P q all rest τ σ d c K (pickF (ev τ x) (ev τ y) (ev τ z)) := rfl
theorem rug_pick (q : Bool) (all rest : List Oper) (τ : Slots) (σ : Heap) (c : Prop) (K : Slots → Heap → Prop) (d : Option Nat) (x y z : Operand) (t : TypeId) (pos : String) (af : Array Edge) (j : Nat) (want : Bool) :
    Run P q all ({ dst := d, op := .pick x y z, type := t, pos := pos, after := af, guard := some (j, want) } :: rest) τ σ c K = RunGP P q all rest τ σ d c K (gdF want (τ.get (dstAt all j))) (ev τ x) (ev τ y) (ev τ z) := by
  rw [Run.eq_def]
  simp only [RunGP]
  cases h : gdF want (τ.get (dstAt all j)) <;> simp [kindOf, gF]
theorem run_build (q : Bool) (all rest : List Oper) (τ : Slots) (σ : Heap) (c : Prop) (K : Slots → Heap → Prop) (d : Option Nat) (ty : TypeId) (parts : Array (Nat × Operand)) (t : TypeId) (pos : String) (af : Array Edge) :
    Run P q all ({ dst := d, op := .build ty parts, type := t, pos := pos, after := af, guard := none } :: rest) τ σ c K = RunV P q all rest τ σ d c K ((partsOk P ty (parts.toList.map fun p => (p.1, ev τ p.2)), buildF P ty (parts.toList.map fun p => (p.1, ev τ p.2)))) := rfl
theorem run_load (q : Bool) (all rest : List Oper) (τ : Slots) (σ : Heap) (c : Prop) (K : Slots → Heap → Prop) (d : Option Nat) (ty : TypeId) (x : Operand) (t : TypeId) (pos : String) (af : Array Edge) :
    Run P q all ({ dst := d, op := .load ty x, type := t, pos := pos, after := af, guard := none } :: rest) τ σ c K = RunV P q all rest τ σ d c K (loadF (szT P ty) (aggT P ty) σ (ev τ x)) := rfl
theorem rug_load (q : Bool) (all rest : List Oper) (τ : Slots) (σ : Heap) (c : Prop) (K : Slots → Heap → Prop) (d : Option Nat) (ty : TypeId) (x : Operand) (t : TypeId) (pos : String) (af : Array Edge) (j : Nat) (want : Bool) :
    Run P q all ({ dst := d, op := .load ty x, type := t, pos := pos, after := af, guard := some (j, want) } :: rest) τ σ c K = RunG P q all rest τ σ d c K (gdF want (τ.get (dstAt all j))) (loadF (szT P ty) (aggT P ty) σ ((ev τ x).strip)) [ev τ x] := by
  rw [Run.eq_def]
  simp only [RunG]
  cases h : gdF want (τ.get (dstAt all j)) <;> first | rfl | simp [kindOf, gF, pureF, Op.operands, Call.operands]
theorem run_nilCheck (q : Bool) (all rest : List Oper) (τ : Slots) (σ : Heap) (c : Prop) (K : Slots → Heap → Prop) (d : Option Nat) (x : Operand) (t : TypeId) (pos : String) (af : Array Edge) :
    Run P q all ({ dst := d, op := .nilCheck x, type := t, pos := pos, after := af, guard := none } :: rest) τ σ c K = RunV P q all rest τ σ d c K (nilF (ev τ x)) := rfl
theorem rug_nilCheck (q : Bool) (all rest : List Oper) (τ : Slots) (σ : Heap) (c : Prop) (K : Slots → Heap → Prop) (d : Option Nat) (x : Operand) (t : TypeId) (pos : String) (af : Array Edge) (j : Nat) (want : Bool) :
    Run P q all ({ dst := d, op := .nilCheck x, type := t, pos := pos, after := af, guard := some (j, want) } :: rest) τ σ c K = RunG P q all rest τ σ d c K (gdF want (τ.get (dstAt all j))) (nilF ((ev τ x).strip)) [ev τ x] := by
  rw [Run.eq_def]
  simp only [RunG]
  cases h : gdF want (τ.get (dstAt all j)) <;> first | rfl | simp [kindOf, gF, pureF, Op.operands, Call.operands]
theorem run_binOp (q : Bool) (all rest : List Oper) (τ : Slots) (σ : Heap) (c : Prop) (K : Slots → Heap → Prop) (d : Option Nat) (o : BinOp) (ty : TypeId) (x y : Operand) (ty' : TypeId) (t : TypeId) (pos : String) (af : Array Edge) :
    Run P q all ({ dst := d, op := .binOp o ty x y ty', type := t, pos := pos, after := af, guard := none } :: rest) τ σ c K = RunV P q all rest τ σ d c K (binT P ty o (ev τ x) (ev τ y)) := rfl
theorem rug_binOp (q : Bool) (all rest : List Oper) (τ : Slots) (σ : Heap) (c : Prop) (K : Slots → Heap → Prop) (d : Option Nat) (o : BinOp) (ty : TypeId) (x y : Operand) (ty' : TypeId) (t : TypeId) (pos : String) (af : Array Edge) (j : Nat) (want : Bool) :
    Run P q all ({ dst := d, op := .binOp o ty x y ty', type := t, pos := pos, after := af, guard := some (j, want) } :: rest) τ σ c K = RunG P q all rest τ σ d c K (gdF want (τ.get (dstAt all j))) (binT P ty o ((ev τ x).strip) ((ev τ y).strip)) [ev τ x, ev τ y] := by
  rw [Run.eq_def]
  simp only [RunG]
  cases h : gdF want (τ.get (dstAt all j)) <;> first | rfl | simp [kindOf, gF, pureF, Op.operands, Call.operands]
theorem run_fieldAddr (q : Bool) (all rest : List Oper) (τ : Slots) (σ : Heap) (c : Prop) (K : Slots → Heap → Prop) (d : Option Nat) (ty : TypeId) (x : Operand) (f : Nat) (t : TypeId) (pos : String) (af : Array Edge) :
    Run P q all ({ dst := d, op := .fieldAddr ty x f, type := t, pos := pos, after := af, guard := none } :: rest) τ σ c K = RunV P q all rest τ σ d c K (fieldF (ev τ x) (foffT P ty f)) := rfl
theorem rug_fieldAddr (q : Bool) (all rest : List Oper) (τ : Slots) (σ : Heap) (c : Prop) (K : Slots → Heap → Prop) (d : Option Nat) (ty : TypeId) (x : Operand) (f : Nat) (t : TypeId) (pos : String) (af : Array Edge) (j : Nat) (want : Bool) :
    Run P q all ({ dst := d, op := .fieldAddr ty x f, type := t, pos := pos, after := af, guard := some (j, want) } :: rest) τ σ c K = RunG P q all rest τ σ d c K (gdF want (τ.get (dstAt all j))) (fieldF ((ev τ x).strip) (foffT P ty f)) [ev τ x] := by
  rw [Run.eq_def]
  simp only [RunG]
  cases h : gdF want (τ.get (dstAt all j)) <;> first | rfl | simp [kindOf, gF, pureF, Op.operands, Call.operands]
theorem run_field (q : Bool) (all rest : List Oper) (τ : Slots) (σ : Heap) (c : Prop) (K : Slots → Heap → Prop) (d : Option Nat) (ty : TypeId) (x : Operand) (f : Nat) (t : TypeId) (pos : String) (af : Array Edge) :
    Run P q all ({ dst := d, op := .field ty x f, type := t, pos := pos, after := af, guard := none } :: rest) τ σ c K = RunV P q all rest τ σ d c K (fieldVF (ev τ x) (foffT P ty f) (szT P (ftyT P ty f)) (aggT P (ftyT P ty f))) := rfl
theorem rug_field (q : Bool) (all rest : List Oper) (τ : Slots) (σ : Heap) (c : Prop) (K : Slots → Heap → Prop) (d : Option Nat) (ty : TypeId) (x : Operand) (f : Nat) (t : TypeId) (pos : String) (af : Array Edge) (j : Nat) (want : Bool) :
    Run P q all ({ dst := d, op := .field ty x f, type := t, pos := pos, after := af, guard := some (j, want) } :: rest) τ σ c K = RunG P q all rest τ σ d c K (gdF want (τ.get (dstAt all j))) (fieldVF ((ev τ x).strip) (foffT P ty f) (szT P (ftyT P ty f)) (aggT P (ftyT P ty f))) [ev τ x] := by
  rw [Run.eq_def]
  simp only [RunG]
  cases h : gdF want (τ.get (dstAt all j)) <;> first | rfl | simp [kindOf, gF, pureF, Op.operands, Call.operands]
theorem run_indexAddr (q : Bool) (all rest : List Oper) (τ : Slots) (σ : Heap) (c : Prop) (K : Slots → Heap → Prop) (d : Option Nat) (ty : TypeId) (x y : Operand) (t : TypeId) (pos : String) (af : Array Edge) :
    Run P q all ({ dst := d, op := .indexAddr ty x y, type := t, pos := pos, after := af, guard := none } :: rest) τ σ c K = RunV P q all rest τ σ d c K (indexF (szT P (elT P ty)) (ev τ x) (ev τ y)) := rfl
theorem rug_indexAddr (q : Bool) (all rest : List Oper) (τ : Slots) (σ : Heap) (c : Prop) (K : Slots → Heap → Prop) (d : Option Nat) (ty : TypeId) (x y : Operand) (t : TypeId) (pos : String) (af : Array Edge) (j : Nat) (want : Bool) :
    Run P q all ({ dst := d, op := .indexAddr ty x y, type := t, pos := pos, after := af, guard := some (j, want) } :: rest) τ σ c K = RunG P q all rest τ σ d c K (gdF want (τ.get (dstAt all j))) (indexF (szT P (elT P ty)) ((ev τ x).strip) ((ev τ y).strip)) [ev τ x, ev τ y] := by
  rw [Run.eq_def]
  simp only [RunG]
  cases h : gdF want (τ.get (dstAt all j)) <;> first | rfl | simp [kindOf, gF, pureF, Op.operands, Call.operands]
theorem run_extract (q : Bool) (all rest : List Oper) (τ : Slots) (σ : Heap) (c : Prop) (K : Slots → Heap → Prop) (d : Option Nat) (x : Operand) (i : Nat) (t : TypeId) (pos : String) (af : Array Edge) :
    Run P q all ({ dst := d, op := .extract x i, type := t, pos := pos, after := af, guard := none } :: rest) τ σ c K = RunV P q all rest τ σ d c K (extractF (ev τ x) i) := rfl
theorem rug_extract (q : Bool) (all rest : List Oper) (τ : Slots) (σ : Heap) (c : Prop) (K : Slots → Heap → Prop) (d : Option Nat) (x : Operand) (i : Nat) (t : TypeId) (pos : String) (af : Array Edge) (j : Nat) (want : Bool) :
    Run P q all ({ dst := d, op := .extract x i, type := t, pos := pos, after := af, guard := some (j, want) } :: rest) τ σ c K = RunG P q all rest τ σ d c K (gdF want (τ.get (dstAt all j))) (extractF ((ev τ x).strip) i) [ev τ x] := by
  rw [Run.eq_def]
  simp only [RunG]
  cases h : gdF want (τ.get (dstAt all j)) <;> first | rfl | simp [kindOf, gF, pureF, Op.operands, Call.operands]
theorem run_makeFunc (q : Bool) (all rest : List Oper) (τ : Slots) (σ : Heap) (c : Prop) (K : Slots → Heap → Prop) (d : Option Nat) (g : Nat) (fs caps : Array Operand) (t : TypeId) (pos : String) (af : Array Edge) :
    Run P q all ({ dst := d, op := .makeFunc (.func g) fs caps, type := t, pos := pos, after := af, guard := none } :: rest) τ σ c K = RunV P q all rest τ σ d c K ((capsOk (caps.toList.map (ev τ)), fn g (caps.toList.map (ev τ)))) := rfl
theorem run_len (q : Bool) (all rest : List Oper) (τ : Slots) (σ : Heap) (c : Prop) (K : Slots → Heap → Prop) (d : Option Nat) (x : Operand) (ty : TypeId) (t : TypeId) (pos : String) (af : Array Edge) :
    Run P q all ({ dst := d, op := .call { callee := .builtin .len, args := #[x], argTypes := #[ty] }, type := t, pos := pos, after := af, guard := none } :: rest) τ σ c K = RunV P q all rest τ σ d c K (lenF (strT P ty) (ev τ x)) := rfl
theorem rug_len (q : Bool) (all rest : List Oper) (τ : Slots) (σ : Heap) (c : Prop) (K : Slots → Heap → Prop) (d : Option Nat) (x : Operand) (ty : TypeId) (t : TypeId) (pos : String) (af : Array Edge) (j : Nat) (want : Bool) :
    Run P q all ({ dst := d, op := .call { callee := .builtin .len, args := #[x], argTypes := #[ty] }, type := t, pos := pos, after := af, guard := some (j, want) } :: rest) τ σ c K = RunG P q all rest τ σ d c K (gdF want (τ.get (dstAt all j))) (lenF (strT P ty) ((ev τ x).strip)) [ev τ x] := by
  rw [Run.eq_def]
  simp only [RunG]
  cases h : gdF want (τ.get (dstAt all j)) <;> first | rfl | simp [kindOf, gF, pureF, Op.operands, Call.operands]
theorem run_index (q : Bool) (all rest : List Oper) (τ : Slots) (σ : Heap) (c : Prop) (K : Slots → Heap → Prop) (d : Option Nat) (ty : TypeId) (x y : Operand) (t : TypeId) (pos : String) (af : Array Edge) :
    Run P q all ({ dst := d, op := .index ty x y, type := t, pos := pos, after := af, guard := none } :: rest) τ σ c K = RunV P q all rest τ σ d c K (indexSF (ev τ x) (ev τ y)) := rfl
theorem rug_index (q : Bool) (all rest : List Oper) (τ : Slots) (σ : Heap) (c : Prop) (K : Slots → Heap → Prop) (d : Option Nat) (ty : TypeId) (x y : Operand) (t : TypeId) (pos : String) (af : Array Edge) (j : Nat) (want : Bool) :
    Run P q all ({ dst := d, op := .index ty x y, type := t, pos := pos, after := af, guard := some (j, want) } :: rest) τ σ c K = RunG P q all rest τ σ d c K (gdF want (τ.get (dstAt all j))) (indexSF ((ev τ x).strip) ((ev τ y).strip)) [ev τ x, ev τ y] := by
  rw [Run.eq_def]
  simp only [RunG]
  cases h : gdF want (τ.get (dstAt all j)) <;> first | rfl | simp [kindOf, gF, pureF, Op.operands, Call.operands]
theorem run_slice_nn (q : Bool) (all rest : List Oper) (τ : Slots) (σ : Heap) (c : Prop) (K : Slots → Heap → Prop) (d : Option Nat) (ty : TypeId) (x : Operand) (t : TypeId) (pos : String) (af : Array Edge) :
    Run P q all ({ dst := d, op := .slice ty x none none none, type := t, pos := pos, after := af, guard := none } :: rest) τ σ c K = RunV P q all rest τ σ d c K (sliceF (strT P ty) (szT P (elT P ty)) (ev τ x) none none) := rfl
theorem rug_slice_nn (q : Bool) (all rest : List Oper) (τ : Slots) (σ : Heap) (c : Prop) (K : Slots → Heap → Prop) (d : Option Nat) (ty : TypeId) (x : Operand) (t : TypeId) (pos : String) (af : Array Edge) (j : Nat) (want : Bool) :
    Run P q all ({ dst := d, op := .slice ty x none none none, type := t, pos := pos, after := af, guard := some (j, want) } :: rest) τ σ c K = RunG P q all rest τ σ d c K (gdF want (τ.get (dstAt all j))) (sliceF (strT P ty) (szT P (elT P ty)) ((ev τ x).strip) none none) [ev τ x] := by
  rw [Run.eq_def]
  simp only [RunG]
  cases h : gdF want (τ.get (dstAt all j)) <;> first | rfl | simp [kindOf, gF, pureF, Op.operands, Call.operands]
theorem run_slice_ns (q : Bool) (all rest : List Oper) (τ : Slots) (σ : Heap) (c : Prop) (K : Slots → Heap → Prop) (d : Option Nat) (ty : TypeId) (x y : Operand) (t : TypeId) (pos : String) (af : Array Edge) :
    Run P q all ({ dst := d, op := .slice ty x none (some y) none, type := t, pos := pos, after := af, guard := none } :: rest) τ σ c K = RunV P q all rest τ σ d c K (sliceF (strT P ty) (szT P (elT P ty)) (ev τ x) none (some (ev τ y))) := rfl
theorem rug_slice_ns (q : Bool) (all rest : List Oper) (τ : Slots) (σ : Heap) (c : Prop) (K : Slots → Heap → Prop) (d : Option Nat) (ty : TypeId) (x y : Operand) (t : TypeId) (pos : String) (af : Array Edge) (j : Nat) (want : Bool) :
    Run P q all ({ dst := d, op := .slice ty x none (some y) none, type := t, pos := pos, after := af, guard := some (j, want) } :: rest) τ σ c K = RunG P q all rest τ σ d c K (gdF want (τ.get (dstAt all j))) (sliceF (strT P ty) (szT P (elT P ty)) ((ev τ x).strip) none (some ((ev τ y).strip))) [ev τ x, ev τ y] := by
  rw [Run.eq_def]
  simp only [RunG]
  cases h : gdF want (τ.get (dstAt all j)) <;> first | rfl | simp [kindOf, gF, pureF, Op.operands, Call.operands]
theorem run_slice_sn (q : Bool) (all rest : List Oper) (τ : Slots) (σ : Heap) (c : Prop) (K : Slots → Heap → Prop) (d : Option Nat) (ty : TypeId) (x y : Operand) (t : TypeId) (pos : String) (af : Array Edge) :
    Run P q all ({ dst := d, op := .slice ty x (some y) none none, type := t, pos := pos, after := af, guard := none } :: rest) τ σ c K = RunV P q all rest τ σ d c K (sliceF (strT P ty) (szT P (elT P ty)) (ev τ x) (some (ev τ y)) none) := rfl
theorem rug_slice_sn (q : Bool) (all rest : List Oper) (τ : Slots) (σ : Heap) (c : Prop) (K : Slots → Heap → Prop) (d : Option Nat) (ty : TypeId) (x y : Operand) (t : TypeId) (pos : String) (af : Array Edge) (j : Nat) (want : Bool) :
    Run P q all ({ dst := d, op := .slice ty x (some y) none none, type := t, pos := pos, after := af, guard := some (j, want) } :: rest) τ σ c K = RunG P q all rest τ σ d c K (gdF want (τ.get (dstAt all j))) (sliceF (strT P ty) (szT P (elT P ty)) ((ev τ x).strip) (some ((ev τ y).strip)) none) [ev τ x, ev τ y] := by
  rw [Run.eq_def]
  simp only [RunG]
  cases h : gdF want (τ.get (dstAt all j)) <;> first | rfl | simp [kindOf, gF, pureF, Op.operands, Call.operands]
theorem run_slice_ss (q : Bool) (all rest : List Oper) (τ : Slots) (σ : Heap) (c : Prop) (K : Slots → Heap → Prop) (d : Option Nat) (ty : TypeId) (x y z : Operand) (t : TypeId) (pos : String) (af : Array Edge) :
    Run P q all ({ dst := d, op := .slice ty x (some y) (some z) none, type := t, pos := pos, after := af, guard := none } :: rest) τ σ c K = RunV P q all rest τ σ d c K (sliceF (strT P ty) (szT P (elT P ty)) (ev τ x) (some (ev τ y)) (some (ev τ z))) := rfl
theorem rug_slice_ss (q : Bool) (all rest : List Oper) (τ : Slots) (σ : Heap) (c : Prop) (K : Slots → Heap → Prop) (d : Option Nat) (ty : TypeId) (x y z : Operand) (t : TypeId) (pos : String) (af : Array Edge) (j : Nat) (want : Bool) :
    Run P q all ({ dst := d, op := .slice ty x (some y) (some z) none, type := t, pos := pos, after := af, guard := some (j, want) } :: rest) τ σ c K = RunG P q all rest τ σ d c K (gdF want (τ.get (dstAt all j))) (sliceF (strT P ty) (szT P (elT P ty)) ((ev τ x).strip) (some ((ev τ y).strip)) (some ((ev τ z).strip))) [ev τ x, ev τ y, ev τ z] := by
  rw [Run.eq_def]
  simp only [RunG]
  cases h : gdF want (τ.get (dstAt all j)) <;> first | rfl | simp [kindOf, gF, pureF, Op.operands, Call.operands]
theorem run_not (q : Bool) (all rest : List Oper) (τ : Slots) (σ : Heap) (c : Prop) (K : Slots → Heap → Prop) (d : Option Nat) (ty : TypeId) (x : Operand) (t : TypeId) (pos : String) (af : Array Edge) :
    Run P q all ({ dst := d, op := .unOp .not ty x, type := t, pos := pos, after := af, guard := none } :: rest) τ σ c K = RunV P q all rest τ σ d c K (notF (ev τ x)) := rfl
theorem rug_not (q : Bool) (all rest : List Oper) (τ : Slots) (σ : Heap) (c : Prop) (K : Slots → Heap → Prop) (d : Option Nat) (ty : TypeId) (x : Operand) (t : TypeId) (pos : String) (af : Array Edge) (j : Nat) (want : Bool) :
    Run P q all ({ dst := d, op := .unOp .not ty x, type := t, pos := pos, after := af, guard := some (j, want) } :: rest) τ σ c K = RunG P q all rest τ σ d c K (gdF want (τ.get (dstAt all j))) (notF ((ev τ x).strip)) [ev τ x] := by
  rw [Run.eq_def]
  simp only [RunG]
  cases h : gdF want (τ.get (dstAt all j)) <;> first | rfl | simp [kindOf, gF, pureF, Op.operands, Call.operands]
theorem run_neg (q : Bool) (all rest : List Oper) (τ : Slots) (σ : Heap) (c : Prop) (K : Slots → Heap → Prop) (d : Option Nat) (ty : TypeId) (x : Operand) (t : TypeId) (pos : String) (af : Array Edge) :
    Run P q all ({ dst := d, op := .unOp .neg ty x, type := t, pos := pos, after := af, guard := none } :: rest) τ σ c K = RunV P q all rest τ σ d c K (negF (ev τ x)) := rfl
theorem rug_neg (q : Bool) (all rest : List Oper) (τ : Slots) (σ : Heap) (c : Prop) (K : Slots → Heap → Prop) (d : Option Nat) (ty : TypeId) (x : Operand) (t : TypeId) (pos : String) (af : Array Edge) (j : Nat) (want : Bool) :
    Run P q all ({ dst := d, op := .unOp .neg ty x, type := t, pos := pos, after := af, guard := some (j, want) } :: rest) τ σ c K = RunG P q all rest τ σ d c K (gdF want (τ.get (dstAt all j))) (negF ((ev τ x).strip)) [ev τ x] := by
  rw [Run.eq_def]
  simp only [RunG]
  cases h : gdF want (τ.get (dstAt all j)) <;> first | rfl | simp [kindOf, gF, pureF, Op.operands, Call.operands]
theorem run_nil (q : Bool) (all : List Oper) (τ : Slots) (σ : Heap) (c : Prop) (K : Slots → Heap → Prop) : Run P q all [] τ σ c K = (c ∧ K τ σ) := rfl
theorem run_store (q : Bool) (all rest : List Oper) (τ : Slots) (σ : Heap) (c : Prop) (K : Slots → Heap → Prop) (d : Option Nat) (ty : TypeId) (x y : Operand) (t : TypeId) (pos : String) (af : Array Edge) :
    Run P q all ({ dst := d, op := .store ty x y, type := t, pos := pos, after := af, guard := none } :: rest) τ σ c K = RunS P q all rest τ d c K (storeF (szT P ty) σ (ev τ x) (ev τ y)) := rfl
theorem run_alloc (q : Bool) (all rest : List Oper) (τ : Slots) (σ : Heap) (c : Prop) (K : Slots → Heap → Prop) (d : Option Nat) (ty : TypeId) (t : TypeId) (pos : String) (af : Array Edge) :
    Run P q all ({ dst := d, op := .alloc ty, type := t, pos := pos, after := af, guard := none } :: rest) τ σ c K = (c ∧ New σ fun b => RunN P q all rest τ σ d K b (True, .ptr (some b) (szT P ty) 0 0, ⟨1, 1, szT P ty, fun _ => zeroT P ty⟩)) := rfl
theorem run_box (q : Bool) (all rest : List Oper) (τ : Slots) (σ : Heap) (c : Prop) (K : Slots → Heap → Prop) (d : Option Nat) (ty : TypeId) (x : Operand) (t : TypeId) (pos : String) (af : Array Edge) :
    Run P q all ({ dst := d, op := .box ty x, type := t, pos := pos, after := af, guard := none } :: rest) τ σ c K = (c ∧ New σ fun b => RunN P q all rest τ σ d K b ((ev τ x).cells = szT P ty ∧ (ev τ x).known = true, .ptr (some b) (szT P ty) 0 0, ⟨1, 1, szT P ty, fun _ => ev τ x⟩)) := rfl
theorem run_buildSlice (q : Bool) (all rest : List Oper) (τ : Slots) (σ : Heap) (c : Prop) (K : Slots → Heap → Prop) (d : Option Nat) (ty : TypeId) (len : Nat) (parts : List (Nat × Operand)) (t : TypeId) (pos : String) (af : Array Edge) :
    Run P q all ({ dst := d, op := .buildSlice ty len parts.toArray, type := t, pos := pos, after := af, guard := none } :: rest) τ σ c K = (c ∧ New σ fun b => RunN P q all rest τ σ d K b (len = parts.length ∧ elemsOk (szT P (elT P ty)) (parts.map fun p => ev τ p.2), .sref (some b) 0 (szT P (elT P ty)) len len, ⟨len, len, szT P (elT P ty), lst (parts.map fun p => ev τ p.2)⟩)) := rfl
theorem run_call (all rest : List Oper) (τ : Slots) (σ : Heap) (c : Prop) (K : Slots → Heap → Prop) (d : Option Nat) (f : FuncId) (args : List Operand) (tys : Array TypeId) (t : TypeId) (pos : String) (af : Array Edge) :
    Run P false all ({ dst := d, op := .call { callee := .value (.func f), args := args.toArray, argTypes := tys }, type := t, pos := pos, after := af, guard := none } :: rest) τ σ c K = (c ∧ CallTo P f (args.map (ev τ)) σ fun v σ' => Run P false all rest (putd τ d v) σ' True K) := rfl
theorem run_callv (all rest : List Oper) (τ : Slots) (σ : Heap) (c : Prop) (K : Slots → Heap → Prop) (d : Option Nat) (f : Nat) (args : List Operand) (tys : Array TypeId) (t : TypeId) (pos : String) (af : Array Edge) :
    Run P false all ({ dst := d, op := .call { callee := .value (.tmp f), args := args.toArray, argTypes := tys }, type := t, pos := pos, after := af, guard := none } :: rest) τ σ c K = (c ∧ CallV P (ev τ (.tmp f)) (args.map (ev τ)) σ fun v σ' => Run P false all rest (putd τ d v) σ' True K) := rfl
theorem run_append (q : Bool) (all rest : List Oper) (τ : Slots) (σ : Heap) (c : Prop) (K : Slots → Heap → Prop) (d : Option Nat) (x y : Operand) (ty ty' : TypeId) (t : TypeId) (pos : String) (af : Array Edge) :
    Run P q all ({ dst := d, op := .call { callee := .builtin .append, args := #[x, y], argTypes := #[ty, ty'] }, type := t, pos := pos, after := af, guard := none } :: rest) τ σ c K = (c ∧ Append P ty (ev τ x) (ev τ y) σ fun v σ' => Run P q all rest (putd τ d v) σ' True K) := rfl
/-- a call that leaves the heap as it is -/
def QCall (P : Program) (g : Bool) (f : FuncId) (args : List AVal) (σ : Heap) (K : AVal → Prop) : Prop := ∃ r, (g = true → CallTo P f args σ fun r' σ' => r' = r ∧ σ' = σ) ∧ K r
def QCallV (P : Program) (g : Bool) (x : AVal) (args : List AVal) (σ : Heap) (K : AVal → Prop) : Prop := ∃ r, (g = true → CallV P x args σ fun r' σ' => r' = r ∧ σ' = σ) ∧ K r
def GCall (P : Program) (g : Option Bool) (f : FuncId) (args : List AVal) (σ : Heap) (K : Bool → AVal → Prop) : Prop := match g with | some g => QCall P g f args σ (K g) | none => False
theorem ruq_call (all rest : List Oper) (τ : Slots) (σ : Heap) (c : Prop) (K : Slots → Heap → Prop) (d : Option Nat) (f : FuncId) (args : List Operand) (tys : Array TypeId) (t : TypeId) (pos : String) (af : Array Edge) :
    Run P true all ({ dst := d, op := .call { callee := .value (.func f), args := args.toArray, argTypes := tys }, type := t, pos := pos, after := af, guard := none } :: rest) τ σ c K = (c ∧ QCall P true f (args.map (ev τ)) σ fun v => Run P true all rest (putd τ d v) σ True K) := rfl
theorem ruq_callv (all rest : List Oper) (τ : Slots) (σ : Heap) (c : Prop) (K : Slots → Heap → Prop) (d : Option Nat) (f : Nat) (args : List Operand) (tys : Array TypeId) (t : TypeId) (pos : String) (af : Array Edge) :
    Run P true all ({ dst := d, op := .call { callee := .value (.tmp f), args := args.toArray, argTypes := tys }, type := t, pos := pos, after := af, guard := none } :: rest) τ σ c K = (c ∧ QCallV P true (ev τ (.tmp f)) (args.map (ev τ)) σ fun v => Run P true all rest (putd τ d v) σ True K) := rfl
theorem rug_call (q : Bool) (all rest : List Oper) (τ : Slots) (σ : Heap) (c : Prop) (K : Slots → Heap → Prop) (d : Option Nat) (f : FuncId) (args : List Operand) (tys : Array TypeId) (t : TypeId) (pos : String) (af : Array Edge) (j : Nat) (want : Bool) :
    Run P q all ({ dst := d, op := .call { callee := .value (.func f), args := args.toArray, argTypes := tys }, type := t, pos := pos, after := af, guard := some (j, want) } :: rest) τ σ c K = (c ∧ GCall P (gdF want (τ.get (dstAt all j))) f (args.map fun x => (ev τ x).strip) σ fun g v => Run P q all rest (putd τ d (.when g v)) σ (g = true → okAll g (fn f [] :: args.map (ev τ))) K) := by
  rw [Run.eq_def]
  simp only [GCall]
  cases h : gdF want (τ.get (dstAt all j)) with
  | some t =>
    have hop : (Op.call { callee := .value (.func f), args := args.toArray, argTypes := tys }).operands.toList = .func f :: args := by simp [Op.operands, Call.operands]
    simp only [hop, List.map_cons]
    rfl
  | none => exact propext ⟨fun h => h.elim, fun h => h.2.elim⟩
theorem rug_build (q : Bool) (all rest : List Oper) (τ : Slots) (σ : Heap) (c : Prop) (K : Slots → Heap → Prop) (d : Option Nat) (ty : TypeId) (parts : List (Nat × Operand)) (t : TypeId) (pos : String) (af : Array Edge) (j : Nat) (want : Bool) :
    Run P q all ({ dst := d, op := .build ty parts.toArray, type := t, pos := pos, after := af, guard := some (j, want) } :: rest) τ σ c K = RunG P q all rest τ σ d c K (gdF want (τ.get (dstAt all j))) (partsOk P ty (parts.map fun p => (p.1, (ev τ p.2).strip)), buildF P ty (parts.map fun p => (p.1, (ev τ p.2).strip))) (parts.map fun p => ev τ p.2) := by
  rw [Run.eq_def]
  simp only [RunG]
  cases h : gdF want (τ.get (dstAt all j)) <;> simp [kindOf, gF, pureF, Op.operands, Function.comp_def]
theorem runV_mk (q : Bool) (all rest : List Oper) (τ : Slots) (σ : Heap) (d : Option Nat) (c c' : Prop) (K : Slots → Heap → Prop) (v : AVal) : RunV P q all rest τ σ d c K (c', v) = Run P q all rest (putd τ d v) σ (c ∧ c') K := rfl
theorem runS_mk (q : Bool) (all rest : List Oper) (τ : Slots) (d : Option Nat) (c c' : Prop) (K : Slots → Heap → Prop) (σ : Heap) : RunS P q all rest τ d c K (c', σ) = Run P q all rest (putd τ d .undef) σ (c ∧ c') K := rfl
theorem runN_mk (q : Bool) (all rest : List Oper) (τ : Slots) (σ : Heap) (d : Option Nat) (c' : Prop) (K : Slots → Heap → Prop) (b : Nat) (v : AVal) (r : Row) : RunN P q all rest τ σ d K b (c', v, r) = Run P q all rest (putd τ d v) ((some b, r) :: σ) c' K := rfl
theorem runG_mk (q : Bool) (all rest : List Oper) (τ : Slots) (σ : Heap) (d : Option Nat) (c c' : Prop) (K : Slots → Heap → Prop) (g : Bool) (v : AVal) (os : List AVal) : RunG P q all rest τ σ d c K (some g) (c', v) os = Run P q all rest (putd τ d (.when g v)) σ (c ∧ (g = true → c' ∧ okAll g os)) K := rfl
theorem runGP_mk (q : Bool) (all rest : List Oper) (τ : Slots) (σ : Heap) (d : Option Nat) (c : Prop) (K : Slots → Heap → Prop) (g : Bool) (x y z : AVal) : RunGP P q all rest τ σ d c K (some g) x y z = RunV P q all rest τ σ d c (K) (g = true → (pickF x.strip y z).1 ∧ x.okw g, .when g (pickF x.strip y z).2) := rfl
theorem gcall_mk (g : Bool) (f : FuncId) (args : List AVal) (σ : Heap) (K : Bool → AVal → Prop) : GCall P (some g) f args σ K = QCall P g f args σ (K g) := rfl
theorem putd_some (τ : Slots) (d : Nat) (v : AVal) : putd τ (some d) v = (d, v) :: τ := rfl
theorem putd_none (τ : Slots) (v : AVal) : putd τ none v = τ := rfl
theorem sget (τ : Slots) (i j : Nat) (v : AVal) : Slots.get ((j, v) :: τ) i = if i = j then v else Slots.get τ i := rfl
theorem hget (τ : Heap) (i j : Option Nat) (v : Row) : Heap.get ((j, v) :: τ) i = if i = j then some v else Heap.get τ i := rfl
theorem hget_nil (i : Option Nat) : Heap.get [] i = none := rfl
theorem hset (τ : Heap) (i j : Option Nat) (v r : Row) : Heap.set ((j, v) :: τ) i r = if i = j then (j, r) :: τ else (j, v) :: Heap.set τ i r := rfl
theorem hset_nil (i : Option Nat) (r : Row) : Heap.set [] i r = [] := rfl
theorem herase (τ : Heap) (i j : Option Nat) (v : Row) : Heap.erase ((j, v) :: τ) i = if i = j then Heap.erase τ i else (j, v) :: Heap.erase τ i := rfl
theorem herase_nil (i : Option Nat) : Heap.erase [] i = [] := rfl
theorem notin_cons (b : Nat) (j : Option Nat) (r : Row) (σ : Heap) : Heap.notin b ((j, r) :: σ) = ((¬ some b = j ∧ ¬ j = some b) ∧ Heap.notin b σ) := rfl
theorem notin_nil (b : Nat) : Heap.notin b [] = True := rfl
-- operands
theorem ev_tmp (τ : Slots) (i : Nat) : ev τ (.tmp i) = τ.get i := rfl
theorem ev_fn (τ : Slots) (g : Nat) : ev τ (.func g) = fn g [] := rfl
theorem ev_bool (τ : Slots) (b : Bool) : ev τ (.const (.bool b)) = .bool b := rfl
theorem ev_int (τ : Slots) (k : IntKind) (n : Int) : ev τ (.const (.int k n)) = .int k n := rfl
theorem ev_str (τ : Slots) (s : ByteArray) : ev τ (.const (.string s)) = .str s := rfl
theorem ev_nil (τ : Slots) : ev τ (.const (.slice none 0 0)) = .nilsl := rfl
-- values
theorem cells_agg (n : Nat) (f : Nat → AVal) : (AVal.aggF n f).cells = n := rfl
theorem cells_agg' (l : List AVal) : (agg l).cells = l.length := rfl
theorem cells_int (k : IntKind) (n : Int) : (AVal.int k n).cells = 1 := rfl
theorem cells_bool (b : Bool) : (AVal.bool b).cells = 1 := rfl
theorem cells_str (s : ByteArray) : (AVal.str s).cells = 1 := rfl
theorem cells_nil : AVal.nilsl.cells = 1 := rfl
theorem cells_sl (s n : Nat) (f : Nat → AVal) : (AVal.sl s n f).cells = 1 := rfl
theorem cells_sref (k : Option Nat) (e s n c : Nat) : (AVal.sref k e s n c).cells = 1 := rfl
theorem known_agg (n : Nat) (f : Nat → AVal) : (AVal.aggF n f).known = true := rfl
theorem known_agg' (l : List AVal) : (agg l).known = true := rfl
theorem known_int (k : IntKind) (n : Int) : (AVal.int k n).known = true := rfl
theorem known_bool (b : Bool) : (AVal.bool b).known = true := rfl
theorem known_str (s : ByteArray) : (AVal.str s).known = true := rfl
theorem known_nil : AVal.nilsl.known = true := rfl
theorem known_sl (s n : Nat) (f : Nat → AVal) : (AVal.sl s n f).known = true := rfl
theorem known_sref (k : Option Nat) (e s n c : Nat) : (AVal.sref k e s n c).known = true := rfl
theorem known_ptr (k : Option Nat) (s e o : Nat) : (AVal.ptr k s e o).known = true := rfl
theorem leaf_ptr (k : Option Nat) (s e o : Nat) : (AVal.ptr k s e o).leaf = true := rfl
theorem part_a (n : Nat) (f : Nat → AVal) (o s : Nat) : (AVal.aggF n f).part o s true = .aggF s fun j => f (o + j) := rfl
theorem part_l (n : Nat) (f : Nat → AVal) (o s : Nat) : (AVal.aggF n f).part o s false = f o := rfl
theorem part_int (k : IntKind) (n : Int) (o s : Nat) (a : Bool) : (AVal.int k n).part o s a = .int k n := rfl
theorem part_bool (b : Bool) (o s : Nat) (a : Bool) : (AVal.bool b).part o s a = .bool b := rfl
theorem part_str (b : ByteArray) (o s : Nat) (a : Bool) : (AVal.str b).part o s a = .str b := rfl
theorem part_nil (o s : Nat) (a : Bool) : AVal.nilsl.part o s a = .nilsl := rfl
theorem part_sl (z n : Nat) (f : Nat → AVal) (o s : Nat) (a : Bool) : (AVal.sl z n f).part o s a = .sl z n f := rfl
theorem part_sref (k : Option Nat) (e z n c : Nat) (o s : Nat) (a : Bool) : (AVal.sref k e z n c).part o s a = .sref k e z n c := rfl
theorem pok_agg (n : Nat) (f : Nat → AVal) (o s : Nat) (a : Bool) : partOk (.aggF n f) o s a = (o + s ≤ n) := rfl
theorem pok_int (k : IntKind) (n : Int) (o s : Nat) (a : Bool) : partOk (.int k n) o s a = (o = 0 ∧ a = false) := rfl
theorem pok_bool (b : Bool) (o s : Nat) (a : Bool) : partOk (.bool b) o s a = (o = 0 ∧ a = false) := rfl
theorem pok_str (b : ByteArray) (o s : Nat) (a : Bool) : partOk (.str b) o s a = (o = 0 ∧ a = false) := rfl
theorem pok_nil (o s : Nat) (a : Bool) : partOk .nilsl o s a = (o = 0 ∧ a = false) := rfl
theorem pok_sl (z n : Nat) (f : Nat → AVal) (o s : Nat) (a : Bool) : partOk (.sl z n f) o s a = (o = 0 ∧ a = false) := rfl
theorem pok_sref (k : Option Nat) (e z n c : Nat) (o s : Nat) (a : Bool) : partOk (.sref k e z n c) o s a = (o = 0 ∧ a = false) := rfl
theorem strip_int (k : IntKind) (n : Int) : (AVal.int k n).strip = .int k n := rfl
theorem strip_bool (b : Bool) : (AVal.bool b).strip = .bool b := rfl
theorem strip_str (b : ByteArray) : (AVal.str b).strip = .str b := rfl
theorem strip_nil : AVal.nilsl.strip = .nilsl := rfl
theorem strip_sl (z n : Nat) (f : Nat → AVal) : (AVal.sl z n f).strip = .sl z n f := rfl
theorem strip_sref (k : Option Nat) (e z n c : Nat) : (AVal.sref k e z n c).strip = .sref k e z n c := rfl
theorem strip_ptr (k : Option Nat) (s e o : Nat) : (AVal.ptr k s e o).strip = .ptr k s e o := rfl
theorem strip_iptr (v : AVal) (o : Nat) : (AVal.iptr v o).strip = .iptr v o := rfl
theorem strip_agg (n : Nat) (f : Nat → AVal) : (AVal.aggF n f).strip = .aggF n f := rfl
theorem strip_when (g : Bool) (v : AVal) : (AVal.when g v).strip = v := rfl
theorem okw_int (g : Bool) (k : IntKind) (n : Int) : (AVal.int k n).okw g = True := rfl
theorem okw_bool (g : Bool) (b : Bool) : (AVal.bool b).okw g = True := rfl
theorem okw_str (g : Bool) (b : ByteArray) : (AVal.str b).okw g = True := rfl
theorem okw_nil (g : Bool) : AVal.nilsl.okw g = True := rfl
theorem okw_undef (g : Bool) : AVal.undef.okw g = True := rfl
theorem okw_sl (g : Bool) (z n : Nat) (f : Nat → AVal) : (AVal.sl z n f).okw g = True := rfl
theorem okw_sref (g : Bool) (k : Option Nat) (e z n c : Nat) : (AVal.sref k e z n c).okw g = True := rfl
theorem okw_ptr (g : Bool) (k : Option Nat) (s e o : Nat) : (AVal.ptr k s e o).okw g = True := rfl
theorem okw_iptr (g : Bool) (v : AVal) (o : Nat) : (AVal.iptr v o).okw g = True := rfl
theorem okw_agg (g : Bool) (n : Nat) (f : Nat → AVal) : (AVal.aggF n f).okw g = True := rfl
theorem okw_when (g g' : Bool) (v : AVal) : (AVal.when g' v).okw g = (g = true → g' = true) := rfl
theorem okw_fn (g : Bool) (f : Nat) (l : List AVal) : (fn f l).okw g = True := rfl
theorem okAll_nil (g : Bool) : okAll g [] = True := rfl
theorem okAll_cons (g : Bool) (v : AVal) (l : List AVal) : okAll g (v :: l) = (v.okw g ∧ okAll g l) := rfl
theorem capsOk_nil : capsOk [] = True := rfl
theorem capsOk_cons (v : AVal) (l : List AVal) : capsOk (v :: l) = ((v.leaf = true ∧ v.known = true) ∧ capsOk l) := rfl
theorem lst_z (a : AVal) (l : List AVal) : lst (a :: l) 0 = a := rfl
theorem lst_s (a : AVal) (l : List AVal) (n : Nat) : lst (a :: l) (n + 1) = lst l n := rfl
-- what operations come to
theorem load_ptr (s : Nat) (a : Bool) (σ : Heap) (k : Option Nat) (z e o : Nat) : loadF s a σ (.ptr k z e o) = loadR s a z e o (σ.get k) := rfl
theorem load_iptr (s : Nat) (a : Bool) (σ : Heap) (v : AVal) (o : Nat) : loadF s a σ (.iptr v o) = (partOk v o s a, v.part o s a) := rfl
theorem loadR_mk (s : Nat) (a : Bool) (z e o : Nat) (n c z' : Nat) (f : Nat → AVal) : loadR s a z e o (some ⟨n, c, z', f⟩) = ((e < n ∧ z' = z) ∧ partOk (f e) o s a, (f e).part o s a) := rfl
theorem store_ptr (s : Nat) (σ : Heap) (k : Option Nat) (z e o : Nat) (v : AVal) : storeF s σ (.ptr k z e o) v = storeR s σ k z e o v (σ.get k) := rfl
theorem storeR_mk (s : Nat) (σ : Heap) (k : Option Nat) (z e o : Nat) (v : AVal) (n c z' : Nat) (f : Nat → AVal) : storeR s σ k z e o v (some ⟨n, c, z', f⟩) = (((e < n ∧ z' = z) ∧ putOk (f e) o v) ∧ v.cells = s ∧ v.known = true, σ.set k ⟨n, c, z', fun i => if i = e then putPart (f e) o v else f i⟩) := rfl
theorem index_sl (z s n : Nat) (f : Nat → AVal) (k : IntKind) (j : Int) : indexF z (.sl s n f) (.int k j) = ((0 ≤ j ∧ j < n) ∧ s = z, .iptr (f j.toNat) 0) := rfl
theorem index_sref (z : Nat) (b : Option Nat) (e s n c : Nat) (k : IntKind) (j : Int) : indexF z (.sref b e s n c) (.int k j) = ((0 ≤ j ∧ j < n) ∧ s = z, .ptr b z (e + j.toNat) 0) := rfl
theorem field_ptr (k : Option Nat) (s e o off : Nat) : fieldF (.ptr k s e o) off = (True, .ptr k s e (o + off)) := rfl
theorem field_iptr (v : AVal) (o off : Nat) : fieldF (.iptr v o) off = (True, .iptr v (o + off)) := rfl
theorem len_sl (b : Bool) (s n : Nat) (f : Nat → AVal) : lenF b (.sl s n f) = (b = false, .int .i64 n) := rfl
theorem len_sref (b : Bool) (k : Option Nat) (e s n c : Nat) : lenF b (.sref k e s n c) = (b = false, .int .i64 n) := rfl
theorem len_nil (b : Bool) : lenF b .nilsl = (b = false, .int .i64 0) := rfl
theorem len_str (b : Bool) (s : ByteArray) : lenF b (.str s) = (b = true, .int .i64 s.size) := rfl
theorem pick_bb (t x y : Bool) : pickF (.bool t) (.bool x) (.bool y) = (True, .bool (cond t x y)) := rfl
theorem pick_wb (t g x y : Bool) : pickF (.bool t) (.when g (.bool x)) (.bool y) = (t = true → g = true, .bool (cond t x y)) := rfl
theorem pick_bw (t g x y : Bool) : pickF (.bool t) (.bool x) (.when g (.bool y)) = (t = false → g = true, .bool (cond t x y)) := rfl
theorem pick_ww (t g g' x y : Bool) : pickF (.bool t) (.when g (.bool x)) (.when g' (.bool y)) = ((t = true → g = true) ∧ (t = false → g' = true), .bool (cond t x y)) := rfl
theorem idxs (s : ByteArray) (k : IntKind) (j : Int) : indexSF (.str s) (.int k j) = (0 ≤ j ∧ j < s.size, .int .u8 (s.data.getD j.toNat 0).toNat) := rfl
theorem bound_n (n d : Nat) : boundF n d none = (True, d) := rfl
theorem bound_s (n d : Nat) (k : IntKind) (j : Int) : boundF n d (some (.int k j)) = (0 ≤ j ∧ j ≤ n, j.toNat) := rfl
theorem slice_sl (b : Bool) (sz s n : Nat) (f : Nat → AVal) (lo hi : Option AVal) : sliceF b sz (.sl s n f) lo hi = ((b = false ∧ s = sz) ∧ (boundF n n hi).1 ∧ (boundF (boundF n n hi).2 0 lo).1, .sl s ((boundF n n hi).2 - (boundF (boundF n n hi).2 0 lo).2) fun i => f ((boundF (boundF n n hi).2 0 lo).2 + i)) := rfl
theorem slice_str (b : Bool) (sz : Nat) (s : ByteArray) (lo hi : Option AVal) : sliceF b sz (.str s) lo hi = (b = true ∧ (boundF s.size s.size hi).1 ∧ (boundF (boundF s.size s.size hi).2 0 lo).1, .str (s.extract (boundF (boundF s.size s.size hi).2 0 lo).2 (boundF s.size s.size hi).2)) := rfl
theorem extract_mk (n : Nat) (f : Nat → AVal) (i : Nat) : extractF (.tupF n f) i = (i < n, f i) := rfl
theorem extract_tup (l : List AVal) (i : Nat) : extractF (tup l) i = (i < l.length, lst l i) := rfl
theorem not_mk (b : Bool) : notF (.bool b) = (True, .bool (!b)) := rfl
theorem neg_mk (k : IntKind) (n : Int) : negF (.int k n) = (True, .int k (W k (0 - n))) := rfl
theorem nil_ptr (k : Option Nat) (s e o : Nat) : nilF (.ptr k s e o) = (True, .ptr k s e o) := rfl
theorem nil_iptr (v : AVal) (o : Nat) : nilF (.iptr v o) = (True, .iptr v o) := rfl
theorem bin_add (t : TypeId) (k k' : IntKind) (a b : Int) : binT P t .add (.int k a) (.int k' b) = (k = k', .int k (W k (a + b))) := rfl
theorem bin_sub (t : TypeId) (k k' : IntKind) (a b : Int) : binT P t .sub (.int k a) (.int k' b) = (k = k', .int k (W k (a - b))) := rfl
theorem bin_mul (t : TypeId) (k k' : IntKind) (a b : Int) : binT P t .mul (.int k a) (.int k' b) = (k = k', .int k (W k (a * b))) := rfl
theorem bin_quo (t : TypeId) (k k' : IntKind) (a b : Int) : binT P t .quo (.int k a) (.int k' b) = (k = k' ∧ b ≠ 0, .int k (W k (a.tdiv b))) := rfl
theorem bin_rem (t : TypeId) (k k' : IntKind) (a b : Int) : binT P t .rem (.int k a) (.int k' b) = (k = k' ∧ b ≠ 0, .int k (a.tmod b)) := rfl
theorem bin_eql (t : TypeId) (k k' : IntKind) (a b : Int) : binT P t .eql (.int k a) (.int k' b) = (k = k', .bool (decide (a = b))) := rfl
theorem bin_neq (t : TypeId) (k k' : IntKind) (a b : Int) : binT P t .neq (.int k a) (.int k' b) = (k = k', .bool (!decide (a = b))) := rfl
theorem bin_lss (t : TypeId) (k k' : IntKind) (a b : Int) : binT P t .lss (.int k a) (.int k' b) = (k = k', .bool (decide (a < b))) := rfl
theorem bin_leq (t : TypeId) (k k' : IntKind) (a b : Int) : binT P t .leq (.int k a) (.int k' b) = (k = k', .bool (decide (a ≤ b))) := rfl
theorem bin_gtr (t : TypeId) (k k' : IntKind) (a b : Int) : binT P t .gtr (.int k a) (.int k' b) = (k = k', .bool (decide (b < a))) := rfl
theorem bin_geq (t : TypeId) (k k' : IntKind) (a b : Int) : binT P t .geq (.int k a) (.int k' b) = (k = k', .bool (decide (b ≤ a))) := rfl
theorem bin_eqs (t : TypeId) (a b : ByteArray) : binT P t .eql (.str a) (.str b) = (True, .bool (decide (a = b))) := rfl
theorem bin_nes (t : TypeId) (a b : ByteArray) : binT P t .neq (.str a) (.str b) = (True, .bool (!decide (a = b))) := rfl
theorem bin_lss' (t : TypeId) (a b : ByteArray) : binT P t .lss (.str a) (.str b) = (True, .bool (Op.bytesLess a.toList b.toList)) := rfl
theorem bin_leq' (t : TypeId) (a b : ByteArray) : binT P t .leq (.str a) (.str b) = (True, .bool (Op.bytesLess a.toList b.toList || decide (a = b))) := rfl
theorem bin_eqb (t : TypeId) (a b : Bool) : binT P t .eql (.bool a) (.bool b) = (P.underlying t = some .bool, .bool (a == b)) := rfl
theorem bin_neb (t : TypeId) (a b : Bool) : binT P t .neq (.bool a) (.bool b) = (P.underlying t = some .bool, .bool (!(a == b))) := rfl
theorem bin_eqa (t : TypeId) (n m : Nat) (f g : Nat → AVal) : binT P t .eql (.aggF n f) (.aggF m g) = (∃ ks, EqOk P t n ks ∧ n = m ∧ ∀ j < n, leafK (ks j) (f j) ∧ leafK (ks j) (g j), .bool (aeq n f g)) := rfl
theorem bin_nea (t : TypeId) (n m : Nat) (f g : Nat → AVal) : binT P t .neq (.aggF n f) (.aggF m g) = (∃ ks, EqOk P t n ks ∧ n = m ∧ ∀ j < n, leafK (ks j) (f j) ∧ leafK (ks j) (g j), .bool (!aeq n f g)) := rfl
-- bools
theorem cond_tf (t x : Bool) : cond t x false = (t && x) := by cases t <;> rfl
theorem cond_tt (t x : Bool) : cond t true x = (t || x) := by cases t <;> rfl
theorem cond_ft (t x : Bool) : cond t false x = (!t && x) := by cases t <;> rfl
theorem cond_xt (t x : Bool) : cond t x true = (!t || x) := by cases t <;> rfl
theorem beq_t (t : Bool) : (t == true) = t := by cases t <;> rfl
theorem beq_f (t : Bool) : (t == false) = !t := by cases t <;> rfl
-- code
theorem awp_seq (a b : Code) (Q : AExit → Slots → Heap → Prop) (τ : Slots) (σ : Heap) : awp P (.seq a b) Q τ σ = awp P a (AExit.then (awp P b Q) Q) τ σ := rfl
theorem awp_skip (Q : AExit → Slots → Heap → Prop) (τ : Slots) (σ : Heap) : awp P .skip Q τ σ = Q .normal τ σ := rfl
theorem awp_ret (Q : AExit → Slots → Heap → Prop) (τ : Slots) (σ : Heap) : awp P .ret Q τ σ = Q .ret τ σ := rfl
theorem awp_exit (n : Nat) (Q : AExit → Slots → Heap → Prop) (τ : Slots) (σ : Heap) : awp P (.exit n) Q τ σ = Q (.exit n) τ σ := rfl
theorem awp_block (n : Nat) (c : Code) (Q : AExit → Slots → Heap → Prop) (τ : Slots) (σ : Heap) : awp P (.block n c) Q τ σ = awp P c (AExit.blk n Q) τ σ := rfl
theorem awp_cond (c : Operand) (x y : Code) (Q : AExit → Slots → Heap → Prop) (τ : Slots) (σ : Heap) : awp P (.cond c x y) Q τ σ = Ways (ev τ c) (awp P x Q τ σ) (awp P y Q τ σ) := rfl
theorem awp_loop (c : Code) (Q : AExit → Slots → Heap → Prop) (τ : Slots) (σ : Heap) : awp P (.loop c) Q τ σ = Loop (awp P c) Q τ σ := rfl
theorem awp_region (id : Nat) (ops : List Oper) (Q : AExit → Slots → Heap → Prop) (τ : Slots) (σ : Heap) : awp P (.region id ops.toArray false) Q τ σ = Run P false ops ops τ σ True (Q .normal) := rfl
theorem awp_draw (id : Nat) (ops : List Oper) (Q : AExit → Slots → Heap → Prop) (τ : Slots) (σ : Heap) : awp P (.region id ops.toArray true) Q τ σ = Run P true ops ops τ σ True (Q .normal) := rfl
theorem then_normal (K : Slots → Heap → Prop) (Q : AExit → Slots → Heap → Prop) : AExit.then K Q .normal = K := rfl
theorem then_ret (K : Slots → Heap → Prop) (Q : AExit → Slots → Heap → Prop) : AExit.then K Q .ret = Q .ret := rfl
theorem then_exit (K : Slots → Heap → Prop) (Q : AExit → Slots → Heap → Prop) (n : Nat) : AExit.then K Q (.exit n) = Q (.exit n) := rfl
theorem blk_normal (n : Nat) (Q : AExit → Slots → Heap → Prop) : AExit.blk n Q .normal = Q .normal := rfl
theorem blk_ret (n : Nat) (Q : AExit → Slots → Heap → Prop) : AExit.blk n Q .ret = Q .ret := rfl
theorem blk_exit (n m : Nat) (Q : AExit → Slots → Heap → Prop) : AExit.blk n Q (.exit m) = if m = n then Q .normal else Q (.exit m) := rfl
theorem ends_normal (rs : List ResultVar) (R : AVal → Heap → Prop) : Ends P rs R .normal = Ret P rs R := rfl
theorem ends_ret (rs : List ResultVar) (R : AVal → Heap → Prop) : Ends P rs R .ret = Ret P rs R := rfl
theorem ways {t : Bool} {X Y : Prop} (h : t = true → X) (k : t = false → Y) : Ways (.bool t) X Y := ⟨h, k⟩
theorem ways_true (X Y : Prop) : Ways (.bool true) X Y = X := by simp [Ways]
theorem ways_false (X Y : Prop) : Ways (.bool false) X Y = Y := by simp [Ways]
-- what simp is not to look into
theorem run_congr (q : Bool) (all ops : List Oper) {τ τ' : Slots} {σ σ' : Heap} {c c' : Prop} (K : Slots → Heap → Prop) (h1 : τ = τ') (h2 : σ = σ') (h3 : c = c') : Run P q all ops τ σ c K = Run P q all ops τ' σ' c' K := by rw [h1, h2, h3]
theorem runV_congr (q : Bool) (all rest : List Oper) {τ τ' : Slots} {σ σ' : Heap} (d : Option Nat) {c c' : Prop} (K : Slots → Heap → Prop) {r r' : Prop × AVal} (h1 : τ = τ') (h0 : σ = σ') (h2 : c = c') (h3 : r = r') : RunV P q all rest τ σ d c K r = RunV P q all rest τ' σ' d c' K r' := by rw [h1, h0, h2, h3]
theorem runS_congr (q : Bool) (all rest : List Oper) {τ τ' : Slots} (d : Option Nat) {c c' : Prop} (K : Slots → Heap → Prop) {r r' : Prop × Heap} (h1 : τ = τ') (h2 : c = c') (h3 : r = r') : RunS P q all rest τ d c K r = RunS P q all rest τ' d c' K r' := by rw [h1, h2, h3]
theorem runG_congr (q : Bool) (all rest : List Oper) {τ τ' : Slots} {σ σ' : Heap} (d : Option Nat) {c c' : Prop} (K : Slots → Heap → Prop) {g g' : Option Bool} {r r' : Prop × AVal} {os os' : List AVal} (h1 : τ = τ') (h0 : σ = σ') (h2 : c = c') (h3 : g = g') (h4 : r = r') (h5 : os = os') : RunG P q all rest τ σ d c K g r os = RunG P q all rest τ' σ' d c' K g' r' os' := by rw [h1, h0, h2, h3, h4, h5]
theorem runGP_congr (q : Bool) (all rest : List Oper) {τ τ' : Slots} {σ σ' : Heap} (d : Option Nat) {c c' : Prop} (K : Slots → Heap → Prop) {g g' : Option Bool} {x x' y y' z z' : AVal} (h1 : τ = τ') (h0 : σ = σ') (h2 : c = c') (h3 : g = g') (h4 : x = x') (h5 : y = y') (h6 : z = z') : RunGP P q all rest τ σ d c K g x y z = RunGP P q all rest τ' σ' d c' K g' x' y' z' := by rw [h1, h0, h2, h3, h4, h5, h6]
theorem new_congr {σ σ' : Heap} (K : Nat → Prop) (h : σ = σ') : New σ K = New σ' K := by rw [h]
theorem awp_congr (c : Code) (Q : AExit → Slots → Heap → Prop) {τ τ' : Slots} {σ σ' : Heap} (h1 : τ = τ') (h2 : σ = σ') : awp P c Q τ σ = awp P c Q τ' σ' := by rw [h1, h2]
theorem ways_congr {t t' : AVal} (X Y : Prop) (h : t = t') : Ways t X Y = Ways t' X Y := by rw [h]
theorem callTo_congr (f : FuncId) {a a' : List AVal} {σ σ' : Heap} (K : AVal → Heap → Prop) (h : a = a') (h2 : σ = σ') : CallTo P f a σ K = CallTo P f a' σ' K := by rw [h, h2]
theorem callV_congr {x x' : AVal} {a a' : List AVal} {σ σ' : Heap} (K : AVal → Heap → Prop) (h1 : x = x') (h : a = a') (h2 : σ = σ') : CallV P x a σ K = CallV P x' a' σ' K := by rw [h1, h, h2]
theorem qcall_congr {g g' : Bool} (f : FuncId) {a a' : List AVal} {σ σ' : Heap} (K : AVal → Prop) (h0 : g = g') (h : a = a') (h2 : σ = σ') : QCall P g f a σ K = QCall P g' f a' σ' K := by rw [h0, h, h2]
theorem gcall_congr {g g' : Option Bool} (f : FuncId) {a a' : List AVal} {σ σ' : Heap} (K : Bool → AVal → Prop) (h0 : g = g') (h : a = a') (h2 : σ = σ') : GCall P g f a σ K = GCall P g' f a' σ' K := by rw [h0, h, h2]
theorem qcallV_congr {g g' : Bool} {x x' : AVal} {a a' : List AVal} {σ σ' : Heap} (K : AVal → Prop) (h0 : g = g') (h1 : x = x') (h : a = a') (h2 : σ = σ') : QCallV P g x a σ K = QCallV P g' x' a' σ' K := by rw [h0, h1, h, h2]
theorem append_congr (t : TypeId) {x x' y y' : AVal} {σ σ' : Heap} (K : AVal → Heap → Prop) (h1 : x = x') (h : y = y') (h2 : σ = σ') : Append P t x y σ K = Append P t x' y' σ' K := by rw [h1, h, h2]
theorem loop_congr (b : (AExit → Slots → Heap → Prop) → Slots → Heap → Prop) (Q : AExit → Slots → Heap → Prop) {τ τ' : Slots} {σ σ' : Heap} (h1 : τ = τ') (h2 : σ = σ') : Loop b Q τ σ = Loop b Q τ' σ' := by rw [h1, h2]
theorem ret_congr (rs : List ResultVar) (R : AVal → Heap → Prop) {τ τ' : Slots} {σ σ' : Heap} (h1 : τ = τ') (h2 : σ = σ') : Ret P rs R τ σ = Ret P rs R τ' σ' := by rw [h1, h2]
end
attribute [congr] run_congr runV_congr runS_congr runG_congr runGP_congr new_congr awp_congr ways_congr callTo_congr callV_congr qcall_congr gcall_congr qcallV_congr append_congr loop_congr ret_congr
end Go.Aw
