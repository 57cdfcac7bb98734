/- The abstract walk, part 1: pure values for slices and structs, rows of the call's own, what each operation comes to. -/
import Derived.Calls
import Derived.WalkKit
namespace Go.Aw
set_option linter.unusedVariables false

/-! Values of the abstract walk. -/
inductive AVal : Type where
  | undef
  | bool (b : Bool)
  | int (k : IntKind) (n : Int)
  | str (s : ByteArray)
  | nilsl
  /-- a slice that nobody writes any more: cells an element, how many, which -/
  | sl (sz n : Nat) (f : Nat → AVal)
  /-- a slice of a row of the heap ('none': of no row, empty) -/
  | sref (k : Option Nat) (e0 sz n cap : Nat)
  /-- a pointer into a row: element e, its cell o -/
  | ptr (k : Option Nat) (sz e o : Nat)
  /-- a pointer to memory that nobody writes any more: what lies there, from its cell o -/
  | iptr (v : AVal) (o : Nat)
  | aggF (n : Nat) (f : Nat → AVal)
  | tupF (n : Nat) (f : Nat → AVal)
  | fnF (g : Nat) (n : Nat) (caps : Nat → AVal)
  /-- known if g -/
  | when (g : Bool) (v : AVal)
  deriving Inhabited

def lst : List AVal → Nat → AVal
  | [], _ => .undef
  | a :: _, 0 => a
  | _ :: l, n + 1 => lst l n
def agg (l : List AVal) : AVal := .aggF l.length (lst l)
def fn (g : Nat) (l : List AVal) : AVal := .fnF g l.length (lst l)
def tup (l : List AVal) : AVal := .tupF l.length (lst l)

structure Row where
  n : Nat
  cap : Nat
  sz : Nat
  f : Nat → AVal
abbrev Heap := List (Option Nat × Row)
abbrev Slots := List (Nat × AVal)

def Slots.get : Slots → Nat → AVal
  | [], _ => .undef
  | (j, v) :: τ, i => if i = j then v else Slots.get τ i
def Heap.get : Heap → Option Nat → Option Row
  | [], _ => none
  | (j, v) :: τ, i => if i = j then some v else Heap.get τ i
def Heap.set : Heap → Option Nat → Row → Heap
  | [], _, _ => []
  | (j, v) :: τ, i, r => if i = j then (j, r) :: τ else (j, v) :: Heap.set τ i r
def Heap.erase : Heap → Option Nat → Heap
  | [], _ => []
  | (j, v) :: τ, i => if i = j then Heap.erase τ i else (j, v) :: Heap.erase τ i
/-- A block that no row of the heap lies in, said both ways round. -/
def Heap.notin (b : Nat) : Heap → Prop
  | [] => True
  | (j, _) :: τ => (¬ some b = j ∧ ¬ j = some b) ∧ Heap.notin b τ

def leafC : Value → AVal
  | .bool b => .bool b
  | .int k n => .int k n
  | .string s => .str s
  | .slice none 0 0 => .nilsl
  | _ => .undef
def ofConst : Value → AVal
  | .agg cs => .aggF cs.size fun i => leafC (cs.getD i .nilIface)
  | v => leafC v
def ev (τ : Slots) : Operand → AVal
  | .tmp i => τ.get i
  | .const v => ofConst v
  | .func g => fn g []
  | .global _ => .undef
def AVal.part (v : AVal) (o size : Nat) (a : Bool) : AVal :=
  match v with
  | .aggF _ f => if a = true then .aggF size (fun j => f (o + j)) else f o
  | v => v
def AVal.strip : AVal → AVal
  | .when _ v => v
  | v => v
/-- Is it used under its own condition? -/
def AVal.okw (g : Bool) : AVal → Prop
  | .when g' _ => g = true → g' = true
  | _ => True
/-- how many cells a value fills -/
def AVal.cells : AVal → Nat
  | .aggF n _ => n
  | _ => 1
/-- a value that can be stored -/
def AVal.known : AVal → Bool
  | .undef | .when _ _ | .tupF _ _ => false
  | _ => true
def W (k : IntKind) (n : Int) : Int := k.wrap n

section
variable (P : Program)
def szT (t : TypeId) : Nat := P.cellsOf t
def byT (t : TypeId) : Nat := P.bytesOf t
def aggT (t : TypeId) : Bool := match P.underlying t with | some (.struct _) => true | some (.array _ _) => true | _ => false
def elT (t : TypeId) : TypeId := match P.underlying t with | some (.slice e) => e | _ => 0
def fldT (t : TypeId) (f : Nat) : Option Field := match P.underlying t with | some (.struct fs) => fs[f]? | _ => none
def foffT (t : TypeId) (f : Nat) : Nat := ((fldT P t f).map (·.offset)).getD 0
def ftyT (t : TypeId) (f : Nat) : TypeId := ((fldT P t f).map (·.type)).getD 0
def strT (t : TypeId) : Bool := match P.underlying t with | some .string => true | _ => false
def zeroT (t : TypeId) : AVal := match P.info? t with | some i => (match i.zero with | some v => ofConst v | none => .undef) | none => .undef
end

def binF (op : BinOp) (x y : AVal) : Prop × AVal :=
  match op, x, y with
  | .add, .int k a, .int k' b => (k = k', .int k (W k (a + b)))
  | .sub, .int k a, .int k' b => (k = k', .int k (W k (a - b)))
  | .mul, .int k a, .int k' b => (k = k', .int k (W k (a * b)))
  | .quo, .int k a, .int k' b => (k = k' ∧ b ≠ 0, .int k (W k (a.tdiv b)))
  | .rem, .int k a, .int k' b => (k = k' ∧ b ≠ 0, .int k (a.tmod b))
  | .eql, .int k a, .int k' b => (k = k', .bool (decide (a = b)))
  | .neq, .int k a, .int k' b => (k = k', .bool (!decide (a = b)))
  | .lss, .int k a, .int k' b => (k = k', .bool (decide (a < b)))
  | .leq, .int k a, .int k' b => (k = k', .bool (decide (a ≤ b)))
  | .gtr, .int k a, .int k' b => (k = k', .bool (decide (b < a)))
  | .geq, .int k a, .int k' b => (k = k', .bool (decide (b ≤ a)))
  | .eql, .str a, .str b => (True, .bool (decide (a = b)))
  | .neq, .str a, .str b => (True, .bool (!decide (a = b)))
  | .lss, .str a, .str b => (True, .bool (Op.bytesLess a.toList b.toList))
  | .leq, .str a, .str b => (True, .bool (Op.bytesLess a.toList b.toList || decide (a = b)))
  | .gtr, .str a, .str b => (True, .bool (!(Op.bytesLess a.toList b.toList || decide (a = b))))
  | .geq, .str a, .str b => (True, .bool (!Op.bytesLess a.toList b.toList))
  | .add, .str a, .str b => (a.size + b.size < 9223372036854775808, .str (a ++ b))
  | _, _, _ => (False, .undef)

/-- a value that fills one cell -/
def AVal.leaf : AVal → Bool
  | .aggF _ _ | .tupF _ _ | .when _ _ => false
  | _ => true
def partOk (v : AVal) (o size : Nat) (a : Bool) : Prop :=
  match v with
  | .aggF n _ => o + size ≤ n
  | .undef => False
  | _ => o = 0 ∧ a = false
def loadR (size : Nat) (a : Bool) (sz e o : Nat) (r : Option Row) : Prop × AVal :=
  match r with
  | some r => ((e < r.n ∧ r.sz = sz) ∧ partOk (r.f e) o size a, (r.f e).part o size a)
  | none => (False, .undef)
def loadF (size : Nat) (a : Bool) (σ : Heap) (x : AVal) : Prop × AVal :=
  match x with
  | .ptr k sz e o => loadR size a sz e o (σ.get k)
  | .iptr v o => (partOk v o size a, v.part o size a)
  | _ => (False, .undef)
def putPart (v : AVal) (o : Nat) (x : AVal) : AVal :=
  match v, x with
  | .aggF n f, .aggF m g => if o = 0 ∧ m = n then .aggF m g else .aggF n (fun j => if o ≤ j ∧ j < o + m then g (j - o) else f j)
  | .aggF n f, x => .aggF n (fun j => if j = o then x else f j)
  | _, x => x
def putOk (v : AVal) (o : Nat) (x : AVal) : Prop :=
  match v with
  | .aggF n _ => o + x.cells ≤ n
  | .undef => False
  | _ => o = 0 ∧ x.leaf = true
def storeR (size : Nat) (σ : Heap) (k : Option Nat) (sz e o : Nat) (v : AVal) (r : Option Row) : Prop × Heap :=
  match r with
  | some r => (((e < r.n ∧ r.sz = sz) ∧ putOk (r.f e) o v) ∧ v.cells = size ∧ v.known = true, σ.set k ⟨r.n, r.cap, r.sz, fun i => if i = e then putPart (r.f e) o v else r.f i⟩)
  | none => (False, σ)
def storeF (size : Nat) (σ : Heap) (x v : AVal) : Prop × Heap :=
  match x with
  | .ptr k sz e o => storeR size σ k sz e o v (σ.get k)
  | _ => (False, σ)
def indexF (sz : Nat) (x i : AVal) : Prop × AVal :=
  match x, i with
  | .sl s n f, .int _ j => ((0 ≤ j ∧ j < n) ∧ s = sz, .iptr (f j.toNat) 0)
  | .sref k e0 s n _, .int _ j => ((0 ≤ j ∧ j < n) ∧ s = sz, .ptr k sz (e0 + j.toNat) 0)
  | _, _ => (False, .undef)
def fieldF (x : AVal) (off : Nat) : Prop × AVal :=
  match x with
  | .ptr k sz e o => (True, .ptr k sz e (o + off))
  | .iptr v o => (True, .iptr v (o + off))
  | _ => (False, .undef)
def lenF (b : Bool) (x : AVal) : Prop × AVal :=
  match x with
  | .sl _ n _ => (b = false, .int .i64 n)
  | .sref _ _ _ n _ => (b = false, .int .i64 n)
  | .nilsl => (b = false, .int .i64 0)
  | .str s => (b = true, .int .i64 s.size)
  | _ => (False, .undef)
def pickF (c a b : AVal) : Prop × AVal :=
  match c, a, b with
  | .bool t, .when g (.bool x), .bool y => (t = true → g = true, .bool (cond t x y))
  | .bool t, .bool x, .when g (.bool y) => (t = false → g = true, .bool (cond t x y))
  | .bool t, .bool x, .bool y => (True, .bool (cond t x y))
  | .bool t, .when g (.bool x), .when g' (.bool y) => ((t = true → g = true) ∧ (t = false → g' = true), .bool (cond t x y))
  | _, _, _ => (False, .undef)
/-- a byte of a string -/
def indexSF (x i : AVal) : Prop × AVal :=
  match x, i with
  | .str s, .int _ j => (0 ≤ j ∧ j < s.size, .int .u8 (s.data.getD j.toNat 0).toNat)
  | _, _ => (False, .undef)
def boundF (n d : Nat) : Option AVal → Prop × Nat
  | none => (True, d)
  | some (.int _ j) => (0 ≤ j ∧ j ≤ n, j.toNat)
  | some _ => (False, 0)
def sliceF (b : Bool) (sz : Nat) (x : AVal) (lo hi : Option AVal) : Prop × AVal :=
  match x with
  | .sl s n f => ((b = false ∧ s = sz) ∧ (boundF n n hi).1 ∧ (boundF (boundF n n hi).2 0 lo).1, .sl s ((boundF n n hi).2 - (boundF (boundF n n hi).2 0 lo).2) fun i => f ((boundF (boundF n n hi).2 0 lo).2 + i))
  | .str s => (b = true ∧ (boundF s.size s.size hi).1 ∧ (boundF (boundF s.size s.size hi).2 0 lo).1, .str (s.extract (boundF (boundF s.size s.size hi).2 0 lo).2 (boundF s.size s.size hi).2))
  | _ => (False, .undef)
def extractF (x : AVal) (i : Nat) : Prop × AVal := match x with | .tupF n f => (i < n, f i) | _ => (False, .undef)
def notF (x : AVal) : Prop × AVal := match x with | .bool t => (True, .bool (!t)) | _ => (False, .undef)
def negF (x : AVal) : Prop × AVal := match x with | .int k n => (True, .int k (W k (0 - n))) | _ => (False, .undef)
def fieldVF (x : AVal) (o size : Nat) (a : Bool) : Prop × AVal := match x with | .aggF n f => (o + size ≤ n, (AVal.aggF n f).part o size a) | _ => (False, .undef)
def nilF (x : AVal) : Prop × AVal := match x with | .ptr k sz i o => (True, .ptr k sz i o) | .iptr v o => (True, .iptr v o) | _ => (False, .undef)
/-- leaves that can be compared -/
def leafEq : AVal → AVal → Bool
  | .int _ a, .int _ b => decide (a = b)
  | .str a, .str b => decide (a = b)
  | .bool a, .bool b => a == b
  | _, _ => false
def aeq (n : Nat) (f g : Nat → AVal) : Bool := (List.range n).all fun j => leafEq (f j) (g j)

section
variable (P : Program)
def buildF (t : TypeId) (parts : List (Nat × AVal)) : AVal :=
  .aggF (szT P t) fun j => (parts.foldl (fun (a : AVal) (p : Nat × AVal) => if foffT P t p.1 ≤ j ∧ j < foffT P t p.1 + szT P (ftyT P t p.1) then p.2.part (j - foffT P t p.1) 1 false else a) ((zeroT P t).part j 1 false))
def partsOk (t : TypeId) : List (Nat × AVal) → Prop
  | [] => True
  | p :: l => (p.2.known = true ∧ p.2.cells = szT P (ftyT P t p.1)) ∧ partsOk t l
def elemsOk (sz : Nat) : List AVal → Prop
  | [] => True
  | v :: l => (v.known = true ∧ v.cells = sz) ∧ elemsOk sz l

def capsOk : List AVal → Prop
  | [] => True
  | v :: l => (v.leaf = true ∧ v.known = true) ∧ capsOk l
def leafE2 : Value → Value → Bool
  | .int _ a, .int _ b => decide (a = b)
  | .string a, .string b => decide (a = b)
  | .bool a, .bool b => a == b
  | _, _ => false
/-- kinds of cells that can be compared -/
inductive LK where | int (k : IntKind) | str | bool
  deriving DecidableEq
def leafK : LK → AVal → Prop
  | .int k, .int k' _ => k' = k
  | .str, .str _ => True
  | .bool, .bool _ => True
  | _, _ => False
def valK : LK → Value → Bool
  | .int k, .int k' _ => k' == k
  | .str, .string _ => true
  | .bool, .bool _ => true
  | _, _ => false
/-- '==' of two structs of type t, of n cells of these kinds: of all cells. -/
def EqOk (t : TypeId) (n : Nat) (ks : Nat → LK) : Prop := ∀ (xs ys : Array Value) (w : World), xs.size = n → ys.size = n → (∀ j, j < n → valK (ks j) (xs.getD j undef) = true ∧ valK (ks j) (ys.getD j undef) = true) →
  ((do eqGuard .eql t (.tmp 0) (.tmp 1) (.agg xs) (.agg ys); Op.equal t (.agg xs) (.agg ys)).run P w = .ok ((List.range n).all fun j => leafE2 (xs.getD j undef) (ys.getD j undef)) w)
/-- '==' of bools, structs; else 'binF'. -/
def binT (t : TypeId) (o : BinOp) (x y : AVal) : Prop × AVal :=
  match o, x, y with
  | .eql, .aggF n f, .aggF m g => (∃ ks, EqOk P t n ks ∧ n = m ∧ ∀ j < n, leafK (ks j) (f j) ∧ leafK (ks j) (g j), .bool (aeq n f g))
  | .neq, .aggF n f, .aggF m g => (∃ ks, EqOk P t n ks ∧ n = m ∧ ∀ j < n, leafK (ks j) (f j) ∧ leafK (ks j) (g j), .bool (!aeq n f g))
  | .eql, .bool a, .bool b => (P.underlying t = some .bool, .bool (a == b))
  | .neq, .bool a, .bool b => (P.underlying t = some .bool, .bool (!(a == b)))
  | o, x, y => binF o x y
/-- Operations that only compute or read: what must hold, and the value. 'e': how operands read. -/
def pureF (op : Op) (e : Operand → AVal) (σ : Heap) : Prop × AVal :=
  match op with
  | .move x => (True, e x)
  | .assign x => (True, e x)
  | .pick c x y => pickF (e c) (e x) (e y)
  | .build t parts => (partsOk P t (parts.toList.map fun p => (p.1, e p.2)), buildF P t (parts.toList.map fun p => (p.1, e p.2)))
  | .load t x => loadF (szT P t) (aggT P t) σ (e x)
  | .nilCheck x => nilF (e x)
  | .binOp o t x y _ => binT P t o (e x) (e y)
  | .unOp .not _ x => notF (e x)
  | .unOp .neg _ x => negF (e x)
  | .fieldAddr s x f => fieldF (e x) (foffT P s f)
  | .field s x f => fieldVF (e x) (foffT P s f) (szT P (ftyT P s f)) (aggT P (ftyT P s f))
  | .indexAddr t x i => indexF (szT P (elT P t)) (e x) (e i)
  | .extract x i => extractF (e x) i
  | .index _ x i => indexSF (e x) (e i)
  | .slice t x lo hi none => sliceF (strT P t) (szT P (elT P t)) (e x) (lo.map e) (hi.map e)
  | .makeFunc (.func g) _ caps => (capsOk (caps.toList.map e), fn g (caps.toList.map e))
  | .call { callee := .builtin .len, args, argTypes } => (match args.toList with | [x] => lenF (strT P (argTypes.getD 0 0)) (e x) | _ => (False, .undef))
  | _ => (False, .undef)
end

inductive Kind where | pure | new | store | app | call
  deriving DecidableEq
def kindOf : Op → Kind
  | .alloc _ | .box .. | .buildSlice .. => .new
  | .store .. => .store
  | .call { callee := .value _, .. } => .call
  | .call { callee := .builtin .append, .. } => .app
  | _ => .pure

/-! What a value says of a cell, a row, the world. -/
/-- 'v' lies in the sz cells c; blocks of I are no longer written. -/
def LR (I : Nat → Prop) (w : World) : AVal → Nat → (Nat → Option Value) → Prop
  | .undef, sz, c => ∀ j < sz, ∃ x, c j = some x ∧ x.oneCell' = true
  | .bool b, sz, c => sz = 1 ∧ c 0 = some (.bool b)
  | .int k n, sz, c => sz = 1 ∧ c 0 = some (.int k n)
  | .str s, sz, c => sz = 1 ∧ c 0 = some (.string s)
  | .nilsl, sz, c => sz = 1 ∧ c 0 = some (.slice none 0 0)
  | .sl s n f, sz, c => sz = 1 ∧ ∃ a cap, c 0 = some (.slice a n cap) ∧ (n = 0 ∨ ∃ b off, a = some ⟨b, off, none⟩ ∧ I b ∧ n ≤ cap ∧ ∀ i < n, LR I w (f i) s fun j => w.cell? ⟨b, off + i * s + j, none⟩)
  | .sref k e0 s n cap, sz, c => sz = 1 ∧ match k with
    | some b => n ≤ cap ∧ c 0 = some (.slice (some ⟨b, e0 * s, none⟩) n cap)
    | none => n = 0 ∧ cap = 0 ∧ ∃ a, c 0 = some (.slice a 0 0)
  | .ptr k s e o, sz, c => sz = 1 ∧ ∃ b, k = some b ∧ c 0 = some (.pointer (some ⟨b, e * s + o, none⟩))
  | .iptr v o, sz, c => sz = 1 ∧ ∃ b off, c 0 = some (.pointer (some ⟨b, off + o, none⟩)) ∧ I b ∧ LR I w v v.cells fun j => w.cell? ⟨b, off + j, none⟩
  | .aggF n f, sz, c => sz = n ∧ ∀ j < n, (f j).leaf = true ∧ LR I w (f j) 1 fun _ => c j
  | .tupF _ _, _, _ => False
  | .fnF g n caps, sz, c => sz = 1 ∧ ∃ cs : Array Value, c 0 = some (.func (.func g) #[] cs) ∧ cs.size = n ∧ ∀ j < n, (caps j).leaf = true ∧ LR I w (caps j) 1 fun _ => cs[j]?
  | .when _ _, _, _ => False
/-- 'v' is the value cv of a slot. -/
def VR (I : Nat → Prop) (w : World) : AVal → Value → Prop
  | .undef, _ => True
  | .when g v, cv => (g = true → VR I w v cv) ∧ (g = false → cv = undef)
  | .tupF n f, cv => ∃ vs : Array Value, cv = .tuple vs ∧ vs.size = n ∧ ∀ j < n, ∃ x, vs[j]? = some x ∧ VR I w (f j) x
  | .aggF n f, cv => ∃ cs : Array Value, cv = .agg cs ∧ cs.size = n ∧ LR I w (.aggF n f) n fun j => cs[j]?
  | v, cv => LR I w v 1 fun _ => some cv

def RowOk (I : Nat → Prop) (w : World) (b : Nat) (r : Row) : Prop :=
  ∃ cs ty, w.heap[b]? = some (.cells cs ty (0, 0)) ∧ r.n ≤ r.cap ∧ r.cap * r.sz ≤ cs.size ∧ ∀ e < r.n, LR I w (r.f e) r.sz fun j => cs[e * r.sz + j]?
structure Inv (I : Nat → Prop) (σ : Heap) (w : World) : Prop where
  imm : ∀ b, I b → b < w.heap.size ∧ σ.get (some b) = none
  row : ∀ b r, σ.get (some b) = some r → RowOk I w b r
  no : ∀ r, σ.get none = some r → r.n = 0
structure Ext (I I' : Nat → Prop) (σ σ' : Heap) (w w' : World) : Prop where
  os : w'.os = w.os
  tape : w'.tape = w.tape
  output : w'.output = w.output
  size : w.heap.size ≤ w'.heap.size
  old : ∀ b, b < w.heap.size → σ.get (some b) = none → w'.heap[b]? = w.heap[b]?
  imm : ∀ b, I b → I' b
  imm' : ∀ b, I' b → I b ∨ w.heap.size ≤ b ∨ σ.get (some b) ≠ none
  row : ∀ b, σ'.get (some b) ≠ none → σ.get (some b) ≠ none ∨ w.heap.size ≤ b
def ARel (I : Nat → Prop) (w : World) (args : List AVal) (cargs : Array Value) : Prop :=
  cargs.size = args.length ∧ ∀ j, j < args.length → ∃ x, cargs[j]? = some x ∧ VR I w (lst args j) x

def fnOk (P : Program) (g : FuncId) : Bool := match P.funcs[g]? with | some fn => fn.body.isSome && fn.name != "runtime.NumGoroutine" | none => false
/-- Called with these values, over these rows, the function returns so. -/
def ACalls (P : Program) (f : FuncId) (args : List AVal) (σ : Heap) (R : AVal → Heap → Prop) : Prop :=
  fnOk P f = true ∧ ∀ I w cargs, Inv I σ w → ARel I w args cargs → Calls P f cargs w fun e w' =>
    ∃ cv r σ' I', e = .returned cv ∧ R r σ' ∧ VR I' w' r cv ∧ Inv I' σ' w' ∧ Ext I I' σ σ' w w'

section
variable (P : Program)
def CallTo (f : FuncId) (args : List AVal) (σ : Heap) (K : AVal → Heap → Prop) : Prop := ∃ R, ACalls P f args σ R ∧ ∀ r σ', R r σ' → K r σ'
def CallV (x : AVal) (args : List AVal) (σ : Heap) (K : AVal → Heap → Prop) : Prop :=
  match x with
  | .fnF g n caps => CallTo P g (args ++ (List.range n).map caps) σ K
  | _ => False
/-- A slice, read: what must hold, its length, its elements. -/
def readS (sz : Nat) (σ : Heap) (y : AVal) : Prop × (Nat × (Nat → AVal)) :=
  match y with
  | .sl s n f => (s = sz, n, f)
  | .sref k e s n _ => match σ.get k with
    | some r => ((s = sz ∧ r.sz = sz) ∧ e + n ≤ r.n, n, fun i => r.f (e + i))
    | none => (False, n, fun _ => .undef)
  | .nilsl => (True, 0, fun _ => .undef)
  | _ => (False, 0, fun _ => .undef)
/-- 'append(x, y...)': x is a row of the heap, whole. -/
def Append (t : TypeId) (x y : AVal) (σ : Heap) (K : AVal → Heap → Prop) : Prop :=
  match x with
  | .sref k e0 sz n cap => match σ.get k with
    | some r => ((readS sz σ y).1 ∧ cap ≤ r.cap ∧ e0 = 0 ∧ n = r.n ∧ r.sz = sz ∧ sz = szT P (elT P t) ∧ (n + (readS sz σ y).2.1) * (2 * byT P (elT P t)) < 281474976710656) ∧
      ∃ f : Nat → AVal, (∀ i, i < n → f i = r.f i) ∧ (∀ i, i < (readS sz σ y).2.1 → f (n + i) = (readS sz σ y).2.2 i) ∧
      ∀ k' cap', ((k' = k ∨ ∃ b, k' = some b ∧ Heap.notin b σ) ∧ (k' = none → n + (readS sz σ y).2.1 = 0) ∧ n + (readS sz σ y).2.1 ≤ cap') → K (.sref k' 0 sz (n + (readS sz σ y).2.1) cap') ((k', ⟨n + (readS sz σ y).2.1, cap', sz, f⟩) :: σ.erase k)
    | none => False
  | _ => False
/-- A new block. -/
def New (σ : Heap) (K : Nat → Prop) : Prop := ∀ b, Heap.notin b σ → K b
def newF (op : Op) (e : Operand → AVal) (b : Nat) : Prop × (AVal × Row) :=
  match op with
  | .alloc t => (True, .ptr (some b) (szT P t) 0 0, ⟨1, 1, szT P t, fun _ => zeroT P t⟩)
  | .box t x => ((e x).cells = szT P t ∧ (e x).known = true, .ptr (some b) (szT P t) 0 0, ⟨1, 1, szT P t, fun _ => e x⟩)
  | .buildSlice t len parts => (len = parts.size ∧ elemsOk (szT P (elT P t)) (parts.toList.map fun p => e p.2), .sref (some b) 0 (szT P (elT P t)) len len, ⟨len, len, szT P (elT P t), lst (parts.toList.map fun p => e p.2)⟩)
  | _ => (False, .undef, ⟨0, 0, 0, fun _ => .undef⟩)
/-- A call's way on. -/
def Stop (op : Op) (e : Operand → AVal) (σ : Heap) (K : AVal → Heap → Prop) : Prop :=
  match op with
  | .call { callee := .value (.func g), args, .. } => CallTo P g (args.toList.map e) σ K
  | .call { callee := .value x, args, .. } => CallV P (e x) (args.toList.map e) σ K
  | .call { callee := .builtin .append, args, argTypes } => Append P (argTypes.getD 0 0) (e (args.getD 0 default)) (e (args.getD 1 default)) σ K
  | _ => False
/-- A call that leaves the heap as it is, if g. -/
def Quiet (g : Bool) (op : Op) (e : Operand → AVal) (σ : Heap) (K : AVal → Prop) : Prop := ∃ r, (g = true → Stop P op e σ fun r' σ' => r' = r ∧ σ' = σ) ∧ K r
end

def okAll (g : Bool) : List AVal → Prop
  | [] => True
  | v :: l => v.okw g ∧ okAll g l
def gdF (want : Bool) : AVal → Option Bool
  | .bool t => some (t == want)
  | .when g (.bool t) => some (g && (t == want))
  | _ => none
/-- A guarded operation that only computes or reads. -/
def gF (P : Program) (op : Op) (e : Operand → AVal) (σ : Heap) (g : Bool) : Prop × AVal :=
  match op with
  | .pick c x y => ((pickF (e c).strip (e x) (e y)).1 ∧ (e c).okw g, (pickF (e c).strip (e x) (e y)).2)
  | op => ((pureF P op (fun x => (e x).strip) σ).1 ∧ okAll g (op.operands.toList.map e), (pureF P op (fun x => (e x).strip) σ).2)
def putd (τ : Slots) (d : Option Nat) (v : AVal) : Slots := match d with | some d => (d, v) :: τ | none => τ
/-- The tmp of an operation of the region (for guards). -/
def dstAt : List Oper → Nat → Nat
  | [], _ => 0
  | o :: _, 0 => o.dst.getD 0
  | _ :: l, n + 1 => dstAt l n

section
variable (P : Program)
/-- operations one behind the other; q: calls leave the heap as it is -/
def Run (q : Bool) (all : List Oper) (ops : List Oper) (τ : Slots) (σ : Heap) (c : Prop) (K : Slots → Heap → Prop) : Prop :=
  match ops with
  | [] => c ∧ K τ σ
  | o :: rest =>
    match o.guard with
    | none => match kindOf o.op with
      | .pure => let r := pureF P o.op (ev τ) σ; Run q all rest (putd τ o.dst r.2) σ (c ∧ r.1) K
      | .new => c ∧ New σ fun b => let r := newF P o.op (ev τ) b; Run q all rest (putd τ o.dst r.2.1) ((some b, r.2.2) :: σ) r.1 K
      | .store => match o.op with
        | .store t x y => let r := storeF (szT P t) σ (ev τ x) (ev τ y); Run q all rest (putd τ o.dst .undef) r.2 (c ∧ r.1) K
        | _ => False
      | .app => c ∧ Stop P o.op (ev τ) σ fun v σ' => Run q all rest (putd τ o.dst v) σ' True K
      | .call => match q with
        | true => c ∧ Quiet P true o.op (ev τ) σ fun v => Run q all rest (putd τ o.dst v) σ True K
        | false => c ∧ Stop P o.op (ev τ) σ fun v σ' => Run q all rest (putd τ o.dst v) σ' True K
    | some (j, want) => match gdF want (τ.get (dstAt all j)) with
      | some g => match kindOf o.op with
        | .pure => Run q all rest (putd τ o.dst (.when g (gF P o.op (ev τ) σ g).2)) σ (c ∧ (g = true → (gF P o.op (ev τ) σ g).1)) K
        | .call => c ∧ Quiet P g o.op (fun x => (ev τ x).strip) σ fun v => Run q all rest (putd τ o.dst (.when g v)) σ (g = true → okAll g (o.op.operands.toList.map (ev τ))) K
        | _ => False
      | none => False
end

section
variable (P : Program)
/-- one operation -/
def Stp (q : Bool) (all : List Oper) (o : Oper) (τ : Slots) (σ : Heap) (K : Slots → Heap → Prop) : Prop :=
  match o.guard with
  | none => match kindOf o.op with
    | .pure => (pureF P o.op (ev τ) σ).1 ∧ K (putd τ o.dst (pureF P o.op (ev τ) σ).2) σ
    | .new => New σ fun b => (newF P o.op (ev τ) b).1 ∧ K (putd τ o.dst (newF P o.op (ev τ) b).2.1) ((some b, (newF P o.op (ev τ) b).2.2) :: σ)
    | .store => match o.op with
      | .store t x y => (storeF (szT P t) σ (ev τ x) (ev τ y)).1 ∧ K (putd τ o.dst .undef) (storeF (szT P t) σ (ev τ x) (ev τ y)).2
      | _ => False
    | .app => Stop P o.op (ev τ) σ fun v σ' => K (putd τ o.dst v) σ'
    | .call => match q with
      | true => Quiet P true o.op (ev τ) σ fun v => K (putd τ o.dst v) σ
      | false => Stop P o.op (ev τ) σ fun v σ' => K (putd τ o.dst v) σ'
  | some (j, want) => match gdF want (τ.get (dstAt all j)) with
    | some g => match kindOf o.op with
      | .pure => (g = true → (gF P o.op (ev τ) σ g).1) ∧ K (putd τ o.dst (.when g (gF P o.op (ev τ) σ g).2)) σ
      | .call => Quiet P g o.op (fun x => (ev τ x).strip) σ fun v => (g = true → okAll g (o.op.operands.toList.map (ev τ))) ∧ K (putd τ o.dst (.when g v)) σ
      | _ => False
    | none => False
def Stps (q : Bool) (all : List Oper) : List Oper → Slots → Heap → (Slots → Heap → Prop) → Prop
  | [], τ, σ, K => K τ σ
  | o :: l, τ, σ, K => Stp P q all o τ σ fun τ σ => Stps q all l τ σ K
end

inductive AExit where | normal | ret | exit (n : Nat)
def AExit.then (K : Slots → Heap → Prop) (Q : AExit → Slots → Heap → Prop) : AExit → Slots → Heap → Prop
  | .normal => K
  | e => Q e
def AExit.blk (id : Nat) (Q : AExit → Slots → Heap → Prop) : AExit → Slots → Heap → Prop
  | .exit n => if n = id then Q .normal else Q (.exit n)
  | e => Q e
/-- two ways -/
def Ways (t : AVal) (X Y : Prop) : Prop := match t with | .bool t => (t = true → X) ∧ (t = false → Y) | _ => False
/-- Fewer rows. -/
def Heap.sub (σ' σ : Heap) : Prop := ∀ k, σ'.get k = none ∨ σ'.get k = σ.get k
/-- 'v' says no more than 'u', once the rows of F are no longer written ('WkV v u'). -/
inductive WkV (σ : Heap) (F : Nat → Prop) : AVal → AVal → Prop
  | same (v : AVal) : WkV σ F v v
  | undef (v : AVal) : WkV σ F .undef v
  | nil_ref (sz : Nat) : WkV σ F (.sref none 0 sz 0 0) .nilsl
  | nil_sl (sz : Nat) (f : Nat → AVal) : WkV σ F (.sl sz 0 f) .nilsl
  | ref_nil (sz e0 cap : Nat) (f : Nat → AVal) (k : Option Nat) : WkV σ F (.sl sz 0 f) (.sref k e0 sz 0 cap)
  | ref_sl (b e0 sz n cap : Nat) (f : Nat → AVal) (r : Row) (hb : F b) (hr : σ.get (some b) = some r) (hs : r.sz = sz) (hn : e0 + n ≤ r.n) (h : ∀ i, i < n → WkV σ F (f i) (r.f (e0 + i))) : WkV σ F (.sl sz n f) (.sref (some b) e0 sz n cap)
  | sl_sl (sz n : Nat) (f g : Nat → AVal) (h : ∀ i, i < n → WkV σ F (f i) (g i)) : WkV σ F (.sl sz n f) (.sl sz n g)
  | agg (n : Nat) (f g : Nat → AVal) (hl : ∀ i, i < n → (f i).leaf = true) (h : ∀ i, i < n → WkV σ F (f i) (g i)) : WkV σ F (.aggF n f) (.aggF n g)
  | ptr (b sz e o : Nat) (v : AVal) (r : Row) (hb : F b) (hr : σ.get (some b) = some r) (hs : r.sz = sz) (he : e < r.n) (hc : v.cells = sz) (h : WkV σ F v (r.f e)) : WkV σ F (.iptr v o) (.ptr (some b) sz e o)
  | tup (n : Nat) (f g : Nat → AVal) (h : ∀ i, i < n → WkV σ F (f i) (g i)) : WkV σ F (.tupF n f) (.tupF n g)
  | fn (g n : Nat) (f h : Nat → AVal) (hl : ∀ i, i < n → (f i).leaf = true) (hh : ∀ i, i < n → WkV σ F (f i) (h i)) : WkV σ F (.fnF g n f) (.fnF g n h)
def WkS (σ : Heap) (F : Nat → Prop) (τ' τ : Slots) : Prop := ∀ i, WkV σ F (τ'.get i) (τ.get i)
def WkH (σ : Heap) (F : Nat → Prop) (σ' : Heap) : Prop :=
  ∀ k r', σ'.get k = some r' → (k = none ∧ r'.n = 0) ∨ ∃ b r, k = some b ∧ ¬ F b ∧ σ.get k = some r ∧ r'.n ≤ r.n ∧ r'.n ≤ r'.cap ∧ r'.cap ≤ r.cap ∧ r'.sz = r.sz ∧ ∀ i, i < r'.n → WkV σ F (r'.f i) (r.f i)
/-- Less is said of slots and rows. -/
def Wk (τ : Slots) (σ : Heap) (τ' : Slots) (σ' : Heap) : Prop := ∃ F : Nat → Prop, WkS σ F τ' τ ∧ WkH σ F σ'
/-- A loop: by a relation that every round keeps. -/
def Loop (body : (AExit → Slots → Heap → Prop) → Slots → Heap → Prop) (Q : AExit → Slots → Heap → Prop) (τ : Slots) (σ : Heap) : Prop :=
  ∃ (J : Nat → Slots → Heap → Prop), (∃ n τ' σ', Wk τ σ τ' σ' ∧ J n τ' σ') ∧ ∀ n τ σ, J n τ σ → body (AExit.then (fun τ' σ' => ∃ m τ'' σ'', Wk τ' σ' τ'' σ'' ∧ J m τ'' σ'' ∧ m < n) Q) τ σ
/-! A region whose order is open. -/
def isLoad : Op → Bool
  | .load .. => true
  | _ => false
/-- the tmps that an operation looks at -/
def looks (all : List Oper) (o : Oper) : List Nat :=
  (o.op.operands.toList.filterMap fun | .tmp t => some t | _ => none) ++ (match o.guard with | some (j, _) => [dstAt all j] | none => [])
/-- 0: it only computes; 1: it reads; 2: it makes a block; 3: it writes -/
def cls (o : Oper) : Nat := match kindOf o.op with
  | .pure => if isLoad o.op then 1 else 0
  | .call => 1
  | .new => 2
  | _ => 3
def apart (all : List Oper) (x y : Oper) : Bool :=
  (match x.dst with | some d => !(looks all y).contains d && y.dst != some d | none => true) && (match y.dst with | some d => !(looks all x).contains d | none => true)
/-- What comes to the same when i goes first. -/
def swapOk (all : List Oper) (l i : Oper) : Bool := apart all l i && (match cls l, cls i with
  | 0, _ => true
  | 1, 0 => true
  | 1, 1 => true
  | 1, 2 => !isLoad l.op || l.guard.isNone
  | 2, 0 => true
  | 2, 2 => true
  | _, _ => false)
def reach (ops : List Oper) : Nat → Nat → Nat → Bool
  | 0, _, _ => false
  | k + 1, l, i => (ops.getD i default).after.any fun e => Region.binds .any e && (e.on == l || reach ops k l e.on)
def pairOk (ops : List Oper) (l i : Nat) : Bool := l != i && (reach ops ops.length l i || swapOk ops (ops.getD l default) (ops.getD i default))
def pairsOk (ops : List Oper) : List Nat → Bool
  | [] => true
  | l :: rest => rest.all (pairOk ops l) && pairsOk ops rest
def drawOk (ops : List Oper) (ord : List Nat) : Bool :=
  ord.all (fun i => decide (i < ops.length)) && (List.range ops.length).all (fun i => ord.contains i && (ops.getD i default).after.all fun e => !Region.binds .any e || decide (e.on < i)) && pairsOk ops ord

def awp (P : Program) (c : Code) (Q : AExit → Slots → Heap → Prop) (τ : Slots) (σ : Heap) : Prop :=
  match c with
  | .skip => Q .normal τ σ
  | .region _ ops d => Run P d ops.toList ops.toList τ σ True (Q .normal)
  | .seq a b => awp P a (AExit.then (awp P b Q) Q) τ σ
  | .cond c x y => Ways (ev τ c) (awp P x Q τ σ) (awp P y Q τ σ)
  | .block id c => awp P c (AExit.blk id Q) τ σ
  | .loop c => Loop (awp P c) Q τ σ
  | .exit n => Q (.exit n) τ σ
  | .ret => Q .ret τ σ
  | _ => False
end Go.Aw
