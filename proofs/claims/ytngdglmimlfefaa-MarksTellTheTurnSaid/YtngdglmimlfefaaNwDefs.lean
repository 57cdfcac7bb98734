/- The abstract walk, part 1: pure values for slices and structs, rows of the call's own, what each operation comes to. -/
import Derived.Calls
import Derived.WalkKit
namespace Go.Nw
set_option linter.unusedVariables false

/-! Values of the abstract walk. -/
inductive AVal : Type where
  | undef
  | bool (b : Bool)
  /-- true or false -/
  | anyb
  | int (k : IntKind) (n : Int)
  | str (s : ByteArray)
  | nilsl
  /-- a slice that nobody writes any more: cells an element, how many, which -/
  | sl (sz n : Nat) (f : Nat → AVal)
  /-- a slice of a row of the heap: from element e0 on, n of them -/
  | sref (k : Nat × Nat) (e0 sz n : Nat)
  /-- a pointer into a row: element e, its cell o -/
  | ptr (k : Nat × Nat) (sz e o : Nat)
  /-- a pointer to memory that nobody writes any more: what lies there, from its cell o -/
  | iptr (v : AVal) (o : Nat)
  | aggF (n : Nat) (f : Nat → AVal)
  | tupF (n : Nat) (f : Nat → AVal)
  | fnF (g : Nat) (n : Nat) (caps : Nat → AVal)
  /-- known if g -/
  | when (g : Bool) (v : AVal)
  deriving Inhabited

def lst : List AVal → Nat → AVal
  | [], _ => .undef
  | a :: _, 0 => a
  | _ :: l, n + 1 => lst l n
def agg (l : List AVal) : AVal := .aggF l.length (lst l)
def fn (g : Nat) (l : List AVal) : AVal := .fnF g l.length (lst l)
def tup (l : List AVal) : AVal := .tupF l.length (lst l)

abbrev Key := Nat × Nat
/-- A row: the cells of an element, what stands for no element, the elements. -/
structure Row where
  sz : Nat
  d : AVal
  l : List AVal
inductive Ent where
  | one (r : Row)
  /-- as many rows as one likes -/
  | fam (f : Nat → Option Row)
def Ent.get : Ent → Nat → Option Row
  | .one r, i => if i = 0 then some r else none
  | .fam f, i => f i
def Ent.set : Ent → Nat → Row → Ent
  | .one r, i, q => .one (if i = 0 then q else r)
  | .fam f, i, q => .fam fun j => if j = i ∧ f i ≠ none then some q else f j
abbrev Rows := List (Nat × Ent)
/-- the rows, by name; the next name -/
structure Heap where
  nx : Nat
  rows : Rows
abbrev Slots := List (Nat × AVal)
def Slots.get : Slots → Nat → AVal
  | [], _ => .undef
  | (j, v) :: τ, i => if i = j then v else Slots.get τ i
def rget : Rows → Key → Option Row
  | [], _ => none
  | (j, e) :: τ, k => if k.1 = j then (e.get k.2).or (rget τ k) else rget τ k
def rset : Rows → Key → Row → Rows
  | [], _, _ => []
  | (j, e) :: τ, k, r => if k.1 = j then (j, e.set k.2 r) :: rset τ k r else (j, e) :: rset τ k r
def Ent.del (j : Nat) : Ent → Nat → Rows
  | .one r, i => if i = 0 then [] else [(j, .one r)]
  | .fam f, i => [(j, .fam fun q => if q = i then none else f q)]
def rdel : Rows → Key → Rows
  | [], _ => []
  | (j, e) :: τ, k => if k.1 = j then e.del j k.2 ++ rdel τ k else (j, e) :: rdel τ k
def Heap.get (σ : Heap) (k : Key) : Option Row := rget σ.rows k
def Heap.set (σ : Heap) (k : Key) (r : Row) : Heap := ⟨σ.nx, rset σ.rows k r⟩
def Heap.del (σ : Heap) (k : Key) : Heap := ⟨σ.nx, rdel σ.rows k⟩
/-- a new row, named p -/
def Heap.put (σ : Heap) (p : Nat) (r : Row) : Heap := ⟨σ.nx, (p, .one r) :: σ.rows⟩
/-- n more names are taken -/
def Heap.bump (σ : Heap) (n : Nat) : Heap := ⟨σ.nx + n, σ.rows⟩
def Heap.nil : Heap := ⟨0, []⟩
/-- A value that names no row. -/
def AVal.nameless : AVal → Prop
  | .sref _ _ _ _ | .ptr _ _ _ _ => False
  | .aggF n f | .tupF n f | .fnF _ n f => ∀ j < n, (f j).nameless
  | .when _ v => v.nameless
  | _ => True
def leafC : Value → AVal
  | .bool b => .bool b
  | .int k n => .int k n
  | .string s => .str s
  | .slice none 0 0 => .nilsl
  | _ => .undef
def ofConst : Value → AVal
  | .agg cs => .aggF cs.size fun i => leafC (cs.getD i .nilIface)
  | v => leafC v
def ev (τ : Slots) : Operand → AVal
  | .tmp i => τ.get i
  | .const v => ofConst v
  | .func g => fn g []
  | .global _ => .undef
def AVal.part (v : AVal) (o size : Nat) (a : Bool) : AVal :=
  match v with
  | .aggF _ f => if a = true then .aggF size (fun j => if j < size then f (o + j) else .undef) else f o
  | v => v
def AVal.strip : AVal → AVal
  | .when _ v => v
  | v => v
/-- Is it used under its own condition? -/
def AVal.okw (g : Bool) : AVal → Prop
  | .when g' _ => g = true → g' = true
  | _ => True
/-- how many cells a value fills -/
def AVal.cells : AVal → Nat
  | .aggF n _ => n
  | _ => 1
/-- a value that can be stored -/
def AVal.known : AVal → Bool
  | .undef | .when _ _ | .tupF _ _ => false
  | _ => true
def W (k : IntKind) (n : Int) : Int := k.wrap n

section
variable (P : Program)
def szT (t : TypeId) : Nat := P.cellsOf t
def byT (t : TypeId) : Nat := P.bytesOf t
def aggT (t : TypeId) : Bool := match P.underlying t with | some (.struct _) => true | some (.array _ _) => true | _ => false
def elT (t : TypeId) : TypeId := match P.underlying t with | some (.slice e) => e | _ => 0
def fldT (t : TypeId) (f : Nat) : Option Field := match P.underlying t with | some (.struct fs) => fs[f]? | _ => none
def foffT (t : TypeId) (f : Nat) : Nat := ((fldT P t f).map (·.offset)).getD 0
def ftyT (t : TypeId) (f : Nat) : TypeId := ((fldT P t f).map (·.type)).getD 0
def slT (t : TypeId) : Bool := match P.underlying t with | some (.slice _) => true | _ => false
def strT (t : TypeId) : Bool := match P.underlying t with | some .string => true | _ => false
def kindT (t : TypeId) : Option IntKind := match P.underlying t with | some (.int k) => some k | _ => none
def zeroT (t : TypeId) : AVal := match P.info? t with | some i => (match i.zero with | some v => ofConst v | none => .undef) | none => .undef
end

/-- bit by bit -/
def bitF (op : BinOp) (k : IntKind) (a b : Int) : Int := k.wrap (match op with
  | .and => (BitVec.ofInt k.bits a &&& BitVec.ofInt k.bits b).toNat
  | .or => (BitVec.ofInt k.bits a ||| BitVec.ofInt k.bits b).toNat
  | .xor => (BitVec.ofInt k.bits a ^^^ BitVec.ofInt k.bits b).toNat
  | _ => (BitVec.ofInt k.bits a &&& ~~~ (BitVec.ofInt k.bits b)).toNat : Nat)
def shlF (k : IntKind) (a b : Int) : Int := k.wrap (a * 2 ^ (min b.toNat k.bits))
def shrF (k : IntKind) (a b : Int) : Int := a.fdiv (2 ^ (min b.toNat k.bits))
def binF (op : BinOp) (x y : AVal) : Prop × AVal :=
  match op, x, y with
  | .add, .int k a, .int k' b => (k = k', .int k (W k (a + b)))
  | .sub, .int k a, .int k' b => (k = k', .int k (W k (a - b)))
  | .mul, .int k a, .int k' b => (k = k', .int k (W k (a * b)))
  | .quo, .int k a, .int k' b => (k = k' ∧ b ≠ 0, .int k (W k (a.tdiv b)))
  | .rem, .int k a, .int k' b => (k = k' ∧ b ≠ 0, .int k (a.tmod b))
  | .eql, .int k a, .int k' b => (k = k', .bool (decide (a = b)))
  | .neq, .int k a, .int k' b => (k = k', .bool (!decide (a = b)))
  | .lss, .int k a, .int k' b => (k = k', .bool (decide (a < b)))
  | .leq, .int k a, .int k' b => (k = k', .bool (decide (a ≤ b)))
  | .gtr, .int k a, .int k' b => (k = k', .bool (decide (b < a)))
  | .geq, .int k a, .int k' b => (k = k', .bool (decide (b ≤ a)))
  | .eql, .str a, .str b => (True, .bool (decide (a = b)))
  | .neq, .str a, .str b => (True, .bool (!decide (a = b)))
  | .lss, .str a, .str b => (True, .bool (Op.bytesLess a.toList b.toList))
  | .leq, .str a, .str b => (True, .bool (Op.bytesLess a.toList b.toList || decide (a = b)))
  | .gtr, .str a, .str b => (True, .bool (!(Op.bytesLess a.toList b.toList || decide (a = b))))
  | .geq, .str a, .str b => (True, .bool (!Op.bytesLess a.toList b.toList))
  | .add, .str a, .str b => (a.size + b.size < 9223372036854775808, .str (a ++ b))
  | .and, .int k a, .int k' b => (k = k', .int k (bitF .and k a b))
  | .or, .int k a, .int k' b => (k = k', .int k (bitF .or k a b))
  | .xor, .int k a, .int k' b => (k = k', .int k (bitF .xor k a b))
  | .andNot, .int k a, .int k' b => (k = k', .int k (bitF .andNot k a b))
  | .shl, .int k a, .int _ b => (0 ≤ b, .int k (shlF k a b))
  | .shr, .int k a, .int _ b => (0 ≤ b, .int k (shrF k a b))
  | _, _, _ => (False, .undef)

/-- a value that fills one cell -/
def AVal.leaf : AVal → Bool
  | .aggF _ _ | .tupF _ _ | .when _ _ => false
  | _ => true
def partOk (v : AVal) (o size : Nat) (a : Bool) : Prop :=
  match v with
  | .aggF n _ => o + size ≤ n
  | .undef => False
  | _ => o = 0 ∧ a = false
def loadR (size : Nat) (a : Bool) (sz e o : Nat) (r : Option Row) : Prop × AVal :=
  match r with
  | some r => ((e < r.l.length ∧ r.sz = sz) ∧ partOk (r.l.getD e r.d) o size a, (r.l.getD e r.d).part o size a)
  | none => (False, .undef)
def loadF (size : Nat) (a : Bool) (σ : Heap) (x : AVal) : Prop × AVal :=
  match x with
  | .ptr k sz e o => loadR size a sz e o (σ.get k)
  | .iptr v o => (partOk v o size a, v.part o size a)
  | _ => (False, .undef)
def putPart (v : AVal) (o : Nat) (x : AVal) : AVal :=
  match v, x with
  | .aggF n f, .aggF m g => if o = 0 ∧ m = n then .aggF m g else .aggF n (fun j => if o ≤ j ∧ j < o + m then g (j - o) else f j)
  | .aggF n f, x => .aggF n (fun j => if j = o then x else f j)
  | _, x => x
def putOk (v : AVal) (o : Nat) (x : AVal) : Prop :=
  match v with
  | .aggF n _ => o + x.cells ≤ n
  | .undef => False
  | _ => o = 0 ∧ x.leaf = true
def storeR (size : Nat) (σ : Heap) (k : Key) (sz e o : Nat) (v : AVal) (r : Option Row) : Prop × Heap :=
  match r with
  | some r => (((e < r.l.length ∧ r.sz = sz) ∧ putOk (r.l.getD e r.d) o v) ∧ v.cells = size ∧ v.known = true, σ.set k ⟨r.sz, r.d, r.l.set e (putPart (r.l.getD e r.d) o v)⟩)
  | none => (False, σ)
def storeF (size : Nat) (σ : Heap) (x v : AVal) : Prop × Heap :=
  match x with
  | .ptr k sz e o => storeR size σ k sz e o v (σ.get k)
  | _ => (False, σ)
def indexF (sz : Nat) (x i : AVal) : Prop × AVal :=
  match x, i with
  | .sl s n f, .int _ j => ((0 ≤ j ∧ j < n) ∧ s = sz, .iptr (f j.toNat) 0)
  | .sref k e0 s n, .int _ j => ((0 ≤ j ∧ j < n) ∧ s = sz, .ptr k sz (e0 + j.toNat) 0)
  | _, _ => (False, .undef)
def fieldF (x : AVal) (off : Nat) : Prop × AVal :=
  match x with
  | .ptr k sz e o => (True, .ptr k sz e (o + off))
  | .iptr v o => (True, .iptr v (o + off))
  | _ => (False, .undef)
def lenF (b : Bool) (x : AVal) : Prop × AVal :=
  match x with
  | .sl _ n _ => (b = false, .int .i64 n)
  | .sref _ _ _ n => (b = false, .int .i64 n)
  | .nilsl => (b = false, .int .i64 0)
  | .str s => (b = true, .int .i64 s.size)
  | _ => (False, .undef)
def pickF (c a b : AVal) : Prop × AVal :=
  match c, a, b with
  | .bool t, .when g (.bool x), .bool y => (t = true → g = true, .bool (cond t x y))
  | .bool t, .bool x, .when g (.bool y) => (t = false → g = true, .bool (cond t x y))
  | .bool t, .bool x, .bool y => (True, .bool (cond t x y))
  | .bool t, .when g (.bool x), .when g' (.bool y) => ((t = true → g = true) ∧ (t = false → g' = true), .bool (cond t x y))
  | _, _, _ => (False, .undef)
/-- a byte of a string -/
def indexSF (x i : AVal) : Prop × AVal :=
  match x, i with
  | .str s, .int _ j => (0 ≤ j ∧ j < s.size, .int .u8 (s.data.getD j.toNat 0).toNat)
  | _, _ => (False, .undef)
def maxF (x y : AVal) : Prop × AVal :=
  match x, y with
  | .int k a, .int k' b => (k = k', .int k (if b > a then b else a))
  | _, _ => (False, .undef)
def minF (x y : AVal) : Prop × AVal :=
  match x, y with
  | .int k a, .int k' b => (k = k', .int k (if b < a then b else a))
  | _, _ => (False, .undef)
def boundF (n d : Nat) : Option AVal → Prop × Nat
  | none => (True, d)
  | some (.int _ j) => (0 ≤ j ∧ j ≤ n, j.toNat)
  | some _ => (False, 0)
def sliceF (b : Bool) (sz : Nat) (x : AVal) (lo hi : Option AVal) : Prop × AVal :=
  match x with
  | .sl s n f => ((b = false ∧ s = sz) ∧ (boundF n n hi).1 ∧ (boundF (boundF n n hi).2 0 lo).1, .sl s (min (boundF n n hi).2 n - (boundF (boundF n n hi).2 0 lo).2) fun i => if i < min (boundF n n hi).2 n - (boundF (boundF n n hi).2 0 lo).2 then f ((boundF (boundF n n hi).2 0 lo).2 + i) else f n)
  | .sref k e0 s n => ((b = false ∧ s = sz) ∧ (boundF n n hi).1 ∧ (boundF (boundF n n hi).2 0 lo).1, .sref k (e0 + (boundF (boundF n n hi).2 0 lo).2) s ((boundF n n hi).2 - (boundF (boundF n n hi).2 0 lo).2))
  | .nilsl => (b = false ∧ (boundF 0 0 hi).1 ∧ (boundF (boundF 0 0 hi).2 0 lo).1, .nilsl)
  | .str s => (b = true ∧ (boundF s.size s.size hi).1 ∧ (boundF (boundF s.size s.size hi).2 0 lo).1, .str (s.extract (boundF (boundF s.size s.size hi).2 0 lo).2 (boundF s.size s.size hi).2))
  | _ => (False, .undef)
def extractF (x : AVal) (i : Nat) : Prop × AVal := match x with | .tupF n f => (i < n, f i) | _ => (False, .undef)
def notF (x : AVal) : Prop × AVal := match x with | .bool t => (True, .bool (!t)) | _ => (False, .undef)
def convF (k : Option IntKind) (x : AVal) : Prop × AVal := match k, x with | some k, .int _ n => (True, .int k (W k n)) | _, _ => (False, .undef)
def negF (x : AVal) : Prop × AVal := match x with | .int k n => (True, .int k (W k (0 - n))) | _ => (False, .undef)
def fieldVF (x : AVal) (o size : Nat) (a : Bool) : Prop × AVal := match x with | .aggF n f => (o + size ≤ n, (AVal.aggF n f).part o size a) | _ => (False, .undef)
def nilF (x : AVal) : Prop × AVal := match x with | .ptr k sz i o => (True, .ptr k sz i o) | .iptr v o => (True, .iptr v o) | _ => (False, .undef)
/-- leaves that can be compared -/
def leafEq : AVal → AVal → Bool
  | .int _ a, .int _ b => decide (a = b)
  | .str a, .str b => decide (a = b)
  | .bool a, .bool b => a == b
  | _, _ => false
def aeq (n : Nat) (f g : Nat → AVal) : Bool := (List.range n).all fun j => leafEq (f j) (g j)

section
variable (P : Program)
def buildF (t : TypeId) (parts : List (Nat × AVal)) : AVal :=
  .aggF (szT P t) fun j => (parts.foldl (fun (a : AVal) (p : Nat × AVal) => if foffT P t p.1 ≤ j ∧ j < foffT P t p.1 + szT P (ftyT P t p.1) then p.2.part (j - foffT P t p.1) 1 false else a) ((zeroT P t).part j 1 false))
def partsOk (t : TypeId) : List (Nat × AVal) → Prop
  | [] => True
  | p :: l => (p.2.known = true ∧ p.2.cells = szT P (ftyT P t p.1)) ∧ partsOk t l
def elemsOk (sz : Nat) : List AVal → Prop
  | [] => True
  | v :: l => (v.known = true ∧ v.cells = sz) ∧ elemsOk sz l

def capsOk : List AVal → Prop
  | [] => True
  | v :: l => (v.leaf = true ∧ v.known = true) ∧ capsOk l
def leafE2 : Value → Value → Bool
  | .int _ a, .int _ b => decide (a = b)
  | .string a, .string b => decide (a = b)
  | .bool a, .bool b => a == b
  | _, _ => false
/-- kinds of cells that can be compared -/
inductive LK where | int (k : IntKind) | str | bool
  deriving DecidableEq
def leafK : LK → AVal → Prop
  | .int k, .int k' _ => k' = k
  | .str, .str _ => True
  | .bool, .bool _ => True
  | _, _ => False
def valK : LK → Value → Bool
  | .int k, .int k' _ => k' == k
  | .str, .string _ => true
  | .bool, .bool _ => true
  | _, _ => false
/-- '==' of two structs of type t, of n cells of these kinds: of all cells. -/
def EqOk (t : TypeId) (n : Nat) (ks : Nat → LK) : Prop := ∀ (xs ys : Array Value) (w : World), xs.size = n → ys.size = n → (∀ j, j < n → valK (ks j) (xs.getD j undef) = true ∧ valK (ks j) (ys.getD j undef) = true) →
  ((do eqGuard .eql t (.tmp 0) (.tmp 1) (.agg xs) (.agg ys); Op.equal t (.agg xs) (.agg ys)).run P w = .ok ((List.range n).all fun j => leafE2 (xs.getD j undef) (ys.getD j undef)) w)
/-- a slice held against nil -/
def nilQ (x : AVal) : Prop × AVal :=
  match x with
  | .nilsl => (True, .bool true)
  | .sl _ n _ => (True, if n = 0 then .anyb else .bool false)
  | .sref _ _ _ n => (True, if n = 0 then .anyb else .bool false)
  | _ => (False, .undef)
def notA : AVal → AVal
  | .bool b => .bool (!b)
  | v => v
/-- '==' of bools, structs, of a slice and nil; else 'binF'. -/
def binT (t : TypeId) (o : BinOp) (x y : AVal) : Prop × AVal :=
  match o, x, y with
  | .eql, .aggF n f, .aggF m g => (∃ ks, EqOk P t n ks ∧ n = m ∧ ∀ j < n, leafK (ks j) (f j) ∧ leafK (ks j) (g j), .bool (aeq n f g))
  | .neq, .aggF n f, .aggF m g => (∃ ks, EqOk P t n ks ∧ n = m ∧ ∀ j < n, leafK (ks j) (f j) ∧ leafK (ks j) (g j), .bool (!aeq n f g))
  | .eql, .bool a, .bool b => (P.underlying t = some .bool, .bool (a == b))
  | .neq, .bool a, .bool b => (P.underlying t = some .bool, .bool (!(a == b)))
  | .eql, x, .nilsl => (slT P t = true ∧ (nilQ x).1, (nilQ x).2)
  | .neq, x, .nilsl => (slT P t = true ∧ (nilQ x).1, notA (nilQ x).2)
  | o, x, y => binF o x y
def capF (x : AVal) : Prop × AVal := match x with | .nilsl => (True, .int .i64 0) | _ => (False, .undef)
/-- what a builtin comes to -/
def bF (b : Builtin) (e : Operand → AVal) (args : Array Operand) (argTypes : Array TypeId) : Prop × AVal :=
  match b with
  | .len => (match args.toList with | [x] => lenF (strT P (argTypes.getD 0 0)) (e x) | _ => (False, .undef))
  | .cap => (match args.toList with | [x] => capF (e x) | _ => (False, .undef))
  | .max => (match args.toList with | [x, y] => maxF (e x) (e y) | [x, y, z] => ((maxF (e x) (e y)).1 ∧ (maxF (maxF (e x) (e y)).2 (e z)).1, (maxF (maxF (e x) (e y)).2 (e z)).2) | _ => (False, .undef))
  | .min => (match args.toList with | [x, y] => minF (e x) (e y) | [x, y, z] => ((minF (e x) (e y)).1 ∧ (minF (minF (e x) (e y)).2 (e z)).1, (minF (minF (e x) (e y)).2 (e z)).2) | _ => (False, .undef))
  | _ => (False, .undef)
/-- Operations that only compute or read: what must hold, and the value. 'e': how operands read. -/
def pureF (op : Op) (e : Operand → AVal) (σ : Heap) : Prop × AVal :=
  match op with
  | .move x => (True, e x)
  | .assign x => (True, e x)
  | .pick c x y => pickF (e c) (e x) (e y)
  | .build t parts => (partsOk P t (parts.toList.map fun p => (p.1, e p.2)), buildF P t (parts.toList.map fun p => (p.1, e p.2)))
  | .load t x => loadF (szT P t) (aggT P t) σ (e x)
  | .nilCheck x => nilF (e x)
  | .binOp o t x y _ => binT P t o (e x) (e y)
  | .unOp .not _ x => notF (e x)
  | .unOp .neg _ x => negF (e x)
  | .fieldAddr s x f => fieldF (e x) (foffT P s f)
  | .field s x f => fieldVF (e x) (foffT P s f) (szT P (ftyT P s f)) (aggT P (ftyT P s f))
  | .indexAddr t x i => indexF (szT P (elT P t)) (e x) (e i)
  | .extract x i => extractF (e x) i
  | .convert _ dst x => convF (kindT P dst) (e x)
  | .index _ x i => indexSF (e x) (e i)
  | .slice t x lo hi none => sliceF (strT P t) (szT P (elT P t)) (e x) (lo.map e) (hi.map e)
  | .makeFunc (.func g) _ caps => (capsOk (caps.toList.map e), fn g (caps.toList.map e))
  | .call { callee := .builtin b, args, argTypes } => bF P b e args argTypes
  | _ => (False, .undef)
end

inductive Kind where | pure | eff | call
  deriving DecidableEq
def kindOf : Op → Kind
  | .alloc _ | .box .. | .buildSlice .. | .makeSlice .. | .store .. => .eff
  | .slice _ _ _ _ (some _) => .eff
  | .call { callee := .value _, .. } => .call
  | .call { callee := .builtin .append, .. } => .eff
  | .call { callee := .builtin .clear, .. } => .eff
  | _ => .pure

/-! What a value says of a cell, a row, the world. -/
/-- where rows lie: no row yet: 'none'; else the block, and how many elements it has room for -/
abbrev Where := Key → Option (Option (Nat × Nat))
def W0 : Where := fun _ => none
/-- 'v' lies in the sz cells c; blocks of I are no longer written. -/
def LR (I : Nat → Prop) (m : Where) (w : World) : AVal → Nat → (Nat → Option Value) → Prop
  | .undef, sz, c => ∀ j < sz, ∃ x, c j = some x ∧ x.oneCell' = true
  | .bool b, sz, c => sz = 1 ∧ c 0 = some (.bool b)
  | .anyb, sz, c => sz = 1 ∧ ∃ b, c 0 = some (.bool b)
  | .int k n, sz, c => sz = 1 ∧ c 0 = some (.int k n)
  | .str s, sz, c => sz = 1 ∧ c 0 = some (.string s)
  | .nilsl, sz, c => sz = 1 ∧ c 0 = some (.slice none 0 0)
  | .sl s n f, sz, c => sz = 1 ∧ ∃ a cap, c 0 = some (.slice a n cap) ∧ (n = 0 ∨ ∃ b off, a = some ⟨b, off, none⟩ ∧ I b ∧ n ≤ cap ∧ ∀ i < n, LR I W0 w (f i) s fun j => w.cell? ⟨b, off + i * s + j, none⟩)
  | .sref k e0 s n, sz, c => sz = 1 ∧ ∃ x a cap, m k = some x ∧ c 0 = some (.slice a n cap) ∧ n ≤ cap ∧ match x with
    | some (b, C) => e0 + cap ≤ C ∧ (cap = 0 ∨ a = some ⟨b, e0 * s, none⟩)
    | none => cap = 0
  | .ptr k s e o, sz, c => sz = 1 ∧ ∃ b C, m k = some (some (b, C)) ∧ c 0 = some (.pointer (some ⟨b, e * s + o, none⟩))
  | .iptr v o, sz, c => sz = 1 ∧ ∃ b off, c 0 = some (.pointer (some ⟨b, off + o, none⟩)) ∧ I b ∧ LR I W0 w v v.cells fun j => w.cell? ⟨b, off + j, none⟩
  | .aggF n f, sz, c => sz = n ∧ ∀ j < n, (f j).leaf = true ∧ LR I m w (f j) 1 fun _ => c j
  | .tupF _ _, _, _ => False
  | .fnF g n caps, sz, c => sz = 1 ∧ ∃ cs : Array Value, c 0 = some (.func (.func g) #[] cs) ∧ cs.size = n ∧ ∀ j < n, (caps j).leaf = true ∧ LR I m w (caps j) 1 fun _ => cs[j]?
  | .when _ _, _, _ => False
/-- 'v' is the value cv of a slot. -/
def VR (I : Nat → Prop) (m : Where) (w : World) : AVal → Value → Prop
  | .undef, _ => True
  | .when g v, cv => (g = true → VR I m w v cv) ∧ (g = false → cv = undef)
  | .tupF n f, cv => ∃ vs : Array Value, cv = .tuple vs ∧ vs.size = n ∧ ∀ j < n, ∃ x, vs[j]? = some x ∧ VR I m w (f j) x
  | .aggF n f, cv => ∃ cs : Array Value, cv = .agg cs ∧ cs.size = n ∧ LR I m w (.aggF n f) n fun j => cs[j]?
  | v, cv => LR I m w v 1 fun _ => some cv

/-- row r lies in block b, which has room for C -/
def RowOk (I : Nat → Prop) (m : Where) (w : World) (b C : Nat) (r : Row) : Prop :=
  ∃ cs ty, w.heap[b]? = some (.cells cs ty (0, 0)) ∧ r.l.length ≤ C ∧ C * r.sz ≤ cs.size ∧ ∀ e (h : e < r.l.length), LR I m w r.l[e] r.sz fun j => cs[e * r.sz + j]?
/-- the blocks of rows -/
def Blk (m : Where) (σ : Heap) (b : Nat) : Prop := ∃ k C, σ.get k ≠ none ∧ m k = some (some (b, C))
structure Inv (I : Nat → Prop) (m : Where) (σ : Heap) (w : World) : Prop where
  imm : ∀ b, I b → b < w.heap.size ∧ ¬ Blk m σ b
  row : ∀ k r, σ.get k = some r → ∃ x, m k = some x ∧ match x with | some (b, C) => RowOk I m w b C r | none => r.l = []
  inj : ∀ k k' b C C', σ.get k ≠ none → σ.get k' ≠ none → m k = some (some (b, C)) → m k' = some (some (b, C')) → k = k'
  nm : ∀ k, m k ≠ none → k.1 < σ.nx
structure Ext (I I' B B' : Nat → Prop) (w w' : World) : Prop where
  os : w'.os = w.os
  tape : w'.tape = w.tape
  output : w'.output = w.output
  size : w.heap.size ≤ w'.heap.size
  old : ∀ b, b < w.heap.size → ¬ B b → w'.heap[b]? = w.heap[b]?
  imm : ∀ b, I b → I' b
  imm' : ∀ b, I' b → I b ∨ w.heap.size ≤ b ∨ B b
  row : ∀ b, B' b → B b ∨ w.heap.size ≤ b
  drawn : w.drawn ≤ w'.drawn
/-- what was where is there still -/
def Where.le (m m' : Where) : Prop := ∀ k x, m k = some x → m' k = some x
/-- what was where is there still; more can be at p alone -/
def Where.to (μ : Where) (p : Nat) (μ' : Where) : Prop := μ.le μ' ∧ ∀ k : Key, k.1 ≠ p → μ' k = μ k
def ARel (I : Nat → Prop) (m : Where) (w : World) (args : List AVal) (cargs : Array Value) : Prop :=
  cargs.size = args.length ∧ ∀ j, j < args.length → ∃ x, cargs[j]? = some x ∧ VR I m w (lst args j) x

def fnOk (P : Program) (g : FuncId) : Bool := match P.funcs[g]? with | some fn => fn.body.isSome && fn.name != "runtime.NumGoroutine" | none => false
/-- Called with these values, over these rows, the function returns so. -/
def ACalls (P : Program) (f : FuncId) (args : List AVal) (σ : Heap) (R : AVal → Heap → Prop) : Prop :=
  fnOk P f = true ∧ ∀ I m w cargs, Inv I m σ w → ARel I m w args cargs → Calls P f cargs w fun e w' =>
    ∃ cv r σ' I' m', e = .returned cv ∧ R r σ' ∧ VR I' m' w' r cv ∧ Inv I' m' σ' w' ∧ Ext I I' (Blk m σ) (Blk m' σ') w w' ∧ m.le m'

section
variable (P : Program)
def CallTo (f : FuncId) (args : List AVal) (σ : Heap) (K : AVal → Heap → Prop) : Prop := ∃ R, ACalls P f args σ R ∧ ∀ r σ', R r σ' → K r σ'
def CallV (x : AVal) (args : List AVal) (σ : Heap) (K : AVal → Heap → Prop) : Prop :=
  match x with
  | .fnF g n caps => CallTo P g (args ++ (List.range n).map caps) σ K
  | _ => False
/-- A slice, read: what must hold, its elements. -/
def readS (sz : Nat) (σ : Heap) (y : AVal) : Prop × List AVal :=
  match y with
  | .sl s n f => (s = sz, (List.range n).map f)
  | .sref k e s n => match σ.get k with
    | some r => ((s = sz ∧ r.sz = sz) ∧ e + n ≤ r.l.length, (r.l.drop e).take n)
    | none => (False, [])
  | .nilsl => (True, [])
  | _ => (False, [])
/-- 'append(x, y...)': x is a row of the heap, from its start on. -/
def appF (t : TypeId) (x y : AVal) (σ : Heap) (p : Nat) : Prop × (AVal × Heap) :=
  match x with
  | .sref k e0 sz n => match σ.get k with
    | some r => (((readS sz σ y).1 ∧ e0 = 0 ∧ n ≤ r.l.length ∧ r.sz = sz ∧ sz = szT P (elT P t)) ∧ (n + (readS sz σ y).2.length) * (2 * byT P (elT P t)) < 281474976710656,
        .sref (p, 0) 0 sz (r.l.take n ++ (readS sz σ y).2).length, (σ.del k).put p ⟨sz, r.d, r.l.take n ++ (readS sz σ y).2⟩)
    | none => (False, .undef, σ)
  | .nilsl => ((readS (szT P (elT P t)) σ y).1 ∧ (readS (szT P (elT P t)) σ y).2.length * (2 * byT P (elT P t)) < 281474976710656,
        .sref (p, 0) 0 (szT P (elT P t)) (readS (szT P (elT P t)) σ y).2.length, σ.put p ⟨szT P (elT P t), zeroT P (elT P t), (readS (szT P (elT P t)) σ y).2⟩)
  | _ => (False, .undef, σ)
def clearF (t : TypeId) (x : AVal) (σ : Heap) : Prop × (AVal × Heap) :=
  match x with
  | .sref k e0 sz n => match σ.get k with
    | some r => ((e0 + n ≤ r.l.length ∧ r.sz = sz) ∧ sz = szT P (elT P t), tup [], σ.set k ⟨r.sz, r.d, r.l.take e0 ++ List.replicate n (zeroT P (elT P t)) ++ r.l.drop (e0 + n)⟩)
    | none => (False, .undef, σ)
  | .nilsl => (True, tup [], σ)
  | _ => (False, .undef, σ)
def mkF (t : TypeId) (n c : AVal) (σ : Heap) (p : Nat) : Prop × (AVal × Heap) :=
  match n, c with
  | .int .i64 n, .int .i64 c => ((0 ≤ n ∧ c = n) ∧ n * byT P (elT P t) < 281474976710656, .sref (p, 0) 0 (szT P (elT P t)) n.toNat, σ.put p ⟨szT P (elT P t), zeroT P (elT P t), List.replicate n.toNat (zeroT P (elT P t))⟩)
  | _, _ => (False, .undef, σ)
/-- a slice, cut to nothing: x[:0:0] -/
def cut0F (t : TypeId) (x : AVal) (h c : AVal) (σ : Heap) (p : Nat) : Prop × (AVal × Heap) :=
  match x, h, c with
  | .sl _ _ _, .int _ 0, .int _ 0 => (strT P t = false, .sref (p, 0) 0 (szT P (elT P t)) 0, σ.put p ⟨szT P (elT P t), zeroT P (elT P t), []⟩)
  | .sref _ _ _ _, .int _ 0, .int _ 0 => (strT P t = false, .sref (p, 0) 0 (szT P (elT P t)) 0, σ.put p ⟨szT P (elT P t), zeroT P (elT P t), []⟩)
  | .nilsl, .int _ 0, .int _ 0 => (strT P t = false, .nilsl, σ)
  | _, _, _ => (False, .undef, σ)
/-- Operations that make rows, or write. -/
def effF (op : Op) (e : Operand → AVal) (σ : Heap) (p : Nat) : Prop × (AVal × Heap) :=
  match op with
  | .alloc t => (σ.get (p, 0) = none, .ptr (p, 0) (szT P t) 0 0, σ.put p ⟨szT P t, zeroT P t, [zeroT P t]⟩)
  | .box t x => (σ.get (p, 0) = none ∧ (e x).cells = szT P t ∧ (e x).known = true, .ptr (p, 0) (szT P t) 0 0, σ.put p ⟨szT P t, e x, [e x]⟩)
  | .buildSlice t len parts => (σ.get (p, 0) = none ∧ len = parts.size ∧ elemsOk (szT P (elT P t)) (parts.toList.map fun q => e q.2), .sref (p, 0) 0 (szT P (elT P t)) len, σ.put p ⟨szT P (elT P t), zeroT P (elT P t), parts.toList.map fun q => e q.2⟩)
  | .makeSlice t n c => mkF P t (e n) (e c) σ p
  | .slice t x none (some h) (some c) => cut0F P t (e x) (e h) (e c) σ p
  | .store t x y => ((storeF (szT P t) σ (e x) (e y)).1, .undef, (storeF (szT P t) σ (e x) (e y)).2)
  | .call { callee := .builtin .append, args, argTypes } => appF P (argTypes.getD 0 0) (e (args.getD 0 default)) (e (args.getD 1 default)) σ p
  | .call { callee := .builtin .clear, args, argTypes } => clearF P (argTypes.getD 0 0) (e (args.getD 0 default)) σ
  | _ => (False, .undef, σ)
/-- A call's way on. -/
def Stop (op : Op) (e : Operand → AVal) (σ : Heap) (K : AVal → Heap → Prop) : Prop :=
  match op with
  | .call { callee := .value (.func g), args, .. } => CallTo P g (args.toList.map e) σ K
  | .call { callee := .value x, args, .. } => CallV P (e x) (args.toList.map e) σ K
  | _ => False
/-- more rows -/
def HLe (σ σ' : Heap) : Prop := ∀ k r, σ.get k = some r → σ'.get k = some r
/-- Called with these values, over these rows and others, the function leaves the rows as they are, and returns r. -/
def QCalls (f : FuncId) (args : List AVal) (σ : Heap) (r : AVal) : Prop :=
  fnOk P f = true ∧ ∀ σ1 I μ w cargs, HLe σ σ1 → Inv I μ σ1 w → ARel I μ w args cargs → Calls P f cargs w fun e w' =>
    ∃ cv I', e = .returned cv ∧ VR I' W0 w' r cv ∧ Inv I' μ σ1 w' ∧ Ext I I' (Blk μ σ1) (Blk μ σ1) w w'
def QStop (op : Op) (e : Operand → AVal) (σ : Heap) (r : AVal) : Prop :=
  match op with
  | .call { callee := .value (.func g), args, .. } => QCalls P g (args.toList.map e) σ r
  | .call { callee := .value x, args, .. } => match e x with
    | .fnF g n caps => QCalls P g (args.toList.map e ++ (List.range n).map caps) σ r
    | _ => False
  | _ => False
/-- A call that leaves the heap as it is, if g. -/
def Quiet (g : Bool) (op : Op) (e : Operand → AVal) (σ : Heap) (K : AVal → Prop) : Prop := ∃ r, (g = true → QStop P op e σ r) ∧ K r
/-- so many names an open region takes -/
def lim : Nat := 10000
end

def okAll (g : Bool) : List AVal → Prop
  | [] => True
  | v :: l => v.okw g ∧ okAll g l
def gdF (want : Bool) : AVal → Option Bool
  | .bool t => some (t == want)
  | .when g (.bool t) => some (g && (t == want))
  | _ => none
/-- A guarded operation that only computes or reads. -/
def gF (P : Program) (op : Op) (e : Operand → AVal) (σ : Heap) (g : Bool) : Prop × AVal :=
  match op with
  | .pick c x y => ((pickF (e c).strip (e x) (e y)).1 ∧ (e c).okw g, (pickF (e c).strip (e x) (e y)).2)
  | op => ((pureF P op (fun x => (e x).strip) σ).1 ∧ okAll g (op.operands.toList.map e), (pureF P op (fun x => (e x).strip) σ).2)
def putd (τ : Slots) (d : Option Nat) (v : AVal) : Slots := match d with | some d => (d, v) :: τ | none => τ
/-- The tmp of an operation of the region (for guards). -/
def dstAt : List Oper → Nat → Nat
  | [], _ => 0
  | o :: _, 0 => o.dst.getD 0
  | _ :: l, n + 1 => dstAt l n

section
variable (P : Program)
end

inductive AExit where | normal | ret | exit (n : Nat)
def AExit.then (K : Slots → Heap → Prop) (Q : AExit → Slots → Heap → Prop) : AExit → Slots → Heap → Prop
  | .normal => K
  | e => Q e
def AExit.blk (id : Nat) (Q : AExit → Slots → Heap → Prop) : AExit → Slots → Heap → Prop
  | .exit n => if n = id then Q .normal else Q (.exit n)
  | e => Q e
/-- two ways -/
def Ways (t : AVal) (X Y : Prop) : Prop := match t with | .bool t => (t = true → X) ∧ (t = false → Y) | .anyb => X ∧ Y | _ => False
/-- new names for old ones ('some none': of no row yet) -/
abbrev Ren := Key → Option (Option Key)
/-- 'v', in the new names, says no more than 'u' in the old ones, once the rows that have no new name are no longer written (if z). -/
inductive WkV (σ : Heap) (ρ : Ren) (z : Bool) : AVal → AVal → Prop
  | same (v : AVal) (h : v.nameless) : WkV σ ρ z v v
  | undef (v : AVal) : WkV σ ρ z .undef v
  | sref (k k0 : Key) (e0 sz n : Nat) (h : ρ k = some (some k0)) : WkV σ ρ z (.sref k e0 sz n) (.sref k0 e0 sz n)
  | ptr (k k0 : Key) (sz e o : Nat) (h : ρ k = some (some k0)) : WkV σ ρ z (.ptr k sz e o) (.ptr k0 sz e o)
  | nil_ref (k : Key) (sz : Nat) (h : ρ k = some none) : WkV σ ρ z (.sref k 0 sz 0) .nilsl
  | nil_sl (sz : Nat) (f : Nat → AVal) : WkV σ ρ z (.sl sz 0 f) .nilsl
  | ref_nil (sz e0 : Nat) (f : Nat → AVal) (k : Key) : WkV σ ρ z (.sl sz 0 f) (.sref k e0 sz 0)
  | ref_sl (k : Key) (e0 sz n : Nat) (f : Nat → AVal) (r : Row) (hz : z = true) (hb : ∀ k', ρ k' ≠ some (some k)) (hr : σ.get k = some r) (hs : r.sz = sz) (hn : e0 + n ≤ r.l.length) (hf : ∀ i, i < n → (f i).nameless) (h : ∀ i, i < n → WkV σ ρ z (f i) (r.l.getD (e0 + i) r.d)) : WkV σ ρ z (.sl sz n f) (.sref k e0 sz n)
  | sl_sl (sz n : Nat) (f g : Nat → AVal) (h : ∀ i, i < n → f i = g i) : WkV σ ρ z (.sl sz n f) (.sl sz n g)
  | agg (n : Nat) (f g : Nat → AVal) (hl : ∀ i, i < n → (f i).leaf = true) (h : ∀ i, i < n → WkV σ ρ z (f i) (g i)) : WkV σ ρ z (.aggF n f) (.aggF n g)
  | iptr (k : Key) (sz e o : Nat) (v : AVal) (r : Row) (hz : z = true) (hb : ∀ k', ρ k' ≠ some (some k)) (hr : σ.get k = some r) (hs : r.sz = sz) (he : e < r.l.length) (hc : v.cells = sz) (hv : v.nameless) (h : WkV σ ρ z v (r.l.getD e r.d)) : WkV σ ρ z (.iptr v o) (.ptr k sz e o)
  | tup (n : Nat) (f g : Nat → AVal) (h : ∀ i, i < n → WkV σ ρ z (f i) (g i)) : WkV σ ρ z (.tupF n f) (.tupF n g)
  | fn (g n : Nat) (f h : Nat → AVal) (hl : ∀ i, i < n → (f i).leaf = true) (hh : ∀ i, i < n → WkV σ ρ z (f i) (h i)) : WkV σ ρ z (.fnF g n f) (.fnF g n h)
def WkS (σ : Heap) (ρ : Ren) (z : Bool) (τ' τ : Slots) : Prop := ∀ i, WkV σ ρ z (τ'.get i) (τ.get i)
def WkR (σ : Heap) (ρ : Ren) (z : Bool) (k : Key) (r' : Row) : Prop := ρ k = some none ∧ r'.l = [] ∨ ∃ k0 r, ρ k = some (some k0) ∧ σ.get k0 = some r ∧ r'.l.length ≤ r.l.length ∧ r'.sz = r.sz ∧ ∀ i, i < r'.l.length → WkV σ ρ z (r'.l.getD i r'.d) (r.l.getD i r.d)
structure WkH (σ : Heap) (ρ : Ren) (z : Bool) (σ' : Heap) : Prop where
  nm : ∀ k, ρ k ≠ none → k.1 < σ'.nx
  inj : ∀ k k' k0, σ'.get k ≠ none → σ'.get k' ≠ none → ρ k = some (some k0) → ρ k' = some (some k0) → k = k'
  row : ∀ k r', σ'.get k = some r' → WkR σ ρ z k r'
/-- A value that says nothing of memory that is no longer written. -/
def AVal.free : AVal → Prop
  | .sl _ n _ => n = 0
  | .iptr _ _ => False
  | .aggF n f => ∀ j < n, (f j).free
  | .tupF n f => ∀ j < n, (f j).free
  | .fnF _ n f => ∀ j < n, (f j).free
  | .when _ v => v.free
  | _ => True
/-- Rows, named anew. -/
def AVal.ren (κ : Key → Key) : AVal → AVal
  | .sref k e0 sz n => .sref (κ k) e0 sz n
  | .ptr k sz e o => .ptr (κ k) sz e o
  | .aggF n f => .aggF n fun i => (f i).ren κ
  | .tupF n f => .tupF n fun i => (f i).ren κ
  | .fnF g n f => .fnF g n fun i => (f i).ren κ
  | .when g v => .when g (v.ren κ)
  | v => v
def Row.ren (κ : Key → Key) (r : Row) : Row := ⟨r.sz, r.d.ren κ, r.l.map (AVal.ren κ)⟩
def Ent.ren (κ : Key → Key) : Ent → Ent
  | .one r => .one (r.ren κ)
  | .fam f => .fam fun i => (f i).map (Row.ren κ)
/-- the caller's name of a callee's row: of the rows ks that it was handed; of new ones -/
def kapN (ks : List Nat) (c j : Nat) : Nat := if j < ks.length then ks.getD j 0 else c + (j - ks.length)
def kap (ks : List Nat) (c : Nat) (k : Key) : Key := (kapN ks c k.1, k.2)
def rho (ks : List Nat) : Ren := fun k => if k.1 < ks.length then some (some (ks.getD k.1 0, k.2)) else none
def delN (ks : List Nat) : Rows → Rows
  | [] => []
  | (j, e) :: τ => if j ∈ ks then delN ks τ else (j, e) :: delN ks τ
def mapN (ks : List Nat) (c : Nat) : Rows → Rows
  | [] => []
  | (j, e) :: τ => (kapN ks c j, e.ren (kap ks c)) :: mapN ks c τ
/-- Arguments, as they are handed on. -/
def Lend (σ : Heap) (ρ : Ren) (z : Bool) : List AVal → List AVal → Prop
  | [], [] => True
  | v :: vs, u :: us => WkV σ ρ z v u ∧ Lend σ ρ z vs us
  | _, _ => False
/-- the heap behind a call that was handed the rows ks; its new row is named p -/
def mergeP (σ : Heap) (ks : List Nat) (σr : Heap) (p : Nat) : Heap := ⟨σ.nx, mapN ks p σr.rows ++ delN ks σ.rows⟩
/-- the rows that a value names itself -/
def namesA : AVal → List Nat
  | .sref k _ _ _ => [k.1]
  | .ptr k _ _ _ => [k.1]
  | _ => []
def argNames : List AVal → List Nat
  | [] => []
  | v :: l => namesA v ++ argNames l
/-- values, rows that say nothing of memory -/
def freeR (r : AVal) (σr : Heap) : Prop := r.free ∧ ∀ k q, σr.get k = some q → ∀ v ∈ q.l, v.free
/-- A call, among others in any order, that is handed rows, or hands one back. -/
def RCalls (P : Program) (f : FuncId) (args : List AVal) (σ : Heap) (p : Nat) (K : AVal → Heap → Prop) : Prop :=
  ∃ (z : Bool) (ks : List Nat) (args' : List AVal) (σa σr : Heap) (r : AVal), ACalls P f args' σa (fun r' σ' => r' = r ∧ σ' = σr) ∧ Lend σ (rho ks) z args' args ∧ WkH σ (rho ks) z σa ∧ σa.nx = ks.length ∧ ks.Nodup ∧ (∀ j ∈ ks, j < σ.nx ∧ j ∈ argNames args) ∧
    (σr.nx ≤ ks.length + 1 ∧ (σr.rows.all fun x => decide (x.1 ≤ ks.length)) = true) ∧ (z = true → freeR r σr) ∧ K (r.ren (kap ks p)) (mergeP σ ks σr p)
/-- the order of a region: the text's; or any ('some': the calls that are handed rows, by what they yield) -/
abbrev Rg := Option (List Nat)
def rcl (rc : List Nat) (o : Oper) : Bool := o.guard.isNone && (match o.dst with | some d => rc.contains d | none => false)
section
variable (P : Program)
def RStop (op : Op) (e : Operand → AVal) (σ : Heap) (p : Nat) (K : AVal → Heap → Prop) : Prop :=
  match op with
  | .call { callee := .value (.func g), args, .. } => RCalls P g (args.toList.map e) σ p K
  | _ => False
/-- operations one behind the other; q: calls leave the heap as it is -/
def Run (q : Rg) (all : List Oper) (ops : List Oper) (τ : Slots) (σ : Heap) (c : Prop) (K : Slots → Heap → Prop) : Prop :=
  match ops with
  | [] => c ∧ K τ σ
  | o :: rest =>
    match o.guard with
    | none => match kindOf o.op with
      | .pure => let r := pureF P o.op (ev τ) σ; Run q all rest (putd τ o.dst r.2) σ (c ∧ r.1) K
      | .eff => match q with
        | some rc => let r := effF P o.op (ev τ) σ (σ.nx + o.dst.getD 0); Run q all rest (putd τ o.dst r.2.1) r.2.2 (c ∧ r.1) K
        | none => let r := effF P o.op (ev τ) σ σ.nx; Run q all rest (putd τ o.dst r.2.1) (r.2.2.bump 1) (c ∧ r.1) K
      | .call => match q with
        | some rc => match rcl rc o with
          | false => c ∧ Quiet P true o.op (ev τ) (σ.bump lim) fun v => Run q all rest (putd τ o.dst v) σ True K
          | true => c ∧ RStop P o.op (ev τ) σ (σ.nx + o.dst.getD 0) fun v σ' => Run q all rest (putd τ o.dst v) σ' True K
        | none => c ∧ Stop P o.op (ev τ) σ fun v σ' => Run q all rest (putd τ o.dst v) σ' True K
    | some (j, want) => match gdF want (τ.get (dstAt all j)) with
      | some g => match kindOf o.op with
        | .pure => Run q all rest (putd τ o.dst (.when g (gF P o.op (ev τ) σ g).2)) σ (c ∧ (g = true → (gF P o.op (ev τ) σ g).1)) K
        | .call => c ∧ Quiet P g o.op (fun x => (ev τ x).strip) (σ.bump lim) fun v => Run q all rest (putd τ o.dst (.when g v)) σ (g = true → okAll g (o.op.operands.toList.map (ev τ))) K
        | _ => False
      | none => False
/-- one operation -/
def Stp (q : Rg) (all : List Oper) (o : Oper) (τ : Slots) (σ : Heap) (K : Slots → Heap → Prop) : Prop :=
  match o.guard with
  | none => match kindOf o.op with
    | .pure => (pureF P o.op (ev τ) σ).1 ∧ K (putd τ o.dst (pureF P o.op (ev τ) σ).2) σ
    | .eff => match q with
      | some rc => (effF P o.op (ev τ) σ (σ.nx + o.dst.getD 0)).1 ∧ K (putd τ o.dst (effF P o.op (ev τ) σ (σ.nx + o.dst.getD 0)).2.1) (effF P o.op (ev τ) σ (σ.nx + o.dst.getD 0)).2.2
      | none => (effF P o.op (ev τ) σ σ.nx).1 ∧ K (putd τ o.dst (effF P o.op (ev τ) σ σ.nx).2.1) ((effF P o.op (ev τ) σ σ.nx).2.2.bump 1)
    | .call => match q with
      | some rc => match rcl rc o with
        | false => Quiet P true o.op (ev τ) (σ.bump lim) fun v => K (putd τ o.dst v) σ
        | true => RStop P o.op (ev τ) σ (σ.nx + o.dst.getD 0) fun v σ' => K (putd τ o.dst v) σ'
      | none => Stop P o.op (ev τ) σ fun v σ' => K (putd τ o.dst v) σ'
  | some (j, want) => match gdF want (τ.get (dstAt all j)) with
    | some g => match kindOf o.op with
      | .pure => (g = true → (gF P o.op (ev τ) σ g).1) ∧ K (putd τ o.dst (.when g (gF P o.op (ev τ) σ g).2)) σ
      | .call => Quiet P g o.op (fun x => (ev τ x).strip) (σ.bump lim) fun v => (g = true → okAll g (o.op.operands.toList.map (ev τ))) ∧ K (putd τ o.dst (.when g v)) σ
      | _ => False
    | none => False
def Stps (q : Rg) (all : List Oper) : List Oper → Slots → Heap → (Slots → Heap → Prop) → Prop
  | [], τ, σ, K => K τ σ
  | o :: l, τ, σ, K => Stp P q all o τ σ fun τ σ => Stps q all l τ σ K
end
/-- Less is said of slots and rows; names below c0 stay. -/
def Wk (c0 : Nat) (τ : Slots) (σ : Heap) (τ' : Slots) (σ' : Heap) : Prop := ∃ ρ : Ren, (∀ k : Key, k.1 < c0 → ρ k = some (some k)) ∧ WkS σ ρ true τ' τ ∧ WkH σ ρ true σ'
/-- How a function is walked: names below c0 stay; the order in which an open region is walked, if not the text's. -/
structure Cfg where
  c0 : Nat := 0
  ord : Nat → Option (List Nat) := fun _ => none
  /-- pairs of operations that may go in either order, as they touch different memory -/
  prs : Nat → List (Nat × Nat) := fun _ => []
/-- A loop: by a relation that every round keeps. -/
def Loop (cf : Cfg) (body : (AExit → Slots → Heap → Prop) → Slots → Heap → Prop) (Q : AExit → Slots → Heap → Prop) (τ : Slots) (σ : Heap) : Prop :=
  ∃ (J : Nat → Slots → Heap → Prop), (∃ n τ' σ', Wk cf.c0 τ σ τ' σ' ∧ J n τ' σ') ∧ ∀ n τ σ, J n τ σ → body (AExit.then (fun τ' σ' => ∃ m τ'' σ'', Wk cf.c0 τ' σ' τ'' σ'' ∧ J m τ'' σ'' ∧ m < n) Q) τ σ
/-- The ways out meet, with less said. -/
def Weak (c0 : Nat) (J : Slots → Heap → Prop) (τ : Slots) (σ : Heap) : Prop := ∃ τ' σ', Wk c0 τ σ τ' σ' ∧ J τ' σ'
def Cut (cf : Cfg) (A : (AExit → Slots → Heap → Prop) → Slots → Heap → Prop) (Q : AExit → Slots → Heap → Prop) (τ : Slots) (σ : Heap) : Prop :=
  A Q τ σ ∨ ∃ J : Slots → Heap → Prop, A (AExit.then (Weak cf.c0 J) Q) τ σ ∧ ∀ τ σ, J τ σ → Q .normal τ σ
/-! A region whose order is open. -/
def isLoad : Op → Bool
  | .load .. => true
  | _ => false
/-- the tmps that an operation looks at -/
def looks (all : List Oper) (o : Oper) : List Nat :=
  (o.op.operands.toList.filterMap fun | .tmp t => some t | _ => none) ++ (match o.guard with | some (j, _) => [dstAt all j] | none => [])
/-- 0: it only computes; 1: it reads; 2: it makes a row; 3: it writes; 4: it calls; 5: it calls, and is handed rows -/
def cls (rc : List Nat) (o : Oper) : Nat := match kindOf o.op with
  | .pure => if isLoad o.op then 1 else 0
  | .call => if rcl rc o then 5 else 4
  | .eff => match o.op with | .alloc _ | .box .. | .buildSlice .. => 2 | _ => 3
def apart (all : List Oper) (x y : Oper) : Bool :=
  (match x.dst with | some d => !(looks all y).contains d && y.dst != some d | none => true) && (match y.dst with | some d => !(looks all x).contains d | none => true)
/-- What comes to the same when i goes first. -/
def swapOk (rc : List Nat) (all : List Oper) (l i : Oper) : Bool := apart all l i && (match cls rc l, cls rc i with
  | 0, _ => true
  | 1, 0 => true
  | 1, 1 => true
  | 1, 4 => true
  | 4, 0 => true
  | 4, 1 => true
  | 4, 4 => true
  | 4, 2 => true
  | 1, 2 => l.guard.isNone
  | 2, 0 => true
  | 5, 0 => true
  | 2, 2 => l.guard.isNone && i.guard.isNone && l.dst.isSome && i.dst.isSome
  | _, _ => false)
/-- a store, or append -/
def isWr : Op → Bool
  | .store .. => true
  | .call { callee := .builtin .append, .. } => true
  | _ => false
/-- What may come to the same when i goes first: it hangs on what they touch. -/
def dynOk (rc : List Nat) (all : List Oper) (l i : Oper) : Bool := apart all l i && l.guard.isNone && i.guard.isNone && (match cls rc l, cls rc i with
  | 1, 5 => true
  | 5, 1 => true
  | 1, 3 => isWr i.op
  | 3, 1 => isWr l.op
  | 2, 3 => isWr i.op && l.dst.isSome
  | 3, 2 => isWr l.op && i.dst.isSome
  | _, _ => false)
/-- what an operation touches -/
inductive Fp where
  | rd (k : Key) (a : Bool) (e o n : Nat)
  | wr (k : Key) (e o n : Nat)
  | nw (p : Nat)
  | ap (del src : List Key) (p : Nat)
  | cl (ks : List Nat) (p : Nat)
  /-- what nobody writes any more -/
  | fz
  | bad
def keysOf : AVal → List Key
  | .sref k _ _ _ => [k]
  | _ => []
def fpOf (P : Program) (base : Nat) (τ : Slots) (o : Oper) : Fp :=
  match o.op with
  | .load t x => (match ev τ x with | .ptr k _ e f => .rd k (aggT P t) e f (szT P t) | _ => .fz)
  | .store t x _ => (match ev τ x with | .ptr k _ e f => .wr k e f (szT P t) | _ => .bad)
  | .alloc _ | .box .. | .buildSlice .. => .nw (base + o.dst.getD 0)
  | .call { callee := .builtin .append, args, .. } => .ap (keysOf (ev τ (args.getD 0 default))) (keysOf (ev τ (args.getD 1 default))) (base + o.dst.getD 0)
  | .call { callee := .value _, args, .. } => .cl (argNames (args.toList.map (ev τ))) (base + o.dst.getD 0)
  | _ => .bad
def offN (n : Nat) : List Nat → Prop
  | [] => True
  | k :: l => n ≠ k ∧ offN n l
def offK (p : Nat) : List Key → Prop
  | [] => True
  | k :: l => k.1 ≠ p ∧ offK p l
def notK (k : Key) : List Key → Prop
  | [] => True
  | q :: l => k ≠ q ∧ notK k l
/-- They touch different memory. -/
def compat : Fp → Fp → Prop
  | .fz, _ => True
  | _, .fz => True
  | .rd k a e o n, .wr k' e' o' n' => k ≠ k' ∨ (a = false ∧ n = 1) ∧ (e ≠ e' ∨ o + n ≤ o' ∨ o' + n' ≤ o)
  | .wr k' e' o' n', .rd k a e o n => k ≠ k' ∨ (a = false ∧ n = 1) ∧ (e ≠ e' ∨ o + n ≤ o' ∨ o' + n' ≤ o)
  | .rd k _ _ _ _, .ap del _ p => notK k del ∧ k.1 ≠ p
  | .ap del _ p, .rd k _ _ _ _ => notK k del ∧ k.1 ≠ p
  | .rd k _ _ _ _, .cl ks p => offN k.1 ks ∧ k.1 ≠ p
  | .cl ks p, .rd k _ _ _ _ => offN k.1 ks ∧ k.1 ≠ p
  | .nw p, .wr k _ _ _ => k.1 ≠ p
  | .wr k _ _ _, .nw p => k.1 ≠ p
  | .nw p, .ap del src q => p ≠ q ∧ offK p del ∧ offK p src
  | .ap del src q, .nw p => p ≠ q ∧ offK p del ∧ offK p src
  | _, _ => False
def prsOk (P : Program) (base : Nat) (τ : Slots) (ops : List Oper) : List (Nat × Nat) → Prop
  | [] => True
  | (l, i) :: rest => (l = i ∨ compat (fpOf P base τ (ops.getD l default)) (fpOf P base τ (ops.getD i default))) ∧ prsOk P base τ ops rest
/-- the calls that are handed rows, by what they yield: each stands as a pair of that -/
def rcOf (ops : List Oper) : List (Nat × Nat) → List Nat
  | [] => []
  | (l, i) :: rest => if l = i then l :: rcOf ops rest else rcOf ops rest
/-- what goes ahead of an operation, as bits -/
def ancOf (acc : List Nat) (o : Oper) : Nat := o.after.toList.foldl (fun m e => if Region.binds .any e = true then (m ||| (1 <<< e.on)) ||| acc.getD e.on 0 else m) 0
def ancsGo : List Oper → List Nat → List Nat
  | [], acc => acc
  | o :: l, acc => ancsGo l (acc ++ [ancOf acc o])
def pairOk (A : List Nat) (prs : List (Nat × Nat)) (ops : List Oper) (l i : Nat) : Bool := l != i && ((A.getD i 0).testBit l || swapOk (rcOf ops prs) ops (ops.getD l default) (ops.getD i default) || (prs.contains (l, i) && dynOk (rcOf ops prs) ops (ops.getD l default) (ops.getD i default)))
def pairsOk (A : List Nat) (prs : List (Nat × Nat)) (ops : List Oper) : List Nat → Bool
  | [] => true
  | l :: rest => rest.all (pairOk A prs ops l) && pairsOk A prs ops rest
/-- what the operations of a pair look at is laid once at most, and ahead of them -/
def prsLook (A : List Nat) (ops : List Oper) (l : Nat) : Bool := (looks ops (ops.getD l default)).all fun t => (List.range ops.length).all fun j => (ops.getD j default).dst != some t || (A.getD l 0).testBit j
def isStore : Op → Bool
  | .store .. => true
  | _ => false
/-- it may need a new name -/
def namer (rc : List Nat) (o : Oper) : Bool := (cls rc o == 2 || cls rc o == 3 || cls rc o == 5) && !isStore o.op
/-- the operations ahead of the tail: those that the order lists -/
def drawOk (ops : List Oper) (ord : List Nat) (prs : List (Nat × Nat)) : Bool :=
  decide (ord.length ≤ ops.length) && ord.all (fun i => decide (i < ord.length)) && (List.range ops.length).all (fun i => (ord.contains i || decide (ord.length ≤ i)) && (ops.getD i default).after.all fun e => !Region.binds .any e || decide (e.on < i)) && pairsOk (ancsGo ops []) prs ops ord &&
  prs.all (fun p => p.1 == p.2 || prsLook (ancsGo ops []) ops p.1 && prsLook (ancsGo ops []) ops p.2) &&
  ((List.range ops.length).all fun i => !namer (rcOf ops prs) (ops.getD i default) || match (ops.getD i default).dst with | some d => decide (d < lim) && (List.range ops.length).all fun j => decide (i = j) || !namer (rcOf ops prs) (ops.getD j default) || (ops.getD j default).dst != some d | none => false) &&
  ((List.range ops.length).all fun i => decide (i < ord.length) || (List.range i).all fun j => ((ancsGo ops []).getD i 0).testBit j)

def ordOps (o : Option (List Nat)) (ops : List Oper) : List Oper := match o with | none => ops | some l => l.map fun i => ops.getD i default
/-- what is behind so many -/
def dropL : List Nat → List Oper → List Oper
  | [], ops => ops
  | _ :: l, _ :: ops => dropL l ops
  | _ :: _, [] => []
/-- the tail of an open region: it comes behind all else, in the text's order -/
def tailOps (o : Option (List Nat)) (ops : List Oper) : List Oper := match o with | none => [] | some l => dropL l ops
def awp (P : Program) (cf : Cfg) (c : Code) (Q : AExit → Slots → Heap → Prop) (τ : Slots) (σ : Heap) : Prop :=
  match c with
  | .skip => Q .normal τ σ
  | .region id ops d => match d with
    | false => Run P none ops.toList (ordOps (cf.ord id) ops.toList) τ σ True (Q .normal)
    | true => Run P (some (rcOf ops.toList (cf.prs id))) ops.toList (ordOps (cf.ord id) ops.toList) τ σ True fun τ σ => prsOk P σ.nx τ ops.toList (cf.prs id) ∧ Run P none ops.toList (tailOps (cf.ord id) ops.toList) τ (σ.bump lim) True (Q .normal)
  | .seq a b => awp P cf a (AExit.then (awp P cf b Q) Q) τ σ
  | .cond c x y => Cut cf (fun Q τ σ => Ways (ev τ c) (awp P cf x Q τ σ) (awp P cf y Q τ σ)) Q τ σ
  | .block id c => Cut cf (fun Q => awp P cf c (AExit.blk id Q)) Q τ σ
  | .loop c => Loop cf (awp P cf c) Q τ σ
  | .exit n => Q (.exit n) τ σ
  | .ret => Q .ret τ σ
  | _ => False
end Go.Nw
