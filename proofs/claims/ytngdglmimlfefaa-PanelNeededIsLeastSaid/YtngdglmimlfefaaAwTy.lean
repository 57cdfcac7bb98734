/- What Lean must know of the program's types. Printed by mkty.py (ours). -/
import Derived.Test.YtngdglmimlfefaaAwEq
import Derived.Test.YtngdglmimlfefaaProg
import Derived.KernelRfl
namespace Go.Aw
open Go.Proofs
set_option linter.unusedVariables false
set_option linter.unusedSimpArgs false
/-- A slice of what is encoded. -/
def encL {α : Type} [Inhabited α] (sz : Nat) (enc : α → AVal) (l : List α) : AVal := .sl sz l.length fun i => enc (l.getD i default)
section
variable {α : Type} [Inhabited α] (sz : Nat) (enc : α → AVal) (l : List α)
@[go_sem] theorem len_L : lenF false (encL sz enc l) = (True, .int .i64 l.length) := by simp [encL, lenF]
@[go_sem] theorem index_L (s' : Nat) (k : IntKind) (j : Int) : indexF s' (encL sz enc l) (.int k j) = ((0 ≤ j ∧ j < l.length) ∧ sz = s', .iptr (enc (l.getD j.toNat default)) 0) := rfl
@[go_sem] theorem slice_L (b : Bool) (s' : Nat) (lo hi : Option AVal) : sliceF b s' (encL sz enc l) lo hi = ((b = false ∧ sz = s') ∧ (boundF l.length l.length hi).1 ∧ (boundF (boundF l.length l.length hi).2 0 lo).1, .sl sz ((boundF l.length l.length hi).2 - (boundF (boundF l.length l.length hi).2 0 lo).2) fun i => enc (l.getD ((boundF (boundF l.length l.length hi).2 0 lo).2 + i) default)) := rfl
@[go_sem] theorem cells_L : (encL sz enc l).cells = 1 := rfl
@[go_sem] theorem known_L : (encL sz enc l).known = true := rfl
@[go_sem] theorem leaf_L : (encL sz enc l).leaf = true := rfl
@[go_sem] theorem strip_L : (encL sz enc l).strip = encL sz enc l := rfl
@[go_sem] theorem okw_L (g : Bool) : (encL sz enc l).okw g = True := rfl
@[go_sem] theorem part_L (o n : Nat) (a : Bool) : (encL sz enc l).part o n a = encL sz enc l := rfl
@[go_sem] theorem pok_L (o n : Nat) (a : Bool) : partOk (encL sz enc l) o n a = (o = 0 ∧ a = false) := rfl
@[go_sem] theorem readS_L (s' : Nat) (σ : Heap) : readS s' σ (encL sz enc l) = (sz = s', l.length, fun i => enc (l.getD i default)) := rfl
end
@[go_sem] theorem strip_iptr' (v : AVal) (o : Nat) : (AVal.iptr v o).strip = .iptr v o := rfl
@[go_sem] theorem sz_int : szT Try.prog 3 = 1 := by kernel_rfl
@[go_sem] theorem ag_int : aggT Try.prog 3 = false := by kernel_rfl
@[go_sem] theorem st_int : strT Try.prog 3 = false := by kernel_rfl
@[go_sem] theorem sz_string : szT Try.prog 9 = 1 := by kernel_rfl
@[go_sem] theorem ag_string : aggT Try.prog 9 = false := by kernel_rfl
@[go_sem] theorem st_string : strT Try.prog 9 = true := by kernel_rfl
@[go_sem] theorem sz_bool : szT Try.prog 4 = 1 := by kernel_rfl
@[go_sem] theorem ag_bool : aggT Try.prog 4 = false := by kernel_rfl
@[go_sem] theorem st_bool : strT Try.prog 4 = false := by kernel_rfl
@[go_sem] theorem sz_uint8 : szT Try.prog 5 = 1 := by kernel_rfl
@[go_sem] theorem ag_uint8 : aggT Try.prog 5 = false := by kernel_rfl
@[go_sem] theorem st_uint8 : strT Try.prog 5 = false := by kernel_rfl
@[go_sem] theorem sz_api_Fault : szT Try.prog 27 = 1 := by kernel_rfl
@[go_sem] theorem ag_api_Fault : aggT Try.prog 27 = false := by kernel_rfl
@[go_sem] theorem st_api_Fault : strT Try.prog 27 = false := by kernel_rfl
@[go_sem] theorem ze_int : zeroT Try.prog 3 = .int .i64 0 := by kernel_rfl
@[go_sem] theorem sz_LKd : szT Try.prog 22 = 1 := by kernel_rfl
@[go_sem] theorem ag_LKd : aggT Try.prog 22 = false := by kernel_rfl
@[go_sem] theorem st_LKd : strT Try.prog 22 = false := by kernel_rfl
@[go_sem] theorem el_LKd : elT Try.prog 22 = 92 := by kernel_rfl
@[go_sem] theorem sz_LSl : szT Try.prog 23 = 1 := by kernel_rfl
@[go_sem] theorem ag_LSl : aggT Try.prog 23 = false := by kernel_rfl
@[go_sem] theorem st_LSl : strT Try.prog 23 = false := by kernel_rfl
@[go_sem] theorem el_LSl : elT Try.prog 23 = 34 := by kernel_rfl
@[go_sem] theorem sz_LPt : szT Try.prog 24 = 1 := by kernel_rfl
@[go_sem] theorem ag_LPt : aggT Try.prog 24 = false := by kernel_rfl
@[go_sem] theorem st_LPt : strT Try.prog 24 = false := by kernel_rfl
@[go_sem] theorem el_LPt : elT Try.prog 24 = 32 := by kernel_rfl
@[go_sem] theorem sz_LRc : szT Try.prog 38 = 1 := by kernel_rfl
@[go_sem] theorem ag_LRc : aggT Try.prog 38 = false := by kernel_rfl
@[go_sem] theorem st_LRc : strT Try.prog 38 = false := by kernel_rfl
@[go_sem] theorem el_LRc : elT Try.prog 38 = 42 := by kernel_rfl
@[go_sem] theorem sz_LTn : szT Try.prog 101 = 1 := by kernel_rfl
@[go_sem] theorem ag_LTn : aggT Try.prog 101 = false := by kernel_rfl
@[go_sem] theorem st_LTn : strT Try.prog 101 = false := by kernel_rfl
@[go_sem] theorem el_LTn : elT Try.prog 101 = 46 := by kernel_rfl
@[go_sem] theorem sz_LCt : szT Try.prog 71 = 1 := by kernel_rfl
@[go_sem] theorem ag_LCt : aggT Try.prog 71 = false := by kernel_rfl
@[go_sem] theorem st_LCt : strT Try.prog 71 = false := by kernel_rfl
@[go_sem] theorem el_LCt : elT Try.prog 71 = 77 := by kernel_rfl
@[ext] structure Pt where
  x : Int := 0
  y : Int := 0
  deriving Inhabited, DecidableEq
def encPt (a : Pt) : AVal := agg [(.int .i64 a.x), (.int .i64 a.y)]
@[go_sem] theorem cells_Pt (a : Pt) : (encPt a).cells = 2 := rfl
@[go_sem] theorem known_Pt (a : Pt) : (encPt a).known = true := rfl
@[go_sem] theorem strip_Pt (a : Pt) : (encPt a).strip = encPt a := rfl
@[go_sem] theorem okw_Pt (a : Pt) (g : Bool) : (encPt a).okw g = True := rfl
@[go_sem] theorem pok_Pt (a : Pt) (o s : Nat) (b : Bool) : partOk (encPt a) o s b = (o + s ≤ 2) := rfl
@[go_sem] theorem part_Pt_0 (a : Pt) : (encPt a).part 0 1 false = (.int .i64 a.x) := rfl
@[go_sem] theorem part_Pt_1 (a : Pt) : (encPt a).part 1 1 false = (.int .i64 a.y) := rfl
@[go_sem] theorem all_Pt (a : Pt) : (encPt a).part 0 2 true = encPt a := by simp only [encPt, agg, AVal.part, Nat.zero_add, List.length]; rfl
@[go_sem] theorem sz_Pt : szT Try.prog 32 = 2 := by kernel_rfl
@[go_sem] theorem ag_Pt : aggT Try.prog 32 = true := by kernel_rfl
theorem by_Pt : byT Try.prog 32 = 16 := by kernel_rfl
@[go_sem] theorem ze_Pt : zeroT Try.prog 32 = agg [.int .i64 0, .int .i64 0] := (show zeroT Try.prog 32 = ofConst (.agg #[.int .i64 0, .int .i64 0]) by kernel_rfl).trans (ofConst_agg _)
@[go_sem] theorem putOk_Pt (a : Pt) (o : Nat) (x : AVal) : putOk (encPt a) o x = (o + x.cells ≤ 2) := rfl
@[go_sem] theorem putP_Pt (a b : Pt) : putPart (encPt a) 0 (encPt b) = encPt b := rfl
@[go_sem] theorem putPz_Pt (l : List AVal) (b : Pt) : putPart (agg l) 0 (encPt b) = if l.length = 2 then encPt b else putPart (.aggF l.length (lst l)) 0 (.aggF 2 (lst [(.int .i64 b.x), (.int .i64 b.y)])) := by
  by_cases h : l.length = 2
  · rw [if_pos h]; simp only [agg, encPt, putPart, h]; rfl
  · rw [if_neg h]; rfl
@[go_sem] theorem putL_Pt (a : Pt) (o : Nat) (x : AVal) (hx : x.leaf = true) : putPart (encPt a) o x = .aggF 2 fun j => if j = o then x else lst [(.int .i64 a.x), (.int .i64 a.y)] j := by cases x <;> first | rfl | cases hx
@[go_sem] theorem fo_Pt_x : foffT Try.prog 32 0 = 0 := by kernel_rfl
@[go_sem] theorem ft_Pt_x : ftyT Try.prog 32 0 = 3 := by kernel_rfl
@[go_sem] theorem fo_Pt_y : foffT Try.prog 32 1 = 1 := by kernel_rfl
@[go_sem] theorem ft_Pt_y : ftyT Try.prog 32 1 = 3 := by kernel_rfl
@[ext] structure Rc where
  x0 : Int := 0
  y0 : Int := 0
  x1 : Int := 0
  y1 : Int := 0
  deriving Inhabited, DecidableEq
def encRc (a : Rc) : AVal := agg [(.int .i64 a.x0), (.int .i64 a.y0), (.int .i64 a.x1), (.int .i64 a.y1)]
@[go_sem] theorem cells_Rc (a : Rc) : (encRc a).cells = 4 := rfl
@[go_sem] theorem known_Rc (a : Rc) : (encRc a).known = true := rfl
@[go_sem] theorem strip_Rc (a : Rc) : (encRc a).strip = encRc a := rfl
@[go_sem] theorem okw_Rc (a : Rc) (g : Bool) : (encRc a).okw g = True := rfl
@[go_sem] theorem pok_Rc (a : Rc) (o s : Nat) (b : Bool) : partOk (encRc a) o s b = (o + s ≤ 4) := rfl
@[go_sem] theorem part_Rc_0 (a : Rc) : (encRc a).part 0 1 false = (.int .i64 a.x0) := rfl
@[go_sem] theorem part_Rc_1 (a : Rc) : (encRc a).part 1 1 false = (.int .i64 a.y0) := rfl
@[go_sem] theorem part_Rc_2 (a : Rc) : (encRc a).part 2 1 false = (.int .i64 a.x1) := rfl
@[go_sem] theorem part_Rc_3 (a : Rc) : (encRc a).part 3 1 false = (.int .i64 a.y1) := rfl
@[go_sem] theorem all_Rc (a : Rc) : (encRc a).part 0 4 true = encRc a := by simp only [encRc, agg, AVal.part, Nat.zero_add, List.length]; rfl
@[go_sem] theorem sz_Rc : szT Try.prog 42 = 4 := by kernel_rfl
@[go_sem] theorem ag_Rc : aggT Try.prog 42 = true := by kernel_rfl
theorem by_Rc : byT Try.prog 42 = 32 := by kernel_rfl
@[go_sem] theorem ze_Rc : zeroT Try.prog 42 = agg [.int .i64 0, .int .i64 0, .int .i64 0, .int .i64 0] := (show zeroT Try.prog 42 = ofConst (.agg #[.int .i64 0, .int .i64 0, .int .i64 0, .int .i64 0]) by kernel_rfl).trans (ofConst_agg _)
@[go_sem] theorem putOk_Rc (a : Rc) (o : Nat) (x : AVal) : putOk (encRc a) o x = (o + x.cells ≤ 4) := rfl
@[go_sem] theorem putP_Rc (a b : Rc) : putPart (encRc a) 0 (encRc b) = encRc b := rfl
@[go_sem] theorem putPz_Rc (l : List AVal) (b : Rc) : putPart (agg l) 0 (encRc b) = if l.length = 4 then encRc b else putPart (.aggF l.length (lst l)) 0 (.aggF 4 (lst [(.int .i64 b.x0), (.int .i64 b.y0), (.int .i64 b.x1), (.int .i64 b.y1)])) := by
  by_cases h : l.length = 4
  · rw [if_pos h]; simp only [agg, encRc, putPart, h]; rfl
  · rw [if_neg h]; rfl
@[go_sem] theorem putL_Rc (a : Rc) (o : Nat) (x : AVal) (hx : x.leaf = true) : putPart (encRc a) o x = .aggF 4 fun j => if j = o then x else lst [(.int .i64 a.x0), (.int .i64 a.y0), (.int .i64 a.x1), (.int .i64 a.y1)] j := by cases x <;> first | rfl | cases hx
@[go_sem] theorem fo_Rc_x0 : foffT Try.prog 42 0 = 0 := by kernel_rfl
@[go_sem] theorem ft_Rc_x0 : ftyT Try.prog 42 0 = 3 := by kernel_rfl
@[go_sem] theorem fo_Rc_y0 : foffT Try.prog 42 1 = 1 := by kernel_rfl
@[go_sem] theorem ft_Rc_y0 : ftyT Try.prog 42 1 = 3 := by kernel_rfl
@[go_sem] theorem fo_Rc_x1 : foffT Try.prog 42 2 = 2 := by kernel_rfl
@[go_sem] theorem ft_Rc_x1 : ftyT Try.prog 42 2 = 3 := by kernel_rfl
@[go_sem] theorem fo_Rc_y1 : foffT Try.prog 42 3 = 3 := by kernel_rfl
@[go_sem] theorem ft_Rc_y1 : ftyT Try.prog 42 3 = 3 := by kernel_rfl
@[ext] structure Kd where
  name : ByteArray := ByteArray.empty
  w : Int := 0
  h : Int := 0
  deriving Inhabited, DecidableEq
def encKd (a : Kd) : AVal := agg [(.str a.name), (.int .i64 a.w), (.int .i64 a.h)]
@[go_sem] theorem cells_Kd (a : Kd) : (encKd a).cells = 3 := rfl
@[go_sem] theorem known_Kd (a : Kd) : (encKd a).known = true := rfl
@[go_sem] theorem strip_Kd (a : Kd) : (encKd a).strip = encKd a := rfl
@[go_sem] theorem okw_Kd (a : Kd) (g : Bool) : (encKd a).okw g = True := rfl
@[go_sem] theorem pok_Kd (a : Kd) (o s : Nat) (b : Bool) : partOk (encKd a) o s b = (o + s ≤ 3) := rfl
@[go_sem] theorem part_Kd_0 (a : Kd) : (encKd a).part 0 1 false = (.str a.name) := rfl
@[go_sem] theorem part_Kd_1 (a : Kd) : (encKd a).part 1 1 false = (.int .i64 a.w) := rfl
@[go_sem] theorem part_Kd_2 (a : Kd) : (encKd a).part 2 1 false = (.int .i64 a.h) := rfl
@[go_sem] theorem all_Kd (a : Kd) : (encKd a).part 0 3 true = encKd a := by simp only [encKd, agg, AVal.part, Nat.zero_add, List.length]; rfl
@[go_sem] theorem sz_Kd : szT Try.prog 92 = 3 := by kernel_rfl
@[go_sem] theorem ag_Kd : aggT Try.prog 92 = true := by kernel_rfl
theorem by_Kd : byT Try.prog 92 = 32 := by kernel_rfl
@[go_sem] theorem ze_Kd : zeroT Try.prog 92 = agg [.str ByteArray.empty, .int .i64 0, .int .i64 0] := (show zeroT Try.prog 92 = ofConst (.agg #[.string ByteArray.empty, .int .i64 0, .int .i64 0]) by kernel_rfl).trans (ofConst_agg _)
@[go_sem] theorem putOk_Kd (a : Kd) (o : Nat) (x : AVal) : putOk (encKd a) o x = (o + x.cells ≤ 3) := rfl
@[go_sem] theorem putP_Kd (a b : Kd) : putPart (encKd a) 0 (encKd b) = encKd b := rfl
@[go_sem] theorem putPz_Kd (l : List AVal) (b : Kd) : putPart (agg l) 0 (encKd b) = if l.length = 3 then encKd b else putPart (.aggF l.length (lst l)) 0 (.aggF 3 (lst [(.str b.name), (.int .i64 b.w), (.int .i64 b.h)])) := by
  by_cases h : l.length = 3
  · rw [if_pos h]; simp only [agg, encKd, putPart, h]; rfl
  · rw [if_neg h]; rfl
@[go_sem] theorem putL_Kd (a : Kd) (o : Nat) (x : AVal) (hx : x.leaf = true) : putPart (encKd a) o x = .aggF 3 fun j => if j = o then x else lst [(.str a.name), (.int .i64 a.w), (.int .i64 a.h)] j := by cases x <;> first | rfl | cases hx
@[go_sem] theorem fo_Kd_name : foffT Try.prog 92 0 = 0 := by kernel_rfl
@[go_sem] theorem ft_Kd_name : ftyT Try.prog 92 0 = 9 := by kernel_rfl
@[go_sem] theorem fo_Kd_w : foffT Try.prog 92 1 = 1 := by kernel_rfl
@[go_sem] theorem ft_Kd_w : ftyT Try.prog 92 1 = 3 := by kernel_rfl
@[go_sem] theorem fo_Kd_h : foffT Try.prog 92 2 = 2 := by kernel_rfl
@[go_sem] theorem ft_Kd_h : ftyT Try.prog 92 2 = 3 := by kernel_rfl
@[ext] structure Sl where
  board : ByteArray := ByteArray.empty
  q : Int := 0
  at_ : Pt := default
  deriving Inhabited, DecidableEq
def encSl (a : Sl) : AVal := agg [(.str a.board), (.int .i64 a.q), (.int .i64 a.at_.x), (.int .i64 a.at_.y)]
@[go_sem] theorem cells_Sl (a : Sl) : (encSl a).cells = 4 := rfl
@[go_sem] theorem known_Sl (a : Sl) : (encSl a).known = true := rfl
@[go_sem] theorem strip_Sl (a : Sl) : (encSl a).strip = encSl a := rfl
@[go_sem] theorem okw_Sl (a : Sl) (g : Bool) : (encSl a).okw g = True := rfl
@[go_sem] theorem pok_Sl (a : Sl) (o s : Nat) (b : Bool) : partOk (encSl a) o s b = (o + s ≤ 4) := rfl
@[go_sem] theorem part_Sl_0 (a : Sl) : (encSl a).part 0 1 false = (.str a.board) := rfl
@[go_sem] theorem part_Sl_1 (a : Sl) : (encSl a).part 1 1 false = (.int .i64 a.q) := rfl
@[go_sem] theorem part_Sl_2 (a : Sl) : (encSl a).part 2 1 false = (.int .i64 a.at_.x) := rfl
@[go_sem] theorem part_Sl_3 (a : Sl) : (encSl a).part 3 1 false = (.int .i64 a.at_.y) := rfl
@[go_sem] theorem all_Sl (a : Sl) : (encSl a).part 0 4 true = encSl a := by simp only [encSl, agg, AVal.part, Nat.zero_add, List.length]; rfl
@[go_sem] theorem sz_Sl : szT Try.prog 34 = 4 := by kernel_rfl
@[go_sem] theorem ag_Sl : aggT Try.prog 34 = true := by kernel_rfl
theorem by_Sl : byT Try.prog 34 = 40 := by kernel_rfl
@[go_sem] theorem ze_Sl : zeroT Try.prog 34 = agg [.str ByteArray.empty, .int .i64 0, .int .i64 0, .int .i64 0] := (show zeroT Try.prog 34 = ofConst (.agg #[.string ByteArray.empty, .int .i64 0, .int .i64 0, .int .i64 0]) by kernel_rfl).trans (ofConst_agg _)
@[go_sem] theorem putOk_Sl (a : Sl) (o : Nat) (x : AVal) : putOk (encSl a) o x = (o + x.cells ≤ 4) := rfl
@[go_sem] theorem putP_Sl (a b : Sl) : putPart (encSl a) 0 (encSl b) = encSl b := rfl
@[go_sem] theorem putPz_Sl (l : List AVal) (b : Sl) : putPart (agg l) 0 (encSl b) = if l.length = 4 then encSl b else putPart (.aggF l.length (lst l)) 0 (.aggF 4 (lst [(.str b.board), (.int .i64 b.q), (.int .i64 b.at_.x), (.int .i64 b.at_.y)])) := by
  by_cases h : l.length = 4
  · rw [if_pos h]; simp only [agg, encSl, putPart, h]; rfl
  · rw [if_neg h]; rfl
@[go_sem] theorem putL_Sl (a : Sl) (o : Nat) (x : AVal) (hx : x.leaf = true) : putPart (encSl a) o x = .aggF 4 fun j => if j = o then x else lst [(.str a.board), (.int .i64 a.q), (.int .i64 a.at_.x), (.int .i64 a.at_.y)] j := by cases x <;> first | rfl | cases hx
@[go_sem] theorem fo_Sl_board : foffT Try.prog 34 0 = 0 := by kernel_rfl
@[go_sem] theorem ft_Sl_board : ftyT Try.prog 34 0 = 9 := by kernel_rfl
@[go_sem] theorem fo_Sl_q : foffT Try.prog 34 1 = 1 := by kernel_rfl
@[go_sem] theorem ft_Sl_q : ftyT Try.prog 34 1 = 3 := by kernel_rfl
@[go_sem] theorem fo_Sl_at_ : foffT Try.prog 34 2 = 2 := by kernel_rfl
@[go_sem] theorem ft_Sl_at_ : ftyT Try.prog 34 2 = 32 := by kernel_rfl
@[go_sem] theorem sub_Sl_at_ (a : Sl) : (encSl a).part 2 2 true = encPt a.at_ := by
  simp only [encSl, encPt, agg, AVal.part, if_true, List.length]
  congr 1
  funext j
  rcases j with _ | _ | _ | _ | j <;> rfl
@[ext] structure Pn where
  w : Int := 0
  h : Int := 0
  rail : Int := 0
  gap : Int := 0
  kinds : List Kd := []
  slots : List Sl := []
  marks : List Pt := []
  deriving Inhabited, DecidableEq
def encPn (a : Pn) : AVal := agg [(.int .i64 a.w), (.int .i64 a.h), (.int .i64 a.rail), (.int .i64 a.gap), (encL 3 encKd a.kinds), (encL 4 encSl a.slots), (encL 2 encPt a.marks)]
@[go_sem] theorem cells_Pn (a : Pn) : (encPn a).cells = 7 := rfl
@[go_sem] theorem known_Pn (a : Pn) : (encPn a).known = true := rfl
@[go_sem] theorem strip_Pn (a : Pn) : (encPn a).strip = encPn a := rfl
@[go_sem] theorem okw_Pn (a : Pn) (g : Bool) : (encPn a).okw g = True := rfl
@[go_sem] theorem pok_Pn (a : Pn) (o s : Nat) (b : Bool) : partOk (encPn a) o s b = (o + s ≤ 7) := rfl
@[go_sem] theorem part_Pn_0 (a : Pn) : (encPn a).part 0 1 false = (.int .i64 a.w) := rfl
@[go_sem] theorem part_Pn_1 (a : Pn) : (encPn a).part 1 1 false = (.int .i64 a.h) := rfl
@[go_sem] theorem part_Pn_2 (a : Pn) : (encPn a).part 2 1 false = (.int .i64 a.rail) := rfl
@[go_sem] theorem part_Pn_3 (a : Pn) : (encPn a).part 3 1 false = (.int .i64 a.gap) := rfl
@[go_sem] theorem part_Pn_4 (a : Pn) : (encPn a).part 4 1 false = (encL 3 encKd a.kinds) := rfl
@[go_sem] theorem part_Pn_5 (a : Pn) : (encPn a).part 5 1 false = (encL 4 encSl a.slots) := rfl
@[go_sem] theorem part_Pn_6 (a : Pn) : (encPn a).part 6 1 false = (encL 2 encPt a.marks) := rfl
@[go_sem] theorem all_Pn (a : Pn) : (encPn a).part 0 7 true = encPn a := by simp only [encPn, agg, AVal.part, Nat.zero_add, List.length]; rfl
@[go_sem] theorem sz_Pn : szT Try.prog 26 = 7 := by kernel_rfl
@[go_sem] theorem ag_Pn : aggT Try.prog 26 = true := by kernel_rfl
theorem by_Pn : byT Try.prog 26 = 104 := by kernel_rfl
@[go_sem] theorem ze_Pn : zeroT Try.prog 26 = agg [.int .i64 0, .int .i64 0, .int .i64 0, .int .i64 0, .nilsl, .nilsl, .nilsl] := (show zeroT Try.prog 26 = ofConst (.agg #[.int .i64 0, .int .i64 0, .int .i64 0, .int .i64 0, .slice none 0 0, .slice none 0 0, .slice none 0 0]) by kernel_rfl).trans (ofConst_agg _)
@[go_sem] theorem putOk_Pn (a : Pn) (o : Nat) (x : AVal) : putOk (encPn a) o x = (o + x.cells ≤ 7) := rfl
@[go_sem] theorem putP_Pn (a b : Pn) : putPart (encPn a) 0 (encPn b) = encPn b := rfl
@[go_sem] theorem putPz_Pn (l : List AVal) (b : Pn) : putPart (agg l) 0 (encPn b) = if l.length = 7 then encPn b else putPart (.aggF l.length (lst l)) 0 (.aggF 7 (lst [(.int .i64 b.w), (.int .i64 b.h), (.int .i64 b.rail), (.int .i64 b.gap), (encL 3 encKd b.kinds), (encL 4 encSl b.slots), (encL 2 encPt b.marks)])) := by
  by_cases h : l.length = 7
  · rw [if_pos h]; simp only [agg, encPn, putPart, h]; rfl
  · rw [if_neg h]; rfl
@[go_sem] theorem putL_Pn (a : Pn) (o : Nat) (x : AVal) (hx : x.leaf = true) : putPart (encPn a) o x = .aggF 7 fun j => if j = o then x else lst [(.int .i64 a.w), (.int .i64 a.h), (.int .i64 a.rail), (.int .i64 a.gap), (encL 3 encKd a.kinds), (encL 4 encSl a.slots), (encL 2 encPt a.marks)] j := by cases x <;> first | rfl | cases hx
@[go_sem] theorem fo_Pn_w : foffT Try.prog 26 0 = 0 := by kernel_rfl
@[go_sem] theorem ft_Pn_w : ftyT Try.prog 26 0 = 3 := by kernel_rfl
@[go_sem] theorem fo_Pn_h : foffT Try.prog 26 1 = 1 := by kernel_rfl
@[go_sem] theorem ft_Pn_h : ftyT Try.prog 26 1 = 3 := by kernel_rfl
@[go_sem] theorem fo_Pn_rail : foffT Try.prog 26 2 = 2 := by kernel_rfl
@[go_sem] theorem ft_Pn_rail : ftyT Try.prog 26 2 = 3 := by kernel_rfl
@[go_sem] theorem fo_Pn_gap : foffT Try.prog 26 3 = 3 := by kernel_rfl
@[go_sem] theorem ft_Pn_gap : ftyT Try.prog 26 3 = 3 := by kernel_rfl
@[go_sem] theorem fo_Pn_kinds : foffT Try.prog 26 4 = 4 := by kernel_rfl
@[go_sem] theorem ft_Pn_kinds : ftyT Try.prog 26 4 = 22 := by kernel_rfl
@[go_sem] theorem fo_Pn_slots : foffT Try.prog 26 5 = 5 := by kernel_rfl
@[go_sem] theorem ft_Pn_slots : ftyT Try.prog 26 5 = 23 := by kernel_rfl
@[go_sem] theorem fo_Pn_marks : foffT Try.prog 26 6 = 6 := by kernel_rfl
@[go_sem] theorem ft_Pn_marks : ftyT Try.prog 26 6 = 24 := by kernel_rfl
@[ext] structure Tn where
  flip : Bool := false
  q : Int := 0
  at_ : Pt := default
  deriving Inhabited, DecidableEq
def encTn (a : Tn) : AVal := agg [(.bool a.flip), (.int .i64 a.q), (.int .i64 a.at_.x), (.int .i64 a.at_.y)]
@[go_sem] theorem cells_Tn (a : Tn) : (encTn a).cells = 4 := rfl
@[go_sem] theorem known_Tn (a : Tn) : (encTn a).known = true := rfl
@[go_sem] theorem strip_Tn (a : Tn) : (encTn a).strip = encTn a := rfl
@[go_sem] theorem okw_Tn (a : Tn) (g : Bool) : (encTn a).okw g = True := rfl
@[go_sem] theorem pok_Tn (a : Tn) (o s : Nat) (b : Bool) : partOk (encTn a) o s b = (o + s ≤ 4) := rfl
@[go_sem] theorem part_Tn_0 (a : Tn) : (encTn a).part 0 1 false = (.bool a.flip) := rfl
@[go_sem] theorem part_Tn_1 (a : Tn) : (encTn a).part 1 1 false = (.int .i64 a.q) := rfl
@[go_sem] theorem part_Tn_2 (a : Tn) : (encTn a).part 2 1 false = (.int .i64 a.at_.x) := rfl
@[go_sem] theorem part_Tn_3 (a : Tn) : (encTn a).part 3 1 false = (.int .i64 a.at_.y) := rfl
@[go_sem] theorem all_Tn (a : Tn) : (encTn a).part 0 4 true = encTn a := by simp only [encTn, agg, AVal.part, Nat.zero_add, List.length]; rfl
@[go_sem] theorem sz_Tn : szT Try.prog 46 = 4 := by kernel_rfl
@[go_sem] theorem ag_Tn : aggT Try.prog 46 = true := by kernel_rfl
theorem by_Tn : byT Try.prog 46 = 32 := by kernel_rfl
@[go_sem] theorem ze_Tn : zeroT Try.prog 46 = agg [.bool false, .int .i64 0, .int .i64 0, .int .i64 0] := (show zeroT Try.prog 46 = ofConst (.agg #[.bool false, .int .i64 0, .int .i64 0, .int .i64 0]) by kernel_rfl).trans (ofConst_agg _)
@[go_sem] theorem putOk_Tn (a : Tn) (o : Nat) (x : AVal) : putOk (encTn a) o x = (o + x.cells ≤ 4) := rfl
@[go_sem] theorem putP_Tn (a b : Tn) : putPart (encTn a) 0 (encTn b) = encTn b := rfl
@[go_sem] theorem putPz_Tn (l : List AVal) (b : Tn) : putPart (agg l) 0 (encTn b) = if l.length = 4 then encTn b else putPart (.aggF l.length (lst l)) 0 (.aggF 4 (lst [(.bool b.flip), (.int .i64 b.q), (.int .i64 b.at_.x), (.int .i64 b.at_.y)])) := by
  by_cases h : l.length = 4
  · rw [if_pos h]; simp only [agg, encTn, putPart, h]; rfl
  · rw [if_neg h]; rfl
@[go_sem] theorem putL_Tn (a : Tn) (o : Nat) (x : AVal) (hx : x.leaf = true) : putPart (encTn a) o x = .aggF 4 fun j => if j = o then x else lst [(.bool a.flip), (.int .i64 a.q), (.int .i64 a.at_.x), (.int .i64 a.at_.y)] j := by cases x <;> first | rfl | cases hx
@[go_sem] theorem fo_Tn_flip : foffT Try.prog 46 0 = 0 := by kernel_rfl
@[go_sem] theorem ft_Tn_flip : ftyT Try.prog 46 0 = 4 := by kernel_rfl
@[go_sem] theorem fo_Tn_q : foffT Try.prog 46 1 = 1 := by kernel_rfl
@[go_sem] theorem ft_Tn_q : ftyT Try.prog 46 1 = 3 := by kernel_rfl
@[go_sem] theorem fo_Tn_at_ : foffT Try.prog 46 2 = 2 := by kernel_rfl
@[go_sem] theorem ft_Tn_at_ : ftyT Try.prog 46 2 = 32 := by kernel_rfl
@[go_sem] theorem sub_Tn_at_ (a : Tn) : (encTn a).part 2 2 true = encPt a.at_ := by
  simp only [encTn, encPt, agg, AVal.part, if_true, List.length]
  congr 1
  funext j
  rcases j with _ | _ | _ | _ | j <;> rfl
@[ext] structure Sh where
  num : Int := 0
  den : Int := 0
  deriving Inhabited, DecidableEq
def encSh (a : Sh) : AVal := agg [(.int .i64 a.num), (.int .i64 a.den)]
@[go_sem] theorem cells_Sh (a : Sh) : (encSh a).cells = 2 := rfl
@[go_sem] theorem known_Sh (a : Sh) : (encSh a).known = true := rfl
@[go_sem] theorem strip_Sh (a : Sh) : (encSh a).strip = encSh a := rfl
@[go_sem] theorem okw_Sh (a : Sh) (g : Bool) : (encSh a).okw g = True := rfl
@[go_sem] theorem pok_Sh (a : Sh) (o s : Nat) (b : Bool) : partOk (encSh a) o s b = (o + s ≤ 2) := rfl
@[go_sem] theorem part_Sh_0 (a : Sh) : (encSh a).part 0 1 false = (.int .i64 a.num) := rfl
@[go_sem] theorem part_Sh_1 (a : Sh) : (encSh a).part 1 1 false = (.int .i64 a.den) := rfl
@[go_sem] theorem all_Sh (a : Sh) : (encSh a).part 0 2 true = encSh a := by simp only [encSh, agg, AVal.part, Nat.zero_add, List.length]; rfl
@[go_sem] theorem sz_Sh : szT Try.prog 83 = 2 := by kernel_rfl
@[go_sem] theorem ag_Sh : aggT Try.prog 83 = true := by kernel_rfl
theorem by_Sh : byT Try.prog 83 = 16 := by kernel_rfl
@[go_sem] theorem ze_Sh : zeroT Try.prog 83 = agg [.int .i64 0, .int .i64 0] := (show zeroT Try.prog 83 = ofConst (.agg #[.int .i64 0, .int .i64 0]) by kernel_rfl).trans (ofConst_agg _)
@[go_sem] theorem putOk_Sh (a : Sh) (o : Nat) (x : AVal) : putOk (encSh a) o x = (o + x.cells ≤ 2) := rfl
@[go_sem] theorem putP_Sh (a b : Sh) : putPart (encSh a) 0 (encSh b) = encSh b := rfl
@[go_sem] theorem putPz_Sh (l : List AVal) (b : Sh) : putPart (agg l) 0 (encSh b) = if l.length = 2 then encSh b else putPart (.aggF l.length (lst l)) 0 (.aggF 2 (lst [(.int .i64 b.num), (.int .i64 b.den)])) := by
  by_cases h : l.length = 2
  · rw [if_pos h]; simp only [agg, encSh, putPart, h]; rfl
  · rw [if_neg h]; rfl
@[go_sem] theorem putL_Sh (a : Sh) (o : Nat) (x : AVal) (hx : x.leaf = true) : putPart (encSh a) o x = .aggF 2 fun j => if j = o then x else lst [(.int .i64 a.num), (.int .i64 a.den)] j := by cases x <;> first | rfl | cases hx
@[go_sem] theorem fo_Sh_num : foffT Try.prog 83 0 = 0 := by kernel_rfl
@[go_sem] theorem ft_Sh_num : ftyT Try.prog 83 0 = 3 := by kernel_rfl
@[go_sem] theorem fo_Sh_den : foffT Try.prog 83 1 = 1 := by kernel_rfl
@[go_sem] theorem ft_Sh_den : ftyT Try.prog 83 1 = 3 := by kernel_rfl
@[ext] structure Ct where
  part : Rc := default
  across : Bool := false
  at_ : Int := 0
  deriving Inhabited, DecidableEq
def encCt (a : Ct) : AVal := agg [(.int .i64 a.part.x0), (.int .i64 a.part.y0), (.int .i64 a.part.x1), (.int .i64 a.part.y1), (.bool a.across), (.int .i64 a.at_)]
@[go_sem] theorem cells_Ct (a : Ct) : (encCt a).cells = 6 := rfl
@[go_sem] theorem known_Ct (a : Ct) : (encCt a).known = true := rfl
@[go_sem] theorem strip_Ct (a : Ct) : (encCt a).strip = encCt a := rfl
@[go_sem] theorem okw_Ct (a : Ct) (g : Bool) : (encCt a).okw g = True := rfl
@[go_sem] theorem pok_Ct (a : Ct) (o s : Nat) (b : Bool) : partOk (encCt a) o s b = (o + s ≤ 6) := rfl
@[go_sem] theorem part_Ct_0 (a : Ct) : (encCt a).part 0 1 false = (.int .i64 a.part.x0) := rfl
@[go_sem] theorem part_Ct_1 (a : Ct) : (encCt a).part 1 1 false = (.int .i64 a.part.y0) := rfl
@[go_sem] theorem part_Ct_2 (a : Ct) : (encCt a).part 2 1 false = (.int .i64 a.part.x1) := rfl
@[go_sem] theorem part_Ct_3 (a : Ct) : (encCt a).part 3 1 false = (.int .i64 a.part.y1) := rfl
@[go_sem] theorem part_Ct_4 (a : Ct) : (encCt a).part 4 1 false = (.bool a.across) := rfl
@[go_sem] theorem part_Ct_5 (a : Ct) : (encCt a).part 5 1 false = (.int .i64 a.at_) := rfl
@[go_sem] theorem all_Ct (a : Ct) : (encCt a).part 0 6 true = encCt a := by simp only [encCt, agg, AVal.part, Nat.zero_add, List.length]; rfl
@[go_sem] theorem sz_Ct : szT Try.prog 77 = 6 := by kernel_rfl
@[go_sem] theorem ag_Ct : aggT Try.prog 77 = true := by kernel_rfl
theorem by_Ct : byT Try.prog 77 = 48 := by kernel_rfl
@[go_sem] theorem ze_Ct : zeroT Try.prog 77 = agg [.int .i64 0, .int .i64 0, .int .i64 0, .int .i64 0, .bool false, .int .i64 0] := (show zeroT Try.prog 77 = ofConst (.agg #[.int .i64 0, .int .i64 0, .int .i64 0, .int .i64 0, .bool false, .int .i64 0]) by kernel_rfl).trans (ofConst_agg _)
@[go_sem] theorem putOk_Ct (a : Ct) (o : Nat) (x : AVal) : putOk (encCt a) o x = (o + x.cells ≤ 6) := rfl
@[go_sem] theorem putP_Ct (a b : Ct) : putPart (encCt a) 0 (encCt b) = encCt b := rfl
@[go_sem] theorem putPz_Ct (l : List AVal) (b : Ct) : putPart (agg l) 0 (encCt b) = if l.length = 6 then encCt b else putPart (.aggF l.length (lst l)) 0 (.aggF 6 (lst [(.int .i64 b.part.x0), (.int .i64 b.part.y0), (.int .i64 b.part.x1), (.int .i64 b.part.y1), (.bool b.across), (.int .i64 b.at_)])) := by
  by_cases h : l.length = 6
  · rw [if_pos h]; simp only [agg, encCt, putPart, h]; rfl
  · rw [if_neg h]; rfl
@[go_sem] theorem putL_Ct (a : Ct) (o : Nat) (x : AVal) (hx : x.leaf = true) : putPart (encCt a) o x = .aggF 6 fun j => if j = o then x else lst [(.int .i64 a.part.x0), (.int .i64 a.part.y0), (.int .i64 a.part.x1), (.int .i64 a.part.y1), (.bool a.across), (.int .i64 a.at_)] j := by cases x <;> first | rfl | cases hx
@[go_sem] theorem fo_Ct_part : foffT Try.prog 77 0 = 0 := by kernel_rfl
@[go_sem] theorem ft_Ct_part : ftyT Try.prog 77 0 = 42 := by kernel_rfl
@[go_sem] theorem fo_Ct_across : foffT Try.prog 77 1 = 4 := by kernel_rfl
@[go_sem] theorem ft_Ct_across : ftyT Try.prog 77 1 = 4 := by kernel_rfl
@[go_sem] theorem fo_Ct_at_ : foffT Try.prog 77 2 = 5 := by kernel_rfl
@[go_sem] theorem ft_Ct_at_ : ftyT Try.prog 77 2 = 3 := by kernel_rfl
theorem eqOk_Pt : EqOk Try.prog 32 2 fun j => ([.int .i64, .int .i64] : List LK).getD j .bool := eqOk_of (by kernel_rfl) (by kernel_rfl) (by decide) (by kernel_rfl)
theorem aeq_Pt (a b : Pt) : aeq 2 (lst [(.int .i64 a.x), (.int .i64 a.y)]) (lst [(.int .i64 b.x), (.int .i64 b.y)]) = decide (a = b) := by
  obtain ⟨a0, a1⟩ := a
  obtain ⟨b0, b1⟩ := b
  rw [Bool.eq_iff_iff]
  simp [aeq, List.range_succ, lst, leafEq, and_assoc]
@[go_sem] theorem eq_Pt (a b : Pt) : binT Try.prog 32 .eql (encPt a) (encPt b) = (True, .bool (decide (a = b))) := Prod.ext (eq_true (⟨_, eqOk_Pt, rfl, fun j hj => by rcases j with _ | _ |  j <;> first | exact ⟨rfl, rfl⟩ | exact ⟨trivial, trivial⟩ | (simp only [List.length_cons, List.length_nil] at hj; omega)⟩)) (congrArg AVal.bool (aeq_Pt a b))
@[go_sem] theorem ne_Pt (a b : Pt) : binT Try.prog 32 .neq (encPt a) (encPt b) = (True, .bool (!decide (a = b))) := Prod.ext (eq_true (⟨_, eqOk_Pt, rfl, fun j hj => by rcases j with _ | _ |  j <;> first | exact ⟨rfl, rfl⟩ | exact ⟨trivial, trivial⟩ | (simp only [List.length_cons, List.length_nil] at hj; omega)⟩)) (congrArg (fun b => AVal.bool (!b)) (aeq_Pt a b))
theorem eqOk_Rc : EqOk Try.prog 42 4 fun j => ([.int .i64, .int .i64, .int .i64, .int .i64] : List LK).getD j .bool := eqOk_of (by kernel_rfl) (by kernel_rfl) (by decide) (by kernel_rfl)
theorem aeq_Rc (a b : Rc) : aeq 4 (lst [(.int .i64 a.x0), (.int .i64 a.y0), (.int .i64 a.x1), (.int .i64 a.y1)]) (lst [(.int .i64 b.x0), (.int .i64 b.y0), (.int .i64 b.x1), (.int .i64 b.y1)]) = decide (a = b) := by
  obtain ⟨a0, a1, a2, a3⟩ := a
  obtain ⟨b0, b1, b2, b3⟩ := b
  rw [Bool.eq_iff_iff]
  simp [aeq, List.range_succ, lst, leafEq, and_assoc]
@[go_sem] theorem eq_Rc (a b : Rc) : binT Try.prog 42 .eql (encRc a) (encRc b) = (True, .bool (decide (a = b))) := Prod.ext (eq_true (⟨_, eqOk_Rc, rfl, fun j hj => by rcases j with _ | _ | _ | _ |  j <;> first | exact ⟨rfl, rfl⟩ | exact ⟨trivial, trivial⟩ | (simp only [List.length_cons, List.length_nil] at hj; omega)⟩)) (congrArg AVal.bool (aeq_Rc a b))
@[go_sem] theorem ne_Rc (a b : Rc) : binT Try.prog 42 .neq (encRc a) (encRc b) = (True, .bool (!decide (a = b))) := Prod.ext (eq_true (⟨_, eqOk_Rc, rfl, fun j hj => by rcases j with _ | _ | _ | _ |  j <;> first | exact ⟨rfl, rfl⟩ | exact ⟨trivial, trivial⟩ | (simp only [List.length_cons, List.length_nil] at hj; omega)⟩)) (congrArg (fun b => AVal.bool (!b)) (aeq_Rc a b))
theorem eqOk_Kd : EqOk Try.prog 92 3 fun j => ([.str, .int .i64, .int .i64] : List LK).getD j .bool := eqOk_of (by kernel_rfl) (by kernel_rfl) (by decide) (by kernel_rfl)
theorem aeq_Kd (a b : Kd) : aeq 3 (lst [(.str a.name), (.int .i64 a.w), (.int .i64 a.h)]) (lst [(.str b.name), (.int .i64 b.w), (.int .i64 b.h)]) = decide (a = b) := by
  obtain ⟨a0, a1, a2⟩ := a
  obtain ⟨b0, b1, b2⟩ := b
  rw [Bool.eq_iff_iff]
  simp [aeq, List.range_succ, lst, leafEq, and_assoc]
@[go_sem] theorem eq_Kd (a b : Kd) : binT Try.prog 92 .eql (encKd a) (encKd b) = (True, .bool (decide (a = b))) := Prod.ext (eq_true (⟨_, eqOk_Kd, rfl, fun j hj => by rcases j with _ | _ | _ |  j <;> first | exact ⟨rfl, rfl⟩ | exact ⟨trivial, trivial⟩ | (simp only [List.length_cons, List.length_nil] at hj; omega)⟩)) (congrArg AVal.bool (aeq_Kd a b))
@[go_sem] theorem ne_Kd (a b : Kd) : binT Try.prog 92 .neq (encKd a) (encKd b) = (True, .bool (!decide (a = b))) := Prod.ext (eq_true (⟨_, eqOk_Kd, rfl, fun j hj => by rcases j with _ | _ | _ |  j <;> first | exact ⟨rfl, rfl⟩ | exact ⟨trivial, trivial⟩ | (simp only [List.length_cons, List.length_nil] at hj; omega)⟩)) (congrArg (fun b => AVal.bool (!b)) (aeq_Kd a b))
theorem eqOk_Sl : EqOk Try.prog 34 4 fun j => ([.str, .int .i64, .int .i64, .int .i64] : List LK).getD j .bool := eqOk_of (by kernel_rfl) (by kernel_rfl) (by decide) (by kernel_rfl)
theorem aeq_Sl (a b : Sl) : aeq 4 (lst [(.str a.board), (.int .i64 a.q), (.int .i64 a.at_.x), (.int .i64 a.at_.y)]) (lst [(.str b.board), (.int .i64 b.q), (.int .i64 b.at_.x), (.int .i64 b.at_.y)]) = decide (a = b) := by
  obtain ⟨a0, a1, a2⟩ := a
  obtain ⟨b0, b1, b2⟩ := b
  rw [Bool.eq_iff_iff]
  simp [aeq, List.range_succ, lst, leafEq, and_assoc, Pt.ext_iff]
@[go_sem] theorem eq_Sl (a b : Sl) : binT Try.prog 34 .eql (encSl a) (encSl b) = (True, .bool (decide (a = b))) := Prod.ext (eq_true (⟨_, eqOk_Sl, rfl, fun j hj => by rcases j with _ | _ | _ | _ |  j <;> first | exact ⟨rfl, rfl⟩ | exact ⟨trivial, trivial⟩ | (simp only [List.length_cons, List.length_nil] at hj; omega)⟩)) (congrArg AVal.bool (aeq_Sl a b))
@[go_sem] theorem ne_Sl (a b : Sl) : binT Try.prog 34 .neq (encSl a) (encSl b) = (True, .bool (!decide (a = b))) := Prod.ext (eq_true (⟨_, eqOk_Sl, rfl, fun j hj => by rcases j with _ | _ | _ | _ |  j <;> first | exact ⟨rfl, rfl⟩ | exact ⟨trivial, trivial⟩ | (simp only [List.length_cons, List.length_nil] at hj; omega)⟩)) (congrArg (fun b => AVal.bool (!b)) (aeq_Sl a b))
theorem eqOk_Tn : EqOk Try.prog 46 4 fun j => ([.bool, .int .i64, .int .i64, .int .i64] : List LK).getD j .bool := eqOk_of (by kernel_rfl) (by kernel_rfl) (by decide) (by kernel_rfl)
theorem aeq_Tn (a b : Tn) : aeq 4 (lst [(.bool a.flip), (.int .i64 a.q), (.int .i64 a.at_.x), (.int .i64 a.at_.y)]) (lst [(.bool b.flip), (.int .i64 b.q), (.int .i64 b.at_.x), (.int .i64 b.at_.y)]) = decide (a = b) := by
  obtain ⟨a0, a1, a2⟩ := a
  obtain ⟨b0, b1, b2⟩ := b
  rw [Bool.eq_iff_iff]
  simp [aeq, List.range_succ, lst, leafEq, and_assoc, Pt.ext_iff]
@[go_sem] theorem eq_Tn (a b : Tn) : binT Try.prog 46 .eql (encTn a) (encTn b) = (True, .bool (decide (a = b))) := Prod.ext (eq_true (⟨_, eqOk_Tn, rfl, fun j hj => by rcases j with _ | _ | _ | _ |  j <;> first | exact ⟨rfl, rfl⟩ | exact ⟨trivial, trivial⟩ | (simp only [List.length_cons, List.length_nil] at hj; omega)⟩)) (congrArg AVal.bool (aeq_Tn a b))
@[go_sem] theorem ne_Tn (a b : Tn) : binT Try.prog 46 .neq (encTn a) (encTn b) = (True, .bool (!decide (a = b))) := Prod.ext (eq_true (⟨_, eqOk_Tn, rfl, fun j hj => by rcases j with _ | _ | _ | _ |  j <;> first | exact ⟨rfl, rfl⟩ | exact ⟨trivial, trivial⟩ | (simp only [List.length_cons, List.length_nil] at hj; omega)⟩)) (congrArg (fun b => AVal.bool (!b)) (aeq_Tn a b))
theorem eqOk_Sh : EqOk Try.prog 83 2 fun j => ([.int .i64, .int .i64] : List LK).getD j .bool := eqOk_of (by kernel_rfl) (by kernel_rfl) (by decide) (by kernel_rfl)
theorem aeq_Sh (a b : Sh) : aeq 2 (lst [(.int .i64 a.num), (.int .i64 a.den)]) (lst [(.int .i64 b.num), (.int .i64 b.den)]) = decide (a = b) := by
  obtain ⟨a0, a1⟩ := a
  obtain ⟨b0, b1⟩ := b
  rw [Bool.eq_iff_iff]
  simp [aeq, List.range_succ, lst, leafEq, and_assoc]
@[go_sem] theorem eq_Sh (a b : Sh) : binT Try.prog 83 .eql (encSh a) (encSh b) = (True, .bool (decide (a = b))) := Prod.ext (eq_true (⟨_, eqOk_Sh, rfl, fun j hj => by rcases j with _ | _ |  j <;> first | exact ⟨rfl, rfl⟩ | exact ⟨trivial, trivial⟩ | (simp only [List.length_cons, List.length_nil] at hj; omega)⟩)) (congrArg AVal.bool (aeq_Sh a b))
@[go_sem] theorem ne_Sh (a b : Sh) : binT Try.prog 83 .neq (encSh a) (encSh b) = (True, .bool (!decide (a = b))) := Prod.ext (eq_true (⟨_, eqOk_Sh, rfl, fun j hj => by rcases j with _ | _ |  j <;> first | exact ⟨rfl, rfl⟩ | exact ⟨trivial, trivial⟩ | (simp only [List.length_cons, List.length_nil] at hj; omega)⟩)) (congrArg (fun b => AVal.bool (!b)) (aeq_Sh a b))
theorem eqOk_Ct : EqOk Try.prog 77 6 fun j => ([.int .i64, .int .i64, .int .i64, .int .i64, .bool, .int .i64] : List LK).getD j .bool := eqOk_of (by kernel_rfl) (by kernel_rfl) (by decide) (by kernel_rfl)
theorem aeq_Ct (a b : Ct) : aeq 6 (lst [(.int .i64 a.part.x0), (.int .i64 a.part.y0), (.int .i64 a.part.x1), (.int .i64 a.part.y1), (.bool a.across), (.int .i64 a.at_)]) (lst [(.int .i64 b.part.x0), (.int .i64 b.part.y0), (.int .i64 b.part.x1), (.int .i64 b.part.y1), (.bool b.across), (.int .i64 b.at_)]) = decide (a = b) := by
  obtain ⟨a0, a1, a2⟩ := a
  obtain ⟨b0, b1, b2⟩ := b
  rw [Bool.eq_iff_iff]
  simp [aeq, List.range_succ, lst, leafEq, and_assoc, Rc.ext_iff]
@[go_sem] theorem eq_Ct (a b : Ct) : binT Try.prog 77 .eql (encCt a) (encCt b) = (True, .bool (decide (a = b))) := Prod.ext (eq_true (⟨_, eqOk_Ct, rfl, fun j hj => by rcases j with _ | _ | _ | _ | _ | _ |  j <;> first | exact ⟨rfl, rfl⟩ | exact ⟨trivial, trivial⟩ | (simp only [List.length_cons, List.length_nil] at hj; omega)⟩)) (congrArg AVal.bool (aeq_Ct a b))
@[go_sem] theorem ne_Ct (a b : Ct) : binT Try.prog 77 .neq (encCt a) (encCt b) = (True, .bool (!decide (a = b))) := Prod.ext (eq_true (⟨_, eqOk_Ct, rfl, fun j hj => by rcases j with _ | _ | _ | _ | _ | _ |  j <;> first | exact ⟨rfl, rfl⟩ | exact ⟨trivial, trivial⟩ | (simp only [List.length_cons, List.length_nil] at hj; omega)⟩)) (congrArg (fun b => AVal.bool (!b)) (aeq_Ct a b))
@[go_sem] theorem eq1_Pt (a : Pt) (q0 : Int) (q1 : Int) : binT Try.prog 32 .eql (encPt a) (agg [(.int .i64 q0), (.int .i64 q1)]) = (True, .bool (decide (a = ⟨q0, q1⟩))) := eq_Pt a ⟨q0, q1⟩
@[go_sem] theorem eq2_Pt (a : Pt) (q0 : Int) (q1 : Int) : binT Try.prog 32 .eql (agg [(.int .i64 q0), (.int .i64 q1)]) (encPt a) = (True, .bool (decide ((⟨q0, q1⟩ : Pt) = a))) := eq_Pt ⟨q0, q1⟩ a
@[go_sem] theorem eq3_Pt (p0 : Int) (p1 : Int) (q0 : Int) (q1 : Int) : binT Try.prog 32 .eql (agg [(.int .i64 p0), (.int .i64 p1)]) (agg [(.int .i64 q0), (.int .i64 q1)]) = (True, .bool (decide ((⟨p0, p1⟩ : Pt) = ⟨q0, q1⟩))) := eq_Pt ⟨p0, p1⟩ ⟨q0, q1⟩
@[go_sem] theorem ne1_Pt (a : Pt) (q0 : Int) (q1 : Int) : binT Try.prog 32 .neq (encPt a) (agg [(.int .i64 q0), (.int .i64 q1)]) = (True, .bool (!decide (a = ⟨q0, q1⟩))) := ne_Pt a ⟨q0, q1⟩
@[go_sem] theorem ne2_Pt (a : Pt) (q0 : Int) (q1 : Int) : binT Try.prog 32 .neq (agg [(.int .i64 q0), (.int .i64 q1)]) (encPt a) = (True, .bool (!decide ((⟨q0, q1⟩ : Pt) = a))) := ne_Pt ⟨q0, q1⟩ a
@[go_sem] theorem ne3_Pt (p0 : Int) (p1 : Int) (q0 : Int) (q1 : Int) : binT Try.prog 32 .neq (agg [(.int .i64 p0), (.int .i64 p1)]) (agg [(.int .i64 q0), (.int .i64 q1)]) = (True, .bool (!decide ((⟨p0, p1⟩ : Pt) = ⟨q0, q1⟩))) := ne_Pt ⟨p0, p1⟩ ⟨q0, q1⟩
@[go_sem] theorem eq1_Rc (a : Rc) (q0 : Int) (q1 : Int) (q2 : Int) (q3 : Int) : binT Try.prog 42 .eql (encRc a) (agg [(.int .i64 q0), (.int .i64 q1), (.int .i64 q2), (.int .i64 q3)]) = (True, .bool (decide (a = ⟨q0, q1, q2, q3⟩))) := eq_Rc a ⟨q0, q1, q2, q3⟩
@[go_sem] theorem eq2_Rc (a : Rc) (q0 : Int) (q1 : Int) (q2 : Int) (q3 : Int) : binT Try.prog 42 .eql (agg [(.int .i64 q0), (.int .i64 q1), (.int .i64 q2), (.int .i64 q3)]) (encRc a) = (True, .bool (decide ((⟨q0, q1, q2, q3⟩ : Rc) = a))) := eq_Rc ⟨q0, q1, q2, q3⟩ a
@[go_sem] theorem eq3_Rc (p0 : Int) (p1 : Int) (p2 : Int) (p3 : Int) (q0 : Int) (q1 : Int) (q2 : Int) (q3 : Int) : binT Try.prog 42 .eql (agg [(.int .i64 p0), (.int .i64 p1), (.int .i64 p2), (.int .i64 p3)]) (agg [(.int .i64 q0), (.int .i64 q1), (.int .i64 q2), (.int .i64 q3)]) = (True, .bool (decide ((⟨p0, p1, p2, p3⟩ : Rc) = ⟨q0, q1, q2, q3⟩))) := eq_Rc ⟨p0, p1, p2, p3⟩ ⟨q0, q1, q2, q3⟩
@[go_sem] theorem ne1_Rc (a : Rc) (q0 : Int) (q1 : Int) (q2 : Int) (q3 : Int) : binT Try.prog 42 .neq (encRc a) (agg [(.int .i64 q0), (.int .i64 q1), (.int .i64 q2), (.int .i64 q3)]) = (True, .bool (!decide (a = ⟨q0, q1, q2, q3⟩))) := ne_Rc a ⟨q0, q1, q2, q3⟩
@[go_sem] theorem ne2_Rc (a : Rc) (q0 : Int) (q1 : Int) (q2 : Int) (q3 : Int) : binT Try.prog 42 .neq (agg [(.int .i64 q0), (.int .i64 q1), (.int .i64 q2), (.int .i64 q3)]) (encRc a) = (True, .bool (!decide ((⟨q0, q1, q2, q3⟩ : Rc) = a))) := ne_Rc ⟨q0, q1, q2, q3⟩ a
@[go_sem] theorem ne3_Rc (p0 : Int) (p1 : Int) (p2 : Int) (p3 : Int) (q0 : Int) (q1 : Int) (q2 : Int) (q3 : Int) : binT Try.prog 42 .neq (agg [(.int .i64 p0), (.int .i64 p1), (.int .i64 p2), (.int .i64 p3)]) (agg [(.int .i64 q0), (.int .i64 q1), (.int .i64 q2), (.int .i64 q3)]) = (True, .bool (!decide ((⟨p0, p1, p2, p3⟩ : Rc) = ⟨q0, q1, q2, q3⟩))) := ne_Rc ⟨p0, p1, p2, p3⟩ ⟨q0, q1, q2, q3⟩
@[go_sem] theorem eq1_Kd (a : Kd) (q0 : ByteArray) (q1 : Int) (q2 : Int) : binT Try.prog 92 .eql (encKd a) (agg [(.str q0), (.int .i64 q1), (.int .i64 q2)]) = (True, .bool (decide (a = ⟨q0, q1, q2⟩))) := eq_Kd a ⟨q0, q1, q2⟩
@[go_sem] theorem eq2_Kd (a : Kd) (q0 : ByteArray) (q1 : Int) (q2 : Int) : binT Try.prog 92 .eql (agg [(.str q0), (.int .i64 q1), (.int .i64 q2)]) (encKd a) = (True, .bool (decide ((⟨q0, q1, q2⟩ : Kd) = a))) := eq_Kd ⟨q0, q1, q2⟩ a
@[go_sem] theorem eq3_Kd (p0 : ByteArray) (p1 : Int) (p2 : Int) (q0 : ByteArray) (q1 : Int) (q2 : Int) : binT Try.prog 92 .eql (agg [(.str p0), (.int .i64 p1), (.int .i64 p2)]) (agg [(.str q0), (.int .i64 q1), (.int .i64 q2)]) = (True, .bool (decide ((⟨p0, p1, p2⟩ : Kd) = ⟨q0, q1, q2⟩))) := eq_Kd ⟨p0, p1, p2⟩ ⟨q0, q1, q2⟩
@[go_sem] theorem ne1_Kd (a : Kd) (q0 : ByteArray) (q1 : Int) (q2 : Int) : binT Try.prog 92 .neq (encKd a) (agg [(.str q0), (.int .i64 q1), (.int .i64 q2)]) = (True, .bool (!decide (a = ⟨q0, q1, q2⟩))) := ne_Kd a ⟨q0, q1, q2⟩
@[go_sem] theorem ne2_Kd (a : Kd) (q0 : ByteArray) (q1 : Int) (q2 : Int) : binT Try.prog 92 .neq (agg [(.str q0), (.int .i64 q1), (.int .i64 q2)]) (encKd a) = (True, .bool (!decide ((⟨q0, q1, q2⟩ : Kd) = a))) := ne_Kd ⟨q0, q1, q2⟩ a
@[go_sem] theorem ne3_Kd (p0 : ByteArray) (p1 : Int) (p2 : Int) (q0 : ByteArray) (q1 : Int) (q2 : Int) : binT Try.prog 92 .neq (agg [(.str p0), (.int .i64 p1), (.int .i64 p2)]) (agg [(.str q0), (.int .i64 q1), (.int .i64 q2)]) = (True, .bool (!decide ((⟨p0, p1, p2⟩ : Kd) = ⟨q0, q1, q2⟩))) := ne_Kd ⟨p0, p1, p2⟩ ⟨q0, q1, q2⟩
@[go_sem] theorem eq1_Sl (a : Sl) (q0 : ByteArray) (q1 : Int) (q2 : Int) (q3 : Int) : binT Try.prog 34 .eql (encSl a) (agg [(.str q0), (.int .i64 q1), (.int .i64 q2), (.int .i64 q3)]) = (True, .bool (decide (a = ⟨q0, q1, (⟨q2, q3⟩ : Pt)⟩))) := eq_Sl a ⟨q0, q1, (⟨q2, q3⟩ : Pt)⟩
@[go_sem] theorem eq2_Sl (a : Sl) (q0 : ByteArray) (q1 : Int) (q2 : Int) (q3 : Int) : binT Try.prog 34 .eql (agg [(.str q0), (.int .i64 q1), (.int .i64 q2), (.int .i64 q3)]) (encSl a) = (True, .bool (decide ((⟨q0, q1, (⟨q2, q3⟩ : Pt)⟩ : Sl) = a))) := eq_Sl ⟨q0, q1, (⟨q2, q3⟩ : Pt)⟩ a
@[go_sem] theorem eq3_Sl (p0 : ByteArray) (p1 : Int) (p2 : Int) (p3 : Int) (q0 : ByteArray) (q1 : Int) (q2 : Int) (q3 : Int) : binT Try.prog 34 .eql (agg [(.str p0), (.int .i64 p1), (.int .i64 p2), (.int .i64 p3)]) (agg [(.str q0), (.int .i64 q1), (.int .i64 q2), (.int .i64 q3)]) = (True, .bool (decide ((⟨p0, p1, (⟨p2, p3⟩ : Pt)⟩ : Sl) = ⟨q0, q1, (⟨q2, q3⟩ : Pt)⟩))) := eq_Sl ⟨p0, p1, (⟨p2, p3⟩ : Pt)⟩ ⟨q0, q1, (⟨q2, q3⟩ : Pt)⟩
@[go_sem] theorem ne1_Sl (a : Sl) (q0 : ByteArray) (q1 : Int) (q2 : Int) (q3 : Int) : binT Try.prog 34 .neq (encSl a) (agg [(.str q0), (.int .i64 q1), (.int .i64 q2), (.int .i64 q3)]) = (True, .bool (!decide (a = ⟨q0, q1, (⟨q2, q3⟩ : Pt)⟩))) := ne_Sl a ⟨q0, q1, (⟨q2, q3⟩ : Pt)⟩
@[go_sem] theorem ne2_Sl (a : Sl) (q0 : ByteArray) (q1 : Int) (q2 : Int) (q3 : Int) : binT Try.prog 34 .neq (agg [(.str q0), (.int .i64 q1), (.int .i64 q2), (.int .i64 q3)]) (encSl a) = (True, .bool (!decide ((⟨q0, q1, (⟨q2, q3⟩ : Pt)⟩ : Sl) = a))) := ne_Sl ⟨q0, q1, (⟨q2, q3⟩ : Pt)⟩ a
@[go_sem] theorem ne3_Sl (p0 : ByteArray) (p1 : Int) (p2 : Int) (p3 : Int) (q0 : ByteArray) (q1 : Int) (q2 : Int) (q3 : Int) : binT Try.prog 34 .neq (agg [(.str p0), (.int .i64 p1), (.int .i64 p2), (.int .i64 p3)]) (agg [(.str q0), (.int .i64 q1), (.int .i64 q2), (.int .i64 q3)]) = (True, .bool (!decide ((⟨p0, p1, (⟨p2, p3⟩ : Pt)⟩ : Sl) = ⟨q0, q1, (⟨q2, q3⟩ : Pt)⟩))) := ne_Sl ⟨p0, p1, (⟨p2, p3⟩ : Pt)⟩ ⟨q0, q1, (⟨q2, q3⟩ : Pt)⟩
@[go_sem] theorem eq1_Tn (a : Tn) (q0 : Bool) (q1 : Int) (q2 : Int) (q3 : Int) : binT Try.prog 46 .eql (encTn a) (agg [(.bool q0), (.int .i64 q1), (.int .i64 q2), (.int .i64 q3)]) = (True, .bool (decide (a = ⟨q0, q1, (⟨q2, q3⟩ : Pt)⟩))) := eq_Tn a ⟨q0, q1, (⟨q2, q3⟩ : Pt)⟩
@[go_sem] theorem eq2_Tn (a : Tn) (q0 : Bool) (q1 : Int) (q2 : Int) (q3 : Int) : binT Try.prog 46 .eql (agg [(.bool q0), (.int .i64 q1), (.int .i64 q2), (.int .i64 q3)]) (encTn a) = (True, .bool (decide ((⟨q0, q1, (⟨q2, q3⟩ : Pt)⟩ : Tn) = a))) := eq_Tn ⟨q0, q1, (⟨q2, q3⟩ : Pt)⟩ a
@[go_sem] theorem eq3_Tn (p0 : Bool) (p1 : Int) (p2 : Int) (p3 : Int) (q0 : Bool) (q1 : Int) (q2 : Int) (q3 : Int) : binT Try.prog 46 .eql (agg [(.bool p0), (.int .i64 p1), (.int .i64 p2), (.int .i64 p3)]) (agg [(.bool q0), (.int .i64 q1), (.int .i64 q2), (.int .i64 q3)]) = (True, .bool (decide ((⟨p0, p1, (⟨p2, p3⟩ : Pt)⟩ : Tn) = ⟨q0, q1, (⟨q2, q3⟩ : Pt)⟩))) := eq_Tn ⟨p0, p1, (⟨p2, p3⟩ : Pt)⟩ ⟨q0, q1, (⟨q2, q3⟩ : Pt)⟩
@[go_sem] theorem ne1_Tn (a : Tn) (q0 : Bool) (q1 : Int) (q2 : Int) (q3 : Int) : binT Try.prog 46 .neq (encTn a) (agg [(.bool q0), (.int .i64 q1), (.int .i64 q2), (.int .i64 q3)]) = (True, .bool (!decide (a = ⟨q0, q1, (⟨q2, q3⟩ : Pt)⟩))) := ne_Tn a ⟨q0, q1, (⟨q2, q3⟩ : Pt)⟩
@[go_sem] theorem ne2_Tn (a : Tn) (q0 : Bool) (q1 : Int) (q2 : Int) (q3 : Int) : binT Try.prog 46 .neq (agg [(.bool q0), (.int .i64 q1), (.int .i64 q2), (.int .i64 q3)]) (encTn a) = (True, .bool (!decide ((⟨q0, q1, (⟨q2, q3⟩ : Pt)⟩ : Tn) = a))) := ne_Tn ⟨q0, q1, (⟨q2, q3⟩ : Pt)⟩ a
@[go_sem] theorem ne3_Tn (p0 : Bool) (p1 : Int) (p2 : Int) (p3 : Int) (q0 : Bool) (q1 : Int) (q2 : Int) (q3 : Int) : binT Try.prog 46 .neq (agg [(.bool p0), (.int .i64 p1), (.int .i64 p2), (.int .i64 p3)]) (agg [(.bool q0), (.int .i64 q1), (.int .i64 q2), (.int .i64 q3)]) = (True, .bool (!decide ((⟨p0, p1, (⟨p2, p3⟩ : Pt)⟩ : Tn) = ⟨q0, q1, (⟨q2, q3⟩ : Pt)⟩))) := ne_Tn ⟨p0, p1, (⟨p2, p3⟩ : Pt)⟩ ⟨q0, q1, (⟨q2, q3⟩ : Pt)⟩
@[go_sem] theorem eq1_Sh (a : Sh) (q0 : Int) (q1 : Int) : binT Try.prog 83 .eql (encSh a) (agg [(.int .i64 q0), (.int .i64 q1)]) = (True, .bool (decide (a = ⟨q0, q1⟩))) := eq_Sh a ⟨q0, q1⟩
@[go_sem] theorem eq2_Sh (a : Sh) (q0 : Int) (q1 : Int) : binT Try.prog 83 .eql (agg [(.int .i64 q0), (.int .i64 q1)]) (encSh a) = (True, .bool (decide ((⟨q0, q1⟩ : Sh) = a))) := eq_Sh ⟨q0, q1⟩ a
@[go_sem] theorem eq3_Sh (p0 : Int) (p1 : Int) (q0 : Int) (q1 : Int) : binT Try.prog 83 .eql (agg [(.int .i64 p0), (.int .i64 p1)]) (agg [(.int .i64 q0), (.int .i64 q1)]) = (True, .bool (decide ((⟨p0, p1⟩ : Sh) = ⟨q0, q1⟩))) := eq_Sh ⟨p0, p1⟩ ⟨q0, q1⟩
@[go_sem] theorem ne1_Sh (a : Sh) (q0 : Int) (q1 : Int) : binT Try.prog 83 .neq (encSh a) (agg [(.int .i64 q0), (.int .i64 q1)]) = (True, .bool (!decide (a = ⟨q0, q1⟩))) := ne_Sh a ⟨q0, q1⟩
@[go_sem] theorem ne2_Sh (a : Sh) (q0 : Int) (q1 : Int) : binT Try.prog 83 .neq (agg [(.int .i64 q0), (.int .i64 q1)]) (encSh a) = (True, .bool (!decide ((⟨q0, q1⟩ : Sh) = a))) := ne_Sh ⟨q0, q1⟩ a
@[go_sem] theorem ne3_Sh (p0 : Int) (p1 : Int) (q0 : Int) (q1 : Int) : binT Try.prog 83 .neq (agg [(.int .i64 p0), (.int .i64 p1)]) (agg [(.int .i64 q0), (.int .i64 q1)]) = (True, .bool (!decide ((⟨p0, p1⟩ : Sh) = ⟨q0, q1⟩))) := ne_Sh ⟨p0, p1⟩ ⟨q0, q1⟩
@[go_sem] theorem eq1_Ct (a : Ct) (q0 : Int) (q1 : Int) (q2 : Int) (q3 : Int) (q4 : Bool) (q5 : Int) : binT Try.prog 77 .eql (encCt a) (agg [(.int .i64 q0), (.int .i64 q1), (.int .i64 q2), (.int .i64 q3), (.bool q4), (.int .i64 q5)]) = (True, .bool (decide (a = ⟨(⟨q0, q1, q2, q3⟩ : Rc), q4, q5⟩))) := eq_Ct a ⟨(⟨q0, q1, q2, q3⟩ : Rc), q4, q5⟩
@[go_sem] theorem eq2_Ct (a : Ct) (q0 : Int) (q1 : Int) (q2 : Int) (q3 : Int) (q4 : Bool) (q5 : Int) : binT Try.prog 77 .eql (agg [(.int .i64 q0), (.int .i64 q1), (.int .i64 q2), (.int .i64 q3), (.bool q4), (.int .i64 q5)]) (encCt a) = (True, .bool (decide ((⟨(⟨q0, q1, q2, q3⟩ : Rc), q4, q5⟩ : Ct) = a))) := eq_Ct ⟨(⟨q0, q1, q2, q3⟩ : Rc), q4, q5⟩ a
@[go_sem] theorem eq3_Ct (p0 : Int) (p1 : Int) (p2 : Int) (p3 : Int) (p4 : Bool) (p5 : Int) (q0 : Int) (q1 : Int) (q2 : Int) (q3 : Int) (q4 : Bool) (q5 : Int) : binT Try.prog 77 .eql (agg [(.int .i64 p0), (.int .i64 p1), (.int .i64 p2), (.int .i64 p3), (.bool p4), (.int .i64 p5)]) (agg [(.int .i64 q0), (.int .i64 q1), (.int .i64 q2), (.int .i64 q3), (.bool q4), (.int .i64 q5)]) = (True, .bool (decide ((⟨(⟨p0, p1, p2, p3⟩ : Rc), p4, p5⟩ : Ct) = ⟨(⟨q0, q1, q2, q3⟩ : Rc), q4, q5⟩))) := eq_Ct ⟨(⟨p0, p1, p2, p3⟩ : Rc), p4, p5⟩ ⟨(⟨q0, q1, q2, q3⟩ : Rc), q4, q5⟩
@[go_sem] theorem ne1_Ct (a : Ct) (q0 : Int) (q1 : Int) (q2 : Int) (q3 : Int) (q4 : Bool) (q5 : Int) : binT Try.prog 77 .neq (encCt a) (agg [(.int .i64 q0), (.int .i64 q1), (.int .i64 q2), (.int .i64 q3), (.bool q4), (.int .i64 q5)]) = (True, .bool (!decide (a = ⟨(⟨q0, q1, q2, q3⟩ : Rc), q4, q5⟩))) := ne_Ct a ⟨(⟨q0, q1, q2, q3⟩ : Rc), q4, q5⟩
@[go_sem] theorem ne2_Ct (a : Ct) (q0 : Int) (q1 : Int) (q2 : Int) (q3 : Int) (q4 : Bool) (q5 : Int) : binT Try.prog 77 .neq (agg [(.int .i64 q0), (.int .i64 q1), (.int .i64 q2), (.int .i64 q3), (.bool q4), (.int .i64 q5)]) (encCt a) = (True, .bool (!decide ((⟨(⟨q0, q1, q2, q3⟩ : Rc), q4, q5⟩ : Ct) = a))) := ne_Ct ⟨(⟨q0, q1, q2, q3⟩ : Rc), q4, q5⟩ a
@[go_sem] theorem ne3_Ct (p0 : Int) (p1 : Int) (p2 : Int) (p3 : Int) (p4 : Bool) (p5 : Int) (q0 : Int) (q1 : Int) (q2 : Int) (q3 : Int) (q4 : Bool) (q5 : Int) : binT Try.prog 77 .neq (agg [(.int .i64 p0), (.int .i64 p1), (.int .i64 p2), (.int .i64 p3), (.bool p4), (.int .i64 p5)]) (agg [(.int .i64 q0), (.int .i64 q1), (.int .i64 q2), (.int .i64 q3), (.bool q4), (.int .i64 q5)]) = (True, .bool (!decide ((⟨(⟨p0, p1, p2, p3⟩ : Rc), p4, p5⟩ : Ct) = ⟨(⟨q0, q1, q2, q3⟩ : Rc), q4, q5⟩))) := ne_Ct ⟨(⟨p0, p1, p2, p3⟩ : Rc), p4, p5⟩ ⟨(⟨q0, q1, q2, q3⟩ : Rc), q4, q5⟩
@[go_sem] theorem bd_Rc (v0 v1 v2 v3 : AVal) : buildF Try.prog 42 [(0, v0), (1, v1), (2, v2), (3, v3)] = agg [v0.part 0 1 false, v1.part 0 1 false, v2.part 0 1 false, v3.part 0 1 false] := by simp only [buildF, go_sem, List.foldl]; try first | rfl | (unfold agg; congr 1; funext j; rcases j with _ | _ | _ | _ |  j <;> first | rfl | (simp [lst, go_sem, agg, AVal.part]; done) | (simp [lst, go_sem, agg, AVal.part]; omega))
@[go_sem] theorem bd_Rc23 (v2 v3 : AVal) : buildF Try.prog 42 [(2, v2), (3, v3)] = agg [.int .i64 0, .int .i64 0, v2.part 0 1 false, v3.part 0 1 false] := by simp only [buildF, go_sem, List.foldl]; try first | rfl | (unfold agg; congr 1; funext j; rcases j with _ | _ | _ | _ |  j <;> first | rfl | (simp [lst, go_sem, agg, AVal.part]; done) | (simp [lst, go_sem, agg, AVal.part]; omega))
@[go_sem] theorem bd_Pt (v0 v1 : AVal) : buildF Try.prog 32 [(0, v0), (1, v1)] = agg [v0.part 0 1 false, v1.part 0 1 false] := by simp only [buildF, go_sem, List.foldl]; try first | rfl | (unfold agg; congr 1; funext j; rcases j with _ | _ |  j <;> first | rfl | (simp [lst, go_sem, agg, AVal.part]; done) | (simp [lst, go_sem, agg, AVal.part]; omega))
@[go_sem] theorem bd_Sh (v0 v1 : AVal) : buildF Try.prog 83 [(0, v0), (1, v1)] = agg [v0.part 0 1 false, v1.part 0 1 false] := by simp only [buildF, go_sem, List.foldl]; try first | rfl | (unfold agg; congr 1; funext j; rcases j with _ | _ |  j <;> first | rfl | (simp [lst, go_sem, agg, AVal.part]; done) | (simp [lst, go_sem, agg, AVal.part]; omega))
@[go_sem] theorem bd_Sh1 (v1 : AVal) : buildF Try.prog 83 [(1, v1)] = agg [.int .i64 0, v1.part 0 1 false] := by simp only [buildF, go_sem, List.foldl]; try first | rfl | (unfold agg; congr 1; funext j; rcases j with _ | _ |  j <;> first | rfl | (simp [lst, go_sem, agg, AVal.part]; done) | (simp [lst, go_sem, agg, AVal.part]; omega))
@[go_sem] theorem bd_Tn1 (v1 : AVal) : buildF Try.prog 46 [(1, v1)] = agg [.bool false, v1.part 0 1 false, .int .i64 0, .int .i64 0] := by simp only [buildF, go_sem, List.foldl]; try first | rfl | (unfold agg; congr 1; funext j; rcases j with _ | _ | _ | _ |  j <;> first | rfl | (simp [lst, go_sem, agg, AVal.part]; done) | (simp [lst, go_sem, agg, AVal.part]; omega))
@[go_sem] theorem bd_Tn12 (v1 v2 : AVal) : buildF Try.prog 46 [(1, v1), (2, v2)] = agg [.bool false, v1.part 0 1 false, v2.part 0 1 false, v2.part 1 1 false] := by simp only [buildF, go_sem, List.foldl]; try first | rfl | (unfold agg; congr 1; funext j; rcases j with _ | _ | _ | _ |  j <;> first | rfl | (simp [lst, go_sem, agg, AVal.part]; done) | (simp [lst, go_sem, agg, AVal.part]; omega))
@[go_sem] theorem bd_Kd (v0 v1 v2 : AVal) : buildF Try.prog 92 [(0, v0), (1, v1), (2, v2)] = agg [v0.part 0 1 false, v1.part 0 1 false, v2.part 0 1 false] := by simp only [buildF, go_sem, List.foldl]; try first | rfl | (unfold agg; congr 1; funext j; rcases j with _ | _ | _ |  j <;> first | rfl | (simp [lst, go_sem, agg, AVal.part]; done) | (simp [lst, go_sem, agg, AVal.part]; omega))
@[go_sem] theorem bd_Sl (v0 v1 v2 : AVal) : buildF Try.prog 34 [(0, v0), (1, v1), (2, v2)] = agg [v0.part 0 1 false, v1.part 0 1 false, v2.part 0 1 false, v2.part 1 1 false] := by simp only [buildF, go_sem, List.foldl]; try first | rfl | (unfold agg; congr 1; funext j; rcases j with _ | _ | _ | _ |  j <;> first | rfl | (simp [lst, go_sem, agg, AVal.part]; done) | (simp [lst, go_sem, agg, AVal.part]; omega))
@[go_sem] theorem bd_Ct (v0 v1 v2 : AVal) : buildF Try.prog 77 [(0, v0), (1, v1), (2, v2)] = agg [v0.part 0 1 false, v0.part 1 1 false, v0.part 2 1 false, v0.part 3 1 false, v1.part 0 1 false, v2.part 0 1 false] := by simp only [buildF, go_sem, List.foldl]; try first | rfl | (unfold agg; congr 1; funext j; rcases j with _ | _ | _ | _ | _ | _ |  j <;> first | rfl | (simp [lst, go_sem, agg, AVal.part]; done) | (simp [lst, go_sem, agg, AVal.part]; omega))
@[go_sem] theorem bd_Pn01 (v0 v1 : AVal) : buildF Try.prog 26 [(0, v0), (1, v1)] = agg [v0.part 0 1 false, v1.part 0 1 false, .int .i64 0, .int .i64 0, .nilsl, .nilsl, .nilsl] := by simp only [buildF, go_sem, List.foldl]; try first | rfl | (unfold agg; congr 1; funext j; rcases j with _ | _ | _ | _ | _ | _ | _ |  j <;> first | rfl | (simp [lst, go_sem, agg, AVal.part]; done) | (simp [lst, go_sem, agg, AVal.part]; omega))
@[go_sem] theorem bd_Sh0 : buildF Try.prog 83 [] = agg [.int .i64 0, .int .i64 0] := by simp only [buildF, go_sem, List.foldl]; try first | rfl | (unfold agg; congr 1; funext j; rcases j with _ | _ |  j <;> first | rfl | (simp [lst, go_sem, agg, AVal.part]; done) | (simp [lst, go_sem, agg, AVal.part]; omega))
@[go_sem] theorem bd_Pn0 : buildF Try.prog 26 [] = agg [.int .i64 0, .int .i64 0, .int .i64 0, .int .i64 0, .nilsl, .nilsl, .nilsl] := by simp only [buildF, go_sem, List.foldl]; try first | rfl | (unfold agg; congr 1; funext j; rcases j with _ | _ | _ | _ | _ | _ | _ |  j <;> first | rfl | (simp [lst, go_sem, agg, AVal.part]; done) | (simp [lst, go_sem, agg, AVal.part]; omega))
@[go_sem] theorem bd_Tn0 : buildF Try.prog 46 [] = agg [.bool false, .int .i64 0, .int .i64 0, .int .i64 0] := by simp only [buildF, go_sem, List.foldl]; try first | rfl | (unfold agg; congr 1; funext j; rcases j with _ | _ | _ | _ |  j <;> first | rfl | (simp [lst, go_sem, agg, AVal.part]; done) | (simp [lst, go_sem, agg, AVal.part]; omega))
@[go_sem] theorem bd_Pt0 : buildF Try.prog 32 [] = agg [.int .i64 0, .int .i64 0] := by simp only [buildF, go_sem, List.foldl]; try first | rfl | (unfold agg; congr 1; funext j; rcases j with _ | _ |  j <;> first | rfl | (simp [lst, go_sem, agg, AVal.part]; done) | (simp [lst, go_sem, agg, AVal.part]; omega))
end Go.Aw
