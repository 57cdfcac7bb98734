/- What Lean must know of the seat's types. Printed by nwty.py (ours). -/
import Derived.Test.YtjjnepcdiajppaaNwGlue
import Derived.Test.YtjjnepcdiajppaaProg
import Derived.KernelRfl
namespace Go.Nw
open Go.Proofs
set_option linter.unusedVariables false
set_option linter.unusedSimpArgs false
set_option maxRecDepth 10000
@[go_sem] theorem sz_t2 : szT Try.prog 2 = 1 := by kernel_rfl
@[go_sem] theorem ag_t2 : aggT Try.prog 2 = false := by kernel_rfl
@[go_sem] theorem st_t2 : strT Try.prog 2 = false := by kernel_rfl
@[go_sem] theorem by_t2 : byT Try.prog 2 = 8 := by kernel_rfl
@[go_sem] theorem ze_t2 : zeroT Try.prog 2 = .int .i64 0 := by kernel_rfl
@[go_sem] theorem ki_t2 : kindT Try.prog 2 = some .i64 := by kernel_rfl
@[go_sem] theorem sz_t3 : szT Try.prog 3 = 1 := by kernel_rfl
@[go_sem] theorem ag_t3 : aggT Try.prog 3 = false := by kernel_rfl
@[go_sem] theorem st_t3 : strT Try.prog 3 = false := by kernel_rfl
@[go_sem] theorem by_t3 : byT Try.prog 3 = 8 := by kernel_rfl
@[go_sem] theorem ze_t3 : zeroT Try.prog 3 = .int .i64 0 := by kernel_rfl
@[go_sem] theorem ki_t3 : kindT Try.prog 3 = some .i64 := by kernel_rfl
@[go_sem] theorem sz_t4 : szT Try.prog 4 = 1 := by kernel_rfl
@[go_sem] theorem ag_t4 : aggT Try.prog 4 = false := by kernel_rfl
@[go_sem] theorem st_t4 : strT Try.prog 4 = false := by kernel_rfl
@[go_sem] theorem by_t4 : byT Try.prog 4 = 1 := by kernel_rfl
@[go_sem] theorem ze_t4 : zeroT Try.prog 4 = .bool false := by kernel_rfl
@[go_sem] theorem un_t4 : (Try.prog.underlying 4 = some .bool) = True := eq_true (by kernel_rfl)
@[go_sem] theorem sz_t5 : szT Try.prog 5 = 1 := by kernel_rfl
@[go_sem] theorem ag_t5 : aggT Try.prog 5 = false := by kernel_rfl
@[go_sem] theorem st_t5 : strT Try.prog 5 = false := by kernel_rfl
@[go_sem] theorem by_t5 : byT Try.prog 5 = 1 := by kernel_rfl
@[go_sem] theorem ze_t5 : zeroT Try.prog 5 = .int .u8 0 := by kernel_rfl
@[go_sem] theorem ki_t5 : kindT Try.prog 5 = some .u8 := by kernel_rfl
@[go_sem] theorem sz_t6 : szT Try.prog 6 = 1 := by kernel_rfl
@[go_sem] theorem ag_t6 : aggT Try.prog 6 = false := by kernel_rfl
@[go_sem] theorem st_t6 : strT Try.prog 6 = false := by kernel_rfl
@[go_sem] theorem by_t6 : byT Try.prog 6 = 1 := by kernel_rfl
@[go_sem] theorem ze_t6 : zeroT Try.prog 6 = .int .u8 0 := by kernel_rfl
@[go_sem] theorem ki_t6 : kindT Try.prog 6 = some .u8 := by kernel_rfl
@[go_sem] theorem sz_t9 : szT Try.prog 9 = 1 := by kernel_rfl
@[go_sem] theorem ag_t9 : aggT Try.prog 9 = false := by kernel_rfl
@[go_sem] theorem st_t9 : strT Try.prog 9 = true := by kernel_rfl
@[go_sem] theorem by_t9 : byT Try.prog 9 = 16 := by kernel_rfl
@[go_sem] theorem ze_t9 : zeroT Try.prog 9 = .str ByteArray.empty := by kernel_rfl
@[go_sem] theorem sz_t10 : szT Try.prog 10 = 1 := by kernel_rfl
@[go_sem] theorem ag_t10 : aggT Try.prog 10 = false := by kernel_rfl
@[go_sem] theorem st_t10 : strT Try.prog 10 = true := by kernel_rfl
@[go_sem] theorem by_t10 : byT Try.prog 10 = 16 := by kernel_rfl
@[go_sem] theorem ze_t10 : zeroT Try.prog 10 = .str ByteArray.empty := by kernel_rfl
@[go_sem] theorem sz_t11 : szT Try.prog 11 = 1 := by kernel_rfl
@[go_sem] theorem ag_t11 : aggT Try.prog 11 = false := by kernel_rfl
@[go_sem] theorem st_t11 : strT Try.prog 11 = true := by kernel_rfl
@[go_sem] theorem by_t11 : byT Try.prog 11 = 16 := by kernel_rfl
@[go_sem] theorem ze_t11 : zeroT Try.prog 11 = .str ByteArray.empty := by kernel_rfl
@[go_sem] theorem sz_t12 : szT Try.prog 12 = 1 := by kernel_rfl
@[go_sem] theorem ag_t12 : aggT Try.prog 12 = false := by kernel_rfl
@[go_sem] theorem st_t12 : strT Try.prog 12 = false := by kernel_rfl
@[go_sem] theorem by_t12 : byT Try.prog 12 = 8 := by kernel_rfl
@[go_sem] theorem ze_t12 : zeroT Try.prog 12 = .int .u64 0 := by kernel_rfl
@[go_sem] theorem ki_t12 : kindT Try.prog 12 = some .u64 := by kernel_rfl
@[go_sem] theorem sz_t21 : szT Try.prog 21 = 1 := by kernel_rfl
@[go_sem] theorem ag_t21 : aggT Try.prog 21 = false := by kernel_rfl
@[go_sem] theorem st_t21 : strT Try.prog 21 = false := by kernel_rfl
@[go_sem] theorem by_t21 : byT Try.prog 21 = 4 := by kernel_rfl
@[go_sem] theorem ze_t21 : zeroT Try.prog 21 = .int .i32 0 := by kernel_rfl
@[go_sem] theorem ki_t21 : kindT Try.prog 21 = some .i32 := by kernel_rfl
@[go_sem] theorem sz_t22 : szT Try.prog 22 = 1 := by kernel_rfl
@[go_sem] theorem ag_t22 : aggT Try.prog 22 = false := by kernel_rfl
@[go_sem] theorem st_t22 : strT Try.prog 22 = false := by kernel_rfl
@[go_sem] theorem by_t22 : byT Try.prog 22 = 24 := by kernel_rfl
@[go_sem] theorem ze_t22 : zeroT Try.prog 22 = .nilsl := by kernel_rfl
@[go_sem] theorem el_t22 : elT Try.prog 22 = 29 := by kernel_rfl
@[go_sem] theorem sl_t22 : slT Try.prog 22 = true := by kernel_rfl
@[go_sem] theorem sz_t23 : szT Try.prog 23 = 1 := by kernel_rfl
@[go_sem] theorem ag_t23 : aggT Try.prog 23 = false := by kernel_rfl
@[go_sem] theorem st_t23 : strT Try.prog 23 = false := by kernel_rfl
@[go_sem] theorem by_t23 : byT Try.prog 23 = 8 := by kernel_rfl
@[go_sem] theorem ze_t23 : zeroT Try.prog 23 = .int .i64 0 := by kernel_rfl
@[go_sem] theorem ki_t23 : kindT Try.prog 23 = some .i64 := by kernel_rfl
@[go_sem] theorem sz_t52 : szT Try.prog 52 = 1 := by kernel_rfl
@[go_sem] theorem ag_t52 : aggT Try.prog 52 = false := by kernel_rfl
@[go_sem] theorem st_t52 : strT Try.prog 52 = false := by kernel_rfl
@[go_sem] theorem by_t52 : byT Try.prog 52 = 24 := by kernel_rfl
@[go_sem] theorem ze_t52 : zeroT Try.prog 52 = .nilsl := by kernel_rfl
@[go_sem] theorem el_t52 : elT Try.prog 52 = 22 := by kernel_rfl
@[go_sem] theorem sl_t52 : slT Try.prog 52 = true := by kernel_rfl
@[go_sem] theorem sz_t53 : szT Try.prog 53 = 1 := by kernel_rfl
@[go_sem] theorem ag_t53 : aggT Try.prog 53 = false := by kernel_rfl
@[go_sem] theorem st_t53 : strT Try.prog 53 = false := by kernel_rfl
@[go_sem] theorem by_t53 : byT Try.prog 53 = 24 := by kernel_rfl
@[go_sem] theorem ze_t53 : zeroT Try.prog 53 = .nilsl := by kernel_rfl
@[go_sem] theorem el_t53 : elT Try.prog 53 = 58 := by kernel_rfl
@[go_sem] theorem sl_t53 : slT Try.prog 53 = true := by kernel_rfl
@[go_sem] theorem sz_t67 : szT Try.prog 67 = 1 := by kernel_rfl
@[go_sem] theorem ag_t67 : aggT Try.prog 67 = false := by kernel_rfl
@[go_sem] theorem st_t67 : strT Try.prog 67 = false := by kernel_rfl
@[go_sem] theorem by_t67 : byT Try.prog 67 = 24 := by kernel_rfl
@[go_sem] theorem ze_t67 : zeroT Try.prog 67 = .nilsl := by kernel_rfl
@[go_sem] theorem el_t67 : elT Try.prog 67 = 100 := by kernel_rfl
@[go_sem] theorem sl_t67 : slT Try.prog 67 = true := by kernel_rfl
@[go_sem] theorem sz_t68 : szT Try.prog 68 = 1 := by kernel_rfl
@[go_sem] theorem ag_t68 : aggT Try.prog 68 = false := by kernel_rfl
@[go_sem] theorem st_t68 : strT Try.prog 68 = false := by kernel_rfl
@[go_sem] theorem by_t68 : byT Try.prog 68 = 24 := by kernel_rfl
@[go_sem] theorem ze_t68 : zeroT Try.prog 68 = .nilsl := by kernel_rfl
@[go_sem] theorem el_t68 : elT Try.prog 68 = 100 := by kernel_rfl
@[go_sem] theorem sl_t68 : slT Try.prog 68 = true := by kernel_rfl
@[go_sem] theorem sz_t85 : szT Try.prog 85 = 1 := by kernel_rfl
@[go_sem] theorem ag_t85 : aggT Try.prog 85 = false := by kernel_rfl
@[go_sem] theorem st_t85 : strT Try.prog 85 = false := by kernel_rfl
@[go_sem] theorem by_t85 : byT Try.prog 85 = 24 := by kernel_rfl
@[go_sem] theorem ze_t85 : zeroT Try.prog 85 = .nilsl := by kernel_rfl
@[go_sem] theorem el_t85 : elT Try.prog 85 = 68 := by kernel_rfl
@[go_sem] theorem sl_t85 : slT Try.prog 85 = true := by kernel_rfl
@[go_sem] theorem sz_t93 : szT Try.prog 93 = 1 := by kernel_rfl
@[go_sem] theorem ag_t93 : aggT Try.prog 93 = false := by kernel_rfl
@[go_sem] theorem st_t93 : strT Try.prog 93 = false := by kernel_rfl
@[go_sem] theorem by_t93 : byT Try.prog 93 = 24 := by kernel_rfl
@[go_sem] theorem ze_t93 : zeroT Try.prog 93 = .nilsl := by kernel_rfl
@[go_sem] theorem el_t93 : elT Try.prog 93 = 3 := by kernel_rfl
@[go_sem] theorem sl_t93 : slT Try.prog 93 = true := by kernel_rfl
@[go_sem] theorem sz_t102 : szT Try.prog 102 = 1 := by kernel_rfl
@[go_sem] theorem ag_t102 : aggT Try.prog 102 = false := by kernel_rfl
@[go_sem] theorem st_t102 : strT Try.prog 102 = false := by kernel_rfl
@[go_sem] theorem by_t102 : byT Try.prog 102 = 24 := by kernel_rfl
@[go_sem] theorem ze_t102 : zeroT Try.prog 102 = .nilsl := by kernel_rfl
@[go_sem] theorem el_t102 : elT Try.prog 102 = 107 := by kernel_rfl
@[go_sem] theorem sl_t102 : slT Try.prog 102 = true := by kernel_rfl
@[go_sem] theorem sz_t104 : szT Try.prog 104 = 1 := by kernel_rfl
@[go_sem] theorem ag_t104 : aggT Try.prog 104 = false := by kernel_rfl
@[go_sem] theorem st_t104 : strT Try.prog 104 = false := by kernel_rfl
@[go_sem] theorem by_t104 : byT Try.prog 104 = 24 := by kernel_rfl
@[go_sem] theorem ze_t104 : zeroT Try.prog 104 = .nilsl := by kernel_rfl
@[go_sem] theorem el_t104 : elT Try.prog 104 = 131 := by kernel_rfl
@[go_sem] theorem sl_t104 : slT Try.prog 104 = true := by kernel_rfl
@[go_sem] theorem sz_t123 : szT Try.prog 123 = 1 := by kernel_rfl
@[go_sem] theorem ag_t123 : aggT Try.prog 123 = false := by kernel_rfl
@[go_sem] theorem st_t123 : strT Try.prog 123 = false := by kernel_rfl
@[go_sem] theorem by_t123 : byT Try.prog 123 = 8 := by kernel_rfl
@[go_sem] theorem ze_t123 : zeroT Try.prog 123 = .int .u64 0 := by kernel_rfl
@[go_sem] theorem ki_t123 : kindT Try.prog 123 = some .u64 := by kernel_rfl
@[go_sem] theorem sz_t138 : szT Try.prog 138 = 1 := by kernel_rfl
@[go_sem] theorem ag_t138 : aggT Try.prog 138 = false := by kernel_rfl
@[go_sem] theorem st_t138 : strT Try.prog 138 = false := by kernel_rfl
@[go_sem] theorem by_t138 : byT Try.prog 138 = 8 := by kernel_rfl
@[go_sem] theorem ze_t138 : zeroT Try.prog 138 = .int .i64 0 := by kernel_rfl
@[go_sem] theorem ki_t138 : kindT Try.prog 138 = some .i64 := by kernel_rfl
@[go_sem] theorem sz_t145 : szT Try.prog 145 = 1 := by kernel_rfl
@[go_sem] theorem ag_t145 : aggT Try.prog 145 = false := by kernel_rfl
@[go_sem] theorem st_t145 : strT Try.prog 145 = false := by kernel_rfl
@[go_sem] theorem by_t145 : byT Try.prog 145 = 4 := by kernel_rfl
@[go_sem] theorem ze_t145 : zeroT Try.prog 145 = .int .u32 0 := by kernel_rfl
@[go_sem] theorem ki_t145 : kindT Try.prog 145 = some .u32 := by kernel_rfl
@[go_sem] theorem sz_t147 : szT Try.prog 147 = 1 := by kernel_rfl
@[go_sem] theorem ag_t147 : aggT Try.prog 147 = false := by kernel_rfl
@[go_sem] theorem st_t147 : strT Try.prog 147 = false := by kernel_rfl
@[go_sem] theorem by_t147 : byT Try.prog 147 = 8 := by kernel_rfl
@[go_sem] theorem ze_t147 : zeroT Try.prog 147 = .int .u64 0 := by kernel_rfl
@[go_sem] theorem ki_t147 : kindT Try.prog 147 = some .u64 := by kernel_rfl
@[go_sem] theorem sz_t154 : szT Try.prog 154 = 1 := by kernel_rfl
@[go_sem] theorem ag_t154 : aggT Try.prog 154 = false := by kernel_rfl
@[go_sem] theorem st_t154 : strT Try.prog 154 = false := by kernel_rfl
@[go_sem] theorem by_t154 : byT Try.prog 154 = 8 := by kernel_rfl
@[go_sem] theorem ze_t154 : zeroT Try.prog 154 = .int .u64 0 := by kernel_rfl
@[go_sem] theorem ki_t154 : kindT Try.prog 154 = some .u64 := by kernel_rfl
@[go_sem] theorem sz_t172 : szT Try.prog 172 = 1 := by kernel_rfl
@[go_sem] theorem ag_t172 : aggT Try.prog 172 = false := by kernel_rfl
@[go_sem] theorem st_t172 : strT Try.prog 172 = false := by kernel_rfl
@[go_sem] theorem by_t172 : byT Try.prog 172 = 1 := by kernel_rfl
@[go_sem] theorem ze_t172 : zeroT Try.prog 172 = .int .u8 0 := by kernel_rfl
@[go_sem] theorem ki_t172 : kindT Try.prog 172 = some .u8 := by kernel_rfl
@[go_sem] theorem sz_t173 : szT Try.prog 173 = 1 := by kernel_rfl
@[go_sem] theorem ag_t173 : aggT Try.prog 173 = false := by kernel_rfl
@[go_sem] theorem st_t173 : strT Try.prog 173 = false := by kernel_rfl
@[go_sem] theorem by_t173 : byT Try.prog 173 = 1 := by kernel_rfl
@[go_sem] theorem ze_t173 : zeroT Try.prog 173 = .int .u8 0 := by kernel_rfl
@[go_sem] theorem ki_t173 : kindT Try.prog 173 = some .u8 := by kernel_rfl
@[go_sem] theorem sz_t176 : szT Try.prog 176 = 1 := by kernel_rfl
@[go_sem] theorem ag_t176 : aggT Try.prog 176 = false := by kernel_rfl
@[go_sem] theorem st_t176 : strT Try.prog 176 = false := by kernel_rfl
@[go_sem] theorem by_t176 : byT Try.prog 176 = 4 := by kernel_rfl
@[go_sem] theorem ze_t176 : zeroT Try.prog 176 = .int .i32 0 := by kernel_rfl
@[go_sem] theorem ki_t176 : kindT Try.prog 176 = some .i32 := by kernel_rfl
@[go_sem] theorem sz_t177 : szT Try.prog 177 = 1 := by kernel_rfl
@[go_sem] theorem ag_t177 : aggT Try.prog 177 = false := by kernel_rfl
@[go_sem] theorem st_t177 : strT Try.prog 177 = false := by kernel_rfl
@[go_sem] theorem by_t177 : byT Try.prog 177 = 4 := by kernel_rfl
@[go_sem] theorem ze_t177 : zeroT Try.prog 177 = .int .i32 0 := by kernel_rfl
@[go_sem] theorem ki_t177 : kindT Try.prog 177 = some .i32 := by kernel_rfl
@[ext] structure TRect where
  X0 : Int := 0
  Y0 : Int := 0
  X1 : Int := 0
  Y1 : Int := 0
  deriving Inhabited, DecidableEq
def encTRect (a : TRect) : AVal := agg [(.int .i64 a.X0), (.int .i64 a.Y0), (.int .i64 a.X1), (.int .i64 a.Y1)]
instance : Nml encTRect := ⟨fun a => by simp only [encTRect, go_sem], fun κ a => by simp only [encTRect, ren_agg, map_ren_cons, map_ren_nil, go_sem]⟩
def okTRect (a : TRect) : Prop := (-9223372036854775808 ≤ a.X0 ∧ a.X0 ≤ 9223372036854775807) ∧ (-9223372036854775808 ≤ a.Y0 ∧ a.Y0 ≤ 9223372036854775807) ∧ (-9223372036854775808 ≤ a.X1 ∧ a.X1 ≤ 9223372036854775807) ∧ (-9223372036854775808 ≤ a.Y1 ∧ a.Y1 ≤ 9223372036854775807)
@[go_sem] theorem nm_TRect (a : TRect) : (encTRect a).nameless = True := by simp only [encTRect, go_sem]
@[go_sem] theorem ren_TRect (κ : Key → Key) (a : TRect) : (encTRect a).ren κ = encTRect a := by simp only [encTRect, ren_agg, map_ren_cons, map_ren_nil, go_sem]
@[go_sem] theorem nA_TRect (a : TRect) : namesA (encTRect a) = [] := rfl
@[go_sem] theorem fr_TRect (a : TRect) : (encTRect a).free = True := by simp only [encTRect, go_sem]
instance : Fre encTRect := ⟨fun a => by simp only [fr_TRect]⟩
@[go_sem] theorem cells_TRect (a : TRect) : (encTRect a).cells = 4 := rfl
@[go_sem] theorem known_TRect (a : TRect) : (encTRect a).known = true := rfl
@[go_sem] theorem strip_TRect (a : TRect) : (encTRect a).strip = encTRect a := rfl
@[go_sem] theorem okw_TRect (a : TRect) (g : Bool) : (encTRect a).okw g = True := rfl
@[go_sem] theorem pok_TRect (a : TRect) (o s : Nat) (b : Bool) : partOk (encTRect a) o s b = (o + s ≤ 4) := rfl
@[go_sem] theorem part_TRect_0 (a : TRect) : (encTRect a).part 0 1 false = (.int .i64 a.X0) := rfl
@[go_sem] theorem part_TRect_1 (a : TRect) : (encTRect a).part 1 1 false = (.int .i64 a.Y0) := rfl
@[go_sem] theorem part_TRect_2 (a : TRect) : (encTRect a).part 2 1 false = (.int .i64 a.X1) := rfl
@[go_sem] theorem part_TRect_3 (a : TRect) : (encTRect a).part 3 1 false = (.int .i64 a.Y1) := rfl
@[go_sem] theorem all_TRect (a : TRect) : (encTRect a).part 0 4 true = encTRect a := by
  simp only [encTRect, agg, AVal.part, if_true, List.length]; congr 1; funext j; rcases j with _ | _ | _ | _ | j <;> first | rfl | simp [lst]
@[go_sem] theorem putOk_TRect (a : TRect) (o : Nat) (x : AVal) : putOk (encTRect a) o x = (o + x.cells ≤ 4) := rfl
@[go_sem] theorem putP_TRect (a b : TRect) : putPart (encTRect a) 0 (encTRect b) = encTRect b := rfl
@[go_sem] theorem putPl_TRect (v0 v1 v2 v3 : AVal) (b : TRect) : putPart (agg [v0, v1, v2, v3]) 0 (encTRect b) = encTRect b := rfl
@[go_sem] theorem putPr_TRect (v0 v1 v2 v3 : AVal) (a : TRect) : putPart (encTRect a) 0 (agg [v0, v1, v2, v3]) = agg [v0, v1, v2, v3] := rfl
@[go_sem] theorem put_TRect_X0 (a : TRect) (b : Int) : putPart (encTRect a) 0 ((.int .i64 b)) = encTRect { a with X0 := b } := by
  simp only [encTRect, agg, putPart, List.length]; congr 1; funext j; rcases j with _ | _ | _ | _ | j <;> first | rfl | simp [lst]
@[go_sem] theorem put_TRect_Y0 (a : TRect) (b : Int) : putPart (encTRect a) 1 ((.int .i64 b)) = encTRect { a with Y0 := b } := by
  simp only [encTRect, agg, putPart, List.length]; congr 1; funext j; rcases j with _ | _ | _ | _ | j <;> first | rfl | simp [lst]
@[go_sem] theorem put_TRect_X1 (a : TRect) (b : Int) : putPart (encTRect a) 2 ((.int .i64 b)) = encTRect { a with X1 := b } := by
  simp only [encTRect, agg, putPart, List.length]; congr 1; funext j; rcases j with _ | _ | _ | _ | j <;> first | rfl | simp [lst]
@[go_sem] theorem put_TRect_Y1 (a : TRect) (b : Int) : putPart (encTRect a) 3 ((.int .i64 b)) = encTRect { a with Y1 := b } := by
  simp only [encTRect, agg, putPart, List.length]; congr 1; funext j; rcases j with _ | _ | _ | _ | j <;> first | rfl | simp [lst]
@[go_sem] theorem sz_TRect : szT Try.prog 29 = 4 := by kernel_rfl
@[go_sem] theorem ag_TRect : aggT Try.prog 29 = true := by kernel_rfl
@[go_sem] theorem st_TRect : strT Try.prog 29 = false := by kernel_rfl
@[go_sem] theorem by_TRect : byT Try.prog 29 = 32 := by kernel_rfl
@[go_sem] theorem sz_TRect_u : szT Try.prog 28 = 4 := by kernel_rfl
@[go_sem] theorem ag_TRect_u : aggT Try.prog 28 = true := by kernel_rfl
@[go_sem] theorem st_TRect_u : strT Try.prog 28 = false := by kernel_rfl
@[go_sem] theorem by_TRect_u : byT Try.prog 28 = 32 := by kernel_rfl
@[go_sem] theorem fo_TRect_X0 : foffT Try.prog 29 0 = 0 := by kernel_rfl
@[go_sem] theorem ft_TRect_X0 : ftyT Try.prog 29 0 = 3 := by kernel_rfl
@[go_sem] theorem fo_TRect_Y0 : foffT Try.prog 29 1 = 1 := by kernel_rfl
@[go_sem] theorem ft_TRect_Y0 : ftyT Try.prog 29 1 = 3 := by kernel_rfl
@[go_sem] theorem fo_TRect_X1 : foffT Try.prog 29 2 = 2 := by kernel_rfl
@[go_sem] theorem ft_TRect_X1 : ftyT Try.prog 29 2 = 3 := by kernel_rfl
@[go_sem] theorem fo_TRect_Y1 : foffT Try.prog 29 3 = 3 := by kernel_rfl
@[go_sem] theorem ft_TRect_Y1 : ftyT Try.prog 29 3 = 3 := by kernel_rfl
@[go_sem] theorem fo_u_TRect_X0 : foffT Try.prog 28 0 = 0 := by kernel_rfl
@[go_sem] theorem ft_u_TRect_X0 : ftyT Try.prog 28 0 = 3 := by kernel_rfl
@[go_sem] theorem fo_u_TRect_Y0 : foffT Try.prog 28 1 = 1 := by kernel_rfl
@[go_sem] theorem ft_u_TRect_Y0 : ftyT Try.prog 28 1 = 3 := by kernel_rfl
@[go_sem] theorem fo_u_TRect_X1 : foffT Try.prog 28 2 = 2 := by kernel_rfl
@[go_sem] theorem ft_u_TRect_X1 : ftyT Try.prog 28 2 = 3 := by kernel_rfl
@[go_sem] theorem fo_u_TRect_Y1 : foffT Try.prog 28 3 = 3 := by kernel_rfl
@[go_sem] theorem ft_u_TRect_Y1 : ftyT Try.prog 28 3 = 3 := by kernel_rfl
@[go_sem] theorem ze_TRect : zeroT Try.prog 29 = encTRect {} := (show zeroT Try.prog 29 = ofConst (.agg #[.int .i64 0, .int .i64 0, .int .i64 0, .int .i64 0]) by kernel_rfl).trans (ofConst_agg _)
theorem eqOk_TRect : EqOk Try.prog 29 4 fun j => ([.int .i64, .int .i64, .int .i64, .int .i64] : List LK).getD j .bool := eqOk_of (by kernel_rfl) (by kernel_rfl) (by decide) (by kernel_rfl)
theorem aeq_TRect (a b : TRect) : aeq 4 (lst [(.int .i64 a.X0), (.int .i64 a.Y0), (.int .i64 a.X1), (.int .i64 a.Y1)]) (lst [(.int .i64 b.X0), (.int .i64 b.Y0), (.int .i64 b.X1), (.int .i64 b.Y1)]) = decide (a = b) := by
  rw [Bool.eq_iff_iff]
  simp [aeq, List.range_succ, lst, leafEq, and_assoc, TRect.ext_iff]
@[go_sem] theorem eq_TRect (a b : TRect) : binT Try.prog 29 .eql (encTRect a) (encTRect b) = (True, .bool (decide (a = b))) := Prod.ext (eq_true (⟨_, eqOk_TRect, rfl, fun j hj => by rcases j with _ | _ | _ | _ |  j <;> first | exact ⟨rfl, rfl⟩ | exact ⟨trivial, trivial⟩ | (simp only [List.length_cons, List.length_nil] at hj; omega)⟩)) (congrArg AVal.bool (aeq_TRect a b))
@[go_sem] theorem ne_TRect (a b : TRect) : binT Try.prog 29 .neq (encTRect a) (encTRect b) = (True, .bool (!decide (a = b))) := Prod.ext (eq_true (⟨_, eqOk_TRect, rfl, fun j hj => by rcases j with _ | _ | _ | _ |  j <;> first | exact ⟨rfl, rfl⟩ | exact ⟨trivial, trivial⟩ | (simp only [List.length_cons, List.length_nil] at hj; omega)⟩)) (congrArg (fun b => AVal.bool (!b)) (aeq_TRect a b))
@[go_sem] theorem mkL_TRect (a : TRect) (l : List AVal) : mkL (encTRect a :: l) = mkP encTRect [a] l := rfl
@[go_sem] theorem mkP_TRect (acc : List TRect) (a : TRect) (l : List AVal) : mkP encTRect acc (encTRect a :: l) = mkP encTRect (acc ++ [a]) l := mkP_cons encTRect acc a l
@[go_sem] theorem getD_TRect (l : List TRect) (e : Nat) : (l.map encTRect).getD e (encTRect {}) = encTRect (l.getD e default) := getD_row (enc := encTRect) l e
@[ext] structure TPoint where
  X : Int := 0
  Y : Int := 0
  deriving Inhabited, DecidableEq
def encTPoint (a : TPoint) : AVal := agg [(.int .i64 a.X), (.int .i64 a.Y)]
instance : Nml encTPoint := ⟨fun a => by simp only [encTPoint, go_sem], fun κ a => by simp only [encTPoint, ren_agg, map_ren_cons, map_ren_nil, go_sem]⟩
def okTPoint (a : TPoint) : Prop := (-9223372036854775808 ≤ a.X ∧ a.X ≤ 9223372036854775807) ∧ (-9223372036854775808 ≤ a.Y ∧ a.Y ≤ 9223372036854775807)
@[go_sem] theorem nm_TPoint (a : TPoint) : (encTPoint a).nameless = True := by simp only [encTPoint, go_sem]
@[go_sem] theorem ren_TPoint (κ : Key → Key) (a : TPoint) : (encTPoint a).ren κ = encTPoint a := by simp only [encTPoint, ren_agg, map_ren_cons, map_ren_nil, go_sem]
@[go_sem] theorem nA_TPoint (a : TPoint) : namesA (encTPoint a) = [] := rfl
@[go_sem] theorem fr_TPoint (a : TPoint) : (encTPoint a).free = True := by simp only [encTPoint, go_sem]
instance : Fre encTPoint := ⟨fun a => by simp only [fr_TPoint]⟩
@[go_sem] theorem cells_TPoint (a : TPoint) : (encTPoint a).cells = 2 := rfl
@[go_sem] theorem known_TPoint (a : TPoint) : (encTPoint a).known = true := rfl
@[go_sem] theorem strip_TPoint (a : TPoint) : (encTPoint a).strip = encTPoint a := rfl
@[go_sem] theorem okw_TPoint (a : TPoint) (g : Bool) : (encTPoint a).okw g = True := rfl
@[go_sem] theorem pok_TPoint (a : TPoint) (o s : Nat) (b : Bool) : partOk (encTPoint a) o s b = (o + s ≤ 2) := rfl
@[go_sem] theorem part_TPoint_0 (a : TPoint) : (encTPoint a).part 0 1 false = (.int .i64 a.X) := rfl
@[go_sem] theorem part_TPoint_1 (a : TPoint) : (encTPoint a).part 1 1 false = (.int .i64 a.Y) := rfl
@[go_sem] theorem all_TPoint (a : TPoint) : (encTPoint a).part 0 2 true = encTPoint a := by
  simp only [encTPoint, agg, AVal.part, if_true, List.length]; congr 1; funext j; rcases j with _ | _ | j <;> first | rfl | simp [lst]
@[go_sem] theorem putOk_TPoint (a : TPoint) (o : Nat) (x : AVal) : putOk (encTPoint a) o x = (o + x.cells ≤ 2) := rfl
@[go_sem] theorem putP_TPoint (a b : TPoint) : putPart (encTPoint a) 0 (encTPoint b) = encTPoint b := rfl
@[go_sem] theorem putPl_TPoint (v0 v1 : AVal) (b : TPoint) : putPart (agg [v0, v1]) 0 (encTPoint b) = encTPoint b := rfl
@[go_sem] theorem putPr_TPoint (v0 v1 : AVal) (a : TPoint) : putPart (encTPoint a) 0 (agg [v0, v1]) = agg [v0, v1] := rfl
@[go_sem] theorem put_TPoint_X (a : TPoint) (b : Int) : putPart (encTPoint a) 0 ((.int .i64 b)) = encTPoint { a with X := b } := by
  simp only [encTPoint, agg, putPart, List.length]; congr 1; funext j; rcases j with _ | _ | j <;> first | rfl | simp [lst]
@[go_sem] theorem put_TPoint_Y (a : TPoint) (b : Int) : putPart (encTPoint a) 1 ((.int .i64 b)) = encTPoint { a with Y := b } := by
  simp only [encTPoint, agg, putPart, List.length]; congr 1; funext j; rcases j with _ | _ | j <;> first | rfl | simp [lst]
@[go_sem] theorem sz_TPoint : szT Try.prog 35 = 2 := by kernel_rfl
@[go_sem] theorem ag_TPoint : aggT Try.prog 35 = true := by kernel_rfl
@[go_sem] theorem st_TPoint : strT Try.prog 35 = false := by kernel_rfl
@[go_sem] theorem by_TPoint : byT Try.prog 35 = 16 := by kernel_rfl
@[go_sem] theorem sz_TPoint_u : szT Try.prog 34 = 2 := by kernel_rfl
@[go_sem] theorem ag_TPoint_u : aggT Try.prog 34 = true := by kernel_rfl
@[go_sem] theorem st_TPoint_u : strT Try.prog 34 = false := by kernel_rfl
@[go_sem] theorem by_TPoint_u : byT Try.prog 34 = 16 := by kernel_rfl
@[go_sem] theorem fo_TPoint_X : foffT Try.prog 35 0 = 0 := by kernel_rfl
@[go_sem] theorem ft_TPoint_X : ftyT Try.prog 35 0 = 3 := by kernel_rfl
@[go_sem] theorem fo_TPoint_Y : foffT Try.prog 35 1 = 1 := by kernel_rfl
@[go_sem] theorem ft_TPoint_Y : ftyT Try.prog 35 1 = 3 := by kernel_rfl
@[go_sem] theorem fo_u_TPoint_X : foffT Try.prog 34 0 = 0 := by kernel_rfl
@[go_sem] theorem ft_u_TPoint_X : ftyT Try.prog 34 0 = 3 := by kernel_rfl
@[go_sem] theorem fo_u_TPoint_Y : foffT Try.prog 34 1 = 1 := by kernel_rfl
@[go_sem] theorem ft_u_TPoint_Y : ftyT Try.prog 34 1 = 3 := by kernel_rfl
@[go_sem] theorem ze_TPoint : zeroT Try.prog 35 = encTPoint {} := (show zeroT Try.prog 35 = ofConst (.agg #[.int .i64 0, .int .i64 0]) by kernel_rfl).trans (ofConst_agg _)
theorem eqOk_TPoint : EqOk Try.prog 35 2 fun j => ([.int .i64, .int .i64] : List LK).getD j .bool := eqOk_of (by kernel_rfl) (by kernel_rfl) (by decide) (by kernel_rfl)
theorem aeq_TPoint (a b : TPoint) : aeq 2 (lst [(.int .i64 a.X), (.int .i64 a.Y)]) (lst [(.int .i64 b.X), (.int .i64 b.Y)]) = decide (a = b) := by
  rw [Bool.eq_iff_iff]
  simp [aeq, List.range_succ, lst, leafEq, and_assoc, TPoint.ext_iff]
@[go_sem] theorem eq_TPoint (a b : TPoint) : binT Try.prog 35 .eql (encTPoint a) (encTPoint b) = (True, .bool (decide (a = b))) := Prod.ext (eq_true (⟨_, eqOk_TPoint, rfl, fun j hj => by rcases j with _ | _ |  j <;> first | exact ⟨rfl, rfl⟩ | exact ⟨trivial, trivial⟩ | (simp only [List.length_cons, List.length_nil] at hj; omega)⟩)) (congrArg AVal.bool (aeq_TPoint a b))
@[go_sem] theorem ne_TPoint (a b : TPoint) : binT Try.prog 35 .neq (encTPoint a) (encTPoint b) = (True, .bool (!decide (a = b))) := Prod.ext (eq_true (⟨_, eqOk_TPoint, rfl, fun j hj => by rcases j with _ | _ |  j <;> first | exact ⟨rfl, rfl⟩ | exact ⟨trivial, trivial⟩ | (simp only [List.length_cons, List.length_nil] at hj; omega)⟩)) (congrArg (fun b => AVal.bool (!b)) (aeq_TPoint a b))
@[go_sem] theorem mkL_TPoint (a : TPoint) (l : List AVal) : mkL (encTPoint a :: l) = mkP encTPoint [a] l := rfl
@[go_sem] theorem mkP_TPoint (acc : List TPoint) (a : TPoint) (l : List AVal) : mkP encTPoint acc (encTPoint a :: l) = mkP encTPoint (acc ++ [a]) l := mkP_cons encTPoint acc a l
@[go_sem] theorem getD_TPoint (l : List TPoint) (e : Nat) : (l.map encTPoint).getD e (encTPoint {}) = encTPoint (l.getD e default) := getD_row (enc := encTPoint) l e
@[ext] structure TTurn where
  Flip : Bool := false
  Quarters : Int := 0
  At : TPoint := {}
  deriving Inhabited, DecidableEq
def encTTurn (a : TTurn) : AVal := agg [(.bool a.Flip), (.int .i64 a.Quarters), (.int .i64 a.At.X), (.int .i64 a.At.Y)]
instance : Nml encTTurn := ⟨fun a => by simp only [encTTurn, go_sem], fun κ a => by simp only [encTTurn, ren_agg, map_ren_cons, map_ren_nil, go_sem]⟩
def okTTurn (a : TTurn) : Prop := True ∧ (-9223372036854775808 ≤ a.Quarters ∧ a.Quarters ≤ 9223372036854775807) ∧ okTPoint a.At
@[go_sem] theorem nm_TTurn (a : TTurn) : (encTTurn a).nameless = True := by simp only [encTTurn, go_sem]
@[go_sem] theorem ren_TTurn (κ : Key → Key) (a : TTurn) : (encTTurn a).ren κ = encTTurn a := by simp only [encTTurn, ren_agg, map_ren_cons, map_ren_nil, go_sem]
@[go_sem] theorem nA_TTurn (a : TTurn) : namesA (encTTurn a) = [] := rfl
@[go_sem] theorem fr_TTurn (a : TTurn) : (encTTurn a).free = True := by simp only [encTTurn, go_sem]
instance : Fre encTTurn := ⟨fun a => by simp only [fr_TTurn]⟩
@[go_sem] theorem cells_TTurn (a : TTurn) : (encTTurn a).cells = 4 := rfl
@[go_sem] theorem known_TTurn (a : TTurn) : (encTTurn a).known = true := rfl
@[go_sem] theorem strip_TTurn (a : TTurn) : (encTTurn a).strip = encTTurn a := rfl
@[go_sem] theorem okw_TTurn (a : TTurn) (g : Bool) : (encTTurn a).okw g = True := rfl
@[go_sem] theorem pok_TTurn (a : TTurn) (o s : Nat) (b : Bool) : partOk (encTTurn a) o s b = (o + s ≤ 4) := rfl
@[go_sem] theorem part_TTurn_0 (a : TTurn) : (encTTurn a).part 0 1 false = (.bool a.Flip) := rfl
@[go_sem] theorem part_TTurn_1 (a : TTurn) : (encTTurn a).part 1 1 false = (.int .i64 a.Quarters) := rfl
@[go_sem] theorem part_TTurn_2 (a : TTurn) : (encTTurn a).part 2 1 false = (.int .i64 a.At.X) := rfl
@[go_sem] theorem part_TTurn_3 (a : TTurn) : (encTTurn a).part 3 1 false = (.int .i64 a.At.Y) := rfl
@[go_sem] theorem all_TTurn (a : TTurn) : (encTTurn a).part 0 4 true = encTTurn a := by
  simp only [encTTurn, agg, AVal.part, if_true, List.length]; congr 1; funext j; rcases j with _ | _ | _ | _ | j <;> first | rfl | simp [lst]
@[go_sem] theorem putOk_TTurn (a : TTurn) (o : Nat) (x : AVal) : putOk (encTTurn a) o x = (o + x.cells ≤ 4) := rfl
@[go_sem] theorem putP_TTurn (a b : TTurn) : putPart (encTTurn a) 0 (encTTurn b) = encTTurn b := rfl
@[go_sem] theorem putPl_TTurn (v0 v1 v2 v3 : AVal) (b : TTurn) : putPart (agg [v0, v1, v2, v3]) 0 (encTTurn b) = encTTurn b := rfl
@[go_sem] theorem putPr_TTurn (v0 v1 v2 v3 : AVal) (a : TTurn) : putPart (encTTurn a) 0 (agg [v0, v1, v2, v3]) = agg [v0, v1, v2, v3] := rfl
@[go_sem] theorem put_TTurn_Flip (a : TTurn) (b : Bool) : putPart (encTTurn a) 0 ((.bool b)) = encTTurn { a with Flip := b } := by
  simp only [encTTurn, agg, putPart, List.length]; congr 1; funext j; rcases j with _ | _ | _ | _ | j <;> first | rfl | simp [lst]
@[go_sem] theorem put_TTurn_Quarters (a : TTurn) (b : Int) : putPart (encTTurn a) 1 ((.int .i64 b)) = encTTurn { a with Quarters := b } := by
  simp only [encTTurn, agg, putPart, List.length]; congr 1; funext j; rcases j with _ | _ | _ | _ | j <;> first | rfl | simp [lst]
@[go_sem] theorem put_TTurn_At (a : TTurn) (b : TPoint) : putPart (encTTurn a) 2 (encTPoint b) = encTTurn { a with At := b } := by
  simp only [encTTurn, agg, putPart, List.length, encTPoint]; rw [if_neg (by simp)]; congr 1; funext j; rcases j with _ | _ | _ | _ | j <;> first | rfl | simp [lst]
@[go_sem] theorem sub_TTurn_At (a : TTurn) : (encTTurn a).part 2 2 true = encTPoint a.At := by
  simp only [encTTurn, encTPoint, agg, AVal.part, if_true, List.length]; congr 1; funext j; rcases j with _ | _ | _ | _ | j <;> first | rfl | simp [lst]
@[go_sem] theorem put_TTurn_At_X (a : TTurn) (b : Int) : putPart (encTTurn a) 2 ((.int .i64 b)) = encTTurn { a with At := { a.At with X := b } } := by
  simp only [encTTurn, agg, putPart, List.length]; congr 1; funext j; rcases j with _ | _ | _ | _ | j <;> rfl
@[go_sem] theorem put_TTurn_At_Y (a : TTurn) (b : Int) : putPart (encTTurn a) 3 ((.int .i64 b)) = encTTurn { a with At := { a.At with Y := b } } := by
  simp only [encTTurn, agg, putPart, List.length]; congr 1; funext j; rcases j with _ | _ | _ | _ | j <;> rfl
@[go_sem] theorem sz_TTurn : szT Try.prog 42 = 4 := by kernel_rfl
@[go_sem] theorem ag_TTurn : aggT Try.prog 42 = true := by kernel_rfl
@[go_sem] theorem st_TTurn : strT Try.prog 42 = false := by kernel_rfl
@[go_sem] theorem by_TTurn : byT Try.prog 42 = 32 := by kernel_rfl
@[go_sem] theorem sz_TTurn_u : szT Try.prog 41 = 4 := by kernel_rfl
@[go_sem] theorem ag_TTurn_u : aggT Try.prog 41 = true := by kernel_rfl
@[go_sem] theorem st_TTurn_u : strT Try.prog 41 = false := by kernel_rfl
@[go_sem] theorem by_TTurn_u : byT Try.prog 41 = 32 := by kernel_rfl
@[go_sem] theorem fo_TTurn_Flip : foffT Try.prog 42 0 = 0 := by kernel_rfl
@[go_sem] theorem ft_TTurn_Flip : ftyT Try.prog 42 0 = 4 := by kernel_rfl
@[go_sem] theorem fo_TTurn_Quarters : foffT Try.prog 42 1 = 1 := by kernel_rfl
@[go_sem] theorem ft_TTurn_Quarters : ftyT Try.prog 42 1 = 3 := by kernel_rfl
@[go_sem] theorem fo_TTurn_At : foffT Try.prog 42 2 = 2 := by kernel_rfl
@[go_sem] theorem ft_TTurn_At : ftyT Try.prog 42 2 = 35 := by kernel_rfl
@[go_sem] theorem fo_u_TTurn_Flip : foffT Try.prog 41 0 = 0 := by kernel_rfl
@[go_sem] theorem ft_u_TTurn_Flip : ftyT Try.prog 41 0 = 4 := by kernel_rfl
@[go_sem] theorem fo_u_TTurn_Quarters : foffT Try.prog 41 1 = 1 := by kernel_rfl
@[go_sem] theorem ft_u_TTurn_Quarters : ftyT Try.prog 41 1 = 3 := by kernel_rfl
@[go_sem] theorem fo_u_TTurn_At : foffT Try.prog 41 2 = 2 := by kernel_rfl
@[go_sem] theorem ft_u_TTurn_At : ftyT Try.prog 41 2 = 35 := by kernel_rfl
@[go_sem] theorem ze_TTurn : zeroT Try.prog 42 = encTTurn {} := (show zeroT Try.prog 42 = ofConst (.agg #[.bool false, .int .i64 0, .int .i64 0, .int .i64 0]) by kernel_rfl).trans (ofConst_agg _)
theorem eqOk_TTurn : EqOk Try.prog 42 4 fun j => ([.bool, .int .i64, .int .i64, .int .i64] : List LK).getD j .bool := eqOk_of (by kernel_rfl) (by kernel_rfl) (by decide) (by kernel_rfl)
theorem aeq_TTurn (a b : TTurn) : aeq 4 (lst [(.bool a.Flip), (.int .i64 a.Quarters), (.int .i64 a.At.X), (.int .i64 a.At.Y)]) (lst [(.bool b.Flip), (.int .i64 b.Quarters), (.int .i64 b.At.X), (.int .i64 b.At.Y)]) = decide (a = b) := by
  rw [Bool.eq_iff_iff]
  simp [aeq, List.range_succ, lst, leafEq, and_assoc, TTurn.ext_iff, TPoint.ext_iff]
@[go_sem] theorem eq_TTurn (a b : TTurn) : binT Try.prog 42 .eql (encTTurn a) (encTTurn b) = (True, .bool (decide (a = b))) := Prod.ext (eq_true (⟨_, eqOk_TTurn, rfl, fun j hj => by rcases j with _ | _ | _ | _ |  j <;> first | exact ⟨rfl, rfl⟩ | exact ⟨trivial, trivial⟩ | (simp only [List.length_cons, List.length_nil] at hj; omega)⟩)) (congrArg AVal.bool (aeq_TTurn a b))
@[go_sem] theorem ne_TTurn (a b : TTurn) : binT Try.prog 42 .neq (encTTurn a) (encTTurn b) = (True, .bool (!decide (a = b))) := Prod.ext (eq_true (⟨_, eqOk_TTurn, rfl, fun j hj => by rcases j with _ | _ | _ | _ |  j <;> first | exact ⟨rfl, rfl⟩ | exact ⟨trivial, trivial⟩ | (simp only [List.length_cons, List.length_nil] at hj; omega)⟩)) (congrArg (fun b => AVal.bool (!b)) (aeq_TTurn a b))
@[go_sem] theorem mkL_TTurn (a : TTurn) (l : List AVal) : mkL (encTTurn a :: l) = mkP encTTurn [a] l := rfl
@[go_sem] theorem mkP_TTurn (acc : List TTurn) (a : TTurn) (l : List AVal) : mkP encTTurn acc (encTTurn a :: l) = mkP encTTurn (acc ++ [a]) l := mkP_cons encTTurn acc a l
@[go_sem] theorem getD_TTurn (l : List TTurn) (e : Nat) : (l.map encTTurn).getD e (encTTurn {}) = encTTurn (l.getD e default) := getD_row (enc := encTTurn) l e
@[ext] structure TGap where
  A : Int := 0
  B : Int := 0
  Distance : Int := 0
  From : TPoint := {}
  To : TPoint := {}
  deriving Inhabited, DecidableEq
def encTGap (a : TGap) : AVal := agg [(.int .i64 a.A), (.int .i64 a.B), (.int .i64 a.Distance), (.int .i64 a.From.X), (.int .i64 a.From.Y), (.int .i64 a.To.X), (.int .i64 a.To.Y)]
instance : Nml encTGap := ⟨fun a => by simp only [encTGap, go_sem], fun κ a => by simp only [encTGap, ren_agg, map_ren_cons, map_ren_nil, go_sem]⟩
def okTGap (a : TGap) : Prop := (-9223372036854775808 ≤ a.A ∧ a.A ≤ 9223372036854775807) ∧ (-9223372036854775808 ≤ a.B ∧ a.B ≤ 9223372036854775807) ∧ (-9223372036854775808 ≤ a.Distance ∧ a.Distance ≤ 9223372036854775807) ∧ okTPoint a.From ∧ okTPoint a.To
@[go_sem] theorem nm_TGap (a : TGap) : (encTGap a).nameless = True := by simp only [encTGap, go_sem]
@[go_sem] theorem ren_TGap (κ : Key → Key) (a : TGap) : (encTGap a).ren κ = encTGap a := by simp only [encTGap, ren_agg, map_ren_cons, map_ren_nil, go_sem]
@[go_sem] theorem nA_TGap (a : TGap) : namesA (encTGap a) = [] := rfl
@[go_sem] theorem fr_TGap (a : TGap) : (encTGap a).free = True := by simp only [encTGap, go_sem]
instance : Fre encTGap := ⟨fun a => by simp only [fr_TGap]⟩
@[go_sem] theorem cells_TGap (a : TGap) : (encTGap a).cells = 7 := rfl
@[go_sem] theorem known_TGap (a : TGap) : (encTGap a).known = true := rfl
@[go_sem] theorem strip_TGap (a : TGap) : (encTGap a).strip = encTGap a := rfl
@[go_sem] theorem okw_TGap (a : TGap) (g : Bool) : (encTGap a).okw g = True := rfl
@[go_sem] theorem pok_TGap (a : TGap) (o s : Nat) (b : Bool) : partOk (encTGap a) o s b = (o + s ≤ 7) := rfl
@[go_sem] theorem part_TGap_0 (a : TGap) : (encTGap a).part 0 1 false = (.int .i64 a.A) := rfl
@[go_sem] theorem part_TGap_1 (a : TGap) : (encTGap a).part 1 1 false = (.int .i64 a.B) := rfl
@[go_sem] theorem part_TGap_2 (a : TGap) : (encTGap a).part 2 1 false = (.int .i64 a.Distance) := rfl
@[go_sem] theorem part_TGap_3 (a : TGap) : (encTGap a).part 3 1 false = (.int .i64 a.From.X) := rfl
@[go_sem] theorem part_TGap_4 (a : TGap) : (encTGap a).part 4 1 false = (.int .i64 a.From.Y) := rfl
@[go_sem] theorem part_TGap_5 (a : TGap) : (encTGap a).part 5 1 false = (.int .i64 a.To.X) := rfl
@[go_sem] theorem part_TGap_6 (a : TGap) : (encTGap a).part 6 1 false = (.int .i64 a.To.Y) := rfl
@[go_sem] theorem all_TGap (a : TGap) : (encTGap a).part 0 7 true = encTGap a := by
  simp only [encTGap, agg, AVal.part, if_true, List.length]; congr 1; funext j; rcases j with _ | _ | _ | _ | _ | _ | _ | j <;> first | rfl | simp [lst]
@[go_sem] theorem putOk_TGap (a : TGap) (o : Nat) (x : AVal) : putOk (encTGap a) o x = (o + x.cells ≤ 7) := rfl
@[go_sem] theorem putP_TGap (a b : TGap) : putPart (encTGap a) 0 (encTGap b) = encTGap b := rfl
@[go_sem] theorem putPl_TGap (v0 v1 v2 v3 v4 v5 v6 : AVal) (b : TGap) : putPart (agg [v0, v1, v2, v3, v4, v5, v6]) 0 (encTGap b) = encTGap b := rfl
@[go_sem] theorem putPr_TGap (v0 v1 v2 v3 v4 v5 v6 : AVal) (a : TGap) : putPart (encTGap a) 0 (agg [v0, v1, v2, v3, v4, v5, v6]) = agg [v0, v1, v2, v3, v4, v5, v6] := rfl
@[go_sem] theorem put_TGap_A (a : TGap) (b : Int) : putPart (encTGap a) 0 ((.int .i64 b)) = encTGap { a with A := b } := by
  simp only [encTGap, agg, putPart, List.length]; congr 1; funext j; rcases j with _ | _ | _ | _ | _ | _ | _ | j <;> first | rfl | simp [lst]
@[go_sem] theorem put_TGap_B (a : TGap) (b : Int) : putPart (encTGap a) 1 ((.int .i64 b)) = encTGap { a with B := b } := by
  simp only [encTGap, agg, putPart, List.length]; congr 1; funext j; rcases j with _ | _ | _ | _ | _ | _ | _ | j <;> first | rfl | simp [lst]
@[go_sem] theorem put_TGap_Distance (a : TGap) (b : Int) : putPart (encTGap a) 2 ((.int .i64 b)) = encTGap { a with Distance := b } := by
  simp only [encTGap, agg, putPart, List.length]; congr 1; funext j; rcases j with _ | _ | _ | _ | _ | _ | _ | j <;> first | rfl | simp [lst]
@[go_sem] theorem put_TGap_From (a : TGap) (b : TPoint) : putPart (encTGap a) 3 (encTPoint b) = encTGap { a with From := b } := by
  simp only [encTGap, agg, putPart, List.length, encTPoint]; rw [if_neg (by simp)]; congr 1; funext j; rcases j with _ | _ | _ | _ | _ | _ | _ | j <;> first | rfl | simp [lst]
@[go_sem] theorem sub_TGap_From (a : TGap) : (encTGap a).part 3 2 true = encTPoint a.From := by
  simp only [encTGap, encTPoint, agg, AVal.part, if_true, List.length]; congr 1; funext j; rcases j with _ | _ | _ | _ | _ | _ | _ | j <;> first | rfl | simp [lst]
@[go_sem] theorem put_TGap_From_X (a : TGap) (b : Int) : putPart (encTGap a) 3 ((.int .i64 b)) = encTGap { a with From := { a.From with X := b } } := by
  simp only [encTGap, agg, putPart, List.length]; congr 1; funext j; rcases j with _ | _ | _ | _ | _ | _ | _ | j <;> rfl
@[go_sem] theorem put_TGap_From_Y (a : TGap) (b : Int) : putPart (encTGap a) 4 ((.int .i64 b)) = encTGap { a with From := { a.From with Y := b } } := by
  simp only [encTGap, agg, putPart, List.length]; congr 1; funext j; rcases j with _ | _ | _ | _ | _ | _ | _ | j <;> rfl
@[go_sem] theorem put_TGap_To (a : TGap) (b : TPoint) : putPart (encTGap a) 5 (encTPoint b) = encTGap { a with To := b } := by
  simp only [encTGap, agg, putPart, List.length, encTPoint]; rw [if_neg (by simp)]; congr 1; funext j; rcases j with _ | _ | _ | _ | _ | _ | _ | j <;> first | rfl | simp [lst]
@[go_sem] theorem sub_TGap_To (a : TGap) : (encTGap a).part 5 2 true = encTPoint a.To := by
  simp only [encTGap, encTPoint, agg, AVal.part, if_true, List.length]; congr 1; funext j; rcases j with _ | _ | _ | _ | _ | _ | _ | j <;> first | rfl | simp [lst]
@[go_sem] theorem put_TGap_To_X (a : TGap) (b : Int) : putPart (encTGap a) 5 ((.int .i64 b)) = encTGap { a with To := { a.To with X := b } } := by
  simp only [encTGap, agg, putPart, List.length]; congr 1; funext j; rcases j with _ | _ | _ | _ | _ | _ | _ | j <;> rfl
@[go_sem] theorem put_TGap_To_Y (a : TGap) (b : Int) : putPart (encTGap a) 6 ((.int .i64 b)) = encTGap { a with To := { a.To with Y := b } } := by
  simp only [encTGap, agg, putPart, List.length]; congr 1; funext j; rcases j with _ | _ | _ | _ | _ | _ | _ | j <;> rfl
@[go_sem] theorem sz_TGap : szT Try.prog 58 = 7 := by kernel_rfl
@[go_sem] theorem ag_TGap : aggT Try.prog 58 = true := by kernel_rfl
@[go_sem] theorem st_TGap : strT Try.prog 58 = false := by kernel_rfl
@[go_sem] theorem by_TGap : byT Try.prog 58 = 56 := by kernel_rfl
@[go_sem] theorem sz_TGap_u : szT Try.prog 57 = 7 := by kernel_rfl
@[go_sem] theorem ag_TGap_u : aggT Try.prog 57 = true := by kernel_rfl
@[go_sem] theorem st_TGap_u : strT Try.prog 57 = false := by kernel_rfl
@[go_sem] theorem by_TGap_u : byT Try.prog 57 = 56 := by kernel_rfl
@[go_sem] theorem fo_TGap_A : foffT Try.prog 58 0 = 0 := by kernel_rfl
@[go_sem] theorem ft_TGap_A : ftyT Try.prog 58 0 = 3 := by kernel_rfl
@[go_sem] theorem fo_TGap_B : foffT Try.prog 58 1 = 1 := by kernel_rfl
@[go_sem] theorem ft_TGap_B : ftyT Try.prog 58 1 = 3 := by kernel_rfl
@[go_sem] theorem fo_TGap_Distance : foffT Try.prog 58 2 = 2 := by kernel_rfl
@[go_sem] theorem ft_TGap_Distance : ftyT Try.prog 58 2 = 3 := by kernel_rfl
@[go_sem] theorem fo_TGap_From : foffT Try.prog 58 3 = 3 := by kernel_rfl
@[go_sem] theorem ft_TGap_From : ftyT Try.prog 58 3 = 35 := by kernel_rfl
@[go_sem] theorem fo_TGap_To : foffT Try.prog 58 4 = 5 := by kernel_rfl
@[go_sem] theorem ft_TGap_To : ftyT Try.prog 58 4 = 35 := by kernel_rfl
@[go_sem] theorem fo_u_TGap_A : foffT Try.prog 57 0 = 0 := by kernel_rfl
@[go_sem] theorem ft_u_TGap_A : ftyT Try.prog 57 0 = 3 := by kernel_rfl
@[go_sem] theorem fo_u_TGap_B : foffT Try.prog 57 1 = 1 := by kernel_rfl
@[go_sem] theorem ft_u_TGap_B : ftyT Try.prog 57 1 = 3 := by kernel_rfl
@[go_sem] theorem fo_u_TGap_Distance : foffT Try.prog 57 2 = 2 := by kernel_rfl
@[go_sem] theorem ft_u_TGap_Distance : ftyT Try.prog 57 2 = 3 := by kernel_rfl
@[go_sem] theorem fo_u_TGap_From : foffT Try.prog 57 3 = 3 := by kernel_rfl
@[go_sem] theorem ft_u_TGap_From : ftyT Try.prog 57 3 = 35 := by kernel_rfl
@[go_sem] theorem fo_u_TGap_To : foffT Try.prog 57 4 = 5 := by kernel_rfl
@[go_sem] theorem ft_u_TGap_To : ftyT Try.prog 57 4 = 35 := by kernel_rfl
@[go_sem] theorem ze_TGap : zeroT Try.prog 58 = encTGap {} := (show zeroT Try.prog 58 = ofConst (.agg #[.int .i64 0, .int .i64 0, .int .i64 0, .int .i64 0, .int .i64 0, .int .i64 0, .int .i64 0]) by kernel_rfl).trans (ofConst_agg _)
theorem eqOk_TGap : EqOk Try.prog 58 7 fun j => ([.int .i64, .int .i64, .int .i64, .int .i64, .int .i64, .int .i64, .int .i64] : List LK).getD j .bool := eqOk_of (by kernel_rfl) (by kernel_rfl) (by decide) (by kernel_rfl)
theorem aeq_TGap (a b : TGap) : aeq 7 (lst [(.int .i64 a.A), (.int .i64 a.B), (.int .i64 a.Distance), (.int .i64 a.From.X), (.int .i64 a.From.Y), (.int .i64 a.To.X), (.int .i64 a.To.Y)]) (lst [(.int .i64 b.A), (.int .i64 b.B), (.int .i64 b.Distance), (.int .i64 b.From.X), (.int .i64 b.From.Y), (.int .i64 b.To.X), (.int .i64 b.To.Y)]) = decide (a = b) := by
  rw [Bool.eq_iff_iff]
  simp [aeq, List.range_succ, lst, leafEq, and_assoc, TGap.ext_iff, TPoint.ext_iff, TPoint.ext_iff]
@[go_sem] theorem eq_TGap (a b : TGap) : binT Try.prog 58 .eql (encTGap a) (encTGap b) = (True, .bool (decide (a = b))) := Prod.ext (eq_true (⟨_, eqOk_TGap, rfl, fun j hj => by rcases j with _ | _ | _ | _ | _ | _ | _ |  j <;> first | exact ⟨rfl, rfl⟩ | exact ⟨trivial, trivial⟩ | (simp only [List.length_cons, List.length_nil] at hj; omega)⟩)) (congrArg AVal.bool (aeq_TGap a b))
@[go_sem] theorem ne_TGap (a b : TGap) : binT Try.prog 58 .neq (encTGap a) (encTGap b) = (True, .bool (!decide (a = b))) := Prod.ext (eq_true (⟨_, eqOk_TGap, rfl, fun j hj => by rcases j with _ | _ | _ | _ | _ | _ | _ |  j <;> first | exact ⟨rfl, rfl⟩ | exact ⟨trivial, trivial⟩ | (simp only [List.length_cons, List.length_nil] at hj; omega)⟩)) (congrArg (fun b => AVal.bool (!b)) (aeq_TGap a b))
@[go_sem] theorem mkL_TGap (a : TGap) (l : List AVal) : mkL (encTGap a :: l) = mkP encTGap [a] l := rfl
@[go_sem] theorem mkP_TGap (acc : List TGap) (a : TGap) (l : List AVal) : mkP encTGap acc (encTGap a :: l) = mkP encTGap (acc ++ [a]) l := mkP_cons encTGap acc a l
@[go_sem] theorem getD_TGap (l : List TGap) (e : Nat) : (l.map encTGap).getD e (encTGap {}) = encTGap (l.getD e default) := getD_row (enc := encTGap) l e
@[ext] structure TShapeBand where
  Y0 : Int := 0
  Y1 : Int := 0
  Xs : (List Int) := []
  deriving Inhabited, DecidableEq
def encTShapeBand (a : TShapeBand) : AVal := agg [(.int .i64 a.Y0), (.int .i64 a.Y1), (encL 1 encI a.Xs)]
instance : Nml encTShapeBand := ⟨fun a => by simp only [encTShapeBand, go_sem], fun κ a => by simp only [encTShapeBand, ren_agg, map_ren_cons, map_ren_nil, go_sem]⟩
def okTShapeBand (a : TShapeBand) : Prop := (-9223372036854775808 ≤ a.Y0 ∧ a.Y0 ≤ 9223372036854775807) ∧ (-9223372036854775808 ≤ a.Y1 ∧ a.Y1 ≤ 9223372036854775807) ∧ (a.Xs.length < 281474976710656 ∧ ∀ x ∈ a.Xs, (-9223372036854775808 ≤ x ∧ x ≤ 9223372036854775807))
@[go_sem] theorem nm_TShapeBand (a : TShapeBand) : (encTShapeBand a).nameless = True := by simp only [encTShapeBand, go_sem]
@[go_sem] theorem ren_TShapeBand (κ : Key → Key) (a : TShapeBand) : (encTShapeBand a).ren κ = encTShapeBand a := by simp only [encTShapeBand, ren_agg, map_ren_cons, map_ren_nil, go_sem]
@[go_sem] theorem nA_TShapeBand (a : TShapeBand) : namesA (encTShapeBand a) = [] := rfl
@[go_sem] theorem cells_TShapeBand (a : TShapeBand) : (encTShapeBand a).cells = 3 := rfl
@[go_sem] theorem known_TShapeBand (a : TShapeBand) : (encTShapeBand a).known = true := rfl
@[go_sem] theorem strip_TShapeBand (a : TShapeBand) : (encTShapeBand a).strip = encTShapeBand a := rfl
@[go_sem] theorem okw_TShapeBand (a : TShapeBand) (g : Bool) : (encTShapeBand a).okw g = True := rfl
@[go_sem] theorem pok_TShapeBand (a : TShapeBand) (o s : Nat) (b : Bool) : partOk (encTShapeBand a) o s b = (o + s ≤ 3) := rfl
@[go_sem] theorem part_TShapeBand_0 (a : TShapeBand) : (encTShapeBand a).part 0 1 false = (.int .i64 a.Y0) := rfl
@[go_sem] theorem part_TShapeBand_1 (a : TShapeBand) : (encTShapeBand a).part 1 1 false = (.int .i64 a.Y1) := rfl
@[go_sem] theorem part_TShapeBand_2 (a : TShapeBand) : (encTShapeBand a).part 2 1 false = (encL 1 encI a.Xs) := rfl
@[go_sem] theorem all_TShapeBand (a : TShapeBand) : (encTShapeBand a).part 0 3 true = encTShapeBand a := by
  simp only [encTShapeBand, agg, AVal.part, if_true, List.length]; congr 1; funext j; rcases j with _ | _ | _ | j <;> first | rfl | simp [lst]
@[go_sem] theorem putOk_TShapeBand (a : TShapeBand) (o : Nat) (x : AVal) : putOk (encTShapeBand a) o x = (o + x.cells ≤ 3) := rfl
@[go_sem] theorem putP_TShapeBand (a b : TShapeBand) : putPart (encTShapeBand a) 0 (encTShapeBand b) = encTShapeBand b := rfl
@[go_sem] theorem putPl_TShapeBand (v0 v1 v2 : AVal) (b : TShapeBand) : putPart (agg [v0, v1, v2]) 0 (encTShapeBand b) = encTShapeBand b := rfl
@[go_sem] theorem putPr_TShapeBand (v0 v1 v2 : AVal) (a : TShapeBand) : putPart (encTShapeBand a) 0 (agg [v0, v1, v2]) = agg [v0, v1, v2] := rfl
@[go_sem] theorem put_TShapeBand_Y0 (a : TShapeBand) (b : Int) : putPart (encTShapeBand a) 0 ((.int .i64 b)) = encTShapeBand { a with Y0 := b } := by
  simp only [encTShapeBand, agg, putPart, List.length]; congr 1; funext j; rcases j with _ | _ | _ | j <;> first | rfl | simp [lst]
@[go_sem] theorem put_TShapeBand_Y1 (a : TShapeBand) (b : Int) : putPart (encTShapeBand a) 1 ((.int .i64 b)) = encTShapeBand { a with Y1 := b } := by
  simp only [encTShapeBand, agg, putPart, List.length]; congr 1; funext j; rcases j with _ | _ | _ | j <;> first | rfl | simp [lst]
@[go_sem] theorem put_TShapeBand_Xs (a : TShapeBand) (b : (List Int)) : putPart (encTShapeBand a) 2 ((encL 1 encI b)) = encTShapeBand { a with Xs := b } := by
  simp only [encTShapeBand, agg, putPart, List.length, encL]; congr 1; funext j; rcases j with _ | _ | _ | j <;> first | rfl | simp [lst]
@[go_sem] theorem sz_TShapeBand : szT Try.prog 100 = 3 := by kernel_rfl
@[go_sem] theorem ag_TShapeBand : aggT Try.prog 100 = true := by kernel_rfl
@[go_sem] theorem st_TShapeBand : strT Try.prog 100 = false := by kernel_rfl
@[go_sem] theorem by_TShapeBand : byT Try.prog 100 = 40 := by kernel_rfl
@[go_sem] theorem sz_TShapeBand_u : szT Try.prog 99 = 3 := by kernel_rfl
@[go_sem] theorem ag_TShapeBand_u : aggT Try.prog 99 = true := by kernel_rfl
@[go_sem] theorem st_TShapeBand_u : strT Try.prog 99 = false := by kernel_rfl
@[go_sem] theorem by_TShapeBand_u : byT Try.prog 99 = 40 := by kernel_rfl
@[go_sem] theorem fo_TShapeBand_Y0 : foffT Try.prog 100 0 = 0 := by kernel_rfl
@[go_sem] theorem ft_TShapeBand_Y0 : ftyT Try.prog 100 0 = 3 := by kernel_rfl
@[go_sem] theorem fo_TShapeBand_Y1 : foffT Try.prog 100 1 = 1 := by kernel_rfl
@[go_sem] theorem ft_TShapeBand_Y1 : ftyT Try.prog 100 1 = 3 := by kernel_rfl
@[go_sem] theorem fo_TShapeBand_Xs : foffT Try.prog 100 2 = 2 := by kernel_rfl
@[go_sem] theorem ft_TShapeBand_Xs : ftyT Try.prog 100 2 = 93 := by kernel_rfl
@[go_sem] theorem fo_u_TShapeBand_Y0 : foffT Try.prog 99 0 = 0 := by kernel_rfl
@[go_sem] theorem ft_u_TShapeBand_Y0 : ftyT Try.prog 99 0 = 3 := by kernel_rfl
@[go_sem] theorem fo_u_TShapeBand_Y1 : foffT Try.prog 99 1 = 1 := by kernel_rfl
@[go_sem] theorem ft_u_TShapeBand_Y1 : ftyT Try.prog 99 1 = 3 := by kernel_rfl
@[go_sem] theorem fo_u_TShapeBand_Xs : foffT Try.prog 99 2 = 2 := by kernel_rfl
@[go_sem] theorem ft_u_TShapeBand_Xs : ftyT Try.prog 99 2 = 93 := by kernel_rfl
@[go_sem] theorem ze_TShapeBand : zeroT Try.prog 100 = agg [.int .i64 0, .int .i64 0, .nilsl] := (show zeroT Try.prog 100 = ofConst (.agg #[.int .i64 0, .int .i64 0, .slice none 0 0]) by kernel_rfl).trans (ofConst_agg _)
@[go_sem] theorem mkL_TShapeBand (a : TShapeBand) (l : List AVal) : mkL (encTShapeBand a :: l) = mkP encTShapeBand [a] l := rfl
@[go_sem] theorem mkP_TShapeBand (acc : List TShapeBand) (a : TShapeBand) (l : List AVal) : mkP encTShapeBand acc (encTShapeBand a :: l) = mkP encTShapeBand (acc ++ [a]) l := mkP_cons encTShapeBand acc a l
@[go_sem] theorem getD_TShapeBand (l : List TShapeBand) (e : Nat) : (l.map encTShapeBand).getD e (encTShapeBand {}) = encTShapeBand (l.getD e default) := getD_row (enc := encTShapeBand) l e
@[ext] structure TEtchhouseref1span where
  from_ : Int := 0
  to_ : Int := 0
  deriving Inhabited, DecidableEq
def encTEtchhouseref1span (a : TEtchhouseref1span) : AVal := agg [(.int .i64 a.from_), (.int .i64 a.to_)]
instance : Nml encTEtchhouseref1span := ⟨fun a => by simp only [encTEtchhouseref1span, go_sem], fun κ a => by simp only [encTEtchhouseref1span, ren_agg, map_ren_cons, map_ren_nil, go_sem]⟩
def okTEtchhouseref1span (a : TEtchhouseref1span) : Prop := (-9223372036854775808 ≤ a.from_ ∧ a.from_ ≤ 9223372036854775807) ∧ (-9223372036854775808 ≤ a.to_ ∧ a.to_ ≤ 9223372036854775807)
@[go_sem] theorem nm_TEtchhouseref1span (a : TEtchhouseref1span) : (encTEtchhouseref1span a).nameless = True := by simp only [encTEtchhouseref1span, go_sem]
@[go_sem] theorem ren_TEtchhouseref1span (κ : Key → Key) (a : TEtchhouseref1span) : (encTEtchhouseref1span a).ren κ = encTEtchhouseref1span a := by simp only [encTEtchhouseref1span, ren_agg, map_ren_cons, map_ren_nil, go_sem]
@[go_sem] theorem nA_TEtchhouseref1span (a : TEtchhouseref1span) : namesA (encTEtchhouseref1span a) = [] := rfl
@[go_sem] theorem fr_TEtchhouseref1span (a : TEtchhouseref1span) : (encTEtchhouseref1span a).free = True := by simp only [encTEtchhouseref1span, go_sem]
instance : Fre encTEtchhouseref1span := ⟨fun a => by simp only [fr_TEtchhouseref1span]⟩
@[go_sem] theorem cells_TEtchhouseref1span (a : TEtchhouseref1span) : (encTEtchhouseref1span a).cells = 2 := rfl
@[go_sem] theorem known_TEtchhouseref1span (a : TEtchhouseref1span) : (encTEtchhouseref1span a).known = true := rfl
@[go_sem] theorem strip_TEtchhouseref1span (a : TEtchhouseref1span) : (encTEtchhouseref1span a).strip = encTEtchhouseref1span a := rfl
@[go_sem] theorem okw_TEtchhouseref1span (a : TEtchhouseref1span) (g : Bool) : (encTEtchhouseref1span a).okw g = True := rfl
@[go_sem] theorem pok_TEtchhouseref1span (a : TEtchhouseref1span) (o s : Nat) (b : Bool) : partOk (encTEtchhouseref1span a) o s b = (o + s ≤ 2) := rfl
@[go_sem] theorem part_TEtchhouseref1span_0 (a : TEtchhouseref1span) : (encTEtchhouseref1span a).part 0 1 false = (.int .i64 a.from_) := rfl
@[go_sem] theorem part_TEtchhouseref1span_1 (a : TEtchhouseref1span) : (encTEtchhouseref1span a).part 1 1 false = (.int .i64 a.to_) := rfl
@[go_sem] theorem all_TEtchhouseref1span (a : TEtchhouseref1span) : (encTEtchhouseref1span a).part 0 2 true = encTEtchhouseref1span a := by
  simp only [encTEtchhouseref1span, agg, AVal.part, if_true, List.length]; congr 1; funext j; rcases j with _ | _ | j <;> first | rfl | simp [lst]
@[go_sem] theorem putOk_TEtchhouseref1span (a : TEtchhouseref1span) (o : Nat) (x : AVal) : putOk (encTEtchhouseref1span a) o x = (o + x.cells ≤ 2) := rfl
@[go_sem] theorem putP_TEtchhouseref1span (a b : TEtchhouseref1span) : putPart (encTEtchhouseref1span a) 0 (encTEtchhouseref1span b) = encTEtchhouseref1span b := rfl
@[go_sem] theorem putPl_TEtchhouseref1span (v0 v1 : AVal) (b : TEtchhouseref1span) : putPart (agg [v0, v1]) 0 (encTEtchhouseref1span b) = encTEtchhouseref1span b := rfl
@[go_sem] theorem putPr_TEtchhouseref1span (v0 v1 : AVal) (a : TEtchhouseref1span) : putPart (encTEtchhouseref1span a) 0 (agg [v0, v1]) = agg [v0, v1] := rfl
@[go_sem] theorem put_TEtchhouseref1span_from_ (a : TEtchhouseref1span) (b : Int) : putPart (encTEtchhouseref1span a) 0 ((.int .i64 b)) = encTEtchhouseref1span { a with from_ := b } := by
  simp only [encTEtchhouseref1span, agg, putPart, List.length]; congr 1; funext j; rcases j with _ | _ | j <;> first | rfl | simp [lst]
@[go_sem] theorem put_TEtchhouseref1span_to_ (a : TEtchhouseref1span) (b : Int) : putPart (encTEtchhouseref1span a) 1 ((.int .i64 b)) = encTEtchhouseref1span { a with to_ := b } := by
  simp only [encTEtchhouseref1span, agg, putPart, List.length]; congr 1; funext j; rcases j with _ | _ | j <;> first | rfl | simp [lst]
@[go_sem] theorem sz_TEtchhouseref1span : szT Try.prog 131 = 2 := by kernel_rfl
@[go_sem] theorem ag_TEtchhouseref1span : aggT Try.prog 131 = true := by kernel_rfl
@[go_sem] theorem st_TEtchhouseref1span : strT Try.prog 131 = false := by kernel_rfl
@[go_sem] theorem by_TEtchhouseref1span : byT Try.prog 131 = 16 := by kernel_rfl
@[go_sem] theorem sz_TEtchhouseref1span_u : szT Try.prog 130 = 2 := by kernel_rfl
@[go_sem] theorem ag_TEtchhouseref1span_u : aggT Try.prog 130 = true := by kernel_rfl
@[go_sem] theorem st_TEtchhouseref1span_u : strT Try.prog 130 = false := by kernel_rfl
@[go_sem] theorem by_TEtchhouseref1span_u : byT Try.prog 130 = 16 := by kernel_rfl
@[go_sem] theorem fo_TEtchhouseref1span_from_ : foffT Try.prog 131 0 = 0 := by kernel_rfl
@[go_sem] theorem ft_TEtchhouseref1span_from_ : ftyT Try.prog 131 0 = 3 := by kernel_rfl
@[go_sem] theorem fo_TEtchhouseref1span_to_ : foffT Try.prog 131 1 = 1 := by kernel_rfl
@[go_sem] theorem ft_TEtchhouseref1span_to_ : ftyT Try.prog 131 1 = 3 := by kernel_rfl
@[go_sem] theorem fo_u_TEtchhouseref1span_from_ : foffT Try.prog 130 0 = 0 := by kernel_rfl
@[go_sem] theorem ft_u_TEtchhouseref1span_from_ : ftyT Try.prog 130 0 = 3 := by kernel_rfl
@[go_sem] theorem fo_u_TEtchhouseref1span_to_ : foffT Try.prog 130 1 = 1 := by kernel_rfl
@[go_sem] theorem ft_u_TEtchhouseref1span_to_ : ftyT Try.prog 130 1 = 3 := by kernel_rfl
@[go_sem] theorem ze_TEtchhouseref1span : zeroT Try.prog 131 = encTEtchhouseref1span {} := (show zeroT Try.prog 131 = ofConst (.agg #[.int .i64 0, .int .i64 0]) by kernel_rfl).trans (ofConst_agg _)
theorem eqOk_TEtchhouseref1span : EqOk Try.prog 131 2 fun j => ([.int .i64, .int .i64] : List LK).getD j .bool := eqOk_of (by kernel_rfl) (by kernel_rfl) (by decide) (by kernel_rfl)
theorem aeq_TEtchhouseref1span (a b : TEtchhouseref1span) : aeq 2 (lst [(.int .i64 a.from_), (.int .i64 a.to_)]) (lst [(.int .i64 b.from_), (.int .i64 b.to_)]) = decide (a = b) := by
  rw [Bool.eq_iff_iff]
  simp [aeq, List.range_succ, lst, leafEq, and_assoc, TEtchhouseref1span.ext_iff]
@[go_sem] theorem eq_TEtchhouseref1span (a b : TEtchhouseref1span) : binT Try.prog 131 .eql (encTEtchhouseref1span a) (encTEtchhouseref1span b) = (True, .bool (decide (a = b))) := Prod.ext (eq_true (⟨_, eqOk_TEtchhouseref1span, rfl, fun j hj => by rcases j with _ | _ |  j <;> first | exact ⟨rfl, rfl⟩ | exact ⟨trivial, trivial⟩ | (simp only [List.length_cons, List.length_nil] at hj; omega)⟩)) (congrArg AVal.bool (aeq_TEtchhouseref1span a b))
@[go_sem] theorem ne_TEtchhouseref1span (a b : TEtchhouseref1span) : binT Try.prog 131 .neq (encTEtchhouseref1span a) (encTEtchhouseref1span b) = (True, .bool (!decide (a = b))) := Prod.ext (eq_true (⟨_, eqOk_TEtchhouseref1span, rfl, fun j hj => by rcases j with _ | _ |  j <;> first | exact ⟨rfl, rfl⟩ | exact ⟨trivial, trivial⟩ | (simp only [List.length_cons, List.length_nil] at hj; omega)⟩)) (congrArg (fun b => AVal.bool (!b)) (aeq_TEtchhouseref1span a b))
@[go_sem] theorem mkL_TEtchhouseref1span (a : TEtchhouseref1span) (l : List AVal) : mkL (encTEtchhouseref1span a :: l) = mkP encTEtchhouseref1span [a] l := rfl
@[go_sem] theorem mkP_TEtchhouseref1span (acc : List TEtchhouseref1span) (a : TEtchhouseref1span) (l : List AVal) : mkP encTEtchhouseref1span acc (encTEtchhouseref1span a :: l) = mkP encTEtchhouseref1span (acc ++ [a]) l := mkP_cons encTEtchhouseref1span acc a l
@[go_sem] theorem getD_TEtchhouseref1span (l : List TEtchhouseref1span) (e : Nat) : (l.map encTEtchhouseref1span).getD e (encTEtchhouseref1span {}) = encTEtchhouseref1span (l.getD e default) := getD_row (enc := encTEtchhouseref1span) l e
@[ext] structure TEtchhouseref1band where
  from_ : Int := 0
  to_ : Int := 0
  spans : (List TEtchhouseref1span) := []
  deriving Inhabited, DecidableEq
def encTEtchhouseref1band (a : TEtchhouseref1band) : AVal := agg [(.int .i64 a.from_), (.int .i64 a.to_), (encL 2 encTEtchhouseref1span a.spans)]
instance : Nml encTEtchhouseref1band := ⟨fun a => by simp only [encTEtchhouseref1band, go_sem], fun κ a => by simp only [encTEtchhouseref1band, ren_agg, map_ren_cons, map_ren_nil, go_sem]⟩
def okTEtchhouseref1band (a : TEtchhouseref1band) : Prop := (-9223372036854775808 ≤ a.from_ ∧ a.from_ ≤ 9223372036854775807) ∧ (-9223372036854775808 ≤ a.to_ ∧ a.to_ ≤ 9223372036854775807) ∧ (a.spans.length < 281474976710656 ∧ ∀ x ∈ a.spans, okTEtchhouseref1span x)
@[go_sem] theorem nm_TEtchhouseref1band (a : TEtchhouseref1band) : (encTEtchhouseref1band a).nameless = True := by simp only [encTEtchhouseref1band, go_sem]
@[go_sem] theorem ren_TEtchhouseref1band (κ : Key → Key) (a : TEtchhouseref1band) : (encTEtchhouseref1band a).ren κ = encTEtchhouseref1band a := by simp only [encTEtchhouseref1band, ren_agg, map_ren_cons, map_ren_nil, go_sem]
@[go_sem] theorem nA_TEtchhouseref1band (a : TEtchhouseref1band) : namesA (encTEtchhouseref1band a) = [] := rfl
@[go_sem] theorem cells_TEtchhouseref1band (a : TEtchhouseref1band) : (encTEtchhouseref1band a).cells = 3 := rfl
@[go_sem] theorem known_TEtchhouseref1band (a : TEtchhouseref1band) : (encTEtchhouseref1band a).known = true := rfl
@[go_sem] theorem strip_TEtchhouseref1band (a : TEtchhouseref1band) : (encTEtchhouseref1band a).strip = encTEtchhouseref1band a := rfl
@[go_sem] theorem okw_TEtchhouseref1band (a : TEtchhouseref1band) (g : Bool) : (encTEtchhouseref1band a).okw g = True := rfl
@[go_sem] theorem pok_TEtchhouseref1band (a : TEtchhouseref1band) (o s : Nat) (b : Bool) : partOk (encTEtchhouseref1band a) o s b = (o + s ≤ 3) := rfl
@[go_sem] theorem part_TEtchhouseref1band_0 (a : TEtchhouseref1band) : (encTEtchhouseref1band a).part 0 1 false = (.int .i64 a.from_) := rfl
@[go_sem] theorem part_TEtchhouseref1band_1 (a : TEtchhouseref1band) : (encTEtchhouseref1band a).part 1 1 false = (.int .i64 a.to_) := rfl
@[go_sem] theorem part_TEtchhouseref1band_2 (a : TEtchhouseref1band) : (encTEtchhouseref1band a).part 2 1 false = (encL 2 encTEtchhouseref1span a.spans) := rfl
@[go_sem] theorem all_TEtchhouseref1band (a : TEtchhouseref1band) : (encTEtchhouseref1band a).part 0 3 true = encTEtchhouseref1band a := by
  simp only [encTEtchhouseref1band, agg, AVal.part, if_true, List.length]; congr 1; funext j; rcases j with _ | _ | _ | j <;> first | rfl | simp [lst]
@[go_sem] theorem putOk_TEtchhouseref1band (a : TEtchhouseref1band) (o : Nat) (x : AVal) : putOk (encTEtchhouseref1band a) o x = (o + x.cells ≤ 3) := rfl
@[go_sem] theorem putP_TEtchhouseref1band (a b : TEtchhouseref1band) : putPart (encTEtchhouseref1band a) 0 (encTEtchhouseref1band b) = encTEtchhouseref1band b := rfl
@[go_sem] theorem putPl_TEtchhouseref1band (v0 v1 v2 : AVal) (b : TEtchhouseref1band) : putPart (agg [v0, v1, v2]) 0 (encTEtchhouseref1band b) = encTEtchhouseref1band b := rfl
@[go_sem] theorem putPr_TEtchhouseref1band (v0 v1 v2 : AVal) (a : TEtchhouseref1band) : putPart (encTEtchhouseref1band a) 0 (agg [v0, v1, v2]) = agg [v0, v1, v2] := rfl
@[go_sem] theorem put_TEtchhouseref1band_from_ (a : TEtchhouseref1band) (b : Int) : putPart (encTEtchhouseref1band a) 0 ((.int .i64 b)) = encTEtchhouseref1band { a with from_ := b } := by
  simp only [encTEtchhouseref1band, agg, putPart, List.length]; congr 1; funext j; rcases j with _ | _ | _ | j <;> first | rfl | simp [lst]
@[go_sem] theorem put_TEtchhouseref1band_to_ (a : TEtchhouseref1band) (b : Int) : putPart (encTEtchhouseref1band a) 1 ((.int .i64 b)) = encTEtchhouseref1band { a with to_ := b } := by
  simp only [encTEtchhouseref1band, agg, putPart, List.length]; congr 1; funext j; rcases j with _ | _ | _ | j <;> first | rfl | simp [lst]
@[go_sem] theorem put_TEtchhouseref1band_spans (a : TEtchhouseref1band) (b : (List TEtchhouseref1span)) : putPart (encTEtchhouseref1band a) 2 ((encL 2 encTEtchhouseref1span b)) = encTEtchhouseref1band { a with spans := b } := by
  simp only [encTEtchhouseref1band, agg, putPart, List.length, encL]; congr 1; funext j; rcases j with _ | _ | _ | j <;> first | rfl | simp [lst]
@[go_sem] theorem sz_TEtchhouseref1band : szT Try.prog 107 = 3 := by kernel_rfl
@[go_sem] theorem ag_TEtchhouseref1band : aggT Try.prog 107 = true := by kernel_rfl
@[go_sem] theorem st_TEtchhouseref1band : strT Try.prog 107 = false := by kernel_rfl
@[go_sem] theorem by_TEtchhouseref1band : byT Try.prog 107 = 40 := by kernel_rfl
@[go_sem] theorem sz_TEtchhouseref1band_u : szT Try.prog 106 = 3 := by kernel_rfl
@[go_sem] theorem ag_TEtchhouseref1band_u : aggT Try.prog 106 = true := by kernel_rfl
@[go_sem] theorem st_TEtchhouseref1band_u : strT Try.prog 106 = false := by kernel_rfl
@[go_sem] theorem by_TEtchhouseref1band_u : byT Try.prog 106 = 40 := by kernel_rfl
@[go_sem] theorem fo_TEtchhouseref1band_from_ : foffT Try.prog 107 0 = 0 := by kernel_rfl
@[go_sem] theorem ft_TEtchhouseref1band_from_ : ftyT Try.prog 107 0 = 3 := by kernel_rfl
@[go_sem] theorem fo_TEtchhouseref1band_to_ : foffT Try.prog 107 1 = 1 := by kernel_rfl
@[go_sem] theorem ft_TEtchhouseref1band_to_ : ftyT Try.prog 107 1 = 3 := by kernel_rfl
@[go_sem] theorem fo_TEtchhouseref1band_spans : foffT Try.prog 107 2 = 2 := by kernel_rfl
@[go_sem] theorem ft_TEtchhouseref1band_spans : ftyT Try.prog 107 2 = 104 := by kernel_rfl
@[go_sem] theorem fo_u_TEtchhouseref1band_from_ : foffT Try.prog 106 0 = 0 := by kernel_rfl
@[go_sem] theorem ft_u_TEtchhouseref1band_from_ : ftyT Try.prog 106 0 = 3 := by kernel_rfl
@[go_sem] theorem fo_u_TEtchhouseref1band_to_ : foffT Try.prog 106 1 = 1 := by kernel_rfl
@[go_sem] theorem ft_u_TEtchhouseref1band_to_ : ftyT Try.prog 106 1 = 3 := by kernel_rfl
@[go_sem] theorem fo_u_TEtchhouseref1band_spans : foffT Try.prog 106 2 = 2 := by kernel_rfl
@[go_sem] theorem ft_u_TEtchhouseref1band_spans : ftyT Try.prog 106 2 = 104 := by kernel_rfl
@[go_sem] theorem ze_TEtchhouseref1band : zeroT Try.prog 107 = agg [.int .i64 0, .int .i64 0, .nilsl] := (show zeroT Try.prog 107 = ofConst (.agg #[.int .i64 0, .int .i64 0, .slice none 0 0]) by kernel_rfl).trans (ofConst_agg _)
@[go_sem] theorem mkL_TEtchhouseref1band (a : TEtchhouseref1band) (l : List AVal) : mkL (encTEtchhouseref1band a :: l) = mkP encTEtchhouseref1band [a] l := rfl
@[go_sem] theorem mkP_TEtchhouseref1band (acc : List TEtchhouseref1band) (a : TEtchhouseref1band) (l : List AVal) : mkP encTEtchhouseref1band acc (encTEtchhouseref1band a :: l) = mkP encTEtchhouseref1band (acc ++ [a]) l := mkP_cons encTEtchhouseref1band acc a l
@[go_sem] theorem getD_TEtchhouseref1band (l : List TEtchhouseref1band) (e : Nat) : (l.map encTEtchhouseref1band).getD e (encTEtchhouseref1band {}) = encTEtchhouseref1band (l.getD e default) := getD_row (enc := encTEtchhouseref1band) l e
@[go_sem] theorem bd_TRect_  : buildF Try.prog 29 [] = encTRect {  } := by
  simp only [buildF, go_sem, List.foldl]
  simp only [encTRect, agg, List.length]
  congr 1 <;> (funext j; rcases j with _ | _ | _ | _ | j <;> first | rfl | simp [lst, AVal.part])
@[go_sem] theorem bd_TRect_0123 (v0 : Int) (v1 : Int) (v2 : Int) (v3 : Int) : buildF Try.prog 29 [(0, (.int .i64 v0)), (1, (.int .i64 v1)), (2, (.int .i64 v2)), (3, (.int .i64 v3))] = encTRect { X0 := v0, Y0 := v1, X1 := v2, Y1 := v3 } := by
  simp only [buildF, go_sem, List.foldl]
  simp only [encTRect, agg, List.length]
  congr 1 <;> (funext j; rcases j with _ | _ | _ | _ | j <;> first | rfl | simp [lst, AVal.part])
@[go_sem] theorem bd_TRect_23 (v0 : Int) (v1 : Int) : buildF Try.prog 29 [(2, (.int .i64 v0)), (3, (.int .i64 v1))] = encTRect { X1 := v0, Y1 := v1 } := by
  simp only [buildF, go_sem, List.foldl]
  simp only [encTRect, agg, List.length]
  congr 1 <;> (funext j; rcases j with _ | _ | _ | _ | j <;> first | rfl | simp [lst, AVal.part])
@[go_sem] theorem bd_TPoint_  : buildF Try.prog 35 [] = encTPoint {  } := by
  simp only [buildF, go_sem, List.foldl]
  simp only [encTPoint, agg, List.length]
  congr 1 <;> (funext j; rcases j with _ | _ | j <;> first | rfl | simp [lst, AVal.part])
@[go_sem] theorem bd_TPoint_01 (v0 : Int) (v1 : Int) : buildF Try.prog 35 [(0, (.int .i64 v0)), (1, (.int .i64 v1))] = encTPoint { X := v0, Y := v1 } := by
  simp only [buildF, go_sem, List.foldl]
  simp only [encTPoint, agg, List.length]
  congr 1 <;> (funext j; rcases j with _ | _ | j <;> first | rfl | simp [lst, AVal.part])
@[go_sem] theorem bd_TTurn_  : buildF Try.prog 42 [] = encTTurn {  } := by
  simp only [buildF, go_sem, List.foldl]
  simp only [encTTurn, agg, List.length]
  congr 1 <;> (funext j; rcases j with _ | _ | _ | _ | j <;> first | rfl | simp [lst, AVal.part])
@[go_sem] theorem bd_TTurn_01 (v0 : Bool) (v1 : Int) : buildF Try.prog 42 [(0, (.bool v0)), (1, (.int .i64 v1))] = encTTurn { Flip := v0, Quarters := v1 } := by
  simp only [buildF, go_sem, List.foldl]
  simp only [encTTurn, agg, List.length]
  congr 1 <;> (funext j; rcases j with _ | _ | _ | _ | j <;> first | rfl | simp [lst, AVal.part])
@[go_sem] theorem bd_TTurn_012 (v0 : Bool) (v1 : Int) (v2 : TPoint) : buildF Try.prog 42 [(0, (.bool v0)), (1, (.int .i64 v1)), (2, encTPoint v2)] = encTTurn { Flip := v0, Quarters := v1, At := v2 } := by
  simp only [buildF, go_sem, List.foldl]
  simp only [encTTurn, encTPoint, agg, List.length]
  congr 1 <;> (funext j; rcases j with _ | _ | _ | _ | j <;> first | rfl | simp [lst, AVal.part])
@[go_sem] theorem bd_TGap_2 (v0 : Int) : buildF Try.prog 58 [(2, (.int .i64 v0))] = encTGap { Distance := v0 } := by
  simp only [buildF, go_sem, List.foldl]
  simp only [encTGap, agg, List.length]
  congr 1 <;> (funext j; rcases j with _ | _ | _ | _ | _ | _ | _ | j <;> first | rfl | simp [lst, AVal.part])
@[go_sem] theorem bd_TGap_234 (v0 : Int) (v1 : TPoint) (v2 : TPoint) : buildF Try.prog 58 [(2, (.int .i64 v0)), (3, encTPoint v1), (4, encTPoint v2)] = encTGap { Distance := v0, From := v1, To := v2 } := by
  simp only [buildF, go_sem, List.foldl]
  simp only [encTGap, encTPoint, encTPoint, agg, List.length]
  congr 1 <;> (funext j; rcases j with _ | _ | _ | _ | _ | _ | _ | j <;> first | rfl | simp [lst, AVal.part])
@[go_sem] theorem bd_TShapeBand_012 (v0 : Int) (v1 : Int) (v2 : AVal) (h2 : v2.leaf = true) : buildF Try.prog 100 [(0, (.int .i64 v0)), (1, (.int .i64 v1)), (2, v2)] = agg [(.int .i64 v0), (.int .i64 v1), v2] := by
  cases v2 <;> first | cases h2 | skip
  all_goals first | rfl | (simp only [buildF, go_sem, List.foldl]; first | rfl | (simp only [agg, putPart, List.length]; congr 1; funext j; rcases j with _ | _ | _ | j <;> first | rfl | simp [lst, AVal.part]))
@[go_sem] theorem bd_TEtchhouseref1band_012 (v0 : Int) (v1 : Int) (v2 : AVal) (h2 : v2.leaf = true) : buildF Try.prog 107 [(0, (.int .i64 v0)), (1, (.int .i64 v1)), (2, v2)] = agg [(.int .i64 v0), (.int .i64 v1), v2] := by
  cases v2 <;> first | cases h2 | skip
  all_goals first | rfl | (simp only [buildF, go_sem, List.foldl]; first | rfl | (simp only [agg, putPart, List.length]; congr 1; funext j; rcases j with _ | _ | _ | j <;> first | rfl | simp [lst, AVal.part]))
@[go_sem] theorem bd_TEtchhouseref1span_01 (v0 : Int) (v1 : Int) : buildF Try.prog 131 [(0, (.int .i64 v0)), (1, (.int .i64 v1))] = encTEtchhouseref1span { from_ := v0, to_ := v1 } := by
  simp only [buildF, go_sem, List.foldl]
  simp only [encTEtchhouseref1span, agg, List.length]
  congr 1 <;> (funext j; rcases j with _ | _ | j <;> first | rfl | simp [lst, AVal.part])
end Go.Nw
