/- What Lean must know of the seat's types. Printed by nwty.py (ours). -/
import Derived.Test.YtngdglmimlfefaaNwGlue
import Derived.Test.YtngdglmimlfefaaProg
import Derived.KernelRfl
namespace Go.Nw
open Go.Proofs
set_option linter.unusedVariables false
set_option linter.unusedSimpArgs false
set_option maxRecDepth 10000
@[go_sem] theorem sz_t2 : szT Try.prog 2 = 1 := by kernel_rfl
@[go_sem] theorem ag_t2 : aggT Try.prog 2 = false := by kernel_rfl
@[go_sem] theorem st_t2 : strT Try.prog 2 = false := by kernel_rfl
@[go_sem] theorem by_t2 : byT Try.prog 2 = 8 := by kernel_rfl
@[go_sem] theorem ze_t2 : zeroT Try.prog 2 = .int .i64 0 := by kernel_rfl
@[go_sem] theorem ki_t2 : kindT Try.prog 2 = some .i64 := by kernel_rfl
@[go_sem] theorem sz_t3 : szT Try.prog 3 = 1 := by kernel_rfl
@[go_sem] theorem ag_t3 : aggT Try.prog 3 = false := by kernel_rfl
@[go_sem] theorem st_t3 : strT Try.prog 3 = false := by kernel_rfl
@[go_sem] theorem by_t3 : byT Try.prog 3 = 8 := by kernel_rfl
@[go_sem] theorem ze_t3 : zeroT Try.prog 3 = .int .i64 0 := by kernel_rfl
@[go_sem] theorem ki_t3 : kindT Try.prog 3 = some .i64 := by kernel_rfl
@[go_sem] theorem sz_t4 : szT Try.prog 4 = 1 := by kernel_rfl
@[go_sem] theorem ag_t4 : aggT Try.prog 4 = false := by kernel_rfl
@[go_sem] theorem st_t4 : strT Try.prog 4 = false := by kernel_rfl
@[go_sem] theorem by_t4 : byT Try.prog 4 = 1 := by kernel_rfl
@[go_sem] theorem ze_t4 : zeroT Try.prog 4 = .bool false := by kernel_rfl
@[go_sem] theorem un_t4 : (Try.prog.underlying 4 = some .bool) = True := eq_true (by kernel_rfl)
@[go_sem] theorem sz_t5 : szT Try.prog 5 = 1 := by kernel_rfl
@[go_sem] theorem ag_t5 : aggT Try.prog 5 = false := by kernel_rfl
@[go_sem] theorem st_t5 : strT Try.prog 5 = false := by kernel_rfl
@[go_sem] theorem by_t5 : byT Try.prog 5 = 1 := by kernel_rfl
@[go_sem] theorem ze_t5 : zeroT Try.prog 5 = .int .u8 0 := by kernel_rfl
@[go_sem] theorem ki_t5 : kindT Try.prog 5 = some .u8 := by kernel_rfl
@[go_sem] theorem sz_t6 : szT Try.prog 6 = 1 := by kernel_rfl
@[go_sem] theorem ag_t6 : aggT Try.prog 6 = false := by kernel_rfl
@[go_sem] theorem st_t6 : strT Try.prog 6 = false := by kernel_rfl
@[go_sem] theorem by_t6 : byT Try.prog 6 = 1 := by kernel_rfl
@[go_sem] theorem ze_t6 : zeroT Try.prog 6 = .int .u8 0 := by kernel_rfl
@[go_sem] theorem ki_t6 : kindT Try.prog 6 = some .u8 := by kernel_rfl
@[go_sem] theorem sz_t9 : szT Try.prog 9 = 1 := by kernel_rfl
@[go_sem] theorem ag_t9 : aggT Try.prog 9 = false := by kernel_rfl
@[go_sem] theorem st_t9 : strT Try.prog 9 = true := by kernel_rfl
@[go_sem] theorem by_t9 : byT Try.prog 9 = 16 := by kernel_rfl
@[go_sem] theorem ze_t9 : zeroT Try.prog 9 = .str ByteArray.empty := by kernel_rfl
@[go_sem] theorem sz_t10 : szT Try.prog 10 = 1 := by kernel_rfl
@[go_sem] theorem ag_t10 : aggT Try.prog 10 = false := by kernel_rfl
@[go_sem] theorem st_t10 : strT Try.prog 10 = true := by kernel_rfl
@[go_sem] theorem by_t10 : byT Try.prog 10 = 16 := by kernel_rfl
@[go_sem] theorem ze_t10 : zeroT Try.prog 10 = .str ByteArray.empty := by kernel_rfl
@[go_sem] theorem sz_t11 : szT Try.prog 11 = 1 := by kernel_rfl
@[go_sem] theorem ag_t11 : aggT Try.prog 11 = false := by kernel_rfl
@[go_sem] theorem st_t11 : strT Try.prog 11 = true := by kernel_rfl
@[go_sem] theorem by_t11 : byT Try.prog 11 = 16 := by kernel_rfl
@[go_sem] theorem ze_t11 : zeroT Try.prog 11 = .str ByteArray.empty := by kernel_rfl
@[go_sem] theorem sz_t12 : szT Try.prog 12 = 1 := by kernel_rfl
@[go_sem] theorem ag_t12 : aggT Try.prog 12 = false := by kernel_rfl
@[go_sem] theorem st_t12 : strT Try.prog 12 = false := by kernel_rfl
@[go_sem] theorem by_t12 : byT Try.prog 12 = 8 := by kernel_rfl
@[go_sem] theorem ze_t12 : zeroT Try.prog 12 = .int .u64 0 := by kernel_rfl
@[go_sem] theorem ki_t12 : kindT Try.prog 12 = some .u64 := by kernel_rfl
@[go_sem] theorem sz_t21 : szT Try.prog 21 = 1 := by kernel_rfl
@[go_sem] theorem ag_t21 : aggT Try.prog 21 = false := by kernel_rfl
@[go_sem] theorem st_t21 : strT Try.prog 21 = false := by kernel_rfl
@[go_sem] theorem by_t21 : byT Try.prog 21 = 4 := by kernel_rfl
@[go_sem] theorem ze_t21 : zeroT Try.prog 21 = .int .i32 0 := by kernel_rfl
@[go_sem] theorem ki_t21 : kindT Try.prog 21 = some .i32 := by kernel_rfl
@[go_sem] theorem sz_t22 : szT Try.prog 22 = 1 := by kernel_rfl
@[go_sem] theorem ag_t22 : aggT Try.prog 22 = false := by kernel_rfl
@[go_sem] theorem st_t22 : strT Try.prog 22 = false := by kernel_rfl
@[go_sem] theorem by_t22 : byT Try.prog 22 = 24 := by kernel_rfl
@[go_sem] theorem ze_t22 : zeroT Try.prog 22 = .nilsl := by kernel_rfl
@[go_sem] theorem el_t22 : elT Try.prog 22 = 92 := by kernel_rfl
@[go_sem] theorem sl_t22 : slT Try.prog 22 = true := by kernel_rfl
@[go_sem] theorem sz_t23 : szT Try.prog 23 = 1 := by kernel_rfl
@[go_sem] theorem ag_t23 : aggT Try.prog 23 = false := by kernel_rfl
@[go_sem] theorem st_t23 : strT Try.prog 23 = false := by kernel_rfl
@[go_sem] theorem by_t23 : byT Try.prog 23 = 24 := by kernel_rfl
@[go_sem] theorem ze_t23 : zeroT Try.prog 23 = .nilsl := by kernel_rfl
@[go_sem] theorem el_t23 : elT Try.prog 23 = 34 := by kernel_rfl
@[go_sem] theorem sl_t23 : slT Try.prog 23 = true := by kernel_rfl
@[go_sem] theorem sz_t24 : szT Try.prog 24 = 1 := by kernel_rfl
@[go_sem] theorem ag_t24 : aggT Try.prog 24 = false := by kernel_rfl
@[go_sem] theorem st_t24 : strT Try.prog 24 = false := by kernel_rfl
@[go_sem] theorem by_t24 : byT Try.prog 24 = 24 := by kernel_rfl
@[go_sem] theorem ze_t24 : zeroT Try.prog 24 = .nilsl := by kernel_rfl
@[go_sem] theorem el_t24 : elT Try.prog 24 = 32 := by kernel_rfl
@[go_sem] theorem sl_t24 : slT Try.prog 24 = true := by kernel_rfl
@[go_sem] theorem sz_t27 : szT Try.prog 27 = 1 := by kernel_rfl
@[go_sem] theorem ag_t27 : aggT Try.prog 27 = false := by kernel_rfl
@[go_sem] theorem st_t27 : strT Try.prog 27 = false := by kernel_rfl
@[go_sem] theorem by_t27 : byT Try.prog 27 = 8 := by kernel_rfl
@[go_sem] theorem ze_t27 : zeroT Try.prog 27 = .int .i64 0 := by kernel_rfl
@[go_sem] theorem ki_t27 : kindT Try.prog 27 = some .i64 := by kernel_rfl
@[go_sem] theorem sz_t38 : szT Try.prog 38 = 1 := by kernel_rfl
@[go_sem] theorem ag_t38 : aggT Try.prog 38 = false := by kernel_rfl
@[go_sem] theorem st_t38 : strT Try.prog 38 = false := by kernel_rfl
@[go_sem] theorem by_t38 : byT Try.prog 38 = 24 := by kernel_rfl
@[go_sem] theorem ze_t38 : zeroT Try.prog 38 = .nilsl := by kernel_rfl
@[go_sem] theorem el_t38 : elT Try.prog 38 = 42 := by kernel_rfl
@[go_sem] theorem sl_t38 : slT Try.prog 38 = true := by kernel_rfl
@[go_sem] theorem sz_t71 : szT Try.prog 71 = 1 := by kernel_rfl
@[go_sem] theorem ag_t71 : aggT Try.prog 71 = false := by kernel_rfl
@[go_sem] theorem st_t71 : strT Try.prog 71 = false := by kernel_rfl
@[go_sem] theorem by_t71 : byT Try.prog 71 = 24 := by kernel_rfl
@[go_sem] theorem ze_t71 : zeroT Try.prog 71 = .nilsl := by kernel_rfl
@[go_sem] theorem el_t71 : elT Try.prog 71 = 77 := by kernel_rfl
@[go_sem] theorem sl_t71 : slT Try.prog 71 = true := by kernel_rfl
@[go_sem] theorem sz_t101 : szT Try.prog 101 = 1 := by kernel_rfl
@[go_sem] theorem ag_t101 : aggT Try.prog 101 = false := by kernel_rfl
@[go_sem] theorem st_t101 : strT Try.prog 101 = false := by kernel_rfl
@[go_sem] theorem by_t101 : byT Try.prog 101 = 24 := by kernel_rfl
@[go_sem] theorem ze_t101 : zeroT Try.prog 101 = .nilsl := by kernel_rfl
@[go_sem] theorem el_t101 : elT Try.prog 101 = 46 := by kernel_rfl
@[go_sem] theorem sl_t101 : slT Try.prog 101 = true := by kernel_rfl
@[go_sem] theorem sz_t105 : szT Try.prog 105 = 1 := by kernel_rfl
@[go_sem] theorem ag_t105 : aggT Try.prog 105 = false := by kernel_rfl
@[go_sem] theorem st_t105 : strT Try.prog 105 = false := by kernel_rfl
@[go_sem] theorem by_t105 : byT Try.prog 105 = 24 := by kernel_rfl
@[go_sem] theorem ze_t105 : zeroT Try.prog 105 = .nilsl := by kernel_rfl
@[go_sem] theorem el_t105 : elT Try.prog 105 = 3 := by kernel_rfl
@[go_sem] theorem sl_t105 : slT Try.prog 105 = true := by kernel_rfl
@[go_sem] theorem sz_t122 : szT Try.prog 122 = 1 := by kernel_rfl
@[go_sem] theorem ag_t122 : aggT Try.prog 122 = false := by kernel_rfl
@[go_sem] theorem st_t122 : strT Try.prog 122 = false := by kernel_rfl
@[go_sem] theorem by_t122 : byT Try.prog 122 = 24 := by kernel_rfl
@[go_sem] theorem ze_t122 : zeroT Try.prog 122 = .nilsl := by kernel_rfl
@[go_sem] theorem el_t122 : elT Try.prog 122 = 4 := by kernel_rfl
@[go_sem] theorem sl_t122 : slT Try.prog 122 = true := by kernel_rfl
@[go_sem] theorem sz_t140 : szT Try.prog 140 = 1 := by kernel_rfl
@[go_sem] theorem ag_t140 : aggT Try.prog 140 = false := by kernel_rfl
@[go_sem] theorem st_t140 : strT Try.prog 140 = false := by kernel_rfl
@[go_sem] theorem by_t140 : byT Try.prog 140 = 8 := by kernel_rfl
@[go_sem] theorem ze_t140 : zeroT Try.prog 140 = .int .u64 0 := by kernel_rfl
@[go_sem] theorem ki_t140 : kindT Try.prog 140 = some .u64 := by kernel_rfl
@[go_sem] theorem sz_t151 : szT Try.prog 151 = 1 := by kernel_rfl
@[go_sem] theorem ag_t151 : aggT Try.prog 151 = false := by kernel_rfl
@[go_sem] theorem st_t151 : strT Try.prog 151 = false := by kernel_rfl
@[go_sem] theorem by_t151 : byT Try.prog 151 = 8 := by kernel_rfl
@[go_sem] theorem ze_t151 : zeroT Try.prog 151 = .int .i64 0 := by kernel_rfl
@[go_sem] theorem ki_t151 : kindT Try.prog 151 = some .i64 := by kernel_rfl
@[go_sem] theorem sz_t159 : szT Try.prog 159 = 1 := by kernel_rfl
@[go_sem] theorem ag_t159 : aggT Try.prog 159 = false := by kernel_rfl
@[go_sem] theorem st_t159 : strT Try.prog 159 = false := by kernel_rfl
@[go_sem] theorem by_t159 : byT Try.prog 159 = 4 := by kernel_rfl
@[go_sem] theorem ze_t159 : zeroT Try.prog 159 = .int .u32 0 := by kernel_rfl
@[go_sem] theorem ki_t159 : kindT Try.prog 159 = some .u32 := by kernel_rfl
@[go_sem] theorem sz_t161 : szT Try.prog 161 = 1 := by kernel_rfl
@[go_sem] theorem ag_t161 : aggT Try.prog 161 = false := by kernel_rfl
@[go_sem] theorem st_t161 : strT Try.prog 161 = false := by kernel_rfl
@[go_sem] theorem by_t161 : byT Try.prog 161 = 8 := by kernel_rfl
@[go_sem] theorem ze_t161 : zeroT Try.prog 161 = .int .u64 0 := by kernel_rfl
@[go_sem] theorem ki_t161 : kindT Try.prog 161 = some .u64 := by kernel_rfl
@[go_sem] theorem sz_t162 : szT Try.prog 162 = 1 := by kernel_rfl
@[go_sem] theorem ag_t162 : aggT Try.prog 162 = false := by kernel_rfl
@[go_sem] theorem st_t162 : strT Try.prog 162 = false := by kernel_rfl
@[go_sem] theorem by_t162 : byT Try.prog 162 = 24 := by kernel_rfl
@[go_sem] theorem ze_t162 : zeroT Try.prog 162 = .nilsl := by kernel_rfl
@[go_sem] theorem el_t162 : elT Try.prog 162 = 71 := by kernel_rfl
@[go_sem] theorem sl_t162 : slT Try.prog 162 = true := by kernel_rfl
@[go_sem] theorem sz_t169 : szT Try.prog 169 = 1 := by kernel_rfl
@[go_sem] theorem ag_t169 : aggT Try.prog 169 = false := by kernel_rfl
@[go_sem] theorem st_t169 : strT Try.prog 169 = false := by kernel_rfl
@[go_sem] theorem by_t169 : byT Try.prog 169 = 8 := by kernel_rfl
@[go_sem] theorem ze_t169 : zeroT Try.prog 169 = .int .u64 0 := by kernel_rfl
@[go_sem] theorem ki_t169 : kindT Try.prog 169 = some .u64 := by kernel_rfl
@[go_sem] theorem sz_t187 : szT Try.prog 187 = 1 := by kernel_rfl
@[go_sem] theorem ag_t187 : aggT Try.prog 187 = false := by kernel_rfl
@[go_sem] theorem st_t187 : strT Try.prog 187 = false := by kernel_rfl
@[go_sem] theorem by_t187 : byT Try.prog 187 = 1 := by kernel_rfl
@[go_sem] theorem ze_t187 : zeroT Try.prog 187 = .int .u8 0 := by kernel_rfl
@[go_sem] theorem ki_t187 : kindT Try.prog 187 = some .u8 := by kernel_rfl
@[go_sem] theorem sz_t188 : szT Try.prog 188 = 1 := by kernel_rfl
@[go_sem] theorem ag_t188 : aggT Try.prog 188 = false := by kernel_rfl
@[go_sem] theorem st_t188 : strT Try.prog 188 = false := by kernel_rfl
@[go_sem] theorem by_t188 : byT Try.prog 188 = 1 := by kernel_rfl
@[go_sem] theorem ze_t188 : zeroT Try.prog 188 = .int .u8 0 := by kernel_rfl
@[go_sem] theorem ki_t188 : kindT Try.prog 188 = some .u8 := by kernel_rfl
@[go_sem] theorem sz_t191 : szT Try.prog 191 = 1 := by kernel_rfl
@[go_sem] theorem ag_t191 : aggT Try.prog 191 = false := by kernel_rfl
@[go_sem] theorem st_t191 : strT Try.prog 191 = false := by kernel_rfl
@[go_sem] theorem by_t191 : byT Try.prog 191 = 4 := by kernel_rfl
@[go_sem] theorem ze_t191 : zeroT Try.prog 191 = .int .i32 0 := by kernel_rfl
@[go_sem] theorem ki_t191 : kindT Try.prog 191 = some .i32 := by kernel_rfl
@[go_sem] theorem sz_t192 : szT Try.prog 192 = 1 := by kernel_rfl
@[go_sem] theorem ag_t192 : aggT Try.prog 192 = false := by kernel_rfl
@[go_sem] theorem st_t192 : strT Try.prog 192 = false := by kernel_rfl
@[go_sem] theorem by_t192 : byT Try.prog 192 = 4 := by kernel_rfl
@[go_sem] theorem ze_t192 : zeroT Try.prog 192 = .int .i32 0 := by kernel_rfl
@[go_sem] theorem ki_t192 : kindT Try.prog 192 = some .i32 := by kernel_rfl
@[ext] structure TBoardKind where
  Name : ByteArray := ByteArray.empty
  W : Int := 0
  H : Int := 0
  deriving Inhabited, DecidableEq
def encTBoardKind (a : TBoardKind) : AVal := agg [(.str a.Name), (.int .i64 a.W), (.int .i64 a.H)]
instance : Nml encTBoardKind := ⟨fun a => by simp only [encTBoardKind, go_sem], fun κ a => by simp only [encTBoardKind, ren_agg, map_ren_cons, map_ren_nil, go_sem]⟩
def okTBoardKind (a : TBoardKind) : Prop := a.Name.size < 281474976710656 ∧ (-9223372036854775808 ≤ a.W ∧ a.W ≤ 9223372036854775807) ∧ (-9223372036854775808 ≤ a.H ∧ a.H ≤ 9223372036854775807)
@[go_sem] theorem nm_TBoardKind (a : TBoardKind) : (encTBoardKind a).nameless = True := by simp only [encTBoardKind, go_sem]
@[go_sem] theorem ren_TBoardKind (κ : Key → Key) (a : TBoardKind) : (encTBoardKind a).ren κ = encTBoardKind a := by simp only [encTBoardKind, ren_agg, map_ren_cons, map_ren_nil, go_sem]
@[go_sem] theorem nA_TBoardKind (a : TBoardKind) : namesA (encTBoardKind a) = [] := rfl
@[go_sem] theorem fr_TBoardKind (a : TBoardKind) : (encTBoardKind a).free = True := by simp only [encTBoardKind, go_sem]
instance : Fre encTBoardKind := ⟨fun a => by simp only [fr_TBoardKind]⟩
@[go_sem] theorem cells_TBoardKind (a : TBoardKind) : (encTBoardKind a).cells = 3 := rfl
@[go_sem] theorem known_TBoardKind (a : TBoardKind) : (encTBoardKind a).known = true := rfl
@[go_sem] theorem strip_TBoardKind (a : TBoardKind) : (encTBoardKind a).strip = encTBoardKind a := rfl
@[go_sem] theorem okw_TBoardKind (a : TBoardKind) (g : Bool) : (encTBoardKind a).okw g = True := rfl
@[go_sem] theorem pok_TBoardKind (a : TBoardKind) (o s : Nat) (b : Bool) : partOk (encTBoardKind a) o s b = (o + s ≤ 3) := rfl
@[go_sem] theorem part_TBoardKind_0 (a : TBoardKind) : (encTBoardKind a).part 0 1 false = (.str a.Name) := rfl
@[go_sem] theorem part_TBoardKind_1 (a : TBoardKind) : (encTBoardKind a).part 1 1 false = (.int .i64 a.W) := rfl
@[go_sem] theorem part_TBoardKind_2 (a : TBoardKind) : (encTBoardKind a).part 2 1 false = (.int .i64 a.H) := rfl
@[go_sem] theorem all_TBoardKind (a : TBoardKind) : (encTBoardKind a).part 0 3 true = encTBoardKind a := by
  simp only [encTBoardKind, agg, AVal.part, if_true, List.length]; congr 1; funext j; rcases j with _ | _ | _ | j <;> first | rfl | simp [lst]
@[go_sem] theorem putOk_TBoardKind (a : TBoardKind) (o : Nat) (x : AVal) : putOk (encTBoardKind a) o x = (o + x.cells ≤ 3) := rfl
@[go_sem] theorem putP_TBoardKind (a b : TBoardKind) : putPart (encTBoardKind a) 0 (encTBoardKind b) = encTBoardKind b := rfl
@[go_sem] theorem putPl_TBoardKind (v0 v1 v2 : AVal) (b : TBoardKind) : putPart (agg [v0, v1, v2]) 0 (encTBoardKind b) = encTBoardKind b := rfl
@[go_sem] theorem putPr_TBoardKind (v0 v1 v2 : AVal) (a : TBoardKind) : putPart (encTBoardKind a) 0 (agg [v0, v1, v2]) = agg [v0, v1, v2] := rfl
@[go_sem] theorem put_TBoardKind_Name (a : TBoardKind) (b : ByteArray) : putPart (encTBoardKind a) 0 ((.str b)) = encTBoardKind { a with Name := b } := by
  simp only [encTBoardKind, agg, putPart, List.length]; congr 1; funext j; rcases j with _ | _ | _ | j <;> first | rfl | simp [lst]
@[go_sem] theorem put_TBoardKind_W (a : TBoardKind) (b : Int) : putPart (encTBoardKind a) 1 ((.int .i64 b)) = encTBoardKind { a with W := b } := by
  simp only [encTBoardKind, agg, putPart, List.length]; congr 1; funext j; rcases j with _ | _ | _ | j <;> first | rfl | simp [lst]
@[go_sem] theorem put_TBoardKind_H (a : TBoardKind) (b : Int) : putPart (encTBoardKind a) 2 ((.int .i64 b)) = encTBoardKind { a with H := b } := by
  simp only [encTBoardKind, agg, putPart, List.length]; congr 1; funext j; rcases j with _ | _ | _ | j <;> first | rfl | simp [lst]
@[go_sem] theorem sz_TBoardKind : szT Try.prog 92 = 3 := by kernel_rfl
@[go_sem] theorem ag_TBoardKind : aggT Try.prog 92 = true := by kernel_rfl
@[go_sem] theorem st_TBoardKind : strT Try.prog 92 = false := by kernel_rfl
@[go_sem] theorem by_TBoardKind : byT Try.prog 92 = 32 := by kernel_rfl
@[go_sem] theorem sz_TBoardKind_u : szT Try.prog 91 = 3 := by kernel_rfl
@[go_sem] theorem ag_TBoardKind_u : aggT Try.prog 91 = true := by kernel_rfl
@[go_sem] theorem st_TBoardKind_u : strT Try.prog 91 = false := by kernel_rfl
@[go_sem] theorem by_TBoardKind_u : byT Try.prog 91 = 32 := by kernel_rfl
@[go_sem] theorem fo_TBoardKind_Name : foffT Try.prog 92 0 = 0 := by kernel_rfl
@[go_sem] theorem ft_TBoardKind_Name : ftyT Try.prog 92 0 = 9 := by kernel_rfl
@[go_sem] theorem fo_TBoardKind_W : foffT Try.prog 92 1 = 1 := by kernel_rfl
@[go_sem] theorem ft_TBoardKind_W : ftyT Try.prog 92 1 = 3 := by kernel_rfl
@[go_sem] theorem fo_TBoardKind_H : foffT Try.prog 92 2 = 2 := by kernel_rfl
@[go_sem] theorem ft_TBoardKind_H : ftyT Try.prog 92 2 = 3 := by kernel_rfl
@[go_sem] theorem fo_u_TBoardKind_Name : foffT Try.prog 91 0 = 0 := by kernel_rfl
@[go_sem] theorem ft_u_TBoardKind_Name : ftyT Try.prog 91 0 = 9 := by kernel_rfl
@[go_sem] theorem fo_u_TBoardKind_W : foffT Try.prog 91 1 = 1 := by kernel_rfl
@[go_sem] theorem ft_u_TBoardKind_W : ftyT Try.prog 91 1 = 3 := by kernel_rfl
@[go_sem] theorem fo_u_TBoardKind_H : foffT Try.prog 91 2 = 2 := by kernel_rfl
@[go_sem] theorem ft_u_TBoardKind_H : ftyT Try.prog 91 2 = 3 := by kernel_rfl
@[go_sem] theorem ze_TBoardKind : zeroT Try.prog 92 = encTBoardKind {} := (show zeroT Try.prog 92 = ofConst (.agg #[.string ByteArray.empty, .int .i64 0, .int .i64 0]) by kernel_rfl).trans (ofConst_agg _)
theorem eqOk_TBoardKind : EqOk Try.prog 92 3 fun j => ([.str, .int .i64, .int .i64] : List LK).getD j .bool := eqOk_of (by kernel_rfl) (by kernel_rfl) (by decide) (by kernel_rfl)
theorem aeq_TBoardKind (a b : TBoardKind) : aeq 3 (lst [(.str a.Name), (.int .i64 a.W), (.int .i64 a.H)]) (lst [(.str b.Name), (.int .i64 b.W), (.int .i64 b.H)]) = decide (a = b) := by
  rw [Bool.eq_iff_iff]
  simp [aeq, List.range_succ, lst, leafEq, and_assoc, TBoardKind.ext_iff]
@[go_sem] theorem eq_TBoardKind (a b : TBoardKind) : binT Try.prog 92 .eql (encTBoardKind a) (encTBoardKind b) = (True, .bool (decide (a = b))) := Prod.ext (eq_true (⟨_, eqOk_TBoardKind, rfl, fun j hj => by rcases j with _ | _ | _ |  j <;> first | exact ⟨rfl, rfl⟩ | exact ⟨trivial, trivial⟩ | (simp only [List.length_cons, List.length_nil] at hj; omega)⟩)) (congrArg AVal.bool (aeq_TBoardKind a b))
@[go_sem] theorem ne_TBoardKind (a b : TBoardKind) : binT Try.prog 92 .neq (encTBoardKind a) (encTBoardKind b) = (True, .bool (!decide (a = b))) := Prod.ext (eq_true (⟨_, eqOk_TBoardKind, rfl, fun j hj => by rcases j with _ | _ | _ |  j <;> first | exact ⟨rfl, rfl⟩ | exact ⟨trivial, trivial⟩ | (simp only [List.length_cons, List.length_nil] at hj; omega)⟩)) (congrArg (fun b => AVal.bool (!b)) (aeq_TBoardKind a b))
@[go_sem] theorem mkL_TBoardKind (a : TBoardKind) (l : List AVal) : mkL (encTBoardKind a :: l) = mkP encTBoardKind [a] l := rfl
@[go_sem] theorem mkP_TBoardKind (acc : List TBoardKind) (a : TBoardKind) (l : List AVal) : mkP encTBoardKind acc (encTBoardKind a :: l) = mkP encTBoardKind (acc ++ [a]) l := mkP_cons encTBoardKind acc a l
@[go_sem] theorem getD_TBoardKind (l : List TBoardKind) (e : Nat) : (l.map encTBoardKind).getD e (encTBoardKind {}) = encTBoardKind (l.getD e default) := getD_row (enc := encTBoardKind) l e
@[ext] structure TPoint where
  X : Int := 0
  Y : Int := 0
  deriving Inhabited, DecidableEq
def encTPoint (a : TPoint) : AVal := agg [(.int .i64 a.X), (.int .i64 a.Y)]
instance : Nml encTPoint := ⟨fun a => by simp only [encTPoint, go_sem], fun κ a => by simp only [encTPoint, ren_agg, map_ren_cons, map_ren_nil, go_sem]⟩
def okTPoint (a : TPoint) : Prop := (-9223372036854775808 ≤ a.X ∧ a.X ≤ 9223372036854775807) ∧ (-9223372036854775808 ≤ a.Y ∧ a.Y ≤ 9223372036854775807)
@[go_sem] theorem nm_TPoint (a : TPoint) : (encTPoint a).nameless = True := by simp only [encTPoint, go_sem]
@[go_sem] theorem ren_TPoint (κ : Key → Key) (a : TPoint) : (encTPoint a).ren κ = encTPoint a := by simp only [encTPoint, ren_agg, map_ren_cons, map_ren_nil, go_sem]
@[go_sem] theorem nA_TPoint (a : TPoint) : namesA (encTPoint a) = [] := rfl
@[go_sem] theorem fr_TPoint (a : TPoint) : (encTPoint a).free = True := by simp only [encTPoint, go_sem]
instance : Fre encTPoint := ⟨fun a => by simp only [fr_TPoint]⟩
@[go_sem] theorem cells_TPoint (a : TPoint) : (encTPoint a).cells = 2 := rfl
@[go_sem] theorem known_TPoint (a : TPoint) : (encTPoint a).known = true := rfl
@[go_sem] theorem strip_TPoint (a : TPoint) : (encTPoint a).strip = encTPoint a := rfl
@[go_sem] theorem okw_TPoint (a : TPoint) (g : Bool) : (encTPoint a).okw g = True := rfl
@[go_sem] theorem pok_TPoint (a : TPoint) (o s : Nat) (b : Bool) : partOk (encTPoint a) o s b = (o + s ≤ 2) := rfl
@[go_sem] theorem part_TPoint_0 (a : TPoint) : (encTPoint a).part 0 1 false = (.int .i64 a.X) := rfl
@[go_sem] theorem part_TPoint_1 (a : TPoint) : (encTPoint a).part 1 1 false = (.int .i64 a.Y) := rfl
@[go_sem] theorem all_TPoint (a : TPoint) : (encTPoint a).part 0 2 true = encTPoint a := by
  simp only [encTPoint, agg, AVal.part, if_true, List.length]; congr 1; funext j; rcases j with _ | _ | j <;> first | rfl | simp [lst]
@[go_sem] theorem putOk_TPoint (a : TPoint) (o : Nat) (x : AVal) : putOk (encTPoint a) o x = (o + x.cells ≤ 2) := rfl
@[go_sem] theorem putP_TPoint (a b : TPoint) : putPart (encTPoint a) 0 (encTPoint b) = encTPoint b := rfl
@[go_sem] theorem putPl_TPoint (v0 v1 : AVal) (b : TPoint) : putPart (agg [v0, v1]) 0 (encTPoint b) = encTPoint b := rfl
@[go_sem] theorem putPr_TPoint (v0 v1 : AVal) (a : TPoint) : putPart (encTPoint a) 0 (agg [v0, v1]) = agg [v0, v1] := rfl
@[go_sem] theorem put_TPoint_X (a : TPoint) (b : Int) : putPart (encTPoint a) 0 ((.int .i64 b)) = encTPoint { a with X := b } := by
  simp only [encTPoint, agg, putPart, List.length]; congr 1; funext j; rcases j with _ | _ | j <;> first | rfl | simp [lst]
@[go_sem] theorem put_TPoint_Y (a : TPoint) (b : Int) : putPart (encTPoint a) 1 ((.int .i64 b)) = encTPoint { a with Y := b } := by
  simp only [encTPoint, agg, putPart, List.length]; congr 1; funext j; rcases j with _ | _ | j <;> first | rfl | simp [lst]
@[go_sem] theorem sz_TPoint : szT Try.prog 32 = 2 := by kernel_rfl
@[go_sem] theorem ag_TPoint : aggT Try.prog 32 = true := by kernel_rfl
@[go_sem] theorem st_TPoint : strT Try.prog 32 = false := by kernel_rfl
@[go_sem] theorem by_TPoint : byT Try.prog 32 = 16 := by kernel_rfl
@[go_sem] theorem sz_TPoint_u : szT Try.prog 31 = 2 := by kernel_rfl
@[go_sem] theorem ag_TPoint_u : aggT Try.prog 31 = true := by kernel_rfl
@[go_sem] theorem st_TPoint_u : strT Try.prog 31 = false := by kernel_rfl
@[go_sem] theorem by_TPoint_u : byT Try.prog 31 = 16 := by kernel_rfl
@[go_sem] theorem fo_TPoint_X : foffT Try.prog 32 0 = 0 := by kernel_rfl
@[go_sem] theorem ft_TPoint_X : ftyT Try.prog 32 0 = 3 := by kernel_rfl
@[go_sem] theorem fo_TPoint_Y : foffT Try.prog 32 1 = 1 := by kernel_rfl
@[go_sem] theorem ft_TPoint_Y : ftyT Try.prog 32 1 = 3 := by kernel_rfl
@[go_sem] theorem fo_u_TPoint_X : foffT Try.prog 31 0 = 0 := by kernel_rfl
@[go_sem] theorem ft_u_TPoint_X : ftyT Try.prog 31 0 = 3 := by kernel_rfl
@[go_sem] theorem fo_u_TPoint_Y : foffT Try.prog 31 1 = 1 := by kernel_rfl
@[go_sem] theorem ft_u_TPoint_Y : ftyT Try.prog 31 1 = 3 := by kernel_rfl
@[go_sem] theorem ze_TPoint : zeroT Try.prog 32 = encTPoint {} := (show zeroT Try.prog 32 = ofConst (.agg #[.int .i64 0, .int .i64 0]) by kernel_rfl).trans (ofConst_agg _)
theorem eqOk_TPoint : EqOk Try.prog 32 2 fun j => ([.int .i64, .int .i64] : List LK).getD j .bool := eqOk_of (by kernel_rfl) (by kernel_rfl) (by decide) (by kernel_rfl)
theorem aeq_TPoint (a b : TPoint) : aeq 2 (lst [(.int .i64 a.X), (.int .i64 a.Y)]) (lst [(.int .i64 b.X), (.int .i64 b.Y)]) = decide (a = b) := by
  rw [Bool.eq_iff_iff]
  simp [aeq, List.range_succ, lst, leafEq, and_assoc, TPoint.ext_iff]
@[go_sem] theorem eq_TPoint (a b : TPoint) : binT Try.prog 32 .eql (encTPoint a) (encTPoint b) = (True, .bool (decide (a = b))) := Prod.ext (eq_true (⟨_, eqOk_TPoint, rfl, fun j hj => by rcases j with _ | _ |  j <;> first | exact ⟨rfl, rfl⟩ | exact ⟨trivial, trivial⟩ | (simp only [List.length_cons, List.length_nil] at hj; omega)⟩)) (congrArg AVal.bool (aeq_TPoint a b))
@[go_sem] theorem ne_TPoint (a b : TPoint) : binT Try.prog 32 .neq (encTPoint a) (encTPoint b) = (True, .bool (!decide (a = b))) := Prod.ext (eq_true (⟨_, eqOk_TPoint, rfl, fun j hj => by rcases j with _ | _ |  j <;> first | exact ⟨rfl, rfl⟩ | exact ⟨trivial, trivial⟩ | (simp only [List.length_cons, List.length_nil] at hj; omega)⟩)) (congrArg (fun b => AVal.bool (!b)) (aeq_TPoint a b))
@[go_sem] theorem mkL_TPoint (a : TPoint) (l : List AVal) : mkL (encTPoint a :: l) = mkP encTPoint [a] l := rfl
@[go_sem] theorem mkP_TPoint (acc : List TPoint) (a : TPoint) (l : List AVal) : mkP encTPoint acc (encTPoint a :: l) = mkP encTPoint (acc ++ [a]) l := mkP_cons encTPoint acc a l
@[go_sem] theorem getD_TPoint (l : List TPoint) (e : Nat) : (l.map encTPoint).getD e (encTPoint {}) = encTPoint (l.getD e default) := getD_row (enc := encTPoint) l e
@[ext] structure TSlot where
  Board : ByteArray := ByteArray.empty
  Quarters : Int := 0
  At : TPoint := {}
  deriving Inhabited, DecidableEq
def encTSlot (a : TSlot) : AVal := agg [(.str a.Board), (.int .i64 a.Quarters), (.int .i64 a.At.X), (.int .i64 a.At.Y)]
instance : Nml encTSlot := ⟨fun a => by simp only [encTSlot, go_sem], fun κ a => by simp only [encTSlot, ren_agg, map_ren_cons, map_ren_nil, go_sem]⟩
def okTSlot (a : TSlot) : Prop := a.Board.size < 281474976710656 ∧ (-9223372036854775808 ≤ a.Quarters ∧ a.Quarters ≤ 9223372036854775807) ∧ okTPoint a.At
@[go_sem] theorem nm_TSlot (a : TSlot) : (encTSlot a).nameless = True := by simp only [encTSlot, go_sem]
@[go_sem] theorem ren_TSlot (κ : Key → Key) (a : TSlot) : (encTSlot a).ren κ = encTSlot a := by simp only [encTSlot, ren_agg, map_ren_cons, map_ren_nil, go_sem]
@[go_sem] theorem nA_TSlot (a : TSlot) : namesA (encTSlot a) = [] := rfl
@[go_sem] theorem fr_TSlot (a : TSlot) : (encTSlot a).free = True := by simp only [encTSlot, go_sem]
instance : Fre encTSlot := ⟨fun a => by simp only [fr_TSlot]⟩
@[go_sem] theorem cells_TSlot (a : TSlot) : (encTSlot a).cells = 4 := rfl
@[go_sem] theorem known_TSlot (a : TSlot) : (encTSlot a).known = true := rfl
@[go_sem] theorem strip_TSlot (a : TSlot) : (encTSlot a).strip = encTSlot a := rfl
@[go_sem] theorem okw_TSlot (a : TSlot) (g : Bool) : (encTSlot a).okw g = True := rfl
@[go_sem] theorem pok_TSlot (a : TSlot) (o s : Nat) (b : Bool) : partOk (encTSlot a) o s b = (o + s ≤ 4) := rfl
@[go_sem] theorem part_TSlot_0 (a : TSlot) : (encTSlot a).part 0 1 false = (.str a.Board) := rfl
@[go_sem] theorem part_TSlot_1 (a : TSlot) : (encTSlot a).part 1 1 false = (.int .i64 a.Quarters) := rfl
@[go_sem] theorem part_TSlot_2 (a : TSlot) : (encTSlot a).part 2 1 false = (.int .i64 a.At.X) := rfl
@[go_sem] theorem part_TSlot_3 (a : TSlot) : (encTSlot a).part 3 1 false = (.int .i64 a.At.Y) := rfl
@[go_sem] theorem all_TSlot (a : TSlot) : (encTSlot a).part 0 4 true = encTSlot a := by
  simp only [encTSlot, agg, AVal.part, if_true, List.length]; congr 1; funext j; rcases j with _ | _ | _ | _ | j <;> first | rfl | simp [lst]
@[go_sem] theorem putOk_TSlot (a : TSlot) (o : Nat) (x : AVal) : putOk (encTSlot a) o x = (o + x.cells ≤ 4) := rfl
@[go_sem] theorem putP_TSlot (a b : TSlot) : putPart (encTSlot a) 0 (encTSlot b) = encTSlot b := rfl
@[go_sem] theorem putPl_TSlot (v0 v1 v2 v3 : AVal) (b : TSlot) : putPart (agg [v0, v1, v2, v3]) 0 (encTSlot b) = encTSlot b := rfl
@[go_sem] theorem putPr_TSlot (v0 v1 v2 v3 : AVal) (a : TSlot) : putPart (encTSlot a) 0 (agg [v0, v1, v2, v3]) = agg [v0, v1, v2, v3] := rfl
@[go_sem] theorem put_TSlot_Board (a : TSlot) (b : ByteArray) : putPart (encTSlot a) 0 ((.str b)) = encTSlot { a with Board := b } := by
  simp only [encTSlot, agg, putPart, List.length]; congr 1; funext j; rcases j with _ | _ | _ | _ | j <;> first | rfl | simp [lst]
@[go_sem] theorem put_TSlot_Quarters (a : TSlot) (b : Int) : putPart (encTSlot a) 1 ((.int .i64 b)) = encTSlot { a with Quarters := b } := by
  simp only [encTSlot, agg, putPart, List.length]; congr 1; funext j; rcases j with _ | _ | _ | _ | j <;> first | rfl | simp [lst]
@[go_sem] theorem put_TSlot_At (a : TSlot) (b : TPoint) : putPart (encTSlot a) 2 (encTPoint b) = encTSlot { a with At := b } := by
  simp only [encTSlot, agg, putPart, List.length, encTPoint]; rw [if_neg (by simp)]; congr 1; funext j; rcases j with _ | _ | _ | _ | j <;> first | rfl | simp [lst]
@[go_sem] theorem sub_TSlot_At (a : TSlot) : (encTSlot a).part 2 2 true = encTPoint a.At := by
  simp only [encTSlot, encTPoint, agg, AVal.part, if_true, List.length]; congr 1; funext j; rcases j with _ | _ | _ | _ | j <;> first | rfl | simp [lst]
@[go_sem] theorem put_TSlot_At_X (a : TSlot) (b : Int) : putPart (encTSlot a) 2 ((.int .i64 b)) = encTSlot { a with At := { a.At with X := b } } := by
  simp only [encTSlot, agg, putPart, List.length]; congr 1; funext j; rcases j with _ | _ | _ | _ | j <;> rfl
@[go_sem] theorem put_TSlot_At_Y (a : TSlot) (b : Int) : putPart (encTSlot a) 3 ((.int .i64 b)) = encTSlot { a with At := { a.At with Y := b } } := by
  simp only [encTSlot, agg, putPart, List.length]; congr 1; funext j; rcases j with _ | _ | _ | _ | j <;> rfl
@[go_sem] theorem sz_TSlot : szT Try.prog 34 = 4 := by kernel_rfl
@[go_sem] theorem ag_TSlot : aggT Try.prog 34 = true := by kernel_rfl
@[go_sem] theorem st_TSlot : strT Try.prog 34 = false := by kernel_rfl
@[go_sem] theorem by_TSlot : byT Try.prog 34 = 40 := by kernel_rfl
@[go_sem] theorem sz_TSlot_u : szT Try.prog 33 = 4 := by kernel_rfl
@[go_sem] theorem ag_TSlot_u : aggT Try.prog 33 = true := by kernel_rfl
@[go_sem] theorem st_TSlot_u : strT Try.prog 33 = false := by kernel_rfl
@[go_sem] theorem by_TSlot_u : byT Try.prog 33 = 40 := by kernel_rfl
@[go_sem] theorem fo_TSlot_Board : foffT Try.prog 34 0 = 0 := by kernel_rfl
@[go_sem] theorem ft_TSlot_Board : ftyT Try.prog 34 0 = 9 := by kernel_rfl
@[go_sem] theorem fo_TSlot_Quarters : foffT Try.prog 34 1 = 1 := by kernel_rfl
@[go_sem] theorem ft_TSlot_Quarters : ftyT Try.prog 34 1 = 3 := by kernel_rfl
@[go_sem] theorem fo_TSlot_At : foffT Try.prog 34 2 = 2 := by kernel_rfl
@[go_sem] theorem ft_TSlot_At : ftyT Try.prog 34 2 = 32 := by kernel_rfl
@[go_sem] theorem fo_u_TSlot_Board : foffT Try.prog 33 0 = 0 := by kernel_rfl
@[go_sem] theorem ft_u_TSlot_Board : ftyT Try.prog 33 0 = 9 := by kernel_rfl
@[go_sem] theorem fo_u_TSlot_Quarters : foffT Try.prog 33 1 = 1 := by kernel_rfl
@[go_sem] theorem ft_u_TSlot_Quarters : ftyT Try.prog 33 1 = 3 := by kernel_rfl
@[go_sem] theorem fo_u_TSlot_At : foffT Try.prog 33 2 = 2 := by kernel_rfl
@[go_sem] theorem ft_u_TSlot_At : ftyT Try.prog 33 2 = 32 := by kernel_rfl
@[go_sem] theorem ze_TSlot : zeroT Try.prog 34 = encTSlot {} := (show zeroT Try.prog 34 = ofConst (.agg #[.string ByteArray.empty, .int .i64 0, .int .i64 0, .int .i64 0]) by kernel_rfl).trans (ofConst_agg _)
theorem eqOk_TSlot : EqOk Try.prog 34 4 fun j => ([.str, .int .i64, .int .i64, .int .i64] : List LK).getD j .bool := eqOk_of (by kernel_rfl) (by kernel_rfl) (by decide) (by kernel_rfl)
theorem aeq_TSlot (a b : TSlot) : aeq 4 (lst [(.str a.Board), (.int .i64 a.Quarters), (.int .i64 a.At.X), (.int .i64 a.At.Y)]) (lst [(.str b.Board), (.int .i64 b.Quarters), (.int .i64 b.At.X), (.int .i64 b.At.Y)]) = decide (a = b) := by
  rw [Bool.eq_iff_iff]
  simp [aeq, List.range_succ, lst, leafEq, and_assoc, TSlot.ext_iff, TPoint.ext_iff]
@[go_sem] theorem eq_TSlot (a b : TSlot) : binT Try.prog 34 .eql (encTSlot a) (encTSlot b) = (True, .bool (decide (a = b))) := Prod.ext (eq_true (⟨_, eqOk_TSlot, rfl, fun j hj => by rcases j with _ | _ | _ | _ |  j <;> first | exact ⟨rfl, rfl⟩ | exact ⟨trivial, trivial⟩ | (simp only [List.length_cons, List.length_nil] at hj; omega)⟩)) (congrArg AVal.bool (aeq_TSlot a b))
@[go_sem] theorem ne_TSlot (a b : TSlot) : binT Try.prog 34 .neq (encTSlot a) (encTSlot b) = (True, .bool (!decide (a = b))) := Prod.ext (eq_true (⟨_, eqOk_TSlot, rfl, fun j hj => by rcases j with _ | _ | _ | _ |  j <;> first | exact ⟨rfl, rfl⟩ | exact ⟨trivial, trivial⟩ | (simp only [List.length_cons, List.length_nil] at hj; omega)⟩)) (congrArg (fun b => AVal.bool (!b)) (aeq_TSlot a b))
@[go_sem] theorem mkL_TSlot (a : TSlot) (l : List AVal) : mkL (encTSlot a :: l) = mkP encTSlot [a] l := rfl
@[go_sem] theorem mkP_TSlot (acc : List TSlot) (a : TSlot) (l : List AVal) : mkP encTSlot acc (encTSlot a :: l) = mkP encTSlot (acc ++ [a]) l := mkP_cons encTSlot acc a l
@[go_sem] theorem getD_TSlot (l : List TSlot) (e : Nat) : (l.map encTSlot).getD e (encTSlot {}) = encTSlot (l.getD e default) := getD_row (enc := encTSlot) l e
@[ext] structure TPanel where
  W : Int := 0
  H : Int := 0
  Rail : Int := 0
  Gap : Int := 0
  Kinds : (List TBoardKind) := []
  Slots : (List TSlot) := []
  Marks : (List TPoint) := []
  deriving Inhabited, DecidableEq
def encTPanel (a : TPanel) : AVal := agg [(.int .i64 a.W), (.int .i64 a.H), (.int .i64 a.Rail), (.int .i64 a.Gap), (encL 3 encTBoardKind a.Kinds), (encL 4 encTSlot a.Slots), (encL 2 encTPoint a.Marks)]
instance : Nml encTPanel := ⟨fun a => by simp only [encTPanel, go_sem], fun κ a => by simp only [encTPanel, ren_agg, map_ren_cons, map_ren_nil, go_sem]⟩
def okTPanel (a : TPanel) : Prop := (-9223372036854775808 ≤ a.W ∧ a.W ≤ 9223372036854775807) ∧ (-9223372036854775808 ≤ a.H ∧ a.H ≤ 9223372036854775807) ∧ (-9223372036854775808 ≤ a.Rail ∧ a.Rail ≤ 9223372036854775807) ∧ (-9223372036854775808 ≤ a.Gap ∧ a.Gap ≤ 9223372036854775807) ∧ (a.Kinds.length < 281474976710656 ∧ ∀ x ∈ a.Kinds, okTBoardKind x) ∧ (a.Slots.length < 281474976710656 ∧ ∀ x ∈ a.Slots, okTSlot x) ∧ (a.Marks.length < 281474976710656 ∧ ∀ x ∈ a.Marks, okTPoint x)
@[go_sem] theorem nm_TPanel (a : TPanel) : (encTPanel a).nameless = True := by simp only [encTPanel, go_sem]
@[go_sem] theorem ren_TPanel (κ : Key → Key) (a : TPanel) : (encTPanel a).ren κ = encTPanel a := by simp only [encTPanel, ren_agg, map_ren_cons, map_ren_nil, go_sem]
@[go_sem] theorem nA_TPanel (a : TPanel) : namesA (encTPanel a) = [] := rfl
@[go_sem] theorem cells_TPanel (a : TPanel) : (encTPanel a).cells = 7 := rfl
@[go_sem] theorem known_TPanel (a : TPanel) : (encTPanel a).known = true := rfl
@[go_sem] theorem strip_TPanel (a : TPanel) : (encTPanel a).strip = encTPanel a := rfl
@[go_sem] theorem okw_TPanel (a : TPanel) (g : Bool) : (encTPanel a).okw g = True := rfl
@[go_sem] theorem pok_TPanel (a : TPanel) (o s : Nat) (b : Bool) : partOk (encTPanel a) o s b = (o + s ≤ 7) := rfl
@[go_sem] theorem part_TPanel_0 (a : TPanel) : (encTPanel a).part 0 1 false = (.int .i64 a.W) := rfl
@[go_sem] theorem part_TPanel_1 (a : TPanel) : (encTPanel a).part 1 1 false = (.int .i64 a.H) := rfl
@[go_sem] theorem part_TPanel_2 (a : TPanel) : (encTPanel a).part 2 1 false = (.int .i64 a.Rail) := rfl
@[go_sem] theorem part_TPanel_3 (a : TPanel) : (encTPanel a).part 3 1 false = (.int .i64 a.Gap) := rfl
@[go_sem] theorem part_TPanel_4 (a : TPanel) : (encTPanel a).part 4 1 false = (encL 3 encTBoardKind a.Kinds) := rfl
@[go_sem] theorem part_TPanel_5 (a : TPanel) : (encTPanel a).part 5 1 false = (encL 4 encTSlot a.Slots) := rfl
@[go_sem] theorem part_TPanel_6 (a : TPanel) : (encTPanel a).part 6 1 false = (encL 2 encTPoint a.Marks) := rfl
@[go_sem] theorem all_TPanel (a : TPanel) : (encTPanel a).part 0 7 true = encTPanel a := by
  simp only [encTPanel, agg, AVal.part, if_true, List.length]; congr 1; funext j; rcases j with _ | _ | _ | _ | _ | _ | _ | j <;> first | rfl | simp [lst]
@[go_sem] theorem putOk_TPanel (a : TPanel) (o : Nat) (x : AVal) : putOk (encTPanel a) o x = (o + x.cells ≤ 7) := rfl
@[go_sem] theorem putP_TPanel (a b : TPanel) : putPart (encTPanel a) 0 (encTPanel b) = encTPanel b := rfl
@[go_sem] theorem putPl_TPanel (v0 v1 v2 v3 v4 v5 v6 : AVal) (b : TPanel) : putPart (agg [v0, v1, v2, v3, v4, v5, v6]) 0 (encTPanel b) = encTPanel b := rfl
@[go_sem] theorem putPr_TPanel (v0 v1 v2 v3 v4 v5 v6 : AVal) (a : TPanel) : putPart (encTPanel a) 0 (agg [v0, v1, v2, v3, v4, v5, v6]) = agg [v0, v1, v2, v3, v4, v5, v6] := rfl
@[go_sem] theorem put_TPanel_W (a : TPanel) (b : Int) : putPart (encTPanel a) 0 ((.int .i64 b)) = encTPanel { a with W := b } := by
  simp only [encTPanel, agg, putPart, List.length]; congr 1; funext j; rcases j with _ | _ | _ | _ | _ | _ | _ | j <;> first | rfl | simp [lst]
@[go_sem] theorem put_TPanel_H (a : TPanel) (b : Int) : putPart (encTPanel a) 1 ((.int .i64 b)) = encTPanel { a with H := b } := by
  simp only [encTPanel, agg, putPart, List.length]; congr 1; funext j; rcases j with _ | _ | _ | _ | _ | _ | _ | j <;> first | rfl | simp [lst]
@[go_sem] theorem put_TPanel_Rail (a : TPanel) (b : Int) : putPart (encTPanel a) 2 ((.int .i64 b)) = encTPanel { a with Rail := b } := by
  simp only [encTPanel, agg, putPart, List.length]; congr 1; funext j; rcases j with _ | _ | _ | _ | _ | _ | _ | j <;> first | rfl | simp [lst]
@[go_sem] theorem put_TPanel_Gap (a : TPanel) (b : Int) : putPart (encTPanel a) 3 ((.int .i64 b)) = encTPanel { a with Gap := b } := by
  simp only [encTPanel, agg, putPart, List.length]; congr 1; funext j; rcases j with _ | _ | _ | _ | _ | _ | _ | j <;> first | rfl | simp [lst]
@[go_sem] theorem put_TPanel_Kinds (a : TPanel) (b : (List TBoardKind)) : putPart (encTPanel a) 4 ((encL 3 encTBoardKind b)) = encTPanel { a with Kinds := b } := by
  simp only [encTPanel, agg, putPart, List.length, encL]; congr 1; funext j; rcases j with _ | _ | _ | _ | _ | _ | _ | j <;> first | rfl | simp [lst]
@[go_sem] theorem put_TPanel_Slots (a : TPanel) (b : (List TSlot)) : putPart (encTPanel a) 5 ((encL 4 encTSlot b)) = encTPanel { a with Slots := b } := by
  simp only [encTPanel, agg, putPart, List.length, encL]; congr 1; funext j; rcases j with _ | _ | _ | _ | _ | _ | _ | j <;> first | rfl | simp [lst]
@[go_sem] theorem put_TPanel_Marks (a : TPanel) (b : (List TPoint)) : putPart (encTPanel a) 6 ((encL 2 encTPoint b)) = encTPanel { a with Marks := b } := by
  simp only [encTPanel, agg, putPart, List.length, encL]; congr 1; funext j; rcases j with _ | _ | _ | _ | _ | _ | _ | j <;> first | rfl | simp [lst]
@[go_sem] theorem sz_TPanel : szT Try.prog 26 = 7 := by kernel_rfl
@[go_sem] theorem ag_TPanel : aggT Try.prog 26 = true := by kernel_rfl
@[go_sem] theorem st_TPanel : strT Try.prog 26 = false := by kernel_rfl
@[go_sem] theorem by_TPanel : byT Try.prog 26 = 104 := by kernel_rfl
@[go_sem] theorem sz_TPanel_u : szT Try.prog 25 = 7 := by kernel_rfl
@[go_sem] theorem ag_TPanel_u : aggT Try.prog 25 = true := by kernel_rfl
@[go_sem] theorem st_TPanel_u : strT Try.prog 25 = false := by kernel_rfl
@[go_sem] theorem by_TPanel_u : byT Try.prog 25 = 104 := by kernel_rfl
@[go_sem] theorem fo_TPanel_W : foffT Try.prog 26 0 = 0 := by kernel_rfl
@[go_sem] theorem ft_TPanel_W : ftyT Try.prog 26 0 = 3 := by kernel_rfl
@[go_sem] theorem fo_TPanel_H : foffT Try.prog 26 1 = 1 := by kernel_rfl
@[go_sem] theorem ft_TPanel_H : ftyT Try.prog 26 1 = 3 := by kernel_rfl
@[go_sem] theorem fo_TPanel_Rail : foffT Try.prog 26 2 = 2 := by kernel_rfl
@[go_sem] theorem ft_TPanel_Rail : ftyT Try.prog 26 2 = 3 := by kernel_rfl
@[go_sem] theorem fo_TPanel_Gap : foffT Try.prog 26 3 = 3 := by kernel_rfl
@[go_sem] theorem ft_TPanel_Gap : ftyT Try.prog 26 3 = 3 := by kernel_rfl
@[go_sem] theorem fo_TPanel_Kinds : foffT Try.prog 26 4 = 4 := by kernel_rfl
@[go_sem] theorem ft_TPanel_Kinds : ftyT Try.prog 26 4 = 22 := by kernel_rfl
@[go_sem] theorem fo_TPanel_Slots : foffT Try.prog 26 5 = 5 := by kernel_rfl
@[go_sem] theorem ft_TPanel_Slots : ftyT Try.prog 26 5 = 23 := by kernel_rfl
@[go_sem] theorem fo_TPanel_Marks : foffT Try.prog 26 6 = 6 := by kernel_rfl
@[go_sem] theorem ft_TPanel_Marks : ftyT Try.prog 26 6 = 24 := by kernel_rfl
@[go_sem] theorem fo_u_TPanel_W : foffT Try.prog 25 0 = 0 := by kernel_rfl
@[go_sem] theorem ft_u_TPanel_W : ftyT Try.prog 25 0 = 3 := by kernel_rfl
@[go_sem] theorem fo_u_TPanel_H : foffT Try.prog 25 1 = 1 := by kernel_rfl
@[go_sem] theorem ft_u_TPanel_H : ftyT Try.prog 25 1 = 3 := by kernel_rfl
@[go_sem] theorem fo_u_TPanel_Rail : foffT Try.prog 25 2 = 2 := by kernel_rfl
@[go_sem] theorem ft_u_TPanel_Rail : ftyT Try.prog 25 2 = 3 := by kernel_rfl
@[go_sem] theorem fo_u_TPanel_Gap : foffT Try.prog 25 3 = 3 := by kernel_rfl
@[go_sem] theorem ft_u_TPanel_Gap : ftyT Try.prog 25 3 = 3 := by kernel_rfl
@[go_sem] theorem fo_u_TPanel_Kinds : foffT Try.prog 25 4 = 4 := by kernel_rfl
@[go_sem] theorem ft_u_TPanel_Kinds : ftyT Try.prog 25 4 = 22 := by kernel_rfl
@[go_sem] theorem fo_u_TPanel_Slots : foffT Try.prog 25 5 = 5 := by kernel_rfl
@[go_sem] theorem ft_u_TPanel_Slots : ftyT Try.prog 25 5 = 23 := by kernel_rfl
@[go_sem] theorem fo_u_TPanel_Marks : foffT Try.prog 25 6 = 6 := by kernel_rfl
@[go_sem] theorem ft_u_TPanel_Marks : ftyT Try.prog 25 6 = 24 := by kernel_rfl
@[go_sem] theorem ze_TPanel : zeroT Try.prog 26 = agg [.int .i64 0, .int .i64 0, .int .i64 0, .int .i64 0, .nilsl, .nilsl, .nilsl] := (show zeroT Try.prog 26 = ofConst (.agg #[.int .i64 0, .int .i64 0, .int .i64 0, .int .i64 0, .slice none 0 0, .slice none 0 0, .slice none 0 0]) by kernel_rfl).trans (ofConst_agg _)
@[go_sem] theorem mkL_TPanel (a : TPanel) (l : List AVal) : mkL (encTPanel a :: l) = mkP encTPanel [a] l := rfl
@[go_sem] theorem mkP_TPanel (acc : List TPanel) (a : TPanel) (l : List AVal) : mkP encTPanel acc (encTPanel a :: l) = mkP encTPanel (acc ++ [a]) l := mkP_cons encTPanel acc a l
@[go_sem] theorem getD_TPanel (l : List TPanel) (e : Nat) : (l.map encTPanel).getD e (encTPanel {}) = encTPanel (l.getD e default) := getD_row (enc := encTPanel) l e
@[ext] structure TRect where
  X0 : Int := 0
  Y0 : Int := 0
  X1 : Int := 0
  Y1 : Int := 0
  deriving Inhabited, DecidableEq
def encTRect (a : TRect) : AVal := agg [(.int .i64 a.X0), (.int .i64 a.Y0), (.int .i64 a.X1), (.int .i64 a.Y1)]
instance : Nml encTRect := ⟨fun a => by simp only [encTRect, go_sem], fun κ a => by simp only [encTRect, ren_agg, map_ren_cons, map_ren_nil, go_sem]⟩
def okTRect (a : TRect) : Prop := (-9223372036854775808 ≤ a.X0 ∧ a.X0 ≤ 9223372036854775807) ∧ (-9223372036854775808 ≤ a.Y0 ∧ a.Y0 ≤ 9223372036854775807) ∧ (-9223372036854775808 ≤ a.X1 ∧ a.X1 ≤ 9223372036854775807) ∧ (-9223372036854775808 ≤ a.Y1 ∧ a.Y1 ≤ 9223372036854775807)
@[go_sem] theorem nm_TRect (a : TRect) : (encTRect a).nameless = True := by simp only [encTRect, go_sem]
@[go_sem] theorem ren_TRect (κ : Key → Key) (a : TRect) : (encTRect a).ren κ = encTRect a := by simp only [encTRect, ren_agg, map_ren_cons, map_ren_nil, go_sem]
@[go_sem] theorem nA_TRect (a : TRect) : namesA (encTRect a) = [] := rfl
@[go_sem] theorem fr_TRect (a : TRect) : (encTRect a).free = True := by simp only [encTRect, go_sem]
instance : Fre encTRect := ⟨fun a => by simp only [fr_TRect]⟩
@[go_sem] theorem cells_TRect (a : TRect) : (encTRect a).cells = 4 := rfl
@[go_sem] theorem known_TRect (a : TRect) : (encTRect a).known = true := rfl
@[go_sem] theorem strip_TRect (a : TRect) : (encTRect a).strip = encTRect a := rfl
@[go_sem] theorem okw_TRect (a : TRect) (g : Bool) : (encTRect a).okw g = True := rfl
@[go_sem] theorem pok_TRect (a : TRect) (o s : Nat) (b : Bool) : partOk (encTRect a) o s b = (o + s ≤ 4) := rfl
@[go_sem] theorem part_TRect_0 (a : TRect) : (encTRect a).part 0 1 false = (.int .i64 a.X0) := rfl
@[go_sem] theorem part_TRect_1 (a : TRect) : (encTRect a).part 1 1 false = (.int .i64 a.Y0) := rfl
@[go_sem] theorem part_TRect_2 (a : TRect) : (encTRect a).part 2 1 false = (.int .i64 a.X1) := rfl
@[go_sem] theorem part_TRect_3 (a : TRect) : (encTRect a).part 3 1 false = (.int .i64 a.Y1) := rfl
@[go_sem] theorem all_TRect (a : TRect) : (encTRect a).part 0 4 true = encTRect a := by
  simp only [encTRect, agg, AVal.part, if_true, List.length]; congr 1; funext j; rcases j with _ | _ | _ | _ | j <;> first | rfl | simp [lst]
@[go_sem] theorem putOk_TRect (a : TRect) (o : Nat) (x : AVal) : putOk (encTRect a) o x = (o + x.cells ≤ 4) := rfl
@[go_sem] theorem putP_TRect (a b : TRect) : putPart (encTRect a) 0 (encTRect b) = encTRect b := rfl
@[go_sem] theorem putPl_TRect (v0 v1 v2 v3 : AVal) (b : TRect) : putPart (agg [v0, v1, v2, v3]) 0 (encTRect b) = encTRect b := rfl
@[go_sem] theorem putPr_TRect (v0 v1 v2 v3 : AVal) (a : TRect) : putPart (encTRect a) 0 (agg [v0, v1, v2, v3]) = agg [v0, v1, v2, v3] := rfl
@[go_sem] theorem put_TRect_X0 (a : TRect) (b : Int) : putPart (encTRect a) 0 ((.int .i64 b)) = encTRect { a with X0 := b } := by
  simp only [encTRect, agg, putPart, List.length]; congr 1; funext j; rcases j with _ | _ | _ | _ | j <;> first | rfl | simp [lst]
@[go_sem] theorem put_TRect_Y0 (a : TRect) (b : Int) : putPart (encTRect a) 1 ((.int .i64 b)) = encTRect { a with Y0 := b } := by
  simp only [encTRect, agg, putPart, List.length]; congr 1; funext j; rcases j with _ | _ | _ | _ | j <;> first | rfl | simp [lst]
@[go_sem] theorem put_TRect_X1 (a : TRect) (b : Int) : putPart (encTRect a) 2 ((.int .i64 b)) = encTRect { a with X1 := b } := by
  simp only [encTRect, agg, putPart, List.length]; congr 1; funext j; rcases j with _ | _ | _ | _ | j <;> first | rfl | simp [lst]
@[go_sem] theorem put_TRect_Y1 (a : TRect) (b : Int) : putPart (encTRect a) 3 ((.int .i64 b)) = encTRect { a with Y1 := b } := by
  simp only [encTRect, agg, putPart, List.length]; congr 1; funext j; rcases j with _ | _ | _ | _ | j <;> first | rfl | simp [lst]
@[go_sem] theorem sz_TRect : szT Try.prog 42 = 4 := by kernel_rfl
@[go_sem] theorem ag_TRect : aggT Try.prog 42 = true := by kernel_rfl
@[go_sem] theorem st_TRect : strT Try.prog 42 = false := by kernel_rfl
@[go_sem] theorem by_TRect : byT Try.prog 42 = 32 := by kernel_rfl
@[go_sem] theorem sz_TRect_u : szT Try.prog 41 = 4 := by kernel_rfl
@[go_sem] theorem ag_TRect_u : aggT Try.prog 41 = true := by kernel_rfl
@[go_sem] theorem st_TRect_u : strT Try.prog 41 = false := by kernel_rfl
@[go_sem] theorem by_TRect_u : byT Try.prog 41 = 32 := by kernel_rfl
@[go_sem] theorem fo_TRect_X0 : foffT Try.prog 42 0 = 0 := by kernel_rfl
@[go_sem] theorem ft_TRect_X0 : ftyT Try.prog 42 0 = 3 := by kernel_rfl
@[go_sem] theorem fo_TRect_Y0 : foffT Try.prog 42 1 = 1 := by kernel_rfl
@[go_sem] theorem ft_TRect_Y0 : ftyT Try.prog 42 1 = 3 := by kernel_rfl
@[go_sem] theorem fo_TRect_X1 : foffT Try.prog 42 2 = 2 := by kernel_rfl
@[go_sem] theorem ft_TRect_X1 : ftyT Try.prog 42 2 = 3 := by kernel_rfl
@[go_sem] theorem fo_TRect_Y1 : foffT Try.prog 42 3 = 3 := by kernel_rfl
@[go_sem] theorem ft_TRect_Y1 : ftyT Try.prog 42 3 = 3 := by kernel_rfl
@[go_sem] theorem fo_u_TRect_X0 : foffT Try.prog 41 0 = 0 := by kernel_rfl
@[go_sem] theorem ft_u_TRect_X0 : ftyT Try.prog 41 0 = 3 := by kernel_rfl
@[go_sem] theorem fo_u_TRect_Y0 : foffT Try.prog 41 1 = 1 := by kernel_rfl
@[go_sem] theorem ft_u_TRect_Y0 : ftyT Try.prog 41 1 = 3 := by kernel_rfl
@[go_sem] theorem fo_u_TRect_X1 : foffT Try.prog 41 2 = 2 := by kernel_rfl
@[go_sem] theorem ft_u_TRect_X1 : ftyT Try.prog 41 2 = 3 := by kernel_rfl
@[go_sem] theorem fo_u_TRect_Y1 : foffT Try.prog 41 3 = 3 := by kernel_rfl
@[go_sem] theorem ft_u_TRect_Y1 : ftyT Try.prog 41 3 = 3 := by kernel_rfl
@[go_sem] theorem ze_TRect : zeroT Try.prog 42 = encTRect {} := (show zeroT Try.prog 42 = ofConst (.agg #[.int .i64 0, .int .i64 0, .int .i64 0, .int .i64 0]) by kernel_rfl).trans (ofConst_agg _)
theorem eqOk_TRect : EqOk Try.prog 42 4 fun j => ([.int .i64, .int .i64, .int .i64, .int .i64] : List LK).getD j .bool := eqOk_of (by kernel_rfl) (by kernel_rfl) (by decide) (by kernel_rfl)
theorem aeq_TRect (a b : TRect) : aeq 4 (lst [(.int .i64 a.X0), (.int .i64 a.Y0), (.int .i64 a.X1), (.int .i64 a.Y1)]) (lst [(.int .i64 b.X0), (.int .i64 b.Y0), (.int .i64 b.X1), (.int .i64 b.Y1)]) = decide (a = b) := by
  rw [Bool.eq_iff_iff]
  simp [aeq, List.range_succ, lst, leafEq, and_assoc, TRect.ext_iff]
@[go_sem] theorem eq_TRect (a b : TRect) : binT Try.prog 42 .eql (encTRect a) (encTRect b) = (True, .bool (decide (a = b))) := Prod.ext (eq_true (⟨_, eqOk_TRect, rfl, fun j hj => by rcases j with _ | _ | _ | _ |  j <;> first | exact ⟨rfl, rfl⟩ | exact ⟨trivial, trivial⟩ | (simp only [List.length_cons, List.length_nil] at hj; omega)⟩)) (congrArg AVal.bool (aeq_TRect a b))
@[go_sem] theorem ne_TRect (a b : TRect) : binT Try.prog 42 .neq (encTRect a) (encTRect b) = (True, .bool (!decide (a = b))) := Prod.ext (eq_true (⟨_, eqOk_TRect, rfl, fun j hj => by rcases j with _ | _ | _ | _ |  j <;> first | exact ⟨rfl, rfl⟩ | exact ⟨trivial, trivial⟩ | (simp only [List.length_cons, List.length_nil] at hj; omega)⟩)) (congrArg (fun b => AVal.bool (!b)) (aeq_TRect a b))
@[go_sem] theorem mkL_TRect (a : TRect) (l : List AVal) : mkL (encTRect a :: l) = mkP encTRect [a] l := rfl
@[go_sem] theorem mkP_TRect (acc : List TRect) (a : TRect) (l : List AVal) : mkP encTRect acc (encTRect a :: l) = mkP encTRect (acc ++ [a]) l := mkP_cons encTRect acc a l
@[go_sem] theorem getD_TRect (l : List TRect) (e : Nat) : (l.map encTRect).getD e (encTRect {}) = encTRect (l.getD e default) := getD_row (enc := encTRect) l e
@[ext] structure TTurn where
  Flip : Bool := false
  Quarters : Int := 0
  At : TPoint := {}
  deriving Inhabited, DecidableEq
def encTTurn (a : TTurn) : AVal := agg [(.bool a.Flip), (.int .i64 a.Quarters), (.int .i64 a.At.X), (.int .i64 a.At.Y)]
instance : Nml encTTurn := ⟨fun a => by simp only [encTTurn, go_sem], fun κ a => by simp only [encTTurn, ren_agg, map_ren_cons, map_ren_nil, go_sem]⟩
def okTTurn (a : TTurn) : Prop := True ∧ (-9223372036854775808 ≤ a.Quarters ∧ a.Quarters ≤ 9223372036854775807) ∧ okTPoint a.At
@[go_sem] theorem nm_TTurn (a : TTurn) : (encTTurn a).nameless = True := by simp only [encTTurn, go_sem]
@[go_sem] theorem ren_TTurn (κ : Key → Key) (a : TTurn) : (encTTurn a).ren κ = encTTurn a := by simp only [encTTurn, ren_agg, map_ren_cons, map_ren_nil, go_sem]
@[go_sem] theorem nA_TTurn (a : TTurn) : namesA (encTTurn a) = [] := rfl
@[go_sem] theorem fr_TTurn (a : TTurn) : (encTTurn a).free = True := by simp only [encTTurn, go_sem]
instance : Fre encTTurn := ⟨fun a => by simp only [fr_TTurn]⟩
@[go_sem] theorem cells_TTurn (a : TTurn) : (encTTurn a).cells = 4 := rfl
@[go_sem] theorem known_TTurn (a : TTurn) : (encTTurn a).known = true := rfl
@[go_sem] theorem strip_TTurn (a : TTurn) : (encTTurn a).strip = encTTurn a := rfl
@[go_sem] theorem okw_TTurn (a : TTurn) (g : Bool) : (encTTurn a).okw g = True := rfl
@[go_sem] theorem pok_TTurn (a : TTurn) (o s : Nat) (b : Bool) : partOk (encTTurn a) o s b = (o + s ≤ 4) := rfl
@[go_sem] theorem part_TTurn_0 (a : TTurn) : (encTTurn a).part 0 1 false = (.bool a.Flip) := rfl
@[go_sem] theorem part_TTurn_1 (a : TTurn) : (encTTurn a).part 1 1 false = (.int .i64 a.Quarters) := rfl
@[go_sem] theorem part_TTurn_2 (a : TTurn) : (encTTurn a).part 2 1 false = (.int .i64 a.At.X) := rfl
@[go_sem] theorem part_TTurn_3 (a : TTurn) : (encTTurn a).part 3 1 false = (.int .i64 a.At.Y) := rfl
@[go_sem] theorem all_TTurn (a : TTurn) : (encTTurn a).part 0 4 true = encTTurn a := by
  simp only [encTTurn, agg, AVal.part, if_true, List.length]; congr 1; funext j; rcases j with _ | _ | _ | _ | j <;> first | rfl | simp [lst]
@[go_sem] theorem putOk_TTurn (a : TTurn) (o : Nat) (x : AVal) : putOk (encTTurn a) o x = (o + x.cells ≤ 4) := rfl
@[go_sem] theorem putP_TTurn (a b : TTurn) : putPart (encTTurn a) 0 (encTTurn b) = encTTurn b := rfl
@[go_sem] theorem putPl_TTurn (v0 v1 v2 v3 : AVal) (b : TTurn) : putPart (agg [v0, v1, v2, v3]) 0 (encTTurn b) = encTTurn b := rfl
@[go_sem] theorem putPr_TTurn (v0 v1 v2 v3 : AVal) (a : TTurn) : putPart (encTTurn a) 0 (agg [v0, v1, v2, v3]) = agg [v0, v1, v2, v3] := rfl
@[go_sem] theorem put_TTurn_Flip (a : TTurn) (b : Bool) : putPart (encTTurn a) 0 ((.bool b)) = encTTurn { a with Flip := b } := by
  simp only [encTTurn, agg, putPart, List.length]; congr 1; funext j; rcases j with _ | _ | _ | _ | j <;> first | rfl | simp [lst]
@[go_sem] theorem put_TTurn_Quarters (a : TTurn) (b : Int) : putPart (encTTurn a) 1 ((.int .i64 b)) = encTTurn { a with Quarters := b } := by
  simp only [encTTurn, agg, putPart, List.length]; congr 1; funext j; rcases j with _ | _ | _ | _ | j <;> first | rfl | simp [lst]
@[go_sem] theorem put_TTurn_At (a : TTurn) (b : TPoint) : putPart (encTTurn a) 2 (encTPoint b) = encTTurn { a with At := b } := by
  simp only [encTTurn, agg, putPart, List.length, encTPoint]; rw [if_neg (by simp)]; congr 1; funext j; rcases j with _ | _ | _ | _ | j <;> first | rfl | simp [lst]
@[go_sem] theorem sub_TTurn_At (a : TTurn) : (encTTurn a).part 2 2 true = encTPoint a.At := by
  simp only [encTTurn, encTPoint, agg, AVal.part, if_true, List.length]; congr 1; funext j; rcases j with _ | _ | _ | _ | j <;> first | rfl | simp [lst]
@[go_sem] theorem put_TTurn_At_X (a : TTurn) (b : Int) : putPart (encTTurn a) 2 ((.int .i64 b)) = encTTurn { a with At := { a.At with X := b } } := by
  simp only [encTTurn, agg, putPart, List.length]; congr 1; funext j; rcases j with _ | _ | _ | _ | j <;> rfl
@[go_sem] theorem put_TTurn_At_Y (a : TTurn) (b : Int) : putPart (encTTurn a) 3 ((.int .i64 b)) = encTTurn { a with At := { a.At with Y := b } } := by
  simp only [encTTurn, agg, putPart, List.length]; congr 1; funext j; rcases j with _ | _ | _ | _ | j <;> rfl
@[go_sem] theorem sz_TTurn : szT Try.prog 46 = 4 := by kernel_rfl
@[go_sem] theorem ag_TTurn : aggT Try.prog 46 = true := by kernel_rfl
@[go_sem] theorem st_TTurn : strT Try.prog 46 = false := by kernel_rfl
@[go_sem] theorem by_TTurn : byT Try.prog 46 = 32 := by kernel_rfl
@[go_sem] theorem sz_TTurn_u : szT Try.prog 45 = 4 := by kernel_rfl
@[go_sem] theorem ag_TTurn_u : aggT Try.prog 45 = true := by kernel_rfl
@[go_sem] theorem st_TTurn_u : strT Try.prog 45 = false := by kernel_rfl
@[go_sem] theorem by_TTurn_u : byT Try.prog 45 = 32 := by kernel_rfl
@[go_sem] theorem fo_TTurn_Flip : foffT Try.prog 46 0 = 0 := by kernel_rfl
@[go_sem] theorem ft_TTurn_Flip : ftyT Try.prog 46 0 = 4 := by kernel_rfl
@[go_sem] theorem fo_TTurn_Quarters : foffT Try.prog 46 1 = 1 := by kernel_rfl
@[go_sem] theorem ft_TTurn_Quarters : ftyT Try.prog 46 1 = 3 := by kernel_rfl
@[go_sem] theorem fo_TTurn_At : foffT Try.prog 46 2 = 2 := by kernel_rfl
@[go_sem] theorem ft_TTurn_At : ftyT Try.prog 46 2 = 32 := by kernel_rfl
@[go_sem] theorem fo_u_TTurn_Flip : foffT Try.prog 45 0 = 0 := by kernel_rfl
@[go_sem] theorem ft_u_TTurn_Flip : ftyT Try.prog 45 0 = 4 := by kernel_rfl
@[go_sem] theorem fo_u_TTurn_Quarters : foffT Try.prog 45 1 = 1 := by kernel_rfl
@[go_sem] theorem ft_u_TTurn_Quarters : ftyT Try.prog 45 1 = 3 := by kernel_rfl
@[go_sem] theorem fo_u_TTurn_At : foffT Try.prog 45 2 = 2 := by kernel_rfl
@[go_sem] theorem ft_u_TTurn_At : ftyT Try.prog 45 2 = 32 := by kernel_rfl
@[go_sem] theorem ze_TTurn : zeroT Try.prog 46 = encTTurn {} := (show zeroT Try.prog 46 = ofConst (.agg #[.bool false, .int .i64 0, .int .i64 0, .int .i64 0]) by kernel_rfl).trans (ofConst_agg _)
theorem eqOk_TTurn : EqOk Try.prog 46 4 fun j => ([.bool, .int .i64, .int .i64, .int .i64] : List LK).getD j .bool := eqOk_of (by kernel_rfl) (by kernel_rfl) (by decide) (by kernel_rfl)
theorem aeq_TTurn (a b : TTurn) : aeq 4 (lst [(.bool a.Flip), (.int .i64 a.Quarters), (.int .i64 a.At.X), (.int .i64 a.At.Y)]) (lst [(.bool b.Flip), (.int .i64 b.Quarters), (.int .i64 b.At.X), (.int .i64 b.At.Y)]) = decide (a = b) := by
  rw [Bool.eq_iff_iff]
  simp [aeq, List.range_succ, lst, leafEq, and_assoc, TTurn.ext_iff, TPoint.ext_iff]
@[go_sem] theorem eq_TTurn (a b : TTurn) : binT Try.prog 46 .eql (encTTurn a) (encTTurn b) = (True, .bool (decide (a = b))) := Prod.ext (eq_true (⟨_, eqOk_TTurn, rfl, fun j hj => by rcases j with _ | _ | _ | _ |  j <;> first | exact ⟨rfl, rfl⟩ | exact ⟨trivial, trivial⟩ | (simp only [List.length_cons, List.length_nil] at hj; omega)⟩)) (congrArg AVal.bool (aeq_TTurn a b))
@[go_sem] theorem ne_TTurn (a b : TTurn) : binT Try.prog 46 .neq (encTTurn a) (encTTurn b) = (True, .bool (!decide (a = b))) := Prod.ext (eq_true (⟨_, eqOk_TTurn, rfl, fun j hj => by rcases j with _ | _ | _ | _ |  j <;> first | exact ⟨rfl, rfl⟩ | exact ⟨trivial, trivial⟩ | (simp only [List.length_cons, List.length_nil] at hj; omega)⟩)) (congrArg (fun b => AVal.bool (!b)) (aeq_TTurn a b))
@[go_sem] theorem mkL_TTurn (a : TTurn) (l : List AVal) : mkL (encTTurn a :: l) = mkP encTTurn [a] l := rfl
@[go_sem] theorem mkP_TTurn (acc : List TTurn) (a : TTurn) (l : List AVal) : mkP encTTurn acc (encTTurn a :: l) = mkP encTTurn (acc ++ [a]) l := mkP_cons encTTurn acc a l
@[go_sem] theorem getD_TTurn (l : List TTurn) (e : Nat) : (l.map encTTurn).getD e (encTTurn {}) = encTTurn (l.getD e default) := getD_row (enc := encTTurn) l e
@[ext] structure TCut where
  Part : TRect := {}
  Across : Bool := false
  At : Int := 0
  deriving Inhabited, DecidableEq
def encTCut (a : TCut) : AVal := agg [(.int .i64 a.Part.X0), (.int .i64 a.Part.Y0), (.int .i64 a.Part.X1), (.int .i64 a.Part.Y1), (.bool a.Across), (.int .i64 a.At)]
instance : Nml encTCut := ⟨fun a => by simp only [encTCut, go_sem], fun κ a => by simp only [encTCut, ren_agg, map_ren_cons, map_ren_nil, go_sem]⟩
def okTCut (a : TCut) : Prop := okTRect a.Part ∧ True ∧ (-9223372036854775808 ≤ a.At ∧ a.At ≤ 9223372036854775807)
@[go_sem] theorem nm_TCut (a : TCut) : (encTCut a).nameless = True := by simp only [encTCut, go_sem]
@[go_sem] theorem ren_TCut (κ : Key → Key) (a : TCut) : (encTCut a).ren κ = encTCut a := by simp only [encTCut, ren_agg, map_ren_cons, map_ren_nil, go_sem]
@[go_sem] theorem nA_TCut (a : TCut) : namesA (encTCut a) = [] := rfl
@[go_sem] theorem fr_TCut (a : TCut) : (encTCut a).free = True := by simp only [encTCut, go_sem]
instance : Fre encTCut := ⟨fun a => by simp only [fr_TCut]⟩
@[go_sem] theorem cells_TCut (a : TCut) : (encTCut a).cells = 6 := rfl
@[go_sem] theorem known_TCut (a : TCut) : (encTCut a).known = true := rfl
@[go_sem] theorem strip_TCut (a : TCut) : (encTCut a).strip = encTCut a := rfl
@[go_sem] theorem okw_TCut (a : TCut) (g : Bool) : (encTCut a).okw g = True := rfl
@[go_sem] theorem pok_TCut (a : TCut) (o s : Nat) (b : Bool) : partOk (encTCut a) o s b = (o + s ≤ 6) := rfl
@[go_sem] theorem part_TCut_0 (a : TCut) : (encTCut a).part 0 1 false = (.int .i64 a.Part.X0) := rfl
@[go_sem] theorem part_TCut_1 (a : TCut) : (encTCut a).part 1 1 false = (.int .i64 a.Part.Y0) := rfl
@[go_sem] theorem part_TCut_2 (a : TCut) : (encTCut a).part 2 1 false = (.int .i64 a.Part.X1) := rfl
@[go_sem] theorem part_TCut_3 (a : TCut) : (encTCut a).part 3 1 false = (.int .i64 a.Part.Y1) := rfl
@[go_sem] theorem part_TCut_4 (a : TCut) : (encTCut a).part 4 1 false = (.bool a.Across) := rfl
@[go_sem] theorem part_TCut_5 (a : TCut) : (encTCut a).part 5 1 false = (.int .i64 a.At) := rfl
@[go_sem] theorem all_TCut (a : TCut) : (encTCut a).part 0 6 true = encTCut a := by
  simp only [encTCut, agg, AVal.part, if_true, List.length]; congr 1; funext j; rcases j with _ | _ | _ | _ | _ | _ | j <;> first | rfl | simp [lst]
@[go_sem] theorem putOk_TCut (a : TCut) (o : Nat) (x : AVal) : putOk (encTCut a) o x = (o + x.cells ≤ 6) := rfl
@[go_sem] theorem putP_TCut (a b : TCut) : putPart (encTCut a) 0 (encTCut b) = encTCut b := rfl
@[go_sem] theorem putPl_TCut (v0 v1 v2 v3 v4 v5 : AVal) (b : TCut) : putPart (agg [v0, v1, v2, v3, v4, v5]) 0 (encTCut b) = encTCut b := rfl
@[go_sem] theorem putPr_TCut (v0 v1 v2 v3 v4 v5 : AVal) (a : TCut) : putPart (encTCut a) 0 (agg [v0, v1, v2, v3, v4, v5]) = agg [v0, v1, v2, v3, v4, v5] := rfl
@[go_sem] theorem put_TCut_Part (a : TCut) (b : TRect) : putPart (encTCut a) 0 (encTRect b) = encTCut { a with Part := b } := by
  simp only [encTCut, agg, putPart, List.length, encTRect]; rw [if_neg (by simp)]; congr 1; funext j; rcases j with _ | _ | _ | _ | _ | _ | j <;> first | rfl | simp [lst]
@[go_sem] theorem sub_TCut_Part (a : TCut) : (encTCut a).part 0 4 true = encTRect a.Part := by
  simp only [encTCut, encTRect, agg, AVal.part, if_true, List.length]; congr 1; funext j; rcases j with _ | _ | _ | _ | _ | _ | j <;> first | rfl | simp [lst]
@[go_sem] theorem put_TCut_Part_X0 (a : TCut) (b : Int) : putPart (encTCut a) 0 ((.int .i64 b)) = encTCut { a with Part := { a.Part with X0 := b } } := by
  simp only [encTCut, agg, putPart, List.length]; congr 1; funext j; rcases j with _ | _ | _ | _ | _ | _ | j <;> rfl
@[go_sem] theorem put_TCut_Part_Y0 (a : TCut) (b : Int) : putPart (encTCut a) 1 ((.int .i64 b)) = encTCut { a with Part := { a.Part with Y0 := b } } := by
  simp only [encTCut, agg, putPart, List.length]; congr 1; funext j; rcases j with _ | _ | _ | _ | _ | _ | j <;> rfl
@[go_sem] theorem put_TCut_Part_X1 (a : TCut) (b : Int) : putPart (encTCut a) 2 ((.int .i64 b)) = encTCut { a with Part := { a.Part with X1 := b } } := by
  simp only [encTCut, agg, putPart, List.length]; congr 1; funext j; rcases j with _ | _ | _ | _ | _ | _ | j <;> rfl
@[go_sem] theorem put_TCut_Part_Y1 (a : TCut) (b : Int) : putPart (encTCut a) 3 ((.int .i64 b)) = encTCut { a with Part := { a.Part with Y1 := b } } := by
  simp only [encTCut, agg, putPart, List.length]; congr 1; funext j; rcases j with _ | _ | _ | _ | _ | _ | j <;> rfl
@[go_sem] theorem put_TCut_Across (a : TCut) (b : Bool) : putPart (encTCut a) 4 ((.bool b)) = encTCut { a with Across := b } := by
  simp only [encTCut, agg, putPart, List.length]; congr 1; funext j; rcases j with _ | _ | _ | _ | _ | _ | j <;> first | rfl | simp [lst]
@[go_sem] theorem put_TCut_At (a : TCut) (b : Int) : putPart (encTCut a) 5 ((.int .i64 b)) = encTCut { a with At := b } := by
  simp only [encTCut, agg, putPart, List.length]; congr 1; funext j; rcases j with _ | _ | _ | _ | _ | _ | j <;> first | rfl | simp [lst]
@[go_sem] theorem sz_TCut : szT Try.prog 77 = 6 := by kernel_rfl
@[go_sem] theorem ag_TCut : aggT Try.prog 77 = true := by kernel_rfl
@[go_sem] theorem st_TCut : strT Try.prog 77 = false := by kernel_rfl
@[go_sem] theorem by_TCut : byT Try.prog 77 = 48 := by kernel_rfl
@[go_sem] theorem sz_TCut_u : szT Try.prog 76 = 6 := by kernel_rfl
@[go_sem] theorem ag_TCut_u : aggT Try.prog 76 = true := by kernel_rfl
@[go_sem] theorem st_TCut_u : strT Try.prog 76 = false := by kernel_rfl
@[go_sem] theorem by_TCut_u : byT Try.prog 76 = 48 := by kernel_rfl
@[go_sem] theorem fo_TCut_Part : foffT Try.prog 77 0 = 0 := by kernel_rfl
@[go_sem] theorem ft_TCut_Part : ftyT Try.prog 77 0 = 42 := by kernel_rfl
@[go_sem] theorem fo_TCut_Across : foffT Try.prog 77 1 = 4 := by kernel_rfl
@[go_sem] theorem ft_TCut_Across : ftyT Try.prog 77 1 = 4 := by kernel_rfl
@[go_sem] theorem fo_TCut_At : foffT Try.prog 77 2 = 5 := by kernel_rfl
@[go_sem] theorem ft_TCut_At : ftyT Try.prog 77 2 = 3 := by kernel_rfl
@[go_sem] theorem fo_u_TCut_Part : foffT Try.prog 76 0 = 0 := by kernel_rfl
@[go_sem] theorem ft_u_TCut_Part : ftyT Try.prog 76 0 = 42 := by kernel_rfl
@[go_sem] theorem fo_u_TCut_Across : foffT Try.prog 76 1 = 4 := by kernel_rfl
@[go_sem] theorem ft_u_TCut_Across : ftyT Try.prog 76 1 = 4 := by kernel_rfl
@[go_sem] theorem fo_u_TCut_At : foffT Try.prog 76 2 = 5 := by kernel_rfl
@[go_sem] theorem ft_u_TCut_At : ftyT Try.prog 76 2 = 3 := by kernel_rfl
@[go_sem] theorem ze_TCut : zeroT Try.prog 77 = encTCut {} := (show zeroT Try.prog 77 = ofConst (.agg #[.int .i64 0, .int .i64 0, .int .i64 0, .int .i64 0, .bool false, .int .i64 0]) by kernel_rfl).trans (ofConst_agg _)
theorem eqOk_TCut : EqOk Try.prog 77 6 fun j => ([.int .i64, .int .i64, .int .i64, .int .i64, .bool, .int .i64] : List LK).getD j .bool := eqOk_of (by kernel_rfl) (by kernel_rfl) (by decide) (by kernel_rfl)
theorem aeq_TCut (a b : TCut) : aeq 6 (lst [(.int .i64 a.Part.X0), (.int .i64 a.Part.Y0), (.int .i64 a.Part.X1), (.int .i64 a.Part.Y1), (.bool a.Across), (.int .i64 a.At)]) (lst [(.int .i64 b.Part.X0), (.int .i64 b.Part.Y0), (.int .i64 b.Part.X1), (.int .i64 b.Part.Y1), (.bool b.Across), (.int .i64 b.At)]) = decide (a = b) := by
  rw [Bool.eq_iff_iff]
  simp [aeq, List.range_succ, lst, leafEq, and_assoc, TCut.ext_iff, TRect.ext_iff]
@[go_sem] theorem eq_TCut (a b : TCut) : binT Try.prog 77 .eql (encTCut a) (encTCut b) = (True, .bool (decide (a = b))) := Prod.ext (eq_true (⟨_, eqOk_TCut, rfl, fun j hj => by rcases j with _ | _ | _ | _ | _ | _ |  j <;> first | exact ⟨rfl, rfl⟩ | exact ⟨trivial, trivial⟩ | (simp only [List.length_cons, List.length_nil] at hj; omega)⟩)) (congrArg AVal.bool (aeq_TCut a b))
@[go_sem] theorem ne_TCut (a b : TCut) : binT Try.prog 77 .neq (encTCut a) (encTCut b) = (True, .bool (!decide (a = b))) := Prod.ext (eq_true (⟨_, eqOk_TCut, rfl, fun j hj => by rcases j with _ | _ | _ | _ | _ | _ |  j <;> first | exact ⟨rfl, rfl⟩ | exact ⟨trivial, trivial⟩ | (simp only [List.length_cons, List.length_nil] at hj; omega)⟩)) (congrArg (fun b => AVal.bool (!b)) (aeq_TCut a b))
@[go_sem] theorem mkL_TCut (a : TCut) (l : List AVal) : mkL (encTCut a :: l) = mkP encTCut [a] l := rfl
@[go_sem] theorem mkP_TCut (acc : List TCut) (a : TCut) (l : List AVal) : mkP encTCut acc (encTCut a :: l) = mkP encTCut (acc ++ [a]) l := mkP_cons encTCut acc a l
@[go_sem] theorem getD_TCut (l : List TCut) (e : Nat) : (l.map encTCut).getD e (encTCut {}) = encTCut (l.getD e default) := getD_row (enc := encTCut) l e
@[ext] structure TShare where
  Num : Int := 0
  Den : Int := 0
  deriving Inhabited, DecidableEq
def encTShare (a : TShare) : AVal := agg [(.int .i64 a.Num), (.int .i64 a.Den)]
instance : Nml encTShare := ⟨fun a => by simp only [encTShare, go_sem], fun κ a => by simp only [encTShare, ren_agg, map_ren_cons, map_ren_nil, go_sem]⟩
def okTShare (a : TShare) : Prop := (-9223372036854775808 ≤ a.Num ∧ a.Num ≤ 9223372036854775807) ∧ (-9223372036854775808 ≤ a.Den ∧ a.Den ≤ 9223372036854775807)
@[go_sem] theorem nm_TShare (a : TShare) : (encTShare a).nameless = True := by simp only [encTShare, go_sem]
@[go_sem] theorem ren_TShare (κ : Key → Key) (a : TShare) : (encTShare a).ren κ = encTShare a := by simp only [encTShare, ren_agg, map_ren_cons, map_ren_nil, go_sem]
@[go_sem] theorem nA_TShare (a : TShare) : namesA (encTShare a) = [] := rfl
@[go_sem] theorem fr_TShare (a : TShare) : (encTShare a).free = True := by simp only [encTShare, go_sem]
instance : Fre encTShare := ⟨fun a => by simp only [fr_TShare]⟩
@[go_sem] theorem cells_TShare (a : TShare) : (encTShare a).cells = 2 := rfl
@[go_sem] theorem known_TShare (a : TShare) : (encTShare a).known = true := rfl
@[go_sem] theorem strip_TShare (a : TShare) : (encTShare a).strip = encTShare a := rfl
@[go_sem] theorem okw_TShare (a : TShare) (g : Bool) : (encTShare a).okw g = True := rfl
@[go_sem] theorem pok_TShare (a : TShare) (o s : Nat) (b : Bool) : partOk (encTShare a) o s b = (o + s ≤ 2) := rfl
@[go_sem] theorem part_TShare_0 (a : TShare) : (encTShare a).part 0 1 false = (.int .i64 a.Num) := rfl
@[go_sem] theorem part_TShare_1 (a : TShare) : (encTShare a).part 1 1 false = (.int .i64 a.Den) := rfl
@[go_sem] theorem all_TShare (a : TShare) : (encTShare a).part 0 2 true = encTShare a := by
  simp only [encTShare, agg, AVal.part, if_true, List.length]; congr 1; funext j; rcases j with _ | _ | j <;> first | rfl | simp [lst]
@[go_sem] theorem putOk_TShare (a : TShare) (o : Nat) (x : AVal) : putOk (encTShare a) o x = (o + x.cells ≤ 2) := rfl
@[go_sem] theorem putP_TShare (a b : TShare) : putPart (encTShare a) 0 (encTShare b) = encTShare b := rfl
@[go_sem] theorem putPl_TShare (v0 v1 : AVal) (b : TShare) : putPart (agg [v0, v1]) 0 (encTShare b) = encTShare b := rfl
@[go_sem] theorem putPr_TShare (v0 v1 : AVal) (a : TShare) : putPart (encTShare a) 0 (agg [v0, v1]) = agg [v0, v1] := rfl
@[go_sem] theorem put_TShare_Num (a : TShare) (b : Int) : putPart (encTShare a) 0 ((.int .i64 b)) = encTShare { a with Num := b } := by
  simp only [encTShare, agg, putPart, List.length]; congr 1; funext j; rcases j with _ | _ | j <;> first | rfl | simp [lst]
@[go_sem] theorem put_TShare_Den (a : TShare) (b : Int) : putPart (encTShare a) 1 ((.int .i64 b)) = encTShare { a with Den := b } := by
  simp only [encTShare, agg, putPart, List.length]; congr 1; funext j; rcases j with _ | _ | j <;> first | rfl | simp [lst]
@[go_sem] theorem sz_TShare : szT Try.prog 83 = 2 := by kernel_rfl
@[go_sem] theorem ag_TShare : aggT Try.prog 83 = true := by kernel_rfl
@[go_sem] theorem st_TShare : strT Try.prog 83 = false := by kernel_rfl
@[go_sem] theorem by_TShare : byT Try.prog 83 = 16 := by kernel_rfl
@[go_sem] theorem sz_TShare_u : szT Try.prog 82 = 2 := by kernel_rfl
@[go_sem] theorem ag_TShare_u : aggT Try.prog 82 = true := by kernel_rfl
@[go_sem] theorem st_TShare_u : strT Try.prog 82 = false := by kernel_rfl
@[go_sem] theorem by_TShare_u : byT Try.prog 82 = 16 := by kernel_rfl
@[go_sem] theorem fo_TShare_Num : foffT Try.prog 83 0 = 0 := by kernel_rfl
@[go_sem] theorem ft_TShare_Num : ftyT Try.prog 83 0 = 3 := by kernel_rfl
@[go_sem] theorem fo_TShare_Den : foffT Try.prog 83 1 = 1 := by kernel_rfl
@[go_sem] theorem ft_TShare_Den : ftyT Try.prog 83 1 = 3 := by kernel_rfl
@[go_sem] theorem fo_u_TShare_Num : foffT Try.prog 82 0 = 0 := by kernel_rfl
@[go_sem] theorem ft_u_TShare_Num : ftyT Try.prog 82 0 = 3 := by kernel_rfl
@[go_sem] theorem fo_u_TShare_Den : foffT Try.prog 82 1 = 1 := by kernel_rfl
@[go_sem] theorem ft_u_TShare_Den : ftyT Try.prog 82 1 = 3 := by kernel_rfl
@[go_sem] theorem ze_TShare : zeroT Try.prog 83 = encTShare {} := (show zeroT Try.prog 83 = ofConst (.agg #[.int .i64 0, .int .i64 0]) by kernel_rfl).trans (ofConst_agg _)
theorem eqOk_TShare : EqOk Try.prog 83 2 fun j => ([.int .i64, .int .i64] : List LK).getD j .bool := eqOk_of (by kernel_rfl) (by kernel_rfl) (by decide) (by kernel_rfl)
theorem aeq_TShare (a b : TShare) : aeq 2 (lst [(.int .i64 a.Num), (.int .i64 a.Den)]) (lst [(.int .i64 b.Num), (.int .i64 b.Den)]) = decide (a = b) := by
  rw [Bool.eq_iff_iff]
  simp [aeq, List.range_succ, lst, leafEq, and_assoc, TShare.ext_iff]
@[go_sem] theorem eq_TShare (a b : TShare) : binT Try.prog 83 .eql (encTShare a) (encTShare b) = (True, .bool (decide (a = b))) := Prod.ext (eq_true (⟨_, eqOk_TShare, rfl, fun j hj => by rcases j with _ | _ |  j <;> first | exact ⟨rfl, rfl⟩ | exact ⟨trivial, trivial⟩ | (simp only [List.length_cons, List.length_nil] at hj; omega)⟩)) (congrArg AVal.bool (aeq_TShare a b))
@[go_sem] theorem ne_TShare (a b : TShare) : binT Try.prog 83 .neq (encTShare a) (encTShare b) = (True, .bool (!decide (a = b))) := Prod.ext (eq_true (⟨_, eqOk_TShare, rfl, fun j hj => by rcases j with _ | _ |  j <;> first | exact ⟨rfl, rfl⟩ | exact ⟨trivial, trivial⟩ | (simp only [List.length_cons, List.length_nil] at hj; omega)⟩)) (congrArg (fun b => AVal.bool (!b)) (aeq_TShare a b))
@[go_sem] theorem mkL_TShare (a : TShare) (l : List AVal) : mkL (encTShare a :: l) = mkP encTShare [a] l := rfl
@[go_sem] theorem mkP_TShare (acc : List TShare) (a : TShare) (l : List AVal) : mkP encTShare acc (encTShare a :: l) = mkP encTShare (acc ++ [a]) l := mkP_cons encTShare acc a l
@[go_sem] theorem getD_TShare (l : List TShare) (e : Nat) : (l.map encTShare).getD e (encTShare {}) = encTShare (l.getD e default) := getD_row (enc := encTShare) l e
@[go_sem] theorem bd_TPanel_   : buildF Try.prog 26 [] = agg [.int .i64 0, .int .i64 0, .int .i64 0, .int .i64 0, .nilsl, .nilsl, .nilsl] := by
  skip
  all_goals first | rfl | (simp only [buildF, go_sem, List.foldl]; first | rfl | (simp only [agg, putPart, List.length]; congr 1; funext j; rcases j with _ | _ | _ | _ | _ | _ | _ | j <;> first | rfl | simp [lst, AVal.part]))
@[go_sem] theorem bd_TPanel_01 (v0 : Int) (v1 : Int)  : buildF Try.prog 26 [(0, (.int .i64 v0)), (1, (.int .i64 v1))] = agg [(.int .i64 v0), (.int .i64 v1), .int .i64 0, .int .i64 0, .nilsl, .nilsl, .nilsl] := by
  skip
  all_goals first | rfl | (simp only [buildF, go_sem, List.foldl]; first | rfl | (simp only [agg, putPart, List.length]; congr 1; funext j; rcases j with _ | _ | _ | _ | _ | _ | _ | j <;> first | rfl | simp [lst, AVal.part]))
@[go_sem] theorem bd_TPoint_  : buildF Try.prog 32 [] = encTPoint {  } := by
  simp only [buildF, go_sem, List.foldl]
  simp only [encTPoint, agg, List.length]
  congr 1 <;> (funext j; rcases j with _ | _ | j <;> first | rfl | simp [lst, AVal.part])
@[go_sem] theorem bd_TPoint_01 (v0 : Int) (v1 : Int) : buildF Try.prog 32 [(0, (.int .i64 v0)), (1, (.int .i64 v1))] = encTPoint { X := v0, Y := v1 } := by
  simp only [buildF, go_sem, List.foldl]
  simp only [encTPoint, agg, List.length]
  congr 1 <;> (funext j; rcases j with _ | _ | j <;> first | rfl | simp [lst, AVal.part])
@[go_sem] theorem bd_TSlot_  : buildF Try.prog 34 [] = encTSlot {  } := by
  simp only [buildF, go_sem, List.foldl]
  simp only [encTSlot, agg, List.length]
  congr 1 <;> (funext j; rcases j with _ | _ | _ | _ | j <;> first | rfl | simp [lst, AVal.part])
@[go_sem] theorem bd_TSlot_012 (v0 : ByteArray) (v1 : Int) (v2 : TPoint) : buildF Try.prog 34 [(0, (.str v0)), (1, (.int .i64 v1)), (2, encTPoint v2)] = encTSlot { Board := v0, Quarters := v1, At := v2 } := by
  simp only [buildF, go_sem, List.foldl]
  simp only [encTSlot, encTPoint, agg, List.length]
  congr 1 <;> (funext j; rcases j with _ | _ | _ | _ | j <;> first | rfl | simp [lst, AVal.part])
@[go_sem] theorem bd_TRect_0123 (v0 : Int) (v1 : Int) (v2 : Int) (v3 : Int) : buildF Try.prog 42 [(0, (.int .i64 v0)), (1, (.int .i64 v1)), (2, (.int .i64 v2)), (3, (.int .i64 v3))] = encTRect { X0 := v0, Y0 := v1, X1 := v2, Y1 := v3 } := by
  simp only [buildF, go_sem, List.foldl]
  simp only [encTRect, agg, List.length]
  congr 1 <;> (funext j; rcases j with _ | _ | _ | _ | j <;> first | rfl | simp [lst, AVal.part])
@[go_sem] theorem bd_TRect_23 (v0 : Int) (v1 : Int) : buildF Try.prog 42 [(2, (.int .i64 v0)), (3, (.int .i64 v1))] = encTRect { X1 := v0, Y1 := v1 } := by
  simp only [buildF, go_sem, List.foldl]
  simp only [encTRect, agg, List.length]
  congr 1 <;> (funext j; rcases j with _ | _ | _ | _ | j <;> first | rfl | simp [lst, AVal.part])
@[go_sem] theorem bd_TTurn_  : buildF Try.prog 46 [] = encTTurn {  } := by
  simp only [buildF, go_sem, List.foldl]
  simp only [encTTurn, agg, List.length]
  congr 1 <;> (funext j; rcases j with _ | _ | _ | _ | j <;> first | rfl | simp [lst, AVal.part])
@[go_sem] theorem bd_TTurn_01 (v0 : Bool) (v1 : Int) : buildF Try.prog 46 [(0, (.bool v0)), (1, (.int .i64 v1))] = encTTurn { Flip := v0, Quarters := v1 } := by
  simp only [buildF, go_sem, List.foldl]
  simp only [encTTurn, agg, List.length]
  congr 1 <;> (funext j; rcases j with _ | _ | _ | _ | j <;> first | rfl | simp [lst, AVal.part])
@[go_sem] theorem bd_TTurn_1 (v0 : Int) : buildF Try.prog 46 [(1, (.int .i64 v0))] = encTTurn { Quarters := v0 } := by
  simp only [buildF, go_sem, List.foldl]
  simp only [encTTurn, agg, List.length]
  congr 1 <;> (funext j; rcases j with _ | _ | _ | _ | j <;> first | rfl | simp [lst, AVal.part])
@[go_sem] theorem bd_TTurn_12 (v0 : Int) (v1 : TPoint) : buildF Try.prog 46 [(1, (.int .i64 v0)), (2, encTPoint v1)] = encTTurn { Quarters := v0, At := v1 } := by
  simp only [buildF, go_sem, List.foldl]
  simp only [encTTurn, encTPoint, agg, List.length]
  congr 1 <;> (funext j; rcases j with _ | _ | _ | _ | j <;> first | rfl | simp [lst, AVal.part])
@[go_sem] theorem bd_TCut_  : buildF Try.prog 77 [] = encTCut {  } := by
  simp only [buildF, go_sem, List.foldl]
  simp only [encTCut, agg, List.length]
  congr 1 <;> (funext j; rcases j with _ | _ | _ | _ | _ | _ | j <;> first | rfl | simp [lst, AVal.part])
@[go_sem] theorem bd_TCut_012 (v0 : TRect) (v1 : Bool) (v2 : Int) : buildF Try.prog 77 [(0, encTRect v0), (1, (.bool v1)), (2, (.int .i64 v2))] = encTCut { Part := v0, Across := v1, At := v2 } := by
  simp only [buildF, go_sem, List.foldl]
  simp only [encTCut, encTRect, agg, List.length]
  congr 1 <;> (funext j; rcases j with _ | _ | _ | _ | _ | _ | j <;> first | rfl | simp [lst, AVal.part])
@[go_sem] theorem bd_TShare_  : buildF Try.prog 83 [] = encTShare {  } := by
  simp only [buildF, go_sem, List.foldl]
  simp only [encTShare, agg, List.length]
  congr 1 <;> (funext j; rcases j with _ | _ | j <;> first | rfl | simp [lst, AVal.part])
@[go_sem] theorem bd_TShare_01 (v0 : Int) (v1 : Int) : buildF Try.prog 83 [(0, (.int .i64 v0)), (1, (.int .i64 v1))] = encTShare { Num := v0, Den := v1 } := by
  simp only [buildF, go_sem, List.foldl]
  simp only [encTShare, agg, List.length]
  congr 1 <;> (funext j; rcases j with _ | _ | j <;> first | rfl | simp [lst, AVal.part])
@[go_sem] theorem bd_TShare_1 (v0 : Int) : buildF Try.prog 83 [(1, (.int .i64 v0))] = encTShare { Den := v0 } := by
  simp only [buildF, go_sem, List.foldl]
  simp only [encTShare, agg, List.length]
  congr 1 <;> (funext j; rcases j with _ | _ | j <;> first | rfl | simp [lst, AVal.part])
end Go.Nw
