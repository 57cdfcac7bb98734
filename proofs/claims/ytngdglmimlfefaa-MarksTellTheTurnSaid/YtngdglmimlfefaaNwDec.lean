/- What is read of the program's types. -/
import Derived.Test.YtngdglmimlfefaaNwTyR1
import Derived.Test.YtngdglmimlfefaaNwRow
set_option linter.unusedVariables false
set_option linter.unusedSimpArgs false
set_option maxRecDepth 100000
set_option linter.constructorNameAsVariable false
namespace Go.Nw
open Go.Proofs
theorem take_get {cs : List Value} {n j : Nat} (h : j < n) : (cs.take n)[j]? = cs[j]? := List.getElem?_take_of_lt h
section
variable {H : Type} {enc : TypeId × Value → H} {w : World}
theorem dec_Ii643 : Dec enc Try.prog w 3 Int (fun n _ => .int .i64 n) (fun n => -9223372036854775808 ≤ n ∧ n ≤ 9223372036854775807) 1 := dec_int (by kernel_rfl)
theorem dec_S9 : Dec enc Try.prog w 9 ByteArray (fun s _ => .str s) (fun s => s.size < 281474976710656) 1 := dec_str (by kernel_rfl)
theorem dec_TBoardKind : Dec enc Try.prog w 92 TBoardKind (fun a j => lst [(.str a.Name), (.int .i64 a.W), (.int .i64 a.H)] j) okTBoardKind 3 := by
  intro fuel cs d ps h hw
  obtain ⟨hl, hf⟩ := dec_fields (by kernel_rfl) h hw
  obtain ⟨f0, d0, p0, t0, w0⟩ := hf 0 (by kernel_rfl)
  simp only [go_sem] at t0 w0
  obtain ⟨a0, o0, l0, c0⟩ := dec_S9 f0 _ _ _ t0 w0
  obtain ⟨f1, d1, p1, t1, w1⟩ := hf 1 (by kernel_rfl)
  simp only [go_sem] at t1 w1
  obtain ⟨a1, o1, l1, c1⟩ := dec_Ii643 f1 _ _ _ t1 w1
  obtain ⟨f2, d2, p2, t2, w2⟩ := hf 2 (by kernel_rfl)
  simp only [go_sem] at t2 w2
  obtain ⟨a2, o2, l2, c2⟩ := dec_Ii643 f2 _ _ _ t2 w2
  refine ⟨⟨a0, a1, a2⟩, ⟨o0, o1, o2⟩, by rw [hl]; exact sz_TBoardKind, fun j hj => ?_⟩
  rcases j with _ | _ | _ | j
  · have h := c0 0 (by decide); first | (rw [part_get (by decide)] at h; exact h) | (rw [take_get (by decide)] at h; exact h)
  · have h := c1 0 (by decide); first | (rw [part_get (by decide)] at h; exact h) | (rw [take_get (by decide)] at h; exact h)
  · have h := c2 0 (by decide); first | (rw [part_get (by decide)] at h; exact h) | (rw [take_get (by decide)] at h; exact h)
  · omega
theorem dec_L22 : Dec enc Try.prog w 22 (List TBoardKind) (fun l _ => encL 3 encTBoardKind l) (fun l => l.length < 281474976710656 ∧ ∀ x ∈ l, okTBoardKind x) 1 := dec_slice dec_TBoardKind (by kernel_rfl) sz_TBoardKind (by decide) (by rw [by_TBoardKind]; decide) fun a c h => ⟨rfl, h⟩
theorem dec_TPoint : Dec enc Try.prog w 32 TPoint (fun a j => lst [(.int .i64 a.X), (.int .i64 a.Y)] j) okTPoint 2 := by
  intro fuel cs d ps h hw
  obtain ⟨hl, hf⟩ := dec_fields (by kernel_rfl) h hw
  obtain ⟨f0, d0, p0, t0, w0⟩ := hf 0 (by kernel_rfl)
  simp only [go_sem] at t0 w0
  obtain ⟨a0, o0, l0, c0⟩ := dec_Ii643 f0 _ _ _ t0 w0
  obtain ⟨f1, d1, p1, t1, w1⟩ := hf 1 (by kernel_rfl)
  simp only [go_sem] at t1 w1
  obtain ⟨a1, o1, l1, c1⟩ := dec_Ii643 f1 _ _ _ t1 w1
  refine ⟨⟨a0, a1⟩, ⟨o0, o1⟩, by rw [hl]; exact sz_TPoint, fun j hj => ?_⟩
  rcases j with _ | _ | j
  · have h := c0 0 (by decide); first | (rw [part_get (by decide)] at h; exact h) | (rw [take_get (by decide)] at h; exact h)
  · have h := c1 0 (by decide); first | (rw [part_get (by decide)] at h; exact h) | (rw [take_get (by decide)] at h; exact h)
  · omega
theorem dec_TSlot : Dec enc Try.prog w 34 TSlot (fun a j => lst [(.str a.Board), (.int .i64 a.Quarters), (.int .i64 a.At.X), (.int .i64 a.At.Y)] j) okTSlot 4 := by
  intro fuel cs d ps h hw
  obtain ⟨hl, hf⟩ := dec_fields (by kernel_rfl) h hw
  obtain ⟨f0, d0, p0, t0, w0⟩ := hf 0 (by kernel_rfl)
  simp only [go_sem] at t0 w0
  obtain ⟨a0, o0, l0, c0⟩ := dec_S9 f0 _ _ _ t0 w0
  obtain ⟨f1, d1, p1, t1, w1⟩ := hf 1 (by kernel_rfl)
  simp only [go_sem] at t1 w1
  obtain ⟨a1, o1, l1, c1⟩ := dec_Ii643 f1 _ _ _ t1 w1
  obtain ⟨f2, d2, p2, t2, w2⟩ := hf 2 (by kernel_rfl)
  simp only [go_sem] at t2 w2
  obtain ⟨a2, o2, l2, c2⟩ := dec_TPoint f2 _ _ _ t2 w2
  refine ⟨⟨a0, a1, a2⟩, ⟨o0, o1, o2⟩, by rw [hl]; exact sz_TSlot, fun j hj => ?_⟩
  rcases j with _ | _ | _ | _ | j
  · have h := c0 0 (by decide); first | (rw [part_get (by decide)] at h; exact h) | (rw [take_get (by decide)] at h; exact h)
  · have h := c1 0 (by decide); first | (rw [part_get (by decide)] at h; exact h) | (rw [take_get (by decide)] at h; exact h)
  · have h := c2 0 (by decide); first | (rw [part_get (by decide)] at h; exact h) | (rw [take_get (by decide)] at h; exact h)
  · have h := c2 1 (by decide); first | (rw [part_get (by decide)] at h; exact h) | (rw [take_get (by decide)] at h; exact h)
  · omega
theorem dec_L23 : Dec enc Try.prog w 23 (List TSlot) (fun l _ => encL 4 encTSlot l) (fun l => l.length < 281474976710656 ∧ ∀ x ∈ l, okTSlot x) 1 := dec_slice dec_TSlot (by kernel_rfl) sz_TSlot (by decide) (by rw [by_TSlot]; decide) fun a c h => ⟨rfl, h⟩
theorem dec_L24 : Dec enc Try.prog w 24 (List TPoint) (fun l _ => encL 2 encTPoint l) (fun l => l.length < 281474976710656 ∧ ∀ x ∈ l, okTPoint x) 1 := dec_slice dec_TPoint (by kernel_rfl) sz_TPoint (by decide) (by rw [by_TPoint]; decide) fun a c h => ⟨rfl, h⟩
theorem dec_TPanel : Dec enc Try.prog w 26 TPanel (fun a j => lst [(.int .i64 a.W), (.int .i64 a.H), (.int .i64 a.Rail), (.int .i64 a.Gap), (encL 3 encTBoardKind a.Kinds), (encL 4 encTSlot a.Slots), (encL 2 encTPoint a.Marks)] j) okTPanel 7 := by
  intro fuel cs d ps h hw
  obtain ⟨hl, hf⟩ := dec_fields (by kernel_rfl) h hw
  obtain ⟨f0, d0, p0, t0, w0⟩ := hf 0 (by kernel_rfl)
  simp only [go_sem] at t0 w0
  obtain ⟨a0, o0, l0, c0⟩ := dec_Ii643 f0 _ _ _ t0 w0
  obtain ⟨f1, d1, p1, t1, w1⟩ := hf 1 (by kernel_rfl)
  simp only [go_sem] at t1 w1
  obtain ⟨a1, o1, l1, c1⟩ := dec_Ii643 f1 _ _ _ t1 w1
  obtain ⟨f2, d2, p2, t2, w2⟩ := hf 2 (by kernel_rfl)
  simp only [go_sem] at t2 w2
  obtain ⟨a2, o2, l2, c2⟩ := dec_Ii643 f2 _ _ _ t2 w2
  obtain ⟨f3, d3, p3, t3, w3⟩ := hf 3 (by kernel_rfl)
  simp only [go_sem] at t3 w3
  obtain ⟨a3, o3, l3, c3⟩ := dec_Ii643 f3 _ _ _ t3 w3
  obtain ⟨f4, d4, p4, t4, w4⟩ := hf 4 (by kernel_rfl)
  simp only [go_sem] at t4 w4
  obtain ⟨a4, o4, l4, c4⟩ := dec_L22 f4 _ _ _ t4 w4
  obtain ⟨f5, d5, p5, t5, w5⟩ := hf 5 (by kernel_rfl)
  simp only [go_sem] at t5 w5
  obtain ⟨a5, o5, l5, c5⟩ := dec_L23 f5 _ _ _ t5 w5
  obtain ⟨f6, d6, p6, t6, w6⟩ := hf 6 (by kernel_rfl)
  simp only [go_sem] at t6 w6
  obtain ⟨a6, o6, l6, c6⟩ := dec_L24 f6 _ _ _ t6 w6
  refine ⟨⟨a0, a1, a2, a3, a4, a5, a6⟩, ⟨o0, o1, o2, o3, o4, o5, o6⟩, by rw [hl]; exact sz_TPanel, fun j hj => ?_⟩
  rcases j with _ | _ | _ | _ | _ | _ | _ | j
  · have h := c0 0 (by decide); first | (rw [part_get (by decide)] at h; exact h) | (rw [take_get (by decide)] at h; exact h)
  · have h := c1 0 (by decide); first | (rw [part_get (by decide)] at h; exact h) | (rw [take_get (by decide)] at h; exact h)
  · have h := c2 0 (by decide); first | (rw [part_get (by decide)] at h; exact h) | (rw [take_get (by decide)] at h; exact h)
  · have h := c3 0 (by decide); first | (rw [part_get (by decide)] at h; exact h) | (rw [take_get (by decide)] at h; exact h)
  · have h := c4 0 (by decide); first | (rw [part_get (by decide)] at h; exact h) | (rw [take_get (by decide)] at h; exact h)
  · have h := c5 0 (by decide); first | (rw [part_get (by decide)] at h; exact h) | (rw [take_get (by decide)] at h; exact h)
  · have h := c6 0 (by decide); first | (rw [part_get (by decide)] at h; exact h) | (rw [take_get (by decide)] at h; exact h)
  · omega
theorem dec_B4 : Dec enc Try.prog w 4 Bool (fun s _ => .bool s) (fun _ => True) 1 := dec_bool (by kernel_rfl)
theorem dec_TTurn : Dec enc Try.prog w 46 TTurn (fun a j => lst [(.bool a.Flip), (.int .i64 a.Quarters), (.int .i64 a.At.X), (.int .i64 a.At.Y)] j) okTTurn 4 := by
  intro fuel cs d ps h hw
  obtain ⟨hl, hf⟩ := dec_fields (by kernel_rfl) h hw
  obtain ⟨f0, d0, p0, t0, w0⟩ := hf 0 (by kernel_rfl)
  simp only [go_sem] at t0 w0
  obtain ⟨a0, o0, l0, c0⟩ := dec_B4 f0 _ _ _ t0 w0
  obtain ⟨f1, d1, p1, t1, w1⟩ := hf 1 (by kernel_rfl)
  simp only [go_sem] at t1 w1
  obtain ⟨a1, o1, l1, c1⟩ := dec_Ii643 f1 _ _ _ t1 w1
  obtain ⟨f2, d2, p2, t2, w2⟩ := hf 2 (by kernel_rfl)
  simp only [go_sem] at t2 w2
  obtain ⟨a2, o2, l2, c2⟩ := dec_TPoint f2 _ _ _ t2 w2
  refine ⟨⟨a0, a1, a2⟩, ⟨o0, o1, o2⟩, by rw [hl]; exact sz_TTurn, fun j hj => ?_⟩
  rcases j with _ | _ | _ | _ | j
  · have h := c0 0 (by decide); first | (rw [part_get (by decide)] at h; exact h) | (rw [take_get (by decide)] at h; exact h)
  · have h := c1 0 (by decide); first | (rw [part_get (by decide)] at h; exact h) | (rw [take_get (by decide)] at h; exact h)
  · have h := c2 0 (by decide); first | (rw [part_get (by decide)] at h; exact h) | (rw [take_get (by decide)] at h; exact h)
  · have h := c2 1 (by decide); first | (rw [part_get (by decide)] at h; exact h) | (rw [take_get (by decide)] at h; exact h)
  · omega
theorem arg_TPanel {b : Nat} {v : Value} {d : DataW H} {p : List MemPlace} (hv : Value.okWide Try.prog w .any b 26 v) (h : DataW.Trod enc Try.prog w 0 (fun _ => true) true 26 v d p) (hw : ∀ n ∈ d.weights Try.prog 26, n ≤ reachBytes) : ∃ a, okTPanel a ∧ VR (Old w) W0 w (encTPanel a) v :=
  arg_struct (P := Try.prog) (t := 26) (v := v) (l := fun a : TPanel => [(.int .i64 a.W), (.int .i64 a.H), (.int .i64 a.Rail), (.int .i64 a.Gap), (encL 3 encTBoardKind a.Kinds), (encL 4 encTSlot a.Slots), (encL 2 encTPoint a.Marks)]) dec_TPanel (fun _ => rfl) (by kernel_rfl) hv h hw
theorem arg_TTurn {b : Nat} {v : Value} {d : DataW H} {p : List MemPlace} (hv : Value.okWide Try.prog w .any b 46 v) (h : DataW.Trod enc Try.prog w 0 (fun _ => true) true 46 v d p) (hw : ∀ n ∈ d.weights Try.prog 46, n ≤ reachBytes) : ∃ a, okTTurn a ∧ VR (Old w) W0 w (encTTurn a) v :=
  arg_struct (P := Try.prog) (t := 46) (v := v) (l := fun a : TTurn => [(.bool a.Flip), (.int .i64 a.Quarters), (.int .i64 a.At.X), (.int .i64 a.At.Y)]) dec_TTurn (fun _ => rfl) (by kernel_rfl) hv h hw
end
end Go.Nw
