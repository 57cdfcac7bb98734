/- What is read of the program's types. Printed by mkdec.py (ours). -/
import Derived.Test.YtngdglmimlfefaaAwTy
import Derived.Test.YtngdglmimlfefaaAwRow
namespace Go.Aw
open Go.Proofs
set_option linter.unusedVariables false
set_option linter.unusedSimpArgs false
set_option linter.constructorNameAsVariable false
section
variable {H : Type} {enc : TypeId × Value → H} {w : World}
theorem dec_Int : Dec enc Try.prog w 3 Int (fun n _ => .int .i64 n) (fun n => -9223372036854775808 ≤ n ∧ n ≤ 9223372036854775807) 1 := dec_int (by kernel_rfl)
theorem dec_Str : Dec enc Try.prog w 9 ByteArray (fun s _ => .str s) (fun s => s.size < 281474976710656) 1 := dec_str (by kernel_rfl)
theorem dec_Bool : Dec enc Try.prog w 4 Bool (fun s _ => .bool s) (fun _ => True) 1 := dec_bool (by kernel_rfl)
theorem sk_Pt : isStr Try.prog 32 = true := by kernel_rfl
def okPt (a : Pt) : Prop := (-9223372036854775808 ≤ a.x ∧ a.x ≤ 9223372036854775807) ∧ (-9223372036854775808 ≤ a.y ∧ a.y ≤ 9223372036854775807)
theorem dec_Pt : Dec enc Try.prog w 32 Pt (fun a j => lst [(.int .i64 a.x), (.int .i64 a.y)] j) okPt 2 := by
  intro fuel cs d ps h hw
  obtain ⟨hl, hf⟩ := dec_fields (by kernel_rfl) h hw
  obtain ⟨f0, d0, p0, t0, w0⟩ := hf 0 (by kernel_rfl)
  simp only [go_sem] at t0 w0
  obtain ⟨a0, o0, l0, c0⟩ := dec_Int f0 _ _ _ t0 w0
  obtain ⟨f1, d1, p1, t1, w1⟩ := hf 1 (by kernel_rfl)
  simp only [go_sem] at t1 w1
  obtain ⟨a1, o1, l1, c1⟩ := dec_Int f1 _ _ _ t1 w1
  refine ⟨⟨a0, a1⟩, ⟨o0, o1⟩, by rw [hl]; exact sz_Pt, fun j hj => ?_⟩
  rcases j with _ | _ | j
  · have h := c0 0 (by decide); rw [part_get (by decide)] at h; exact h
  · have h := c1 0 (by decide); rw [part_get (by decide)] at h; exact h
  · omega
theorem dec_LPt : Dec enc Try.prog w 24 (List Pt) (fun l _ => encL 2 encPt l) (fun l => l.length < 281474976710656 ∧ ∀ x ∈ l, okPt x) 1 := dec_slice dec_Pt (by kernel_rfl) sz_Pt (by decide) (by rw [by_Pt]; decide) fun a c h => ⟨rfl, h⟩
set_option maxRecDepth 100000 in
theorem arg_Pt {b : Nat} {v : Value} {d : DataW H} {p : List MemPlace} (hv : Value.okWide Try.prog w .any b 32 v) (h : DataW.Trod enc Try.prog w 0 (fun _ => true) true 32 v d p) (hw : ∀ n ∈ d.weights Try.prog 32, n ≤ reachBytes) : ∃ a, okPt a ∧ VR (Old w) w (encPt a) v := by
  exact arg_struct (P := Try.prog) (t := 32) (v := v) (l := fun a : Pt => [(.int .i64 a.x), (.int .i64 a.y)]) dec_Pt (fun _ => rfl) (sk_Pt) hv h hw
theorem sk_Rc : isStr Try.prog 42 = true := by kernel_rfl
def okRc (a : Rc) : Prop := (-9223372036854775808 ≤ a.x0 ∧ a.x0 ≤ 9223372036854775807) ∧ (-9223372036854775808 ≤ a.y0 ∧ a.y0 ≤ 9223372036854775807) ∧ (-9223372036854775808 ≤ a.x1 ∧ a.x1 ≤ 9223372036854775807) ∧ (-9223372036854775808 ≤ a.y1 ∧ a.y1 ≤ 9223372036854775807)
theorem dec_Rc : Dec enc Try.prog w 42 Rc (fun a j => lst [(.int .i64 a.x0), (.int .i64 a.y0), (.int .i64 a.x1), (.int .i64 a.y1)] j) okRc 4 := by
  intro fuel cs d ps h hw
  obtain ⟨hl, hf⟩ := dec_fields (by kernel_rfl) h hw
  obtain ⟨f0, d0, p0, t0, w0⟩ := hf 0 (by kernel_rfl)
  simp only [go_sem] at t0 w0
  obtain ⟨a0, o0, l0, c0⟩ := dec_Int f0 _ _ _ t0 w0
  obtain ⟨f1, d1, p1, t1, w1⟩ := hf 1 (by kernel_rfl)
  simp only [go_sem] at t1 w1
  obtain ⟨a1, o1, l1, c1⟩ := dec_Int f1 _ _ _ t1 w1
  obtain ⟨f2, d2, p2, t2, w2⟩ := hf 2 (by kernel_rfl)
  simp only [go_sem] at t2 w2
  obtain ⟨a2, o2, l2, c2⟩ := dec_Int f2 _ _ _ t2 w2
  obtain ⟨f3, d3, p3, t3, w3⟩ := hf 3 (by kernel_rfl)
  simp only [go_sem] at t3 w3
  obtain ⟨a3, o3, l3, c3⟩ := dec_Int f3 _ _ _ t3 w3
  refine ⟨⟨a0, a1, a2, a3⟩, ⟨o0, o1, o2, o3⟩, by rw [hl]; exact sz_Rc, fun j hj => ?_⟩
  rcases j with _ | _ | _ | _ | j
  · have h := c0 0 (by decide); rw [part_get (by decide)] at h; exact h
  · have h := c1 0 (by decide); rw [part_get (by decide)] at h; exact h
  · have h := c2 0 (by decide); rw [part_get (by decide)] at h; exact h
  · have h := c3 0 (by decide); rw [part_get (by decide)] at h; exact h
  · omega
theorem dec_LRc : Dec enc Try.prog w 38 (List Rc) (fun l _ => encL 4 encRc l) (fun l => l.length < 281474976710656 ∧ ∀ x ∈ l, okRc x) 1 := dec_slice dec_Rc (by kernel_rfl) sz_Rc (by decide) (by rw [by_Rc]; decide) fun a c h => ⟨rfl, h⟩
set_option maxRecDepth 100000 in
theorem arg_Rc {b : Nat} {v : Value} {d : DataW H} {p : List MemPlace} (hv : Value.okWide Try.prog w .any b 42 v) (h : DataW.Trod enc Try.prog w 0 (fun _ => true) true 42 v d p) (hw : ∀ n ∈ d.weights Try.prog 42, n ≤ reachBytes) : ∃ a, okRc a ∧ VR (Old w) w (encRc a) v := by
  exact arg_struct (P := Try.prog) (t := 42) (v := v) (l := fun a : Rc => [(.int .i64 a.x0), (.int .i64 a.y0), (.int .i64 a.x1), (.int .i64 a.y1)]) dec_Rc (fun _ => rfl) (sk_Rc) hv h hw
theorem sk_Kd : isStr Try.prog 92 = true := by kernel_rfl
def okKd (a : Kd) : Prop := a.name.size < 281474976710656 ∧ (-9223372036854775808 ≤ a.w ∧ a.w ≤ 9223372036854775807) ∧ (-9223372036854775808 ≤ a.h ∧ a.h ≤ 9223372036854775807)
theorem dec_Kd : Dec enc Try.prog w 92 Kd (fun a j => lst [(.str a.name), (.int .i64 a.w), (.int .i64 a.h)] j) okKd 3 := by
  intro fuel cs d ps h hw
  obtain ⟨hl, hf⟩ := dec_fields (by kernel_rfl) h hw
  obtain ⟨f0, d0, p0, t0, w0⟩ := hf 0 (by kernel_rfl)
  simp only [go_sem] at t0 w0
  obtain ⟨a0, o0, l0, c0⟩ := dec_Str f0 _ _ _ t0 w0
  obtain ⟨f1, d1, p1, t1, w1⟩ := hf 1 (by kernel_rfl)
  simp only [go_sem] at t1 w1
  obtain ⟨a1, o1, l1, c1⟩ := dec_Int f1 _ _ _ t1 w1
  obtain ⟨f2, d2, p2, t2, w2⟩ := hf 2 (by kernel_rfl)
  simp only [go_sem] at t2 w2
  obtain ⟨a2, o2, l2, c2⟩ := dec_Int f2 _ _ _ t2 w2
  refine ⟨⟨a0, a1, a2⟩, ⟨o0, o1, o2⟩, by rw [hl]; exact sz_Kd, fun j hj => ?_⟩
  rcases j with _ | _ | _ | j
  · have h := c0 0 (by decide); rw [part_get (by decide)] at h; exact h
  · have h := c1 0 (by decide); rw [part_get (by decide)] at h; exact h
  · have h := c2 0 (by decide); rw [part_get (by decide)] at h; exact h
  · omega
theorem dec_LKd : Dec enc Try.prog w 22 (List Kd) (fun l _ => encL 3 encKd l) (fun l => l.length < 281474976710656 ∧ ∀ x ∈ l, okKd x) 1 := dec_slice dec_Kd (by kernel_rfl) sz_Kd (by decide) (by rw [by_Kd]; decide) fun a c h => ⟨rfl, h⟩
set_option maxRecDepth 100000 in
theorem arg_Kd {b : Nat} {v : Value} {d : DataW H} {p : List MemPlace} (hv : Value.okWide Try.prog w .any b 92 v) (h : DataW.Trod enc Try.prog w 0 (fun _ => true) true 92 v d p) (hw : ∀ n ∈ d.weights Try.prog 92, n ≤ reachBytes) : ∃ a, okKd a ∧ VR (Old w) w (encKd a) v := by
  exact arg_struct (P := Try.prog) (t := 92) (v := v) (l := fun a : Kd => [(.str a.name), (.int .i64 a.w), (.int .i64 a.h)]) dec_Kd (fun _ => rfl) (sk_Kd) hv h hw
theorem sk_Sl : isStr Try.prog 34 = true := by kernel_rfl
def okSl (a : Sl) : Prop := a.board.size < 281474976710656 ∧ (-9223372036854775808 ≤ a.q ∧ a.q ≤ 9223372036854775807) ∧ okPt a.at_
theorem dec_Sl : Dec enc Try.prog w 34 Sl (fun a j => lst [(.str a.board), (.int .i64 a.q), (.int .i64 a.at_.x), (.int .i64 a.at_.y)] j) okSl 4 := by
  intro fuel cs d ps h hw
  obtain ⟨hl, hf⟩ := dec_fields (by kernel_rfl) h hw
  obtain ⟨f0, d0, p0, t0, w0⟩ := hf 0 (by kernel_rfl)
  simp only [go_sem] at t0 w0
  obtain ⟨a0, o0, l0, c0⟩ := dec_Str f0 _ _ _ t0 w0
  obtain ⟨f1, d1, p1, t1, w1⟩ := hf 1 (by kernel_rfl)
  simp only [go_sem] at t1 w1
  obtain ⟨a1, o1, l1, c1⟩ := dec_Int f1 _ _ _ t1 w1
  obtain ⟨f2, d2, p2, t2, w2⟩ := hf 2 (by kernel_rfl)
  simp only [go_sem] at t2 w2
  obtain ⟨a2, o2, l2, c2⟩ := dec_Pt f2 _ _ _ t2 w2
  refine ⟨⟨a0, a1, a2⟩, ⟨o0, o1, o2⟩, by rw [hl]; exact sz_Sl, fun j hj => ?_⟩
  rcases j with _ | _ | _ | _ | j
  · have h := c0 0 (by decide); rw [part_get (by decide)] at h; exact h
  · have h := c1 0 (by decide); rw [part_get (by decide)] at h; exact h
  · have h := c2 0 (by decide); rw [part_get (by decide)] at h; exact h
  · have h := c2 1 (by decide); rw [part_get (by decide)] at h; exact h
  · omega
theorem dec_LSl : Dec enc Try.prog w 23 (List Sl) (fun l _ => encL 4 encSl l) (fun l => l.length < 281474976710656 ∧ ∀ x ∈ l, okSl x) 1 := dec_slice dec_Sl (by kernel_rfl) sz_Sl (by decide) (by rw [by_Sl]; decide) fun a c h => ⟨rfl, h⟩
set_option maxRecDepth 100000 in
theorem arg_Sl {b : Nat} {v : Value} {d : DataW H} {p : List MemPlace} (hv : Value.okWide Try.prog w .any b 34 v) (h : DataW.Trod enc Try.prog w 0 (fun _ => true) true 34 v d p) (hw : ∀ n ∈ d.weights Try.prog 34, n ≤ reachBytes) : ∃ a, okSl a ∧ VR (Old w) w (encSl a) v := by
  exact arg_struct (P := Try.prog) (t := 34) (v := v) (l := fun a : Sl => [(.str a.board), (.int .i64 a.q), (.int .i64 a.at_.x), (.int .i64 a.at_.y)]) dec_Sl (fun _ => rfl) (sk_Sl) hv h hw
theorem sk_Pn : isStr Try.prog 26 = true := by kernel_rfl
def okPn (a : Pn) : Prop := (-9223372036854775808 ≤ a.w ∧ a.w ≤ 9223372036854775807) ∧ (-9223372036854775808 ≤ a.h ∧ a.h ≤ 9223372036854775807) ∧ (-9223372036854775808 ≤ a.rail ∧ a.rail ≤ 9223372036854775807) ∧ (-9223372036854775808 ≤ a.gap ∧ a.gap ≤ 9223372036854775807) ∧ (a.kinds.length < 281474976710656 ∧ ∀ x ∈ a.kinds, okKd x) ∧ (a.slots.length < 281474976710656 ∧ ∀ x ∈ a.slots, okSl x) ∧ (a.marks.length < 281474976710656 ∧ ∀ x ∈ a.marks, okPt x)
theorem dec_Pn : Dec enc Try.prog w 26 Pn (fun a j => lst [(.int .i64 a.w), (.int .i64 a.h), (.int .i64 a.rail), (.int .i64 a.gap), (encL 3 encKd a.kinds), (encL 4 encSl a.slots), (encL 2 encPt a.marks)] j) okPn 7 := by
  intro fuel cs d ps h hw
  obtain ⟨hl, hf⟩ := dec_fields (by kernel_rfl) h hw
  obtain ⟨f0, d0, p0, t0, w0⟩ := hf 0 (by kernel_rfl)
  simp only [go_sem] at t0 w0
  obtain ⟨a0, o0, l0, c0⟩ := dec_Int f0 _ _ _ t0 w0
  obtain ⟨f1, d1, p1, t1, w1⟩ := hf 1 (by kernel_rfl)
  simp only [go_sem] at t1 w1
  obtain ⟨a1, o1, l1, c1⟩ := dec_Int f1 _ _ _ t1 w1
  obtain ⟨f2, d2, p2, t2, w2⟩ := hf 2 (by kernel_rfl)
  simp only [go_sem] at t2 w2
  obtain ⟨a2, o2, l2, c2⟩ := dec_Int f2 _ _ _ t2 w2
  obtain ⟨f3, d3, p3, t3, w3⟩ := hf 3 (by kernel_rfl)
  simp only [go_sem] at t3 w3
  obtain ⟨a3, o3, l3, c3⟩ := dec_Int f3 _ _ _ t3 w3
  obtain ⟨f4, d4, p4, t4, w4⟩ := hf 4 (by kernel_rfl)
  simp only [go_sem] at t4 w4
  obtain ⟨a4, o4, l4, c4⟩ := dec_LKd f4 _ _ _ t4 w4
  obtain ⟨f5, d5, p5, t5, w5⟩ := hf 5 (by kernel_rfl)
  simp only [go_sem] at t5 w5
  obtain ⟨a5, o5, l5, c5⟩ := dec_LSl f5 _ _ _ t5 w5
  obtain ⟨f6, d6, p6, t6, w6⟩ := hf 6 (by kernel_rfl)
  simp only [go_sem] at t6 w6
  obtain ⟨a6, o6, l6, c6⟩ := dec_LPt f6 _ _ _ t6 w6
  refine ⟨⟨a0, a1, a2, a3, a4, a5, a6⟩, ⟨o0, o1, o2, o3, o4, o5, o6⟩, by rw [hl]; exact sz_Pn, fun j hj => ?_⟩
  rcases j with _ | _ | _ | _ | _ | _ | _ | j
  · have h := c0 0 (by decide); rw [part_get (by decide)] at h; exact h
  · have h := c1 0 (by decide); rw [part_get (by decide)] at h; exact h
  · have h := c2 0 (by decide); rw [part_get (by decide)] at h; exact h
  · have h := c3 0 (by decide); rw [part_get (by decide)] at h; exact h
  · have h := c4 0 (by decide); rw [part_get (by decide)] at h; exact h
  · have h := c5 0 (by decide); rw [part_get (by decide)] at h; exact h
  · have h := c6 0 (by decide); rw [part_get (by decide)] at h; exact h
  · omega
set_option maxRecDepth 100000 in
theorem arg_Pn {b : Nat} {v : Value} {d : DataW H} {p : List MemPlace} (hv : Value.okWide Try.prog w .any b 26 v) (h : DataW.Trod enc Try.prog w 0 (fun _ => true) true 26 v d p) (hw : ∀ n ∈ d.weights Try.prog 26, n ≤ reachBytes) : ∃ a, okPn a ∧ VR (Old w) w (encPn a) v := by
  exact arg_struct (P := Try.prog) (t := 26) (v := v) (l := fun a : Pn => [(.int .i64 a.w), (.int .i64 a.h), (.int .i64 a.rail), (.int .i64 a.gap), (encL 3 encKd a.kinds), (encL 4 encSl a.slots), (encL 2 encPt a.marks)]) dec_Pn (fun _ => rfl) (sk_Pn) hv h hw
theorem sk_Tn : isStr Try.prog 46 = true := by kernel_rfl
def okTn (a : Tn) : Prop := True ∧ (-9223372036854775808 ≤ a.q ∧ a.q ≤ 9223372036854775807) ∧ okPt a.at_
theorem dec_Tn : Dec enc Try.prog w 46 Tn (fun a j => lst [(.bool a.flip), (.int .i64 a.q), (.int .i64 a.at_.x), (.int .i64 a.at_.y)] j) okTn 4 := by
  intro fuel cs d ps h hw
  obtain ⟨hl, hf⟩ := dec_fields (by kernel_rfl) h hw
  obtain ⟨f0, d0, p0, t0, w0⟩ := hf 0 (by kernel_rfl)
  simp only [go_sem] at t0 w0
  obtain ⟨a0, o0, l0, c0⟩ := dec_Bool f0 _ _ _ t0 w0
  obtain ⟨f1, d1, p1, t1, w1⟩ := hf 1 (by kernel_rfl)
  simp only [go_sem] at t1 w1
  obtain ⟨a1, o1, l1, c1⟩ := dec_Int f1 _ _ _ t1 w1
  obtain ⟨f2, d2, p2, t2, w2⟩ := hf 2 (by kernel_rfl)
  simp only [go_sem] at t2 w2
  obtain ⟨a2, o2, l2, c2⟩ := dec_Pt f2 _ _ _ t2 w2
  refine ⟨⟨a0, a1, a2⟩, ⟨o0, o1, o2⟩, by rw [hl]; exact sz_Tn, fun j hj => ?_⟩
  rcases j with _ | _ | _ | _ | j
  · have h := c0 0 (by decide); rw [part_get (by decide)] at h; exact h
  · have h := c1 0 (by decide); rw [part_get (by decide)] at h; exact h
  · have h := c2 0 (by decide); rw [part_get (by decide)] at h; exact h
  · have h := c2 1 (by decide); rw [part_get (by decide)] at h; exact h
  · omega
theorem dec_LTn : Dec enc Try.prog w 101 (List Tn) (fun l _ => encL 4 encTn l) (fun l => l.length < 281474976710656 ∧ ∀ x ∈ l, okTn x) 1 := dec_slice dec_Tn (by kernel_rfl) sz_Tn (by decide) (by rw [by_Tn]; decide) fun a c h => ⟨rfl, h⟩
set_option maxRecDepth 100000 in
theorem arg_Tn {b : Nat} {v : Value} {d : DataW H} {p : List MemPlace} (hv : Value.okWide Try.prog w .any b 46 v) (h : DataW.Trod enc Try.prog w 0 (fun _ => true) true 46 v d p) (hw : ∀ n ∈ d.weights Try.prog 46, n ≤ reachBytes) : ∃ a, okTn a ∧ VR (Old w) w (encTn a) v := by
  exact arg_struct (P := Try.prog) (t := 46) (v := v) (l := fun a : Tn => [(.bool a.flip), (.int .i64 a.q), (.int .i64 a.at_.x), (.int .i64 a.at_.y)]) dec_Tn (fun _ => rfl) (sk_Tn) hv h hw
theorem sk_Sh : isStr Try.prog 83 = true := by kernel_rfl
def okSh (a : Sh) : Prop := (-9223372036854775808 ≤ a.num ∧ a.num ≤ 9223372036854775807) ∧ (-9223372036854775808 ≤ a.den ∧ a.den ≤ 9223372036854775807)
theorem dec_Sh : Dec enc Try.prog w 83 Sh (fun a j => lst [(.int .i64 a.num), (.int .i64 a.den)] j) okSh 2 := by
  intro fuel cs d ps h hw
  obtain ⟨hl, hf⟩ := dec_fields (by kernel_rfl) h hw
  obtain ⟨f0, d0, p0, t0, w0⟩ := hf 0 (by kernel_rfl)
  simp only [go_sem] at t0 w0
  obtain ⟨a0, o0, l0, c0⟩ := dec_Int f0 _ _ _ t0 w0
  obtain ⟨f1, d1, p1, t1, w1⟩ := hf 1 (by kernel_rfl)
  simp only [go_sem] at t1 w1
  obtain ⟨a1, o1, l1, c1⟩ := dec_Int f1 _ _ _ t1 w1
  refine ⟨⟨a0, a1⟩, ⟨o0, o1⟩, by rw [hl]; exact sz_Sh, fun j hj => ?_⟩
  rcases j with _ | _ | j
  · have h := c0 0 (by decide); rw [part_get (by decide)] at h; exact h
  · have h := c1 0 (by decide); rw [part_get (by decide)] at h; exact h
  · omega
set_option maxRecDepth 100000 in
theorem arg_Sh {b : Nat} {v : Value} {d : DataW H} {p : List MemPlace} (hv : Value.okWide Try.prog w .any b 83 v) (h : DataW.Trod enc Try.prog w 0 (fun _ => true) true 83 v d p) (hw : ∀ n ∈ d.weights Try.prog 83, n ≤ reachBytes) : ∃ a, okSh a ∧ VR (Old w) w (encSh a) v := by
  exact arg_struct (P := Try.prog) (t := 83) (v := v) (l := fun a : Sh => [(.int .i64 a.num), (.int .i64 a.den)]) dec_Sh (fun _ => rfl) (sk_Sh) hv h hw
theorem sk_Ct : isStr Try.prog 77 = true := by kernel_rfl
def okCt (a : Ct) : Prop := okRc a.part ∧ True ∧ (-9223372036854775808 ≤ a.at_ ∧ a.at_ ≤ 9223372036854775807)
theorem dec_Ct : Dec enc Try.prog w 77 Ct (fun a j => lst [(.int .i64 a.part.x0), (.int .i64 a.part.y0), (.int .i64 a.part.x1), (.int .i64 a.part.y1), (.bool a.across), (.int .i64 a.at_)] j) okCt 6 := by
  intro fuel cs d ps h hw
  obtain ⟨hl, hf⟩ := dec_fields (by kernel_rfl) h hw
  obtain ⟨f0, d0, p0, t0, w0⟩ := hf 0 (by kernel_rfl)
  simp only [go_sem] at t0 w0
  obtain ⟨a0, o0, l0, c0⟩ := dec_Rc f0 _ _ _ t0 w0
  obtain ⟨f1, d1, p1, t1, w1⟩ := hf 1 (by kernel_rfl)
  simp only [go_sem] at t1 w1
  obtain ⟨a1, o1, l1, c1⟩ := dec_Bool f1 _ _ _ t1 w1
  obtain ⟨f2, d2, p2, t2, w2⟩ := hf 2 (by kernel_rfl)
  simp only [go_sem] at t2 w2
  obtain ⟨a2, o2, l2, c2⟩ := dec_Int f2 _ _ _ t2 w2
  refine ⟨⟨a0, a1, a2⟩, ⟨o0, o1, o2⟩, by rw [hl]; exact sz_Ct, fun j hj => ?_⟩
  rcases j with _ | _ | _ | _ | _ | _ | j
  · have h := c0 0 (by decide); rw [part_get (by decide)] at h; exact h
  · have h := c0 1 (by decide); rw [part_get (by decide)] at h; exact h
  · have h := c0 2 (by decide); rw [part_get (by decide)] at h; exact h
  · have h := c0 3 (by decide); rw [part_get (by decide)] at h; exact h
  · have h := c1 0 (by decide); rw [part_get (by decide)] at h; exact h
  · have h := c2 0 (by decide); rw [part_get (by decide)] at h; exact h
  · omega
theorem dec_LCt : Dec enc Try.prog w 71 (List Ct) (fun l _ => encL 6 encCt l) (fun l => l.length < 281474976710656 ∧ ∀ x ∈ l, okCt x) 1 := dec_slice dec_Ct (by kernel_rfl) sz_Ct (by decide) (by rw [by_Ct]; decide) fun a c h => ⟨rfl, h⟩
set_option maxRecDepth 100000 in
theorem arg_Ct {b : Nat} {v : Value} {d : DataW H} {p : List MemPlace} (hv : Value.okWide Try.prog w .any b 77 v) (h : DataW.Trod enc Try.prog w 0 (fun _ => true) true 77 v d p) (hw : ∀ n ∈ d.weights Try.prog 77, n ≤ reachBytes) : ∃ a, okCt a ∧ VR (Old w) w (encCt a) v := by
  exact arg_struct (P := Try.prog) (t := 77) (v := v) (l := fun a : Ct => [(.int .i64 a.part.x0), (.int .i64 a.part.y0), (.int .i64 a.part.x1), (.int .i64 a.part.y1), (.bool a.across), (.int .i64 a.at_)]) dec_Ct (fun _ => rfl) (sk_Ct) hv h hw
end
end Go.Aw
