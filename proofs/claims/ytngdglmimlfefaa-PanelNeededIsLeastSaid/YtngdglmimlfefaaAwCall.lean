/- The abstract walk, part 10: how contracts are used. -/
import Derived.Test.YtngdglmimlfefaaAwCode
namespace Go.Aw
set_option linter.unusedVariables false
set_option linter.unusedSimpArgs false
variable {P : Program}

/-- A value that says nothing of memory. -/
def AVal.free : AVal → Prop
  | .sl _ n _ => n = 0
  | .iptr _ _ => False
  | .aggF n f => ∀ j < n, (f j).free
  | .tupF n f => ∀ j < n, (f j).free
  | .fnF _ n f => ∀ j < n, (f j).free
  | .when _ v => v.free
  | _ => True
theorem free_lr {I I' : Nat → Prop} {w w' : World} : ∀ (v : AVal), v.free → ∀ (sz : Nat) (c : Nat → Option Value), LR I w v sz c → LR I' w' v sz c := by
  intro v
  induction v with
  | sl s n f ih => rintro rfl sz c ⟨rfl, a, cap, h, -⟩; exact ⟨rfl, a, cap, h, .inl rfl⟩
  | iptr v o ih => intro h; exact h.elim
  | aggF n f ih => rintro hf sz c ⟨rfl, h⟩; exact ⟨rfl, fun j hj => ⟨(h j hj).1, ih j (hf j hj) 1 _ (h j hj).2⟩⟩
  | tupF n f ih => intro _ sz c h; exact h.elim
  | when g v ih => intro _ sz c h; exact h.elim
  | fnF g n f ih => rintro hf sz c ⟨rfl, cs, h1, h2, h3⟩; exact ⟨rfl, cs, h1, h2, fun j hj => ⟨(h3 j hj).1, ih j (hf j hj) 1 _ (h3 j hj).2⟩⟩
  | _ => intro _ sz c h; exact h
theorem free_vr {I I' : Nat → Prop} {w w' : World} : ∀ (v : AVal), v.free → ∀ (x : Value), VR I w v x → VR I' w' v x := by
  intro v
  induction v with
  | undef => intros; trivial
  | when g v ih => intro hf x h; exact ⟨fun hg => ih hf x (h.1 hg), h.2⟩
  | tupF n f ih => rintro hf x ⟨vs, rfl, hn, h⟩; exact ⟨vs, rfl, hn, fun j hj => let ⟨y, hy, hr⟩ := h j hj; ⟨y, hy, ih j (hf j hj) y hr⟩⟩
  | aggF n f ih => rintro hf x ⟨cs, rfl, hn, h⟩; exact ⟨cs, rfl, hn, free_lr _ hf _ _ h⟩
  | _ => intro hf x h; exact free_lr _ hf _ _ h

/-- A contract of a function that only computes. -/
def PCalls (P : Program) (f : FuncId) (args : List AVal) (r : AVal) : Prop := ACalls P f args [] fun r' σ' => r' = r ∧ σ' = []
/-- Arguments, as they are handed on: rows of F are lent. -/
def Lend (σ : Heap) (F : Nat → Prop) : List AVal → List AVal → Prop
  | [], [] => True
  | v :: vs, u :: us => WkV σ F v u ∧ Lend σ F vs us
  | _, _ => False
theorem Lend.get {σ : Heap} {F : Nat → Prop} : ∀ {vs us : List AVal}, Lend σ F vs us → vs.length = us.length ∧ ∀ j, WkV σ F (lst vs j) (lst us j)
  | [], [], _ => ⟨rfl, fun j => .same _⟩
  | v :: vs, u :: us, h => by
    obtain ⟨h1, h2⟩ := h.2.get
    refine ⟨by simp [h1], fun j => ?_⟩
    cases j with
    | zero => exact h.1
    | succ j => exact h2 j
  | [], _ :: _, h => h.elim
  | _ :: _, [], h => h.elim
theorem Lend.rel {σ : Heap} {F : Nat → Prop} {I : Nat → Prop} {w : World} {vs us : List AVal} {cargs : Array Value} (hinv : Inv I σ w) (h : Lend σ F vs us) (hA : ARel I w us cargs) :
    ARel (fun b => I b ∨ (F b ∧ σ.get (some b) ≠ none)) w vs cargs := by
  obtain ⟨h1, h2⟩ := h.get
  refine ⟨hA.1.trans h1.symm, fun j hj => ?_⟩
  obtain ⟨x, hx, hr⟩ := hA.2 j (by omega)
  exact ⟨x, hx, (h2 j).vr hinv hr⟩
theorem Lend.refl (σ : Heap) (F : Nat → Prop) : ∀ (vs : List AVal), Lend σ F vs vs
  | [] => trivial
  | v :: vs => ⟨.same v, Lend.refl σ F vs⟩

theorem inv_nil {I : Nat → Prop} {w : World} (h : ∀ b, I b → b < w.heap.size) : Inv I [] w := ⟨fun b hb => ⟨h b hb, rfl⟩, fun b r hr => by simp [Heap.get] at hr, fun r hr => by simp [Heap.get] at hr⟩
theorem inv_keep {I : Nat → Prop} {σ : Heap} {w w' : World} (hinv : Inv I σ w) (hs : w.heap.size ≤ w'.heap.size) (h : ∀ b, b < w.heap.size → w'.heap[b]? = w.heap[b]?) : Inv I σ w' := by
  refine ⟨fun b hb => ⟨Nat.lt_of_lt_of_le (hinv.imm b hb).1 hs, (hinv.imm b hb).2⟩, fun b r hr => ?_, hinv.no⟩
  obtain ⟨cs, ty, hh, h1, h2, h3⟩ := hinv.row b r hr
  exact ⟨cs, ty, by rw [h b (hinv.lt (by simp [hr]))]; exact hh, h1, h2, fun e he => LR_mono (fun _ h => h) (fun q hq => h q (hinv.imm q hq).1) _ _ _ _ (fun _ _ => rfl) (h3 e he)⟩

/-- A function that only computes, called: rows may be lent to it. -/
theorem call_p {f : FuncId} {args args' : List AVal} {r : AVal} {σ : Heap} {K : AVal → Heap → Prop} (F : Nat → Prop) (h : PCalls P f args' r) (hl : Lend σ F args' args) (hf : r.free) (hK : K r σ) : CallTo P f args σ K := by
  refine ⟨fun r' σ' => r' = r ∧ σ' = σ, ⟨h.1, fun I w cargs hinv hA => ?_⟩, by rintro r' σ' ⟨rfl, rfl⟩; exact hK⟩
  have hlt : ∀ b, (I b ∨ (F b ∧ σ.get (some b) ≠ none)) → b < w.heap.size := by
    rintro b (hb | hb)
    · exact (hinv.imm b hb).1
    · exact hinv.lt hb.2
  refine (h.2 _ w cargs (inv_nil hlt) (hl.rel hinv hA)).mono ?_
  rintro e w' ⟨cv, r', σ', I', rfl, ⟨rfl, rfl⟩, hv, -, hx⟩
  have hold : ∀ b, b < w.heap.size → w'.heap[b]? = w.heap[b]? := fun b hb => hx.old b hb rfl
  exact ⟨cv, r', σ, I, rfl, ⟨rfl, rfl⟩, free_vr _ hf _ hv, inv_keep hinv hx.size hold, hx.os, hx.tape, hx.output, hx.size, fun b hb _ => hold b hb, fun _ h => h, fun _ h => .inl h, fun _ h => .inl h⟩

/-- A function called that hands back what may speak of memory: the rows of F are written no longer. -/
theorem call_z {f : FuncId} {args args' : List AVal} {r : AVal} {σ σF : Heap} {K : AVal → Heap → Prop} (F : Nat → Prop) (h : PCalls P f args' r) (hl : Lend σ F args' args) (hF : WkH σ F σF) (hK : K r σF) : CallTo P f args σ K := by
  refine ⟨fun r' σ' => r' = r ∧ σ' = σF, ⟨h.1, fun I w cargs hinv hA => ?_⟩, by rintro r' σ' ⟨rfl, rfl⟩; exact hK⟩
  have hlt : ∀ b, (I b ∨ (F b ∧ σ.get (some b) ≠ none)) → b < w.heap.size := by
    rintro b (hb | hb)
    · exact (hinv.imm b hb).1
    · exact hinv.lt hb.2
  refine (h.2 _ w cargs (inv_nil hlt) (hl.rel hinv hA)).mono ?_
  rintro e w' ⟨cv, r', σ', I', rfl, ⟨rfl, rfl⟩, hv, hinv', hx⟩
  have hold : ∀ b, b < w.heap.size → w'.heap[b]? = w.heap[b]? := fun b hb => hx.old b hb rfl
  have h1 : Inv (fun b => I b ∨ (F b ∧ σ.get (some b) ≠ none)) σF w' := inv_keep (Wk.inv hinv hF) hx.size hold
  have hI' : ∀ b, I' b → (I b ∨ (F b ∧ σ.get (some b) ≠ none)) ∨ w.heap.size ≤ b := fun b hb => by
    rcases hx.imm' b hb with h | h | h
    · exact .inl h
    · exact .inr h
    · exact absurd rfl h
  have hrow : ∀ b, σF.get (some b) ≠ none → σ.get (some b) ≠ none := fun b hb => by
    cases hr : σF.get (some b) with
    | none => exact absurd hr hb
    | some r =>
      rcases hF _ _ hr with ⟨h, -⟩ | ⟨b', r1, h, -, h2, -⟩
      · cases h
      · rw [h2]; simp
  refine ⟨cv, r', σF, I', rfl, ⟨rfl, rfl⟩, hv, ⟨fun b hb => ⟨(hinv'.imm b hb).1, ?_⟩, fun b r hr => ?_, h1.no⟩, hx.os, hx.tape, hx.output, hx.size, fun b hb _ => hold b hb, fun b hb => hx.imm b (.inl hb), fun b hb => ?_, fun b hb => .inl (hrow b hb)⟩
  · rcases hI' b hb with h | h
    · exact (h1.imm b h).2
    · cases hr : σF.get (some b) with
      | none => rfl
      | some r => have := hinv.lt (hrow b (by simp [hr])); omega
  · obtain ⟨cs, ty, hh, h2, h3, h4⟩ := h1.row b r hr
    exact ⟨cs, ty, hh, h2, h3, fun e he => LR_mono (fun b hb => hx.imm b hb) (fun _ _ => rfl) _ _ _ _ (fun _ _ => rfl) (h4 e he)⟩
  · rcases hI' b hb with (h | h) | h
    · exact .inl h
    · exact .inr (.inr h.2)
    · exact .inr (.inl h)

/-- A function called that hands back a new row of plain elements; rows may be lent to it. -/
theorem call_o {f : FuncId} {args args' : List AVal} {R : AVal → Heap → Prop} {σ : Heap} {K : AVal → Heap → Prop} (F : Nat → Prop) (h : ACalls P f args' [] R) (hl : Lend σ F args' args)
    (hR : ∀ r σ', R r σ' → r.free ∧ ∀ k q, Heap.get σ' k = some q → ∀ i < q.n, (q.f i).free) (hK : ∀ r σ', R r σ' → (∀ b, Heap.get σ' (some b) ≠ none → Heap.notin b σ) → K r (σ' ++ σ)) : CallTo P f args σ K := by
  refine ⟨fun r σ'' => ∃ σ', R r σ' ∧ σ'' = σ' ++ σ ∧ ∀ b, Heap.get σ' (some b) ≠ none → Heap.notin b σ, ⟨h.1, fun I w cargs hinv hA => ?_⟩, by rintro r σ'' ⟨σ', h1, rfl, h2⟩; exact hK r σ' h1 h2⟩
  have hlt : ∀ b, (I b ∨ (F b ∧ σ.get (some b) ≠ none)) → b < w.heap.size := by
    rintro b (hb | hb)
    · exact (hinv.imm b hb).1
    · exact hinv.lt hb.2
  refine (h.2 _ w cargs (inv_nil hlt) (hl.rel hinv hA)).mono ?_
  rintro e w' ⟨cv, r, σ', I', rfl, hr, hv, hinv', hx⟩
  have hold : ∀ b, b < w.heap.size → w'.heap[b]? = w.heap[b]? := fun b hb => hx.old b hb rfl
  obtain ⟨hf1, hf2⟩ := hR r σ' hr
  have h1 := inv_keep hinv hx.size hold
  have hnew : ∀ b, Heap.get σ' (some b) ≠ none → w.heap.size ≤ b := fun b hb => (hx.row b hb).resolve_left (fun h => h rfl)
  have happ : ∀ k, Heap.get (σ' ++ σ) k = (Heap.get σ' k).or (Heap.get σ k) := by
    intro k
    clear hinv' hr hx hv hf2 hnew
    induction σ' with
    | nil => rfl
    | cons p l ih =>
      obtain ⟨j, q⟩ := p
      simp only [List.cons_append, Heap.get]
      split
      · rfl
      · exact ih
  refine ⟨cv, r, σ' ++ σ, I, rfl, ⟨σ', hr, rfl, fun b hb => get_ne_notin fun b' hb' => ?_⟩, free_vr _ hf1 _ hv, ⟨fun b hb => ?_, fun b q hq => ?_, fun q hq => ?_⟩, hx.os, hx.tape, hx.output, hx.size, fun b hb _ => hold b hb, fun _ h => h, fun _ h => .inl h, fun b hb => ?_⟩
  · have := hnew b hb; have := hinv.lt hb'; omega
  · refine ⟨(h1.imm b hb).1, ?_⟩
    rw [happ, (h1.imm b hb).2]
    cases hq : Heap.get σ' (some b) with
    | none => rfl
    | some q => have := hnew b (by simp [hq]); have := (hinv.imm b hb).1; omega
  · rw [happ] at hq
    cases hq' : Heap.get σ' (some b) with
    | none => rw [hq'] at hq; exact h1.row b q hq
    | some q' =>
      rw [hq'] at hq; cases hq
      obtain ⟨cs, ty, hh, h2, h3, h4⟩ := hinv'.row b q hq'
      exact ⟨cs, ty, hh, h2, h3, fun e he => free_lr _ (hf2 _ _ hq' e he) _ _ (h4 e he)⟩
  · rw [happ] at hq
    cases hq' : Heap.get σ' none with
    | none => rw [hq'] at hq; exact h1.no q hq
    | some q' => rw [hq'] at hq; cases hq; exact hinv'.no q hq'
  · rw [happ] at hb
    cases hq : Heap.get σ' (some b) with
    | none => rw [hq] at hb; exact .inl hb
    | some q => exact .inr (hnew b (by simp [hq]))
end Go.Aw
