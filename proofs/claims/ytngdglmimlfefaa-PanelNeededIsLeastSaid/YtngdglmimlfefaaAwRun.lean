/- The abstract walk, part 7: regions and code. -/
import Derived.Test.YtngdglmimlfefaaAwApp
import Derived.Orders
namespace Go.Aw
set_option linter.unusedVariables false
set_option linter.unusedSimpArgs false
variable {P : Program}

def TR (I : Nat → Prop) (w : World) (τ : Slots) (tmps : Array Value) : Prop := ∀ i, VR I w (τ.get i) (tmps.getD i undef)
/-- What holds of a frame and the world, begun at I0, σ0, w0. -/
def St (N : Nat) (I0 : Nat → Prop) (σ0 : Heap) (w0 : World) (τ : Slots) (σ : Heap) (a : Act) (w : World) : Prop :=
  ∃ I, Inv I σ w ∧ TR I w τ a.tmps ∧ Ext I0 I σ0 σ w0 w ∧ a.tmps.size = N ∧ a.defers = []
/-- the static look at a region -/
def regOk (P : Program) (N : Nat) (ops : Array Oper) : Bool :=
  ops.all fun o => opOk P o.op && (match o.dst with | some d => decide (d < N) | none => true) && (match o.guard with | some (j, _) => ((ops[j]?).bind (·.dst)).isSome | none => true)

section
variable {N : Nat} {I0 : Nat → Prop} {σ0 : Heap} {w0 : World}
theorem call_mono {f : FuncId} {args : List AVal} {σ : Heap} {K K' : AVal → Heap → Prop} (h : CallTo P f args σ K) (hk : ∀ r σ', K r σ' → K' r σ') : CallTo P f args σ K' :=
  let ⟨R, h1, h2⟩ := h; ⟨R, h1, fun r σ' hr => hk r σ' (h2 r σ' hr)⟩
theorem stop_mono {op : Op} {e : Operand → AVal} {σ : Heap} {K K' : AVal → Heap → Prop} (h : Stop P op e σ K) (hk : ∀ r σ', K r σ' → K' r σ') : Stop P op e σ K' := by
  unfold Stop at h ⊢
  split at h
  · exact call_mono h hk
  · unfold CallV at h ⊢
    split at h
    · exact call_mono h hk
    · exact h.elim
  · unfold Append at h ⊢
    split at h
    · split at h
      · obtain ⟨h1, f, h2, h3, h4⟩ := h
        exact ⟨h1, f, h2, h3, fun k' c' hk' => hk _ _ (h4 k' c' hk')⟩
      · exact h.elim
    · exact h.elim
  · exact h.elim
theorem run_stps {q : Bool} {all : List Oper} {K : Slots → Heap → Prop} : ∀ (ops : List Oper) (τ : Slots) (σ : Heap) (c : Prop), Run P q all ops τ σ c K → c ∧ Stps P q all ops τ σ K
  | [], τ, σ, c, h => h
  | o :: rest, τ, σ, c, h => by
    have ih := run_stps (q := q) (all := all) (K := K) rest
    unfold Run at h
    unfold Stps Stp
    split at h
    · split at h
      · obtain ⟨h1, h2⟩ := ih _ _ _ h; exact ⟨h1.1, h1.2, h2⟩
      · refine ⟨h.1, fun b hb => ?_⟩
        obtain ⟨h1, h2⟩ := ih _ _ _ (h.2 b hb); exact ⟨h1, h2⟩
      · split at h
        · obtain ⟨h1, h2⟩ := ih _ _ _ h; exact ⟨h1.1, h1.2, h2⟩
        · exact h.elim
      · exact ⟨h.1, stop_mono h.2 fun r σ' hr => (ih _ _ _ hr).2⟩
      · split at h
        · obtain ⟨h1, r, h2, h3⟩ := h; exact ⟨h1, r, h2, (ih _ _ _ h3).2⟩
        · exact ⟨h.1, stop_mono h.2 fun r σ' hr => (ih _ _ _ hr).2⟩
    · split at h
      · split at h
        · obtain ⟨h1, h2⟩ := ih _ _ _ h; exact ⟨h1.1, h1.2, h2⟩
        · obtain ⟨h1, r, h2, h3⟩ := h; exact ⟨h1, r, h2, ih _ _ _ h3⟩
        · exact h.elim
      · exact h.elim
theorem TR.put {I : Nat → Prop} {w : World} {τ : Slots} {a : Act} {d : Option Nat} {v : AVal} {cv : Value} (hN : a.tmps.size = N) (hd : (match d with | some d => decide (d < N) | none => true) = true)
    (h : TR I w τ a.tmps) (hv : VR I w v cv) : TR I w (putd τ d v) (a.put d cv).tmps := by
  cases d with
  | none => exact h
  | some d =>
    have hd' : d < N := by simpa using hd
    intro i
    simp only [putd, Slots.get, Act.put]
    by_cases hi : i = d
    · subst hi
      rw [if_pos rfl]
      have : (a.tmps.setIfInBounds i cv).getD i undef = cv := by simp [Array.getD_eq_getD_getElem?, hN, hd']
      rw [this]; exact hv
    · rw [if_neg hi]
      have : (a.tmps.setIfInBounds d cv).getD i undef = a.tmps.getD i undef := by
        simp only [Array.getD_eq_getD_getElem?]; rw [Array.getElem?_setIfInBounds_ne (fun h => hi h.symm)]
      rw [this]; exact h i
theorem TR.mono {I I' : Nat → Prop} {w w' : World} {τ : Slots} {tmps : Array Value} (hI : ∀ b, I b → I' b) (hw : ∀ b, I b → w'.heap[b]? = w.heap[b]?) (h : TR I w τ tmps) : TR I' w' τ tmps :=
  fun i => VR_mono hI hw _ _ (h i)
theorem put_size {a : Act} {d : Option Nat} {v : Value} : (a.put d v).tmps.size = a.tmps.size ∧ (a.put d v).defers = a.defers := by
  cases d <;> simp [Act.put]
theorem TR.ev {I : Nat → Prop} {w : World} {τ : Slots} {a : Act} (h : TR I w τ a.tmps) {x : Operand} (hx : opdOk x = true) : VR I w (ev τ x) (a.eval x) := by
  cases x with
  | tmp t => exact h t
  | const v =>
    simp only [Aw.ev, Act.eval]
    by_cases ha : ∃ cs, v = .agg cs
    · obtain ⟨cs, rfl⟩ := ha
      obtain ⟨h1, h2, -⟩ := const_cells (I := I) (w := w) (z := .agg cs) hx
      exact ⟨cs, rfl, rfl, h2⟩
    · have ho : ofConst v = leafC v := by cases v <;> first | rfl | exact absurd ⟨_, rfl⟩ ha
      rw [ho]
      unfold leafC
      split <;> first | trivial | exact ⟨rfl, rfl⟩
  | global g => simp [opdOk] at hx
  | func f => exact ⟨rfl, #[], rfl, rfl, fun j hj => by simp [fn, lst] at hj⟩
end

theorem run_callFunc {g : FuncId} {w : World} (args : Array Value) (h : fnOk P g = true) : (callFunc g args).run P w = .ok (.enter g args) w := by
  unfold fnOk at h
  split at h
  · rename_i fn hf
    simp only [Bool.and_eq_true, bne_iff_ne, ne_eq] at h
    have h1 : fn.body.isNone = false := by cases hb : fn.body <;> simp_all
    simp [callFunc, hf, h.2]
    intro hb; simp [hb] at h1
  · cases h

theorem lst_map {e : Operand → AVal} : ∀ (l : List Operand) (j : Nat) (h : j < l.length), lst (l.map e) j = e l[j]
  | [], j, h => by simp at h
  | x :: l, 0, h => rfl
  | x :: l, j + 1, h => lst_map l j (by simpa using h)
theorem lst_append : ∀ (l m : List AVal) (j : Nat), lst (l ++ m) j = if j < l.length then lst l j else lst m (j - l.length)
  | [], m, j => by simp
  | x :: l, m, 0 => by simp [lst]
  | x :: l, m, j + 1 => by simp only [List.cons_append, lst, List.length_cons]; rw [lst_append l m j]; simp only [Nat.add_lt_add_iff_right, Nat.add_sub_add_right]
theorem lst_range (f : Nat → AVal) (n j : Nat) (h : j < n) : lst ((List.range n).map f) j = f j := by
  have : ∀ (l : List Nat) (j : Nat) (h : j < l.length), lst (l.map f) j = f l[j] := by
    intro l
    induction l with
    | nil => intro j h; simp at h
    | cons x l ih => intro j h; cases j with
      | zero => rfl
      | succ j => exact ih j (by simpa using h)
  rw [this _ _ (by simpa using h)]; simp

theorem call_sound {I : Nat → Prop} {σ : Heap} {w : World} {o : Oper} {a : Act} {next : Act → World → Prop} {Q : Exit → Act → World → Prop} {g : FuncId} {args : List AVal} {cargs : Array Value} {K : AVal → Heap → Prop}
    (hrun : fnOk P g = true → (execOp a.eval o).run P w = .ok (.enter g cargs) w) (hA : ARel I w args cargs) (hinv : Inv I σ w) (hS : CallTo P g args σ K)
    (hn : ∀ r σ' I' cv w', K r σ' → VR I' w' r cv → Inv I' σ' w' → Ext I I' σ σ' w w' → next (a.put o.dst cv) w') : o.wp P a w next Q := by
  obtain ⟨R, ⟨hf, hR⟩, hK⟩ := hS
  unfold Oper.wp
  rw [hrun hf, Oper.upon_enter]
  refine (hR I w cargs hinv hA).mono ?_
  rintro e w' ⟨cv, r, σ', I', rfl, hr, hv, hi, hx⟩
  exact hn r σ' I' cv w' (hK r σ' hr) hv hi hx

theorem stop_sound {I : Nat → Prop} {σ : Heap} {w : World} {o : Oper} {a : Act} {next : Act → World → Prop} {Q : Exit → Act → World → Prop} {e : Operand → AVal} {K : AVal → Heap → Prop}
    (hk : kindOf o.op = .call ∨ kindOf o.op = .app) (hok : opOk P o.op = true) (he : ∀ x ∈ o.op.operands, VR I w (e x) (a.eval x)) (hinv : Inv I σ w) (hS : Stop P o.op e σ K) 
    (hn : ∀ r σ' I' cv w', K r σ' → VR I' w' r cv → Inv I' σ' w' → Ext I I' σ σ' w w' → next (a.put o.dst cv) w') : o.wp P a w next Q := by
  unfold opOk at hok
  simp only [Bool.and_eq_true] at hok
  obtain ⟨-, hok⟩ := hok
  cases hop : o.op with
  | call c =>
    rw [hop] at hk hok he hS
    obtain ⟨callee, args, argTypes⟩ := c
    have hargs : ∀ x ∈ args.toList, VR I w (e x) (a.eval x) := fun x hx => he x (by simp only [Op.operands, Call.operands]; exact Array.mem_append_right _ (Array.mem_toList_iff.1 hx))
    have harel : ARel I w (args.toList.map e) (args.map a.eval) := by
      refine ⟨by simp, fun j hj => ?_⟩
      have hj' : j < args.toList.length := by simpa using hj
      refine ⟨a.eval args.toList[j], ?_, ?_⟩
      · have : j < args.size := by simpa using hj'
        simp [this]
      · rw [lst_map _ _ hj']; exact hargs _ (List.getElem_mem _)
    cases callee with
    | value f =>
      cases f with
      | func g =>
        refine call_sound (args := args.toList.map e) (cargs := args.map a.eval) (fun hf => ?_) harel hinv hS hn
        simp only [execOp, hop, resolve, Deferred.ofValue, Act.eval, Sem.run_bind, Sem.run_pure, Result.andThen_ok, invoke]
        rw [run_callFunc _ hf]; simp
      | tmp t =>
        have hv := he (.tmp t) (by simp [Op.operands, Call.operands])
        simp only [Stop] at hS
        generalize e (.tmp t) = v at *
        cases v with
        | fnF g n caps =>
          obtain ⟨-, cs, hcs, hn', hcap⟩ := hv
          have hcs := Option.some.inj hcs
          refine call_sound (g := g) (args := args.toList.map e ++ (List.range n).map caps) (cargs := args.map a.eval ++ cs) (fun hf => ?_) ?_ hinv hS hn
          · simp only [execOp, hop, resolve, hcs, Deferred.ofValue, Sem.run_bind, Sem.run_pure, Result.andThen_ok, invoke]
            rw [run_callFunc _ hf]; simp
          · refine ⟨by simp [hn'], fun j hj => ?_⟩
            rw [lst_append]
            by_cases hjl : j < (args.toList.map e).length
            · rw [if_pos hjl]
              obtain ⟨x, hx, hr⟩ := harel.2 j hjl
              refine ⟨x, ?_, hr⟩
              rw [Array.getElem?_append_left (by have := harel.1; omega)]; exact hx
            · rw [if_neg hjl]
              have hlen : (args.toList.map e).length = (args.map a.eval).size := harel.1.symm
              have hjn : j - (args.toList.map e).length < n := by simp at hj; simp at hjl ⊢; omega
              obtain ⟨h1, h2⟩ := hcap _ hjn
              rw [lst_range _ _ _ hjn]
              obtain ⟨x, hx, -⟩ := LR_leaf h1 h2
              refine ⟨x, ?_, VR_of_LR h1 h2 hx⟩
              rw [Array.getElem?_append_right (by omega), ← hlen]; exact hx
        | _ => exact hS.elim
      | _ => simp at hok
    | builtin b =>
      cases b with
      | append =>
        simp only [Bool.and_eq_true, beq_iff_eq] at hok
        obtain ⟨⟨⟨h1, h2⟩, h3⟩, h4⟩ := hok
        obtain ⟨x, y, rfl⟩ : ∃ x y, args = #[x, y] := by
          rcases args with ⟨l⟩; match l, h1 with | [x, y], _ => exact ⟨x, y, rfl⟩
        obtain ⟨t, t1, rfl⟩ : ∃ t t1, argTypes = #[t, t1] := by
          rcases argTypes with ⟨l⟩; match l, h2 with | [x, y], _ => exact ⟨x, y, rfl⟩
        have h3' : ∃ el, P.underlying t = some (.slice el) ∧ zeroOk P el = true ∧ 0 < byT P el := by
          have h3 : (match P.underlying t with | some (.slice e) => zeroOk P e && decide (0 < byT P e) | _ => false) = true := h3
          split at h3
          · simp only [Bool.and_eq_true, decide_eq_true_eq] at h3; exact ⟨_, by assumption, h3.1, h3.2⟩
          · cases h3
        have h4' : ∃ el, P.underlying t1 = some (.slice el) := by
          have h4 : (match P.underlying t1 with | some (.slice e) => true | _ => false) = true := h4
          split at h4
          · exact ⟨_, by assumption⟩
          · cases h4
        obtain ⟨el, hu, hz, hb⟩ := h3'
        obtain ⟨cv, w', r, σ', hrun, hK, hv, hi, hx⟩ := append_sound (ty := o.type) hu hz hb h4' (hargs x (by simp)) (hargs y (by simp)) hinv hS
        unfold Oper.wp
        have : (execOp a.eval o).run P w = .ok (.value cv) w' := by
          simp only [execOp, hop, resolve, Sem.run_bind, Sem.run_pure, Result.andThen_ok, invoke, builtin]
          have hrun' : (Builtin.append_ #[t, t1] o.type (#[x, y].map a.eval)).run P w = .ok cv w' := by simpa using hrun
          rw [hrun']; rfl
        rw [this, Oper.upon_value]
        exact hn r σ' I cv w' hK hv hi hx
      | _ => exact hS.elim
    | _ => exact hS.elim
  | _ => rw [hop] at hS; exact hS.elim

section
variable {N : Nat} {I0 : Nat → Prop} {σ0 : Heap} {w0 : World}
theorem reg_ok {ops : Array Oper} (h : regOk P N ops = true) {i : Nat} {o : Oper} (hi : ops[i]? = some o) :
    opOk P o.op = true ∧ (match o.dst with | some d => decide (d < N) | none => true) = true ∧ ∀ j want, o.guard = some (j, want) → ∃ oj d, ops[j]? = some oj ∧ oj.dst = some d ∧ d < N := by
  unfold regOk at h
  rw [Array.all_eq_true'] at h
  have h0 := h o (Array.mem_of_getElem? hi)
  simp only [Bool.and_eq_true] at h0
  refine ⟨h0.1.1, h0.1.2, fun j want hg => ?_⟩
  have h2 := h0.2
  rw [hg] at h2
  simp only [Option.isSome_iff_exists] at h2
  obtain ⟨d, hd⟩ := h2
  cases hj : ops[j]? with
  | none => simp [hj] at hd
  | some oj =>
    simp only [hj, Option.bind_some] at hd
    have h3 := h oj (Array.mem_of_getElem? hj)
    simp only [Bool.and_eq_true, hd, decide_eq_true_eq] at h3
    exact ⟨oj, d, rfl, hd, h3.1.2⟩
theorem dstAt_eq : ∀ (l : List Oper) (j : Nat) (o : Oper), l[j]? = some o → dstAt l j = o.dst.getD 0
  | [], j, o, h => by simp at h
  | x :: l, 0, o, h => by cases h; rfl
  | x :: l, j + 1, o, h => dstAt_eq l j o (by simpa using h)

theorem okAll_mem {g : Bool} {e : Operand → AVal} : ∀ {l : List Operand}, okAll g (l.map e) → ∀ x ∈ l, (e x).okw g
  | [], _, x, hx => by cases hx
  | y :: l, h, x, hx => by rcases List.mem_cons.1 hx with rfl | hx <;> first | exact h.1 | exact okAll_mem h.2 x hx
theorem guarded_sound {I : Nat → Prop} {σ : Heap} {w : World} {e : Operand → AVal} {ρ : Operand → Value} {o : Oper} {g : Bool} (hk : kindOf o.op = .pure) (hok : opOk P o.op = true) (he : ∀ x ∈ o.op.operands, VR I w (e x) (ρ x)) (hinv : Inv I σ w) (hg : g = true)
    (hc : (gF P o.op e σ g).1) : ∃ cv, (execOp ρ o).run P w = .ok (.value cv) w ∧ VR I w (gF P o.op e σ g).2 cv := by
  by_cases hp : ∃ c x y, o.op = .pick c x y
  · obtain ⟨c, x, y, hop⟩ := hp
    rw [hop] at hc he ⊢
    simp only [gF] at hc ⊢
    obtain ⟨hc1, hc2⟩ := hc
    have hz := VR_okw hg hc2 (he c (by simp [Op.operands]))
    obtain ⟨cv, h1, h2⟩ := pick_sound (P := P) hz (he x (by simp [Op.operands])) (he y (by simp [Op.operands])) hc1
    refine ⟨cv, ?_, h2⟩
    have : (execOp ρ o) = (do pure (Next.value (← (do pure (if ← asBool (ρ c) then ρ x else ρ y) : Sem Value)))) := by simp [execOp, hop]
    rw [this, Sem.run_bind, h1]; rfl
  · have hgF : gF P o.op e σ g = ((pureF P o.op (fun x => (e x).strip) σ).1 ∧ okAll g (o.op.operands.toList.map e), (pureF P o.op (fun x => (e x).strip) σ).2) := by
      cases hop : o.op with
      | pick c x y => exact absurd ⟨c, x, y, hop⟩ hp
      | _ => rfl
    rw [hgF] at hc ⊢
    exact pure_sound (P := P) hk hok (fun x hx => VR_okw hg (okAll_mem hc.2 x (Array.mem_toList_iff.2 hx)) (he x hx)) hinv hc.1
theorem op_sound {q : Bool} {ops : Array Oper} {Q : Exit → Act → World → Prop} {K : Slots → Heap → Prop} (hok : regOk P N ops = true) {i : Nat} (hi : i < ops.size)
    {τ : Slots} {σ : Heap} {a : Act} {w : World} (h : Stp P q ops.toList (ops.getD i default) τ σ K) (hS : St N I0 σ0 w0 τ σ a w) :
    wpOp P ops Q i (fun a w => ∃ τ σ, K τ σ ∧ St N I0 σ0 w0 τ σ a w) a w := by
  have hio : ops[i]? = some ops[i] := Array.getElem?_eq_getElem hi
  obtain ⟨ho1, ho2, ho3⟩ := reg_ok hok hio
  have hgd : ops.getD i default = ops[i] := by simp [hi]
  obtain ⟨I, hinv, hT, hX, hN, hD⟩ := hS
  rw [hgd] at h
  generalize ops[i] = o at *
  have hops : ∀ x ∈ o.op.operands, opdOk x = true := by
    unfold opOk at ho1
    simp only [Bool.and_eq_true, Array.all_eq_true'] at ho1
    exact ho1.1
  have hev : ∀ x ∈ o.op.operands, VR I w (ev τ x) (a.eval x) := fun x hx => hT.ev (hops x hx)
  have hstep : ∀ (v : AVal) (cv : Value) (σ' : Heap) (I' : Nat → Prop) (w' : World), VR I' w' v cv → Inv I' σ' w' → Ext I I' σ σ' w w' →
      K (putd τ o.dst v) σ' → ∃ τ σ, K τ σ ∧ St N I0 σ0 w0 τ σ (a.put o.dst cv) w' := by
    intro v cv σ' I' w' hv hi' hx hr
    exact ⟨_, _, hr, I', hi', (hT.mono hx.imm (hx.keep hinv)).put hN ho2 hv, hX.trans hx, by rw [put_size.1]; exact hN, by rw [put_size.2]; exact hD⟩
  simp only [wpOp, hio]
  unfold Stp at h
  cases hg : o.guard with
  | none =>
    simp only [hg] at h
    have hw : Region.wanted o (yielded ops a.tmps) = true := by simp [Region.wanted, hg]
    rw [if_pos hw]
    refine .inl ?_
    cases hk : kindOf o.op with
    | pure =>
      simp only [hk] at h
      obtain ⟨cv, hrun, hv⟩ := pure_sound (P := P) hk ho1 hev hinv h.1
      unfold Oper.wp
      rw [hrun, Oper.upon_value]
      exact hstep _ _ _ _ _ hv hinv (Ext.refl hinv) h.2
    | new =>
      simp only [hk] at h
      have h' := h w.heap.size hinv.fresh
      obtain ⟨cv, w', hrun, hv, hi', hx⟩ := new_sound (P := P) hk ho1 hev hinv h'.1
      unfold Oper.wp
      rw [hrun, Oper.upon_value]
      exact hstep _ _ _ _ _ hv hi' hx h'.2
    | store =>
      simp only [hk] at h
      cases hop : o.op with
      | store t x y =>
        simp only [hop] at h
        rw [hop] at hev ho1
        have hlo : loadOk P t = true := by
          unfold opOk at ho1; simp only [Bool.and_eq_true] at ho1; exact ho1.2
        obtain ⟨w', hrun, hi', hx⟩ := store_sound (P := P) (e := ev τ) (ρ := a.eval) hlo (hev x (by simp [Op.operands])) (hev y (by simp [Op.operands])) hinv h.1
        unfold Oper.wp
        have : (execOp a.eval o).run P w = .ok .skip w' := by simp [execOp, hop, hrun]
        rw [this, Oper.upon_skip]
        exact hstep .undef undef _ I _ trivial hi' hx h.2
      | _ => simp only [hop] at h
    | app =>
      simp only [hk] at h
      refine stop_sound (P := P) (.inr hk) ho1 hev hinv h ?_
      intro r σ' I' cv w' hK hv hi' hx
      exact hstep _ _ _ _ _ hv hi' hx hK
    | call =>
      simp only [hk] at h
      cases q with
      | true =>
        obtain ⟨r, hr, hK⟩ := h
        refine stop_sound (P := P) (.inl hk) ho1 hev hinv (hr rfl) ?_
        rintro r' σ' I' cv w' ⟨rfl, rfl⟩ hv hi' hx
        exact hstep _ _ _ _ _ hv hi' hx hK
      | false =>
        refine stop_sound (P := P) (.inl hk) ho1 hev hinv h ?_
        intro r σ' I' cv w' hK hv hi' hx
        exact hstep _ _ _ _ _ hv hi' hx hK
  | some g =>
    obtain ⟨j, want⟩ := g
    simp only [hg] at h
    obtain ⟨oj, d, hoj, hd, hdN⟩ := ho3 j want hg
    have hdst : dstAt ops.toList j = d := by rw [dstAt_eq _ j oj (by simpa using hoj), hd]; rfl
    rw [hdst] at h
    have hsl := hT d
    have hlt : d < a.tmps.size := by rw [hN]; exact hdN
    cases hgd : gdF want (τ.get d) with
    | none => simp only [hgd] at h
    | some G =>
      simp only [hgd] at h
      have hw : Region.wanted o (yielded ops a.tmps) = G := by
        have hy : ∀ t, a.tmps.getD d undef = .bool t → Region.wanted o (yielded ops a.tmps) = (t == want) := by
          intro t h1
          have h2 : a.tmps[d]? = some (.bool t) := by
            rw [Array.getElem?_eq_getElem hlt]; simp [hlt] at h1; rw [h1]
          have hy : yielded ops a.tmps j = some t := by simp [yielded, hoj, hd, h2]
          simp only [Region.wanted, hg, hy]
          cases t <;> cases want <;> rfl
        cases hv : τ.get d with
        | bool t =>
          rw [hv] at hsl hgd
          have hgd : some (t == want) = some G := hgd
          rw [hy t (Option.some.inj hsl.2)]; exact Option.some.inj hgd
        | when g v =>
          rw [hv] at hsl hgd
          cases v with
          | bool t =>
            have hgd : some (g && (t == want)) = some G := hgd
            rw [← Option.some.inj hgd]
            cases hgg : g with
            | true => rw [hy t (Option.some.inj (hsl.1 hgg).2)]; rfl
            | false =>
              have h1 := hsl.2 hgg
              have h2 : a.tmps[d]? = some undef := by
                rw [Array.getElem?_eq_getElem hlt]; simp [hlt] at h1; rw [h1]
              have hy : yielded ops a.tmps j = none := by simp [yielded, hoj, hd, h2, undef]
              simp [Region.wanted, hg, hy]
          | _ => simp [gdF] at hgd
        | _ => rw [hv] at hgd; simp [gdF] at hgd
      rw [hw]
      cases hk : kindOf o.op with
      | pure =>
        simp only [hk] at h
        by_cases ht : G = true
        · rw [if_pos ht]
          refine .inl ?_
          obtain ⟨cv, hrun, hv⟩ := guarded_sound (P := P) hk ho1 hev hinv ht (h.1 ht)
          unfold Oper.wp
          rw [hrun, Oper.upon_value]
          exact hstep (.when G _) _ _ _ _ ⟨fun _ => hv, fun hf => by rw [ht] at hf; cases hf⟩ hinv (Ext.refl hinv) h.2
        · rw [if_neg ht]
          exact hstep (.when G _) undef _ _ _ ⟨fun h => absurd h ht, fun _ => rfl⟩ hinv (Ext.refl hinv) h.2
      | call =>
        simp only [hk] at h
        obtain ⟨r, hr, hc2, hK⟩ := h
        by_cases ht : G = true
        · rw [if_pos ht]
          refine .inl ?_
          refine stop_sound (P := P) (e := fun x => (ev τ x).strip) (.inl hk) ho1 (fun x hx => VR_okw ht (okAll_mem (hc2 ht) x (Array.mem_toList_iff.2 hx)) (hev x hx)) hinv (hr ht) ?_
          rintro r' σ' I' cv w' ⟨rfl, rfl⟩ hv hi' hx
          exact hstep (.when G _) _ _ _ _ ⟨fun _ => hv, fun hf => by rw [ht] at hf; cases hf⟩ hi' hx hK
        · rw [if_neg ht]
          exact hstep (.when G _) undef _ _ _ ⟨fun h => absurd h ht, fun _ => rfl⟩ hinv (Ext.refl hinv) hK
      | _ => simp only [hk] at h

theorem run_sound {q : Bool} {ops : Array Oper} {Q : Exit → Act → World → Prop} {K : Slots → Heap → Prop} (hok : regOk P N ops = true)
    (hQ : ∀ τ σ a w, K τ σ → St N I0 σ0 w0 τ σ a w → Q .normal a w) : ∀ (l : List Nat) (τ : Slots) (σ : Heap) (a : Act) (w : World), (∀ i ∈ l, i < ops.size) →
    Stps P q ops.toList (l.map fun i => ops.getD i default) τ σ K → St N I0 σ0 w0 τ σ a w → wpOps P ops Q l a w
  | [], τ, σ, a, w, _, h, hS => hQ τ σ a w h hS
  | i :: l, τ, σ, a, w, hl, h, hS => by
    rw [wpOps_cons]
    refine wpOp_mono ?_ (op_sound hok (hl i (by simp)) h hS)
    rintro a w ⟨τ, σ, hk, hs⟩
    exact run_sound hok hQ l τ σ a w (fun j hj => hl j (by simp [hj])) hk hs
end
end Go.Aw
