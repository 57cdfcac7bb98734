/- The abstract walk, part 7: regions and code. -/
import Derived.Test.YtngdglmimlfefaaNwApp
import Derived.Orders
namespace Go.Nw
set_option linter.unusedVariables false
set_option linter.unusedSimpArgs false
variable {P : Program}

def TR (I : Nat → Prop) (μ : Where) (w : World) (τ : Slots) (tmps : Array Value) : Prop := ∀ i, VR I μ w (τ.get i) (tmps.getD i undef)
/-- What holds of a frame and the world, begun at I0, μ0, B0, w0. -/
def St (N : Nat) (I0 : Nat → Prop) (μ0 : Where) (B0 : Nat → Prop) (w0 : World) (τ : Slots) (σ : Heap) (a : Act) (w : World) : Prop :=
  ∃ I μ, Inv I μ σ w ∧ TR I μ w τ a.tmps ∧ Ext I0 I B0 (Blk μ σ) w0 w ∧ a.tmps.size = N ∧ a.defers = [] ∧ μ0.le μ
/-- The same, within a region: n names are taken, those of U not used yet. -/
def StG (n : Nat) (U : Nat → Prop) (N : Nat) (I0 : Nat → Prop) (μ0 : Where) (B0 : Nat → Prop) (w0 : World) (τ : Slots) (σ : Heap) (a : Act) (w : World) : Prop :=
  ∃ I μ, Inv I μ (σ.bump n) w ∧ TR I μ w τ a.tmps ∧ Ext I0 I B0 (Blk μ σ) w0 w ∧ a.tmps.size = N ∧ a.defers = [] ∧ μ0.le μ ∧ ∀ d, U d → d < n ∧ ∀ i, μ (σ.nx + d, i) = none
/-- the static look at a region -/
def regOk (P : Program) (N : Nat) (ops : Array Oper) : Bool :=
  ops.all fun o => opOk P o.op && (match o.dst with | some d => decide (d < N) | none => true) && (match o.guard with | some (j, _) => ((ops[j]?).bind (·.dst)).isSome | none => true)

section
variable {N : Nat} {I0 : Nat → Prop} {μ0 : Where} {B0 : Nat → Prop} {w0 : World}
theorem call_mono {f : FuncId} {args : List AVal} {σ : Heap} {K K' : AVal → Heap → Prop} (h : CallTo P f args σ K) (hk : ∀ r σ', K r σ' → K' r σ') : CallTo P f args σ K' :=
  let ⟨R, h1, h2⟩ := h; ⟨R, h1, fun r σ' hr => hk r σ' (h2 r σ' hr)⟩
theorem stop_mono {op : Op} {e : Operand → AVal} {σ : Heap} {K K' : AVal → Heap → Prop} (h : Stop P op e σ K) (hk : ∀ r σ', K r σ' → K' r σ') : Stop P op e σ K' := by
  unfold Stop at h ⊢
  split at h
  · exact call_mono h hk
  · unfold CallV at h ⊢
    split at h
    · exact call_mono h hk
    · exact h.elim
  · exact h.elim
theorem rstop_mono {op : Op} {e : Operand → AVal} {σ : Heap} {p : Nat} {K K' : AVal → Heap → Prop} (h : RStop P op e σ p K) (hk : ∀ r σ', K r σ' → K' r σ') : RStop P op e σ p K' := by
  unfold RStop at h ⊢
  split at h
  · obtain ⟨z, ks, args', σa, σr, r, h1, h2, h3, h4, h5, h6, h7, h8, h9⟩ := h
    exact ⟨z, ks, args', σa, σr, r, h1, h2, h3, h4, h5, h6, h7, h8, hk _ _ h9⟩
  · exact h.elim
theorem run_stps {q : Rg} {all : List Oper} {K : Slots → Heap → Prop} : ∀ (ops : List Oper) (τ : Slots) (σ : Heap) (c : Prop), Run P q all ops τ σ c K → c ∧ Stps P q all ops τ σ K
  | [], τ, σ, c, h => h
  | o :: rest, τ, σ, c, h => by
    have ih := run_stps (q := q) (all := all) (K := K) rest
    unfold Run at h
    unfold Stps Stp
    split at h
    · split at h
      · obtain ⟨h1, h2⟩ := ih _ _ _ h; exact ⟨h1.1, h1.2, h2⟩
      · split at h
        · obtain ⟨h1, h2⟩ := ih _ _ _ h; exact ⟨h1.1, h1.2, h2⟩
        · obtain ⟨h1, h2⟩ := ih _ _ _ h; exact ⟨h1.1, h1.2, h2⟩
      · split at h
        · split at h
          · obtain ⟨h1, r, h2, h3⟩ := h; exact ⟨h1, r, h2, (ih _ _ _ h3).2⟩
          · exact ⟨h.1, rstop_mono h.2 fun r σ' hr => (ih _ _ _ hr).2⟩
        · exact ⟨h.1, stop_mono h.2 fun r σ' hr => (ih _ _ _ hr).2⟩
    · split at h
      · split at h
        · obtain ⟨h1, h2⟩ := ih _ _ _ h; exact ⟨h1.1, h1.2, h2⟩
        · obtain ⟨h1, r, h2, h3⟩ := h; exact ⟨h1, r, h2, ih _ _ _ h3⟩
        · exact h.elim
      · exact h.elim
theorem TR.put {I : Nat → Prop} {μ : Where} {w : World} {τ : Slots} {a : Act} {d : Option Nat} {v : AVal} {cv : Value} (hN : a.tmps.size = N) (hd : (match d with | some d => decide (d < N) | none => true) = true)
    (h : TR I μ w τ a.tmps) (hv : VR I μ w v cv) : TR I μ w (putd τ d v) (a.put d cv).tmps := by
  cases d with
  | none => exact h
  | some d =>
    have hd' : d < N := by simpa using hd
    intro i
    simp only [putd, Slots.get, Act.put]
    by_cases hi : i = d
    · subst hi
      rw [if_pos rfl]
      have : (a.tmps.setIfInBounds i cv).getD i undef = cv := by simp [Array.getD_eq_getD_getElem?, hN, hd']
      rw [this]; exact hv
    · rw [if_neg hi]
      have : (a.tmps.setIfInBounds d cv).getD i undef = a.tmps.getD i undef := by
        simp only [Array.getD_eq_getD_getElem?]; rw [Array.getElem?_setIfInBounds_ne (fun h => hi h.symm)]
      rw [this]; exact h i
theorem TR.mono {I I' : Nat → Prop} {μ μ' : Where} {w w' : World} {τ : Slots} {tmps : Array Value} (hI : ∀ b, I b → I' b) (hm : μ.le μ') (hw : ∀ b, I b → w'.heap[b]? = w.heap[b]?) (h : TR I μ w τ tmps) : TR I' μ' w' τ tmps :=
  fun i => VR_mono hI hm hw _ _ (h i)
theorem put_size {a : Act} {d : Option Nat} {v : Value} : (a.put d v).tmps.size = a.tmps.size ∧ (a.put d v).defers = a.defers := by
  cases d <;> simp [Act.put]
theorem TR.ev {I : Nat → Prop} {μ : Where} {w : World} {τ : Slots} {a : Act} (h : TR I μ w τ a.tmps) {x : Operand} (hx : opdOk x = true) : VR I μ w (ev τ x) (a.eval x) := by
  cases x with
  | tmp t => exact h t
  | const v =>
    simp only [Nw.ev, Act.eval]
    by_cases ha : ∃ cs, v = .agg cs
    · obtain ⟨cs, rfl⟩ := ha
      obtain ⟨h1, h2, -⟩ := const_cells (I := I) (μ := μ) (w := w) (z := .agg cs) hx
      exact ⟨cs, rfl, rfl, h2⟩
    · have ho : ofConst v = leafC v := by cases v <;> first | rfl | exact absurd ⟨_, rfl⟩ ha
      rw [ho]
      unfold leafC
      split <;> first | trivial | exact ⟨rfl, rfl⟩
  | global g => simp [opdOk] at hx
  | func f => exact ⟨rfl, #[], rfl, rfl, fun j hj => by simp [fn, lst] at hj⟩
end

theorem run_callFunc {g : FuncId} {w : World} (args : Array Value) (h : fnOk P g = true) : (callFunc g args).run P w = .ok (.enter g args) w := by
  unfold fnOk at h
  split at h
  · rename_i fn hf
    simp only [Bool.and_eq_true, bne_iff_ne, ne_eq] at h
    have h1 : fn.body.isNone = false := by cases hb : fn.body <;> simp_all
    simp [callFunc, hf, h.2]
    intro hb; simp [hb] at h1
  · cases h

theorem lst_map {e : Operand → AVal} : ∀ (l : List Operand) (j : Nat) (h : j < l.length), lst (l.map e) j = e l[j]
  | [], j, h => by simp at h
  | x :: l, 0, h => rfl
  | x :: l, j + 1, h => lst_map l j (by simpa using h)
theorem lst_append : ∀ (l m : List AVal) (j : Nat), lst (l ++ m) j = if j < l.length then lst l j else lst m (j - l.length)
  | [], m, j => by simp
  | x :: l, m, 0 => by simp [lst]
  | x :: l, m, j + 1 => by simp only [List.cons_append, lst, List.length_cons]; rw [lst_append l m j]; simp only [Nat.add_lt_add_iff_right, Nat.add_sub_add_right]
theorem lst_range (f : Nat → AVal) (n j : Nat) (h : j < n) : lst ((List.range n).map f) j = f j := by
  have : ∀ (l : List Nat) (j : Nat) (h : j < l.length), lst (l.map f) j = f l[j] := by
    intro l
    induction l with
    | nil => intro j h; simp at h
    | cons x l ih => intro j h; cases j with
      | zero => rfl
      | succ j => exact ih j (by simpa using h)
  rw [this _ _ (by simpa using h)]; simp

theorem call_sound {I : Nat → Prop} {μ : Where} {σ : Heap} {w : World} {o : Oper} {a : Act} {next : Act → World → Prop} {Q : Exit → Act → World → Prop} {g : FuncId} {args : List AVal} {cargs : Array Value} {K : AVal → Heap → Prop}
    (hrun : fnOk P g = true → (execOp a.eval o).run P w = .ok (.enter g cargs) w) (hA : ARel I μ w args cargs) (hinv : Inv I μ σ w) (hS : CallTo P g args σ K)
    (hn : ∀ r σ' I' μ' cv w', K r σ' → VR I' μ' w' r cv → Inv I' μ' σ' w' → Ext I I' (Blk μ σ) (Blk μ' σ') w w' → μ.le μ' → next (a.put o.dst cv) w') : o.wp P a w next Q := by
  obtain ⟨R, ⟨hf, hR⟩, hK⟩ := hS
  unfold Oper.wp
  rw [hrun hf, Oper.upon_enter]
  refine (hR I μ w cargs hinv hA).mono ?_
  rintro e w' ⟨cv, r, σ', I', μ', rfl, hr, hv, hi, hx, hm⟩
  exact hn r σ' I' μ' cv w' (hK r σ' hr) hv hi hx hm

theorem stop_sound {I : Nat → Prop} {μ : Where} {σ : Heap} {w : World} {o : Oper} {a : Act} {next : Act → World → Prop} {Q : Exit → Act → World → Prop} {e : Operand → AVal} {K : AVal → Heap → Prop}
    (hk : kindOf o.op = .call) (hok : opOk P o.op = true) (he : ∀ x ∈ o.op.operands, VR I μ w (e x) (a.eval x)) (hinv : Inv I μ σ w) (hS : Stop P o.op e σ K) 
    (hn : ∀ r σ' I' μ' cv w', K r σ' → VR I' μ' w' r cv → Inv I' μ' σ' w' → Ext I I' (Blk μ σ) (Blk μ' σ') w w' → μ.le μ' → next (a.put o.dst cv) w') : o.wp P a w next Q := by
  unfold opOk at hok
  simp only [Bool.and_eq_true] at hok
  obtain ⟨-, hok⟩ := hok
  cases hop : o.op with
  | call c =>
    rw [hop] at hk hok he hS
    obtain ⟨callee, args, argTypes⟩ := c
    have hargs : ∀ x ∈ args.toList, VR I μ w (e x) (a.eval x) := fun x hx => he x (by simp only [Op.operands, Call.operands]; exact Array.mem_append_right _ (Array.mem_toList_iff.1 hx))
    have harel : ARel I μ w (args.toList.map e) (args.map a.eval) := by
      refine ⟨by simp, fun j hj => ?_⟩
      have hj' : j < args.toList.length := by simpa using hj
      refine ⟨a.eval args.toList[j], ?_, ?_⟩
      · have : j < args.size := by simpa using hj'
        simp [this]
      · rw [lst_map _ _ hj']; exact hargs _ (List.getElem_mem _)
    cases callee with
    | value f =>
      cases f with
      | func g =>
        refine call_sound (args := args.toList.map e) (cargs := args.map a.eval) (fun hf => ?_) harel hinv hS hn
        simp only [execOp, hop, resolve, Deferred.ofValue, Act.eval, Sem.run_bind, Sem.run_pure, Result.andThen_ok, invoke]
        rw [run_callFunc _ hf]; simp
      | tmp t =>
        have hv := he (.tmp t) (by simp [Op.operands, Call.operands])
        simp only [Stop] at hS
        generalize e (.tmp t) = v at *
        cases v with
        | fnF g n caps =>
          obtain ⟨-, cs, hcs, hn', hcap⟩ := hv
          have hcs := Option.some.inj hcs
          refine call_sound (g := g) (args := args.toList.map e ++ (List.range n).map caps) (cargs := args.map a.eval ++ cs) (fun hf => ?_) ?_ hinv hS hn
          · simp only [execOp, hop, resolve, hcs, Deferred.ofValue, Sem.run_bind, Sem.run_pure, Result.andThen_ok, invoke]
            rw [run_callFunc _ hf]; simp
          · refine ⟨by simp [hn'], fun j hj => ?_⟩
            rw [lst_append]
            by_cases hjl : j < (args.toList.map e).length
            · rw [if_pos hjl]
              obtain ⟨x, hx, hr⟩ := harel.2 j hjl
              refine ⟨x, ?_, hr⟩
              rw [Array.getElem?_append_left (by have := harel.1; omega)]; exact hx
            · rw [if_neg hjl]
              have hlen : (args.toList.map e).length = (args.map a.eval).size := harel.1.symm
              have hjn : j - (args.toList.map e).length < n := by simp at hj; simp at hjl ⊢; omega
              obtain ⟨h1, h2⟩ := hcap _ hjn
              rw [lst_range _ _ _ hjn]
              obtain ⟨x, hx, -⟩ := LR_leaf h1 h2
              refine ⟨x, ?_, VR_of_LR h1 h2 hx⟩
              rw [Array.getElem?_append_right (by omega), ← hlen]; exact hx
        | _ => exact hS.elim
      | _ => simp at hok
    | builtin b => exact hS.elim
    | _ => exact hS.elim
  | _ => rw [hop] at hS; exact hS.elim

section
variable {N : Nat} {I0 : Nat → Prop} {μ0 : Where} {B0 : Nat → Prop} {w0 : World}
theorem reg_ok {ops : Array Oper} (h : regOk P N ops = true) {i : Nat} {o : Oper} (hi : ops[i]? = some o) :
    opOk P o.op = true ∧ (match o.dst with | some d => decide (d < N) | none => true) = true ∧ ∀ j want, o.guard = some (j, want) → ∃ oj d, ops[j]? = some oj ∧ oj.dst = some d ∧ d < N := by
  unfold regOk at h
  rw [Array.all_eq_true'] at h
  have h0 := h o (Array.mem_of_getElem? hi)
  simp only [Bool.and_eq_true] at h0
  refine ⟨h0.1.1, h0.1.2, fun j want hg => ?_⟩
  have h2 := h0.2
  rw [hg] at h2
  simp only [Option.isSome_iff_exists] at h2
  obtain ⟨d, hd⟩ := h2
  cases hj : ops[j]? with
  | none => simp [hj] at hd
  | some oj =>
    simp only [hj, Option.bind_some] at hd
    have h3 := h oj (Array.mem_of_getElem? hj)
    simp only [Bool.and_eq_true, hd, decide_eq_true_eq] at h3
    exact ⟨oj, d, rfl, hd, h3.1.2⟩
theorem dstAt_eq : ∀ (l : List Oper) (j : Nat) (o : Oper), l[j]? = some o → dstAt l j = o.dst.getD 0
  | [], j, o, h => by simp at h
  | x :: l, 0, o, h => by cases h; rfl
  | x :: l, j + 1, o, h => dstAt_eq l j o (by simpa using h)

theorem okAll_mem {g : Bool} {e : Operand → AVal} : ∀ {l : List Operand}, okAll g (l.map e) → ∀ x ∈ l, (e x).okw g
  | [], _, x, hx => by cases hx
  | y :: l, h, x, hx => by rcases List.mem_cons.1 hx with rfl | hx <;> first | exact h.1 | exact okAll_mem h.2 x hx
theorem guarded_sound {I : Nat → Prop} {μ : Where} {σ : Heap} {w : World} {e : Operand → AVal} {ρ : Operand → Value} {o : Oper} {g : Bool} (hk : kindOf o.op = .pure) (hok : opOk P o.op = true) (he : ∀ x ∈ o.op.operands, VR I μ w (e x) (ρ x)) (hinv : Inv I μ σ w) (hg : g = true)
    (hc : (gF P o.op e σ g).1) : ∃ cv, (execOp ρ o).run P w = .ok (.value cv) w ∧ VR I μ w (gF P o.op e σ g).2 cv := by
  by_cases hp : ∃ c x y, o.op = .pick c x y
  · obtain ⟨c, x, y, hop⟩ := hp
    rw [hop] at hc he ⊢
    simp only [gF] at hc ⊢
    obtain ⟨hc1, hc2⟩ := hc
    have hz := VR_okw hg hc2 (he c (by simp [Op.operands]))
    obtain ⟨cv, h1, h2⟩ := pick_sound (P := P) hz (he x (by simp [Op.operands])) (he y (by simp [Op.operands])) hc1
    refine ⟨cv, ?_, h2⟩
    have : (execOp ρ o) = (do pure (Next.value (← (do pure (if ← asBool (ρ c) then ρ x else ρ y) : Sem Value)))) := by simp [execOp, hop]
    rw [this, Sem.run_bind, h1]; rfl
  · have hgF : gF P o.op e σ g = ((pureF P o.op (fun x => (e x).strip) σ).1 ∧ okAll g (o.op.operands.toList.map e), (pureF P o.op (fun x => (e x).strip) σ).2) := by
      cases hop : o.op with
      | pick c x y => exact absurd ⟨c, x, y, hop⟩ hp
      | _ => rfl
    rw [hgF] at hc ⊢
    exact pure_sound (P := P) hk hok (fun x hx => VR_okw hg (okAll_mem hc.2 x (Array.mem_toList_iff.2 hx)) (he x hx)) hinv hc.1
theorem effF_nx (op : Op) (e : Operand → AVal) (σ : Heap) (p : Nat) : (effF P op e σ p).2.2.nx = σ.nx := by
  cases op with
  | slice t x lo hi mx =>
    cases lo with
    | some l => rfl
    | none => cases hi with
      | none => rfl
      | some h => cases mx with
        | none => rfl
        | some m => simp only [effF]; unfold cut0F; split <;> rfl
  | makeSlice t x y => simp only [effF]; unfold mkF; split <;> rfl
  | store t x y =>
    simp only [effF]
    cases e x <;> try rfl
    rename_i k sz i o
    simp only [storeF]
    cases σ.get k <;> rfl
  | call c =>
    obtain ⟨callee, args, tys⟩ := c
    cases callee with
    | builtin b =>
      cases b with
      | append =>
        simp only [effF]
        generalize e (args.getD 0 default) = x
        cases x <;> try rfl
        rename_i k e0 sz m
        simp only [appF]
        cases σ.get k <;> rfl
      | clear =>
        simp only [effF]
        generalize e (args.getD 0 default) = x
        cases x <;> try rfl
        rename_i k e0 sz m
        simp only [clearF]
        cases σ.get k <;> rfl
      | _ => rfl
    | _ => rfl
  | _ => rfl
theorem effF_bump (op : Op) (e : Operand → AVal) (σ : Heap) (p n : Nat) : effF P op e (σ.bump n) p = ((effF P op e σ p).1, (effF P op e σ p).2.1, (effF P op e σ p).2.2.bump n) := by
  have hg : ∀ k, (σ.bump n).get k = σ.get k := fun _ => rfl
  have hr : ∀ sz y, readS sz (σ.bump n) y = readS sz σ y := by intro sz y; cases y <;> rfl
  cases op with
  | slice t x lo hi mx =>
    cases lo with
    | some l => rfl
    | none => cases hi with
      | none => rfl
      | some h => cases mx with
        | none => rfl
        | some m =>
          simp only [effF]
          unfold cut0F
          split <;> rfl
  | makeSlice t x y =>
    simp only [effF]
    unfold mkF
    split <;> rfl
  | store t x y =>
    simp only [effF]
    cases e x <;> try rfl
    rename_i k sz i o
    simp only [storeF, hg]
    cases σ.get k <;> rfl
  | call c =>
    obtain ⟨callee, args, tys⟩ := c
    cases callee with
    | builtin b =>
      cases b with
      | append =>
        simp only [effF]
        generalize e (args.getD 0 default) = x
        cases x <;> try rfl
        rename_i k e0 sz m
        simp only [appF, hr, hg]
        cases σ.get k <;> rfl
      | clear =>
        simp only [effF]
        generalize e (args.getD 0 default) = x
        cases x <;> try rfl
        rename_i k e0 sz m
        simp only [clearF, hg]
        cases σ.get k <;> rfl
      | _ => rfl
    | _ => rfl
  | _ => rfl
theorem qstop_sound {I : Nat → Prop} {μ : Where} {σ : Heap} {w : World} {o : Oper} {a : Act} {next : Act → World → Prop} {Q : Exit → Act → World → Prop} {e : Operand → AVal} {r : AVal}
    (hok : opOk P o.op = true) (he : ∀ x ∈ o.op.operands, VR I μ w (e x) (a.eval x)) (hinv : Inv I μ σ w) (hS : QStop P o.op e σ r)
    (hn : ∀ I' cv w', VR I' μ w' r cv → Inv I' μ σ w' → Ext I I' (Blk μ σ) (Blk μ σ) w w' → next (a.put o.dst cv) w') : o.wp P a w next Q := by
  -- a call of the other kind, with what holds behind it
  have key : ∀ (g : FuncId) (args : List AVal) (cargs : Array Value), QCalls P g args σ r → (fnOk P g = true → (execOp a.eval o).run P w = .ok (.enter g cargs) w) → ARel I μ w args cargs → o.wp P a w next Q := by
    intro g args cargs h hrun hA
    unfold Oper.wp
    rw [hrun h.1, Oper.upon_enter]
    refine (h.2 σ I μ w cargs (fun _ _ h => h) hinv hA).mono ?_
    rintro e w' ⟨cv, I', rfl, hv, hi, hx⟩
    exact hn I' cv w' (VR_mono (fun _ h => h) (fun _ _ h => by cases h) (fun _ _ => rfl) _ _ hv) hi hx
  unfold opOk at hok
  simp only [Bool.and_eq_true] at hok
  obtain ⟨-, hok⟩ := hok
  cases hop : o.op with
  | call c =>
    rw [hop] at hok he hS
    obtain ⟨callee, args, argTypes⟩ := c
    have hargs : ∀ x ∈ args.toList, VR I μ w (e x) (a.eval x) := fun x hx => he x (by simp only [Op.operands, Call.operands]; exact Array.mem_append_right _ (Array.mem_toList_iff.1 hx))
    have harel : ARel I μ w (args.toList.map e) (args.map a.eval) := by
      refine ⟨by simp, fun j hj => ?_⟩
      have hj' : j < args.toList.length := by simpa using hj
      refine ⟨a.eval args.toList[j], ?_, ?_⟩
      · have : j < args.size := by simpa using hj'
        simp [this]
      · rw [lst_map _ _ hj']; exact hargs _ (List.getElem_mem _)
    cases callee with
    | value f =>
      cases f with
      | func g =>
        refine key g (args.toList.map e) (args.map a.eval) hS (fun hf => ?_) harel
        simp only [execOp, hop, resolve, Deferred.ofValue, Act.eval, Sem.run_bind, Sem.run_pure, Result.andThen_ok, invoke]
        rw [run_callFunc _ hf]; simp
      | tmp t =>
        have hv := he (.tmp t) (by simp [Op.operands, Call.operands])
        simp only [QStop] at hS
        generalize e (.tmp t) = v at *
        cases v with
        | fnF g n caps =>
          obtain ⟨-, cs, hcs, hn', hcap⟩ := hv
          have hcs := Option.some.inj hcs
          refine key g (args.toList.map e ++ (List.range n).map caps) (args.map a.eval ++ cs) hS (fun hf => ?_) ?_
          · simp only [execOp, hop, resolve, hcs, Deferred.ofValue, Sem.run_bind, Sem.run_pure, Result.andThen_ok, invoke]
            rw [run_callFunc _ hf]; simp
          · refine ⟨by simp [hn'], fun j hj => ?_⟩
            rw [lst_append]
            by_cases hjl : j < (args.toList.map e).length
            · rw [if_pos hjl]
              obtain ⟨x, hx, hr⟩ := harel.2 j hjl
              refine ⟨x, ?_, hr⟩
              rw [Array.getElem?_append_left (by have := harel.1; omega)]; exact hx
            · rw [if_neg hjl]
              have hlen : (args.toList.map e).length = (args.map a.eval).size := harel.1.symm
              have hjn : j - (args.toList.map e).length < n := by simp at hj; simp at hjl ⊢; omega
              obtain ⟨h1, h2⟩ := hcap _ hjn
              rw [lst_range _ _ _ hjn]
              obtain ⟨x, hx, -⟩ := LR_leaf h1 h2
              refine ⟨x, ?_, VR_of_LR h1 h2 hx⟩
              rw [Array.getElem?_append_right (by omega), ← hlen]; exact hx
        | _ => exact hS.elim
      | _ => simp at hok
    | _ => exact hS.elim
  | _ => rw [hop] at hS; exact hS.elim
end
end Go.Nw
