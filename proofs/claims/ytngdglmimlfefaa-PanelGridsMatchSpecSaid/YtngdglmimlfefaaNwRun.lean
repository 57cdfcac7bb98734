/- The abstract walk, part 7: regions and code. -/
import Derived.Test.YtngdglmimlfefaaNwApp
import Derived.Orders
namespace Go.Nw
set_option linter.unusedVariables false
set_option linter.unusedSimpArgs false
variable {P : Program}

def TR (I : Nat → Prop) (μ : Where) (w : World) (τ : Slots) (tmps : Array Value) : Prop := ∀ i, VR I μ w (τ.get i) (tmps.getD i undef)
/-- What holds of a frame and the world, begun at I0, μ0, B0, w0. -/
def St (N : Nat) (I0 : Nat → Prop) (μ0 : Where) (B0 : Nat → Prop) (w0 : World) (τ : Slots) (σ : Heap) (a : Act) (w : World) : Prop :=
  ∃ I μ, Inv I μ σ w ∧ TR I μ w τ a.tmps ∧ Ext I0 I B0 (Blk μ σ) w0 w ∧ a.tmps.size = N ∧ a.defers = [] ∧ μ0.le μ
/-- The same, within a region: n names are taken, those of U not used yet. -/
def StG (n : Nat) (U : Nat → Prop) (N : Nat) (I0 : Nat → Prop) (μ0 : Where) (B0 : Nat → Prop) (w0 : World) (τ : Slots) (σ : Heap) (a : Act) (w : World) : Prop :=
  ∃ I μ, Inv I μ (σ.bump n) w ∧ TR I μ w τ a.tmps ∧ Ext I0 I B0 (Blk μ σ) w0 w ∧ a.tmps.size = N ∧ a.defers = [] ∧ μ0.le μ ∧ ∀ d, U d → d < n ∧ μ (σ.nx + d, 0) = none
/-- the static look at a region -/
def regOk (P : Program) (N : Nat) (ops : Array Oper) : Bool :=
  ops.all fun o => opOk P o.op && (match o.dst with | some d => decide (d < N) | none => true) && (match o.guard with | some (j, _) => ((ops[j]?).bind (·.dst)).isSome | none => true)

section
variable {N : Nat} {I0 : Nat → Prop} {μ0 : Where} {B0 : Nat → Prop} {w0 : World}
theorem call_mono {f : FuncId} {args : List AVal} {σ : Heap} {K K' : AVal → Heap → Prop} (h : CallTo P f args σ K) (hk : ∀ r σ', K r σ' → K' r σ') : CallTo P f args σ K' :=
  let ⟨R, h1, h2⟩ := h; ⟨R, h1, fun r σ' hr => hk r σ' (h2 r σ' hr)⟩
theorem stop_mono {op : Op} {e : Operand → AVal} {σ : Heap} {K K' : AVal → Heap → Prop} (h : Stop P op e σ K) (hk : ∀ r σ', K r σ' → K' r σ') : Stop P op e σ K' := by
  unfold Stop at h ⊢
  split at h
  · exact call_mono h hk
  · unfold CallV at h ⊢
    split at h
    · exact call_mono h hk
    · exact h.elim
  · exact h.elim
theorem run_stps {q : Bool} {all : List Oper} {K : Slots → Heap → Prop} : ∀ (ops : List Oper) (τ : Slots) (σ : Heap) (c : Prop), Run P q all ops τ σ c K → c ∧ Stps P q all ops τ σ K
  | [], τ, σ, c, h => h
  | o :: rest, τ, σ, c, h => by
    have ih := run_stps (q := q) (all := all) (K := K) rest
    unfold Run at h
    unfold Stps Stp
    split at h
    · split at h
      · obtain ⟨h1, h2⟩ := ih _ _ _ h; exact ⟨h1.1, h1.2, h2⟩
      · split at h
        · obtain ⟨h1, h2⟩ := ih _ _ _ h; exact ⟨h1.1, h1.2, h2⟩
        · obtain ⟨h1, h2⟩ := ih _ _ _ h; exact ⟨h1.1, h1.2, h2⟩
      · split at h
        · obtain ⟨h1, r, h2, h3⟩ := h; exact ⟨h1, r, h2, (ih _ _ _ h3).2⟩
        · exact ⟨h.1, stop_mono h.2 fun r σ' hr => (ih _ _ _ hr).2⟩
    · split at h
      · split at h
        · obtain ⟨h1, h2⟩ := ih _ _ _ h; exact ⟨h1.1, h1.2, h2⟩
        · obtain ⟨h1, r, h2, h3⟩ := h; exact ⟨h1, r, h2, ih _ _ _ h3⟩
        · exact h.elim
      · exact h.elim
theorem TR.put {I : Nat → Prop} {μ : Where} {w : World} {τ : Slots} {a : Act} {d : Option Nat} {v : AVal} {cv : Value} (hN : a.tmps.size = N) (hd : (match d with | some d => decide (d < N) | none => true) = true)
    (h : TR I μ w τ a.tmps) (hv : VR I μ w v cv) : TR I μ w (putd τ d v) (a.put d cv).tmps := by
  cases d with
  | none => exact h
  | some d =>
    have hd' : d < N := by simpa using hd
    intro i
    simp only [putd, Slots.get, Act.put]
    by_cases hi : i = d
    · subst hi
      rw [if_pos rfl]
      have : (a.tmps.setIfInBounds i cv).getD i undef = cv := by simp [Array.getD_eq_getD_getElem?, hN, hd']
      rw [this]; exact hv
    · rw [if_neg hi]
      have : (a.tmps.setIfInBounds d cv).getD i undef = a.tmps.getD i undef := by
        simp only [Array.getD_eq_getD_getElem?]; rw [Array.getElem?_setIfInBounds_ne (fun h => hi h.symm)]
      rw [this]; exact h i
theorem TR.mono {I I' : Nat → Prop} {μ μ' : Where} {w w' : World} {τ : Slots} {tmps : Array Value} (hI : ∀ b, I b → I' b) (hm : μ.le μ') (hw : ∀ b, I b → w'.heap[b]? = w.heap[b]?) (h : TR I μ w τ tmps) : TR I' μ' w' τ tmps :=
  fun i => VR_mono hI hm hw _ _ (h i)
theorem put_size {a : Act} {d : Option Nat} {v : Value} : (a.put d v).tmps.size = a.tmps.size ∧ (a.put d v).defers = a.defers := by
  cases d <;> simp [Act.put]
theorem TR.ev {I : Nat → Prop} {μ : Where} {w : World} {τ : Slots} {a : Act} (h : TR I μ w τ a.tmps) {x : Operand} (hx : opdOk x = true) : VR I μ w (ev τ x) (a.eval x) := by
  cases x with
  | tmp t => exact h t
  | const v =>
    simp only [Nw.ev, Act.eval]
    by_cases ha : ∃ cs, v = .agg cs
    · obtain ⟨cs, rfl⟩ := ha
      obtain ⟨h1, h2, -⟩ := const_cells (I := I) (μ := μ) (w := w) (z := .agg cs) hx
      exact ⟨cs, rfl, rfl, h2⟩
    · have ho : ofConst v = leafC v := by cases v <;> first | rfl | exact absurd ⟨_, rfl⟩ ha
      rw [ho]
      unfold leafC
      split <;> first | trivial | exact ⟨rfl, rfl⟩
  | global g => simp [opdOk] at hx
  | func f => exact ⟨rfl, #[], rfl, rfl, fun j hj => by simp [fn, lst] at hj⟩
end

theorem run_callFunc {g : FuncId} {w : World} (args : Array Value) (h : fnOk P g = true) : (callFunc g args).run P w = .ok (.enter g args) w := by
  unfold fnOk at h
  split at h
  · rename_i fn hf
    simp only [Bool.and_eq_true, bne_iff_ne, ne_eq] at h
    have h1 : fn.body.isNone = false := by cases hb : fn.body <;> simp_all
    simp [callFunc, hf, h.2]
    intro hb; simp [hb] at h1
  · cases h

theorem lst_map {e : Operand → AVal} : ∀ (l : List Operand) (j : Nat) (h : j < l.length), lst (l.map e) j = e l[j]
  | [], j, h => by simp at h
  | x :: l, 0, h => rfl
  | x :: l, j + 1, h => lst_map l j (by simpa using h)
theorem lst_append : ∀ (l m : List AVal) (j : Nat), lst (l ++ m) j = if j < l.length then lst l j else lst m (j - l.length)
  | [], m, j => by simp
  | x :: l, m, 0 => by simp [lst]
  | x :: l, m, j + 1 => by simp only [List.cons_append, lst, List.length_cons]; rw [lst_append l m j]; simp only [Nat.add_lt_add_iff_right, Nat.add_sub_add_right]
theorem lst_range (f : Nat → AVal) (n j : Nat) (h : j < n) : lst ((List.range n).map f) j = f j := by
  have : ∀ (l : List Nat) (j : Nat) (h : j < l.length), lst (l.map f) j = f l[j] := by
    intro l
    induction l with
    | nil => intro j h; simp at h
    | cons x l ih => intro j h; cases j with
      | zero => rfl
      | succ j => exact ih j (by simpa using h)
  rw [this _ _ (by simpa using h)]; simp

theorem call_sound {I : Nat → Prop} {μ : Where} {σ : Heap} {w : World} {o : Oper} {a : Act} {next : Act → World → Prop} {Q : Exit → Act → World → Prop} {g : FuncId} {args : List AVal} {cargs : Array Value} {K : AVal → Heap → Prop}
    (hrun : fnOk P g = true → (execOp a.eval o).run P w = .ok (.enter g cargs) w) (hA : ARel I μ w args cargs) (hinv : Inv I μ σ w) (hS : CallTo P g args σ K)
    (hn : ∀ r σ' I' μ' cv w', K r σ' → VR I' μ' w' r cv → Inv I' μ' σ' w' → Ext I I' (Blk μ σ) (Blk μ' σ') w w' → μ.le μ' → next (a.put o.dst cv) w') : o.wp P a w next Q := by
  obtain ⟨R, ⟨hf, hR⟩, hK⟩ := hS
  unfold Oper.wp
  rw [hrun hf, Oper.upon_enter]
  refine (hR I μ w cargs hinv hA).mono ?_
  rintro e w' ⟨cv, r, σ', I', μ', rfl, hr, hv, hi, hx, hm⟩
  exact hn r σ' I' μ' cv w' (hK r σ' hr) hv hi hx hm

theorem stop_sound {I : Nat → Prop} {μ : Where} {σ : Heap} {w : World} {o : Oper} {a : Act} {next : Act → World → Prop} {Q : Exit → Act → World → Prop} {e : Operand → AVal} {K : AVal → Heap → Prop}
    (hk : kindOf o.op = .call) (hok : opOk P o.op = true) (he : ∀ x ∈ o.op.operands, VR I μ w (e x) (a.eval x)) (hinv : Inv I μ σ w) (hS : Stop P o.op e σ K) 
    (hn : ∀ r σ' I' μ' cv w', K r σ' → VR I' μ' w' r cv → Inv I' μ' σ' w' → Ext I I' (Blk μ σ) (Blk μ' σ') w w' → μ.le μ' → next (a.put o.dst cv) w') : o.wp P a w next Q := by
  unfold opOk at hok
  simp only [Bool.and_eq_true] at hok
  obtain ⟨-, hok⟩ := hok
  cases hop : o.op with
  | call c =>
    rw [hop] at hk hok he hS
    obtain ⟨callee, args, argTypes⟩ := c
    have hargs : ∀ x ∈ args.toList, VR I μ w (e x) (a.eval x) := fun x hx => he x (by simp only [Op.operands, Call.operands]; exact Array.mem_append_right _ (Array.mem_toList_iff.1 hx))
    have harel : ARel I μ w (args.toList.map e) (args.map a.eval) := by
      refine ⟨by simp, fun j hj => ?_⟩
      have hj' : j < args.toList.length := by simpa using hj
      refine ⟨a.eval args.toList[j], ?_, ?_⟩
      · have : j < args.size := by simpa using hj'
        simp [this]
      · rw [lst_map _ _ hj']; exact hargs _ (List.getElem_mem _)
    cases callee with
    | value f =>
      cases f with
      | func g =>
        refine call_sound (args := args.toList.map e) (cargs := args.map a.eval) (fun hf => ?_) harel hinv hS hn
        simp only [execOp, hop, resolve, Deferred.ofValue, Act.eval, Sem.run_bind, Sem.run_pure, Result.andThen_ok, invoke]
        rw [run_callFunc _ hf]; simp
      | tmp t =>
        have hv := he (.tmp t) (by simp [Op.operands, Call.operands])
        simp only [Stop] at hS
        generalize e (.tmp t) = v at *
        cases v with
        | fnF g n caps =>
          obtain ⟨-, cs, hcs, hn', hcap⟩ := hv
          have hcs := Option.some.inj hcs
          refine call_sound (g := g) (args := args.toList.map e ++ (List.range n).map caps) (cargs := args.map a.eval ++ cs) (fun hf => ?_) ?_ hinv hS hn
          · simp only [execOp, hop, resolve, hcs, Deferred.ofValue, Sem.run_bind, Sem.run_pure, Result.andThen_ok, invoke]
            rw [run_callFunc _ hf]; simp
          · refine ⟨by simp [hn'], fun j hj => ?_⟩
            rw [lst_append]
            by_cases hjl : j < (args.toList.map e).length
            · rw [if_pos hjl]
              obtain ⟨x, hx, hr⟩ := harel.2 j hjl
              refine ⟨x, ?_, hr⟩
              rw [Array.getElem?_append_left (by have := harel.1; omega)]; exact hx
            · rw [if_neg hjl]
              have hlen : (args.toList.map e).length = (args.map a.eval).size := harel.1.symm
              have hjn : j - (args.toList.map e).length < n := by simp at hj; simp at hjl ⊢; omega
              obtain ⟨h1, h2⟩ := hcap _ hjn
              rw [lst_range _ _ _ hjn]
              obtain ⟨x, hx, -⟩ := LR_leaf h1 h2
              refine ⟨x, ?_, VR_of_LR h1 h2 hx⟩
              rw [Array.getElem?_append_right (by omega), ← hlen]; exact hx
        | _ => exact hS.elim
      | _ => simp at hok
    | builtin b => exact hS.elim
    | _ => exact hS.elim
  | _ => rw [hop] at hS; exact hS.elim

section
variable {N : Nat} {I0 : Nat → Prop} {μ0 : Where} {B0 : Nat → Prop} {w0 : World}
theorem reg_ok {ops : Array Oper} (h : regOk P N ops = true) {i : Nat} {o : Oper} (hi : ops[i]? = some o) :
    opOk P o.op = true ∧ (match o.dst with | some d => decide (d < N) | none => true) = true ∧ ∀ j want, o.guard = some (j, want) → ∃ oj d, ops[j]? = some oj ∧ oj.dst = some d ∧ d < N := by
  unfold regOk at h
  rw [Array.all_eq_true'] at h
  have h0 := h o (Array.mem_of_getElem? hi)
  simp only [Bool.and_eq_true] at h0
  refine ⟨h0.1.1, h0.1.2, fun j want hg => ?_⟩
  have h2 := h0.2
  rw [hg] at h2
  simp only [Option.isSome_iff_exists] at h2
  obtain ⟨d, hd⟩ := h2
  cases hj : ops[j]? with
  | none => simp [hj] at hd
  | some oj =>
    simp only [hj, Option.bind_some] at hd
    have h3 := h oj (Array.mem_of_getElem? hj)
    simp only [Bool.and_eq_true, hd, decide_eq_true_eq] at h3
    exact ⟨oj, d, rfl, hd, h3.1.2⟩
theorem dstAt_eq : ∀ (l : List Oper) (j : Nat) (o : Oper), l[j]? = some o → dstAt l j = o.dst.getD 0
  | [], j, o, h => by simp at h
  | x :: l, 0, o, h => by cases h; rfl
  | x :: l, j + 1, o, h => dstAt_eq l j o (by simpa using h)

theorem okAll_mem {g : Bool} {e : Operand → AVal} : ∀ {l : List Operand}, okAll g (l.map e) → ∀ x ∈ l, (e x).okw g
  | [], _, x, hx => by cases hx
  | y :: l, h, x, hx => by rcases List.mem_cons.1 hx with rfl | hx <;> first | exact h.1 | exact okAll_mem h.2 x hx
theorem guarded_sound {I : Nat → Prop} {μ : Where} {σ : Heap} {w : World} {e : Operand → AVal} {ρ : Operand → Value} {o : Oper} {g : Bool} (hk : kindOf o.op = .pure) (hok : opOk P o.op = true) (he : ∀ x ∈ o.op.operands, VR I μ w (e x) (ρ x)) (hinv : Inv I μ σ w) (hg : g = true)
    (hc : (gF P o.op e σ g).1) : ∃ cv, (execOp ρ o).run P w = .ok (.value cv) w ∧ VR I μ w (gF P o.op e σ g).2 cv := by
  by_cases hp : ∃ c x y, o.op = .pick c x y
  · obtain ⟨c, x, y, hop⟩ := hp
    rw [hop] at hc he ⊢
    simp only [gF] at hc ⊢
    obtain ⟨hc1, hc2⟩ := hc
    have hz := VR_okw hg hc2 (he c (by simp [Op.operands]))
    obtain ⟨cv, h1, h2⟩ := pick_sound (P := P) hz (he x (by simp [Op.operands])) (he y (by simp [Op.operands])) hc1
    refine ⟨cv, ?_, h2⟩
    have : (execOp ρ o) = (do pure (Next.value (← (do pure (if ← asBool (ρ c) then ρ x else ρ y) : Sem Value)))) := by simp [execOp, hop]
    rw [this, Sem.run_bind, h1]; rfl
  · have hgF : gF P o.op e σ g = ((pureF P o.op (fun x => (e x).strip) σ).1 ∧ okAll g (o.op.operands.toList.map e), (pureF P o.op (fun x => (e x).strip) σ).2) := by
      cases hop : o.op with
      | pick c x y => exact absurd ⟨c, x, y, hop⟩ hp
      | _ => rfl
    rw [hgF] at hc ⊢
    exact pure_sound (P := P) hk hok (fun x hx => VR_okw hg (okAll_mem hc.2 x (Array.mem_toList_iff.2 hx)) (he x hx)) hinv hc.1
theorem effF_nx (op : Op) (e : Operand → AVal) (σ : Heap) (p : Nat) : (effF P op e σ p).2.2.nx = σ.nx := by
  cases op with
  | slice t x lo hi mx =>
    cases lo with
    | some l => rfl
    | none => cases hi with
      | none => rfl
      | some h => cases mx with
        | none => rfl
        | some m => simp only [effF]; unfold cut0F; split <;> rfl
  | makeSlice t x y => simp only [effF]; unfold mkF; split <;> rfl
  | store t x y =>
    simp only [effF]
    cases e x <;> try rfl
    rename_i k sz i o
    simp only [storeF]
    cases σ.get k <;> rfl
  | call c =>
    obtain ⟨callee, args, tys⟩ := c
    cases callee with
    | builtin b =>
      cases b with
      | append =>
        simp only [effF]
        generalize e (args.getD 0 default) = x
        cases x <;> try rfl
        rename_i k e0 sz m
        simp only [appF]
        cases σ.get k <;> rfl
      | clear =>
        simp only [effF]
        generalize e (args.getD 0 default) = x
        cases x <;> try rfl
        rename_i k e0 sz m
        simp only [clearF]
        cases σ.get k <;> rfl
      | _ => rfl
    | _ => rfl
  | _ => rfl
theorem effF_bump (op : Op) (e : Operand → AVal) (σ : Heap) (p n : Nat) : effF P op e (σ.bump n) p = ((effF P op e σ p).1, (effF P op e σ p).2.1, (effF P op e σ p).2.2.bump n) := by
  have hg : ∀ k, (σ.bump n).get k = σ.get k := fun _ => rfl
  have hr : ∀ sz y, readS sz (σ.bump n) y = readS sz σ y := by intro sz y; cases y <;> rfl
  cases op with
  | slice t x lo hi mx =>
    cases lo with
    | some l => rfl
    | none => cases hi with
      | none => rfl
      | some h => cases mx with
        | none => rfl
        | some m =>
          simp only [effF]
          unfold cut0F
          split <;> rfl
  | makeSlice t x y =>
    simp only [effF]
    unfold mkF
    split <;> rfl
  | store t x y =>
    simp only [effF]
    cases e x <;> try rfl
    rename_i k sz i o
    simp only [storeF, hg]
    cases σ.get k <;> rfl
  | call c =>
    obtain ⟨callee, args, tys⟩ := c
    cases callee with
    | builtin b =>
      cases b with
      | append =>
        simp only [effF]
        generalize e (args.getD 0 default) = x
        cases x <;> try rfl
        rename_i k e0 sz m
        simp only [appF, hr, hg]
        cases σ.get k <;> rfl
      | clear =>
        simp only [effF]
        generalize e (args.getD 0 default) = x
        cases x <;> try rfl
        rename_i k e0 sz m
        simp only [clearF, hg]
        cases σ.get k <;> rfl
      | _ => rfl
    | _ => rfl
  | _ => rfl
theorem qstop_sound {I : Nat → Prop} {μ : Where} {σ : Heap} {w : World} {o : Oper} {a : Act} {next : Act → World → Prop} {Q : Exit → Act → World → Prop} {e : Operand → AVal} {r : AVal}
    (hok : opOk P o.op = true) (he : ∀ x ∈ o.op.operands, VR I μ w (e x) (a.eval x)) (hinv : Inv I μ σ w) (hS : QStop P o.op e σ r)
    (hn : ∀ I' cv w', VR I' μ w' r cv → Inv I' μ σ w' → Ext I I' (Blk μ σ) (Blk μ σ) w w' → next (a.put o.dst cv) w') : o.wp P a w next Q := by
  -- a call of the other kind, with what holds behind it
  have key : ∀ (g : FuncId) (args : List AVal) (cargs : Array Value), QCalls P g args σ r → (fnOk P g = true → (execOp a.eval o).run P w = .ok (.enter g cargs) w) → ARel I μ w args cargs → o.wp P a w next Q := by
    intro g args cargs h hrun hA
    unfold Oper.wp
    rw [hrun h.1, Oper.upon_enter]
    refine (h.2 σ I μ w cargs (fun _ _ h => h) hinv hA).mono ?_
    rintro e w' ⟨cv, I', rfl, hv, hi, hx⟩
    exact hn I' cv w' (VR_mono (fun _ h => h) (fun _ _ h => by cases h) (fun _ _ => rfl) _ _ hv) hi hx
  unfold opOk at hok
  simp only [Bool.and_eq_true] at hok
  obtain ⟨-, hok⟩ := hok
  cases hop : o.op with
  | call c =>
    rw [hop] at hok he hS
    obtain ⟨callee, args, argTypes⟩ := c
    have hargs : ∀ x ∈ args.toList, VR I μ w (e x) (a.eval x) := fun x hx => he x (by simp only [Op.operands, Call.operands]; exact Array.mem_append_right _ (Array.mem_toList_iff.1 hx))
    have harel : ARel I μ w (args.toList.map e) (args.map a.eval) := by
      refine ⟨by simp, fun j hj => ?_⟩
      have hj' : j < args.toList.length := by simpa using hj
      refine ⟨a.eval args.toList[j], ?_, ?_⟩
      · have : j < args.size := by simpa using hj'
        simp [this]
      · rw [lst_map _ _ hj']; exact hargs _ (List.getElem_mem _)
    cases callee with
    | value f =>
      cases f with
      | func g =>
        refine key g (args.toList.map e) (args.map a.eval) hS (fun hf => ?_) harel
        simp only [execOp, hop, resolve, Deferred.ofValue, Act.eval, Sem.run_bind, Sem.run_pure, Result.andThen_ok, invoke]
        rw [run_callFunc _ hf]; simp
      | tmp t =>
        have hv := he (.tmp t) (by simp [Op.operands, Call.operands])
        simp only [QStop] at hS
        generalize e (.tmp t) = v at *
        cases v with
        | fnF g n caps =>
          obtain ⟨-, cs, hcs, hn', hcap⟩ := hv
          have hcs := Option.some.inj hcs
          refine key g (args.toList.map e ++ (List.range n).map caps) (args.map a.eval ++ cs) hS (fun hf => ?_) ?_
          · simp only [execOp, hop, resolve, hcs, Deferred.ofValue, Sem.run_bind, Sem.run_pure, Result.andThen_ok, invoke]
            rw [run_callFunc _ hf]; simp
          · refine ⟨by simp [hn'], fun j hj => ?_⟩
            rw [lst_append]
            by_cases hjl : j < (args.toList.map e).length
            · rw [if_pos hjl]
              obtain ⟨x, hx, hr⟩ := harel.2 j hjl
              refine ⟨x, ?_, hr⟩
              rw [Array.getElem?_append_left (by have := harel.1; omega)]; exact hx
            · rw [if_neg hjl]
              have hlen : (args.toList.map e).length = (args.map a.eval).size := harel.1.symm
              have hjn : j - (args.toList.map e).length < n := by simp at hj; simp at hjl ⊢; omega
              obtain ⟨h1, h2⟩ := hcap _ hjn
              rw [lst_range _ _ _ hjn]
              obtain ⟨x, hx, -⟩ := LR_leaf h1 h2
              refine ⟨x, ?_, VR_of_LR h1 h2 hx⟩
              rw [Array.getElem?_append_right (by omega), ← hlen]; exact hx
        | _ => exact hS.elim
      | _ => simp at hok
    | _ => exact hS.elim
  | _ => rw [hop] at hS; exact hS.elim

theorem op_sound {q : Bool} {n : Nat} {U : Nat → Prop} {ops : Array Oper} {Q : Exit → Act → World → Prop} {K : Slots → Heap → Prop} (hok : regOk P N ops = true) {i : Nat} (hi : i < ops.size)
    {τ : Slots} {σ : Heap} {a : Act} {w : World} (h : Stp P q ops.toList (ops.getD i default) τ σ K) (hS : StG n U N I0 μ0 B0 w0 τ σ a w) (hq1 : q = true → n = lim ∧ (namer (ops.getD i default) = true → U ((ops.getD i default).dst.getD 0))) (hq0 : q = false → n = 0 ∧ ∀ d, ¬ U d) :
    wpOp P ops Q i (fun a w => ∃ τ σ, K τ σ ∧ StG n (fun x => U x ∧ ¬ (namer (ops.getD i default) = true ∧ (ops.getD i default).dst.getD 0 = x)) N I0 μ0 B0 w0 τ σ a w) a w := by
  have hio : ops[i]? = some ops[i] := Array.getElem?_eq_getElem hi
  obtain ⟨ho1, ho2, ho3⟩ := reg_ok hok hio
  have hgd : ops.getD i default = ops[i] := by simp [hi]
  obtain ⟨I, μ, hinv, hT, hX, hN, hD, hM, hU⟩ := hS
  rw [hgd] at h hq1 ⊢
  generalize ops[i] = o at *
  have hops : ∀ x ∈ o.op.operands, opdOk x = true := by
    unfold opOk at ho1
    simp only [Bool.and_eq_true, Array.all_eq_true'] at ho1
    exact ho1.1
  have hev : ∀ x ∈ o.op.operands, VR I μ w (ev τ x) (a.eval x) := fun x hx => hT.ev (hops x hx)
  have hstep : ∀ (v : AVal) (cv : Value) (σ' : Heap) (I' : Nat → Prop) (μ' : Where) (w' : World), VR I' μ' w' v cv → Inv I' μ' (σ'.bump n) w' → Ext I I' (Blk μ σ) (Blk μ' σ') w w' → μ.le μ' →
      (∀ x, U x → ¬ (namer o = true ∧ o.dst.getD 0 = x) → x < n ∧ μ' (σ'.nx + x, 0) = none) →
      K (putd τ o.dst v) σ' → ∃ τ σ, K τ σ ∧ StG n (fun x => U x ∧ ¬ (namer o = true ∧ o.dst.getD 0 = x)) N I0 μ0 B0 w0 τ σ (a.put o.dst cv) w' := by
    intro v cv σ' I' μ' w' hv hi' hx hm hu hr
    exact ⟨_, _, hr, I', μ', hi', (hT.mono hx.imm hm (fun b hb => hx.old b (hinv.imm b hb).1 (hinv.imm b hb).2)).put hN ho2 hv, hX.trans hx, by rw [put_size.1]; exact hN, by rw [put_size.2]; exact hD, Where.le_trans hM hm, fun d hd => hu d hd.1 hd.2⟩
  have hUs : ∀ x, U x → ¬ (namer o = true ∧ o.dst.getD 0 = x) → x < n ∧ μ (σ.nx + x, 0) = none := fun x hx _ => hU x hx
  simp only [wpOp, hio]
  unfold Stp at h
  cases hg : o.guard with
  | none =>
    simp only [hg] at h
    have hw : Region.wanted o (yielded ops a.tmps) = true := by simp [Region.wanted, hg]
    rw [if_pos hw]
    refine .inl ?_
    cases hk : kindOf o.op with
    | pure =>
      simp only [hk] at h
      obtain ⟨cv, hrun, hv⟩ := pure_sound (P := P) hk ho1 hev hinv h.1
      unfold Oper.wp
      rw [hrun, Oper.upon_value]
      exact hstep _ _ _ _ _ _ hv hinv (Ext.refl _ _ _) (Where.le_refl μ) hUs h.2
    | eff =>
      simp only [hk] at h
      have hnm : isStore o.op = false → namer o = true := by
        intro hs
        unfold namer cls; rw [hk, hs]; simp only; split <;> rfl
      by_cases hst : q = true ∧ isStore o.op = true
      · obtain ⟨rfl, hst⟩ := hst
        obtain ⟨rfl, -⟩ := hq1 rfl
        obtain ⟨t, x, y, hop⟩ : ∃ t x y, o.op = .store t x y := by
          cases ho : o.op <;> rw [ho] at hst <;> first | exact ⟨_, _, _, rfl⟩ | cases hst
        unfold opOk at ho1
        rw [hop] at ho1 hev h
        rw [Bool.and_eq_true] at ho1
        obtain ⟨w', hrun, hi', hx⟩ := store_sound (P := P) (e := ev τ) (ρ := a.eval) (σ := σ.bump lim) ho1.2 (hev x (by simp [Op.operands])) (hev y (by simp [Op.operands])) hinv (by
          have := effF_bump (P := P) (.store t x y) (ev τ) σ (σ.nx + o.dst.getD 0) lim
          have h2 : (effF P (.store t x y) (ev τ) (σ.bump lim) (σ.nx + o.dst.getD 0)).1 := by rw [this]; exact h.1
          exact h2)
        have hb := effF_bump (P := P) (.store t x y) (ev τ) σ (σ.nx + o.dst.getD 0) lim
        have hb2 : (storeF (szT P t) (σ.bump lim) (ev τ x) (ev τ y)).2 = ((storeF (szT P t) σ (ev τ x) (ev τ y)).2).bump lim := congrArg (fun z => z.2.2) hb
        rw [hb2] at hi' hx
        have hnx := effF_nx (P := P) (.store t x y) (ev τ) σ (σ.nx + o.dst.getD 0)
        have hr : (execOp a.eval o).run P w = .ok .skip w' := by unfold execOp; rw [hop]; simp [hrun]
        unfold Oper.wp
        rw [hr, Oper.upon_skip]
        refine hstep .undef undef _ _ _ _ trivial hi' hx (Where.le_refl μ) (fun x1 hx1 hx2 => ?_) h.2
        rw [show (storeF (szT P t) σ (ev τ x) (ev τ y)).2.nx = σ.nx from hnx]; exact hU x1 hx1
      -- the name, and how many names are taken
      obtain ⟨p, m, hp, hpm, hpn, hout⟩ : ∃ p m, (q = true → p = σ.nx + o.dst.getD 0 ∧ m = n) ∧ p < σ.nx + m ∧ μ (p, 0) = none ∧ ((q = false → p = σ.nx ∧ m = 1 ∧ n = 0) ∧ Inv I μ (σ.bump m) w) := by
        cases q with
        | true =>
          have h1 := hq1 rfl
          have h2 := hU _ (h1.2 (hnm (Bool.eq_false_iff.2 fun e => hst ⟨rfl, e⟩)))
          exact ⟨_, n, fun _ => ⟨rfl, rfl⟩, Nat.add_lt_add_left h2.1 _, h2.2, nofun, hinv⟩
        | false =>
          obtain ⟨rfl, -⟩ := hq0 rfl
          exact ⟨σ.nx, 1, nofun, Nat.lt_succ_self _, by
            cases hm : μ (σ.nx, 0) with
            | none => rfl
            | some x => exact absurd (hinv.nm _ (by rw [hm]; exact Option.some_ne_none _)) (Nat.lt_irrefl _), fun _ => ⟨rfl, rfl, rfl⟩, hinv.bump 1⟩
      obtain ⟨hp0, hinv1⟩ := hout
      have hc : (effF P o.op (ev τ) (σ.bump m) p).1 := by
        rw [effF_bump]
        cases q with
        | true => rw [(hp rfl).1]; exact h.1
        | false => rw [(hp0 rfl).1]; exact h.1
      obtain ⟨cv, w', μ', hrun, hv, hi', hx, hm⟩ := eff_sound (P := P) hk ho1 hev hinv1 hpn hpm hc
      rw [effF_bump] at hv hi' hx
      have hnx := effF_nx (P := P) o.op (ev τ) σ p
      have hfin : ∃ τ σ, K τ σ ∧ StG n (fun x => U x ∧ ¬ (namer o = true ∧ o.dst.getD 0 = x)) N I0 μ0 B0 w0 τ σ (a.put o.dst cv) w' := by
        cases q with
        | true =>
          obtain ⟨rfl, rfl⟩ := hp rfl
          refine hstep _ _ _ _ _ _ hv hi' hx hm.1 (fun x hx1 hx2 => ⟨(hU x hx1).1, ?_⟩) h.2
          rw [hnx, hm.2 (σ.nx + x, 0) (fun e => hx2 ⟨hnm (Bool.eq_false_iff.2 fun e => hst ⟨rfl, e⟩), Nat.add_left_cancel (Eq.symm e)⟩)]
          exact (hU x hx1).2
        | false =>
          obtain ⟨rfl, rfl, rfl⟩ := hp0 rfl
          exact hstep _ _ _ _ _ _ hv hi' hx hm.1 (fun x hx1 _ => absurd hx1 ((hq0 rfl).2 x)) h.2
      unfold Oper.wp
      rcases hrun with hrun | ⟨hrun, rfl⟩
      · rw [hrun, Oper.upon_value]; exact hfin
      · rw [hrun, Oper.upon_skip]; exact hfin
    | call =>
      simp only [hk] at h
      cases q with
      | true =>
        obtain ⟨r, hr, hK⟩ := h
        obtain ⟨rfl, -⟩ := hq1 rfl
        refine qstop_sound (P := P) ho1 hev hinv (hr rfl) ?_
        intro I' cv w' hv hi' hx
        exact hstep _ _ _ _ _ _ hv hi' hx (Where.le_refl μ) hUs hK
      | false =>
        obtain ⟨rfl, hu0⟩ := hq0 rfl
        refine stop_sound (P := P) hk ho1 hev (σ := σ) hinv h ?_
        intro r σ' I' μ' cv w' hK hv hi' hx hm
        exact hstep _ _ _ _ _ _ hv hi' hx hm (fun x hx1 _ => absurd hx1 (hu0 x)) hK
  | some g =>
    obtain ⟨j, want⟩ := g
    simp only [hg] at h
    obtain ⟨oj, d, hoj, hd, hdN⟩ := ho3 j want hg
    have hdst : dstAt ops.toList j = d := by rw [dstAt_eq _ j oj (by simpa using hoj), hd]; rfl
    rw [hdst] at h
    have hsl := hT d
    have hlt : d < a.tmps.size := by rw [hN]; exact hdN
    cases hgd : gdF want (τ.get d) with
    | none => simp only [hgd] at h
    | some G =>
      simp only [hgd] at h
      have hw : Region.wanted o (yielded ops a.tmps) = G := by
        have hy : ∀ t, a.tmps.getD d undef = .bool t → Region.wanted o (yielded ops a.tmps) = (t == want) := by
          intro t h1
          have h2 : a.tmps[d]? = some (.bool t) := by
            rw [Array.getElem?_eq_getElem hlt]; simp [hlt] at h1; rw [h1]
          have hy : yielded ops a.tmps j = some t := by simp [yielded, hoj, hd, h2]
          simp only [Region.wanted, hg, hy]
          cases t <;> cases want <;> rfl
        cases hv : τ.get d with
        | bool t =>
          rw [hv] at hsl hgd
          have hgd : some (t == want) = some G := hgd
          rw [hy t (Option.some.inj hsl.2)]; exact Option.some.inj hgd
        | when g v =>
          rw [hv] at hsl hgd
          cases v with
          | bool t =>
            have hgd : some (g && (t == want)) = some G := hgd
            rw [← Option.some.inj hgd]
            cases hgg : g with
            | true => rw [hy t (Option.some.inj (hsl.1 hgg).2)]; rfl
            | false =>
              have h1 := hsl.2 hgg
              have h2 : a.tmps[d]? = some undef := by
                rw [Array.getElem?_eq_getElem hlt]; simp [hlt] at h1; rw [h1]
              have hy : yielded ops a.tmps j = none := by simp [yielded, hoj, hd, h2, undef]
              simp [Region.wanted, hg, hy]
          | _ => simp [gdF] at hgd
        | _ => rw [hv] at hgd; simp [gdF] at hgd
      rw [hw]
      cases hk : kindOf o.op with
      | pure =>
        simp only [hk] at h
        by_cases ht : G = true
        · rw [if_pos ht]
          refine .inl ?_
          obtain ⟨cv, hrun, hv⟩ := guarded_sound (P := P) hk ho1 hev hinv ht (h.1 ht)
          unfold Oper.wp
          rw [hrun, Oper.upon_value]
          exact hstep (.when G _) _ _ _ _ _ ⟨fun _ => hv, fun hf => by rw [ht] at hf; cases hf⟩ hinv (Ext.refl _ _ _) (Where.le_refl μ) hUs h.2
        · rw [if_neg ht]
          exact hstep (.when G _) undef _ _ _ _ ⟨fun h => absurd h ht, fun _ => rfl⟩ hinv (Ext.refl _ _ _) (Where.le_refl μ) hUs h.2
      | call =>
        simp only [hk] at h
        obtain ⟨r, hr, hc2, hK⟩ := h
        by_cases ht : G = true
        · rw [if_pos ht]
          refine .inl ?_
          have hn' : Inv I μ (σ.bump lim) w ∨ True := .inr trivial
          cases q with
          | true =>
            obtain ⟨rfl, -⟩ := hq1 rfl
            refine qstop_sound (P := P) (e := fun x => (ev τ x).strip) ho1 (fun x hx => VR_okw ht (okAll_mem (hc2 ht) x (Array.mem_toList_iff.2 hx)) (hev x hx)) hinv (hr ht) ?_
            intro I' cv w' hv hi' hx
            exact hstep (.when G _) _ _ _ _ _ ⟨fun _ => hv, fun hf => by rw [ht] at hf; cases hf⟩ hi' hx (Where.le_refl μ) hUs hK
          | false =>
            obtain ⟨rfl, hu0⟩ := hq0 rfl
            refine qstop_sound (P := P) (e := fun x => (ev τ x).strip) ho1 (fun x hx => VR_okw ht (okAll_mem (hc2 ht) x (Array.mem_toList_iff.2 hx)) (hev x hx)) (hinv.bump lim) (hr ht) ?_
            intro I' cv w' hv hi' hx
            have hi0 : Inv I' μ (σ.bump 0) w' := ⟨hi'.imm, hi'.row, hi'.inj, hinv.nm⟩
            exact hstep (.when G _) _ _ _ _ _ ⟨fun _ => hv, fun hf => by rw [ht] at hf; cases hf⟩ hi0 hx (Where.le_refl μ) (fun x hx1 _ => absurd hx1 (hu0 x)) hK
        · rw [if_neg ht]
          exact hstep (.when G _) undef _ _ _ _ ⟨fun h => absurd h ht, fun _ => rfl⟩ hinv (Ext.refl _ _ _) (Where.le_refl μ) hUs hK
      | _ => simp only [hk] at h

theorem run_sound {ops : Array Oper} {Q : Exit → Act → World → Prop} {K : Slots → Heap → Prop} (hok : regOk P N ops = true)
    (hQ : ∀ τ σ a w, K τ σ → St N I0 μ0 B0 w0 τ σ a w → Q .normal a w) : ∀ (l : List Nat) (τ : Slots) (σ : Heap) (a : Act) (w : World), (∀ i ∈ l, i < ops.size) →
    Stps P false ops.toList (l.map fun i => ops.getD i default) τ σ K → St N I0 μ0 B0 w0 τ σ a w → wpOps P ops Q l a w
  | [], τ, σ, a, w, _, h, hS => hQ τ σ a w h hS
  | i :: l, τ, σ, a, w, hl, h, hS => by
    rw [wpOps_cons]
    obtain ⟨I, μ, h1, h2, h3, h4, h5, h6⟩ := hS
    refine wpOp_mono ?_ (op_sound (n := 0) (U := fun _ => False) hok (hl i (by simp)) h ⟨I, μ, h1, h2, h3, h4, h5, h6, nofun⟩ nofun (fun _ => ⟨rfl, fun _ => id⟩))
    rintro a w ⟨τ, σ, hk, I, μ, h1, h2, h3, h4, h5, h6, -⟩
    exact run_sound hok hQ l τ σ a w (fun j hj => hl j (by simp [hj])) hk ⟨I, μ, h1, h2, h3, h4, h5, h6⟩
end
end Go.Nw
