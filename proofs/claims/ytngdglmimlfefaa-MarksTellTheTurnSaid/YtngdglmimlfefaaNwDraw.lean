/- The named walk, part 12: regions whose order is open: one order serves all. -/
import Derived.Test.YtngdglmimlfefaaNwOpS
namespace Go.Nw
set_option linter.unusedVariables false
set_option linter.unusedSimpArgs false
variable {P : Program} {rc : List Nat}

/-- the same, looked at -/
def SEq (τ τ' : Slots) : Prop := ∀ i, τ'.get i = τ.get i
def HEq' (σ σ' : Heap) : Prop := σ'.nx = σ.nx ∧ ∀ k, σ'.get k = σ.get k
theorem HEq'.refl (σ : Heap) : HEq' σ σ := ⟨rfl, fun _ => rfl⟩
theorem HEq'.symm {σ σ' : Heap} (h : HEq' σ σ') : HEq' σ' σ := ⟨h.1.symm, fun k => (h.2 k).symm⟩
theorem HEq'.trans {σ σ' σ'' : Heap} (h : HEq' σ σ') (h' : HEq' σ' σ'') : HEq' σ σ'' := ⟨h'.1.trans h.1, fun k => (h'.2 k).trans (h.2 k)⟩
theorem HEq'.bump {σ σ' : Heap} (h : HEq' σ σ') (n : Nat) : HEq' (σ.bump n) (σ'.bump n) := ⟨by show σ'.nx + n = σ.nx + n; rw [h.1], h.2⟩
theorem HEq'.put {σ σ' : Heap} (h : HEq' σ σ') (p : Nat) (r : Row) : HEq' (σ.put p r) (σ'.put p r) := ⟨h.1, fun k => by rw [get_put, get_put, h.2]⟩
theorem HEq'.set {σ σ' : Heap} (h : HEq' σ σ') (k : Key) (r : Row) : HEq' (σ.set k r) (σ'.set k r) := ⟨h.1, fun k' => by rw [get_set, get_set, h.2, h.2]⟩
theorem HEq'.del {σ σ' : Heap} (h : HEq' σ σ') (k : Key) : HEq' (σ.del k) (σ'.del k) := ⟨h.1, fun k' => by rw [get_del, get_del, h.2]⟩
theorem readS_eq {σ σ' : Heap} {y : AVal} (h : ∀ k ∈ keysOf y, σ'.get k = σ.get k) (sz : Nat) : readS sz σ' y = readS sz σ y := by
  cases y <;> try rfl
  simp only [readS]
  rw [h _ (by simp [keysOf])]

theorem ev_same {all : List Oper} {o : Oper} {τ τ' : Slots} (h : ∀ t ∈ looks all o, τ'.get t = τ.get t) : ∀ x ∈ o.op.operands, ev τ' x = ev τ x := by
  intro x hx
  cases x with
  | tmp t => exact h t (by unfold looks; exact List.mem_append_left _ (List.mem_filterMap.2 ⟨.tmp t, Array.mem_toList_iff.2 hx, rfl⟩))
  | _ => rfl
theorem qcalls_le {f : FuncId} {args : List AVal} {σ σ' : Heap} {r : AVal} (hle : HLe σ σ') (h : QCalls P f args σ r) : QCalls P f args σ' r :=
  ⟨h.1, fun σ1 I μ w cargs h1 => h.2 σ1 I μ w cargs fun k q hq => h1 k q (hle k q hq)⟩
theorem qstop_le {op : Op} {e : Operand → AVal} {σ σ' : Heap} {r : AVal} (hle : HLe σ σ') (h : QStop P op e σ r) : QStop P op e σ' r := by
  unfold QStop at h ⊢
  split at h
  · exact qcalls_le hle h
  · split at h
    · exact qcalls_le hle h
    · exact h.elim
  · exact h.elim
theorem HEq'.le {σ σ' : Heap} (h : HEq' σ σ') : HLe σ σ' := fun k r hr => by rw [h.2]; exact hr
theorem qstop_ev {op : Op} {e e' : Operand → AVal} {σ : Heap} {r : AVal} (he : ∀ x ∈ op.operands, e' x = e x) (h : QStop P op e σ r) : QStop P op e' σ r := by
  unfold QStop at h ⊢
  split at h
  · rename_i g args _
    have : args.toList.map e' = args.toList.map e := List.map_congr_left fun x hx => he x (by simp only [Op.operands, Call.operands]; exact Array.mem_append_right _ (Array.mem_toList_iff.1 hx))
    rw [this]; exact h
  · rename_i x args _ _
    have : args.toList.map e' = args.toList.map e := List.map_congr_left fun x hx => he x (by simp only [Op.operands, Call.operands]; exact Array.mem_append_right _ (Array.mem_toList_iff.1 hx))
    rw [this, he x (by simp [Op.operands, Call.operands])]; exact h
  · exact h.elim

theorem pure_keep {op : Op} {e e' : Operand → AVal} {σ σ' : Heap} (he : ∀ x ∈ op.operands, e' x = e x) (hσ : isLoad op = false ∨ (∀ t x, op = .load t x → ∀ k sz i o, e x = .ptr k sz i o → σ'.get k = σ.get k)) : pureF P op e' σ' = pureF P op e σ := by
  cases op with
  | move x => simp only [pureF, he x (by simp [Op.operands])]
  | assign x => simp only [pureF, he x (by simp [Op.operands])]
  | pick c x y => simp only [pureF, he c (by simp [Op.operands]), he x (by simp [Op.operands]), he y (by simp [Op.operands])]
  | build t parts =>
    have : parts.toList.map (fun p => (p.1, e' p.2)) = parts.toList.map (fun p => (p.1, e p.2)) := List.map_congr_left fun p hp => by
      rw [he p.2 (by simp only [Op.operands, List.mem_toArray]; exact List.mem_map.2 ⟨p, hp, rfl⟩)]
    simp only [pureF, this]
  | load t x =>
    have h := hσ.resolve_left (by simp [isLoad]) t x rfl
    simp only [pureF, he x (by simp [Op.operands])]
    cases hv : e x with
    | ptr k sz i o => simp only [loadF, h k sz i o hv]
    | _ => rfl
  | nilCheck x => simp only [pureF, he x (by simp [Op.operands])]
  | binOp o t x y ty => simp only [pureF, he x (by simp [Op.operands]), he y (by simp [Op.operands])]
  | unOp o t x => cases o <;> simp only [pureF, he x (by simp [Op.operands])]
  | fieldAddr s x f => simp only [pureF, he x (by simp [Op.operands])]
  | field s x f => simp only [pureF, he x (by simp [Op.operands])]
  | indexAddr t x i => simp only [pureF, he x (by simp [Op.operands]), he i (by simp [Op.operands])]
  | convert s d x => simp only [pureF, he x (by simp [Op.operands])]
  | extract x i => simp only [pureF, he x (by simp [Op.operands])]
  | index t x i => simp only [pureF, he x (by simp [Op.operands]), he i (by simp [Op.operands])]
  | slice t x lo hi mx =>
    have h1 : lo.map e' = lo.map e := by cases lo with
      | none => rfl
      | some y => simp [he y (by simp [Op.operands])]
    have h2 : hi.map e' = hi.map e := by cases hi with
      | none => rfl
      | some y => simp [he y (by simp [Op.operands])]
    cases mx with
    | none => simp only [pureF, he x (by simp [Op.operands]), h1, h2]
    | some y => rfl
  | makeFunc g first caps =>
    cases g with
    | func g =>
      have : caps.toList.map e' = caps.toList.map e := List.map_congr_left fun x hx => he x (by simp only [Op.operands]; exact Array.mem_append_right _ (Array.mem_toList_iff.1 hx))
      simp only [pureF, this]
    | _ => rfl
  | call c =>
    obtain ⟨callee, args, tys⟩ := c
    cases callee with
    | builtin b =>
      cases b with
      | len =>
        rcases args with ⟨l⟩
        match l with
        | [x] => simp only [pureF, bF, he x (by simp [Op.operands, Call.operands])]
        | [] => rfl
        | _ :: _ :: _ => rfl
      | cap =>
        rcases args with ⟨l⟩
        match l with
        | [x] => simp only [pureF, bF, he x (by simp [Op.operands, Call.operands])]
        | [] => rfl
        | _ :: _ :: _ => rfl
      | max =>
        rcases args with ⟨l⟩
        match l with
        | [x, y] => simp only [pureF, bF, he x (by simp [Op.operands, Call.operands]), he y (by simp [Op.operands, Call.operands])]
        | [x, y, z] => simp only [pureF, bF, he x (by simp [Op.operands, Call.operands]), he y (by simp [Op.operands, Call.operands]), he z (by simp [Op.operands, Call.operands])]
        | [] => rfl
        | [_] => rfl
        | _ :: _ :: _ :: _ :: _ => rfl
      | min =>
        rcases args with ⟨l⟩
        match l with
        | [x, y] => simp only [pureF, bF, he x (by simp [Op.operands, Call.operands]), he y (by simp [Op.operands, Call.operands])]
        | [x, y, z] => simp only [pureF, bF, he x (by simp [Op.operands, Call.operands]), he y (by simp [Op.operands, Call.operands]), he z (by simp [Op.operands, Call.operands])]
        | [] => rfl
        | [_] => rfl
        | _ :: _ :: _ :: _ :: _ => rfl
      | _ => rfl
    | _ => rfl
  | _ => rfl
theorem eff_keep {op : Op} {e e' : Operand → AVal} {σ : Heap} {p : Nat} (hok : opOk P op = true) (he : ∀ x ∈ op.operands, e' x = e x) : effF P op e' σ p = effF P op e σ p := by
  cases op with
  | box t x => simp only [effF, he x (by simp [Op.operands])]
  | buildSlice t len parts =>
    have : parts.toList.map (fun p => e' p.2) = parts.toList.map (fun p => e p.2) := List.map_congr_left fun p hp => by
      rw [he p.2 (by simp only [Op.operands, List.mem_toArray]; exact List.mem_map.2 ⟨p, hp, rfl⟩)]
    simp only [effF, this]
  | makeSlice t n c => simp only [effF, he n (by simp [Op.operands]), he c (by simp [Op.operands])]
  | slice t x lo hi mx =>
    cases lo with
    | some l => rfl
    | none => cases hi with
      | none => rfl
      | some h => cases mx with
        | none => rfl
        | some m => simp only [effF, he x (by simp [Op.operands]), he h (by simp [Op.operands]), he m (by simp [Op.operands])]
  | store t x y => simp only [effF, he x (by simp [Op.operands]), he y (by simp [Op.operands])]
  | call c =>
    obtain ⟨callee, args, tys⟩ := c
    unfold opOk at hok
    simp only [Bool.and_eq_true] at hok
    obtain ⟨-, hok⟩ := hok
    cases callee with
    | builtin b =>
      cases b with
      | append =>
        have hok : bOk P .append args tys = true := hok
        simp only [bOk, Bool.and_eq_true, beq_iff_eq] at hok
        obtain ⟨x, y, rfl⟩ : ∃ x y, args = #[x, y] := by
          rcases args with ⟨l⟩; match l, hok.1.1.1 with | [x, y], _ => exact ⟨x, y, rfl⟩
        have hx := he x (by simp [Op.operands, Call.operands])
        have hy := he y (by simp [Op.operands, Call.operands])
        simp [effF, hx, hy]
      | clear =>
        have hok : bOk P .clear args tys = true := hok
        simp only [bOk, Bool.and_eq_true, beq_iff_eq] at hok
        obtain ⟨x, rfl⟩ : ∃ x, args = #[x] := by
          rcases args with ⟨l⟩; match l, hok.1.1 with | [x], _ => exact ⟨x, rfl⟩
        have hx := he x (by simp [Op.operands, Call.operands])
        simp [effF, hx]
      | _ => rfl
    | _ => rfl
  | _ => rfl

/-- An operation that leaves the heap as it is gives v. -/
def Yv (P : Program) (all : List Oper) (o : Oper) (τ : Slots) (σ : Heap) (v : AVal) : Prop :=
  match o.guard with
  | none => match kindOf o.op with
    | .pure => (pureF P o.op (ev τ) σ).1 ∧ v = (pureF P o.op (ev τ) σ).2
    | .call => QStop P o.op (ev τ) (σ.bump lim) v
    | _ => False
  | some (j, want) => match gdF want (τ.get (dstAt all j)) with
    | some g => match kindOf o.op with
      | .pure => (g = true → (gF P o.op (ev τ) σ g).1) ∧ v = .when g (gF P o.op (ev τ) σ g).2
      | .call => ∃ r, v = .when g r ∧ (g = true → QStop P o.op (fun x => (ev τ x).strip) (σ.bump lim) r) ∧ (g = true → okAll g (o.op.operands.toList.map (ev τ)))
      | _ => False
    | none => False
theorem gF_keep {op : Op} {e e' : Operand → AVal} {σ σ' : Heap} {g : Bool} (he : ∀ x ∈ op.operands, e' x = e x) (hσ : isLoad op = false ∨ ∀ k, σ'.get k = σ.get k) : gF P op e' σ' g = gF P op e σ g := by
  have hmap : op.operands.toList.map e' = op.operands.toList.map e := List.map_congr_left fun x hx => he x (Array.mem_toList_iff.1 hx)
  have hp : pureF P op (fun x => (e' x).strip) σ' = pureF P op (fun x => (e x).strip) σ := pure_keep (fun x hx => by simp only [he x hx]) (by rcases hσ with h | h; exact .inl h; exact .inr fun _ _ _ k _ _ _ _ => h k)
  cases op with
  | pick c x y => simp only [gF, he c (by simp [Op.operands]), he x (by simp [Op.operands]), he y (by simp [Op.operands])]
  | _ => simp only [gF, hmap, hp]
/-- what an operation that only computes, reads or calls needs of the heap -/
def Same (P : Program) (o : Oper) (e : Operand → AVal) (σ σ' : Heap) : Prop :=
  (kindOf o.op = .call → HLe σ σ') ∧ (isLoad o.op = true → (∀ k, σ'.get k = σ.get k) ∨ o.guard = none ∧ ∀ t x, o.op = .load t x → ∀ k sz i q, e x = .ptr k sz i q → σ'.get k = σ.get k)
theorem Same.of_eq {o : Oper} {e : Operand → AVal} {σ σ' : Heap} (h : HEq' σ σ') : Same P o e σ σ' := ⟨fun _ => h.le, fun _ => .inl h.2⟩
theorem Same.of_0 {o : Oper} {e : Operand → AVal} {σ σ' : Heap} (h : cls rc o = 0) : Same P o e σ σ' := by
  refine ⟨fun hk => ?_, fun hl => ?_⟩
  · unfold cls at h; rw [hk] at h; simp only at h; split at h <;> omega
  · have hk : kindOf o.op = .pure := by cases hop : o.op <;> rw [hop] at hl <;> first | rfl | cases hl
    simp [cls, hk, hl] at h
theorem Yv.keep {all : List Oper} {o : Oper} {τ τ' : Slots} {σ σ' : Heap} {v : AVal} (hl : ∀ t ∈ looks all o, τ'.get t = τ.get t) (hσ : Same P o (ev τ) σ σ') (h : Yv P all o τ σ v) : Yv P all o τ' σ' v := by
  have he := ev_same hl
  have he' : ∀ x ∈ o.op.operands, (fun x => (ev τ' x).strip) x = (fun x => (ev τ x).strip) x := fun x hx => by simp only [he x hx]
  have hmap : o.op.operands.toList.map (ev τ') = o.op.operands.toList.map (ev τ) := List.map_congr_left fun x hx => he x (Array.mem_toList_iff.1 hx)
  have hb : kindOf o.op = .call → HLe (σ.bump lim) (σ'.bump lim) := fun hk => hσ.1 hk
  unfold Yv at h ⊢
  cases hg : o.guard with
  | none =>
    simp only [hg] at h ⊢
    cases hk : kindOf o.op with
    | pure =>
      simp only [hk] at h ⊢
      have : pureF P o.op (ev τ') σ' = pureF P o.op (ev τ) σ := pure_keep he (by
        cases hld : isLoad o.op with
        | false => exact .inl rfl
        | true =>
          rcases hσ.2 hld with h' | h'
          · exact .inr fun _ _ _ k _ _ _ _ => h' k
          · exact .inr h'.2)
      rw [this]; exact h
    | call =>
      simp only [hk] at h ⊢
      exact qstop_ev he (qstop_le (hb hk) h)
    | eff => simp only [hk] at h
  | some g =>
    obtain ⟨j, want⟩ := g
    simp only [hg] at h ⊢
    have hj : τ'.get (dstAt all j) = τ.get (dstAt all j) := hl _ (by simp [looks, hg])
    rw [hj, hmap]
    cases hv : gdF want (τ.get (dstAt all j)) with
    | some G =>
      simp only [hv] at h ⊢
      cases hk : kindOf o.op with
      | pure =>
        simp only [hk] at h ⊢
        have : gF P o.op (ev τ') σ' G = gF P o.op (ev τ) σ G := gF_keep he (by
          cases hld : isLoad o.op with
          | false => exact .inl rfl
          | true =>
            rcases hσ.2 hld with h' | h'
            · exact .inr h'
            · have := h'.1; rw [hg] at this; cases this)
        rw [this]; exact h
      | call =>
        simp only [hk] at h ⊢
        obtain ⟨r, h1, h2, h3⟩ := h
        exact ⟨r, h1, fun ht => qstop_ev he' (qstop_le (hb hk) (h2 ht)), h3⟩
      | eff => simp only [hk] at h
    | none => simp only [hv] at h
/-- it only computes, reads or calls -/
def low (rc : List Nat) (o : Oper) : Prop := cls rc o ≤ 1 ∨ cls rc o = 4
theorem stp_yv {all : List Oper} {o : Oper} {τ : Slots} {σ : Heap} {K : Slots → Heap → Prop} (hk : low rc o) : Stp P (some rc) all o τ σ K ↔ ∃ v, Yv P all o τ σ v ∧ K (putd τ o.dst v) σ := by
  unfold Stp Yv
  cases hg : o.guard with
  | none =>
    simp only
    cases hkk : kindOf o.op with
    | pure => exact ⟨fun h => ⟨_, ⟨h.1, rfl⟩, h.2⟩, fun ⟨v, ⟨h1, h2⟩, h3⟩ => ⟨h1, by rw [← h2]; exact h3⟩⟩
    | call =>
      have hr : rcl rc o = false := by
        cases hr : rcl rc o with
        | false => rfl
        | true => simp [low, cls, hkk, hr] at hk
      simp only [hr]
      exact ⟨fun ⟨r, h1, h2⟩ => ⟨r, h1 rfl, h2⟩, fun ⟨v, h1, h2⟩ => ⟨v, fun _ => h1, h2⟩⟩
    | eff => simp only [low, cls, hkk] at hk; split at hk <;> omega
  | some g =>
    obtain ⟨j, want⟩ := g
    simp only
    cases hv : gdF want (τ.get (dstAt all j)) with
    | some G =>
      simp only
      cases hkk : kindOf o.op with
      | pure => exact ⟨fun h => ⟨_, ⟨h.1, rfl⟩, h.2⟩, fun ⟨v, ⟨h1, h2⟩, h3⟩ => ⟨h1, by rw [← h2]; exact h3⟩⟩
      | call => exact ⟨fun ⟨r, h1, h2, h3⟩ => ⟨_, ⟨r, rfl, h1, h2⟩, h3⟩, fun ⟨v, ⟨r, h1, h2, h3⟩, h4⟩ => ⟨r, h2, h3, by rw [← h1]; exact h4⟩⟩
      | _ => simp
    | none => simp
theorem stp_eff {all : List Oper} {o : Oper} {τ : Slots} {σ : Heap} {K : Slots → Heap → Prop} (hc : cls rc o = 2 ∨ cls rc o = 3) : Stp P (some rc) all o τ σ K ↔ o.guard = none ∧ kindOf o.op = .eff ∧ (effF P o.op (ev τ) σ (σ.nx + o.dst.getD 0)).1 ∧ K (putd τ o.dst (effF P o.op (ev τ) σ (σ.nx + o.dst.getD 0)).2.1) (effF P o.op (ev τ) σ (σ.nx + o.dst.getD 0)).2.2 := by
  have hk : kindOf o.op = .eff := by
    cases hkk : kindOf o.op with
    | pure => exfalso; simp only [cls, hkk] at hc; split at hc <;> omega
    | call => exfalso; simp only [cls, hkk] at hc; split at hc <;> omega
    | eff => rfl
  unfold Stp
  cases hg : o.guard with
  | none => simp [hk]
  | some g =>
    obtain ⟨j, want⟩ := g
    simp only [hk]
    constructor
    · intro h; split at h <;> exact h.elim
    · intro h; cases h.1
theorem stp_mono {all : List Oper} {q : Rg} {o : Oper} {τ : Slots} {σ : Heap} {K K' : Slots → Heap → Prop} (h : Stp P q all o τ σ K) (hk : ∀ v σ', K (putd τ o.dst v) σ' → K' (putd τ o.dst v) σ') : Stp P q all o τ σ K' := by
  unfold Stp at h ⊢
  split at h
  · split at h
    · exact ⟨h.1, hk _ _ h.2⟩
    · split at h
      · exact ⟨h.1, hk _ _ h.2⟩
      · exact ⟨h.1, hk _ _ h.2⟩
    · split at h
      · split at h
        · obtain ⟨r, h1, h2⟩ := h; exact ⟨r, h1, hk _ _ h2⟩
        · exact rstop_mono h fun r σ' hr => hk _ _ hr
      · exact stop_mono h fun r σ' hr => hk _ _ hr
  · split at h
    · split at h
      · exact ⟨h.1, hk _ _ h.2⟩
      · obtain ⟨r, h1, h2, h3⟩ := h; exact ⟨r, h1, h2, hk _ _ h3⟩
      · exact h.elim
    · exact h.elim
theorem cls_cases (rc : List Nat) (o : Oper) : low rc o ∨ (cls rc o = 2 ∨ cls rc o = 3) ∨ cls rc o = 5 := by
  unfold low cls
  split
  · split <;> omega
  · split <;> omega
  · split <;> omega
theorem cls5 {o : Oper} (h : cls rc o = 5) : kindOf o.op = .call ∧ rcl rc o = true ∧ o.guard = none := by
  have hk : kindOf o.op = .call ∧ rcl rc o = true := by
    unfold cls at h
    split at h
    · split at h <;> omega
    · rename_i hk; exact ⟨hk, by split at h; assumption; omega⟩
    · split at h <;> omega
  refine ⟨hk.1, hk.2, ?_⟩
  have := hk.2
  unfold rcl at this
  simp only [Bool.and_eq_true, Option.isNone_iff_eq_none] at this
  exact this.1
theorem stp_r {all : List Oper} {o : Oper} {τ : Slots} {σ : Heap} {K : Slots → Heap → Prop} (hc : cls rc o = 5) : Stp P (some rc) all o τ σ K ↔ RStop P o.op (ev τ) σ (σ.nx + o.dst.getD 0) fun v σ' => K (putd τ o.dst v) σ' := by
  obtain ⟨h1, h2, h3⟩ := cls5 hc
  unfold Stp
  simp only [h1, h2, h3]
/-- the rows that a call is handed -/
def rNames (op : Op) (e : Operand → AVal) : List Nat :=
  match op with
  | .call { callee := .value _, args, .. } => argNames (args.toList.map e)
  | _ => []
theorem rstop_split {op : Op} {e : Operand → AVal} {σ : Heap} {p : Nat} {K : AVal → Heap → Prop} (hp : σ.nx ≤ p) (h : RStop P op e σ p K) :
    ∃ r σ', K r σ' ∧ σ'.nx = σ.nx ∧ (∀ k : Key, k.1 ≠ p → k.1 ∉ rNames op e → σ'.get k = σ.get k) ∧ ∀ K' : AVal → Heap → Prop, K' r σ' → RStop P op e σ p K' := by
  unfold RStop at h
  split at h
  · obtain ⟨z, ks, args', σa, σr, r, h1, h2, h3, h4, h5, h6, h7, h8, h9⟩ := h
    exact ⟨_, _, h9, rfl, fun k k1 k2 => mergeP_off h5 (fun j hj => Nat.lt_of_lt_of_le (h6 j hj).1 hp) h7.2 (fun hm => k2 (h6 _ hm).2) k1, fun K' hk => ⟨z, ks, args', σa, σr, r, h1, h2, h3, h4, h5, h6, h7, h8, hk⟩⟩
  · exact h.elim
theorem rstop_equiv {op : Op} {e e' : Operand → AVal} {σ σ' : Heap} {p : Nat} {K K' : AVal → Heap → Prop} (hp : σ.nx ≤ p) (he : ∀ x ∈ op.operands, e' x = e x) (hh : HEq' σ σ') (hK : ∀ v σ1 σ1', HEq' σ1 σ1' → K v σ1 → K' v σ1') (h : RStop P op e σ p K) : RStop P op e' σ' p K' := by
  unfold RStop at h ⊢
  split at h
  · rename_i g args _
    have : args.toList.map e' = args.toList.map e := List.map_congr_left fun x hx => he x (by simp only [Op.operands, Call.operands]; exact Array.mem_append_right _ (Array.mem_toList_iff.1 hx))
    rw [this]
    obtain ⟨z, ks, args', σa, σr, r, h1, h2, h3, h4, h5, h6, h7, h8, h9⟩ := h
    have hlt : ∀ j ∈ ks, j < p := fun j hj => Nat.lt_of_lt_of_le (h6 j hj).1 hp
    refine ⟨z, ks, args', σa, σr, r, h1, h2.hle hh.le, h3.hle hh.le, h4, h5, fun j hj => ⟨by rw [hh.1]; exact (h6 j hj).1, (h6 j hj).2⟩, h7, h8, hK _ _ _ (⟨hh.1, fun k => by rw [mergeP_get h5 hlt, mergeP_get h5 hlt, hh.2]⟩ : HEq' (mergeP σ ks σr p) (mergeP σ' ks σr p)) h9⟩
  · exact h.elim
/-- One operation leads on, from names to names. -/
theorem stp_on {all : List Oper} {o : Oper} {τ : Slots} {σ : Heap} {K : Slots → Heap → Prop} (h : Stp P (some rc) all o τ σ K) : ∃ v σ', K (putd τ o.dst v) σ' ∧ σ'.nx = σ.nx := by
  rcases cls_cases rc o with hc | hc | hc
  · obtain ⟨v, -, h2⟩ := (stp_yv hc).1 h; exact ⟨v, σ, h2, rfl⟩
  · obtain ⟨-, -, -, h2⟩ := (stp_eff hc).1 h; exact ⟨_, _, h2, effF_nx _ _ _ _⟩
  · obtain ⟨r, σ', h1, h2, -⟩ := rstop_split (Nat.le_add_right _ _) ((stp_r hc).1 h); exact ⟨r, σ', h1, h2⟩
theorem stps_on {all : List Oper} {K : Slots → Heap → Prop} : ∀ {l : List Oper} {τ : Slots} {σ : Heap}, Stps P (some rc) all l τ σ K → ∃ τ' σ', K τ' σ' ∧ σ'.nx = σ.nx ∧ ∀ t, (∀ o ∈ l, o.dst ≠ some t) → τ'.get t = τ.get t
  | [], τ, σ, h => ⟨τ, σ, h, rfl, fun _ _ => rfl⟩
  | o :: l, τ, σ, h => by
    obtain ⟨v, σ1, h1, hn⟩ := stp_on h
    obtain ⟨τ', σ', h2, h3, h4⟩ := stps_on h1
    refine ⟨τ', σ', h2, h3.trans hn, fun t ht => ?_⟩
    rw [h4 t fun o ho => ht o (by simp [ho])]
    have := ht o (by simp)
    cases hd : o.dst with
    | none => rfl
    | some d =>
      simp only [putd, Slots.get]
      rw [if_neg (fun e => this (by rw [hd, e]))]

/-! What operations touch. -/
/-- the rows that an operation reads -/
def rdK (op : Op) (e : Operand → AVal) : List Key :=
  match op with
  | .store _ x _ => (match e x with | .ptr k _ _ _ => [k] | _ => [])
  | .call { callee := .builtin .append, args, .. } => keysOf (e (args.getD 0 default)) ++ keysOf (e (args.getD 1 default))
  | _ => []
/-- the rows that it writes -/
def wrK (op : Op) (e : Operand → AVal) (p : Nat) : List Key :=
  match op with
  | .store _ x _ => (match e x with | .ptr k _ _ _ => [k] | _ => [])
  | .call { callee := .builtin .append, args, .. } => (p, 0) :: keysOf (e (args.getD 0 default))
  | _ => []
/-- A store, or append: its rows alone are read, and written. -/
theorem wr_loc {op : Op} {e : Operand → AVal} {σ σ' : Heap} {p : Nat} (hw : isWr op = true) (h : ∀ k ∈ rdK op e, σ'.get k = σ.get k) :
    (effF P op e σ' p).1 = (effF P op e σ p).1 ∧ (effF P op e σ' p).2.1 = (effF P op e σ p).2.1 ∧
    (∀ k, k ∈ wrK op e p → (effF P op e σ' p).2.2.get k = (effF P op e σ p).2.2.get k ∨ ¬ (effF P op e σ p).1) ∧ (∀ k, ¬ k ∈ wrK op e p → (effF P op e σ' p).2.2.get k = σ'.get k ∨ ¬ (effF P op e σ p).1) := by
  cases op with
  | store t x y =>
    simp only [effF, rdK, wrK] at h ⊢
    cases hx : e x with
    | ptr k sz i o =>
      simp only [hx, List.mem_singleton, forall_eq] at h
      simp only [storeF, h]
      cases hr : σ.get k with
      | none => exact ⟨by first | rfl | trivial, by first | rfl | trivial, fun _ _ => .inr (by first | exact id | simp), fun _ _ => .inr (by first | exact id | simp)⟩
      | some r =>
        refine ⟨by first | rfl | trivial, by first | rfl | trivial, fun k' hk' => .inl ?_, fun k' hk' => .inl ?_⟩
        · simp only [List.mem_singleton] at hk'
          subst hk'
          simp only [storeR]
          rw [get_set, get_set, if_pos ⟨rfl, by rw [h, hr]; exact Option.some_ne_none _⟩, if_pos ⟨rfl, by rw [hr]; exact Option.some_ne_none _⟩]
        · simp only [List.mem_singleton] at hk'
          simp only [storeR]
          rw [get_set, if_neg (fun h => hk' h.1)]
    | _ => exact ⟨by first | rfl | trivial, by first | rfl | trivial, fun _ _ => .inr (by first | exact id | simp), fun _ _ => .inr (by first | exact id | simp)⟩
  | call c =>
    obtain ⟨callee, args, tys⟩ := c
    cases callee with
    | builtin b =>
      cases b with
      | append =>
        simp only [effF, rdK, wrK] at h ⊢
        have hy : ∀ sz, readS sz σ' (e (args.getD 1 default)) = readS sz σ (e (args.getD 1 default)) := fun sz => readS_eq (fun k hk => h k (List.mem_append_right _ hk)) sz
        cases hx : e (args.getD 0 default) with
        | nilsl =>
          simp only [appF, hy, keysOf]
          refine ⟨trivial, trivial, fun k' hk' => .inl ?_, fun k' hk' => .inl ?_⟩
          · simp only [List.mem_singleton] at hk'; subst hk'
            rw [get_put, get_put, if_pos rfl, if_pos rfl]
          · simp only [List.mem_singleton] at hk'
            rw [get_put, if_neg hk']
        | sref k e0 sz n =>
          have hk : σ'.get k = σ.get k := h k (List.mem_append_left _ (by rw [hx]; exact List.mem_singleton.2 rfl))
          simp only [appF, hy, hk, keysOf]
          cases hr : σ.get k with
          | none => exact ⟨by first | rfl | trivial, by first | rfl | trivial, fun _ _ => .inr (by first | exact id | simp), fun _ _ => .inr (by first | exact id | simp)⟩
          | some r =>
            refine ⟨by first | rfl | trivial, by first | rfl | trivial, fun k' hk' => .inl ?_, fun k' hk' => .inl ?_⟩
            · simp only [List.mem_cons, List.not_mem_nil, or_false] at hk'
              simp only
              rw [get_put, get_put, get_del, get_del]
              rcases hk' with rfl | rfl
              · rw [if_pos rfl, if_pos rfl]
              · split
                · rfl
                · rw [if_pos rfl, if_pos rfl]
            · simp only [List.mem_cons, List.not_mem_nil, or_false, not_or] at hk'
              simp only
              rw [get_put, get_del, if_neg hk'.1, if_neg hk'.2]
        | _ => exact ⟨by first | rfl | trivial, by first | rfl | trivial, fun _ _ => .inr (by first | exact id | simp), fun _ _ => .inr (by first | exact id | simp)⟩
      | _ => cases hw
    | _ => cases hw
  | _ => cases hw
/-- A new row: of the operands alone. -/
theorem new_form {o : Oper} {e : Operand → AVal} {p : Nat} (hc : cls rc o = 2) : ∃ (c0 : Prop) (v : AVal) (r : Row), ∀ σ, ((effF P o.op e σ p).1 ↔ σ.get (p, 0) = none ∧ c0) ∧ (effF P o.op e σ p).2.1 = v ∧ (effF P o.op e σ p).2.2 = σ.put p r := by
  unfold cls at hc
  split at hc
  · split at hc <;> omega
  · split at hc <;> omega
  · split at hc
    · rename_i hop; rw [hop]; exact ⟨True, _, _, fun σ => ⟨by simp [effF], rfl, rfl⟩⟩
    · rename_i hop; rw [hop]; exact ⟨_, _, _, fun σ => ⟨Iff.rfl, rfl, rfl⟩⟩
    · rename_i hop; rw [hop]; exact ⟨_, _, _, fun σ => ⟨Iff.rfl, rfl, rfl⟩⟩
    · omega
/-- of heaps that look the same -/
theorem effF_eq (op : Op) (e : Operand → AVal) {σ σ' : Heap} (p : Nat) (h : HEq' σ σ') : (effF P op e σ' p).1 = (effF P op e σ p).1 ∧ (effF P op e σ' p).2.1 = (effF P op e σ p).2.1 ∧ HEq' (effF P op e σ p).2.2 (effF P op e σ' p).2.2 := by
  have hr : ∀ sz y, readS sz σ' y = readS sz σ y := fun sz y => readS_eq (fun k _ => h.2 k) sz
  cases op with
  | alloc t => simp only [effF, h.2]; exact ⟨trivial, trivial, h.put _ _⟩
  | box t x => simp only [effF, h.2]; exact ⟨trivial, trivial, h.put _ _⟩
  | buildSlice t len parts => simp only [effF, h.2]; exact ⟨trivial, trivial, h.put _ _⟩
  | slice t x lo hi mx =>
    cases lo with
    | some l => exact ⟨by first | rfl | trivial, by first | rfl | trivial, h⟩
    | none => cases hi with
      | none => exact ⟨by first | rfl | trivial, by first | rfl | trivial, h⟩
      | some hh => cases mx with
        | none => exact ⟨by first | rfl | trivial, by first | rfl | trivial, h⟩
        | some m =>
          simp only [effF]
          unfold cut0F
          split
          · exact ⟨by first | rfl | trivial, by first | rfl | trivial, h.put _ _⟩
          · exact ⟨by first | rfl | trivial, by first | rfl | trivial, h.put _ _⟩
          · exact ⟨by first | rfl | trivial, by first | rfl | trivial, h⟩
          · exact ⟨by first | rfl | trivial, by first | rfl | trivial, h⟩
  | makeSlice t x y =>
    simp only [effF]
    unfold mkF
    split
    · exact ⟨by first | rfl | trivial, by first | rfl | trivial, h.put _ _⟩
    · exact ⟨by first | rfl | trivial, by first | rfl | trivial, h⟩
  | store t x y =>
    simp only [effF]
    cases e x <;> try exact ⟨by first | rfl | trivial, by first | rfl | trivial, h⟩
    rename_i k sz i o
    simp only [storeF, h.2]
    cases σ.get k with
    | none => exact ⟨by first | rfl | trivial, by first | rfl | trivial, h⟩
    | some r => exact ⟨by first | rfl | trivial, by first | rfl | trivial, h.set _ _⟩
  | call c =>
    obtain ⟨callee, args, tys⟩ := c
    cases callee with
    | builtin b =>
      cases b with
      | append =>
        simp only [effF]
        generalize e (args.getD 0 default) = x
        cases x <;> try exact ⟨by first | rfl | trivial, by first | rfl | trivial, h⟩
        · simp only [appF, hr]; exact ⟨trivial, trivial, h.put _ _⟩
        · rename_i k e0 sz m
          simp only [appF, hr, h.2]
          cases σ.get k with
          | none => exact ⟨by first | rfl | trivial, by first | rfl | trivial, h⟩
          | some r => exact ⟨by first | rfl | trivial, by first | rfl | trivial, (h.del _).put _ _⟩
      | clear =>
        simp only [effF]
        generalize e (args.getD 0 default) = x
        cases x <;> try exact ⟨by first | rfl | trivial, by first | rfl | trivial, h⟩
        rename_i k e0 sz m
        simp only [clearF, h.2]
        cases σ.get k with
        | none => exact ⟨by first | rfl | trivial, by first | rfl | trivial, h⟩
        | some r => exact ⟨by first | rfl | trivial, by first | rfl | trivial, h.set _ _⟩
      | _ => exact ⟨by first | rfl | trivial, by first | rfl | trivial, h⟩
    | _ => exact ⟨by first | rfl | trivial, by first | rfl | trivial, h⟩
  | _ => exact ⟨by first | rfl | trivial, by first | rfl | trivial, h⟩
end Go.Nw
