/- The abstract walk, part 12: regions whose order is open: one order serves all. -/
import Derived.Test.YtngdglmimlfefaaAwWk
namespace Go.Aw
set_option linter.unusedVariables false
set_option linter.unusedSimpArgs false
variable {P : Program}

/-- the same, looked at -/
def SEq (τ τ' : Slots) : Prop := ∀ i, τ'.get i = τ.get i
def HEq' (σ σ' : Heap) : Prop := ∀ k, σ'.get k = σ.get k
/-- more rows -/
def HLe (σ σ' : Heap) : Prop := ∀ k r, σ.get k = some r → σ'.get k = some r
theorem HLe.sub {σ σ' : Heap} (h : HLe σ σ') : σ.sub σ' := fun k => by
  cases hr : σ.get k with
  | none => exact .inl rfl
  | some r => exact .inr (h k r hr).symm
theorem ext_list {l : List Nat} {f g : Nat → AVal} (h : ∀ x ∈ l, f x = g x) : l.map f = l.map g := List.map_congr_left h

theorem ev_same {all : List Oper} {o : Oper} {τ τ' : Slots} (h : ∀ t ∈ looks all o, τ'.get t = τ.get t) : ∀ x ∈ o.op.operands, ev τ' x = ev τ x := by
  intro x hx
  cases x with
  | tmp t => exact h t (by unfold looks; exact List.mem_append_left _ (List.mem_filterMap.2 ⟨.tmp t, Array.mem_toList_iff.2 hx, rfl⟩))
  | _ => rfl
/-- A call that leaves the heap as it is leaves a larger one, too. -/
theorem quiet_frame {f : FuncId} {args : List AVal} {σ σ' : Heap} {r : AVal} (hle : HLe σ σ') (h : CallTo P f args σ fun r' σ1 => r' = r ∧ σ1 = σ) : CallTo P f args σ' fun r' σ1 => r' = r ∧ σ1 = σ' := by
  obtain ⟨R, ⟨h1, h2⟩, h3⟩ := h
  refine ⟨fun r' σ1 => r' = r ∧ σ1 = σ', ⟨h1, fun I w cargs hinv hA => ?_⟩, fun r' σ1 h => h⟩
  refine (h2 I w cargs (hinv.less hle.sub) hA).mono ?_
  rintro e w' ⟨cv, r', σ1, I', rfl, hr, hv, hinv', hx⟩
  obtain ⟨rfl, rfl⟩ := h3 _ _ hr
  -- blocks of σ' that are not σ's are as they were
  have hout : ∀ b, σ'.get (some b) ≠ none → σ1.get (some b) = none → ¬ I' b := by
    intro b hb hn hI
    rcases hx.imm' b hI with h | h | h
    · exact hb (hinv.imm b h).2
    · have := hinv.lt hb; omega
    · exact h hn
  refine ⟨cv, r', σ', I', rfl, ⟨rfl, rfl⟩, hv, ⟨fun b hb => ⟨(hinv'.imm b hb).1, ?_⟩, fun b q hq => ?_, hinv.no⟩, hx.os, hx.tape, hx.output, hx.size, fun b hb hs => hx.old b hb ?_, hx.imm, fun b hb => ?_, fun b hb => .inl hb⟩
  · cases hq : σ'.get (some b) with
    | none => rfl
    | some q => exact absurd hb (hout b (by simp [hq]) (hinv'.imm b hb).2)
  · cases hq1 : σ1.get (some b) with
    | some q1 => have := hle _ _ hq1; rw [hq] at this; cases this; exact hinv'.row b q hq1
    | none =>
      obtain ⟨cs, ty, hh, h4, h5, h6⟩ := hinv.row b q hq
      exact ⟨cs, ty, by rw [hx.old b (hinv.lt (by simp [hq])) hq1]; exact hh, h4, h5, fun e he => LR_mono hx.imm (fun c hc => hx.old c (hinv.imm c hc).1 (by cases hz : σ1.get (some c) with
        | none => rfl
        | some z => have := hle _ _ hz; rw [(hinv.imm c hc).2] at this; cases this)) _ _ _ _ (fun _ _ => rfl) (h6 e he)⟩
  · cases hz : σ1.get (some b) with
    | none => rfl
    | some z => have := hle _ _ hz; rw [hs] at this; cases this
  · rcases hx.imm' b hb with h | h | h
    · exact .inl h
    · exact .inr (.inl h)
    · refine .inr (.inr ?_)
      cases hz : σ1.get (some b) with
      | none => exact absurd hz h
      | some z => rw [hle _ _ hz]; simp
theorem stop_frame {op : Op} (hk : kindOf op = .call) {e : Operand → AVal} {σ σ' : Heap} {r : AVal} (hle : HLe σ σ') (h : Stop P op e σ fun r' σ1 => r' = r ∧ σ1 = σ) : Stop P op e σ' fun r' σ1 => r' = r ∧ σ1 = σ' := by
  unfold Stop at h ⊢
  split at h
  · exact quiet_frame hle h
  · unfold CallV at h ⊢
    split at h
    · exact quiet_frame hle h
    · exact h.elim
  · simp [kindOf] at hk
  · exact h.elim
theorem stop_ev {op : Op} {e e' : Operand → AVal} {σ : Heap} {K : AVal → Heap → Prop} (he : ∀ x ∈ op.operands, e' x = e x) (hk : kindOf op = .call) (h : Stop P op e σ K) : Stop P op e' σ K := by
  unfold Stop at h ⊢
  split at h
  · rename_i g args _
    have : args.toList.map e' = args.toList.map e := List.map_congr_left fun x hx => he x (by simp only [Op.operands, Call.operands]; exact Array.mem_append_right _ (Array.mem_toList_iff.1 hx))
    rw [this]; exact h
  · rename_i x args _ _
    have : args.toList.map e' = args.toList.map e := List.map_congr_left fun x hx => he x (by simp only [Op.operands, Call.operands]; exact Array.mem_append_right _ (Array.mem_toList_iff.1 hx))
    rw [this, he x (by simp [Op.operands, Call.operands])]; exact h
  · simp [kindOf] at hk
  · exact h.elim

theorem notin_iff {b : Nat} : ∀ {σ : Heap}, Heap.notin b σ ↔ σ.get (some b) = none
  | [] => ⟨fun _ => rfl, fun _ => trivial⟩
  | (j, r) :: σ => by
    simp only [Heap.notin, Heap.get]
    constructor
    · rintro ⟨⟨h1, h2⟩, h3⟩; rw [if_neg h1]; exact notin_iff.1 h3
    · intro h
      split at h
      · cases h
      · rename_i h1; exact ⟨⟨h1, fun h => h1 h.symm⟩, notin_iff.2 h⟩
theorem fresh_some (σ : Heap) : ∃ b, Heap.notin b σ := by
  have : ∀ σ : Heap, ∃ m, ∀ b, m ≤ b → Heap.notin b σ := by
    intro σ
    induction σ with
    | nil => exact ⟨0, fun _ _ => trivial⟩
    | cons p σ ih =>
      obtain ⟨m, hm⟩ := ih
      obtain ⟨j, r⟩ := p
      refine ⟨m + j.getD 0 + 1, fun b hb => ⟨⟨?_, ?_⟩, hm b (by omega)⟩⟩
      · rintro rfl; simp at hb; omega
      · rintro rfl; simp at hb; omega
  obtain ⟨m, hm⟩ := this σ
  exact ⟨m, hm m (Nat.le_refl _)⟩

theorem pure_keep {op : Op} {e e' : Operand → AVal} {σ σ' : Heap} (he : ∀ x ∈ op.operands, e' x = e x) (hσ : HEq' σ σ' ∨ isLoad op = false ∨ (HLe σ σ' ∧ (pureF P op e σ).1)) : pureF P op e' σ' = pureF P op e σ := by
  cases op with
  | move x => simp only [pureF, he x (by simp [Op.operands])]
  | assign x => simp only [pureF, he x (by simp [Op.operands])]
  | pick c x y => simp only [pureF, he c (by simp [Op.operands]), he x (by simp [Op.operands]), he y (by simp [Op.operands])]
  | build t parts =>
    have : parts.toList.map (fun p => (p.1, e' p.2)) = parts.toList.map (fun p => (p.1, e p.2)) := List.map_congr_left fun p hp => by
      rw [he p.2 (by simp only [Op.operands, List.mem_toArray]; exact List.mem_map.2 ⟨p, hp, rfl⟩)]
    simp only [pureF, this]
  | load t x =>
    simp only [pureF, he x (by simp [Op.operands])] at hσ ⊢
    cases hv : e x with
    | ptr k sz i o =>
      simp only [hv, loadF] at hσ ⊢
      rcases hσ with h | h | ⟨hle, hc⟩
      · rw [h k]
      · simp [isLoad] at h
      · cases hr : σ.get k with
        | none => simp [hr, loadR] at hc
        | some r => rw [hle k r hr]
    | _ => rfl
  | nilCheck x => simp only [pureF, he x (by simp [Op.operands])]
  | binOp o t x y ty => simp only [pureF, he x (by simp [Op.operands]), he y (by simp [Op.operands])]
  | unOp o t x => cases o <;> simp only [pureF, he x (by simp [Op.operands])]
  | fieldAddr s x f => simp only [pureF, he x (by simp [Op.operands])]
  | field s x f => simp only [pureF, he x (by simp [Op.operands])]
  | indexAddr t x i => simp only [pureF, he x (by simp [Op.operands]), he i (by simp [Op.operands])]
  | extract x i => simp only [pureF, he x (by simp [Op.operands])]
  | index t x i => simp only [pureF, he x (by simp [Op.operands]), he i (by simp [Op.operands])]
  | slice t x lo hi mx =>
    have h1 : lo.map e' = lo.map e := by cases lo with
      | none => rfl
      | some y => simp [he y (by simp [Op.operands])]
    have h2 : hi.map e' = hi.map e := by cases hi with
      | none => rfl
      | some y => simp [he y (by simp [Op.operands])]
    cases mx with
    | none => simp only [pureF, he x (by simp [Op.operands]), h1, h2]
    | some y => rfl
  | makeFunc g first caps =>
    cases g with
    | func g =>
      have : caps.toList.map e' = caps.toList.map e := List.map_congr_left fun x hx => he x (by simp only [Op.operands]; exact Array.mem_append_right _ (Array.mem_toList_iff.1 hx))
      simp only [pureF, this]
    | _ => rfl
  | call c =>
    obtain ⟨callee, args, tys⟩ := c
    cases callee with
    | builtin b =>
      cases b with
      | len =>
        rcases args with ⟨l⟩
        match l with
        | [x] => simp only [pureF, he x (by simp [Op.operands, Call.operands])]
        | [] => rfl
        | _ :: _ :: _ => rfl
      | _ => rfl
    | _ => rfl
  | _ => rfl
theorem new_keep {op : Op} {e e' : Operand → AVal} (he : ∀ x ∈ op.operands, e' x = e x) (b : Nat) : newF P op e' b = newF P op e b := by
  cases op with
  | box t x => simp only [newF, he x (by simp [Op.operands])]
  | buildSlice t len parts =>
    have : parts.toList.map (fun p => e' p.2) = parts.toList.map (fun p => e p.2) := List.map_congr_left fun p hp => by
      rw [he p.2 (by simp only [Op.operands, List.mem_toArray]; exact List.mem_map.2 ⟨p, hp, rfl⟩)]
    simp only [newF, this]
  | _ => rfl

/-- An operation that leaves the heap as it is gives v. -/
def Yv (P : Program) (all : List Oper) (o : Oper) (τ : Slots) (σ : Heap) (v : AVal) : Prop :=
  match o.guard with
  | none => match kindOf o.op with
    | .pure => (pureF P o.op (ev τ) σ).1 ∧ v = (pureF P o.op (ev τ) σ).2
    | .call => Stop P o.op (ev τ) σ fun r' σ' => r' = v ∧ σ' = σ
    | _ => False
  | some (j, want) => match gdF want (τ.get (dstAt all j)) with
    | some g => match kindOf o.op with
      | .pure => (g = true → (gF P o.op (ev τ) σ g).1) ∧ v = .when g (gF P o.op (ev τ) σ g).2
      | .call => ∃ r, v = .when g r ∧ (g = true → Stop P o.op (fun x => (ev τ x).strip) σ fun r' σ' => r' = r ∧ σ' = σ) ∧ (g = true → okAll g (o.op.operands.toList.map (ev τ)))
      | _ => False
    | none => False

theorem gF_keep {op : Op} {e e' : Operand → AVal} {σ σ' : Heap} {g : Bool} (he : ∀ x ∈ op.operands, e' x = e x) (hσ : HEq' σ σ' ∨ isLoad op = false) : gF P op e' σ' g = gF P op e σ g := by
  have hmap : op.operands.toList.map e' = op.operands.toList.map e := List.map_congr_left fun x hx => he x (Array.mem_toList_iff.1 hx)
  have hp : pureF P op (fun x => (e' x).strip) σ' = pureF P op (fun x => (e x).strip) σ := pure_keep (fun x hx => by simp only [he x hx]) (by rcases hσ with h | h; exact .inl h; exact .inr (.inl h))
  cases op with
  | pick c x y => simp only [gF, he c (by simp [Op.operands]), he x (by simp [Op.operands]), he y (by simp [Op.operands])]
  | _ => simp only [gF, hmap, hp]

theorem Yv.keep {all : List Oper} {o : Oper} {τ τ' : Slots} {σ σ' : Heap} {v : AVal} (hl : ∀ t ∈ looks all o, τ'.get t = τ.get t)
    (hσ : HEq' σ σ' ∨ cls o = 0 ∨ (HLe σ σ' ∧ (isLoad o.op = true → o.guard = none))) (h : Yv P all o τ σ v) : Yv P all o τ' σ' v := by
  have he := ev_same hl
  have he' : ∀ x ∈ o.op.operands, (fun x => (ev τ' x).strip) x = (fun x => (ev τ x).strip) x := fun x hx => by simp only [he x hx]
  have hle : kindOf o.op = .call → HLe σ σ' := by
    intro hk
    rcases hσ with h | h | h
    · exact fun k r hr => by rw [h k]; exact hr
    · simp [cls, hk] at h
    · exact h.1
  have hmap : o.op.operands.toList.map (ev τ') = o.op.operands.toList.map (ev τ) := List.map_congr_left fun x hx => he x (Array.mem_toList_iff.1 hx)
  have hcl : kindOf o.op = .pure → cls o = 0 → isLoad o.op = false := by
    intro hk hc
    simp only [cls, hk] at hc
    split at hc
    · cases hc
    · simp_all
  unfold Yv at h ⊢
  cases hg : o.guard with
  | none =>
    simp only [hg] at h ⊢
    cases hk : kindOf o.op with
    | pure =>
      simp only [hk] at h ⊢
      have : pureF P o.op (ev τ') σ' = pureF P o.op (ev τ) σ := pure_keep he (by
        rcases hσ with h' | h' | h'
        · exact .inl h'
        · exact .inr (.inl (hcl hk h'))
        · exact .inr (.inr ⟨h'.1, h.1⟩))
      rw [this]; exact h
    | call =>
      simp only [hk] at h ⊢
      exact stop_ev he hk (stop_frame hk (hle hk) h)
    | _ => simp only [hk] at h
  | some g =>
    obtain ⟨j, want⟩ := g
    simp only [hg] at h ⊢
    have hj : τ'.get (dstAt all j) = τ.get (dstAt all j) := hl _ (by simp [looks, hg])
    rw [hj, hmap]
    cases hv : gdF want (τ.get (dstAt all j)) with
    | some G =>
      simp only [hv] at h ⊢
      cases hk : kindOf o.op with
      | pure =>
        simp only [hk] at h ⊢
        have : gF P o.op (ev τ') σ' G = gF P o.op (ev τ) σ G := gF_keep he (by
          rcases hσ with h' | h' | h'
          · exact .inl h'
          · exact .inr (hcl hk h')
          · refine .inr ?_
            cases hq : isLoad o.op with
            | false => rfl
            | true => have := h'.2 hq; rw [hg] at this; cases this)
        rw [this]; exact h
      | call =>
        simp only [hk] at h ⊢
        obtain ⟨r, h1, h2, h3⟩ := h
        exact ⟨r, h1, fun ht => stop_ev he' hk (stop_frame hk (hle hk) (h2 ht)), h3⟩
      | _ => simp only [hk] at h
    | none => simp only [hv] at h
theorem stp_yv {all : List Oper} {o : Oper} {τ : Slots} {σ : Heap} {K : Slots → Heap → Prop} (hk : cls o ≤ 1) : Stp P true all o τ σ K ↔ ∃ v, Yv P all o τ σ v ∧ K (putd τ o.dst v) σ := by
  unfold Stp Yv
  cases hg : o.guard with
  | none =>
    simp only
    cases hkk : kindOf o.op with
    | pure => exact ⟨fun h => ⟨_, ⟨h.1, rfl⟩, h.2⟩, fun ⟨v, ⟨h1, h2⟩, h3⟩ => ⟨h1, by rw [← h2]; exact h3⟩⟩
    | call => exact ⟨fun ⟨r, h1, h2⟩ => ⟨r, h1 rfl, h2⟩, fun ⟨v, h1, h2⟩ => ⟨v, fun _ => h1, h2⟩⟩
    | new => simp [cls, hkk] at hk
    | store => simp [cls, hkk] at hk
    | app => simp [cls, hkk] at hk
  | some g =>
    obtain ⟨j, want⟩ := g
    simp only
    cases hv : gdF want (τ.get (dstAt all j)) with
    | some G =>
      simp only
      cases hkk : kindOf o.op with
      | pure => exact ⟨fun h => ⟨_, ⟨h.1, rfl⟩, h.2⟩, fun ⟨v, ⟨h1, h2⟩, h3⟩ => ⟨h1, by rw [← h2]; exact h3⟩⟩
      | call => exact ⟨fun ⟨r, h1, h2, h3⟩ => ⟨_, ⟨r, rfl, h1, h2⟩, h3⟩, fun ⟨v, ⟨r, h1, h2, h3⟩, h4⟩ => ⟨r, h2, h3, by rw [← h1]; exact h4⟩⟩
      | _ => simp
    | none => simp
theorem stp_mono {all : List Oper} {q : Bool} {o : Oper} {τ : Slots} {σ : Heap} {K K' : Slots → Heap → Prop} (h : Stp P q all o τ σ K) (hk : ∀ v σ', K (putd τ o.dst v) σ' → K' (putd τ o.dst v) σ') : Stp P q all o τ σ K' := by
  unfold Stp at h ⊢
  split at h
  · split at h
    · exact ⟨h.1, hk _ _ h.2⟩
    · exact fun b hb => ⟨(h b hb).1, hk _ _ (h b hb).2⟩
    · split at h
      · exact ⟨h.1, hk _ _ h.2⟩
      · exact h.elim
    · exact stop_mono h fun r σ' hr => hk _ _ hr
    · split at h
      · obtain ⟨r, h1, h2⟩ := h; exact ⟨r, h1, hk _ _ h2⟩
      · exact stop_mono h fun r σ' hr => hk _ _ hr
  · split at h
    · split at h
      · exact ⟨h.1, hk _ _ h.2⟩
      · obtain ⟨r, h1, h2, h3⟩ := h; exact ⟨r, h1, h2, hk _ _ h3⟩
      · exact h.elim
    · exact h.elim
end Go.Aw
