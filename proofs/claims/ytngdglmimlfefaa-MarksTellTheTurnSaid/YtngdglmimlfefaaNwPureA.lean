/- The abstract walk, part 4: the pure operations, all in one. -/
import Derived.Test.YtngdglmimlfefaaNwPureS
namespace Go.Nw
set_option linter.unusedVariables false
set_option linter.unusedSimpArgs false
variable {P : Program} {I : Nat → Prop} {μ : Where} {σ : Heap} {w : World} {e : Operand → AVal} {ρ : Operand → Value}

theorem pure_sound {o : Oper} (hk : kindOf o.op = .pure) (hok : opOk P o.op = true) (he : ∀ x ∈ o.op.operands, VR I μ w (e x) (ρ x)) (hinv : Inv I μ σ w)
    (hc : (pureF P o.op e σ).1) : ∃ cv, (execOp ρ o).run P w = .ok (.value cv) w ∧ VR I μ w (pureF P o.op e σ).2 cv := by
  have hval : ∀ (s : Sem Value) cv, s.run P w = .ok cv w → (do pure (Next.value (← s)) : Sem Next).run P w = .ok (.value cv) w := by
    intro s cv h; simp [Sem.run_bind, h]
  unfold opOk at hok
  simp only [Bool.and_eq_true] at hok
  obtain ⟨-, hok⟩ := hok
  unfold execOp
  generalize o.op = op at *
  cases op with
  | move x => exact ⟨_, rfl, he x (by simp [Op.operands])⟩
  | assign x => exact ⟨_, rfl, he x (by simp [Op.operands])⟩
  | pick c x y =>
    obtain ⟨cv, h1, h2⟩ := sound_pick (P := P) (he c (by simp [Op.operands])) (he x (by simp [Op.operands])) (he y (by simp [Op.operands])) hc
    refine ⟨cv, ?_, h2⟩
    have : (do pure (Next.value (if ← asBool (ρ c) then ρ x else ρ y)) : Sem Next) = (do pure (Next.value (← (do pure (if ← asBool (ρ c) then ρ x else ρ y) : Sem Value)))) := by simp
    simp only at *
    rw [this]; exact hval _ _ h1
  | build t parts =>
    simp only [Bool.and_eq_true] at hok
    obtain ⟨cv, h1, h2⟩ := sound_build (P := P) (I := I) (w := w) (e := e) (ρ := ρ) hok.1.1.1 hok.1.1.2 hok.1.2 hok.2 (fun p hp => he _ (by simp only [Op.operands, List.mem_toArray]; exact List.mem_map.2 ⟨p, hp, rfl⟩)) hc
    exact ⟨cv, hval _ _ h1, h2⟩
  | load t x =>
    obtain ⟨cv, h1, h2⟩ := sound_load (P := P) hok (he x (by simp [Op.operands])) hinv hc
    exact ⟨cv, hval _ _ h1, h2⟩
  | nilCheck x =>
    obtain ⟨⟨a, h1⟩, h2⟩ := sound_nil (he x (by simp [Op.operands])) hc
    exact ⟨_, by simp only [h1]; rfl, h2⟩
  | binOp op t x y ty =>
    obtain ⟨cv, h1, h2⟩ := sound_binT (P := P) (xo := x) (yo := y) (he x (by simp [Op.operands])) (he y (by simp [Op.operands])) hc
    exact ⟨cv, hval _ _ h1, h2⟩
  | convert src dst x =>
    have hx := he x (by simp [Op.operands])
    obtain ⟨ds, hs⟩ := Option.isSome_iff_exists.1 hok
    simp only [pureF, kindT] at hc ⊢
    generalize e x = u at *
    cases hu : P.underlying dst with
    | none => simp [hu, convF] at hc
    | some d =>
      simp only [hu] at hc ⊢
      cases d <;> first | exact hc.elim | skip
      cases u <;> first | exact hc.elim | skip
      refine ⟨_, hval _ _ ?_, rfl, rfl⟩
      rw [Option.some.inj hx.2]
      simp only [convert, Sem.run_bind, run_underlying hs, run_underlying hu, Result.andThen_ok]
      first | rfl | (cases ds <;> rfl)
  | unOp op t x =>
    have hx := he x (by simp [Op.operands])
    cases op with
    | not => obtain ⟨cv, h1, h2⟩ := sound_not (P := P) hx hc; exact ⟨cv, hval _ _ h1, h2⟩
    | neg => obtain ⟨cv, h1, h2⟩ := sound_neg (P := P) hx hc; exact ⟨cv, hval _ _ h1, h2⟩
    | _ => exact hc.elim
  | fieldAddr s x f =>
    simp only at hok
    split at hok
    · rename_i fd hf
      simp only [Bool.and_eq_true, bne_iff_ne] at hok
      obtain ⟨cv, h1, h2⟩ := sound_fieldAddr (P := P) hf hok.1 hok.2 (he x (by simp [Op.operands])) hc
      exact ⟨cv, hval _ _ h1, h2⟩
    · cases hok
  | field s x f =>
    simp only at hok
    split at hok
    · rename_i fd hf
      obtain ⟨cv, h1, h2⟩ := sound_field (P := P) hf hok (he x (by simp [Op.operands])) hc
      exact ⟨cv, hval _ _ h1, h2⟩
    · cases hok
  | index t x i =>
    obtain ⟨cv, h1, h2⟩ := sound_indexS (P := P) hok (he x (by simp [Op.operands])) (he i (by simp [Op.operands])) hc
    exact ⟨cv, hval _ _ h1, h2⟩
  | slice t x lo hi mx =>
    cases mx with
    | some m => exact hc.elim
    | none =>
      obtain ⟨cv, h1, h2⟩ := sound_slice (P := P) (t := t) (x := x) (lo := lo) (hi := hi) hok (he x (by simp [Op.operands])) (fun y hy => he y (by cases hy; simp [Op.operands])) (fun y hy => he y (by cases hy; simp [Op.operands])) hc
      exact ⟨cv, hval _ _ h1, h2⟩
  | indexAddr t x i =>
    simp only at hok
    split at hok
    · rename_i el hu
      simp only [Bool.and_eq_true, bne_iff_ne] at hok
      have hel : elT P t = el := by simp [elT, hu]
      simp only [pureF, hel] at hc ⊢
      obtain ⟨cv, h1, h2⟩ := sound_indexAddr (P := P) hu hok.1 hok.2 (he x (by simp [Op.operands])) (he i (by simp [Op.operands])) hc
      exact ⟨cv, hval _ _ h1, h2⟩
    · cases hok
  | extract x i =>
    obtain ⟨cv, h1, h2⟩ := sound_extract (P := P) (he x (by simp [Op.operands])) hc
    exact ⟨cv, hval _ _ h1, h2⟩
  | makeFunc g first caps =>
    cases g with
    | func g =>
      have hf0 : first = #[] := by simpa using hok
      subst hf0
      refine ⟨.func (.func g) #[] (caps.map ρ), by simp [Instr.makeFunc], rfl, caps.map ρ, rfl, by simp, ?_⟩
      have hcap : ∀ (l : List Operand), capsOk (l.map e) → (∀ x ∈ l, VR I μ w (e x) (ρ x)) → ∀ j < (l.map e).length, (lst (l.map e) j).leaf = true ∧ LR I μ w (lst (l.map e) j) 1 fun _ => (l.map ρ)[j]? := by
        intro l
        induction l with
        | nil => intro _ _ j hj; simp at hj
        | cons x l ih =>
          rintro ⟨h1, h2⟩ hx j hj
          cases j with
          | zero => exact ⟨h1.1, LR_of_VR h1.1 h1.2 (hx x (by simp))⟩
          | succ j => exact ih h2 (fun y hy => hx y (by simp [hy])) j (by simpa using hj)
      intro j hj
      have := hcap caps.toList hc (fun x hx => he x (by simp [Op.operands]; exact Array.mem_toList_iff.1 hx)) j hj
      refine ⟨this.1, ?_⟩
      have h2 := this.2
      simpa using h2
    | _ => exact hc.elim
  | call c =>
    obtain ⟨callee, args, argTypes⟩ := c
    cases callee with
    | builtin b =>
      cases b with
      | len =>
        simp only [bOk, Bool.and_eq_true, beq_iff_eq] at hok
        obtain ⟨hn, hok⟩ := hok
        obtain ⟨x, rfl⟩ : ∃ x, args = #[x] := by
          rcases args with ⟨l⟩; match l, hn with | [x], _ => exact ⟨x, rfl⟩
        have hx := he x (by simp [Op.operands, Call.operands])
        have ht : argTypes.size = 1 ∧ ((∃ el, P.underlying (argTypes.getD 0 0) = some (.slice el)) ∨ P.underlying (argTypes.getD 0 0) = some .string) := by
          split at hok
          · exact ⟨by simpa using hok, .inl ⟨_, by assumption⟩⟩
          · exact ⟨by simpa using hok, .inr (by assumption)⟩
          · cases hok
        obtain ⟨h1, ht⟩ := ht
        obtain ⟨t, rfl⟩ : ∃ t, argTypes = #[t] := by
          rcases argTypes with ⟨l⟩; match l, h1 with | [t], _ => exact ⟨t, rfl⟩
        obtain ⟨cv, h2, h3⟩ := sound_len (P := P) (ty := o.type) ht hx hc
        refine ⟨cv, ?_, h3⟩
        simp only [resolve, invoke, builtin, Sem.run_bind, Sem.run_pure, Result.andThen_ok, List.map_toArray, List.map_cons, List.map_nil] at h2 ⊢
        have h2' : (Builtin.len_ #[t] o.type #[ρ x]).run P w = .ok cv w := h2
        rw [h2']; rfl
      | cap =>
        obtain ⟨x, rfl⟩ : ∃ x, args = #[x] := by
          simp only [bOk, Bool.and_eq_true, beq_iff_eq] at hok
          rcases args with ⟨l⟩; match l, hok.1 with | [x], _ => exact ⟨x, rfl⟩
        have hx := he x (by simp [Op.operands, Call.operands])
        simp only [bOk, Bool.and_eq_true] at hok
        obtain ⟨-, hok⟩ := hok
        obtain ⟨t, rfl, el, hu⟩ : ∃ t, argTypes = #[t] ∧ ∃ el, P.underlying t = some (.slice el) := by
          split at hok
          · rename_i el hu
            rcases argTypes with ⟨l⟩; match l, (by simpa using hok : l.length = 1) with
              | [t], _ => exact ⟨t, rfl, el, by simpa using hu⟩
          · cases hok
        simp only [pureF, bF] at hc ⊢
        generalize e x = u at *
        cases u <;> first | exact hc.elim | skip
        have h1 := Option.some.inj hx.2
        refine ⟨.int .i64 0, ?_, rfl, rfl⟩
        simp [resolve, invoke, builtin, Builtin.cap_, h1, run_underlying hu, goInt]
      | max =>
        have hargs : (∃ x y, args = #[x, y]) ∨ ∃ x y z, args = #[x, y, z] := by
          simp only [bOk, beq_iff_eq, Bool.or_eq_true] at hok
          rcases args with ⟨l⟩; match l, hok with
            | [x, y], _ => exact .inl ⟨x, y, rfl⟩
            | [x, y, z], _ => exact .inr ⟨x, y, z, rfl⟩
            | [], h => simp at h
            | [_], h => simp at h
            | _ :: _ :: _ :: _ :: _, h => simp at h
        rcases hargs with ⟨x, y, rfl⟩ | ⟨x, y, z, rfl⟩
        · have hx := he x (by simp [Op.operands, Call.operands])
          have hy := he y (by simp [Op.operands, Call.operands])
          simp only [pureF, bF] at hc ⊢
          generalize e x = u at *
          generalize e y = v at *
          cases u <;> first | exact hc.elim | skip
          cases v <;> first | exact hc.elim | skip
          obtain rfl := hc
          have h1 := Option.some.inj hx.2
          have h2 := Option.some.inj hy.2
          refine ⟨_, ?_, rfl, rfl⟩
          simp [resolve, invoke, builtin, Builtin.max_, h1, h2, List.foldlM, Builtin.max2, maxF]
        · have hx := he x (by simp [Op.operands, Call.operands])
          have hy := he y (by simp [Op.operands, Call.operands])
          have hz := he z (by simp [Op.operands, Call.operands])
          simp only [pureF, bF] at hc ⊢
          generalize e x = u at *
          generalize e y = v at *
          generalize e z = t at *
          cases u <;> first | exact hc.1.elim | skip
          cases v <;> first | exact hc.1.elim | skip
          cases t <;> first | exact hc.2.elim | skip
          obtain ⟨hc1, hc2⟩ := hc
          obtain rfl := hc1
          obtain rfl := hc2
          have h1 := Option.some.inj hx.2
          have h2 := Option.some.inj hy.2
          have h3 := Option.some.inj hz.2
          refine ⟨_, ?_, rfl, rfl⟩
          simp [resolve, invoke, builtin, Builtin.max_, h1, h2, h3, List.foldlM, Builtin.max2, maxF]
      | min =>
        have hargs : (∃ x y, args = #[x, y]) ∨ ∃ x y z, args = #[x, y, z] := by
          simp only [bOk, beq_iff_eq, Bool.or_eq_true] at hok
          rcases args with ⟨l⟩; match l, hok with
            | [x, y], _ => exact .inl ⟨x, y, rfl⟩
            | [x, y, z], _ => exact .inr ⟨x, y, z, rfl⟩
            | [], h => simp at h
            | [_], h => simp at h
            | _ :: _ :: _ :: _ :: _, h => simp at h
        rcases hargs with ⟨x, y, rfl⟩ | ⟨x, y, z, rfl⟩
        · have hx := he x (by simp [Op.operands, Call.operands])
          have hy := he y (by simp [Op.operands, Call.operands])
          simp only [pureF, bF] at hc ⊢
          generalize e x = u at *
          generalize e y = v at *
          cases u <;> first | exact hc.elim | skip
          cases v <;> first | exact hc.elim | skip
          obtain rfl := hc
          have h1 := Option.some.inj hx.2
          have h2 := Option.some.inj hy.2
          refine ⟨_, ?_, rfl, rfl⟩
          simp [resolve, invoke, builtin, Builtin.min_, h1, h2, List.foldlM, Builtin.min2, minF]
        · have hx := he x (by simp [Op.operands, Call.operands])
          have hy := he y (by simp [Op.operands, Call.operands])
          have hz := he z (by simp [Op.operands, Call.operands])
          simp only [pureF, bF] at hc ⊢
          generalize e x = u at *
          generalize e y = v at *
          generalize e z = t at *
          cases u <;> first | exact hc.1.elim | skip
          cases v <;> first | exact hc.1.elim | skip
          cases t <;> first | exact hc.2.elim | skip
          obtain ⟨hc1, hc2⟩ := hc
          obtain rfl := hc1
          obtain rfl := hc2
          have h1 := Option.some.inj hx.2
          have h2 := Option.some.inj hy.2
          have h3 := Option.some.inj hz.2
          refine ⟨_, ?_, rfl, rfl⟩
          simp [resolve, invoke, builtin, Builtin.min_, h1, h2, h3, List.foldlM, Builtin.min2, minF]
      | _ => exact hc.elim
    | _ => exact hc.elim
  | _ => exact hc.elim
end Go.Nw
