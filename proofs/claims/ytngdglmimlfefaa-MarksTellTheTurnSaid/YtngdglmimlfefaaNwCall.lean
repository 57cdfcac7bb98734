/- The named walk, part 10: how contracts are used. -/
import Derived.Test.YtngdglmimlfefaaNwCode
namespace Go.Nw
set_option linter.unusedVariables false
set_option linter.unusedSimpArgs false
variable {P : Program}

/-- A function called: the rows ks are handed to it; others may be lent (z), if what comes back says nothing of them. -/
theorem call_m {f : FuncId} {args args' : List AVal} {σ σa : Heap} {R K : AVal → Heap → Prop} (z : Bool) (ks : List Nat) (h : ACalls P f args' σa R) (hl : Lend σ (rho ks) z args' args) (hH : WkH σ (rho ks) z σa) (hn : σa.nx = ks.length)
    (hnd : ks.Nodup) (hlt : ∀ j ∈ ks, j < σ.nx) (hz : z = true → ∀ r σr, R r σr → r.free ∧ ∀ k q, σr.get k = some q → ∀ v ∈ q.l, v.free)
    (hK : ∀ r σr, R r σr → K (r.ren (kap ks σ.nx)) (mergeH σ ks σr)) : CallTo P f args σ K := by
  refine ⟨fun r' σ' => ∃ r σr, R r σr ∧ r' = r.ren (kap ks σ.nx) ∧ σ' = mergeH σ ks σr, ⟨h.1, fun I μ w cargs hinv hA => ?_⟩, by rintro r' σ' ⟨r, σr, h1, rfl, rfl⟩; exact hK r σr h1⟩
  obtain ⟨hia, hba⟩ := Wk.inv hinv hH
  refine (h.2 _ _ w cargs hia (hl.rel hinv hA)).mono ?_
  rintro e w' ⟨cv, r, σr, I', μ', rfl, hr, hv, hinv', hx, hm⟩
  have hget := merge_get (σ := σ) (σr := σr) hnd hlt
  -- where all lies, behind the call
  obtain ⟨μ1, hμ1⟩ : ∃ μ1 : Where, ∀ k, μ1 k = if k.1 < σ.nx then (μ k).or (if k.1 ∈ ks then μ' (ks.idxOf k.1, k.2) else none) else μ' (k.1 - σ.nx + ks.length, k.2) := ⟨_, fun _ => rfl⟩
  have hat : ∀ j i, j < ks.length → (rho ks).at_ μ (j, i) = μ (ks.getD j 0, i) := fun j i hj => by simp only [Ren.at_, rho, if_pos hj]
  have hle : μ.le μ1 := fun k x hk => by
    rw [hμ1, if_pos (hinv.nm k (by simp [hk])), hk]; rfl
  have hκ : ∀ k x, μ' k = some x → μ1 (kap ks σ.nx k) = some x := by
    rintro ⟨j, i⟩ x hk
    rw [hμ1]
    simp only [kap, kapN]
    by_cases hj : j < ks.length
    · have hmem : ks.getD j 0 ∈ ks := by simp [hj]
      simp only [if_pos hj]
      rw [if_pos (hlt _ hmem), if_pos hmem, idxOf_get hnd j hj, hk]
      cases hq : μ (ks.getD j 0, i) with
      | none => rfl
      | some y =>
        have := hm (j, i) y (by rw [hat j i hj]; exact hq)
        rw [hk] at this; cases this; rfl
    · simp only [if_neg hj]
      rw [if_neg (by omega), show σ.nx + (j - ks.length) - σ.nx + ks.length = j by omega]; exact hk
  -- what is written no longer, behind the call
  obtain ⟨I1, hI1⟩ : ∃ I1 : Nat → Prop, ∀ b, I1 b ↔ if z = true then I b else I' b := ⟨_, fun _ => Iff.rfl⟩
  have himm : ∀ b, Imm I μ σ (rho ks) z b → I' b := fun b hb => hx.imm b hb
  have hII : ∀ b, I b → I1 b := fun b hb => by
    rw [hI1]; split
    · exact hb
    · exact himm b (.inl hb)
  have hv1 : ∀ {v : AVal}, (z = true → v.free) → ∀ {x : Value}, VR I' μ' w' v x → VR I1 μ1 w' (v.ren (kap ks σ.nx)) x := by
    intro v hf x hx
    have := ren_vr hκ v x hx
    by_cases hz1 : z = true
    · exact free_vr _ (ren_free (hf hz1)) _ this
    · exact VR_mono (fun b hb => by rw [hI1, if_neg hz1]; exact hb) (Where.le_refl μ1) (fun _ _ => rfl) _ _ this
  have hl1 : ∀ {v : AVal}, (z = true → v.free) → ∀ {sz : Nat} {c : Nat → Option Value}, LR I' μ' w' v sz c → LR I1 μ1 w' (v.ren (kap ks σ.nx)) sz c := by
    intro v hf sz c hx
    have := ren_lr hκ v sz c hx
    by_cases hz1 : z = true
    · exact free_lr _ (ren_free (hf hz1)) _ _ this
    · exact LR_mono (fun b hb => by rw [hI1, if_neg hz1]; exact hb) (fun _ _ => rfl) _ _ _ (Where.le_refl μ1) _ _ _ (fun _ _ => rfl) this
  -- the blocks of the rows handed over
  have hpass : ∀ b, Blk ((rho ks).at_ μ) σa b → ∃ k C, k.1 ∈ ks ∧ σ.get k ≠ none ∧ μ k = some (some (b, C)) := by
    rintro b ⟨⟨j, i⟩, C, h1, h2⟩
    obtain ⟨r', hr'⟩ := Option.ne_none_iff_exists'.1 h1
    have hj : j < ks.length := by have := hia.nm (j, i) (by simp [h2]); rw [hn] at this; exact this
    rw [hat j i hj] at h2
    rcases hH.row (j, i) r' hr' with ⟨h3, -⟩ | ⟨k0, r0, h3, h4, -⟩
    · simp only [rho, if_pos hj] at h3; cases h3
    · simp only [rho, if_pos hj] at h3; cases h3
      exact ⟨_, C, by simp [hj], by rw [h4]; exact Option.some_ne_none _, h2⟩
  have hframe : ∀ k b C, ¬ k.1 ∈ ks → σ.get k ≠ none → μ k = some (some (b, C)) → ¬ Blk ((rho ks).at_ μ) σa b := by
    intro k b C h1 h2 h3 hb
    obtain ⟨k', C', h4, h5, h6⟩ := hpass b hb
    have := hinv.inj k k' b C C' h2 h5 h3 h6
    subst this; exact h1 h4
  have hold : ∀ k b C, ¬ k.1 ∈ ks → σ.get k ≠ none → μ k = some (some (b, C)) → w'.heap[b]? = w.heap[b]? := fun k b C h1 h2 h3 =>
    hx.old b (hinv.lt ⟨k, C, h2, h3⟩) (hframe k b C h1 h2 h3)
  have hkeep : ∀ b, I b → w'.heap[b]? = w.heap[b]? := fun b hb => hx.old b (hinv.imm b hb).1 fun h => (hinv.imm b hb).2 (hba b h)
  -- a row behind the call: one of the callee's, or one that was not handed over
  have hcase : ∀ k q, (mergeH σ ks σr).get k = some q → (∃ j q0, invN ks σ.nx k.1 = some j ∧ σr.get (j, k.2) = some q0 ∧ q = q0.ren (kap ks σ.nx)) ∨ (¬ k.1 ∈ ks ∧ σ.get k = some q) := by
    intro k q hq
    rw [hget] at hq
    cases hi : (invN ks σ.nx k.1).bind fun j => (σr.get (j, k.2)).map (Row.ren (kap ks σ.nx)) with
    | none =>
      rw [hi] at hq
      simp only [Option.none_or] at hq
      split at hq
      · cases hq
      · exact .inr ⟨by assumption, hq⟩
    | some q' =>
      rw [hi] at hq
      simp only [Option.some_or] at hq
      cases hq
      cases hj : invN ks σ.nx k.1 with
      | none => rw [hj] at hi; cases hi
      | some j =>
        rw [hj] at hi
        simp only [Option.bind_some] at hi
        cases hg : σr.get (j, k.2) with
        | none => rw [hg] at hi; cases hi
        | some q0 => rw [hg] at hi; cases hi; exact .inl ⟨j, q0, by first | rfl | exact hj, by first | rfl | exact hg, rfl⟩
  have hkapk : ∀ (k : Key) j, invN ks σ.nx k.1 = some j → kap ks σ.nx (j, k.2) = k := fun k j hj => Prod.ext ((kap_inv hnd hlt j k.1).2 hj) rfl
  have hblk : ∀ b, Blk μ1 (mergeH σ ks σr) b → Blk μ' σr b ∨ ∃ k C, ¬ k.1 ∈ ks ∧ σ.get k ≠ none ∧ μ k = some (some (b, C)) := by
    rintro b ⟨k, C, h1, h2⟩
    obtain ⟨q, hq⟩ := Option.ne_none_iff_exists'.1 h1
    rcases hcase k q hq with ⟨j, q0, h3, h4, -⟩ | ⟨h3, h4⟩
    · obtain ⟨x, hx1, -⟩ := hinv'.row (j, k.2) q0 h4
      have := hκ _ _ hx1
      rw [hkapk k j h3, h2] at this
      cases this
      exact .inl ⟨(j, k.2), C, by simp [h4], hx1⟩
    · obtain ⟨x, hx1, -⟩ := hinv.row k q h4
      have := hle _ _ hx1
      rw [h2] at this; cases this
      exact .inr ⟨k, C, h3, by simp [h4], hx1⟩
  have hsep : ∀ k b C, ¬ k.1 ∈ ks → σ.get k ≠ none → μ k = some (some (b, C)) → ¬ Blk μ' σr b := by
    intro k b C h1 h2 h3 h4
    rcases hx.row b h4 with h | h
    · exact hframe k b C h1 h2 h3 h
    · have := hinv.lt ⟨k, C, h2, h3⟩; omega
  refine ⟨cv, _, _, I1, μ1, rfl, ⟨r, σr, hr, rfl, rfl⟩, hv1 (fun h => (hz h r σr hr).1) hv, ⟨fun b hb => ?_, fun k q hq => ?_, fun k k' b C C' h1 h2 h3 h4 => ?_, fun k hk => ?_⟩, ⟨hx.os, hx.tape, hx.output, hx.size, fun b hb hs => hx.old b hb fun h => hs (hba b h), hII, fun b hb => ?_, fun b hb => ?_, hx.drawn⟩, hle⟩
  · rw [hI1] at hb
    by_cases hz1 : z = true
    · rw [if_pos hz1] at hb
      refine ⟨Nat.lt_of_lt_of_le (hinv.imm b hb).1 hx.size, fun h => ?_⟩
      rcases hblk b h with h | ⟨k, C, h1, h2, h3⟩
      · rcases hx.row b h with h | h
        · exact (hinv.imm b hb).2 (hba b h)
        · have := (hinv.imm b hb).1; omega
      · exact (hinv.imm b hb).2 ⟨k, C, h2, h3⟩
    · rw [if_neg hz1] at hb
      refine ⟨(hinv'.imm b hb).1, fun h => ?_⟩
      rcases hblk b h with h | ⟨k, C, h1, h2, h3⟩
      · exact (hinv'.imm b hb).2 h
      · rcases hx.imm' b hb with h | h | h
        · rcases h with h | ⟨h, -⟩
          · exact (hinv.imm b h).2 ⟨k, C, h2, h3⟩
          · exact hz1 h
        · have := hinv.lt ⟨k, C, h2, h3⟩; omega
        · exact hframe k b C h1 h2 h3 h
  · rcases hcase k q hq with ⟨j, q0, h3, h4, rfl⟩ | ⟨h3, h4⟩
    · obtain ⟨x, hx1, hrow⟩ := hinv'.row (j, k.2) q0 h4
      have := hκ _ _ hx1
      rw [hkapk k j h3] at this
      refine ⟨x, this, ?_⟩
      cases x with
      | none => simp only at hrow ⊢; simp [Row.ren, hrow]
      | some p =>
        obtain ⟨cs, ty, hh, a1, a2, a3⟩ := hrow
        refine ⟨cs, ty, hh, by simpa [Row.ren] using a1, a2, fun e he => ?_⟩
        have he' : e < q0.l.length := by simpa [Row.ren] using he
        have hg : (q0.ren (kap ks σ.nx)).l[e] = (q0.l[e]).ren (kap ks σ.nx) := by simp [Row.ren]
        rw [hg]
        exact hl1 (fun h => (hz h r σr hr).2 _ _ h4 _ (List.getElem_mem _)) (a3 e he')
    · obtain ⟨x, hx1, hrow⟩ := hinv.row k q h4
      refine ⟨x, hle _ _ hx1, ?_⟩
      cases x with
      | none => exact hrow
      | some p =>
        obtain ⟨cs, ty, hh, a1, a2, a3⟩ := hrow
        exact ⟨cs, ty, by rw [hold k p.1 p.2 h3 (by simp [h4]) hx1]; exact hh, a1, a2, fun e he => LR_mono hII hkeep _ _ _ hle _ _ _ (fun _ _ => rfl) (a3 e he)⟩
  · obtain ⟨q, hq⟩ := Option.ne_none_iff_exists'.1 h1
    obtain ⟨q', hq'⟩ := Option.ne_none_iff_exists'.1 h2
    have hown : ∀ k q C, (mergeH σ ks σr).get k = some q → μ1 k = some (some (b, C)) → (∃ j, invN ks σ.nx k.1 = some j ∧ σr.get (j, k.2) ≠ none ∧ μ' (j, k.2) = some (some (b, C))) ∨ (¬ k.1 ∈ ks ∧ σ.get k ≠ none ∧ μ k = some (some (b, C))) := by
      intro k q C hq hk
      rcases hcase k q hq with ⟨j, q0, h3, h4, rfl⟩ | ⟨h3, h4⟩
      · obtain ⟨x, hx1, -⟩ := hinv'.row (j, k.2) q0 h4
        have := hκ _ _ hx1
        rw [hkapk k j h3, hk] at this; cases this
        exact .inl ⟨j, h3, by simp [h4], hx1⟩
      · obtain ⟨x, hx1, -⟩ := hinv.row k q h4
        have := hle _ _ hx1
        rw [hk] at this; cases this
        exact .inr ⟨h3, by simp [h4], hx1⟩
    rcases hown k q C hq h3 with ⟨j, a1, a2, a3⟩ | ⟨a1, a2, a3⟩
    · rcases hown k' q' C' hq' h4 with ⟨j', b1, b2, b3⟩ | ⟨b1, b2, b3⟩
      · have := hinv'.inj _ _ b C C' a2 b2 a3 b3
        have e1 := hkapk k j a1
        have e2 := hkapk k' j' b1
        rw [← e1, ← e2, this]
      · exact (hsep k' b C' b1 b2 b3 ⟨_, C, a2, a3⟩).elim
    · rcases hown k' q' C' hq' h4 with ⟨j', b1, b2, b3⟩ | ⟨b1, b2, b3⟩
      · exact (hsep k b C a1 a2 a3 ⟨_, C', b2, b3⟩).elim
      · exact hinv.inj k k' b C C' a2 b2 a3 b3
  · rw [hμ1] at hk
    show k.1 < σ.nx + (σr.nx - ks.length)
    split at hk
    · omega
    · have := hinv'.nm _ hk
      simp only at this; omega
  · rw [hI1] at hb
    split at hb
    · exact .inl hb
    · rename_i hz1
      rcases hx.imm' b hb with h | h | h
      · rcases h with h | ⟨h, -⟩
        · exact .inl h
        · exact absurd h hz1
      · exact .inr (.inl h)
      · exact .inr (.inr (hba b h))
  · rcases hblk b hb with h | ⟨k, C, h1, h2, h3⟩
    · rcases hx.row b h with h | h
      · exact .inl (hba b h)
      · exact .inr h
    · exact .inl ⟨k, C, h2, h3⟩
end Go.Nw
