/- The named walk, part 8: less may be said; loops; whole functions. -/
import Derived.Test.YtngdglmimlfefaaNwRun
namespace Go.Nw
set_option linter.unusedVariables false
set_option linter.unusedSimpArgs false
variable {P : Program} {I : Nat → Prop} {μ : Where} {σ : Heap} {w : World}

/-- where the rows of the new names lie -/
def Ren.at_ (ρ : Ren) (μ : Where) : Where := fun k => match ρ k with
  | none => none
  | some none => some none
  | some (some k0) => μ k0
/-- what is written no longer -/
def Imm (I : Nat → Prop) (μ : Where) (σ : Heap) (ρ : Ren) (z : Bool) (b : Nat) : Prop := I b ∨ z = true ∧ ∃ k C, σ.get k ≠ none ∧ μ k = some (some (b, C)) ∧ ∀ k', ρ k' ≠ some (some k)
theorem LR_undef {v : AVal} {sz : Nat} {c : Nat → Option Value} (h : LR I μ w v sz c) : LR I μ w .undef sz c := LR_cells h
theorem LR_imm {ρ : Ren} {z : Bool} {v : AVal} {sz : Nat} {c : Nat → Option Value} (h : LR I μ w v sz c) : LR (Imm I μ σ ρ z) μ w v sz c := LR_mono (fun _ h => .inl h) (fun _ _ => rfl) _ _ _ (Where.le_refl μ) _ _ _ (fun _ _ => rfl) h
theorem row_at (hinv : Inv I μ σ w) {k : Key} {r : Row} {b C : Nat} (hr : σ.get k = some r) (hk : μ k = some (some (b, C))) : RowOk I μ w b C r := by
  obtain ⟨x, hx, h⟩ := hinv.row k r hr
  rw [hk] at hx; cases hx; exact h

theorem WkV.lr {ρ : Ren} {z : Bool} (hinv : Inv I μ σ w) : ∀ {v u : AVal}, WkV σ ρ z v u → ∀ (sz : Nat) (c : Nat → Option Value), LR I μ w u sz c → LR (Imm I μ σ ρ z) (ρ.at_ μ) w v sz c := by
  intro v u h
  induction h with
  | same v hn => intro sz c h; exact LR_nameless hn (LR_imm h)
  | undef v => intro sz c h; exact LR_undef (LR_nameless (v := .undef) trivial (LR_imm (LR_undef h)))
  | sref k k0 e0 s n hk => rintro sz c ⟨rfl, x, a, cap, h1, h2⟩; exact ⟨rfl, x, a, cap, by simp only [Ren.at_, hk]; exact h1, h2⟩
  | ptr k k0 s e o hk => rintro sz c ⟨rfl, b, C, h1, h2⟩; exact ⟨rfl, b, C, by simp only [Ren.at_, hk]; exact h1, h2⟩
  | nil_ref k s hk => rintro sz c ⟨rfl, h⟩; exact ⟨rfl, none, none, 0, by simp only [Ren.at_, hk], h, Nat.le_refl _, rfl⟩
  | nil_sl s f => rintro sz c ⟨rfl, h⟩; exact ⟨rfl, none, 0, h, .inl rfl⟩
  | ref_nil s e0 f k => rintro sz c ⟨rfl, x, a, cap, h1, h2, -⟩; exact ⟨rfl, a, cap, h2, .inl rfl⟩
  | ref_sl k e0 s n f r hz hb hr hs hn hf h ih =>
    rintro sz c ⟨rfl, x, a, cap, h1, h2, h3, h4⟩
    refine ⟨rfl, a, cap, h2, ?_⟩
    rcases Nat.eq_zero_or_pos n with h0 | h0
    · exact .inl h0
    · cases x with
      | none => simp only at h4; omega
      | some p =>
        obtain ⟨b, C⟩ := p
        simp only at h4
        refine .inr ⟨b, e0 * s, h4.2.resolve_left (by omega), .inr ⟨hz, k, C, by simp [hr], h1, hb⟩, h3, fun i hi => ?_⟩
        obtain ⟨cs, ty, hh, -, -, hl⟩ := row_at hinv hr h1
        have := hl (e0 + i) (by omega)
        rw [hs] at this
        have hg : r.l.getD (e0 + i) r.d = r.l[e0 + i]'(by omega) := by simp [show e0 + i < r.l.length by omega]
        have h6 := ih i hi s (fun j => w.cell? ⟨b, e0 * s + i * s + j, none⟩) (by rw [hg]; exact LR_to (fun j hj => by simp [World.cell?, hh, Nat.add_mul, Nat.add_assoc]) this)
        exact LR_nameless (hf i hi) h6
  | sl_sl s n f g h =>
    rintro sz c ⟨rfl, a, cap, hc, hd⟩
    refine ⟨rfl, a, cap, hc, ?_⟩
    rcases hd with hd | ⟨b, off, ha, hb, hd⟩
    · exact .inl hd
    · exact .inr ⟨b, off, ha, .inl hb, hd.1, fun i hi => by rw [h i hi]; exact LR_mono (fun _ h => .inl h) (fun _ _ => rfl) _ _ _ (Where.le_refl W0) _ _ _ (fun _ _ => rfl) (hd.2 i hi)⟩
  | agg n f g hl h ih => rintro sz c ⟨rfl, hf⟩; exact ⟨rfl, fun j hj => ⟨hl j hj, ih j hj 1 _ (hf j hj).2⟩⟩
  | iptr k s e o v r hz hb hr hs he hc hv h ih =>
    rintro sz c ⟨rfl, b, C, h1, h2⟩
    obtain ⟨cs, ty, hh, -, -, hl⟩ := row_at hinv hr h1
    have := hl e he
    rw [hs] at this
    refine ⟨rfl, b, e * s, h2, .inr ⟨hz, k, C, by simp [hr], h1, hb⟩, ?_⟩
    rw [hc]
    have hg : r.l.getD e r.d = r.l[e] := by simp [he]
    exact LR_nameless hv (ih s _ (by rw [hg]; exact LR_to (fun j hj => by simp [World.cell?, hh]) this))
  | tup n f g h ih => intro sz c h; exact h.elim
  | fn g n f h hl hh ih => rintro sz c ⟨rfl, cs, h1, h2, h3⟩; exact ⟨rfl, cs, h1, h2, fun j hj => ⟨hl j hj, ih j hj 1 _ (h3 j hj).2⟩⟩

theorem WkV.vr {ρ : Ren} {z : Bool} (hinv : Inv I μ σ w) {v u : AVal} (h : WkV σ ρ z v u) : ∀ {x : Value} (hx : VR I μ w u x), VR (Imm I μ σ ρ z) (ρ.at_ μ) w v x := by
  induction h with
  | same v hn => intro x hx; exact VR_nameless hn (VR_mono (fun _ h => .inl h) (Where.le_refl μ) (fun _ _ => rfl) _ _ hx)
  | undef => intros; trivial
  | tup n f g h ih => rintro x ⟨vs, rfl, hn, hk⟩; exact ⟨vs, rfl, hn, fun j hj => let ⟨y, hy, hr⟩ := hk j hj; ⟨y, hy, ih j hj hr⟩⟩
  | sref k k0 e0 s n hk => intro x hx; exact (WkV.sref (σ := σ) (z := z) k k0 e0 s n hk).lr hinv _ _ hx
  | ptr k k0 s e o hk => intro x hx; exact (WkV.ptr (σ := σ) (z := z) k k0 s e o hk).lr hinv _ _ hx
  | nil_ref k s hk => intro x hx; exact (WkV.nil_ref (σ := σ) (z := z) k s hk).lr hinv _ _ hx
  | nil_sl s f => intro x hx; exact (WkV.nil_sl (σ := σ) (ρ := ρ) (z := z) s f).lr hinv _ _ hx
  | ref_nil s e0 f k => intro x hx; exact (WkV.ref_nil (σ := σ) (ρ := ρ) (z := z) s e0 f k).lr hinv _ _ hx
  | ref_sl k e0 s n f r hz hb hr hs hn hf h _ => intro x hx; exact (WkV.ref_sl k e0 s n f r hz hb hr hs hn hf h).lr hinv _ _ hx
  | sl_sl s n f g h => intro x hx; exact (WkV.sl_sl (σ := σ) (ρ := ρ) (z := z) s n f g h).lr hinv _ _ hx
  | agg n f g hl h _ => intro x hx; obtain ⟨cs, rfl, hn, hk⟩ := hx; exact ⟨cs, rfl, hn, (WkV.agg n f g hl h).lr hinv _ _ hk⟩
  | iptr k s e o v r hz hb hr hs he hc hv h _ => intro x hx; exact (WkV.iptr k s e o v r hz hb hr hs he hc hv h).lr hinv _ _ hx
  | fn g n f h hl hh _ => intro x hx; exact (WkV.fn g n f h hl hh).lr hinv _ _ hx

theorem Wk.inv {ρ : Ren} {z : Bool} {σ' : Heap} (hinv : Inv I μ σ w) (h : WkH σ ρ z σ') : Inv (Imm I μ σ ρ z) (ρ.at_ μ) σ' w ∧ ∀ b, Blk (ρ.at_ μ) σ' b → Blk μ σ b := by
  have hblk : ∀ k b C, σ'.get k ≠ none → ρ.at_ μ k = some (some (b, C)) → ∃ k0, ρ k = some (some k0) ∧ σ.get k0 ≠ none ∧ μ k0 = some (some (b, C)) := by
    intro k b C hg hk
    obtain ⟨r', hr'⟩ := Option.ne_none_iff_exists'.1 hg
    rcases h.row k r' hr' with ⟨h1, -⟩ | ⟨k0, r, h1, h2, -⟩
    · simp only [Ren.at_, h1] at hk; cases hk
    · simp only [Ren.at_, h1] at hk; exact ⟨k0, h1, by simp [h2], hk⟩
  refine ⟨⟨fun b hb => ?_, fun k r' hr' => ?_, fun k k' b C C' h1 h2 h3 h4 => ?_, fun k hk => h.nm k fun hn => hk (by simp only [Ren.at_, hn])⟩, fun b ⟨k, C, h1, h2⟩ => let ⟨k0, _, h3, h4⟩ := hblk k b C h1 h2; ⟨k0, C, h3, h4⟩⟩
  · rcases hb with hb | ⟨-, k, C, h1, h2, h3⟩
    · refine ⟨(hinv.imm b hb).1, ?_⟩
      rintro ⟨k, C, h1, h2⟩
      obtain ⟨k0, -, h3, h4⟩ := hblk k b C h1 h2
      exact (hinv.imm b hb).2 ⟨k0, C, h3, h4⟩
    · refine ⟨hinv.lt ⟨k, C, h1, h2⟩, ?_⟩
      rintro ⟨k', C', h4, h5⟩
      obtain ⟨k0, h6, h7, h8⟩ := hblk k' b C' h4 h5
      have := hinv.inj k0 k b C' C h7 h1 h8 h2
      subst this
      exact h3 k' h6
  · rcases h.row k r' hr' with ⟨h1, h2⟩ | ⟨k0, r, h1, h2, h3, h4, h5⟩
    · exact ⟨none, by simp only [Ren.at_, h1], h2⟩
    · obtain ⟨x, hx, hrow⟩ := hinv.row k0 r h2
      refine ⟨x, by simp only [Ren.at_, h1]; exact hx, ?_⟩
      cases x with
      | none =>
        simp only at hrow ⊢
        rw [hrow] at h3
        exact List.eq_nil_of_length_eq_zero (by simpa using h3)
      | some p =>
        obtain ⟨cs, ty, hh, a1, a2, a3⟩ := hrow
        refine ⟨cs, ty, hh, Nat.le_trans h3 a1, by rw [h4]; exact a2, fun e he => ?_⟩
        have h6 := (h5 e he).lr hinv r.sz (fun j => cs[e * r.sz + j]?) (by
          have := a3 e (by omega)
          have hg : r.l.getD e r.d = r.l[e]'(by omega) := by simp [show e < r.l.length by omega]
          rw [hg]; exact this)
        have hg : r'.l.getD e r'.d = r'.l[e] := by simp [he]
        rw [hg] at h6
        rw [h4]; exact h6
  · obtain ⟨k0, a1, a2, a3⟩ := hblk k b C h1 h3
    obtain ⟨k0', b1, b2, b3⟩ := hblk k' b C' h2 h4
    have := hinv.inj k0 k0' b C C' a2 b2 a3 b3
    subst this
    exact h.inj k k' k0 h1 h2 a1 b1
theorem Imm_ext {ρ : Ren} {z : Bool} {B' : Nat → Prop} {I0 B0 : Nat → Prop} {w0 : World} (hX : Ext I0 I B0 (Blk μ σ) w0 w) (hb : ∀ b, B' b → Blk μ σ b) : Ext I0 (Imm I μ σ ρ z) B0 B' w0 w := by
  refine ⟨hX.os, hX.tape, hX.output, hX.size, hX.old, fun b hb => .inl (hX.imm b hb), fun b hb => ?_, fun b h => hX.row b (hb b h), hX.drawn⟩
  rcases hb with hb | ⟨-, k, C, h1, h2, -⟩
  · exact hX.imm' b hb
  · rcases hX.row b ⟨k, C, h1, h2⟩ with h | h
    · exact .inr (.inr h)
    · exact .inr (.inl h)

theorem St.wk {N c0 : Nat} {I0 : Nat → Prop} {μ0 : Where} {B0 : Nat → Prop} {w0 : World} {τ τ' : Slots} {σ σ' : Heap} {a : Act} {w : World} (hc : ∀ k, μ0 k ≠ none → k.1 < c0) (h : St N I0 μ0 B0 w0 τ σ a w) (k : Wk c0 τ σ τ' σ') : St N I0 μ0 B0 w0 τ' σ' a w := by
  obtain ⟨I, μ, hinv, hT, hX, hN, hD, hM⟩ := h
  obtain ⟨ρ, h0, hS, hH⟩ := k
  obtain ⟨hi, hb⟩ := Wk.inv hinv hH
  refine ⟨_, _, hi, fun i => (hS i).vr hinv (hT i), Imm_ext hX hb, hN, hD, fun k x hk => ?_⟩
  have := h0 k (hc k (by simp [hk]))
  simp only [Ren.at_, this]
  exact hM k x hk
end Go.Nw
