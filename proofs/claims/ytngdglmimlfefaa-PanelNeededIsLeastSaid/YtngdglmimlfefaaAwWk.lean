/- The abstract walk, part 8: less may be said; loops; whole functions. -/
import Derived.Test.YtngdglmimlfefaaAwRun
namespace Go.Aw
set_option linter.unusedVariables false
set_option linter.unusedSimpArgs false
variable {P : Program} {I : Nat → Prop} {σ : Heap} {w : World}

theorem LR_undef {v : AVal} {sz : Nat} {c : Nat → Option Value} (h : LR I w v sz c) : LR I w .undef sz c := LR_cells h

theorem WkV.lr {F : Nat → Prop} (hinv : Inv I σ w) : ∀ {v u : AVal}, WkV σ F v u → ∀ (sz : Nat) (c : Nat → Option Value), LR I w u sz c → LR (fun b => I b ∨ (F b ∧ σ.get (some b) ≠ none)) w v sz c := by
  intro v u h
  induction h with
  | same v => intro sz c h; exact LR_mono (fun _ h => .inl h) (fun _ _ => rfl) _ _ _ _ (fun _ _ => rfl) h
  | undef v => intro sz c h; exact LR_mono (fun _ h => .inl h) (fun _ _ => rfl) _ _ _ _ (fun _ _ => rfl) (LR_undef h)
  | nil_ref s => rintro sz c ⟨rfl, h⟩; exact ⟨rfl, rfl, rfl, none, h⟩
  | nil_sl s f => rintro sz c ⟨rfl, h⟩; exact ⟨rfl, none, 0, h, .inl rfl⟩
  | ref_nil s e0 cap f k =>
    rintro sz c ⟨rfl, h⟩
    cases k with
    | none => obtain ⟨-, -, a, h⟩ := h; exact ⟨rfl, a, 0, h, .inl rfl⟩
    | some b => exact ⟨rfl, _, cap, h.2, .inl rfl⟩
  | ref_sl b e0 s n cap f r hb hr hs hn h ih =>
    rintro sz c ⟨rfl, hc⟩
    refine ⟨rfl, _, cap, hc.2, .inr ⟨b, e0 * s, rfl, .inr ⟨hb, by simp [hr]⟩, hc.1, fun i hi => ?_⟩⟩
    obtain ⟨cs, ty, hh, -, -, hl⟩ := hinv.row b r hr
    have := hl (e0 + i) (by omega)
    rw [hs] at this
    refine LR_mono (fun _ h => h) (fun _ _ => rfl) _ _ _ _ (fun j hj => ?_) (ih i hi s _ this)
    simp [World.cell?, hh, Nat.add_mul, Nat.add_assoc]
  | sl_sl s n f g h ih =>
    rintro sz c ⟨rfl, a, cap, hc, hd⟩
    refine ⟨rfl, a, cap, hc, ?_⟩
    rcases hd with hd | ⟨b, off, ha, hb, hd⟩
    · exact .inl hd
    · exact .inr ⟨b, off, ha, .inl hb, hd.1, fun i hi => ih i hi s _ (hd.2 i hi)⟩
  | agg n f g hl h ih => rintro sz c ⟨rfl, hf⟩; exact ⟨rfl, fun j hj => ⟨hl j hj, ih j hj 1 _ (hf j hj).2⟩⟩
  | ptr b s e o v r hb hr hs he hc h ih =>
    rintro sz c ⟨rfl, b', hb', hc'⟩
    cases hb'
    obtain ⟨cs, ty, hh, -, -, hl⟩ := hinv.row b r hr
    have := hl e he
    rw [hs] at this
    refine ⟨rfl, b, e * s, hc', .inr ⟨hb, by simp [hr]⟩, ?_⟩
    rw [hc]
    refine LR_mono (fun _ h => h) (fun _ _ => rfl) _ _ _ _ (fun j hj => ?_) (ih s _ this)
    simp [World.cell?, hh]
  | tup n f g h ih => intro sz c h; exact h.elim
  | fn g n f h hl hh ih => rintro sz c ⟨rfl, cs, h1, h2, h3⟩; exact ⟨rfl, cs, h1, h2, fun j hj => ⟨hl j hj, ih j hj 1 _ (h3 j hj).2⟩⟩

theorem WkV.vr {F : Nat → Prop} (hinv : Inv I σ w) {v u : AVal} (h : WkV σ F v u) : ∀ {x : Value} (hx : VR I w u x), VR (fun b => I b ∨ (F b ∧ σ.get (some b) ≠ none)) w v x := by
  induction h with
  | same => intro x hx; exact VR_mono (fun _ h => .inl h) (fun _ _ => rfl) _ _ hx
  | undef => intros; trivial
  | tup n f g h ih => rintro x ⟨vs, rfl, hn, hk⟩; exact ⟨vs, rfl, hn, fun j hj => let ⟨y, hy, hr⟩ := hk j hj; ⟨y, hy, ih j hj hr⟩⟩
  | nil_ref s => intro x hx; exact (WkV.nil_ref (σ := σ) (F := F) s).lr hinv _ _ hx
  | nil_sl s f => intro x hx; exact (WkV.nil_sl (σ := σ) (F := F) s f).lr hinv _ _ hx
  | ref_nil s e0 cap f k => intro x hx; exact (WkV.ref_nil (σ := σ) (F := F) s e0 cap f k).lr hinv _ _ hx
  | ref_sl b e0 s n cap f r hb hr hs hn h _ => intro x hx; exact (WkV.ref_sl b e0 s n cap f r hb hr hs hn h).lr hinv _ _ hx
  | sl_sl s n f g h _ => intro x hx; exact (WkV.sl_sl s n f g h).lr hinv _ _ hx
  | agg n f g hl h _ => intro x hx; obtain ⟨cs, rfl, hn, hk⟩ := hx; exact ⟨cs, rfl, hn, (WkV.agg n f g hl h).lr hinv _ _ hk⟩
  | ptr b s e o v r hb hr hs he hc h _ => intro x hx; exact (WkV.ptr b s e o v r hb hr hs he hc h).lr hinv _ _ hx
  | fn g n f h hl hh _ => intro x hx; exact (WkV.fn g n f h hl hh).lr hinv _ _ hx

theorem Wk.inv {F : Nat → Prop} {σ' : Heap} (hinv : Inv I σ w) (h : WkH σ F σ') : Inv (fun b => I b ∨ (F b ∧ σ.get (some b) ≠ none)) σ' w := by
  refine ⟨fun b hb => ?_, fun b r' hr' => ?_, fun r' hr' => ?_⟩
  · have hlt : b < w.heap.size := by rcases hb with hb | hb
                                     · exact (hinv.imm b hb).1
                                     · exact hinv.lt hb.2
    refine ⟨hlt, ?_⟩
    cases hr : σ'.get (some b) with
    | none => rfl
    | some r' =>
      rcases h _ _ hr with ⟨h1, -⟩ | ⟨b', r, h1, h2, h3, -⟩
      · cases h1
      · cases h1
        rcases hb with hb | hb
        · rw [(hinv.imm b hb).2] at h3; cases h3
        · exact absurd hb.1 h2
  · rcases h _ _ hr' with ⟨h1, -⟩ | ⟨b', r, h1, h2, h3, h4, h5, h6, h7, h8⟩
    · cases h1
    · cases h1
      obtain ⟨cs, ty, hh, h9, h10, h11⟩ := hinv.row b r h3
      refine ⟨cs, ty, hh, h5, Nat.le_trans (by rw [h7]; exact Nat.mul_le_mul_right _ h6) h10, fun e he => ?_⟩
      rw [h7]
      exact (h8 e he).lr hinv _ _ (h11 e (by omega))
  · rcases h _ _ hr' with ⟨-, h1⟩ | ⟨b', r, h1, -⟩
    · exact h1
    · cases h1

theorem St.wk {N : Nat} {I0 : Nat → Prop} {σ0 : Heap} {w0 : World} {τ τ' : Slots} {σ σ' : Heap} {a : Act} {w : World} (h : St N I0 σ0 w0 τ σ a w) (k : Wk τ σ τ' σ') : St N I0 σ0 w0 τ' σ' a w := by
  obtain ⟨I, hinv, hT, hX, hN, hD⟩ := h
  obtain ⟨F, hS, hH⟩ := k
  refine ⟨_, Wk.inv hinv hH, fun i => (hS i).vr hinv (hT i), ⟨hX.os, hX.tape, hX.output, hX.size, hX.old, fun b hb => .inl (hX.imm b hb), fun b hb => ?_, fun b hb => ?_⟩, hN, hD⟩
  · rcases hb with hb | ⟨-, hb⟩
    · exact hX.imm' b hb
    · rcases hX.row b hb with h | h
      · exact .inr (.inr h)
      · exact .inr (.inl h)
  · cases hr : σ'.get (some b) with
    | none => exact absurd hr hb
    | some r' =>
      rcases hH _ _ hr with ⟨h1, -⟩ | ⟨b', r, h1, h2, h3, -⟩
      · cases h1
      · exact hX.row b (by rw [h3]; simp)
end Go.Aw
