/- The named walk, part 9c: one operation, what it comes to. -/
import Derived.Test.YtngdglmimlfefaaNwMer
namespace Go.Nw
set_option linter.unusedVariables false
set_option linter.unusedSimpArgs false
variable {P : Program}
section
variable {N : Nat} {I0 : Nat → Prop} {μ0 : Where} {B0 : Nat → Prop} {w0 : World}
/-- A call in an open region that is handed rows. -/
theorem rstop_sound {I : Nat → Prop} {μ : Where} {σ : Heap} {n p : Nat} {w : World} {o : Oper} {a : Act} {next : Act → World → Prop} {Q : Exit → Act → World → Prop} {e : Operand → AVal} {K : AVal → Heap → Prop}
    (hok : opOk P o.op = true) (he : ∀ x ∈ o.op.operands, VR I μ w (e x) (a.eval x)) (hinv : Inv I μ (σ.bump n) w) (hS : RStop P o.op e σ p K) (hp1 : σ.nx ≤ p) (hp2 : p < σ.nx + n) (hp3 : ∀ i, μ (p, i) = none)
    (hn : ∀ r σ' I' μ' cv w', K r σ' → VR I' μ' w' r cv → Inv I' μ' (σ'.bump n) w' → Ext I I' (Blk μ σ) (Blk μ' σ') w w' → μ.le μ' → (∀ k : Key, k.1 ≠ p → σ.nx ≤ k.1 → μ k = none → μ' k = none) → σ'.nx = σ.nx → next (a.put o.dst cv) w') : o.wp P a w next Q := by
  cases hop : o.op with
  | call c =>
    rw [hop] at he hS
    obtain ⟨callee, args, argTypes⟩ := c
    have hargs : ∀ x ∈ args.toList, VR I μ w (e x) (a.eval x) := fun x hx => he x (by simp only [Op.operands, Call.operands]; exact Array.mem_append_right _ (Array.mem_toList_iff.1 hx))
    have harel : ARel I μ w (args.toList.map e) (args.map a.eval) := by
      refine ⟨by simp, fun j hj => ?_⟩
      have hj' : j < args.toList.length := by simpa using hj
      refine ⟨a.eval args.toList[j], ?_, ?_⟩
      · have : j < args.size := by simpa using hj'
        simp [this]
      · rw [lst_map _ _ hj']; exact hargs _ (List.getElem_mem _)
    cases callee with
    | value f =>
      cases f with
      | func g =>
        obtain ⟨z, ks, args', σa, σr, r, h1, h2, h3, h4, h5, h6, h7, h8, h9⟩ := hS
        have hle : HLe σ (σ.bump n) := fun k q hq => hq
        have hrun : (execOp a.eval o).run P w = .ok (.enter g (args.map a.eval)) w := by
          simp only [execOp, hop, resolve, Deferred.ofValue, Act.eval, Sem.run_bind, Sem.run_pure, Result.andThen_ok, invoke]
          rw [run_callFunc _ h1.1]; simp
        unfold Oper.wp
        rw [hrun, Oper.upon_enter]
        refine (call_gen z ks p h1 (h2.hle hle) (h3.hle hle) h4 h5 (fun j hj => Nat.lt_of_lt_of_le (h6 j hj).1 hp1) h7.1 h8 hp2 hinv harel hp3).mono ?_
        rintro e w' ⟨cv, I1, μ1, rfl, k1, k2, k3, k4, k5⟩
        exact hn _ _ I1 μ1 cv w' h9 k1 k2 k3 k4 (fun k q1 q2 q3 => k5 k q1 q3 fun hm => by have := (h6 _ hm).1; omega) rfl
      | _ => exact hS.elim
    | _ => exact hS.elim
  | _ => rw [hop] at hS; exact hS.elim
theorem op_sound {q : Rg} {n : Nat} {U : Nat → Prop} {ops : Array Oper} {Q : Exit → Act → World → Prop} {K : Slots → Heap → Prop} (hok : regOk P N ops = true) {i : Nat} (hi : i < ops.size)
    {τ : Slots} {σ : Heap} {a : Act} {w : World} (h : Stp P q ops.toList (ops.getD i default) τ σ K) (hS : StG n U N I0 μ0 B0 w0 τ σ a w) (hq1 : ∀ rc, q = some rc → n = lim ∧ (namer rc (ops.getD i default) = true → U ((ops.getD i default).dst.getD 0))) (hq0 : q = none → n = 0 ∧ ∀ d, ¬ U d) :
    wpOp P ops Q i (fun a w => ∃ τ σ, K τ σ ∧ StG n (fun x => U x ∧ ¬ (namer (q.getD []) (ops.getD i default) = true ∧ (ops.getD i default).dst.getD 0 = x)) N I0 μ0 B0 w0 τ σ a w) a w := by
  have hio : ops[i]? = some ops[i] := Array.getElem?_eq_getElem hi
  obtain ⟨ho1, ho2, ho3⟩ := reg_ok hok hio
  have hgd : ops.getD i default = ops[i] := by simp [hi]
  obtain ⟨I, μ, hinv, hT, hX, hN, hD, hM, hU⟩ := hS
  rw [hgd] at h hq1 ⊢
  generalize ops[i] = o at *
  have hops : ∀ x ∈ o.op.operands, opdOk x = true := by
    unfold opOk at ho1
    simp only [Bool.and_eq_true, Array.all_eq_true'] at ho1
    exact ho1.1
  have hev : ∀ x ∈ o.op.operands, VR I μ w (ev τ x) (a.eval x) := fun x hx => hT.ev (hops x hx)
  have hstep : ∀ (v : AVal) (cv : Value) (σ' : Heap) (I' : Nat → Prop) (μ' : Where) (w' : World), VR I' μ' w' v cv → Inv I' μ' (σ'.bump n) w' → Ext I I' (Blk μ σ) (Blk μ' σ') w w' → μ.le μ' →
      (∀ x, U x → ¬ (namer (q.getD []) o = true ∧ o.dst.getD 0 = x) → x < n ∧ ∀ i, μ' (σ'.nx + x, i) = none) →
      K (putd τ o.dst v) σ' → ∃ τ σ, K τ σ ∧ StG n (fun x => U x ∧ ¬ (namer (q.getD []) o = true ∧ o.dst.getD 0 = x)) N I0 μ0 B0 w0 τ σ (a.put o.dst cv) w' := by
    intro v cv σ' I' μ' w' hv hi' hx hm hu hr
    exact ⟨_, _, hr, I', μ', hi', (hT.mono hx.imm hm (fun b hb => hx.old b (hinv.imm b hb).1 (hinv.imm b hb).2)).put hN ho2 hv, hX.trans hx, by rw [put_size.1]; exact hN, by rw [put_size.2]; exact hD, Where.le_trans hM hm, fun d hd => hu d hd.1 hd.2⟩
  have hUs : ∀ x, U x → ¬ (namer (q.getD []) o = true ∧ o.dst.getD 0 = x) → x < n ∧ ∀ i, μ (σ.nx + x, i) = none := fun x hx _ => hU x hx
  simp only [wpOp, hio]
  unfold Stp at h
  cases hg : o.guard with
  | none =>
    simp only [hg] at h
    have hw : Region.wanted o (yielded ops a.tmps) = true := by simp [Region.wanted, hg]
    rw [if_pos hw]
    refine .inl ?_
    cases hk : kindOf o.op with
    | pure =>
      simp only [hk] at h
      obtain ⟨cv, hrun, hv⟩ := pure_sound (P := P) hk ho1 hev hinv h.1
      unfold Oper.wp
      rw [hrun, Oper.upon_value]
      exact hstep _ _ _ _ _ _ hv hinv (Ext.refl _ _ _) (Where.le_refl μ) hUs h.2
    | eff =>
      simp only [hk] at h
      have hnm : isStore o.op = false → namer (q.getD []) o = true := by
        intro hs
        unfold namer cls; rw [hk, hs]; simp only; split <;> rfl
      by_cases hst : q.isSome = true ∧ isStore o.op = true
      · obtain ⟨hq, hst⟩ := hst
        obtain ⟨rc, rfl⟩ := Option.isSome_iff_exists.1 hq
        obtain ⟨rfl, -⟩ := hq1 rc rfl
        obtain ⟨t, x, y, hop⟩ : ∃ t x y, o.op = .store t x y := by
          cases ho : o.op <;> rw [ho] at hst <;> first | exact ⟨_, _, _, rfl⟩ | cases hst
        unfold opOk at ho1
        rw [hop] at ho1 hev h
        rw [Bool.and_eq_true] at ho1
        obtain ⟨w', hrun, hi', hx⟩ := store_sound (P := P) (e := ev τ) (ρ := a.eval) (σ := σ.bump lim) ho1.2 (hev x (by simp [Op.operands])) (hev y (by simp [Op.operands])) hinv (by
          have := effF_bump (P := P) (.store t x y) (ev τ) σ (σ.nx + o.dst.getD 0) lim
          have h2 : (effF P (.store t x y) (ev τ) (σ.bump lim) (σ.nx + o.dst.getD 0)).1 := by rw [this]; exact h.1
          exact h2)
        have hb := effF_bump (P := P) (.store t x y) (ev τ) σ (σ.nx + o.dst.getD 0) lim
        have hb2 : (storeF (szT P t) (σ.bump lim) (ev τ x) (ev τ y)).2 = ((storeF (szT P t) σ (ev τ x) (ev τ y)).2).bump lim := congrArg (fun z => z.2.2) hb
        rw [hb2] at hi' hx
        have hnx := effF_nx (P := P) (.store t x y) (ev τ) σ (σ.nx + o.dst.getD 0)
        have hr : (execOp a.eval o).run P w = .ok .skip w' := by unfold execOp; rw [hop]; simp [hrun]
        unfold Oper.wp
        rw [hr, Oper.upon_skip]
        refine hstep .undef undef _ _ _ _ trivial hi' hx (Where.le_refl μ) (fun x1 hx1 hx2 => ?_) h.2
        rw [show (storeF (szT P t) σ (ev τ x) (ev τ y)).2.nx = σ.nx from hnx]; exact hU x1 hx1
      -- the name, and how many names are taken
      obtain ⟨p, m, hp, hpm, hpn, hout⟩ : ∃ p m, (q.isSome = true → p = σ.nx + o.dst.getD 0 ∧ m = n) ∧ p < σ.nx + m ∧ μ (p, 0) = none ∧ ((q = none → p = σ.nx ∧ m = 1 ∧ n = 0) ∧ Inv I μ (σ.bump m) w) := by
        cases q with
        | some rc =>
          have h1 := hq1 rc rfl
          have h2 := hU _ (h1.2 (hnm (Bool.eq_false_iff.2 fun e => hst ⟨rfl, e⟩)))
          exact ⟨_, n, fun _ => ⟨rfl, rfl⟩, Nat.add_lt_add_left h2.1 _, h2.2 0, nofun, hinv⟩
        | none =>
          obtain ⟨rfl, -⟩ := hq0 rfl
          exact ⟨σ.nx, 1, nofun, Nat.lt_succ_self _, by
            cases hm : μ (σ.nx, 0) with
            | none => rfl
            | some x => exact absurd (hinv.nm _ (by rw [hm]; exact Option.some_ne_none _)) (Nat.lt_irrefl _), fun _ => ⟨rfl, rfl, rfl⟩, hinv.bump 1⟩
      obtain ⟨hp0, hinv1⟩ := hout
      have hc : (effF P o.op (ev τ) (σ.bump m) p).1 := by
        rw [effF_bump]
        cases q with
        | some rc => rw [(hp rfl).1]; exact h.1
        | none => rw [(hp0 rfl).1]; exact h.1
      obtain ⟨cv, w', μ', hrun, hv, hi', hx, hm⟩ := eff_sound (P := P) hk ho1 hev hinv1 hpn hpm hc
      rw [effF_bump] at hv hi' hx
      have hnx := effF_nx (P := P) o.op (ev τ) σ p
      have hfin : ∃ τ σ, K τ σ ∧ StG n (fun x => U x ∧ ¬ (namer (q.getD []) o = true ∧ o.dst.getD 0 = x)) N I0 μ0 B0 w0 τ σ (a.put o.dst cv) w' := by
        cases q with
        | some rc =>
          obtain ⟨rfl, rfl⟩ := hp rfl
          refine hstep _ _ _ _ _ _ hv hi' hx hm.1 (fun x hx1 hx2 => ⟨(hU x hx1).1, fun i => ?_⟩) h.2
          rw [hnx, hm.2 (σ.nx + x, i) (fun e => hx2 ⟨hnm (Bool.eq_false_iff.2 fun e => hst ⟨rfl, e⟩), Nat.add_left_cancel (Eq.symm e)⟩)]
          exact (hU x hx1).2 i
        | none =>
          obtain ⟨rfl, rfl, rfl⟩ := hp0 rfl
          exact hstep _ _ _ _ _ _ hv hi' hx hm.1 (fun x hx1 _ => absurd hx1 ((hq0 rfl).2 x)) h.2
      unfold Oper.wp
      rcases hrun with hrun | ⟨hrun, rfl⟩
      · rw [hrun, Oper.upon_value]; exact hfin
      · rw [hrun, Oper.upon_skip]; exact hfin
    | call =>
      simp only [hk] at h
      cases q with
      | some rc =>
        cases hrc : rcl rc o with
        | true =>
          simp only [hrc] at h
          obtain ⟨rfl, hn⟩ := hq1 rc rfl
          have hnm : namer rc o = true := by
            have hs : isStore o.op = false := by cases ho : o.op <;> first | rfl | (rw [ho] at hk; cases hk)
            unfold namer cls; rw [hk, hs]; simp [hrc]
          have h2 := hU _ (hn hnm)
          refine rstop_sound (P := P) ho1 hev hinv h (by omega) (Nat.add_lt_add_left h2.1 _) h2.2 ?_
          intro r σ' I' μ' cv w' hK hv hi' hx hm hoth hnx
          refine hstep _ _ _ _ _ _ hv hi' hx hm (fun x hx1 hx2 => ⟨(hU x hx1).1, fun i => ?_⟩) hK
          rw [hnx, hoth (σ.nx + x, i) (fun e => hx2 ⟨hnm, Nat.add_left_cancel (Eq.symm e)⟩) (Nat.le_add_right _ _) ((hU x hx1).2 i)]
        | false =>
        simp only [hrc] at h
        obtain ⟨r, hr, hK⟩ := h
        obtain ⟨rfl, -⟩ := hq1 rc rfl
        refine qstop_sound (P := P) ho1 hev hinv (hr rfl) ?_
        intro I' cv w' hv hi' hx
        exact hstep _ _ _ _ _ _ hv hi' hx (Where.le_refl μ) hUs hK
      | none =>
        obtain ⟨rfl, hu0⟩ := hq0 rfl
        refine stop_sound (P := P) hk ho1 hev (σ := σ) hinv h ?_
        intro r σ' I' μ' cv w' hK hv hi' hx hm
        exact hstep _ _ _ _ _ _ hv hi' hx hm (fun x hx1 _ => absurd hx1 (hu0 x)) hK
  | some g =>
    obtain ⟨j, want⟩ := g
    simp only [hg] at h
    obtain ⟨oj, d, hoj, hd, hdN⟩ := ho3 j want hg
    have hdst : dstAt ops.toList j = d := by rw [dstAt_eq _ j oj (by simpa using hoj), hd]; rfl
    rw [hdst] at h
    have hsl := hT d
    have hlt : d < a.tmps.size := by rw [hN]; exact hdN
    cases hgd : gdF want (τ.get d) with
    | none => simp only [hgd] at h
    | some G =>
      simp only [hgd] at h
      have hw : Region.wanted o (yielded ops a.tmps) = G := by
        have hy : ∀ t, a.tmps.getD d undef = .bool t → Region.wanted o (yielded ops a.tmps) = (t == want) := by
          intro t h1
          have h2 : a.tmps[d]? = some (.bool t) := by
            rw [Array.getElem?_eq_getElem hlt]; simp [hlt] at h1; rw [h1]
          have hy : yielded ops a.tmps j = some t := by simp [yielded, hoj, hd, h2]
          simp only [Region.wanted, hg, hy]
          cases t <;> cases want <;> rfl
        cases hv : τ.get d with
        | bool t =>
          rw [hv] at hsl hgd
          have hgd : some (t == want) = some G := hgd
          rw [hy t (Option.some.inj hsl.2)]; exact Option.some.inj hgd
        | when g v =>
          rw [hv] at hsl hgd
          cases v with
          | bool t =>
            have hgd : some (g && (t == want)) = some G := hgd
            rw [← Option.some.inj hgd]
            cases hgg : g with
            | true => rw [hy t (Option.some.inj (hsl.1 hgg).2)]; rfl
            | false =>
              have h1 := hsl.2 hgg
              have h2 : a.tmps[d]? = some undef := by
                rw [Array.getElem?_eq_getElem hlt]; simp [hlt] at h1; rw [h1]
              have hy : yielded ops a.tmps j = none := by simp [yielded, hoj, hd, h2, undef]
              simp [Region.wanted, hg, hy]
          | _ => simp [gdF] at hgd
        | _ => rw [hv] at hgd; simp [gdF] at hgd
      rw [hw]
      cases hk : kindOf o.op with
      | pure =>
        simp only [hk] at h
        by_cases ht : G = true
        · rw [if_pos ht]
          refine .inl ?_
          obtain ⟨cv, hrun, hv⟩ := guarded_sound (P := P) hk ho1 hev hinv ht (h.1 ht)
          unfold Oper.wp
          rw [hrun, Oper.upon_value]
          exact hstep (.when G _) _ _ _ _ _ ⟨fun _ => hv, fun hf => by rw [ht] at hf; cases hf⟩ hinv (Ext.refl _ _ _) (Where.le_refl μ) hUs h.2
        · rw [if_neg ht]
          exact hstep (.when G _) undef _ _ _ _ ⟨fun h => absurd h ht, fun _ => rfl⟩ hinv (Ext.refl _ _ _) (Where.le_refl μ) hUs h.2
      | call =>
        simp only [hk] at h
        obtain ⟨r, hr, hc2, hK⟩ := h
        by_cases ht : G = true
        · rw [if_pos ht]
          refine .inl ?_
          have hn' : Inv I μ (σ.bump lim) w ∨ True := .inr trivial
          cases q with
          | some rc =>
            obtain ⟨rfl, -⟩ := hq1 rc rfl
            refine qstop_sound (P := P) (e := fun x => (ev τ x).strip) ho1 (fun x hx => VR_okw ht (okAll_mem (hc2 ht) x (Array.mem_toList_iff.2 hx)) (hev x hx)) hinv (hr ht) ?_
            intro I' cv w' hv hi' hx
            exact hstep (.when G _) _ _ _ _ _ ⟨fun _ => hv, fun hf => by rw [ht] at hf; cases hf⟩ hi' hx (Where.le_refl μ) hUs hK
          | none =>
            obtain ⟨rfl, hu0⟩ := hq0 rfl
            refine qstop_sound (P := P) (e := fun x => (ev τ x).strip) ho1 (fun x hx => VR_okw ht (okAll_mem (hc2 ht) x (Array.mem_toList_iff.2 hx)) (hev x hx)) (hinv.bump lim) (hr ht) ?_
            intro I' cv w' hv hi' hx
            have hi0 : Inv I' μ (σ.bump 0) w' := ⟨hi'.imm, hi'.row, hi'.inj, hinv.nm⟩
            exact hstep (.when G _) _ _ _ _ _ ⟨fun _ => hv, fun hf => by rw [ht] at hf; cases hf⟩ hi0 hx (Where.le_refl μ) (fun x hx1 _ => absurd hx1 (hu0 x)) hK
        · rw [if_neg ht]
          exact hstep (.when G _) undef _ _ _ _ ⟨fun h => absurd h ht, fun _ => rfl⟩ hinv (Ext.refl _ _ _) (Where.le_refl μ) hUs hK
      | _ => simp only [hk] at h

theorem run_sound {ops : Array Oper} {Q : Exit → Act → World → Prop} {K : Slots → Heap → Prop} (hok : regOk P N ops = true)
    (hQ : ∀ τ σ a w, K τ σ → St N I0 μ0 B0 w0 τ σ a w → Q .normal a w) : ∀ (l : List Nat) (τ : Slots) (σ : Heap) (a : Act) (w : World), (∀ i ∈ l, i < ops.size) →
    Stps P none ops.toList (l.map fun i => ops.getD i default) τ σ K → St N I0 μ0 B0 w0 τ σ a w → wpOps P ops Q l a w
  | [], τ, σ, a, w, _, h, hS => hQ τ σ a w h hS
  | i :: l, τ, σ, a, w, hl, h, hS => by
    rw [wpOps_cons]
    obtain ⟨I, μ, h1, h2, h3, h4, h5, h6⟩ := hS
    refine wpOp_mono ?_ (op_sound (n := 0) (U := fun _ => False) hok (hl i (by simp)) h ⟨I, μ, h1, h2, h3, h4, h5, h6, nofun⟩ nofun (fun _ => ⟨rfl, fun _ => id⟩))
    rintro a w ⟨τ, σ, hk, I, μ, h1, h2, h3, h4, h5, h6, -⟩
    exact run_sound hok hQ l τ σ a w (fun j hj => hl j (by simp [hj])) hk ⟨I, μ, h1, h2, h3, h4, h5, h6⟩
end
end Go.Nw
