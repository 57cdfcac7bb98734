/- The abstract walk, part 9: code, whole functions, calls. -/
import Derived.Test.YtngdglmimlfefaaNwOrd
namespace Go.Nw
set_option linter.unusedVariables false
set_option linter.unusedSimpArgs false
variable {P : Program}

/-- A loop by a relation with a number that every round lowers. -/
theorem wp_loop_rel {c : Code} {Q : Exit → Act → World → Prop} {a : Act} {w : World} (R : Nat → Act → World → Prop) (n₀ : Nat) (h₀ : R n₀ a w)
    (round : ∀ n a w, R n a w → c.wp P (Exit.then (fun a' w' => ∃ m, m < n ∧ R m a' w') Q) a w) : (Code.loop c).wp P Q a w := by
  intro b k cs
  have key : ∀ n a w, R n a w → ∃ e a' w', Q e a' w' ∧ Arrives P (lone (b.at a (.code c :: .inLoop c :: k)) cs w) b k cs e a' w' := by
    intro n
    induction n using Nat.strongRecOn with
    | _ n ih =>
      intro a w hR
      obtain ⟨e, a₁, w₁, hq, harr⟩ := round n a w hR b (.inLoop c :: k) cs
      cases e with
      | normal =>
        obtain ⟨m, hm, hR₁⟩ := hq
        obtain ⟨e₂, a₂, w₂, hq₂, harr₂⟩ := ih m hm a₁ w₁ hR₁
        exact ⟨e₂, a₂, w₂, hq₂, .of_steps (Steps.trans harr (.one step_inLoop)) harr₂⟩
      | exit id => exact ⟨_, a₁, w₁, hq, .pass (x := .inLoop c) rfl (fun _ _ => .inl (by simp)) harr⟩
      | goto l => exact ⟨_, a₁, w₁, hq, .pass (x := .inLoop c) rfl (fun _ _ => .inl (by simp)) harr⟩
      | ret => exact ⟨_, a₁, w₁, hq, .pass (x := .inLoop c) rfl (fun _ _ => .inl (by simp)) harr⟩
      | panic ch => exact ⟨_, a₁, w₁, hq, .pass (x := .inLoop c) rfl (fun _ _ => .inl (by simp)) harr⟩
      | outgrown => exact ⟨_, a₁, w₁, hq, .pass (x := .inLoop c) rfl (fun _ _ => .inl (by simp)) harr⟩
  obtain ⟨e, a', w', hq, harr⟩ := key n₀ a w h₀
  exact ⟨e, a', w', hq, .of_steps (.one step_loop) harr⟩

def AExit.of : AExit → Exit
  | .normal => .normal
  | .ret => .ret
  | .exit n => .exit n
def codeOk (P : Program) (N : Nat) (cf : Cfg) : Code → Bool
  | .skip | .ret | .exit _ => true
  | .region id ops d => regOk P N ops && (if d = true then P.follows .mixedOrders && drawOk ops.toList ((cf.ord id).getD (List.range ops.size)) (cf.prs id) else (cf.ord id).isNone)
  | .seq a b => codeOk P N cf a && codeOk P N cf b
  | .cond c x y => opdOk c && codeOk P N cf x && codeOk P N cf y
  | .block _ c => codeOk P N cf c
  | .loop c => codeOk P N cf c
  | _ => false

section
variable {N : Nat} {cf : Cfg} {I0 : Nat → Prop} {μ0 : Where} {B0 : Nat → Prop} {w0 : World}
/-- what the machine comes to, said by the abstract walk's ends -/
def Post (N : Nat) (I0 : Nat → Prop) (μ0 : Where) (B0 : Nat → Prop) (w0 : World) (Q : AExit → Slots → Heap → Prop) (e : Exit) (a : Act) (w : World) : Prop :=
  ∃ e' τ σ, e = AExit.of e' ∧ Q e' τ σ ∧ St N I0 μ0 B0 w0 τ σ a w

theorem cut_sound (hc0 : ∀ k, μ0 k ≠ none → k.1 < cf.c0) {A : (AExit → Slots → Heap → Prop) → Slots → Heap → Prop} {Q : AExit → Slots → Heap → Prop} {τ : Slots} {σ : Heap} {X : (Exit → Act → World → Prop) → Prop} (hX : ∀ {Q Q'}, (∀ e a w, Q e a w → Q' e a w) → X Q → X Q')
    (hA : ∀ Q, A Q τ σ → X (Post N I0 μ0 B0 w0 Q)) (h : Cut cf A Q τ σ) : X (Post N I0 μ0 B0 w0 Q) := by
  rcases h with h | ⟨J, h1, h2⟩
  · exact hA Q h
  · refine hX ?_ (hA _ h1)
    rintro e a w ⟨e', τ', σ', rfl, hq, hs⟩
    cases e' with
    | normal => obtain ⟨τ2, σ2, hw, hj⟩ := hq; exact ⟨.normal, τ2, σ2, rfl, h2 _ _ hj, hs.wk hc0 hw⟩
    | ret => exact ⟨.ret, τ', σ', rfl, hq, hs⟩
    | exit n => exact ⟨.exit n, τ', σ', rfl, hq, hs⟩
theorem awp_sound (hc0 : ∀ k, μ0 k ≠ none → k.1 < cf.c0) : ∀ (c : Code), codeOk P N cf c = true → ∀ (Q : AExit → Slots → Heap → Prop) (τ : Slots) (σ : Heap) (a : Act) (w : World),
    awp P cf c Q τ σ → St N I0 μ0 B0 w0 τ σ a w → c.wp P (Post N I0 μ0 B0 w0 Q) a w := by
  intro c
  induction c with
  | skip => intro _ Q τ σ a w h hS; exact wp_skip ⟨.normal, τ, σ, rfl, h, hS⟩
  | ret => intro _ Q τ σ a w h hS; exact wp_ret ⟨.ret, τ, σ, rfl, h, hS⟩
  | exit n => intro _ Q τ σ a w h hS; exact wp_exit ⟨.exit n, τ, σ, rfl, h, hS⟩
  | region id ops d =>
    intro hok Q τ σ a w h hS
    simp only [codeOk, Bool.and_eq_true] at hok
    obtain ⟨hok, hm⟩ := hok
    have hmap : ((List.range ops.size).map fun i => ops.getD i default) = ops.toList := by
      apply List.ext_getElem?
      intro i
      by_cases hi : i < ops.size
      · simp [hi]
      · simp [hi]
    have hord : ∀ (q : Rg) (K : Slots → Heap → Prop), Run P q ops.toList (ordOps (cf.ord id) ops.toList) τ σ True K → Run P q ops.toList (((cf.ord id).getD (List.range ops.size)).map fun i => ops.getD i default) τ σ True K := by
      intro q K h
      cases ho : cf.ord id with
      | none => rw [ho] at h; simp only [Option.getD_none]; rw [hmap]; exact h
      | some l =>
        rw [ho] at h
        have : ∀ i, ops.toList.getD i default = ops.getD i default := fun i => by simp
        simp only [ordOps, this] at h
        exact h
    cases d with
    | false =>
      have h' := hord none (Q .normal) h
      have hn : cf.ord id = none := by simpa using hm
      rw [hn] at h'
      exact wp_region (run_sound (K := Q .normal) hok (fun τ σ a w hk hs => ⟨.normal, τ, σ, rfl, hk, hs⟩) (List.range ops.size) τ σ a w (fun i hi => by simpa using hi) (run_stps _ _ _ _ h').2 hS)
    | true =>
      have h' := hord _ _ h
      simp only [if_true, Bool.and_eq_true] at hm
      refine region_draw (K := fun τ σ => prsOk P σ.nx τ ops.toList (cf.prs id) ∧ Run P none ops.toList (tailOps (cf.ord id) ops.toList) τ (σ.bump lim) True (Q .normal)) (K2 := Q .normal) hm.1 hok hm.2 (fun τ σ hk => hk.1) (fun τ σ hk => ?_)
        (fun τ σ a w hk hs => ⟨.normal, τ, _, rfl, hk, hs⟩) (run_stps _ _ _ _ h').2 hS
      have ht : tailOps (cf.ord id) ops.toList = (List.range' ((cf.ord id).getD (List.range ops.size)).length (ops.size - ((cf.ord id).getD (List.range ops.size)).length)).map fun i => ops.getD i default := by
        have key : ∀ n, ops.toList.drop n = (List.range' n (ops.size - n)).map fun i => ops.getD i default := fun n => by
          apply List.ext_getElem?
          intro i
          by_cases hi : n + i < ops.size
          · have h2 : i < ops.size - n := by omega
            simp [hi, h2, List.getElem?_range']
          · have h2 : ¬ i < ops.size - n := by omega
            simp [h2]
        cases ho : cf.ord id with
        | none => simp [tailOps]
        | some l => simp only [tailOps, dropL_eq, Option.getD_some]; exact key _
      rw [← ht]
      exact (run_stps _ _ _ _ hk.2).2
  | seq x y ihx ihy =>
    intro hok Q τ σ a w h hS
    simp only [codeOk, Bool.and_eq_true] at hok
    refine wp_seq (wp_mono (ihx hok.1 _ τ σ a w h hS) ?_)
    rintro e a' w' ⟨e', τ', σ', rfl, hq, hs⟩
    cases e' with
    | normal => exact ihy hok.2 Q τ' σ' a' w' hq hs
    | ret => exact ⟨.ret, τ', σ', rfl, hq, hs⟩
    | exit n => exact ⟨.exit n, τ', σ', rfl, hq, hs⟩
  | cond x p q ihp ihq =>
    intro hok Q τ σ a w h hS
    simp only [codeOk, Bool.and_eq_true] at hok
    refine cut_sound (X := fun Q => (Code.cond x p q).wp P Q a w) hc0 (fun hm h => wp_mono h hm) (fun Q h => ?_) h
    obtain ⟨I, μ, hinv, hT, hX, hN, hD⟩ := hS
    have hv := hT.ev hok.1.1
    simp only [Ways] at h
    cases hb : ev τ x with
    | bool t =>
      rw [hb] at h hv
      have hc := Option.some.inj hv.2
      refine wp_cond_split hc (fun ht => ihp hok.1.2 Q τ σ a w (h.1 ht) ⟨I, μ, hinv, hT, hX, hN, hD⟩) (fun ht => ihq hok.2 Q τ σ a w (h.2 ht) ⟨I, μ, hinv, hT, hX, hN, hD⟩)
    | anyb =>
      rw [hb] at h hv
      obtain ⟨-, t, hc⟩ := hv
      exact wp_cond_split (Option.some.inj hc) (fun _ => ihp hok.1.2 Q τ σ a w h.1 ⟨I, μ, hinv, hT, hX, hN, hD⟩) (fun _ => ihq hok.2 Q τ σ a w h.2 ⟨I, μ, hinv, hT, hX, hN, hD⟩)
    | _ => rw [hb] at h; exact h.elim
  | block id c ih =>
    intro hok Q τ σ a w h hS
    refine cut_sound (X := fun Q => (Code.block id c).wp P Q a w) hc0 (fun hm h => wp_mono h hm) (fun Q h => ?_) h
    refine wp_block (wp_mono (ih hok _ τ σ a w h hS) ?_)
    rintro e a' w' ⟨e', τ', σ', rfl, hq, hs⟩
    cases e' with
    | normal => exact ⟨.normal, τ', σ', rfl, hq, hs⟩
    | ret => exact ⟨.ret, τ', σ', rfl, hq, hs⟩
    | exit n =>
      simp only [AExit.of, Exit.inBlock]
      simp only [AExit.blk] at hq
      by_cases hn : n = id
      · rw [if_pos hn]; rw [if_pos hn] at hq; exact ⟨.normal, τ', σ', rfl, hq, hs⟩
      · rw [if_neg hn]; rw [if_neg hn] at hq; exact ⟨.exit n, τ', σ', rfl, hq, hs⟩
  | loop c ih =>
    intro hok Q τ σ a w h hS
    obtain ⟨J, ⟨n, τ1, σ1, hw, hJ⟩, hround⟩ := h
    refine wp_loop_rel (fun n a w => ∃ τ σ, J n τ σ ∧ St N I0 μ0 B0 w0 τ σ a w) n ⟨τ1, σ1, hJ, hS.wk hc0 hw⟩ ?_
    rintro n a w ⟨τ, σ, hJ, hS⟩
    refine wp_mono (ih hok _ τ σ a w (hround n τ σ hJ) hS) ?_
    rintro e a' w' ⟨e', τ', σ', rfl, hq, hs⟩
    cases e' with
    | normal => obtain ⟨m, τ2, σ2, hw, hJ2, hm⟩ := hq; exact ⟨m, hm, τ2, σ2, hJ2, hs.wk hc0 hw⟩
    | ret => exact ⟨.ret, τ', σ', rfl, hq, hs⟩
    | exit n => exact ⟨.exit n, τ', σ', rfl, hq, hs⟩
  | _ => intro hok; simp [codeOk] at hok
end

/-! Whole functions. -/
/-- What a result variable holds. -/
def resF (P : Program) (τ : Slots) (σ : Heap) : ResultVar → Prop × AVal
  | .tmp t => (True, τ.get t)
  | .cell a t => loadF (szT P t) (aggT P t) σ (τ.get a)
def resOk (P : Program) : ResultVar → Bool
  | .tmp _ => true
  | .cell _ t => loadOk P t
/-- The results of a function: one, or several. -/
def resV : List AVal → AVal
  | [v] => v
  | vs => tup vs
def resC (P : Program) (τ : Slots) (σ : Heap) : List ResultVar → Prop
  | [] => True
  | r :: rs => (resF P τ σ r).1 ∧ resC P τ σ rs
/-- The end of a function: what is handed back. -/
def Ret (P : Program) (c0 : Nat) (rs : List ResultVar) (R : AVal → Heap → Prop) (τ : Slots) (σ : Heap) : Prop :=
  resC P τ σ rs ∧ ∃ r σ', (∃ ρ : Ren, (∀ k : Key, k.1 < c0 → ρ k = some (some k)) ∧ WkV σ ρ true r (resV (rs.map fun x => (resF P τ σ x).2)) ∧ WkH σ ρ true σ') ∧ R r σ'
/-- Where a function ends. -/
def Ends (P : Program) (c0 : Nat) (rs : List ResultVar) (R : AVal → Heap → Prop) : AExit → Slots → Heap → Prop
  | .normal => Ret P c0 rs R
  | .ret => Ret P c0 rs R
  | .exit _ => fun _ _ => False
def argSlots : Nat → List AVal → Slots
  | _, [] => []
  | k, v :: l => (k, v) :: argSlots (k + 1) l
theorem argSlots_get : ∀ (l : List AVal) (k i : Nat), (argSlots k l).get i = if k ≤ i ∧ i < k + l.length then lst l (i - k) else .undef
  | [], k, i => by simp [argSlots, Slots.get]; omega
  | v :: l, k, i => by
    simp only [argSlots, Slots.get]
    by_cases hi : i = k
    · subst hi; rw [if_pos rfl, if_pos (by simp)]; simp [lst]
    · rw [if_neg hi, argSlots_get l (k + 1) i]
      by_cases h : k + 1 ≤ i ∧ i < k + 1 + l.length
      · rw [if_pos h, if_pos (by simp; omega), show i - k = (i - (k + 1)) + 1 by omega]; rfl
      · rw [if_neg h, if_neg (by simp; omega)]

def resM (tmps : Array Value) (r : ResultVar) : Sem Value :=
  match r with
  | .tmp t => pure (tmps.getD t undef)
  | .cell a t => do loadVar t (← asAddr (tmps.getD a undef))
theorem results_eq (fn : Func) (tmps : Array Value) : results fn tmps = (do let vs ← fn.results.mapM (resM tmps); pure (if h : vs.size = 1 then vs[0] else .tuple vs)) := rfl
theorem results_sound {fn : Func} {I : Nat → Prop} {μ : Where} {σ : Heap} {w : World} {τ : Slots} {tmps : Array Value} (hok : fn.results.toList.all (resOk P) = true) (hinv : Inv I μ σ w) (hT : TR I μ w τ tmps) (hc : resC P τ σ fn.results.toList) :
    ∃ v, (results fn tmps).run P w = .ok v w ∧ VR I μ w (resV (fn.results.toList.map fun x => (resF P τ σ x).2)) v := by
  have hlist : ∀ (l : List ResultVar), l.all (resOk P) = true → resC P τ σ l → ∃ vs : List Value, (l.mapM (resM tmps)).run P w = .ok vs w ∧ vs.length = l.length ∧ ∀ j (h : j < l.length) (h' : j < vs.length), VR I μ w (resF P τ σ l[j]).2 vs[j] := by
    intro l
    induction l with
    | nil => intro _ _; exact ⟨[], by simp, rfl, fun j h => by simp at h⟩
    | cons r l ih =>
      intro hok hc
      simp only [List.all_cons, Bool.and_eq_true] at hok
      obtain ⟨vs, h1, h2, h3⟩ := ih hok.2 hc.2
      have hr : ∃ v, (resM tmps r).run P w = .ok v w ∧ VR I μ w (resF P τ σ r).2 v := by
        cases r with
        | tmp t => exact ⟨_, rfl, hT t⟩
        | cell a t =>
          have hx := hT a
          obtain ⟨cv, h4, h5⟩ := sound_load (P := P) (e := fun _ => τ.get a) (ρ := fun _ => tmps.getD a undef) (x := .tmp a) hok.1 hx hinv hc.1
          refine ⟨cv, ?_, h5⟩
          have hp : ∃ ad, tmps.getD a undef = .pointer (some ad) := by
            have hc1 := hc.1
            simp only [resF] at hc1
            generalize τ.get a = v at *
            cases v with
            | ptr k s e o => obtain ⟨-, b, C, -, hb⟩ := hx; exact ⟨_, Option.some.inj hb⟩
            | iptr v o => obtain ⟨-, b, off, hb, -⟩ := hx; exact ⟨_, Option.some.inj hb⟩
            | _ => exact hc1.elim
          obtain ⟨ad, had⟩ := hp
          simp only [Instr.loadAt, had, Instr.sureAddr, Sem.run_bind, Sem.run_pure, Result.andThen_ok] at h4
          simp only [resM, had, asAddr, Sem.run_bind, Sem.run_pure, Result.andThen_ok]
          exact h4
      obtain ⟨v, hr1, hr2⟩ := hr
      refine ⟨v :: vs, ?_, by simp [h2], fun j h h' => ?_⟩
      · simp only [List.mapM_cons, Sem.run_bind, hr1, Result.andThen_ok, h1, Sem.run_pure]
      · cases j with
        | zero => exact hr2
        | succ j => exact h3 j (by simpa using h) (by simpa using h')
  obtain ⟨vs, h1, h2, h3⟩ := hlist _ hok hc
  have hrun : (results fn tmps).run P w = .ok (if h : vs.toArray.size = 1 then vs.toArray[0] else .tuple vs.toArray) w := by
    simp only [results_eq, Array.mapM_eq_mapM_toList, Sem.run_bind, Sem.run_map, h1, Result.andThen_ok, Sem.run_pure]
  refine ⟨_, hrun, ?_⟩
  generalize fn.results.toList = l at *
  match l, vs, h2, h3 with
  | [r], [v], _, h3 => exact h3 0 (by simp) (by simp)
  | [], [], _, _ => exact ⟨#[], rfl, rfl, fun j hj => by simp at hj⟩
  | r1 :: r2 :: l, v1 :: v2 :: vs, h2, h3 =>
    simp only [List.size_toArray, List.length_cons]
    rw [dif_neg (by omega)]
    refine ⟨_, rfl, by simpa using h2, fun j hj => ?_⟩
    have hj1 : j < (r1 :: r2 :: l).length := by simpa using hj
    have hj2 : j < (v1 :: v2 :: vs).length := by rw [h2]; exact hj1
    refine ⟨(v1 :: v2 :: vs)[j], by simp [hj2], ?_⟩
    have hl : ∀ (m : List ResultVar) (j : Nat) (h : j < m.length), lst (m.map fun x => (resF P τ σ x).2) j = (resF P τ σ m[j]).2 := by
      intro m
      induction m with
      | nil => intro j h; simp at h
      | cons x m ih => intro j h; cases j with
        | zero => rfl
        | succ j => exact ih j (by simpa using h)
    have g := h3 j hj1 hj2
    rw [← hl (r1 :: r2 :: l) j hj1] at g
    exact g
  | [], _ :: _, h2, _ => simp at h2
  | _ :: _, [], h2, _ => simp at h2
  | [_], _ :: _ :: _, h2, _ => simp at h2
  | _ :: _ :: _, [_], h2, _ => simp at h2

/-- A function, by the walk of its body. -/
theorem acalls_of {f : FuncId} {fn : Func} {c : Code} {args : List AVal} {σ : Heap} {R : AVal → Heap → Prop} (od : Nat → Option (List Nat)) (prs : Nat → List (Nat × Nat)) (hf : P.funcs[f]? = some fn) (hb : fn.body = some c) (hnm : fnOk P f = true)
    (hok : (codeOk P fn.ntmps ⟨0, od, prs⟩ c && fn.results.toList.all (resOk P) && decide (args.length ≤ fn.ntmps)) = true)
    (h : awp P ⟨σ.nx, od, prs⟩ c (Ends P σ.nx fn.results.toList R) (argSlots 0 args) σ) : ACalls P f args σ R := by
  have hcf : ∀ c, codeOk P fn.ntmps ⟨0, od, prs⟩ c = codeOk P fn.ntmps ⟨σ.nx, od, prs⟩ c := by
    intro c
    induction c with
    | seq a b iha ihb => simp only [codeOk, iha, ihb]
    | cond x a b iha ihb => simp only [codeOk, iha, ihb]
    | block n c ih => simp only [codeOk, ih]
    | loop c ih => simp only [codeOk, ih]
    | _ => rfl
  rw [hcf] at hok
  simp only [Bool.and_eq_true, decide_eq_true_eq] at hok
  obtain ⟨⟨hok1, hok2⟩, hok3⟩ := hok
  refine ⟨hnm, fun I μ w cargs hinv hA => ?_⟩
  refine calls_of_wp hf hb ?_
  have hS : St fn.ntmps I μ (Blk μ σ) w (argSlots 0 args) σ { tmps := cargs ++ Array.replicate (fn.ntmps - cargs.size) undef, defers := [] } w := by
    refine ⟨I, μ, hinv, fun i => ?_, Ext.refl _ _ _, by simp [hA.1]; omega, rfl, Where.le_refl μ⟩
    rw [argSlots_get]
    by_cases hi : 0 ≤ i ∧ i < 0 + args.length
    · rw [if_pos hi]
      obtain ⟨x, hx, hr⟩ := hA.2 i (by omega)
      have hlt : i < cargs.size := by rw [hA.1]; omega
      have : (cargs ++ Array.replicate (fn.ntmps - cargs.size) undef).getD i undef = x := by
        simp only [Array.getD_eq_getD_getElem?]; rw [Array.getElem?_append_left hlt, hx]; rfl
      rw [this]; exact hr
    · rw [if_neg hi]; trivial
  refine wp_mono (awp_sound (fun k hk => hinv.nm k hk) c hok1 _ _ _ _ _ h hS) ?_
  have hret : ∀ (τ : Slots) (σ' : Heap) (a : Act) (w' : World), Ret P σ.nx fn.results.toList R τ σ' → St fn.ntmps I μ (Blk μ σ) w τ σ' a w' → a.defers = [] ∧ ∃ v, (results fn a.tmps).run P w' = .ok v w' ∧ 
      ∃ cv r σ' I' μ', Ending.returned v = .returned cv ∧ R r σ' ∧ VR I' μ' w' r cv ∧ Inv I' μ' σ' w' ∧ Ext I I' (Blk μ σ) (Blk μ' σ') w w' ∧ μ.le μ' := by
    rintro τ σ' a w' ⟨hc, r, σ'', ⟨ρ, h0, hv, hH⟩, hR⟩ ⟨I', μ', hinv', hT, hX, hN, hD, hM⟩
    obtain ⟨v, h1, h2⟩ := results_sound (P := P) hok2 hinv' hT hc
    obtain ⟨hi, hb⟩ := Wk.inv hinv' hH
    refine ⟨hD, v, h1, v, r, σ'', _, _, rfl, hR, hv.vr hinv' h2, hi, Imm_ext hX hb, fun k x hk => ?_⟩
    have := h0 k (hinv.nm k (by simp [hk]))
    simp only [Ren.at_, this]
    exact hM k x hk
  rintro e a' w' ⟨e', τ', σ', rfl, hq, hs⟩
  cases e' with
  | normal => exact hret τ' σ' a' w' hq hs
  | ret => exact hret τ' σ' a' w' hq hs
  | exit n => exact hq.elim
end Go.Nw
