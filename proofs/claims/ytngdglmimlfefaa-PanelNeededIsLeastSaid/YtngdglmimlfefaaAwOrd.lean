/- The abstract walk, part 12b: regions whose order is open: one order serves all. -/
import Derived.Test.YtngdglmimlfefaaAwDraw
namespace Go.Aw
set_option linter.unusedVariables false
set_option linter.unusedSimpArgs false
variable {P : Program}

theorem HEq'.refl (σ : Heap) : HEq' σ σ := fun _ => rfl
theorem HEq'.cons {σ σ' : Heap} (h : HEq' σ σ') (k : Option Nat) (r : Row) : HEq' ((k, r) :: σ) ((k, r) :: σ') := fun k' => by simp only [Heap.get, h k']
theorem HEq'.symm {σ σ' : Heap} (h : HEq' σ σ') : HEq' σ' σ := fun k => (h k).symm
theorem hle_cons {σ : Heap} {b : Nat} (h : Heap.notin b σ) (r : Row) : HLe σ ((some b, r) :: σ) := fun k q hq => by
  simp only [Heap.get]
  by_cases hk : k = some b
  · rw [hk, notin_iff.1 h] at hq; cases hq
  · rw [if_neg hk]; exact hq
theorem putd_eq {τ τ' : Slots} (d : Option Nat) (v : AVal) {i : Nat} (h : τ'.get i = τ.get i) : (putd τ' d v).get i = (putd τ d v).get i := by
  cases d with
  | none => exact h
  | some d => simp only [putd, Slots.get, h]
theorem putd_ne {τ : Slots} {d : Option Nat} {v : AVal} {i : Nat} (h : d ≠ some i) : (putd τ d v).get i = τ.get i := by
  cases d with
  | none => rfl
  | some d => simp only [putd, Slots.get]; rw [if_neg (fun e => h (by rw [e]))]
theorem readS_eq {σ σ' : Heap} (h : HEq' σ σ') (sz : Nat) (y : AVal) : readS sz σ' y = readS sz σ y := by
  cases y <;> simp only [readS]
  rw [h]

theorem stop_equiv {op : Op} {e e' : Operand → AVal} {σ σ' : Heap} {K K' : AVal → Heap → Prop} (hk : kindOf op = .app) (he : ∀ x ∈ op.operands, e' x = e x) (hσ : HEq' σ σ')
    (hK : ∀ v σ1 σ1', HEq' σ1 σ1' → K v σ1 → K' v σ1') (hok : opOk P op = true) (h : Stop P op e σ K) : Stop P op e' σ' K' := by
  cases op with
  | call c =>
    obtain ⟨callee, args, tys⟩ := c
    cases callee with
    | builtin b =>
      cases b with
      | append =>
        unfold opOk at hok
        simp only [Bool.and_eq_true, beq_iff_eq] at hok
        obtain ⟨x, y, rfl⟩ : ∃ x y, args = #[x, y] := by
          rcases args with ⟨l⟩; match l, hok.2.1.1.1 with | [x, y], _ => exact ⟨x, y, rfl⟩
        simp only [Stop, Array.getD_eq_getD_getElem?] at h ⊢
        simp only [List.getElem?_toArray, List.getElem?_cons_zero, List.getElem?_cons_succ, Option.getD_some] at h ⊢
        rw [he x (by simp [Op.operands, Call.operands]), he y (by simp [Op.operands, Call.operands])]
        generalize e x = a at *
        cases a with
        | sref k e0 sz n cap =>
          simp only [Append] at h ⊢
          rw [hσ k]
          cases hr : σ.get k with
          | none => rw [hr] at h; exact h.elim
          | some r =>
            rw [hr] at h
            obtain ⟨h1, f, h2, h3, h4⟩ := h
            simp only [readS_eq hσ]
            refine ⟨h1, f, h2, h3, fun k' cap' hk' => hK _ _ _ ?_ (h4 k' cap' ?_)⟩
            · refine HEq'.cons (fun k'' => ?_) _ _
              rw [herase_get, herase_get, hσ]
            · refine ⟨?_, hk'.2⟩
              rcases hk'.1 with h | ⟨b, h, hb⟩
              · exact .inl h
              · exact .inr ⟨b, h, notin_iff.2 (by rw [← hσ]; exact notin_iff.1 hb)⟩
        | _ => exact h.elim
      | _ => simp [kindOf] at hk
    | _ => simp [kindOf] at hk
  | _ => simp [kindOf] at hk

theorem stp_equiv {all : List Oper} {o : Oper} {τ τ' : Slots} {σ σ' : Heap} {K K' : Slots → Heap → Prop} (hok : opOk P o.op = true) (hl : ∀ t ∈ looks all o, τ'.get t = τ.get t) (hσ : HEq' σ σ')
    (hK : ∀ v σ1 σ1', HEq' σ1 σ1' → K (putd τ o.dst v) σ1 → K' (putd τ' o.dst v) σ1') (h : Stp P true all o τ σ K) : Stp P true all o τ' σ' K' := by
  by_cases hc : cls o ≤ 1
  · obtain ⟨v, h1, h2⟩ := (stp_yv hc).1 h
    exact (stp_yv hc).2 ⟨v, h1.keep hl (.inl hσ), hK _ _ _ hσ h2⟩
  · have he := ev_same hl
    unfold Stp at h ⊢
    cases hg : o.guard with
    | none =>
      simp only [hg] at h ⊢
      cases hk : kindOf o.op with
      | pure => simp only [cls, hk] at hc; split at hc <;> omega
      | call => simp [cls, hk] at hc
      | new =>
        simp only [hk] at h ⊢
        intro b hb
        have := h b (notin_iff.2 (by rw [← hσ]; exact notin_iff.1 hb))
        rw [new_keep he]
        exact ⟨this.1, hK _ _ _ (hσ.cons _ _) this.2⟩
      | store =>
        simp only [hk] at h ⊢
        cases hop : o.op with
        | store t x y =>
          simp only [hop] at h ⊢ he
          rw [he x (by simp [Op.operands]), he y (by simp [Op.operands])]
          generalize ev τ x = a at *
          generalize ev τ y = c at *
          cases a with
          | ptr k sz i o' =>
            simp only [storeF, hσ k] at h ⊢
            cases hr : σ.get k with
            | none => rw [hr] at h; exact h.1.elim
            | some r =>
              rw [hr] at h
              simp only [storeR] at h ⊢
              refine ⟨h.1, hK _ _ _ (fun k' => ?_) h.2⟩
              rw [hset_get _ _ _ _ (by rw [hσ, hr]; rfl), hset_get _ _ _ _ (by rw [hr]; rfl), hσ k']
          | _ => exact h.1.elim
        | _ => simp only [hop] at h
      | app =>
        simp only [hk] at h ⊢
        exact stop_equiv hk he hσ (fun v σ1 σ1' hh hv => hK v _ _ hh hv) hok h
    | some g =>
      obtain ⟨j, want⟩ := g
      simp only [hg] at h ⊢
      rw [hl (dstAt all j) (by simp [looks, hg])]
      cases hv : gdF want (τ.get (dstAt all j)) with
      | some t =>
        simp only [hv] at h ⊢
        cases hk : kindOf o.op with
        | pure => simp only [cls, hk] at hc; split at hc <;> omega
        | call => simp [cls, hk] at hc
        | _ => simp only [hk] at h
      | none => simp only [hv] at h

/-- Slots and heap, looked at, are all that counts. -/
def Resp (K : Slots → Heap → Prop) : Prop := ∀ τ τ' σ σ', SEq τ τ' → HEq' σ σ' → K τ σ → K τ' σ'
theorem stps_resp {all : List Oper} {K : Slots → Heap → Prop} (hK : Resp K) : ∀ (l : List Oper), (∀ o ∈ l, opOk P o.op = true) → Resp (fun τ σ => Stps P true all l τ σ K) := by
  intro l
  induction l with
  | nil => intro _; exact hK
  | cons o l ih =>
    intro hok τ τ' σ σ' hs hh h
    exact stp_equiv (hok o (by simp)) (fun t _ => hs t) hh (fun v σ1 σ1' h1 hv => ih (fun o ho => hok o (by simp [ho])) _ _ _ _ (fun i => putd_eq _ _ (hs i)) h1 hv) h

theorem apart_spec {all : List Oper} {x y : Oper} (h : apart all x y = true) : (∀ t ∈ looks all y, x.dst ≠ some t) ∧ (∀ t, x.dst = some t → y.dst ≠ some t) ∧ (∀ t ∈ looks all x, y.dst ≠ some t) := by
  unfold apart at h
  simp only [Bool.and_eq_true] at h
  obtain ⟨h1, h2⟩ := h
  refine ⟨fun t ht hd => ?_, fun t hd hy => ?_, fun t ht hd => ?_⟩
  · rw [hd] at h1; simp at h1; exact h1.1 ht
  · rw [hd] at h1; simp at h1; exact h1.2 hy
  · rw [hd] at h2; simp at h2; exact h2 ht
theorem putd_comm {τ : Slots} {x y : Option Nat} (v u : AVal) (h : ∀ t, x = some t → y ≠ some t) : SEq (putd (putd τ x v) y u) (putd (putd τ y u) x v) := by
  intro i
  by_cases hx : x = some i
  · rw [putd_ne (h i hx)]
    subst hx; simp [putd, Slots.get]
  · rw [putd_ne hx]
    exact (putd_eq y u (putd_ne hx).symm)
theorem yv_zero {all : List Oper} {o : Oper} {τ : Slots} {σ : Heap} {v u : AVal} (hc : cls o = 0) (h : Yv P all o τ σ v) (h' : Yv P all o τ σ u) : u = v := by
  have hk : kindOf o.op = .pure := by
    unfold cls at hc
    split at hc <;> first | assumption | cases hc
  unfold Yv at h h'
  simp only [hk] at h h'
  cases hg : o.guard with
  | none => simp only [hg] at h h'; rw [h.2, h'.2]
  | some g =>
    obtain ⟨j, want⟩ := g
    simp only [hg] at h h'
    cases hv : gdF want (τ.get (dstAt all j)) with
    | some t => simp only [hv] at h h'; rw [h.2, h'.2]
    | none => simp only [hv] at h

/-- i before l. -/
theorem stp_swap {all : List Oper} {l i : Oper} {τ : Slots} {σ : Heap} {K : Slots → Heap → Prop} (hl : opOk P l.op = true) (hi : opOk P i.op = true) (hs : swapOk all l i = true) (hK : Resp K)
    (h : Stp P true all l τ σ fun τ σ => Stp P true all i τ σ K) : Stp P true all i τ σ fun τ σ => Stp P true all l τ σ K := by
  unfold swapOk at hs
  simp only [Bool.and_eq_true] at hs
  obtain ⟨ha, hs⟩ := hs
  obtain ⟨a1, a2, a3⟩ := apart_spec ha
  have li : ∀ v, ∀ t ∈ looks all i, (putd τ l.dst v).get t = τ.get t := fun v t ht => putd_ne (a1 t ht)
  have li' : ∀ v, ∀ t ∈ looks all i, τ.get t = (putd τ l.dst v).get t := fun v t ht => (li v t ht).symm
  have ll : ∀ v, ∀ t ∈ looks all l, (putd τ i.dst v).get t = τ.get t := fun v t ht => putd_ne (a3 t ht)
  have kind_new : ∀ o : Oper, cls o = 2 → kindOf o.op = .new := by
    intro o h
    unfold cls at h
    split at h
    · split at h <;> cases h
    · cases h
    · assumption
    · cases h
  have new_stp : ∀ (o : Oper) (τ : Slots) (σ : Heap) (K : Slots → Heap → Prop), cls o = 2 → (Stp P true all o τ σ K ↔ o.guard = none ∧ New σ fun b => (newF P o.op (ev τ) b).1 ∧ K (putd τ o.dst (newF P o.op (ev τ) b).2.1) ((some b, (newF P o.op (ev τ) b).2.2) :: σ)) := by
    intro o τ σ K h
    have hk := kind_new o h
    unfold Stp
    cases hg : o.guard with
    | none => simp [hk]
    | some g => obtain ⟨j, want⟩ := g; simp only [hk]; constructor
                · intro h; split at h <;> exact h.elim
                · intro h; cases h.1
  by_cases h1 : cls l ≤ 1 ∧ cls i ≤ 1
  · obtain ⟨v, h2, h3⟩ := (stp_yv h1.1).1 h
    obtain ⟨u, h4, h5⟩ := (stp_yv h1.2).1 h3
    exact (stp_yv h1.2).2 ⟨u, h4.keep (li' v) (.inl (HEq'.refl _)), (stp_yv h1.1).2 ⟨v, h2.keep (ll u) (.inl (HEq'.refl _)), hK _ _ _ _ (fun t => putd_comm v u a2 t) (HEq'.refl _) h5⟩⟩
  · by_cases h2 : cls l = 0
    · obtain ⟨v, h3, h4⟩ := (stp_yv (by omega)).1 h
      refine stp_equiv hi (li' v) (HEq'.refl _) (fun u σ1 σ1' hh hk => ?_) h4
      exact (stp_yv (by omega)).2 ⟨v, h3.keep (ll u) (.inr (.inl h2)), hK _ _ _ _ (fun t => putd_comm v u a2 t) hh hk⟩
    · by_cases h3 : cls l = 2 ∧ cls i = 0
      · obtain ⟨hg, h4⟩ := (new_stp l τ σ _ h3.1).1 h
        obtain ⟨b0, hb0⟩ := fresh_some σ
        obtain ⟨-, h5⟩ := h4 b0 hb0
        obtain ⟨u, h6, -⟩ := (stp_yv (by omega)).1 h5
        have h6' : Yv P all i τ σ u := h6.keep (li' _) (.inr (.inl h3.2))
        refine (stp_yv (by omega)).2 ⟨u, h6', (new_stp l _ σ _ h3.1).2 ⟨hg, fun b hb => ?_⟩⟩
        obtain ⟨h7, h8⟩ := h4 b hb
        obtain ⟨u', h9, h10⟩ := (stp_yv (by omega)).1 h8
        have hu : u' = u := yv_zero h3.2 h6' (h9.keep (li' _) (.inr (.inl h3.2)))
        subst hu
        rw [new_keep (ev_same (ll u'))]
        exact ⟨h7, hK _ _ _ _ (fun t => putd_comm _ u' a2 t) (HEq'.refl _) h10⟩
      · by_cases h4 : cls l = 2 ∧ cls i = 2
        · obtain ⟨hg, h5⟩ := (new_stp l τ σ _ h4.1).1 h
          obtain ⟨b0, hb0⟩ := fresh_some σ
          have hgi := ((new_stp i _ _ _ h4.2).1 (h5 b0 hb0).2).1
          refine (new_stp i τ σ _ h4.2).2 ⟨hgi, fun b hb => ?_⟩
          obtain ⟨b1, hb1⟩ := fresh_some ((some b, (newF P i.op (ev τ) b).2.2) :: σ)
          have hnew : (newF P i.op (ev τ) b).1 := by
            have h6 := (h5 b1 hb1.2).2
            have h7 := (((new_stp i _ _ _ h4.2).1 h6).2 b ⟨⟨fun e => hb1.1.1 e.symm, fun e => hb1.1.2 e.symm⟩, hb⟩).1
            rw [new_keep (ev_same (li _))] at h7; exact h7
          refine ⟨hnew, (new_stp l _ _ _ h4.1).2 ⟨hg, fun b2 hb2 => ?_⟩⟩
          obtain ⟨h7, h8⟩ := h5 b2 hb2.2
          have h9 := (((new_stp i _ _ _ h4.2).1 h8).2 b ⟨⟨fun e => hb2.1.1 e.symm, fun e => hb2.1.2 e.symm⟩, hb⟩).2
          rw [new_keep (ev_same (li _))] at h9
          rw [new_keep (ev_same (ll _))]
          refine ⟨h7, hK _ _ _ _ (fun t => putd_comm _ _ a2 t) (fun k => ?_) h9⟩
          have hne : b2 ≠ b := fun e => hb2.1.1 (by rw [e])
          simp only [Heap.get]
          by_cases hk : k = some b2
          · rw [if_pos hk, if_neg (fun e => hne (Option.some.inj (hk.symm.trans e))), if_pos hk]
          · simp only [if_neg hk]
        · by_cases h5 : cls l = 1 ∧ cls i = 2
          · simp only [h5.1, h5.2, Bool.or_eq_true, Bool.not_eq_true'] at hs
            obtain ⟨v, h6, h7⟩ := (stp_yv (by omega)).1 h
            obtain ⟨hg, h8⟩ := (new_stp i _ σ _ h5.2).1 h7
            refine (new_stp i τ σ _ h5.2).2 ⟨hg, fun b hb => ?_⟩
            obtain ⟨h9, h10⟩ := h8 b hb
            rw [new_keep (ev_same (li v))] at h9 h10
            refine ⟨h9, (stp_yv (by omega)).2 ⟨v, h6.keep (ll _) (.inr (.inr ⟨hle_cons hb _, fun hq => ?_⟩)), hK _ _ _ _ (fun t => putd_comm v _ a2 t) (HEq'.refl _) h10⟩⟩
            rcases hs with hs | hs
            · rw [hq] at hs; cases hs
            · cases hgg : l.guard with
              | none => rfl
              | some g => rw [hgg] at hs; cases hs
          · exfalso
            have hcl : cls l ≤ 3 := by unfold cls; split <;> (try split) <;> omega
            have hci : cls i ≤ 3 := by unfold cls; split <;> (try split) <;> omega
            revert hs
            generalize cls l = p at *
            generalize cls i = q at *
            intro hs
            split at hs <;> first | omega | cases hs

theorem stps_front {all : List Oper} {i : Oper} {K : Slots → Heap → Prop} (hK : Resp K) (l2 : List Oper) (hi : opOk P i.op = true) (h2 : ∀ o ∈ l2, opOk P o.op = true) : ∀ (l1 : List Oper) (τ : Slots) (σ : Heap), (∀ o ∈ l1, opOk P o.op = true) → (∀ o ∈ l1, swapOk all o i = true) →
    Stps P true all (l1 ++ i :: l2) τ σ K → Stps P true all (i :: (l1 ++ l2)) τ σ K
  | [], τ, σ, _, _, h => h
  | l :: l1, τ, σ, h1, hs, h => by
    have h' : Stp P true all l τ σ fun τ σ => Stp P true all i τ σ fun τ σ => Stps P true all (l1 ++ l2) τ σ K :=
      stp_mono h fun v σ' hv => stps_front hK l2 hi h2 l1 _ _ (fun o ho => h1 o (by simp [ho])) (fun o ho => hs o (by simp [ho])) hv
    refine stp_swap (h1 l (by simp)) hi (hs l (by simp)) (stps_resp hK _ (fun o ho => ?_)) h'
    rcases List.mem_append.1 ho with ho | ho
    · exact h1 o (by simp [ho])
    · exact h2 o ho

section
variable {N : Nat} {I0 : Nat → Prop} {σ0 : Heap} {w0 : World}
theorem St.same {τ τ' : Slots} {σ σ' : Heap} {a : Act} {w : World} (hs : SEq τ τ') (hh : HEq' σ σ') (h : St N I0 σ0 w0 τ σ a w) : St N I0 σ0 w0 τ' σ' a w := by
  obtain ⟨I, h1, h2, h3, h4, h5⟩ := h
  exact ⟨I, h1.congr hh, fun i => by rw [hs i]; exact h2 i, h3.congr (fun _ => rfl) hh, h4, h5⟩
theorem reach_listed {ops : List Oper} {listed : Nat → Prop} (hcl : ∀ i, listed i → ∀ e ∈ (ops.getD i default).after, Region.binds .any e = true → listed e.on) (l : Nat) : ∀ (k i : Nat), (∀ e ∈ (ops.getD i default).after, Region.binds .any e = true → listed e.on) → reach ops k l i = true → listed l
  | 0, i, _, h => by simp [reach] at h
  | k + 1, i, hi, h => by
    simp only [reach, Array.any_eq_true', Bool.and_eq_true, Bool.or_eq_true, beq_iff_eq] at h
    obtain ⟨e, he, hb, h⟩ := h
    have h1 := hi e he hb
    rcases h with h | h
    · rw [← h]; exact h1
    · exact reach_listed hcl l k e.on (hcl e.on h1) h
theorem pairs_pw {ops : List Oper} : ∀ {l : List Nat}, pairsOk ops l = true → l.Pairwise fun l i => pairOk ops l i = true
  | [], _ => .nil
  | x :: l, h => by
    simp only [pairsOk, Bool.and_eq_true, List.all_eq_true] at h
    exact .cons (fun i hi => h.1 i hi) (pairs_pw h.2)

theorem draw_sound {ops : Array Oper} {Q : Exit → Act → World → Prop} {K : Slots → Heap → Prop} (hok : regOk P N ops = true) (hK : Resp K)
    (hedge : ∀ i, i < ops.size → ∀ e ∈ (ops.getD i default).after, Region.binds .any e = true → e.on < i)
    (hQ : ∀ τ σ a w, K τ σ → St N I0 σ0 w0 τ σ a w → Q .normal a w) : ∀ (n : Nat) (rem : List Nat) (listed : Array Bool) (τ : Slots) (σ : Heap) (a : Act) (w : World), rem.length = n → 
    (rem.Pairwise fun l i => pairOk ops.toList l i = true) → (∀ i, i ∈ rem ↔ i < ops.size ∧ listed.getD i true = false) → listed.size = ops.size →
    (∀ i, listed.getD i false = true → ∀ e ∈ (ops.getD i default).after, Region.binds .any e = true → listed.getD e.on false = true) →
    Stps P true ops.toList (rem.map fun i => ops.getD i default) τ σ K → St N I0 σ0 w0 τ σ a w → wpAny P .any ops Q n listed a w := by
  have hop : ∀ i, i < ops.size → opOk P (ops.getD i default).op = true := fun i hi => by
    have := (reg_ok hok (Array.getElem?_eq_getElem hi)).1
    simpa [hi] using this
  have hready : ∀ (rem : List Nat) (listed : Array Bool), (∀ i, i ∈ rem ↔ i < ops.size ∧ listed.getD i true = false) → listed.size = ops.size → rem ≠ [] → Region.ready .any ops listed ≠ [] := by
    intro rem listed hrem hsz hne hnil
    have hall : ∀ i, i < ops.size → listed.getD i true = true := by
      intro i
      induction i using Nat.strongRecOn with
      | _ i ih =>
        intro hi
        cases hli : listed.getD i true with
        | true => rfl
        | false =>
          exfalso
          have : i ∈ Region.ready .any ops listed := mem_ready.2 ⟨hli, ops[i], Array.getElem?_eq_getElem hi, fun e he hb => by
            have hlt := hedge i hi e (by simpa [hi] using he) hb
            have := ih e.on hlt (by omega)
            have hes : e.on < listed.size := by omega
            simp [Array.getD_eq_getD_getElem?, hes] at this ⊢; exact this⟩
          rw [hnil] at this; cases this
    cases rem with
    | nil => exact hne rfl
    | cons x r =>
      have := (hrem x).1 (by simp)
      rw [hall x this.1] at this; cases this.2
  intro n
  induction n with
  | zero =>
    intro rem listed τ σ a w hlen hpw hrem hsz hcl h hS
    have : rem = [] := List.eq_nil_of_length_eq_zero hlen
    subst this
    refine ⟨?_, hQ _ _ _ _ h hS⟩
    apply List.eq_nil_iff_forall_not_mem.2
    intro i hi
    obtain ⟨h1, o, ho, -⟩ := mem_ready.1 hi
    have hlt : i < ops.size := by
      by_cases hlt : i < ops.size
      · exact hlt
      · rw [Array.getElem?_eq_none (by omega)] at ho; cases ho
    have : i ∈ ([] : List Nat) := (hrem i).2 ⟨hlt, h1⟩
    cases this
  | succ n ih =>
    intro rem listed τ σ a w hlen hpw hrem hsz hcl h hS
    refine ⟨fun h0 => absurd h0 (hready rem listed hrem hsz (by intro e; rw [e] at hlen; cases hlen)), fun i hi => ?_⟩
    obtain ⟨h1, o, ho, hall⟩ := mem_ready.1 hi
    have hi' : i < ops.size := by
      by_cases hlt : i < ops.size
      · exact hlt
      · rw [Array.getElem?_eq_none (by omega)] at ho; cases ho
    have hoi : ops.getD i default = o := by simp [Array.getD_eq_getD_getElem?, ho]
    obtain ⟨l1, l2, rfl⟩ := List.append_of_mem ((hrem i).2 ⟨hi', h1⟩)
    rw [List.pairwise_append] at hpw
    obtain ⟨hp1, hp2, hp3⟩ := hpw
    rw [List.pairwise_cons] at hp2
    have hmem : ∀ j, j ∈ l1 ∨ j ∈ l2 → j < ops.size ∧ listed.getD j true = false := fun j hj => (hrem j).1 (by rcases hj with h | h <;> simp [h])
    have hne : ∀ j, j ∈ l1 ∨ j ∈ l2 → j ≠ i := by
      intro j hj
      rcases hj with h | h
      · have := hp3 j h i (by simp); simp only [pairOk, Bool.and_eq_true, bne_iff_ne] at this; exact this.1
      · have := hp2.1 j h; simp only [pairOk, Bool.and_eq_true, bne_iff_ne] at this; exact fun e => this.1 e.symm
    have hsw : ∀ j ∈ l1, swapOk ops.toList (ops.getD j default) (ops.getD i default) = true := by
      intro j hj
      have := hp3 j hj i (by simp)
      simp only [pairOk, Bool.and_eq_true, Bool.or_eq_true] at this
      rcases this.2 with h | h
      · exfalso
        have hg : ∀ i, ops.toList.getD i default = ops.getD i default := fun i => by simp
        have hj2 := (hmem j (.inl hj)).2
        have := reach_listed (ops := ops.toList) (listed := fun i => listed.getD i false = true) (fun i hi => by rw [hg]; exact hcl i hi) j _ i (by rw [hg, hoi]; exact hall) h
        have hjs : j < listed.size := by rw [hsz]; exact (hmem j (.inl hj)).1
        simp [Array.getD_eq_getD_getElem?, hjs] at this hj2; rw [this] at hj2; cases hj2
      · have hg : ∀ i, ops.toList.getD i default = ops.getD i default := fun i => by simp
        rw [hg, hg] at h; exact h
    have h' : Stps P true ops.toList (ops.getD i default :: ((l1 ++ l2).map fun i => ops.getD i default)) τ σ K := by
      have h2 := stps_front (P := P) (all := ops.toList) (i := ops.getD i default) hK (l2.map fun i => ops.getD i default) (hop i hi') (fun o ho => by
        obtain ⟨j, hj, rfl⟩ := List.mem_map.1 ho; exact hop j (hmem j (.inr hj)).1) (l1.map fun i => ops.getD i default) τ σ (fun o ho => by
        obtain ⟨j, hj, rfl⟩ := List.mem_map.1 ho; exact hop j (hmem j (.inl hj)).1) (fun o ho => by
        obtain ⟨j, hj, rfl⟩ := List.mem_map.1 ho; exact hsw j hj) (by simpa using h)
      simpa using h2
    refine wpOp_mono ?_ (op_sound hok hi' h' hS)
    rintro a w ⟨τ, σ, hk, hs⟩
    refine ih (l1 ++ l2) (listed.setIfInBounds i true) τ σ a w (by simp at hlen ⊢; omega) (List.pairwise_append.2 ⟨hp1, hp2.2, fun x hx y hy => hp3 x hx y (by simp [hy])⟩) (fun j => ?_) (by simpa using hsz) (fun j hj e he hb => ?_) hk hs
    · constructor
      · intro hj
        have hj' := List.mem_append.1 hj
        rw [getD_set_ne true (hne j hj').symm]; exact hmem j hj'
      · rintro ⟨hj1, hj2⟩
        by_cases hji : i = j
        · subst hji
          have : i < listed.size := by omega
          simp [Array.getD_eq_getD_getElem?, this] at hj2
        · rw [getD_set_ne true hji] at hj2
          have := (hrem j).2 ⟨hj1, hj2⟩
          simp only [List.mem_append, List.mem_cons] at this ⊢
          rcases this with h | h | h
          · exact .inl h
          · exact absurd h.symm hji
          · exact .inr h
    · by_cases hji : i = j
      · subst hji
        rw [hoi] at he
        exact getD_set_true (hall e he hb)
      · rw [getD_set_ne false hji] at hj
        exact getD_set_true (hcl j hj e he hb)

theorem region_draw {ops : Array Oper} {id : Nat} {Q : Exit → Act → World → Prop} {K : Slots → Heap → Prop} (hm : P.follows .mixedOrders = true) (hok : regOk P N ops = true) {ord : List Nat} (hd : drawOk ops.toList ord = true)
    (hQ : ∀ τ σ a w, K τ σ → St N I0 σ0 w0 τ σ a w → Q .normal a w) {τ : Slots} {σ : Heap} {a : Act} {w : World}
    (h : Stps P true ops.toList (ord.map fun i => ops.getD i default) τ σ K) (hS : St N I0 σ0 w0 τ σ a w) : (Code.region id ops true).wp P Q a w := by
  have hS' : St N I0 σ0 w0 τ σ a { w with drawn := w.drawn + 1 } := by
    obtain ⟨I, h1, h2, h3, h4, h5⟩ := hS
    exact ⟨I, h1.drew _, TR.mono (w := w) (fun _ h => h) (fun _ _ => rfl) h2, ⟨h3.os, h3.tape, h3.output, h3.size, h3.old, h3.imm, h3.imm', h3.row⟩, h4, h5⟩
  unfold drawOk at hd
  simp only [Bool.and_eq_true, List.all_eq_true, decide_eq_true_eq, List.mem_range, List.contains_iff_mem, Array.all_eq_true', Bool.or_eq_true, Bool.not_eq_true'] at hd
  obtain ⟨⟨d1, d2⟩, d3⟩ := hd
  have hlen : ord.length = ops.size := by
    have hnd : ord.Nodup := (pairs_pw d3).imp (by intro a b h; simp only [pairOk, Bool.and_eq_true, bne_iff_ne] at h; exact h.1)
    have h1 : ord.Perm (List.range ops.size) := (List.perm_ext_iff_of_nodup hnd List.nodup_range).2 fun i => by
      rw [List.mem_range]; exact ⟨fun h => by simpa using d1 i h, fun h => (d2 i (by simpa using h)).1⟩
    simpa using h1.length_eq
  refine wp_region_any hm (draw_sound (K := fun τ σ => ∃ τ0 σ0, SEq τ0 τ ∧ HEq' σ0 σ ∧ K τ0 σ0) hok ?_ ?_ ?_ ops.size ord _ τ σ a _ hlen (pairs_pw d3) ?_ (by simp) ?_ ?_ hS')
  · rintro τ τ' σ σ' hs hh ⟨τ0, σ1, h1, h2, h3⟩
    exact ⟨τ0, σ1, fun i => (hs i).trans (h1 i), fun k => (hh k).trans (h2 k), h3⟩
  · intro i hi e he hb
    have := (d2 i (by simpa using hi)).2 e (by simpa using he)
    rcases this with h | h
    · rw [hb] at h; cases h
    · exact h
  · rintro τ σ a w ⟨τ0, σ1, h1, h2, h3⟩ hs
    exact hQ _ _ _ _ h3 (hs.same (fun i => (h1 i).symm) (fun k => (h2 k).symm))
  · intro i
    constructor
    · intro hi
      have : i < ops.size := by simpa using d1 i hi
      exact ⟨this, by simp [Array.getD_eq_getD_getElem?, this]⟩
    · rintro ⟨hi, -⟩; exact (d2 i (by simpa using hi)).1
  · intro i hi
    exfalso
    by_cases hlt : i < ops.size
    · simp [Array.getD_eq_getD_getElem?, hlt] at hi
    · simp [Array.getD_eq_getD_getElem?, hlt] at hi
  · have hmon : ∀ (l : List Oper) (τ : Slots) (σ : Heap), Stps P true ops.toList l τ σ K → Stps P true ops.toList l τ σ (fun τ σ => ∃ τ0 σ0, SEq τ0 τ ∧ HEq' σ0 σ ∧ K τ0 σ0) := by
      intro l
      induction l with
      | nil => intro τ σ h; exact ⟨τ, σ, fun _ => rfl, HEq'.refl _, h⟩
      | cons o l ih => intro τ σ h; exact stp_mono h fun v σ' hv => ih _ _ hv
    exact hmon _ _ _ h
end
end Go.Aw
