/- The named walk, part 12b: regions whose order is open: one order serves all. -/
import Derived.Test.YtngdglmimlfefaaNwDraw
namespace Go.Nw
set_option linter.unusedVariables false
set_option linter.unusedSimpArgs false
variable {P : Program} {rc : List Nat}

theorem putd_eq {τ τ' : Slots} (d : Option Nat) (v : AVal) {i : Nat} (h : τ'.get i = τ.get i) : (putd τ' d v).get i = (putd τ d v).get i := by
  cases d with
  | none => exact h
  | some d => simp only [putd, Slots.get, h]
theorem putd_ne {τ : Slots} {d : Option Nat} {v : AVal} {i : Nat} (h : d ≠ some i) : (putd τ d v).get i = τ.get i := by
  cases d with
  | none => rfl
  | some d => simp only [putd, Slots.get]; rw [if_neg (fun e => h (by rw [e]))]
theorem stp_equiv {all : List Oper} {o : Oper} {τ τ' : Slots} {σ σ' : Heap} {K K' : Slots → Heap → Prop} (hok : opOk P o.op = true) (hl : ∀ t ∈ looks all o, τ'.get t = τ.get t) (hσ : HEq' σ σ')
    (hK : ∀ v σ1 σ1', HEq' σ1 σ1' → K (putd τ o.dst v) σ1 → K' (putd τ' o.dst v) σ1') (h : Stp P (some rc) all o τ σ K) : Stp P (some rc) all o τ' σ' K' := by
  rcases cls_cases rc o with hc | hc | hc
  · obtain ⟨v, h1, h2⟩ := (stp_yv hc).1 h
    exact (stp_yv hc).2 ⟨v, h1.keep hl (.of_eq hσ), hK _ _ _ hσ h2⟩
  rotate_left
  · refine (stp_r hc).2 ?_
    rw [hσ.1]
    exact rstop_equiv (Nat.le_add_right _ _) (ev_same hl) hσ (fun v σ1 σ1' h1 h2 => hK v σ1 σ1' h1 h2) ((stp_r hc).1 h)
  · obtain ⟨h1, h2, h3, h4⟩ := (stp_eff hc).1 h
    refine (stp_eff hc).2 ⟨h1, h2, ?_⟩
    rw [eff_keep hok (ev_same hl), hσ.1]
    obtain ⟨e1, e2, e3⟩ := effF_eq (P := P) o.op (ev τ) (σ.nx + o.dst.getD 0) hσ
    rw [e1, e2]
    exact ⟨h3, hK _ _ _ e3 h4⟩

/-- Slots and heap, looked at, are all that counts. -/
def Resp (K : Slots → Heap → Prop) : Prop := ∀ τ τ' σ σ', SEq τ τ' → HEq' σ σ' → K τ σ → K τ' σ'
theorem stps_resp {all : List Oper} {K : Slots → Heap → Prop} (hK : Resp K) : ∀ (l : List Oper), (∀ o ∈ l, opOk P o.op = true) → Resp (fun τ σ => Stps P (some rc) all l τ σ K) := by
  intro l
  induction l with
  | nil => intro _; exact hK
  | cons o l ih =>
    intro hok τ τ' σ σ' hs hh h
    exact stp_equiv (hok o (by simp)) (fun t _ => hs t) hh (fun v σ1 σ1' h1 hv => ih (fun o ho => hok o (by simp [ho])) _ _ _ _ (fun i => putd_eq _ _ (hs i)) h1 hv) h

theorem apart_spec {all : List Oper} {x y : Oper} (h : apart all x y = true) : (∀ t ∈ looks all y, x.dst ≠ some t) ∧ (∀ t, x.dst = some t → y.dst ≠ some t) ∧ (∀ t ∈ looks all x, y.dst ≠ some t) := by
  unfold apart at h
  simp only [Bool.and_eq_true] at h
  obtain ⟨h1, h2⟩ := h
  refine ⟨fun t ht hd => ?_, fun t hd hy => ?_, fun t ht hd => ?_⟩
  · rw [hd] at h1; simp at h1; exact h1.1 ht
  · rw [hd] at h1; simp at h1; exact h1.2 hy
  · rw [hd] at h2; simp at h2; exact h2 ht
theorem putd_comm {τ : Slots} {x y : Option Nat} (v u : AVal) (h : ∀ t, x = some t → y ≠ some t) : SEq (putd (putd τ x v) y u) (putd (putd τ y u) x v) := by
  intro i
  by_cases hx : x = some i
  · rw [putd_ne (h i hx)]
    subst hx; simp [putd, Slots.get]
  · rw [putd_ne hx]
    exact (putd_eq y u (putd_ne hx).symm)
theorem isWr_eff {op : Op} (h : isWr op = true) : kindOf op = .eff ∧ isLoad op = false := by
  cases op with
  | store => exact ⟨rfl, rfl⟩
  | call c =>
    obtain ⟨callee, args, tys⟩ := c
    cases callee with
    | builtin b => cases b <;> first | exact ⟨rfl, rfl⟩ | cases h
    | _ => cases h
  | _ => cases h
/-- what stores write elsewhere is not read -/
theorem load_store {z e o n e' o' z' : Nat} {d v : AVal} {l : List AVal} (h1 : (loadR 1 false z e o (some ⟨z', d, l⟩)).1 ∨ (loadR 1 false z e o (some ⟨z', d, l.set e' (putPart (l.getD e' d) o' v)⟩)).1) (hp : putOk (l.getD e' d) o' v) (hv : v.cells = n) (he' : e' < l.length)
    (hd : e ≠ e' ∨ o + 1 ≤ o' ∨ o' + n ≤ o) : loadR 1 false z e o (some ⟨z', d, l.set e' (putPart (l.getD e' d) o' v)⟩) = loadR 1 false z e o (some ⟨z', d, l⟩) := by
  simp only [loadR, List.length_set] at h1 ⊢
  by_cases hee : e = e'
  · subst hee
    have hd := hd.resolve_left (fun h => h rfl)
    have hg : (l.set e (putPart (l.getD e d) o' v)).getD e d = putPart (l.getD e d) o' v := by
      simp only [List.getD_eq_getElem?_getD]; rw [List.getElem?_set_self he']; rfl
    rw [hg] at h1 ⊢
    have h1 : partOk (l.getD e d) o 1 false ∨ partOk (putPart (l.getD e d) o' v) o 1 false := h1.imp (·.2) (·.2)
    generalize l.getD e d = x at *
    have key : partOk (putPart x o' v) o 1 false = partOk x o 1 false ∧ (putPart x o' v).part o 1 false = x.part o 1 false := by
      cases x with
      | aggF m f =>
        by_cases hvl : ∃ m2 g, v = .aggF m2 g
        · obtain ⟨m2, g, rfl⟩ := hvl
          have hv : m2 = n := hv
          subst hv
          simp only [putPart] at h1 ⊢
          by_cases hw : o' = 0 ∧ m2 = m
          · obtain ⟨rfl, rfl⟩ := hw
            rw [if_pos ⟨rfl, rfl⟩] at h1
            have : o + 1 ≤ m2 := h1.elim id id
            omega
          · rw [if_neg hw]
            refine ⟨rfl, ?_⟩
            simp only [AVal.part, Bool.false_eq_true, if_false]
            rw [if_neg (by omega)]
        · have hn1 : v.cells = 1 := by cases v <;> first | rfl | exact absurd ⟨_, _, rfl⟩ hvl
          have he : putPart (.aggF m f) o' v = .aggF m (fun j => if j = o' then v else f j) := by cases v <;> first | rfl | exact absurd ⟨_, _, rfl⟩ hvl
          rw [he]
          refine ⟨rfl, ?_⟩
          simp only [AVal.part, Bool.false_eq_true, if_false]
          rw [if_neg (by omega)]
      | undef => exact hp.elim
      | _ =>
        exfalso
        obtain ⟨h3, h4⟩ := hp
        have hn1 : v.cells = 1 := by cases v <;> first | rfl | (simp [AVal.leaf] at h4; done)
        have h0 : o = 0 := by
          rcases h1 with h | h
          · exact h.1
          · subst h3
            have : ∀ u : AVal, u.leaf = true → partOk u o 1 false → o = 0 := by
              intro u hu hq; cases u <;> first | exact hq.1 | exact hq.elim | (simp [AVal.leaf] at hu; done)
            refine this _ ?_ h
            cases v <;> first | rfl | (simp [AVal.leaf] at h4; done)
        omega
    rw [key.1, key.2]
  · have hg : (l.set e' (putPart (l.getD e' d) o' v)).getD e d = l.getD e d := by
      simp only [List.getD_eq_getElem?_getD]; rw [List.getElem?_set_ne (fun h => hee h.symm)]
    rw [hg]
/-- what lies where a load looks is the same behind a store, or append, that touches other memory -/
theorem wr_same {i : Oper} {τ : Slots} {σ : Heap} {base : Nat} {ld : Oper} (hw : isWr i.op = true) (hi : (effF P i.op (ev τ) σ (base + i.dst.getD 0)).1) (hg : ld.guard = none) (hld : isLoad ld.op = true)
    (hc : compat (fpOf P base τ ld) (fpOf P base τ i) ∨ compat (fpOf P base τ i) (fpOf P base τ ld)) {v : AVal} {all : List Oper} (hσ : Yv P all ld τ σ v ∨ Yv P all ld τ (effF P i.op (ev τ) σ (base + i.dst.getD 0)).2.2 v) :
    Yv P all ld τ (effF P i.op (ev τ) σ (base + i.dst.getD 0)).2.2 v ∧ Yv P all ld τ σ v := by
  obtain ⟨t, x, hop⟩ : ∃ t x, ld.op = .load t x := by
    cases hop : ld.op <;> rw [hop] at hld <;> first | exact ⟨_, _, rfl⟩ | cases hld
  have hk : kindOf ld.op = .pure := by rw [hop]; rfl
  unfold Yv at hσ ⊢
  simp only [hg, hk] at hσ ⊢
  rw [hop] at hσ ⊢
  simp only [pureF] at hσ ⊢
  cases hx : ev τ x with
  | ptr k sz e f =>
    rw [hx] at hσ
    simp only [loadF] at hσ ⊢
    have hfp : fpOf P base τ ld = .rd k (aggT P t) e f (szT P t) := by simp only [fpOf, hop, hx]
    rw [hfp] at hc
    have hsame : ∀ q : Option Row, (effF P i.op (ev τ) σ (base + i.dst.getD 0)).2.2.get k = q → (((loadR (szT P t) (aggT P t) sz e f (σ.get k)).1 ∨ (loadR (szT P t) (aggT P t) sz e f q).1) → loadR (szT P t) (aggT P t) sz e f q = loadR (szT P t) (aggT P t) sz e f (σ.get k)) →
        ((loadR (szT P t) (aggT P t) sz e f ((effF P i.op (ev τ) σ (base + i.dst.getD 0)).2.2.get k)).1 ∧ v = (loadR (szT P t) (aggT P t) sz e f ((effF P i.op (ev τ) σ (base + i.dst.getD 0)).2.2.get k)).2) ∧ (loadR (szT P t) (aggT P t) sz e f (σ.get k)).1 ∧ v = (loadR (szT P t) (aggT P t) sz e f (σ.get k)).2 := by
      rintro q hq h
      rw [hq] at hσ ⊢
      have := h (hσ.imp (·.1) (·.1))
      rw [this] at hσ ⊢
      exact ⟨hσ.elim id id, hσ.elim id id⟩
    have hloc := wr_loc (P := P) (e := ev τ) (σ := σ) (σ' := σ) (p := base + i.dst.getD 0) hw (fun _ _ => rfl)
    by_cases hkw : k ∈ wrK i.op (ev τ) (base + i.dst.getD 0)
    · -- a store to the row, elsewhere
      cases hopi : i.op with
      | store t' y z =>
        rw [hopi] at hi hkw hw hsame
        simp only [wrK] at hkw
        cases hy : ev τ y with
        | ptr k' sz' e' f' =>
          rw [hy] at hkw
          simp only [List.mem_singleton] at hkw
          subst hkw
          have hfi : fpOf P base τ i = .wr k e' f' (szT P t') := by simp only [fpOf, hopi, hy]
          rw [hfi] at hc
          simp only [compat, or_self] at hc
          obtain ⟨⟨ha, hn⟩, hd⟩ := hc.resolve_left (fun h => h rfl)
          simp only [effF, hy, storeF] at hi hsame ⊢
          cases hr : σ.get k with
          | none => rw [hr] at hi; exact hi.elim
          | some r =>
            obtain ⟨z0, d, l⟩ := r
            rw [hr] at hi hsame
            simp only [storeR] at hi
            refine hsame (some ⟨z0, d, l.set e' (putPart (l.getD e' d) f' (ev τ z))⟩) ?_ ?_
            · simp only [storeR]; rw [get_set, if_pos ⟨rfl, by rw [hr]; exact Option.some_ne_none _⟩]
            · rw [ha, hn]
              intro h
              exact load_store h hi.1.2 hi.2.1 hi.1.1.1 (by rw [hn] at hd; exact hd)
        | _ => rw [hy] at hkw; cases hkw
      | call c =>
        rw [hopi] at hkw hw
        obtain ⟨callee, args, tys⟩ := c
        cases callee with
        | builtin b =>
          cases b with
          | append =>
            have hfi : fpOf P base τ i = .ap (keysOf (ev τ (args.getD 0 default))) (keysOf (ev τ (args.getD 1 default))) (base + i.dst.getD 0) := by simp only [fpOf, hopi]
            rw [hfi] at hc
            simp only [compat, or_self] at hc
            simp only [wrK, List.mem_cons] at hkw
            have hnk : ∀ {l : List Key}, notK k l → ¬ k ∈ l := by
              intro l
              induction l with
              | nil => intro _ h; cases h
              | cons a l ih => intro h hm; rcases List.mem_cons.1 hm with h' | h'; exact h.1 h'; exact ih h.2 h'
            rcases hkw with h | h
            · exact absurd (by rw [h]) hc.2
            · exact absurd h (hnk hc.1)
          | _ => cases hw
        | _ => cases hw
      | _ => rw [hopi] at hw; cases hw
    · rcases hloc.2.2.2 k hkw with h | h
      · exact hsame _ h fun _ => rfl
      · exact absurd hi h
  | _ => rw [hx] at hσ; exact ⟨hσ.elim id id, hσ.elim id id⟩
theorem dyn_new {p base : Nat} {τ : Slots} {n i : Oper} (hw : isWr i.op = true) (hp : p = base + n.dst.getD 0) (hn : cls rc n = 2) (hc : compat (fpOf P base τ n) (fpOf P base τ i) ∨ compat (fpOf P base τ i) (fpOf P base τ n)) :
    (∀ k ∈ rdK i.op (ev τ), k ≠ (p, 0)) ∧ ¬ (p, 0) ∈ wrK i.op (ev τ) (base + i.dst.getD 0) := by
  have hfn : fpOf P base τ n = .nw p := by
    unfold cls at hn
    split at hn
    · split at hn <;> omega
    · split at hn <;> omega
    · split at hn
      · rename_i h; simp only [fpOf, h, hp]
      · rename_i h; simp only [fpOf, h, hp]
      · rename_i h; simp only [fpOf, h, hp]
      · omega
  rw [hfn] at hc
  cases hop : i.op with
  | store t x y =>
    cases hx : ev τ x with
    | ptr k sz e f =>
      have hfi : fpOf P base τ i = .wr k e f (szT P t) := by simp only [fpOf, hop, hx]
      rw [hfi] at hc
      simp only [compat, or_self] at hc
      simp only [rdK, wrK, hx, List.mem_singleton, forall_eq]
      exact ⟨fun h => hc (by rw [h]), fun h => hc (by rw [← h])⟩
    | _ => simp only [rdK, wrK, hx]; exact ⟨fun _ h => (by cases h), fun h => (by cases h)⟩
  | call c =>
    obtain ⟨callee, args, tys⟩ := c
    rw [hop] at hw
    cases callee with
    | builtin b =>
      cases b with
      | append =>
        have hfi : fpOf P base τ i = .ap (keysOf (ev τ (args.getD 0 default))) (keysOf (ev τ (args.getD 1 default))) (base + i.dst.getD 0) := by simp only [fpOf, hop]
        rw [hfi] at hc
        simp only [compat, or_self] at hc
        have hof : ∀ {l : List Key}, offK p l → ∀ k ∈ l, k ≠ (p, 0) := by
          intro l
          induction l with
          | nil => intro _ k h; cases h
          | cons a l ih => intro h k hm e; rcases List.mem_cons.1 hm with h' | h'; exact h.1 (by rw [← h', e]); exact ih h.2 k h' e
        simp only [rdK, wrK]
        refine ⟨fun k hk => ?_, fun h => ?_⟩
        · rcases List.mem_append.1 hk with h | h
          · exact hof hc.2.1 k h
          · exact hof hc.2.2 k h
        · rcases List.mem_cons.1 h with h | h
          · exact hc.1 (Prod.mk.inj h).1
          · exact hof hc.2.1 _ h rfl
      | _ => cases hw
    | _ => cases hw
  | _ => rw [hop] at hw; cases hw

section
variable {all : List Oper} {l i : Oper} {τ : Slots} {σ : Heap} {K : Slots → Heap → Prop}
theorem low2 {o : Oper} (h : cls rc o = 0 ∨ cls rc o = 1 ∨ cls rc o = 4) : low rc o := by unfold low; omega
theorem load_cls {o : Oper} (h : isLoad o.op = true) : cls rc o = 1 := by
  have hk : kindOf o.op = .pure := by cases hop : o.op <;> rw [hop] at h <;> first | rfl | cases h
  simp [cls, hk, h]
theorem cls_load {o : Oper} (ho : cls rc o = 1) : isLoad o.op = true := by
  unfold cls at ho
  split at ho
  · split at ho
    · assumption
    · omega
  · split at ho <;> omega
  · split at ho <;> omega
/-- How two operations stand apart. -/
structure Apart (all : List Oper) (l i : Oper) (τ : Slots) : Prop where
  li : ∀ v, ∀ t ∈ looks all i, (putd τ l.dst v).get t = τ.get t
  ll : ∀ v, ∀ t ∈ looks all l, (putd τ i.dst v).get t = τ.get t
  comm : ∀ v u, SEq (putd (putd τ l.dst v) i.dst u) (putd (putd τ i.dst u) l.dst v)
  ne : ∀ t, l.dst = some t → i.dst ≠ some t
theorem apart_of (ha : apart all l i = true) : Apart all l i τ := by
  obtain ⟨a1, a2, a3⟩ := apart_spec ha
  exact ⟨fun v t ht => putd_ne (a1 t ht), fun v t ht => putd_ne (a3 t ht), fun v u t => putd_comm v u a2 t, a2⟩
/-- a new row, and a new row -/
theorem swap22 (hl : opOk P l.op = true) (hi : opOk P i.op = true) (A : Apart all l i τ) (hK : Resp K) (hl2 : cls rc l = 2) (hi2 : cls rc i = 2) (hld : l.dst.isSome = true) (hid : i.dst.isSome = true)
    (h : Stp P (some rc) all l τ σ fun τ σ => Stp P (some rc) all i τ σ K) : Stp P (some rc) all i τ σ fun τ σ => Stp P (some rc) all l τ σ K := by
  obtain ⟨hg, hk, h4, h5⟩ := (stp_eff (.inl hl2)).1 h
  obtain ⟨hg', hk', h6, h7⟩ := (stp_eff (.inl hi2)).1 h5
  rw [effF_nx, eff_keep hi (ev_same (A.li _))] at h6 h7
  obtain ⟨dl, hdl⟩ := Option.isSome_iff_exists.1 hld
  obtain ⟨di, hdi⟩ := Option.isSome_iff_exists.1 hid
  have hne : dl ≠ di := fun e => A.ne dl hdl (by rw [hdi, e])
  obtain ⟨cl, vl, rl, fl⟩ := new_form (P := P) (o := l) (e := ev τ) (p := σ.nx + l.dst.getD 0) hl2
  obtain ⟨ci, vi, ri, fi⟩ := new_form (P := P) (o := i) (e := ev τ) (p := σ.nx + i.dst.getD 0) hi2
  rw [(fl σ).2.1, (fl σ).2.2] at h7
  rw [(fl σ).2.2] at h6
  have h6' := (fi _).1.1 h6
  rw [get_put] at h6'
  have hpne : ¬ ((σ.nx + i.dst.getD 0, 0) : Key) = (σ.nx + l.dst.getD 0, 0) := by
    rw [hdl, hdi]; intro e; exact hne (Nat.add_left_cancel (Prod.mk.inj e).1).symm
  rw [if_neg hpne] at h6'
  have h4' := (fl _).1.1 h4
  refine (stp_eff (.inl hi2)).2 ⟨hg', hk', (fi σ).1.2 h6', (stp_eff (.inl hl2)).2 ⟨hg, hk, ?_⟩⟩
  rw [effF_nx, eff_keep hl (ev_same (A.ll _)), (fi σ).2.1, (fi σ).2.2]
  refine ⟨(fl _).1.2 ⟨by rw [get_put, if_neg (fun e => hpne e.symm)]; exact h4'.1, h4'.2⟩, ?_⟩
  rw [(fl _).2.1, (fl _).2.2]
  rw [(fi _).2.1, (fi _).2.2] at h7
  refine hK _ _ ((σ.put (σ.nx + l.dst.getD 0) rl).put (σ.nx + i.dst.getD 0) ri) _ (A.comm vl vi) ⟨rfl, fun k => ?_⟩ h7
  rw [get_put, get_put, get_put, get_put]
  by_cases e1 : k = (σ.nx + l.dst.getD 0, 0)
  · rw [if_pos e1, if_neg (by rw [e1]; exact fun e => hpne e.symm), if_pos e1]
  · rw [if_neg e1, if_neg e1]
/-- it reads or calls, and then a new row -/
theorem swapL2 (hl : opOk P l.op = true) (hi : opOk P i.op = true) (A : Apart all l i τ) (hK : Resp K) (hll : low rc l) (hlg : isLoad l.op = true → l.guard = none) (hi2 : cls rc i = 2)
    (h : Stp P (some rc) all l τ σ fun τ σ => Stp P (some rc) all i τ σ K) : Stp P (some rc) all i τ σ fun τ σ => Stp P (some rc) all l τ σ K := by
  obtain ⟨v, h6, h7⟩ := (stp_yv hll).1 h
  obtain ⟨hg, hk, h8, h9⟩ := (stp_eff (.inl hi2)).1 h7
  rw [eff_keep hi (ev_same (A.li v))] at h8 h9
  obtain ⟨ci, vi, ri, fi⟩ := new_form (P := P) (o := i) (e := ev τ) (p := σ.nx + i.dst.getD 0) hi2
  have h8' := ((fi _).1.1 h8).1
  have hle : HLe σ (σ.put (σ.nx + i.dst.getD 0) ri) := fun k q hq => by
    rw [get_put, if_neg (by rintro rfl; rw [h8'] at hq; cases hq)]; exact hq
  refine (stp_eff (.inl hi2)).2 ⟨hg, hk, h8, (stp_yv hll).2 ⟨v, h6.keep (A.ll _) ?_, hK _ _ _ _ (A.comm v _) (HEq'.refl _) h9⟩⟩
  rw [(fi σ).2.2]
  refine ⟨fun _ => hle, fun hld => .inr ⟨hlg hld, fun t x hop k sz i' q hx => ?_⟩⟩
  have hyv := h6
  unfold Yv at hyv
  have hkp : kindOf l.op = .pure := by rw [hop]; rfl
  simp only [hlg hld, hkp] at hyv
  rw [hop] at hyv
  simp only [pureF, hx, loadF] at hyv
  cases hr : σ.get k with
  | none => rw [hr] at hyv; exact hyv.1.elim
  | some r => exact (hle k r hr)
/-- a new row, and what only computes -/
theorem swap20 (hl : opOk P l.op = true) (A : Apart all l i τ) (hK : Resp K) (e1 : cls rc l = 2) (e2 : cls rc i = 0)
    (h : Stp P (some rc) all l τ σ fun τ σ => Stp P (some rc) all i τ σ K) : Stp P (some rc) all i τ σ fun τ σ => Stp P (some rc) all l τ σ K := by
  obtain ⟨hg, hk, h4, h5⟩ := (stp_eff (.inl e1)).1 h
  obtain ⟨u, h6, h7⟩ := (stp_yv (low2 (.inl e2))).1 h5
  have h6' : Yv P all i τ σ u := h6.keep (fun t ht => (A.li _ t ht).symm) (.of_0 e2)
  refine (stp_yv (low2 (.inl e2))).2 ⟨u, h6', (stp_eff (.inl e1)).2 ⟨hg, hk, ?_⟩⟩
  rw [eff_keep hl (ev_same (A.ll u))]
  exact ⟨h4, hK _ _ _ _ (A.comm _ u) (HEq'.refl _) h7⟩
/-- a load, and a store -/
theorem swap13 (hi : opOk P i.op = true) (A : Apart all l i τ) (hK : Resp K) (e1 : cls rc l = 1) (e2 : cls rc i = 3) (hw : isWr i.op = true) (hgl : l.guard = none) (hc : compat (fpOf P σ.nx τ l) (fpOf P σ.nx τ i))
    (h : Stp P (some rc) all l τ σ fun τ σ => Stp P (some rc) all i τ σ K) : Stp P (some rc) all i τ σ fun τ σ => Stp P (some rc) all l τ σ K := by
  obtain ⟨v, h6, h7⟩ := (stp_yv (low2 (.inr (.inl e1)))).1 h
  obtain ⟨hg, hk, h8, h9⟩ := (stp_eff (.inr e2)).1 h7
  rw [eff_keep hi (ev_same (A.li v))] at h8 h9
  have hy := (wr_same (ld := l) hw h8 hgl (cls_load e1) (.inl hc) (.inl h6)).1
  exact (stp_eff (.inr e2)).2 ⟨hg, hk, h8, (stp_yv (low2 (.inr (.inl e1)))).2 ⟨v, hy.keep (A.ll _) (.of_eq (HEq'.refl _)), hK _ _ _ _ (A.comm v _) (HEq'.refl _) h9⟩⟩
/-- a store, and a load -/
theorem swap31 (hl : opOk P l.op = true) (A : Apart all l i τ) (hK : Resp K) (e1 : cls rc l = 3) (e2 : cls rc i = 1) (hw : isWr l.op = true) (hgi : i.guard = none) (hc : compat (fpOf P σ.nx τ l) (fpOf P σ.nx τ i))
    (h : Stp P (some rc) all l τ σ fun τ σ => Stp P (some rc) all i τ σ K) : Stp P (some rc) all i τ σ fun τ σ => Stp P (some rc) all l τ σ K := by
  obtain ⟨hg, hk, h4, h5⟩ := (stp_eff (.inr e1)).1 h
  obtain ⟨u, h6, h7⟩ := (stp_yv (low2 (.inr (.inl e2)))).1 h5
  have h6' := h6.keep (fun t ht => (A.li _ t ht).symm) (.of_eq (HEq'.refl _))
  have hy := (wr_same (ld := i) hw h4 hgi (cls_load e2) (.inr hc) (.inr h6')).2
  refine (stp_yv (low2 (.inr (.inl e2)))).2 ⟨u, hy, (stp_eff (.inr e1)).2 ⟨hg, hk, ?_⟩⟩
  rw [eff_keep hl (ev_same (A.ll u))]
  exact ⟨h4, hK _ _ _ _ (A.comm _ u) (HEq'.refl _) h7⟩
/-- a new row n and a store w, that touch other memory, give the same in either order -/
theorem new_wr {n w : Oper} {e : Operand → AVal} {rn : Row} {pn pw : Nat} (hw : isWr w.op = true) (d1 : ∀ k ∈ rdK w.op e, k ≠ (pn, 0)) (d2 : ¬ (pn, 0) ∈ wrK w.op e pw) :
    ((effF P w.op e (σ.put pn rn) pw).1 = (effF P w.op e σ pw).1 ∧ (effF P w.op e (σ.put pn rn) pw).2.1 = (effF P w.op e σ pw).2.1) ∧
    ((effF P w.op e σ pw).1 → (effF P w.op e σ pw).2.2.get (pn, 0) = σ.get (pn, 0) ∧ HEq' ((effF P w.op e σ pw).2.2.put pn rn) (effF P w.op e (σ.put pn rn) pw).2.2) := by
  obtain ⟨l1, l2, l3, l4⟩ := wr_loc (P := P) (e := e) (σ := σ) (σ' := σ.put pn rn) (p := pw) hw (fun k hk => by rw [get_put, if_neg (d1 k hk)])
  have hself := (wr_loc (P := P) (e := e) (σ := σ) (σ' := σ) (p := pw) hw (fun _ _ => rfl)).2.2.2
  refine ⟨⟨l1, l2⟩, fun hok => ⟨(hself _ d2).resolve_right (fun h => h hok), ?_, fun k => ?_⟩⟩
  · show (effF P w.op e (σ.put pn rn) pw).2.2.nx = (effF P w.op e σ pw).2.2.nx
    rw [effF_nx, effF_nx]; rfl
  · rw [get_put]
    by_cases ek : k = (pn, 0)
    · rw [if_pos ek, ek, (l4 _ d2).resolve_right (fun h => h hok), get_put, if_pos rfl]
    · rw [if_neg ek]
      by_cases hkw : k ∈ wrK w.op e pw
      · exact (l3 k hkw).resolve_right (fun h => h hok)
      · rw [(l4 k hkw).resolve_right (fun h => h hok), (hself k hkw).resolve_right (fun h => h hok), get_put, if_neg ek]
/-- a new row, and a store -/
theorem swap23 (hl : opOk P l.op = true) (hi : opOk P i.op = true) (A : Apart all l i τ) (hK : Resp K) (e1 : cls rc l = 2) (e2 : cls rc i = 3) (hw : isWr i.op = true) (hc : compat (fpOf P σ.nx τ l) (fpOf P σ.nx τ i))
    (h : Stp P (some rc) all l τ σ fun τ σ => Stp P (some rc) all i τ σ K) : Stp P (some rc) all i τ σ fun τ σ => Stp P (some rc) all l τ σ K := by
  obtain ⟨hg, hk, h4, h5⟩ := (stp_eff (.inl e1)).1 h
  obtain ⟨hg', hk', h6, h7⟩ := (stp_eff (.inr e2)).1 h5
  rw [effF_nx, eff_keep hi (ev_same (A.li _))] at h6 h7
  obtain ⟨cl, vl, rl, fl⟩ := new_form (P := P) (o := l) (e := ev τ) (p := σ.nx + l.dst.getD 0) e1
  have h4' := (fl _).1.1 h4
  rw [(fl σ).2.1, (fl σ).2.2] at h7
  rw [(fl σ).2.2] at h6
  obtain ⟨d1, d2⟩ := dyn_new (P := P) (p := σ.nx + l.dst.getD 0) hw rfl e1 (.inl hc)
  obtain ⟨⟨l1, l2⟩, l3⟩ := new_wr (P := P) (σ := σ) (n := l) (w := i) (e := ev τ) (rn := rl) (pw := σ.nx + i.dst.getD 0) hw d1 d2
  rw [l1] at h6
  obtain ⟨l4, l5⟩ := l3 h6
  refine (stp_eff (.inr e2)).2 ⟨hg', hk', h6, (stp_eff (.inl e1)).2 ⟨hg, hk, ?_⟩⟩
  rw [effF_nx, eff_keep hl (ev_same (A.ll _))]
  refine ⟨(fl _).1.2 ⟨by rw [l4]; exact h4'.1, h4'.2⟩, ?_⟩
  rw [(fl _).2.1, (fl _).2.2]
  rw [l2] at h7
  exact hK _ _ _ _ (A.comm vl _) l5.symm h7
/-- a store, and a new row -/
theorem swap32 (hl : opOk P l.op = true) (hi : opOk P i.op = true) (A : Apart all l i τ) (hK : Resp K) (e1 : cls rc l = 3) (e2 : cls rc i = 2) (hw : isWr l.op = true) (hc : compat (fpOf P σ.nx τ l) (fpOf P σ.nx τ i))
    (h : Stp P (some rc) all l τ σ fun τ σ => Stp P (some rc) all i τ σ K) : Stp P (some rc) all i τ σ fun τ σ => Stp P (some rc) all l τ σ K := by
  obtain ⟨hg, hk, h4, h5⟩ := (stp_eff (.inr e1)).1 h
  obtain ⟨hg', hk', h6, h7⟩ := (stp_eff (.inl e2)).1 h5
  rw [effF_nx, eff_keep hi (ev_same (A.li _))] at h6 h7
  obtain ⟨ci, vi, ri, fi⟩ := new_form (P := P) (o := i) (e := ev τ) (p := σ.nx + i.dst.getD 0) e2
  have h6' := (fi _).1.1 h6
  rw [(fi _).2.1, (fi _).2.2] at h7
  obtain ⟨d1, d2⟩ := dyn_new (P := P) (p := σ.nx + i.dst.getD 0) hw rfl e2 (.inr hc)
  obtain ⟨⟨l1, l2⟩, l3⟩ := new_wr (P := P) (σ := σ) (n := i) (w := l) (e := ev τ) (rn := ri) (pw := σ.nx + l.dst.getD 0) hw d1 d2
  obtain ⟨l4, l5⟩ := l3 h4
  rw [l4] at h6'
  refine (stp_eff (.inl e2)).2 ⟨hg', hk', (fi σ).1.2 h6', (stp_eff (.inr e1)).2 ⟨hg, hk, ?_⟩⟩
  rw [effF_nx, eff_keep hl (ev_same (A.ll _)), (fi σ).2.1, (fi σ).2.2]
  refine ⟨by rw [l1]; exact h4, ?_⟩
  rw [l2]
  exact hK _ _ _ _ (A.comm _ vi) l5 h7
/-- a call that is handed rows, and what only computes -/
theorem swap50 (A : Apart all l i τ) (hK : Resp K) (e1 : cls rc l = 5) (e2 : cls rc i = 0)
    (h : Stp P (some rc) all l τ σ fun τ σ => Stp P (some rc) all i τ σ K) : Stp P (some rc) all i τ σ fun τ σ => Stp P (some rc) all l τ σ K := by
  obtain ⟨r, σ', h1, h2, -, h4⟩ := rstop_split (Nat.le_add_right _ _) ((stp_r e1).1 h)
  obtain ⟨u, h5, h6⟩ := (stp_yv (low2 (.inl e2))).1 h1
  refine (stp_yv (low2 (.inl e2))).2 ⟨u, h5.keep (fun t ht => (A.li _ t ht).symm) (.of_0 e2), (stp_r e1).2 ?_⟩
  refine rstop_equiv (Nat.le_add_right _ _) (ev_same (A.ll u)) (HEq'.refl _) (K := fun r' σ1 => HEq' σ' σ1 ∧ r' = r) ?_ (h4 _ ⟨HEq'.refl _, rfl⟩)
  rintro v σ1 σ1' hh ⟨h7, rfl⟩
  exact hK _ _ _ _ (A.comm _ u) (h7.trans hh) h6
theorem fp5 {o : Oper} {base : Nat} (hk : kindOf o.op = .call) : fpOf P base τ o = .cl (rNames o.op (ev τ)) (base + o.dst.getD 0) := by
  unfold fpOf rNames
  cases hop : o.op with
  | call c =>
    obtain ⟨callee, args, tys⟩ := c
    cases callee with
    | value f => rfl
    | builtin b => rw [hop] at hk; cases b <;> cases hk
    | _ => rw [hop] at hk; cases hk
  | slice a b c d e => rw [hop] at hk; cases e <;> cases hk
  | _ => rw [hop] at hk; cases hk
theorem offN_mem {n : Nat} : ∀ {l : List Nat}, offN n l → n ∉ l
  | [], _, h => by cases h
  | k :: l, h, hm => by
    rcases List.mem_cons.1 hm with e | hm
    · exact h.1 e
    · exact offN_mem h.2 hm
/-- a load reads what the call was not handed -/
theorem ld_off {ld : Oper} {base : Nat} {names : List Nat} {p : Nat} {σ1 σ2 : Heap} {v : AVal} (hg : ld.guard = none) (hld : isLoad ld.op = true) (hc : compat (fpOf P base τ ld) (.cl names p) ∨ compat (.cl names p) (fpOf P base τ ld))
    (hs : ∀ k : Key, k.1 ≠ p → k.1 ∉ names → σ2.get k = σ1.get k) (h : Yv P all ld τ σ1 v) : Yv P all ld τ σ2 v := by
  obtain ⟨t, x, hop⟩ : ∃ t x, ld.op = .load t x := by
    cases hop : ld.op <;> rw [hop] at hld <;> first | exact ⟨_, _, rfl⟩ | cases hld
  refine h.keep (fun _ _ => rfl) ⟨(fun hk => by rw [hop] at hk; cases hk), fun _ => .inr ⟨hg, fun t' x' ho k sz i q hx => ?_⟩⟩
  rw [hop] at ho
  cases ho
  have hfp : fpOf P base τ ld = .rd k (aggT P t) i q (szT P t) := by simp only [fpOf, hop, hx]
  rw [hfp] at hc
  simp only [compat, or_self] at hc
  exact hs k hc.2 (offN_mem hc.1)
/-- a load, and a call that is handed rows -/
theorem swap15 (A : Apart all l i τ) (hK : Resp K) (e1 : cls rc l = 1) (e2 : cls rc i = 5) (hgl : l.guard = none) (hc : compat (fpOf P σ.nx τ l) (fpOf P σ.nx τ i))
    (h : Stp P (some rc) all l τ σ fun τ σ => Stp P (some rc) all i τ σ K) : Stp P (some rc) all i τ σ fun τ σ => Stp P (some rc) all l τ σ K := by
  obtain ⟨v, h6, h7⟩ := (stp_yv (low2 (.inr (.inl e1)))).1 h
  have h8 := rstop_equiv (e' := ev τ) (K := fun r σ' => Stp P (some rc) all l τ σ (fun _ _ => True) → K (putd (putd τ l.dst v) i.dst r) σ') (K' := fun r σ' => K (putd (putd τ l.dst v) i.dst r) σ') (Nat.le_add_right _ _) (fun x hx => (ev_same (A.li v) x hx).symm) (HEq'.refl σ)
    (fun r σ1 σ1' hh hk => hK _ _ _ _ (fun _ => rfl) hh (hk ((stp_yv (low2 (.inr (.inl e1)))).2 ⟨v, h6, trivial⟩))) (rstop_mono ((stp_r e2).1 h7) fun r σ' hk _ => hk)
  obtain ⟨r, σ', h1, h2, h3, h4⟩ := rstop_split (Nat.le_add_right _ _) h8
  rw [fp5 (cls5 e2).1] at hc
  refine (stp_r e2).2 (h4 _ ((stp_yv (low2 (.inr (.inl e1)))).2 ⟨v, ?_, hK _ _ _ _ (A.comm v r) (HEq'.refl _) h1⟩))
  exact (ld_off (σ1 := σ) hgl (cls_load e1) (.inl hc) (fun k k1 k2 => h3 k k1 k2) h6).keep (A.ll r) (.of_eq (HEq'.refl _))
/-- a call that is handed rows, and a load -/
theorem swap51 (A : Apart all l i τ) (hK : Resp K) (e1 : cls rc l = 5) (e2 : cls rc i = 1) (hgi : i.guard = none) (hc : compat (fpOf P σ.nx τ l) (fpOf P σ.nx τ i))
    (h : Stp P (some rc) all l τ σ fun τ σ => Stp P (some rc) all i τ σ K) : Stp P (some rc) all i τ σ fun τ σ => Stp P (some rc) all l τ σ K := by
  obtain ⟨r, σ', h1, h2, h3, h4⟩ := rstop_split (Nat.le_add_right _ _) ((stp_r e1).1 h)
  obtain ⟨u, h5, h6⟩ := (stp_yv (low2 (.inr (.inl e2)))).1 h1
  rw [fp5 (cls5 e1).1] at hc
  have h7 : Yv P all i τ σ u := ld_off (σ1 := σ') hgi (cls_load e2) (.inr hc) (fun k k1 k2 => (h3 k k1 k2).symm) (h5.keep (fun t ht => (A.li _ t ht).symm) (.of_eq (HEq'.refl _)))
  refine (stp_yv (low2 (.inr (.inl e2)))).2 ⟨u, h7, (stp_r e1).2 ?_⟩
  refine rstop_equiv (Nat.le_add_right _ _) (ev_same (A.ll u)) (HEq'.refl _) (K := fun r' σ1 => HEq' σ' σ1 ∧ r' = r) ?_ (h4 _ ⟨HEq'.refl _, rfl⟩)
  rintro v σ1 σ1' hh ⟨h7, rfl⟩
  exact hK _ _ _ _ (A.comm _ u) (h7.trans hh) h6
/-- What the static table leaves. -/
theorem swap_tab {p q : Nat} {b1 b2 : Bool} (h : (match p, q with | 0, _ => true | 1, 0 => true | 1, 1 => true | 1, 4 => true | 4, 0 => true | 4, 1 => true | 4, 4 => true | 4, 2 => true | 1, 2 => b1 | 2, 0 => true | 5, 0 => true | 2, 2 => b2 | _, _ => false) = true)
    (n0 : ¬ p = 0) (nl : ¬ ((p ≤ 1 ∨ p = 4) ∧ (q ≤ 1 ∨ q = 4))) : (p = 2 ∧ q = 0) ∨ (p = 2 ∧ q = 2 ∧ b2 = true) ∨ (p = 1 ∧ q = 2 ∧ b1 = true) ∨ (p = 4 ∧ q = 2) ∨ (p = 5 ∧ q = 0) := by
  split at h <;> first | exact absurd rfl n0 | exact absurd ⟨by omega, by omega⟩ nl | exact .inl ⟨rfl, rfl⟩ | exact .inr (.inl ⟨rfl, rfl, h⟩) | exact .inr (.inr (.inl ⟨rfl, rfl, h⟩)) | exact .inr (.inr (.inr (.inl ⟨rfl, rfl⟩))) | exact .inr (.inr (.inr (.inr ⟨rfl, rfl⟩))) | cases h
theorem dyn_tab {p q : Nat} {b1 b2 b3 b4 : Bool} (h : (match p, q with | 1, 5 => true | 5, 1 => true | 1, 3 => b1 | 3, 1 => b2 | 2, 3 => b3 | 3, 2 => b4 | _, _ => false) = true) : (p = 1 ∧ q = 3 ∧ b1 = true) ∨ (p = 3 ∧ q = 1 ∧ b2 = true) ∨ (p = 2 ∧ q = 3 ∧ b3 = true) ∨ (p = 3 ∧ q = 2 ∧ b4 = true) ∨ (p = 1 ∧ q = 5) ∨ (p = 5 ∧ q = 1) := by
  split at h <;> simp_all
theorem swap_ap {l i : Oper} (h : swapOk rc all l i = true) : apart all l i = true := by
  unfold swapOk at h; simp only [Bool.and_eq_true] at h; exact h.1
theorem dyn_ap {l i : Oper} (h : dynOk rc all l i = true) : apart all l i = true ∧ l.guard = none ∧ i.guard = none := by
  unfold dynOk at h; simp only [Bool.and_eq_true, Option.isNone_iff_eq_none] at h; exact ⟨h.1.1.1, h.1.1.2, h.1.2⟩
/-- i before l, by the table -/
theorem stp_swap_s (hl : opOk P l.op = true) (hi : opOk P i.op = true) (A : Apart all l i τ) (hs : swapOk rc all l i = true) (hK : Resp K) (h1 : ¬ (low rc l ∧ low rc i)) (h2 : ¬ cls rc l = 0)
    (h : Stp P (some rc) all l τ σ fun τ σ => Stp P (some rc) all i τ σ K) : Stp P (some rc) all i τ σ fun τ σ => Stp P (some rc) all l τ σ K := by
  unfold swapOk at hs
  rw [Bool.and_eq_true] at hs
  rcases swap_tab hs.2 h2 h1 with ⟨e1, e2⟩ | ⟨e1, e2, hb⟩ | ⟨e1, e2, hb⟩ | ⟨e1, e2⟩ | ⟨e1, e2⟩
  · exact swap20 hl A hK e1 e2 h
  · simp only [Bool.and_eq_true] at hb
    exact swap22 hl hi A hK e1 e2 hb.1.2 hb.2 h
  · exact swapL2 hl hi A hK (low2 (.inr (.inl e1))) (fun _ => by simpa using hb) e2 h
  · exact swapL2 hl hi A hK (low2 (.inr (.inr e1))) (fun hld => by have := load_cls (rc := rc) hld; omega) e2 h
  · exact swap50 A hK e1 e2 h
/-- i before l, as they touch different memory -/
theorem stp_swap_d (hl : opOk P l.op = true) (hi : opOk P i.op = true) (A : Apart all l i τ) (hs : dynOk rc all l i = true) (hc : compat (fpOf P σ.nx τ l) (fpOf P σ.nx τ i)) (hK : Resp K)
    (h : Stp P (some rc) all l τ σ fun τ σ => Stp P (some rc) all i τ σ K) : Stp P (some rc) all i τ σ fun τ σ => Stp P (some rc) all l τ σ K := by
  obtain ⟨-, hgl, hgi⟩ := dyn_ap hs
  unfold dynOk at hs
  rw [Bool.and_eq_true] at hs
  rcases dyn_tab hs.2 with ⟨e1, e2, hb⟩ | ⟨e1, e2, hb⟩ | ⟨e1, e2, hb⟩ | ⟨e1, e2, hb⟩ | ⟨e1, e2⟩ | ⟨e1, e2⟩
  · exact swap13 hi A hK e1 e2 hb hgl hc h
  · exact swap31 hl A hK e1 e2 hb hgi hc h
  · exact swap23 hl hi A hK e1 e2 (Bool.and_eq_true _ _ ▸ hb).1 hc h
  · exact swap32 hl hi A hK e1 e2 (Bool.and_eq_true _ _ ▸ hb).1 hc h
  · exact swap15 A hK e1 e2 hgl hc h
  · exact swap51 A hK e1 e2 hgi hc h
/-- i before l. -/
theorem stp_swap (hl : opOk P l.op = true) (hi : opOk P i.op = true) (hs : swapOk rc all l i = true ∨ dynOk rc all l i = true ∧ compat (fpOf P σ.nx τ l) (fpOf P σ.nx τ i)) (hK : Resp K)
    (h : Stp P (some rc) all l τ σ fun τ σ => Stp P (some rc) all i τ σ K) : Stp P (some rc) all i τ σ fun τ σ => Stp P (some rc) all l τ σ K := by
  have A : Apart all l i τ := apart_of (hs.elim swap_ap fun h => (dyn_ap h.1).1)
  by_cases h1 : low rc l ∧ low rc i
  · obtain ⟨v, h2, h3⟩ := (stp_yv h1.1).1 h
    obtain ⟨u, h4, h5⟩ := (stp_yv h1.2).1 h3
    exact (stp_yv h1.2).2 ⟨u, h4.keep (fun t ht => (A.li v t ht).symm) (.of_eq (HEq'.refl _)), (stp_yv h1.1).2 ⟨v, h2.keep (A.ll u) (.of_eq (HEq'.refl _)), hK _ _ _ _ (A.comm v u) (HEq'.refl _) h5⟩⟩
  by_cases h2 : cls rc l = 0
  · obtain ⟨v, h3, h4⟩ := (stp_yv (low2 (.inl h2))).1 h
    refine stp_equiv hi (fun t ht => (A.li v t ht).symm) (HEq'.refl _) (fun u σ1 σ1' hh hk => ?_) h4
    exact (stp_yv (low2 (.inl h2))).2 ⟨v, h3.keep (A.ll u) (.of_0 h2), hK _ _ _ _ (A.comm v u) hh hk⟩
  rcases hs with hs | ⟨hs, hc⟩
  · exact stp_swap_s hl hi A hs hK h1 h2 h
  · exact stp_swap_d hl hi A hs hc hK h
end
theorem fpOf_same {base : Nat} {τ τ' : Slots} {o : Oper} (hok : opOk P o.op = true) (he : ∀ x ∈ o.op.operands, ev τ' x = ev τ x) : fpOf P base τ' o = fpOf P base τ o := by
  unfold fpOf
  generalize o.op = op at *
  cases op with
  | load t x => simp only [he x (by simp [Op.operands])]
  | store t x y => simp only [he x (by simp [Op.operands])]
  | call c =>
    obtain ⟨callee, args, tys⟩ := c
    cases callee with
    | builtin b =>
      cases b with
      | append =>
        unfold opOk at hok
        simp only [Bool.and_eq_true] at hok
        obtain ⟨-, hok⟩ := hok
        have hok' : bOk P .append args tys = true := hok
        simp only [bOk, Bool.and_eq_true, beq_iff_eq] at hok'
        obtain ⟨⟨⟨h1, h2⟩, h3⟩, h4⟩ := hok'
        obtain ⟨x, y, rfl⟩ : ∃ x y, args = #[x, y] := by
          rcases args with ⟨l⟩; match l, h1 with | [x, y], _ => exact ⟨x, y, rfl⟩
        have hx : ev τ' x = ev τ x := he x (by simp [Op.operands, Call.operands])
        have hy : ev τ' y = ev τ y := he y (by simp [Op.operands, Call.operands])
        show Fp.ap (keysOf (ev τ' x)) (keysOf (ev τ' y)) _ = Fp.ap (keysOf (ev τ x)) (keysOf (ev τ y)) _
        rw [hx, hy]
      | _ => rfl
    | value f =>
      have : args.toList.map (ev τ') = args.toList.map (ev τ) := List.map_congr_left fun x hx => he x (by simp only [Op.operands, Call.operands]; exact Array.mem_append_right _ (Array.mem_toList_iff.1 hx))
      show Fp.cl (argNames (args.toList.map (ev τ'))) _ = Fp.cl (argNames (args.toList.map (ev τ))) _
      rw [this]
    | _ => rfl
  | _ => rfl
/-- What an operation that stands behind others needs to go ahead of them. -/
def Free (P : Program) (rc : List Nat) (all : List Oper) (i : Oper) (K : Slots → Heap → Prop) (l2 : List Oper) : List Oper → Prop
  | [] => True
  | l :: l1 => (swapOk rc all l i = true ∨ dynOk rc all l i = true ∧ (∀ τ σ, K τ σ → compat (fpOf P σ.nx τ l) (fpOf P σ.nx τ i)) ∧ ∀ t ∈ looks all l ++ looks all i, ∀ o ∈ l :: (l1 ++ i :: l2), o.dst ≠ some t) ∧ Free P rc all i K l2 l1
theorem stps_front {all : List Oper} {i : Oper} {K : Slots → Heap → Prop} (hK : Resp K) (l2 : List Oper) (hi : opOk P i.op = true) (h2 : ∀ o ∈ l2, opOk P o.op = true) : ∀ (l1 : List Oper) (τ : Slots) (σ : Heap), (∀ o ∈ l1, opOk P o.op = true) → Free P rc all i K l2 l1 →
    Stps P (some rc) all (l1 ++ i :: l2) τ σ K → Stps P (some rc) all (i :: (l1 ++ l2)) τ σ K
  | [], τ, σ, _, _, h => h
  | l :: l1, τ, σ, h1, hs, h => by
    have hl := h1 l (by simp)
    have hc : swapOk rc all l i = true ∨ dynOk rc all l i = true ∧ compat (fpOf P σ.nx τ l) (fpOf P σ.nx τ i) := by
      rcases hs.1 with hs | ⟨hd, hs, hn⟩
      · exact .inl hs
      · refine .inr ⟨hd, ?_⟩
        obtain ⟨τ', σ', k1, k2, k3⟩ := stps_on h
        have := hs _ _ k1
        rwa [k2, fpOf_same hl (ev_same (all := all) fun t ht => k3 t fun o ho => hn t (List.mem_append_left _ ht) o ho), fpOf_same hi (ev_same (all := all) fun t ht => k3 t fun o ho => hn t (List.mem_append_right _ ht) o ho)] at this
    have h' : Stp P (some rc) all l τ σ fun τ σ => Stp P (some rc) all i τ σ fun τ σ => Stps P (some rc) all (l1 ++ l2) τ σ K :=
      stp_mono h fun v σ' hv => stps_front hK l2 hi h2 l1 _ _ (fun o ho => h1 o (by simp [ho])) hs.2 hv
    refine stp_swap hl hi hc (stps_resp hK _ (fun o ho => ?_)) h'
    rcases List.mem_append.1 ho with ho | ho
    · exact h1 o (by simp [ho])
    · exact h2 o ho

section
variable {N : Nat} {I0 : Nat → Prop} {μ0 : Where} {B0 : Nat → Prop} {w0 : World}
theorem Blk.heq {μ : Where} {σ σ' : Heap} (h : HEq' σ σ') : Blk μ σ' = Blk μ σ := by
  funext b; unfold Blk; simp only [h.2]
theorem Inv.heq {I : Nat → Prop} {μ : Where} {σ σ' : Heap} {w : World} (h : HEq' σ σ') (hi : Inv I μ σ w) : Inv I μ σ' w :=
  ⟨fun b hb => by rw [Blk.heq h]; exact hi.imm b hb, fun k r hr => hi.row k r (by rw [← h.2]; exact hr), fun k k' b C C' h1 h2 => hi.inj k k' b C C' (by rw [← h.2]; exact h1) (by rw [← h.2]; exact h2), fun k hk => by rw [h.1]; exact hi.nm k hk⟩
theorem StG.same {n : Nat} {U : Nat → Prop} {τ τ' : Slots} {σ σ' : Heap} {a : Act} {w : World} (hs : SEq τ τ') (hh : HEq' σ σ') (h : StG n U N I0 μ0 B0 w0 τ σ a w) : StG n U N I0 μ0 B0 w0 τ' σ' a w := by
  obtain ⟨I, μ, h1, h2, h3, h4, h5, h6, h7⟩ := h
  exact ⟨I, μ, h1.heq (hh.bump n), fun i => by rw [hs i]; exact h2 i, by rw [Blk.heq hh]; exact h3, h4, h5, h6, by rw [hh.1]; exact h7⟩
theorem StG.mono {n : Nat} {U U' : Nat → Prop} {τ : Slots} {σ : Heap} {a : Act} {w : World} (hU : ∀ x, U' x → U x) (h : StG n U N I0 μ0 B0 w0 τ σ a w) : StG n U' N I0 μ0 B0 w0 τ σ a w := by
  obtain ⟨I, μ, h1, h2, h3, h4, h5, h6, h7⟩ := h
  exact ⟨I, μ, h1, h2, h3, h4, h5, h6, fun d hd => h7 d (hU d hd)⟩
theorem StG.out {n : Nat} {U : Nat → Prop} {τ : Slots} {σ : Heap} {a : Act} {w : World} (h : StG n U N I0 μ0 B0 w0 τ σ a w) : St N I0 μ0 B0 w0 τ (σ.bump n) a w := by
  obtain ⟨I, μ, h1, h2, h3, h4, h5, h6, h7⟩ := h
  exact ⟨I, μ, h1, h2, h3, h4, h5, h6⟩
theorem ancOf_bit {acc : List Nat} {o : Oper} {l : Nat} (h : (ancOf acc o).testBit l = true) : ∃ e ∈ o.after, Region.binds .any e = true ∧ (e.on = l ∨ (acc.getD e.on 0).testBit l = true) := by
  unfold ancOf at h
  have key : ∀ (es : List Edge) (m : Nat), (es.foldl (fun m e => if Region.binds .any e = true then (m ||| (1 <<< e.on)) ||| acc.getD e.on 0 else m) m).testBit l = true → m.testBit l = true ∨ ∃ e ∈ es, Region.binds .any e = true ∧ (e.on = l ∨ (acc.getD e.on 0).testBit l = true) := by
    intro es
    induction es with
    | nil => intro m h; exact .inl h
    | cons e es ih =>
      intro m h
      rw [List.foldl_cons] at h
      rcases ih _ h with h | ⟨e', h1, h2⟩
      · split at h
        · rename_i hb
          simp only [Nat.testBit_or, Bool.or_eq_true] at h
          rcases h with (h | h) | h
          · exact .inl h
          · refine .inr ⟨e, by simp, hb, .inl ?_⟩
            rw [Nat.one_shiftLeft, Nat.testBit_two_pow] at h
            simpa using h
          · exact .inr ⟨e, by simp, hb, .inr h⟩
        · exact .inl h
      · exact .inr ⟨e', by simp [h1], h2⟩
  rcases key _ _ h with h | ⟨e, h1, h2⟩
  · simp at h
  · exact ⟨e, by simpa using h1, h2⟩
theorem ancsGo_spec : ∀ (rest : List Oper) (acc : List Nat), (∀ i, i < acc.length → (ancsGo rest acc).getD i 0 = acc.getD i 0) ∧ ∀ j, j < rest.length → ∃ acc' : List Nat, acc'.length = acc.length + j ∧ (∀ i, i < acc'.length → acc'.getD i 0 = (ancsGo rest acc).getD i 0) ∧ (ancsGo rest acc).getD (acc.length + j) 0 = ancOf acc' (rest.getD j default)
  | [], acc => ⟨fun _ _ => rfl, fun j hj => by simp at hj⟩
  | o :: l, acc => by
    obtain ⟨h1, h2⟩ := ancsGo_spec l (acc ++ [ancOf acc o])
    have e1 : ∀ i, i < acc.length → (ancsGo (o :: l) acc).getD i 0 = acc.getD i 0 := fun i hi => by
      show (ancsGo l (acc ++ [ancOf acc o])).getD i 0 = _
      rw [h1 i (by simp; omega), List.getD_eq_getElem?_getD, List.getElem?_append_left hi, ← List.getD_eq_getElem?_getD]
    refine ⟨e1, fun j hj => ?_⟩
    cases j with
    | zero =>
      refine ⟨acc, rfl, fun i hi => (e1 i hi).symm, ?_⟩
      show (ancsGo l (acc ++ [ancOf acc o])).getD (acc.length + 0) 0 = _
      rw [h1 _ (by simp)]; simp
    | succ j =>
      obtain ⟨acc', h3, h4, h5⟩ := h2 j (by simpa using hj)
      simp only [List.length_append, List.length_cons, List.length_nil] at h3 h5
      refine ⟨acc', by omega, h4, ?_⟩
      show (ancsGo l (acc ++ [ancOf acc o])).getD (acc.length + (j + 1)) 0 = _
      rw [show acc.length + (j + 1) = acc.length + (0 + 1) + j by omega, h5]
      rfl
theorem anc_listed {ops : List Oper} {listed : Nat → Prop} (hcl : ∀ i, listed i → ∀ e ∈ (ops.getD i default).after, Region.binds .any e = true → listed e.on) (l : Nat) : ∀ (i : Nat), i < ops.length → (∀ e ∈ (ops.getD i default).after, Region.binds .any e = true → listed e.on) → ((ancsGo ops []).getD i 0).testBit l = true → listed l := by
  intro i
  induction i using Nat.strongRecOn with
  | _ i ih =>
    intro hlt hi h
    obtain ⟨acc', h3, h4, h5⟩ := (ancsGo_spec ops []).2 i hlt
    simp only [List.length_nil, Nat.zero_add] at h3 h5
    rw [h5] at h
    obtain ⟨e, he, hb, h⟩ := ancOf_bit h
    have h1 := hi e he hb
    rcases h with h | h
    · rw [← h]; exact h1
    · have hlt2 : e.on < acc'.length := by
        by_cases hq : e.on < acc'.length
        · exact hq
        · rw [List.getD_eq_getElem?_getD, List.getElem?_eq_none (by omega)] at h; simp at h
      rw [h4 _ hlt2] at h
      exact ih e.on (by omega) (by omega) (hcl e.on h1) h
theorem pairs_pw {A : List Nat} {prs : List (Nat × Nat)} {ops : List Oper} : ∀ {l : List Nat}, pairsOk A prs ops l = true → l.Pairwise fun l i => pairOk A prs ops l i = true
  | [], _ => .nil
  | x :: l, h => by
    simp only [pairsOk, Bool.and_eq_true, List.all_eq_true] at h
    exact .cons (fun i hi => h.1 i hi) (pairs_pw h.2)
theorem prs_mem {base : Nat} {τ : Slots} {ops : List Oper} {l i : Nat} : ∀ {prs : List (Nat × Nat)}, prsOk P base τ ops prs → (l, i) ∈ prs → l ≠ i → compat (fpOf P base τ (ops.getD l default)) (fpOf P base τ (ops.getD i default))
  | [], _, h, _ => by cases h
  | (l', i') :: rest, h, hm, hne => by
    rcases List.mem_cons.1 hm with e | hm
    · obtain ⟨rfl, rfl⟩ := Prod.mk.inj e; exact h.1.resolve_left hne
    · exact prs_mem h.2 hm hne
theorem free_of {ops : List Oper} {prs : List (Nat × Nat)} {A : List Nat} {i : Nat} {l2 : List Nat} {K : Slots → Heap → Prop} (hK : ∀ τ σ, K τ σ → ∀ l, (l, i) ∈ prs → l ≠ i → l < ops.length → compat (fpOf P σ.nx τ (ops.getD l default)) (fpOf P σ.nx τ (ops.getD i default)))
    (hlook : ∀ p ∈ prs, p.1 = p.2 ∨ prsLook A ops p.1 = true ∧ prsLook A ops p.2 = true) (hlt : ∀ l j, l < ops.length → (A.getD l 0).testBit j = true → j < l) :
    ∀ (l1 : List Nat), (l1 ++ i :: l2).Pairwise (fun l i => pairOk A prs ops l i = true) → (∀ j ∈ l1 ++ i :: l2, j < ops.length ∧ (A.getD i 0).testBit j = false) → Free P (rcOf ops prs) ops (ops.getD i default) K (l2.map fun i => ops.getD i default) (l1.map fun i => ops.getD i default)
  | [], _, _ => trivial
  | l :: l1, hp, hj => by
    rw [List.cons_append, List.pairwise_cons] at hp
    refine ⟨?_, free_of hK hlook hlt l1 hp.2 fun j h => hj j (List.mem_cons_of_mem _ h)⟩
    have h1 := hp.1 i (by simp)
    unfold pairOk at h1
    rw [Bool.and_eq_true, Bool.or_eq_true, Bool.or_eq_true, Bool.and_eq_true] at h1
    obtain ⟨hl, hb⟩ := hj l (by simp)
    rcases h1.2 with (h | h) | ⟨h, hd⟩
    · rw [hb] at h; cases h
    · exact .inl h
    · have hm : (l, i) ∈ prs := by simpa using h
      have hne : l ≠ i := by simpa using h1.1
      have hlk := (hlook _ hm).resolve_left hne
      refine .inr ⟨hd, fun τ σ hk => hK τ σ hk l hm hne hl, fun t ht o ho e => ?_⟩
      obtain ⟨j, hjm, rfl⟩ : ∃ j, j ∈ l :: (l1 ++ i :: l2) ∧ ops.getD j default = o := by
        have : o ∈ (l :: (l1 ++ i :: l2)).map fun i => ops.getD i default := by simpa using ho
        obtain ⟨j, h1, h2⟩ := List.mem_map.1 this
        exact ⟨j, h1, h2⟩
      have hjj := hj j hjm
      have look : ∀ q, prsLook A ops q = true → t ∈ looks ops (ops.getD q default) → (A.getD q 0).testBit j = true := by
        intro q hq hqt
        unfold prsLook at hq
        have := List.all_eq_true.1 (List.all_eq_true.1 hq t hqt) j (List.mem_range.2 hjj.1)
        rw [e] at this
        simpa using this
      rcases List.mem_append.1 ht with ht | ht
      · have hA := look l hlk.1 ht
        rcases List.mem_cons.1 hjm with rfl | hjm
        · exact absurd (hlt _ _ hl hA) (Nat.lt_irrefl _)
        · have h2 := hp.1 j hjm
          unfold pairOk at h2
          rw [Bool.and_eq_true, Bool.or_eq_true, Bool.or_eq_true, Bool.and_eq_true] at h2
          rcases h2.2 with (h2 | h2) | ⟨-, h2⟩
          · have := hlt _ _ hjj.1 h2
            have := hlt _ _ hl hA
            omega
          · exact (apart_spec (swap_ap h2)).2.2 t ht e
          · exact (apart_spec (dyn_ap h2).1).2.2 t ht e
      · have := look i hlk.2 ht
        rw [hjj.2] at this; cases this
theorem ready_some {ops : Array Oper} (hedge : ∀ i, i < ops.size → ∀ e ∈ (ops.getD i default).after, Region.binds .any e = true → e.on < i) :
  ∀ (rem : List Nat) (listed : Array Bool), (∀ i, i ∈ rem ↔ i < ops.size ∧ listed.getD i true = false) → listed.size = ops.size → rem ≠ [] → Region.ready .any ops listed ≠ [] := by
  intro rem listed hrem hsz hne hnil
  have hall : ∀ i, i < ops.size → listed.getD i true = true := by
    intro i
    induction i using Nat.strongRecOn with
    | _ i ih =>
      intro hi
      cases hli : listed.getD i true with
      | true => rfl
      | false =>
        exfalso
        have : i ∈ Region.ready .any ops listed := mem_ready.2 ⟨hli, ops[i], Array.getElem?_eq_getElem hi, fun e he hb => by
          have hlt := hedge i hi e (by simpa [hi] using he) hb
          have := ih e.on hlt (by omega)
          have hes : e.on < listed.size := by omega
          simp [Array.getD_eq_getD_getElem?, hes] at this ⊢; exact this⟩
        rw [hnil] at this; cases this
  cases rem with
  | nil => exact hne rfl
  | cons x r =>
    have := (hrem x).1 (by simp)
    rw [hall x this.1] at this; cases this.2
theorem draw_sound {ops : Array Oper} {Q : Exit → Act → World → Prop} {K : Slots → Heap → Prop} (hok : regOk P N ops = true) (hK : Resp K)
    (hedge : ∀ i, i < ops.size → ∀ e ∈ (ops.getD i default).after, Region.binds .any e = true → e.on < i)
    {prs : List (Nat × Nat)} (hprs : ∀ τ σ, K τ σ → ∀ l i, (l, i) ∈ prs → l ≠ i → l < ops.size → i < ops.size → compat (fpOf P σ.nx τ (ops.toList.getD l default)) (fpOf P σ.nx τ (ops.toList.getD i default)))
    (hlook : ∀ p ∈ prs, p.1 = p.2 ∨ prsLook (ancsGo ops.toList []) ops.toList p.1 = true ∧ prsLook (ancsGo ops.toList []) ops.toList p.2 = true)
    (huniq : ∀ i j, i < ops.size → j < ops.size → i ≠ j → namer (rcOf ops.toList prs) (ops.getD i default) = true → namer (rcOf ops.toList prs) (ops.getD j default) = true → (ops.getD i default).dst.getD 0 ≠ (ops.getD j default).dst.getD 0)
    {tl : List Nat} (htl : ∀ i, i ∈ tl → i < ops.size ∧ ∀ j, j < ops.size → j ∉ tl → ((ancsGo ops.toList []).getD i 0).testBit j = true)
    (hQ : ∀ τ σ a w listed, K τ σ → St N I0 μ0 B0 w0 τ (σ.bump lim) a w → (∀ i, i ∈ tl ↔ i < ops.size ∧ listed.getD i true = false) → listed.size = ops.size →
      (∀ i, listed.getD i false = true → ∀ e ∈ (ops.getD i default).after, Region.binds .any e = true → listed.getD e.on false = true) → wpAny P .any ops Q tl.length listed a w) :
    ∀ (n : Nat) (rem : List Nat) (listed : Array Bool) (τ : Slots) (σ : Heap) (a : Act) (w : World), rem.length = n → 
    (rem.Pairwise fun l i => pairOk (ancsGo ops.toList []) prs ops.toList l i = true) → (∀ i ∈ rem, i ∉ tl) → (∀ i, (i ∈ rem ∨ i ∈ tl) ↔ i < ops.size ∧ listed.getD i true = false) → listed.size = ops.size →
    (∀ i, listed.getD i false = true → ∀ e ∈ (ops.getD i default).after, Region.binds .any e = true → listed.getD e.on false = true) →
    Stps P (some (rcOf ops.toList prs)) ops.toList (rem.map fun i => ops.getD i default) τ σ K → StG lim (fun x => ∃ i ∈ rem, namer (rcOf ops.toList prs) (ops.getD i default) = true ∧ (ops.getD i default).dst.getD 0 = x) N I0 μ0 B0 w0 τ σ a w → wpAny P .any ops Q (n + tl.length) listed a w := by
  have hop : ∀ i, i < ops.size → opOk P (ops.getD i default).op = true := fun i hi => by
    have := (reg_ok hok (Array.getElem?_eq_getElem hi)).1
    simpa [hi] using this
  have hready := ready_some (ops := ops) hedge
  intro n
  induction n with
  | zero =>
    intro rem listed τ σ a w hlen hpw hdis hrem hsz hcl h hS
    have : rem = [] := List.eq_nil_of_length_eq_zero hlen
    subst this
    rw [Nat.zero_add]
    exact hQ _ _ _ _ listed h hS.out (fun i => by simpa using hrem i) hsz hcl
  | succ n ih =>
    intro rem listed τ σ a w hlen hpw hdis hrem hsz hcl h hS
    have hrem' : ∀ i, i ∈ rem ++ tl ↔ i < ops.size ∧ listed.getD i true = false := fun i => by rw [List.mem_append]; exact hrem i
    rw [show n + 1 + tl.length = (n + tl.length) + 1 by omega]
    refine ⟨fun h0 => absurd h0 (hready (rem ++ tl) listed hrem' hsz (by intro e; have := (List.append_eq_nil_iff.1 e).1; rw [this] at hlen; cases hlen)), fun i hi => ?_⟩
    obtain ⟨h1, o, ho, hall⟩ := mem_ready.1 hi
    have hi' : i < ops.size := by
      by_cases hlt : i < ops.size
      · exact hlt
      · rw [Array.getElem?_eq_none (by omega)] at ho; cases ho
    have hoi : ops.getD i default = o := by simp [Array.getD_eq_getD_getElem?, ho]
    have hg0 : ∀ i, ops.toList.getD i default = ops.getD i default := fun i => by simp
    have hirem : i ∈ rem := by
      rcases (hrem i).2 ⟨hi', h1⟩ with h2 | h2
      · exact h2
      · exfalso
        cases rem with
        | nil => cases hlen
        | cons j r =>
          have hj := (hrem j).1 (.inl (by simp))
          have hb := (htl i h2).2 j hj.1 (hdis j (by simp))
          have := anc_listed (ops := ops.toList) (listed := fun i => listed.getD i false = true) (fun i hi => by rw [hg0]; exact hcl i hi) j i (by simpa using hi') (by rw [hg0, hoi]; exact hall) hb
          have hjs : j < listed.size := by rw [hsz]; exact hj.1
          have h3 := hj.2
          simp [Array.getD_eq_getD_getElem?, hjs] at this h3; rw [this] at h3; cases h3
    obtain ⟨l1, l2, rfl⟩ := List.append_of_mem hirem
    have hpw0 := hpw
    rw [List.pairwise_append] at hpw
    obtain ⟨hp1, hp2, hp3⟩ := hpw
    rw [List.pairwise_cons] at hp2
    have hmem : ∀ j, j ∈ l1 ∨ j ∈ l2 → j < ops.size ∧ listed.getD j true = false := fun j hj => (hrem j).1 (.inl (by rcases hj with h | h <;> simp [h]))
    have hne : ∀ j, j ∈ l1 ∨ j ∈ l2 → j ≠ i := by
      intro j hj
      rcases hj with h | h
      · have := hp3 j h i (by simp); simp only [pairOk, Bool.and_eq_true, bne_iff_ne] at this; exact this.1
      · have := hp2.1 j h; simp only [pairOk, Bool.and_eq_true, bne_iff_ne] at this; exact fun e => this.1 e.symm
    have hg : ∀ i, ops.toList.getD i default = ops.getD i default := fun i => by simp
    have hanc : ∀ j, listed.getD j true = false → j < ops.size → ((ancsGo ops.toList []).getD i 0).testBit j = false := by
      intro j hj2 hjl
      apply Bool.eq_false_iff.2
      intro h
      have := anc_listed (ops := ops.toList) (listed := fun i => listed.getD i false = true) (fun i hi => by rw [hg]; exact hcl i hi) j i (by simpa using hi') (by rw [hg, hoi]; exact hall) h
      have hjs : j < listed.size := by rw [hsz]; exact hjl
      simp [Array.getD_eq_getD_getElem?, hjs] at this hj2; rw [this] at hj2; cases hj2
    have hlt : ∀ l j, l < ops.toList.length → ((ancsGo ops.toList []).getD l 0).testBit j = true → j < l := by
      intro l j hl h
      have hl' : l < ops.size := by simpa using hl
      exact anc_listed (ops := ops.toList) (listed := fun x => x < l) (fun i hi e he hb => Nat.lt_trans (hedge i (Nat.lt_trans hi hl') e (by rw [← hg]; exact he) hb) hi) j l hl (fun e he hb => hedge l hl' e (by rw [← hg]; exact he) hb) h
    have hfree := free_of (P := P) (K := K) (i := i) (l2 := l2) (fun τ σ hk l hm hne hl => hprs τ σ hk l i hm hne (by simpa using hl) hi') hlook hlt l1 hpw0 (fun j hj => by
      have := (hrem j).1 (.inl hj)
      exact ⟨by simpa using this.1, hanc j this.2 this.1⟩)
    have h' : Stps P (some (rcOf ops.toList prs)) ops.toList (ops.getD i default :: ((l1 ++ l2).map fun i => ops.getD i default)) τ σ K := by
      have hm : ∀ l : List Nat, (l.map fun i => ops.toList.getD i default) = l.map fun i => ops.getD i default := fun l => List.map_congr_left fun x _ => hg x
      rw [hg, hm, hm] at hfree
      have h2 := stps_front (P := P) (all := ops.toList) (i := ops.getD i default) hK (l2.map fun i => ops.getD i default) (hop i hi') (fun o ho => by
        obtain ⟨j, hj, rfl⟩ := List.mem_map.1 ho; exact hop j (hmem j (.inr hj)).1) (l1.map fun i => ops.getD i default) τ σ (fun o ho => by
        obtain ⟨j, hj, rfl⟩ := List.mem_map.1 ho; exact hop j (hmem j (.inl hj)).1) hfree (by simpa using h)
      simpa using h2
    refine wpOp_mono ?_ (op_sound hok hi' h' hS (fun rc hrc => by cases hrc; exact ⟨rfl, fun hn => ⟨i, by simp, hn, rfl⟩⟩) nofun)
    rintro a w ⟨τ, σ, hk, hs⟩
    replace hs := hs.mono (U' := fun x => ∃ i ∈ l1 ++ l2, namer (rcOf ops.toList prs) (ops.getD i default) = true ∧ (ops.getD i default).dst.getD 0 = x) (by
      rintro x ⟨j, hj, hj1, hj2⟩
      have hj' := List.mem_append.1 hj
      exact ⟨⟨j, by rcases hj' with h | h <;> simp [h], hj1, hj2⟩, fun h => huniq i j hi' (hmem j hj').1 (hne j hj').symm h.1 hj1 (h.2.trans hj2.symm)⟩)
    refine ih (l1 ++ l2) (listed.setIfInBounds i true) τ σ a w (by simp at hlen ⊢; omega) (List.pairwise_append.2 ⟨hp1, hp2.2, fun x hx y hy => hp3 x hx y (by simp [hy])⟩) (fun j hj => hdis j (by rcases List.mem_append.1 hj with h | h <;> simp [h])) (fun j => ?_) (by simpa using hsz) (fun j hj e he hb => ?_) hk hs
    · constructor
      · rintro (hj | hj)
        · have hj' := List.mem_append.1 hj
          rw [getD_set_ne true (hne j hj').symm]; exact hmem j hj'
        · have hij : i ≠ j := by rintro rfl; exact hdis i hirem hj
          rw [getD_set_ne true hij]; exact (hrem j).1 (.inr hj)
      · rintro ⟨hj1, hj2⟩
        by_cases hji : i = j
        · subst hji
          have : i < listed.size := by omega
          simp [Array.getD_eq_getD_getElem?, this] at hj2
        · rw [getD_set_ne true hji] at hj2
          rcases (hrem j).2 ⟨hj1, hj2⟩ with h | h
          · left
            simp only [List.mem_append, List.mem_cons] at h ⊢
            rcases h with h | h | h
            · exact .inl h
            · exact absurd h.symm hji
            · exact .inr h
          · exact .inr h
    · by_cases hji : i = j
      · subst hji
        rw [hoi] at he
        exact getD_set_true (hall e he hb)
      · rw [getD_set_ne false hji] at hj
        exact getD_set_true (hcl j hj e he hb)

/-- the tail: each operation comes behind all ahead of it -/
theorem tail_sound {ops : Array Oper} {Q : Exit → Act → World → Prop} {K : Slots → Heap → Prop} (hok : regOk P N ops = true)
    (hedge : ∀ i, i < ops.size → ∀ e ∈ (ops.getD i default).after, Region.binds .any e = true → e.on < i)
    (hQ : ∀ τ σ a w, K τ σ → St N I0 μ0 B0 w0 τ σ a w → Q .normal a w) : ∀ (tl : List Nat) (listed : Array Bool) (τ : Slots) (σ : Heap) (a : Act) (w : World), (tl.Pairwise fun l i => ((ancsGo ops.toList []).getD i 0).testBit l = true) →
    (∀ i, i ∈ tl ↔ i < ops.size ∧ listed.getD i true = false) → listed.size = ops.size → (∀ i, listed.getD i false = true → ∀ e ∈ (ops.getD i default).after, Region.binds .any e = true → listed.getD e.on false = true) →
    Stps P none ops.toList (tl.map fun i => ops.getD i default) τ σ K → St N I0 μ0 B0 w0 τ σ a w → wpAny P .any ops Q tl.length listed a w
  | [], listed, τ, σ, a, w, _, hrem, hsz, hcl, h, hS => by
    refine ⟨?_, hQ _ _ _ _ h hS⟩
    apply List.eq_nil_iff_forall_not_mem.2
    intro i hi
    obtain ⟨h1, o, ho, -⟩ := mem_ready.1 hi
    have hlt : i < ops.size := by
      by_cases hlt : i < ops.size
      · exact hlt
      · rw [Array.getElem?_eq_none (by omega)] at ho; cases ho
    have : i ∈ ([] : List Nat) := (hrem i).2 ⟨hlt, h1⟩
    cases this
  | k :: tl, listed, τ, σ, a, w, hpw, hrem, hsz, hcl, h, hS => by
    refine ⟨fun h0 => absurd h0 (ready_some hedge (k :: tl) listed hrem hsz (by simp)), fun i hi => ?_⟩
    obtain ⟨h1, o, ho, hall⟩ := mem_ready.1 hi
    have hi' : i < ops.size := by
      by_cases hlt : i < ops.size
      · exact hlt
      · rw [Array.getElem?_eq_none (by omega)] at ho; cases ho
    have hoi : ops.getD i default = o := by simp [Array.getD_eq_getD_getElem?, ho]
    have hg0 : ∀ i, ops.toList.getD i default = ops.getD i default := fun i => by simp
    obtain ⟨hp1, hp2⟩ := List.pairwise_cons.1 hpw
    have hik : i = k := by
      rcases List.mem_cons.1 ((hrem i).2 ⟨hi', h1⟩) with h2 | h2
      · exact h2
      · exfalso
        have hj := (hrem k).1 (by simp)
        have := anc_listed (ops := ops.toList) (listed := fun i => listed.getD i false = true) (fun i hi => by rw [hg0]; exact hcl i hi) k i (by simpa using hi') (by rw [hg0, hoi]; exact hall) (hp1 i h2)
        have hjs : k < listed.size := by rw [hsz]; exact hj.1
        have h3 := hj.2
        simp [Array.getD_eq_getD_getElem?, hjs] at this h3; rw [this] at h3; cases h3
    subst hik
    obtain ⟨I, μ, k1, k2, k3, k4, k5, k6⟩ := hS
    refine wpOp_mono ?_ (op_sound (n := 0) (U := fun _ => False) hok hi' h ⟨I, μ, k1, k2, k3, k4, k5, k6, nofun⟩ nofun (fun _ => ⟨rfl, fun _ => id⟩))
    rintro a w ⟨τ, σ, hk, I, μ, k1, k2, k3, k4, k5, k6, -⟩
    have hnk : i ∉ tl := fun hm => by
      have hb := hp1 i hm
      have := anc_listed (ops := ops.toList) (listed := fun x => x < i) (fun x hx e he hb => Nat.lt_trans (hedge x (Nat.lt_trans hx hi') e (by rw [← hg0]; exact he) hb) hx) i i (by simpa using hi') (fun e he hb => hedge i hi' e (by rw [← hg0]; exact he) hb) hb
      exact absurd this (Nat.lt_irrefl _)
    refine tail_sound hok hedge hQ tl (listed.setIfInBounds i true) τ σ a w hp2 (fun j => ?_) (by simpa using hsz) (fun j hj e he hb => ?_) hk ⟨I, μ, k1, k2, k3, k4, k5, k6⟩
    · constructor
      · intro hj
        have hij : i ≠ j := by rintro rfl; exact hnk hj
        rw [getD_set_ne true hij]; exact (hrem j).1 (by simp [hj])
      · rintro ⟨hj1, hj2⟩
        by_cases hji : i = j
        · subst hji
          have : i < listed.size := by omega
          simp [Array.getD_eq_getD_getElem?, this] at hj2
        · rw [getD_set_ne true hji] at hj2
          rcases List.mem_cons.1 ((hrem j).2 ⟨hj1, hj2⟩) with h | h
          · exact absurd h.symm hji
          · exact h
    · by_cases hji : i = j
      · subst hji
        rw [hoi] at he
        exact getD_set_true (hall e he hb)
      · rw [getD_set_ne false hji] at hj
        exact getD_set_true (hcl j hj e he hb)
theorem dropL_eq : ∀ (l : List Nat) (ops : List Oper), dropL l ops = ops.drop l.length
  | [], _ => rfl
  | _ :: l, _ :: ops => dropL_eq l ops
  | _ :: _, [] => by simp [dropL]
theorem cast_any {ops : Array Oper} {Q : Exit → Act → World → Prop} {n m : Nat} {listed : Array Bool} {a : Act} {w : World} (h : n = m) (k : wpAny P .any ops Q n listed a w) : wpAny P .any ops Q m listed a w := h ▸ k
theorem region_draw {ops : Array Oper} {id : Nat} {Q : Exit → Act → World → Prop} {K : Slots → Heap → Prop} (hm : P.follows .mixedOrders = true) (hok : regOk P N ops = true) {ord : List Nat} {prs : List (Nat × Nat)} (hd : drawOk ops.toList ord prs = true)
    (hprs : ∀ τ σ, K τ σ → prsOk P σ.nx τ ops.toList prs)
    {K2 : Slots → Heap → Prop} (hT : ∀ τ σ, K τ σ → Stps P none ops.toList ((List.range' ord.length (ops.size - ord.length)).map fun i => ops.getD i default) τ (σ.bump lim) K2)
    (hQ : ∀ τ σ a w, K2 τ σ → St N I0 μ0 B0 w0 τ σ a w → Q .normal a w) {τ : Slots} {σ : Heap} {a : Act} {w : World}
    (h : Stps P (some (rcOf ops.toList prs)) ops.toList (ord.map fun i => ops.getD i default) τ σ K) (hS : St N I0 μ0 B0 w0 τ σ a w) : (Code.region id ops true).wp P Q a w := by
  unfold drawOk at hd
  simp only [Bool.and_eq_true, List.all_eq_true, decide_eq_true_eq, List.mem_range, List.contains_iff_mem, Array.all_eq_true', Bool.or_eq_true, Bool.not_eq_true'] at hd
  obtain ⟨⟨⟨⟨⟨⟨d0, d1'⟩, d2⟩, d3⟩, d4⟩, d5⟩, d6⟩ := hd
  have d0' : ord.length ≤ ops.size := by simpa using d0
  have d1 : ∀ i ∈ ord, i < ops.toList.length := fun i hi => Nat.lt_of_lt_of_le (d1' i hi) d0
  have hg : ∀ i, ops.toList.getD i default = ops.getD i default := fun i => by simp
  have hdst : ∀ i, i < ops.size → namer (rcOf ops.toList prs) (ops.getD i default) = true → ∃ d, (ops.getD i default).dst = some d ∧ d < lim ∧ ∀ j, j < ops.size → i ≠ j → namer (rcOf ops.toList prs) (ops.getD j default) = true → (ops.getD j default).dst ≠ some d := by
    intro i hi hn
    have := d5 i (by simpa using hi)
    rw [hg, hn] at this
    have := this.resolve_left nofun
    cases hd : (ops.getD i default).dst with
    | none => rw [hd] at this; cases this
    | some d =>
      rw [hd] at this
      simp only [Bool.and_eq_true, List.all_eq_true, decide_eq_true_eq, List.mem_range, Bool.or_eq_true, Bool.not_eq_true', bne_iff_ne] at this
      refine ⟨d, rfl, this.1, fun j hj hij hnj e => ?_⟩
      have := this.2 j (by simpa using hj)
      rw [hg, hnj] at this
      rcases this with (h | h) | h
      · exact hij h
      · cases h
      · exact h e
  have hS' : StG lim (fun x => ∃ i ∈ ord, namer (rcOf ops.toList prs) (ops.getD i default) = true ∧ (ops.getD i default).dst.getD 0 = x) N I0 μ0 B0 w0 τ σ a { w with drawn := w.drawn + 1 } := by
    obtain ⟨I, μ, h1, h2, h3, h4⟩ := hS
    refine ⟨I, μ, (h1.drew _).bump lim, TR.mono (w := w) (fun _ h => h) (Where.le_refl μ) (fun _ _ => rfl) h2, ⟨h3.os, h3.tape, h3.output, h3.size, h3.old, h3.imm, h3.imm', h3.row, Nat.le_trans h3.drawn (Nat.le_succ _)⟩, h4.1, h4.2.1, h4.2.2, ?_⟩
    rintro x ⟨i, hi, hn, rfl⟩
    obtain ⟨d, e, hlt, -⟩ := hdst i (by simpa using d1 i hi) hn
    rw [e]
    refine ⟨hlt, ?_⟩
    refine fun i => ?_
    cases hm : μ (σ.nx + d, i) with
    | none => rw [Option.getD_some, hm]
    | some x => exact absurd (h1.nm (σ.nx + d, i) (by rw [hm]; exact Option.some_ne_none _)) (Nat.not_lt.2 (Nat.le_add_right _ _))
  have htl : ∀ i, i ∈ List.range' ord.length (ops.size - ord.length) ↔ ord.length ≤ i ∧ i < ops.size := fun i => by rw [List.mem_range'_1]; omega
  have hord : ∀ i, i < ord.length → i ∈ ord := fun i hi => by
    have := (d2 i (by simp; omega)).1
    rcases this with h | h
    · exact h
    · omega
  have hopk : ∀ i, i < ops.size → opOk P (ops.getD i default).op = true := fun i hi => by
    have := (reg_ok hok (Array.getElem?_eq_getElem hi)).1
    simpa [hi] using this
  have hedge : ∀ i, i < ops.size → ∀ e ∈ (ops.getD i default).after, Region.binds .any e = true → e.on < i := by
    intro i hi e he hb
    have := (d2 i (by simpa using hi)).2 e (by simpa using he)
    rcases this with h | h
    · rw [hb] at h; cases h
    · exact h
  refine wp_region_any hm (cast_any (show ord.length + (List.range' ord.length (ops.size - ord.length)).length = ops.size by rw [List.length_range']; omega) (draw_sound (K := fun τ σ => ∃ τ0 σ0, SEq τ0 τ ∧ HEq' σ0 σ ∧ K τ0 σ0) hok ?_ ?_ (prs := prs) ?_ (fun p hp => by have := d4 p hp; simpa using this) ?_ (tl := List.range' ord.length (ops.size - ord.length)) ?_ ?_ ord.length ord _ τ σ a _ rfl (pairs_pw d3) ?_ ?_ (by simp) ?_ ?_ hS'))
  · rintro τ τ' σ σ' hs hh ⟨τ0, σ0, h1, h2, h3⟩
    exact ⟨τ0, σ0, fun i => (hs i).trans (h1 i), h2.trans hh, h3⟩
  · exact hedge
  · rintro τ σ ⟨τ0, σ0, h1, h2, h3⟩ l i hm hne hl hi
    have := prs_mem (hprs _ _ h3) hm hne
    rw [hg, hg] at this ⊢
    rw [h2.1, fpOf_same (hopk l hl) (ev_same (all := ops.toList) fun t _ => h1 t), fpOf_same (hopk i hi) (ev_same (all := ops.toList) fun t _ => h1 t)]
    exact this
  · intro i j hi hj hij hn1 hn2 e
    obtain ⟨d, e1, -, h1⟩ := hdst i hi hn1
    obtain ⟨d', e2, -, -⟩ := hdst j hj hn2
    rw [e1, e2] at e
    have e : d = d' := e
    exact h1 j hj hij hn2 (by rw [e2, e])
  · intro i hi
    rw [htl] at hi
    refine ⟨hi.2, fun j hj hn => ?_⟩
    rw [htl] at hn
    have := (d6 i (by simpa using hi.2)).resolve_left (by omega)
    exact this j (by omega)
  · rintro τ σ a w listed ⟨τ0, σ0, h1, h2, h3⟩ hs hl1 hl2 hl3
    obtain ⟨I, μ, k1, k2, k3, k4⟩ := hs
    have hs' : St N I0 μ0 B0 w0 τ0 (σ0.bump lim) a w := ⟨I, μ, k1.heq (h2.symm.bump lim), fun i => by rw [← h1 i]; exact k2 i, by rw [Blk.heq (h2.symm.bump lim)]; exact k3, k4⟩
    refine tail_sound hok hedge hQ _ listed τ0 _ a w ?_ hl1 hl2 hl3 (hT _ _ h3) hs'
    refine (List.pairwise_lt_range' (s := ord.length) (n := ops.size - ord.length)).imp_of_mem ?_
    intro l i hl hi hli
    rw [htl] at hl hi
    exact ((d6 i (by simpa using hi.2)).resolve_left (by omega)) l hli
  · intro i hi hi2
    rw [htl] at hi2
    have := d1' i hi; omega
  · intro i
    constructor
    · intro hi
      have : i < ops.size := by
        rcases hi with hi | hi
        · simpa using d1 i hi
        · exact ((htl i).1 hi).2
      exact ⟨this, by simp [Array.getD_eq_getD_getElem?, this]⟩
    · rintro ⟨hi, -⟩
      by_cases h : i < ord.length
      · exact .inl (hord i h)
      · exact .inr ((htl i).2 ⟨by omega, hi⟩)
  · intro i hi
    exfalso
    by_cases hlt : i < ops.size
    · simp [Array.getD_eq_getD_getElem?, hlt] at hi
    · simp [Array.getD_eq_getD_getElem?, hlt] at hi
  · have hmon : ∀ (l : List Oper) (τ : Slots) (σ : Heap), Stps P (some (rcOf ops.toList prs)) ops.toList l τ σ K → Stps P (some (rcOf ops.toList prs)) ops.toList l τ σ (fun τ σ => ∃ τ0 σ0, SEq τ0 τ ∧ HEq' σ0 σ ∧ K τ0 σ0) := by
      intro l
      induction l with
      | nil => intro τ σ h; exact ⟨τ, σ, fun _ => rfl, HEq'.refl _, h⟩
      | cons o l ih => intro τ σ h; exact stp_mono h fun v σ' hv => ih _ _ hv
    exact hmon _ _ _ h
end
end Go.Nw
