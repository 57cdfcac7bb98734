/- The abstract walk, part 3: the pure operations, one by one. -/
import Derived.Test.YtngdglmimlfefaaNwPure
import Derived.Laws.Strings
import Derived.Laws.Tables
namespace Go.Nw
set_option linter.unusedVariables false
set_option linter.unusedSimpArgs false
variable {P : Program} {I : Nat → Prop} {μ : Where} {σ : Heap} {w : World} {e : Operand → AVal} {ρ : Operand → Value}

theorem run_isAgg {t : TypeId} {d : TypeDesc} (h : P.underlying t = some d) (w : World) : (isAgg t).run P w = .ok (aggT P t) w := by
  unfold isAgg aggT
  rw [Sem.run_bind, run_underlying h w, h]
  cases d <;> rfl
theorem add_mk (b o j : Nat) : (⟨b, o, none⟩ : Addr).add j = ⟨b, o + j, none⟩ := by unfold Addr.add; split <;> simp_all

/-- what a load gives -/
theorem load_at {t : TypeId} {b o : Nat} (hok : loadOk P t = true) {c : Nat → Option Value} (hc : ∀ j, w.cell? ⟨b, o + j, none⟩ = c (o + j))
    {v : AVal} {m po : Nat} {d : Nat → Option Value} (h : LR I μ w v m d) (hp : partOk v po (szT P t) (aggT P t)) (hd : ∀ j < m, d j = c (o - po + j)) (hpo : po ≤ o) (hm : po + szT P t ≤ m) :
    ∃ cv, (loadVar t ⟨b, o, none⟩).run P w = .ok cv w ∧ VR I μ w (v.part po (szT P t) (aggT P t)) cv := by
  simp only [loadOk, Bool.and_eq_true, Option.isSome_iff_exists, Bool.or_eq_true, beq_iff_eq] at hok
  obtain ⟨⟨ds, hu⟩, hs⟩ := hok
  obtain ⟨i, hi⟩ := info_of_underlying hu
  have hsz := run_sizeOf (P := P) w hi
  have hl := LR_cells h
  have hdc : ∀ j, j < szT P t → d (po + j) = c (o + j) := fun j hj => by
    rw [hd (po + j) (by omega)]; congr 1; omega
  obtain ⟨h1, h2⟩ := LR_part (size := szT P t) (a := aggT P t) (o := po) h hp (fun h => by rcases hs with hs | hs <;> simp_all)
  cases ha : aggT P t with
  | true =>
    rw [ha] at h1
    have hcell : ∀ j, j < szT P t → w.cell? ((⟨b, o, none⟩ : Addr).add j) = some ((c (o + j)).getD undef) := fun j hj => by
      rw [add_mk, hc, ← hdc j hj]
      obtain ⟨x, hx, -⟩ := hl (po + j) (by omega)
      rw [hx]; rfl
    have hrun := run_loadCells (P := P) w ⟨b, o, none⟩ (szT P t) (fun j => (c (o + j)).getD undef) hcell
    refine ⟨_, ?_, h1 rfl ((List.range (szT P t)).map fun j => (c (o + j)).getD undef).toArray (by simp) fun j hj => ?_⟩
    · unfold loadVar
      rw [Sem.run_bind, run_isAgg hu w, ha]
      simp only [Result.andThen_ok, if_true, Sem.run_bind, hsz]
      rw [show P.cellsOf t = szT P t from rfl, hrun]
      rfl
    · obtain ⟨x, hx, -⟩ := hl (po + j) (by omega)
      rw [hdc j hj] at hx
      simp [hj, hx, hdc j hj]
  | false =>
    have h1' : szT P t = 1 := by rcases hs with hs | hs <;> simp_all
    obtain ⟨x, hx, -⟩ := hl po (by omega)
    have hx' : c o = some x := by rw [← hx]; have := hdc 0 (by omega); simpa using this.symm
    refine ⟨x, ?_, by rw [ha] at h2; exact h2 rfl x hx⟩
    unfold loadVar
    rw [Sem.run_bind, run_isAgg hu, ha]
    have hc0 := hc 0
    simp only [Nat.add_zero] at hc0
    simp only [Result.andThen_ok, Bool.false_eq_true, if_false, run_load, hc0, hx']

theorem sound_load {t : TypeId} {x : Operand} (hok : loadOk P t = true) (hx : VR I μ w (e x) (ρ x)) (hinv : Inv I μ σ w) (hc : (loadF (szT P t) (aggT P t) σ (e x)).1) :
    ∃ cv, (Instr.loadAt t (ρ x)).run P w = .ok cv w ∧ VR I μ w (loadF (szT P t) (aggT P t) σ (e x)).2 cv := by
  generalize hv : e x = v at *
  cases v with
  | ptr k sz i o =>
    obtain ⟨-, b, C, hk, hb⟩ := hx
    have hb := Option.some.inj hb
    simp only [loadF, loadR] at hc ⊢
    cases hr : σ.get k with
    | none => simp [hr] at hc
    | some r =>
      simp only [hr] at hc ⊢
      obtain ⟨⟨h1, rfl⟩, h3⟩ := hc
      obtain ⟨x, hx, hrow⟩ := hinv.row k r hr
      rw [hk] at hx; cases hx
      obtain ⟨cs, ty, hh, -, -, hl⟩ := hrow
      have hl' := hl i h1
      have hgi : r.l.getD i r.d = r.l[i] := by simp [h1]
      rw [hgi] at h3 ⊢
      have hm : o + szT P t ≤ r.sz := by
        by_cases hlf : (r.l[i]).leaf = true
        · obtain ⟨h4, h5, -, h6⟩ := partOk_leaf (I := I) (μ := μ) (w := w) h3 hlf
          have h7 := h6 _ _ hl'
          have : szT P t = 1 := by simp only [loadOk, h5] at hok; simp at hok; exact hok.2
          omega
        · exact (partOk_agg h3 hlf hl').1
      obtain ⟨cv, hcv, hvr⟩ := load_at (P := P) (I := I) (w := w) (t := t) (b := b) (o := i * r.sz + o) hok (c := fun j => cs[j]?) (fun j => by simp [World.cell?, hh]) hl' h3 (fun j hj => by congr 1; omega) (by omega) hm
      refine ⟨cv, ?_, hvr⟩
      unfold Instr.loadAt Instr.sureAddr
      rw [hb]; simpa using hcv
  | iptr v o =>
    obtain ⟨-, b, off, hb, hI, hl0⟩ := hx
    have hl : LR I μ w v v.cells fun j => w.cell? ⟨b, off + j, none⟩ := LR_mono (fun _ h => h) (fun _ _ => rfl) v W0 μ (fun _ _ h => by cases h) _ _ _ (fun _ _ => rfl) hl0
    have hb := Option.some.inj hb
    simp only [loadF] at hc ⊢
    have hm : o + szT P t ≤ v.cells := by
      by_cases hlf : v.leaf = true
      · obtain ⟨h4, h5, h6, -⟩ := partOk_leaf (I := I) (μ := μ) (w := w) hc hlf
        have : szT P t = 1 := by simp only [loadOk, h5] at hok; simp at hok; exact hok.2
        omega
      · exact (partOk_agg hc hlf hl).1
    obtain ⟨cv, hcv, hvr⟩ := load_at (P := P) (I := I) (w := w) (t := t) (b := b) (o := off + o) hok (c := fun j => w.cell? ⟨b, j, none⟩) (fun j => rfl) hl hc (fun j hj => by congr 3; omega) (by omega) hm
    refine ⟨cv, ?_, hvr⟩
    unfold Instr.loadAt Instr.sureAddr
    rw [hb]; simpa using hcv
  | _ => exact hc.elim

theorem run_sizeOf' {t : TypeId} (h : (P.info? t).isSome = true) (w : World) : (sizeOf t).run P w = .ok (szT P t) w := by
  obtain ⟨i, hi⟩ := Option.isSome_iff_exists.1 h
  exact run_sizeOf (P := P) w hi

theorem sound_fieldAddr {s : TypeId} {x : Operand} {f : Nat} {fd : Field} (hf : fldT P s f = some fd) (hz : szT P fd.type ≠ 0) (hi : (P.info? fd.type).isSome = true)
    (hx : VR I μ w (e x) (ρ x)) (hc : (fieldF (e x) (foffT P s f)).1) :
    ∃ cv, (Instr.fieldAt s (ρ x) f).run P w = .ok cv w ∧ VR I μ w (fieldF (e x) (foffT P s f)).2 cv := by
  have hu : ∃ fs, P.underlying s = some (.struct fs) ∧ fs[f]? = some fd := by
    unfold fldT at hf; split at hf
    · exact ⟨_, by assumption, hf⟩
    · cases hf
  obtain ⟨fs, hu, hfs⟩ := hu
  have ho : foffT P s f = fd.offset := by simp [foffT, hf]
  have hrun : ∀ b o, ρ x = .pointer (some ⟨b, o, none⟩) → (Instr.fieldAt s (ρ x) f).run P w = .ok (.pointer (some ⟨b, o + fd.offset, none⟩)) w := by
    intro b o hr
    simp only [Instr.fieldAt, Sem.run_bind, run_underlying hu w, Result.andThen_ok, hfs, hr, Instr.sureAddr, Sem.run_pure, fieldPlace, run_sizeOf' hi w, hz, if_false, add_mk]
  generalize hv : e x = v at *
  cases v with
  | ptr k sz i o =>
    obtain ⟨-, b, C, hk, hb⟩ := hx
    exact ⟨_, hrun b _ (Option.some.inj hb), rfl, b, C, hk, by rw [ho]; simp [Nat.add_assoc]⟩
  | iptr v o =>
    obtain ⟨-, b, off, hb, hI, hl⟩ := hx
    exact ⟨_, hrun b _ (Option.some.inj hb), rfl, b, off, by rw [ho]; simp [Nat.add_assoc], hI, hl⟩
  | _ => exact hc.elim

theorem sound_indexAddr {t elem : TypeId} {x i : Operand} (hu : P.underlying t = some (.slice elem)) (hi : (P.info? elem).isSome = true) (hz : szT P elem ≠ 0)
    (hx : VR I μ w (e x) (ρ x)) (hy : VR I μ w (e i) (ρ i)) (hc : (indexF (szT P elem) (e x) (e i)).1) :
    ∃ cv, (Instr.indexAt t (ρ x) (ρ i)).run P w = .ok cv w ∧ VR I μ w (indexF (szT P elem) (e x) (e i)).2 cv := by
  generalize hv : e x = v at *
  generalize hvi : e i = vi at *
  have hrun : ∀ b o n cap k (j : Int), ρ x = .slice (some ⟨b, o, none⟩) n cap → ρ i = .int k j → 0 ≤ j → j < n → (Instr.indexAt t (ρ x) (ρ i)).run P w = .ok (.pointer (some ⟨b, o + j.toNat * szT P elem, none⟩)) w := by
    intro b o n cap k j h1 h2 h3 h4
    simp [Instr.indexAt, run_underlying hu w, h1, h2, asIntOf, run_sizeOf' hi w, h3, h4, add_mk]
  cases v with
  | sl s n f =>
    cases vi with
    | int k j =>
      obtain ⟨⟨h1, h2⟩, rfl⟩ := hc
      obtain ⟨-, a, cap, ha, hn⟩ := hx
      have hj := Option.some.inj hy.2
      rcases hn with rfl | ⟨b, off, rfl, hI, hl⟩
      · omega
      · refine ⟨_, hrun b off n cap k j (Option.some.inj ha) hj h1 h2, rfl, b, off + j.toNat * szT P elem, by simp, hI, ?_⟩
        have := hl.2 j.toNat (by omega)
        have hsz : (f j.toNat).cells = szT P elem ∨ (f j.toNat) = .undef := by
          revert this; cases f j.toNat <;> simp_all [LR, AVal.cells]
        rcases hsz with hsz | hsz
        · rw [hsz]; exact this
        · rw [hsz] at this ⊢
          intro q hq
          simp only [AVal.cells] at hq
          have h3 := this q (by omega)
          simpa [Nat.add_assoc] using h3
    | _ => exact hc.elim
  | sref k e0 s n =>
    cases vi with
    | int k' j =>
      obtain ⟨⟨h1, h2⟩, rfl⟩ := hc
      have hj := Option.some.inj hy.2
      obtain ⟨-, x, a, cap, hk, ha, hn, hx⟩ := hx
      cases x with
      | none => simp only at hx; omega
      | some p =>
        obtain ⟨b, C⟩ := p
        simp only at hx
        obtain ⟨-, hx⟩ := hx
        have ha' := hx.resolve_left (by omega)
        rw [ha'] at ha
        exact ⟨_, hrun b _ n cap k' j (Option.some.inj ha) hj h1 h2, rfl, b, C, hk, by simp only [Nat.add_mul, Nat.add_zero]⟩
    | _ => exact hc.elim
  | _ => exact hc.elim

theorem pick_sound {vc vx vy : AVal} {c x y : Operand} (hz : VR I μ w vc (ρ c)) (hx : VR I μ w vx (ρ x)) (hy : VR I μ w vy (ρ y)) (hc : (pickF vc vx vy).1) :
    ∃ cv, (do pure (if ← asBool (ρ c) then ρ x else ρ y) : Sem Value).run P w = .ok cv w ∧ VR I μ w (pickF vc vx vy).2 cv := by
  unfold pickF at hc ⊢
  split at hc
  · rename_i t g a b
    have h1 := Option.some.inj hz.2
    have h3 := Option.some.inj hy.2
    refine ⟨_, by rw [h1]; simp only [asBool, Sem.run_bind, Sem.run_pure, Result.andThen_ok]; rfl, ?_⟩
    cases t with
    | true => exact hx.1 (hc rfl)
    | false => exact hy
  · rename_i t a g b
    have h1 := Option.some.inj hz.2
    refine ⟨_, by rw [h1]; simp only [asBool, Sem.run_bind, Sem.run_pure, Result.andThen_ok]; rfl, ?_⟩
    cases t with
    | true => exact hx
    | false => exact hy.1 (hc rfl)
  · rename_i t a b
    have h1 := Option.some.inj hz.2
    refine ⟨_, by rw [h1]; simp only [asBool, Sem.run_bind, Sem.run_pure, Result.andThen_ok]; rfl, ?_⟩
    cases t with
    | true => exact hx
    | false => exact hy
  · rename_i t g a g' b
    have h1 := Option.some.inj hz.2
    refine ⟨_, by rw [h1]; simp only [asBool, Sem.run_bind, Sem.run_pure, Result.andThen_ok]; rfl, ?_⟩
    cases t with
    | true => exact hx.1 (hc.1 rfl)
    | false => exact hy.1 (hc.2 rfl)
  · exact hc.elim

theorem sound_pick {c x y : Operand} (hz : VR I μ w (e c) (ρ c)) (hx : VR I μ w (e x) (ρ x)) (hy : VR I μ w (e y) (ρ y)) (hc : (pickF (e c) (e x) (e y)).1) :
    ∃ cv, (do pure (if ← asBool (ρ c) then ρ x else ρ y) : Sem Value).run P w = .ok cv w ∧ VR I μ w (pickF (e c) (e x) (e y)).2 cv := pick_sound hz hx hy hc

theorem sound_indexS {t : TypeId} {x i : Operand} (ht : strT P t = true) (hx : VR I μ w (e x) (ρ x)) (hy : VR I μ w (e i) (ρ i)) (hc : (indexSF (e x) (e i)).1) :
    ∃ cv, (Instr.index t (ρ x) (ρ i)).run P w = .ok cv w ∧ VR I μ w (indexSF (e x) (e i)).2 cv := by
  have hu : P.underlying t = some .string := by
    unfold strT at ht
    split at ht
    · assumption
    · cases ht
  generalize e x = v at *
  generalize e i = vi at *
  unfold indexSF at hc ⊢
  split at hc
  · rename_i s k j
    have h1 := Option.some.inj hx.2
    have h2 := Option.some.inj hy.2
    have hj : j.toNat < s.size := by omega
    have hj' : j.toNat < s.data.size := hj
    refine ⟨.int .u8 (s.data.getD j.toNat 0).toNat, ?_, rfl, rfl⟩
    have hg : s[j.toNat]? = some (s.data.getD j.toNat 0) := by
      rw [getElem?_pos s j.toNat hj]
      simp only [ByteArray.getElem_eq_getElem_data, Array.getD_eq_getD_getElem?, Array.getElem?_eq_getElem hj', Option.getD_some]
    simp [Instr.index, h1, h2, asIntOf, run_underlying hu w, hc.1, hg]
  · exact hc.elim

theorem run_bound {x : Operand} {n : Nat} {cd : BoundsCode} {d : Nat} (hx : VR I μ w (e x) (ρ x)) (hc : (boundF n d (some (e x))).1) :
    (Instr.sliceBound (ρ x) n cd).run P w = .ok (boundF n d (some (e x))).2 w := by
  generalize e x = v at *
  cases v with
  | int k j =>
    have h1 := Option.some.inj hx.2
    have hc : 0 ≤ j ∧ j ≤ n := hc
    simp [Instr.sliceBound, h1, asIntOf, hc.1, hc.2, boundF]
  | _ => exact hc.elim
theorem bound_le {n d : Nat} {o : Option AVal} (hd : d ≤ n) (hc : (boundF n d o).1) : (boundF n d o).2 ≤ n := by
  cases o with
  | none => exact hd
  | some v => cases v with
    | int k j => have hc : 0 ≤ j ∧ j ≤ n := hc; simp only [boundF]; omega
    | _ => exact hc.elim
theorem boundF_up {n m d : Nat} {o : Option AVal} (h : n ≤ m) (hc : (boundF n d o).1) : (boundF m d o).1 ∧ (boundF m d o).2 = (boundF n d o).2 := by
  cases o with
  | none => exact ⟨trivial, rfl⟩
  | some v => cases v with
    | int k j => have hc : 0 ≤ j ∧ j ≤ n := hc; exact ⟨⟨hc.1, by omega⟩, rfl⟩
    | _ => exact hc.elim
theorem run_bounds {b : Bool} {len cap : Nat} {lo hi : Option Operand} (hlc : len ≤ cap) (hlo : ∀ x ∈ lo, VR I μ w (e x) (ρ x)) (hhi : ∀ x ∈ hi, VR I μ w (e x) (ρ x))
    (h1 : (boundF len len (hi.map e)).1) (h2 : (boundF (boundF len len (hi.map e)).2 0 (lo.map e)).1) :
    (Instr.sliceBounds b len cap (lo.map ρ) (hi.map ρ) none).run P w = .ok ((boundF (boundF len len (hi.map e)).2 0 (lo.map e)).2, (boundF len len (hi.map e)).2, cap) w := by
  have hh : ∃ h, h = (boundF len len (hi.map e)).2 := ⟨_, rfl⟩
  obtain ⟨h, heq⟩ := hh
  rw [← heq] at h2 ⊢
  have e3 : (match lo.map ρ with | some v => (do let l ← Instr.sliceBound v h .sliceB; pure (l, h, cap)) | none => (do let l ← pure 0; pure (l, h, cap)) : Sem (Nat × Nat × Nat)).run P w = .ok ((boundF h 0 (lo.map e)).2, h, cap) w := by
    cases lo with
    | none => simp [boundF]
    | some x =>
      have := run_bound (P := P) (cd := .sliceB) (d := 0) (hlo x rfl) h2
      simp only [Option.map_some, Sem.run_bind, this, Result.andThen_ok, Sem.run_pure]
  cases hi with
  | none =>
    have hl : h = len := heq
    subst hl
    simp only [Instr.sliceBounds, Option.map_none, Sem.run_bind, Sem.run_pure, Result.andThen_ok, Option.isSome_none, Bool.false_eq_true, if_false]
    first | exact e3 | simpa using e3
  | some x =>
    have h3 := boundF_up hlc h1
    have h4 := run_bound (P := P) (cd := if b then .sliceAcap else .sliceAlen) (hhi x rfl) h3.1
    rw [show (boundF cap len (some (e x))).2 = h from h3.2.trans heq.symm] at h4
    simp only [Instr.sliceBounds, Option.map_some, Sem.run_bind, Sem.run_pure, Result.andThen_ok, Option.isSome_none, Bool.false_eq_true, if_false]
    rw [h4]
    exact e3
theorem sound_slice {t : TypeId} {x : Operand} {lo hi : Option Operand} (hok : (match P.underlying t with | some (.slice e) => (P.info? e).isSome | some .string => true | _ => false) = true)
    (hx : VR I μ w (e x) (ρ x)) (hlo : ∀ x ∈ lo, VR I μ w (e x) (ρ x)) (hhi : ∀ x ∈ hi, VR I μ w (e x) (ρ x)) (hc : (sliceF (strT P t) (szT P (elT P t)) (e x) (lo.map e) (hi.map e)).1) :
    ∃ cv, (Instr.sliceAt t (ρ x) (lo.map ρ) (hi.map ρ) none).run P w = .ok cv w ∧ VR I μ w (sliceF (strT P t) (szT P (elT P t)) (e x) (lo.map e) (hi.map e)).2 cv := by
  generalize e x = v at *
  cases v with
  | sl s n f =>
    obtain ⟨⟨hs, hsz⟩, h1, h2⟩ := hc
    have hu : ∃ el, P.underlying t = some (.slice el) ∧ (P.info? el).isSome = true := by
      split at hok
      · exact ⟨_, by assumption, hok⟩
      · rename_i hu; simp [strT, hu] at hs
      · cases hok
    obtain ⟨el, hu, hi'⟩ := hu
    have hel : elT P t = el := by simp [elT, hu]
    rw [hel] at hsz
    obtain ⟨-, a, cap, ha, hn⟩ := hx
    have hcap : n ≤ cap := by
      rcases hn with rfl | ⟨_, _, _, _, h, _⟩
      · omega
      · exact h
    have hb := run_bounds (P := P) (b := true) hcap hlo hhi h1 h2
    have hle1 := bound_le (Nat.le_refl n) h1
    have hle2 := bound_le (Nat.zero_le _) h2
    simp only [sliceF]
    generalize (boundF n n (hi.map e)).2 = h at *
    generalize (boundF h 0 (lo.map e)).2 = l at *
    have hmin : min h n = h := by omega
    rw [hmin]
    refine ⟨.slice (if cap = l then a else a.map (·.add (l * szT P el))) (h - l) (cap - l), ?_, rfl, _, _, rfl, ?_⟩
    · simp only [Instr.sliceAt, Sem.run_bind, run_underlying hu w, Result.andThen_ok]
      simp only [Instr.slice, Sem.run_bind, run_underlying hu w, Result.andThen_ok, Option.some.inj ha, hb, run_sizeOf' hi' w]
      simp
    · rcases hn with rfl | ⟨b, off, rfl, hI, hnc, hl⟩
      · exact .inl (by omega)
      · by_cases hl0 : cap = l
        · exact .inl (by omega)
        · refine .inr ⟨b, off + l * s, by rw [if_neg hl0, hsz]; simp [add_mk], hI, by omega, fun i hi => ?_⟩
          simp only [if_pos hi]
          have := hl (l + i) (by omega)
          simpa [Nat.add_mul, Nat.add_assoc] using this
  | sref k e0 s n =>
    obtain ⟨⟨hs, hsz⟩, h1, h2⟩ := hc
    have hu : ∃ el, P.underlying t = some (.slice el) ∧ (P.info? el).isSome = true := by
      split at hok
      · exact ⟨_, by assumption, hok⟩
      · rename_i hu; simp [strT, hu] at hs
      · cases hok
    obtain ⟨el, hu, hi'⟩ := hu
    have hel : elT P t = el := by simp [elT, hu]
    rw [hel] at hsz
    obtain ⟨-, x, a, cap, hk, ha, hcap, hx⟩ := hx
    have hb := run_bounds (P := P) (b := true) hcap hlo hhi h1 h2
    have hle1 := bound_le (Nat.le_refl n) h1
    have hle2 := bound_le (Nat.zero_le _) h2
    simp only [sliceF]
    generalize (boundF n n (hi.map e)).2 = h at *
    generalize (boundF h 0 (lo.map e)).2 = l at *
    refine ⟨.slice (if cap = l then a else a.map (·.add (l * szT P el))) (h - l) (cap - l), ?_, rfl, x, _, _, hk, rfl, by omega, ?_⟩
    · simp only [Instr.sliceAt, Sem.run_bind, run_underlying hu w, Result.andThen_ok]
      simp only [Instr.slice, Sem.run_bind, run_underlying hu w, Result.andThen_ok, Option.some.inj ha, hb, run_sizeOf' hi' w]
      simp
    · cases x with
      | none => simp only at hx ⊢; omega
      | some p =>
        obtain ⟨b, C⟩ := p
        simp only at hx ⊢
        refine ⟨by omega, ?_⟩
        by_cases hl0 : cap = l
        · exact .inl (by omega)
        · right
          have ha' := hx.2.resolve_left (by omega)
          rw [if_neg hl0, ha', hsz]; simp [add_mk, Nat.add_mul]
  | nilsl =>
    obtain ⟨hs, h1, h2⟩ := hc
    have hu : ∃ el, P.underlying t = some (.slice el) ∧ (P.info? el).isSome = true := by
      split at hok
      · exact ⟨_, by assumption, hok⟩
      · rename_i hu; simp [strT, hu] at hs
      · cases hok
    obtain ⟨el, hu, hi'⟩ := hu
    have ha := Option.some.inj hx.2
    have hb := run_bounds (P := P) (b := true) (Nat.le_refl 0) hlo hhi h1 h2
    have hle1 := bound_le (Nat.le_refl 0) h1
    have hle2 := bound_le (Nat.zero_le _) h2
    simp only [sliceF]
    generalize (boundF 0 0 (hi.map e)).2 = h at *
    generalize (boundF h 0 (lo.map e)).2 = l at *
    obtain rfl : h = 0 := by omega
    obtain rfl : l = 0 := by omega
    refine ⟨.slice none 0 0, ?_, rfl, rfl⟩
    simp only [Instr.sliceAt, Sem.run_bind, run_underlying hu w, Result.andThen_ok]
    simp only [Instr.slice, Sem.run_bind, run_underlying hu w, Result.andThen_ok, ha, hb, run_sizeOf' hi' w]
    simp
  | str s =>
    obtain ⟨hs, h1, h2⟩ := hc
    have hu : P.underlying t = some .string := by
      unfold strT at hs
      split at hs
      · assumption
      · cases hs
    have hb := run_bounds (P := P) (b := false) (Nat.le_refl s.size) hlo hhi h1 h2
    simp only [sliceF]
    generalize (boundF s.size s.size (hi.map e)).2 = h at *
    generalize (boundF h 0 (lo.map e)).2 = l at *
    refine ⟨.string (s.extract l h), ?_, rfl, rfl⟩
    simp only [Instr.sliceAt, Sem.run_bind, run_underlying hu w, Result.andThen_ok]
    simp only [Instr.slice, Sem.run_bind, run_underlying hu w, Result.andThen_ok, Option.some.inj hx.2, Option.isSome_none]
    simp only [Bool.false_eq_true, if_false, Sem.run_bind, Sem.run_pure, Result.andThen_ok]
    first | (rw [hb]; rfl) | (simp; rw [hb]; rfl)
  | _ => exact hc.elim

theorem sound_extract {x : Operand} {i : Nat} (hx : VR I μ w (e x) (ρ x)) (hc : (extractF (e x) i).1) :
    ∃ cv, (Instr.extract (ρ x) i).run P w = .ok cv w ∧ VR I μ w (extractF (e x) i).2 cv := by
  generalize e x = v at *
  cases v with
  | tupF n f =>
    obtain ⟨vs, hv, hn, h⟩ := hx
    obtain ⟨y, hy, hr⟩ := h i hc
    exact ⟨y, by rw [hv]; simp [Instr.extract, hy], hr⟩
  | _ => exact hc.elim

theorem sound_not {x : Operand} (hx : VR I μ w (e x) (ρ x)) (hc : (notF (e x)).1) : ∃ cv, (Op.unary .not (ρ x)).run P w = .ok cv w ∧ VR I μ w (notF (e x)).2 cv := by
  generalize e x = v at *
  cases v with
  | bool b => exact ⟨_, by rw [Option.some.inj hx.2]; rfl, rfl, rfl⟩
  | _ => exact hc.elim
theorem sound_neg {x : Operand} (hx : VR I μ w (e x) (ρ x)) (hc : (negF (e x)).1) : ∃ cv, (Op.unary .neg (ρ x)).run P w = .ok cv w ∧ VR I μ w (negF (e x)).2 cv := by
  generalize e x = v at *
  cases v with
  | int k n => exact ⟨_, by rw [Option.some.inj hx.2]; rfl, rfl, rfl⟩
  | _ => exact hc.elim
theorem sound_nil {x : Operand} (hx : VR I μ w (e x) (ρ x)) (hc : (nilF (e x)).1) : (∃ a, ρ x = .pointer (some a)) ∧ VR I μ w (nilF (e x)).2 (ρ x) := by
  generalize e x = v at *
  cases v with
  | ptr k sz i o => obtain ⟨h, b, C, hk, hb⟩ := hx; exact ⟨⟨_, Option.some.inj hb⟩, h, b, C, hk, hb⟩
  | iptr v o => obtain ⟨h, b, off, hb, hr⟩ := hx; exact ⟨⟨_, Option.some.inj hb⟩, h, b, off, hb, hr⟩
  | _ => exact hc.elim
theorem str_eq (a b : ByteArray) : (a.toList == b.toList) = decide (a = b) := by
  rw [Bool.eq_iff_iff]
  simp only [beq_iff_eq, decide_eq_true_eq, ByteArray.toList_eq]
  constructor
  · intro h; cases a; cases b; congr; exact Array.ext' h
  · rintro rfl; rfl
theorem sound_bin {o : BinOp} {t : TypeId} {x y : Value} {u v : AVal} (hx : VR I μ w u x) (hy : VR I μ w v y) (hc : (binF o u v).1) :
    ∃ cv, (binOp o t x y).run P w = .ok cv w ∧ VR I μ w (binF o u v).2 cv := by
  unfold binF at hc ⊢
  split at hc <;> first
    | exact hc.elim
    | (have ht : True := hc; clear ht; rw [Option.some.inj hx.2, Option.some.inj hy.2]; exact ⟨_, by simp only [binOp, Op.stringOp, Sem.run_pure]; rfl, rfl, by simp only [str_eq, Bool.not_or]⟩)
    | (have hk := hc; obtain rfl := hk; rw [Option.some.inj hx.2, Option.some.inj hy.2]; exact ⟨_, by simp only [binOp, ne_eq, not_true_eq_false, if_false, Op.intArith, Op.intCmp]; rfl, rfl, by first | rfl | simp⟩)
    | (have hk := hc.1; have hz := hc.2; clear hc; obtain rfl := hk; rw [Option.some.inj hx.2, Option.some.inj hy.2]; exact ⟨_, by simp only [binOp, ne_eq, not_true_eq_false, if_false, Op.intDiv, hz, W]; rfl, rfl, rfl⟩)
    | skip
  · rename_i a b
    have h : a.size + b.size < 9223372036854775808 := hc
    rw [Option.some.inj hx.2, Option.some.inj hy.2]
    refine ⟨.string (a ++ b), ?_, rfl, rfl⟩
    simp only [binOp, Op.stringOp]
    rw [if_neg (by simp [IntKind.max, IntKind.bits, IntKind.signed]; omega)]
    rfl
  all_goals
    rename_i k a k' b
    rw [Option.some.inj hx.2, Option.some.inj hy.2]
    have hb : 0 ≤ b := hc
    have hb' : ¬ b < 0 := by omega
  · exact ⟨.int k (shlF k a b), by simp only [binOp, Op.shift, if_neg hb', shlF]; rfl, rfl, rfl⟩
  · exact ⟨.int k (shrF k a b), by simp only [binOp, Op.shift, if_neg hb', shrF]; rfl, rfl, rfl⟩
theorem VR_not_nil {v : AVal} {x : Value} (hl : v.leaf = true) (hk : v.known = true) (h : VR I μ w v x) : x.oneCell' = true ∧ x ≠ .nilIface := by
  have h1 := LR_of_VR hl hk h
  cases v with
  | undef => simp [AVal.known] at hk
  | bool b => cases Option.some.inj h1.2; exact ⟨rfl, nofun⟩
  | anyb => obtain ⟨-, b, h1⟩ := h1; cases Option.some.inj h1; exact ⟨rfl, nofun⟩
  | int k n => cases Option.some.inj h1.2; exact ⟨rfl, nofun⟩
  | str s => cases Option.some.inj h1.2; exact ⟨rfl, nofun⟩
  | nilsl => cases Option.some.inj h1.2; exact ⟨rfl, nofun⟩
  | sl s n f => obtain ⟨-, a, cap, h, -⟩ := h1; cases Option.some.inj h; exact ⟨rfl, nofun⟩
  | sref k e0 s n => obtain ⟨-, x, a, cap, -, h, -⟩ := h1; cases Option.some.inj h; exact ⟨rfl, nofun⟩
  | ptr k s e o => obtain ⟨-, b, C, -, h⟩ := h1; cases Option.some.inj h; exact ⟨rfl, nofun⟩
  | iptr v o => obtain ⟨-, b, off, h, -⟩ := h1; cases Option.some.inj h; exact ⟨rfl, nofun⟩
  | aggF n f => simp [AVal.leaf] at hl
  | tupF n f => simp [AVal.leaf] at hl
  | fnF g n caps => obtain ⟨-, cs, h, -⟩ := h1; cases Option.some.inj h; exact ⟨rfl, nofun⟩
  | when g v => simp [AVal.leaf] at hl
theorem eqGuard_leaf {o : BinOp} {t : TypeId} {x y : Operand} {a b : Value} (h : a.oneCell' = true ∧ a ≠ .nilIface) : (eqGuard o t x y a b).run P w = .ok () w := by
  unfold eqGuard
  obtain ⟨h1, h2⟩ := h
  cases o <;> cases a <;> first | rfl | (simp [Value.oneCell'] at h1; done) | exact absurd rfl h2

theorem leaf_cmp {k : LK} {u v : AVal} {c d : Nat → Option Value} (h : leafK k u) (h' : leafK k v) (hu : LR I μ w u 1 c) (hv : LR I μ w v 1 d) : ∃ x y, c 0 = some x ∧ d 0 = some y ∧ (valK k x = true ∧ valK k y = true) ∧ leafE2 x y = leafEq u v := by
  cases k <;> cases u <;> first | exact h.elim | skip
  all_goals cases v <;> first | exact h'.elim | skip
  · obtain rfl := h; obtain rfl := h'; exact ⟨_, _, hu.2, hv.2, by simp [valK], rfl⟩
  · exact ⟨_, _, hu.2, hv.2, ⟨rfl, rfl⟩, rfl⟩
  · exact ⟨_, _, hu.2, hv.2, ⟨rfl, rfl⟩, rfl⟩

theorem run_equalIn_bool (d : Nat) {t : TypeId} (hu : P.underlying t = some .bool) (a b : Bool) : (Op.equalIn (d + 1) t (.bool a) (.bool b)).run P w = .ok (a == b) w := by
  simp [Op.equalIn, run_underlying hu w]
theorem run_equal_bool {t : TypeId} (hu : P.underlying t = some .bool) (a b : Bool) : (Op.equal t (.bool a) (.bool b)).run P w = .ok (a == b) w := run_equalIn_bool 9999 hu a b
theorem run_equalIn_nil (d : Nat) {t el : TypeId} (hu : P.underlying t = some (.slice el)) (a : Option Addr) (n c : Nat) : (Op.equalIn (d + 1) t (.slice a n c) (.slice none 0 0)).run P w = .ok a.isNone w := by
  cases a <;> simp [Op.equalIn, run_underlying hu w]
theorem run_equal_nil {t el : TypeId} (hu : P.underlying t = some (.slice el)) (a : Option Addr) (n c : Nat) : (Op.equal t (.slice a n c) (.slice none 0 0)).run P w = .ok a.isNone w := run_equalIn_nil 9999 hu a n c
theorem sound_binT {o : BinOp} {t : TypeId} {xo yo : Operand} {x y : Value} {u v : AVal} (hx : VR I μ w u x) (hy : VR I μ w v y) (hc : (binT P t o u v).1) :
    ∃ cv, (do eqGuard o t xo yo x y; binOp o t x y : Sem Value).run P w = .ok cv w ∧ VR I μ w (binT P t o u v).2 cv := by
  have hagg : ∀ n f g, u = .aggF n f → v = .aggF n g → (∃ ks, EqOk P t n ks ∧ ∀ j < n, leafK (ks j) (f j) ∧ leafK (ks j) (g j)) → ∃ xs ys, x = .agg xs ∧ y = .agg ys ∧
      (do eqGuard .eql t (.tmp 0) (.tmp 1) (.agg xs) (.agg ys); Op.equal t (.agg xs) (.agg ys)).run P w = .ok (aeq n f g) w := by
    rintro n f g hu hv ⟨ks, heq, hl⟩
    subst hu hv
    obtain ⟨xs, rfl, hxn, -, hxl⟩ := hx
    obtain ⟨ys, rfl, hyn, -, hyl⟩ := hy
    have hcmp : ∀ j, j < n → (valK (ks j) (xs.getD j undef) = true ∧ valK (ks j) (ys.getD j undef) = true) ∧ leafE2 (xs.getD j undef) (ys.getD j undef) = leafEq (f j) (g j) := by
      intro j hj
      obtain ⟨a, b, ha, hb, h1, h2⟩ := leaf_cmp (hl j hj).1 (hl j hj).2 (hxl j hj).2 (hyl j hj).2
      have ha' : xs.getD j undef = a := by simp only [Array.getD_eq_getD_getElem?, ha, Option.getD_some]
      have hb' : ys.getD j undef = b := by simp only [Array.getD_eq_getD_getElem?, hb, Option.getD_some]
      rw [ha', hb']; exact ⟨h1, h2⟩
    refine ⟨xs, ys, rfl, rfl, ?_⟩
    rw [heq xs ys w hxn hyn fun j hj => (hcmp j hj).1]
    congr 1
    unfold aeq
    rw [Bool.eq_iff_iff]
    simp only [List.all_eq_true, List.mem_range]
    exact ⟨fun h j hj => by rw [← (hcmp j hj).2]; exact h j hj, fun h j hj => by rw [(hcmp j hj).2]; exact h j hj⟩
  have hplain : ∀ (hlk : u.leaf = true ∧ u.known = true) (hc : (binF o u v).1), ∃ cv, (do eqGuard o t xo yo x y; binOp o t x y : Sem Value).run P w = .ok cv w ∧ VR I μ w (binF o u v).2 cv := by
    intro hlk hc
    obtain ⟨cv, h1, h2⟩ := sound_bin (t := t) hx hy hc
    refine ⟨cv, ?_, h2⟩
    rw [Sem.run_bind, eqGuard_leaf (VR_not_nil hlk.1 hlk.2 hx)]
    exact h1
  have hslice : ∀ b, slT P t = true ∧ (nilQ u).1 → y = .slice none 0 0 → (b = .eql ∨ b = .neq) → ∃ cv, (do eqGuard b t xo yo x y; binOp b t x y : Sem Value).run P w = .ok cv w ∧ VR I μ w (if b = .eql then (nilQ u).2 else notA (nilQ u).2) cv := by
    rintro b ⟨hs, hc⟩ rfl hb
    have hu : ∃ el, P.underlying t = some (.slice el) := by
      unfold slT at hs; split at hs
      · exact ⟨_, by assumption⟩
      · cases hs
    obtain ⟨el, hu⟩ := hu
    have key : ∀ a n cap, x = .slice a n cap → (do eqGuard b t xo yo x (.slice none 0 0); binOp b t x (.slice none 0 0) : Sem Value).run P w = .ok (.bool (if b = .eql then a.isNone else !a.isNone)) w := by
      rintro a n cap rfl
      rw [Sem.run_bind, eqGuard_leaf (a := .slice a n cap) ⟨rfl, nofun⟩]
      simp only [Result.andThen_ok]
      rcases hb with rfl | rfl <;> simp [binOp, run_equal_nil hu]
    have hany : ∀ a n cap, x = .slice a n cap → (n = 0 ∨ a.isNone = false) → ∃ cv, (do eqGuard b t xo yo x (.slice none 0 0); binOp b t x (.slice none 0 0) : Sem Value).run P w = .ok cv w ∧
        VR I μ w (if b = .eql then (if n = 0 then AVal.anyb else .bool false) else notA (if n = 0 then AVal.anyb else .bool false)) cv := by
      intro a n cap hx hn
      refine ⟨_, key a n cap hx, ?_⟩
      by_cases h0 : n = 0
      · rcases hb with rfl | rfl
        · simp only [h0, if_true]; exact ⟨rfl, _, rfl⟩
        · simp only [h0, if_true, reduceCtorEq, if_false, notA]; exact ⟨rfl, _, rfl⟩
      · have := hn.resolve_left h0
        rcases hb with rfl | rfl
        · simp only [h0, this, if_false, if_true]; exact ⟨rfl, rfl⟩
        · simp only [h0, this, if_false, reduceCtorEq, notA]; exact ⟨rfl, rfl⟩
    cases u with
    | nilsl =>
      refine ⟨_, key none 0 0 (Option.some.inj hx.2), ?_⟩
      rcases hb with rfl | rfl
      · exact ⟨rfl, rfl⟩
      · exact ⟨rfl, rfl⟩
    | sl s n f =>
      obtain ⟨-, a, cap, ha, hn⟩ := hx
      refine hany a n cap (Option.some.inj ha) ?_
      rcases hn with h | ⟨b, off, rfl, -⟩
      · exact .inl h
      · exact .inr rfl
    | sref k e s n =>
      obtain ⟨-, q, a, cap, -, ha, hn, hq⟩ := hx
      refine hany a n cap (Option.some.inj ha) ?_
      cases q with
      | none => simp only at hq; exact .inl (by omega)
      | some p =>
        simp only at hq
        rcases hq.2 with h | h
        · exact .inl (by omega)
        · exact .inr (by rw [h]; rfl)
    | _ => exact hc.elim
  unfold binT at hc ⊢
  split at hc
  · rename_i n f m g
    obtain ⟨ks, heq, rfl, hl⟩ := hc
    obtain ⟨xs, ys, rfl, rfl, hrun⟩ := hagg n f g rfl rfl ⟨ks, heq, hl⟩
    refine ⟨.bool (aeq n f g), ?_, rfl, rfl⟩
    have : (do eqGuard .eql t xo yo (.agg xs) (.agg ys); binOp .eql t (.agg xs) (.agg ys) : Sem Value) = (do let b ← (do eqGuard .eql t (.tmp 0) (.tmp 1) (.agg xs) (.agg ys); Op.equal t (.agg xs) (.agg ys)); pure (.bool b)) := by
      simp only [bind_assoc]; rfl
    rw [this, Sem.run_bind, hrun]; rfl
  · rename_i n f m g
    obtain ⟨ks, heq, rfl, hl⟩ := hc
    obtain ⟨xs, ys, rfl, rfl, hrun⟩ := hagg n f g rfl rfl ⟨ks, heq, hl⟩
    refine ⟨.bool (!aeq n f g), ?_, rfl, rfl⟩
    have : (do eqGuard .neq t xo yo (.agg xs) (.agg ys); binOp .neq t (.agg xs) (.agg ys) : Sem Value) = (do let b ← (do eqGuard .eql t (.tmp 0) (.tmp 1) (.agg xs) (.agg ys); Op.equal t (.agg xs) (.agg ys)); pure (.bool !b)) := by
      simp only [bind_assoc]; rfl
    rw [this, Sem.run_bind, hrun]; rfl
  · rename_i a b
    have hu : P.underlying t = some .bool := hc
    rw [Option.some.inj hx.2, Option.some.inj hy.2]
    refine ⟨.bool (a == b), ?_, rfl, rfl⟩
    rw [Sem.run_bind, eqGuard_leaf (a := .bool a) ⟨rfl, nofun⟩]
    simp only [Result.andThen_ok, binOp, Sem.run_bind, run_equal_bool hu]
    rfl
  · rename_i a b
    have hu : P.underlying t = some .bool := hc
    rw [Option.some.inj hx.2, Option.some.inj hy.2]
    refine ⟨.bool (!(a == b)), ?_, rfl, rfl⟩
    rw [Sem.run_bind, eqGuard_leaf (a := .bool a) ⟨rfl, nofun⟩]
    simp only [Result.andThen_ok, binOp, Sem.run_bind, run_equal_bool hu]
    rfl
  · obtain ⟨cv, h1, h2⟩ := hslice .eql hc (Option.some.inj hy.2) (.inl rfl)
    exact ⟨cv, h1, h2⟩
  · obtain ⟨cv, h1, h2⟩ := hslice .neq hc (Option.some.inj hy.2) (.inr rfl)
    exact ⟨cv, h1, h2⟩
  · refine hplain ?_ hc
    revert hc
    unfold binF
    split <;> first | exact fun h => h.elim | exact fun _ => ⟨rfl, rfl⟩

theorem sound_field {s : TypeId} {x : Operand} {f : Nat} {fd : Field} (hf : fldT P s f = some fd) (hok : loadOk P fd.type = true)
    (hx : VR I μ w (e x) (ρ x)) (hc : (fieldVF (e x) (foffT P s f) (szT P (ftyT P s f)) (aggT P (ftyT P s f))).1) :
    ∃ cv, (Instr.field s (ρ x) f).run P w = .ok cv w ∧ VR I μ w (fieldVF (e x) (foffT P s f) (szT P (ftyT P s f)) (aggT P (ftyT P s f))).2 cv := by
  have hu : ∃ fs, P.underlying s = some (.struct fs) ∧ fs[f]? = some fd := by
    unfold fldT at hf; split at hf
    · exact ⟨_, by assumption, hf⟩
    · cases hf
  obtain ⟨fs, hu, hfs⟩ := hu
  have ho : foffT P s f = fd.offset := by simp [foffT, hf]
  have ht : ftyT P s f = fd.type := by simp [ftyT, hf]
  rw [ho, ht] at hc ⊢
  generalize e x = v at *
  cases v with
  | aggF n g =>
    have hc' : fd.offset + szT P fd.type ≤ n := hc
    obtain ⟨cs, hr, hn, hl⟩ := hx
    simp only [loadOk, Bool.and_eq_true, Option.isSome_iff_exists, Bool.or_eq_true, beq_iff_eq] at hok
    obtain ⟨⟨ds, hud⟩, hs⟩ := hok
    obtain ⟨i, hi⟩ := info_of_underlying hud
    have hsz := run_sizeOf (P := P) w hi
    obtain ⟨h1, h2⟩ := LR_part (size := szT P fd.type) (a := aggT P fd.type) (o := fd.offset) hl hc' (fun h => by rcases hs with hs | hs <;> simp_all)
    simp only [Instr.field, Sem.run_bind, run_underlying hu w, Result.andThen_ok, hfs, hr, asAgg, Sem.run_pure]
    cases ha : aggT P fd.type with
    | true =>
      rw [ha] at h1
      refine ⟨.agg (cs.extract fd.offset (fd.offset + szT P fd.type)), ?_, h1 rfl _ (by rw [Array.size_extract]; omega) fun j hj => ?_⟩
      · simp only [part, Sem.run_bind, run_isAgg hud w, ha, Result.andThen_ok, if_true, hsz, Sem.run_pure]; rfl
      · simp only [Array.getElem?_extract]; rw [if_pos (by omega)]
    | false =>
      have h1' : szT P fd.type = 1 := by rcases hs with hs | hs <;> simp_all
      rw [ha] at h2
      have hx : ∃ y, cs[fd.offset]? = some y := ⟨cs[fd.offset]'(by omega), by simp⟩
      obtain ⟨y, hy⟩ := hx
      refine ⟨y, ?_, h2 rfl y hy⟩
      simp only [part, Sem.run_bind, run_isAgg hud w, ha, Result.andThen_ok, Bool.false_eq_true, if_false, hy, Sem.run_pure]
  | _ => exact hc.elim

theorem sound_len {t : TypeId} {ty : TypeId} {x : Value} {v : AVal} (ht : (∃ el, P.underlying t = some (.slice el)) ∨ P.underlying t = some .string) (hx : VR I μ w v x) (hc : (lenF (strT P t) v).1) :
    ∃ cv, (Builtin.len_ #[t] ty #[x]).run P w = .ok cv w ∧ VR I μ w (lenF (strT P t) v).2 cv := by
  have hsl : ∀ a n cap, x = .slice a n cap → strT P t = false → (Builtin.len_ #[t] ty #[x]).run P w = .ok (.int .i64 n) w := by
    rintro a n cap rfl hb
    obtain ⟨el, hu⟩ := ht.resolve_right fun h => by simp [strT, h] at hb
    simp [Builtin.len_, run_underlying hu w, goInt]
  cases v with
  | str s =>
    have hu : P.underlying t = some .string := by
      have hb : strT P t = true := hc
      rcases ht with ⟨el, hu⟩ | hu
      · simp [strT, hu] at hb
      · exact hu
    rw [Option.some.inj hx.2]
    exact ⟨.int .i64 s.size, by simp [Builtin.len_, run_underlying hu w, goInt], rfl, rfl⟩
  | sl s n f =>
    obtain ⟨-, a, cap, h, -⟩ := hx
    exact ⟨_, hsl a n cap (Option.some.inj h) hc, rfl, rfl⟩
  | sref k e0 s n => obtain ⟨-, x, a, cap, -, h, -⟩ := hx; exact ⟨_, hsl a n cap (Option.some.inj h) hc, rfl, rfl⟩
  | nilsl => exact ⟨_, hsl none 0 0 (Option.some.inj hx.2) hc, rfl, rfl⟩
  | _ => exact hc.elim
/-- cells, laid over others -/
theorem lay_cells (off : Nat) : ∀ (l : List Value) (k : Nat) (cells : Array Value) (j : Nat), off + k + l.length ≤ cells.size →
    ((l.zipIdx k).foldl (fun cs (p : Value × Nat) => cs.setIfInBounds (off + p.2) p.1) cells).size = cells.size ∧
    ((l.zipIdx k).foldl (fun cs (p : Value × Nat) => cs.setIfInBounds (off + p.2) p.1) cells)[j]? = if off + k ≤ j ∧ j < off + k + l.length then l[j - (off + k)]? else cells[j]?
  | [], k, cells, j, h => by simp; intro h1 h2; omega
  | v :: l, k, cells, j, h => by
    simp only [List.zipIdx_cons, List.foldl_cons]
    simp only [List.length_cons] at h
    obtain ⟨h1, h2⟩ := lay_cells off l (k + 1) (cells.setIfInBounds (off + k) v) j (by simp; omega)
    refine ⟨by rw [h1]; simp, ?_⟩
    rw [h2]
    simp only [List.length_cons]
    by_cases hj : j = off + k
    · subst hj
      rw [if_neg (by omega), if_pos (by omega), Array.getElem?_setIfInBounds_self_of_lt (by omega)]
      simp
    · by_cases hj2 : off + k ≤ j ∧ j < off + k + (l.length + 1)
      · rw [if_pos (by omega), if_pos hj2, show j - (off + k) = (j - (off + (k + 1))) + 1 by omega]; rfl
      · rw [if_neg (by omega), if_neg hj2, Array.getElem?_setIfInBounds_ne (by omega)]
/-- parts, laid into a struct -/
theorem fill_parts {place : Nat → Option (Nat × Nat)} {n : Nat} : ∀ (ps : List (Nat × AVal)) (qs : List (Nat × Value)) (cells : Array Value) (f : Nat → AVal),
    ps.length = qs.length → (∀ i (h : i < ps.length) (h' : i < qs.length), ps[i].1 = qs[i].1 ∧ ps[i].2.known = true ∧ VR I μ w ps[i].2 qs[i].2 ∧ ∃ off, place ps[i].1 = some (off, ps[i].2.cells) ∧ off + ps[i].2.cells ≤ n) →
    cells.size = n → (∀ j < n, (f j).leaf = true ∧ LR I μ w (f j) 1 fun _ => cells[j]?) →
    ∃ cells', Instr.fill place cells qs = some cells' ∧ cells'.size = n ∧ ∀ j < n, ((ps.foldl (fun (a : AVal) (p : Nat × AVal) => if ((place p.1).getD (0, 0)).1 ≤ j ∧ j < ((place p.1).getD (0, 0)).1 + ((place p.1).getD (0, 0)).2 then p.2.part (j - ((place p.1).getD (0, 0)).1) 1 false else a) (f j)).leaf = true ∧
      LR I μ w (ps.foldl (fun (a : AVal) (p : Nat × AVal) => if ((place p.1).getD (0, 0)).1 ≤ j ∧ j < ((place p.1).getD (0, 0)).1 + ((place p.1).getD (0, 0)).2 then p.2.part (j - ((place p.1).getD (0, 0)).1) 1 false else a) (f j)) 1 fun _ => cells'[j]?)
  | [], [], cells, f, _, _, hn, hf => ⟨cells, rfl, hn, hf⟩
  | [], _ :: _, _, _, hl, _, _, _ => by simp at hl
  | _ :: _, [], _, _, hl, _, _, _ => by simp at hl
  | (i, v) :: ps, (i', x) :: qs, cells, f, hl, hp, hn, hf => by
    obtain ⟨h1, hk, hv, off, hpl, ho⟩ := hp 0 (by simp) (by simp)
    simp only [List.getElem_cons_zero] at h1 hk hv hpl ho
    subst h1
    obtain ⟨hc1, hc2⟩ := VR_cells hk hv
    have hlay := fun j => lay_cells off x.cells.toList 0 cells j (by simp [hc1, hn]; omega)
    obtain ⟨cells', h3, h4, h5⟩ := fill_parts ps qs (x.cells.zipIdx.foldl (fun cs (p : Value × Nat) => cs.setIfInBounds (off + p.2) p.1) cells)
      (fun j => if off ≤ j ∧ j < off + v.cells then v.part (j - off) 1 false else f j) (by simpa using hl)
      (fun q h h' => by have := hp (q + 1) (by simpa using h) (by simpa using h'); simpa using this) (by
        have := (hlay 0).1
        rw [← Array.foldl_toList, Array.toList_zipIdx]
        rw [this, hn]) (by
        intro j hj
        have := (hlay j).2
        rw [← Array.foldl_toList, Array.toList_zipIdx]
        rw [this]
        simp only [Nat.add_zero, Array.length_toList, hc1]
        by_cases hin : off ≤ j ∧ j < off + v.cells
        · rw [if_pos hin, if_pos hin]
          by_cases hlf : v.leaf = true
          · have hc : v.cells = 1 := by cases v <;> first | rfl | simp [AVal.leaf] at hlf
            have hj0 : j - off = 0 := by omega
            have he : v.part (j - off) 1 false = v := by cases v <;> first | rfl | simp [AVal.leaf] at hlf
            rw [he]
            refine ⟨hlf, ?_⟩
            rw [hc] at hc2
            exact LR_to (fun q hq => by rw [hj0, show q = 0 by omega]; simp) hc2
          · cases v with
            | aggF m g =>
              obtain ⟨-, hg⟩ := hc2
              obtain ⟨hg1, hg2⟩ := hg (j - off) (by simp only [AVal.cells] at hin; omega)
              exact ⟨hg1, LR_to (fun q hq => by simp) hg2⟩
            | tupF m g => simp [AVal.known] at hk
            | when g u => simp [AVal.known] at hk
            | _ => exact absurd rfl hlf
        · rw [if_neg hin, if_neg hin]
          exact hf j hj)
    refine ⟨cells', ?_, h4, fun j hj => ?_⟩
    · simp only [Instr.fill, hpl]
      rw [if_neg (by simp [hc1, hn]; omega)]
      exact h3
    · have := h5 j hj
      simpa only [List.foldl_cons, hpl, Option.getD_some] using this

theorem leafC_LR {x : Value} (h : x.oneCell' = true) : (leafC x).leaf = true ∧ LR I μ w (leafC x) 1 fun _ => some x := by
  unfold leafC
  split <;> first | exact ⟨rfl, rfl, rfl⟩ | exact ⟨rfl, fun j _ => ⟨_, rfl, h⟩⟩
theorem zero_parts {t : TypeId} (hz : zeroOk P t = true) : ∃ i z, P.info? t = some i ∧ i.zero = some z ∧ z.cells.size = szT P t ∧ zeroT P t = ofConst z ∧ z.cells.all (·.oneCell') = true := by
  unfold zeroOk at hz
  cases hi : P.info? t with
  | none => simp [hi] at hz
  | some i =>
    cases hzz : i.zero with
    | none => simp [hi, hzz] at hz
    | some z =>
      simp only [hi, hzz, Bool.and_eq_true, beq_iff_eq] at hz
      exact ⟨i, z, rfl, hzz, by rw [hz.1]; simp [szT, Program.cellsOf, hi], by simp [zeroT, hi, hzz], hz.2⟩
theorem const_cells {z : Value} (h : z.cells.all (·.oneCell') = true) : (ofConst z).cells = z.cells.size ∧ LR I μ w (ofConst z) z.cells.size (fun j => z.cells[j]?) ∧ ∀ j < z.cells.size, ((ofConst z).part j 1 false).leaf = true ∧ LR I μ w ((ofConst z).part j 1 false) 1 fun _ => z.cells[j]? := by
  by_cases ha : ∃ cs, z = .agg cs
  · obtain ⟨cs, rfl⟩ := ha
    simp only [Value.cells] at h ⊢
    have hl : ∀ j < cs.size, (leafC (cs.getD j .nilIface)).leaf = true ∧ LR I μ w (leafC (cs.getD j .nilIface)) 1 fun _ => cs[j]? := by
      intro j hj
      have hx : cs[j]? = some cs[j] := Array.getElem?_eq_getElem hj
      have h1 : cs.getD j .nilIface = cs[j] := by simp [hj]
      rw [h1, hx]
      exact leafC_LR (by rw [Array.all_eq_true] at h; exact h j hj)
    exact ⟨rfl, ⟨rfl, hl⟩, hl⟩
  · have hc : z.cells = #[z] := by cases z <;> first | rfl | exact absurd ⟨_, rfl⟩ ha
    have ho : ofConst z = leafC z := by cases z <;> first | rfl | exact absurd ⟨_, rfl⟩ ha
    rw [hc] at h ⊢
    have h1 : z.oneCell' = true := by simpa using h
    obtain ⟨h2, h3⟩ := leafC_LR (I := I) (w := w) h1
    have hp : ∀ j, (leafC z).part j 1 false = leafC z := by intro j; cases hq : leafC z <;> first | rfl | (rw [hq] at h2; simp [AVal.leaf] at h2)
    have hn : (leafC z).cells = 1 := by cases hq : leafC z <;> first | rfl | (rw [hq] at h2; simp [AVal.leaf] at h2)
    rw [ho]
    refine ⟨hn, LR_to (fun j hj => ?_) h3, fun j hj => ?_⟩
    · have : j = 0 := by simpa using hj
      subst this; rfl
    · have : j = 0 := by simpa using hj
      subst this
      rw [hp]; exact ⟨h2, h3⟩

theorem mapM_all {α β : Type} {f : α → Option β} (d : β) : ∀ {l : List α}, (∀ x ∈ l, ∃ y, f x = some y) → l.mapM f = some (l.map fun x => (f x).getD d)
  | [], _ => rfl
  | x :: l, h => by
    obtain ⟨y, hy⟩ := h x (by simp)
    have ih := mapM_all (l := l) (f := f) d fun x hx => h x (by simp [hx])
    simp [List.mapM_cons, hy, ih]
theorem sound_build {t : TypeId} {parts : Array (Nat × Operand)} (hs : structOk P t = true) (hz : zeroOk P t = true) (hag : aggT P t = true) (hp : parts.all (fun p => (fldT P t p.1).isSome) = true)
    (he : ∀ p ∈ parts.toList, VR I μ w (e p.2) (ρ p.2)) (hc : partsOk P t (parts.toList.map fun p => (p.1, e p.2))) :
    ∃ cv, (Instr.build t (parts.map fun (i, x) => (i, ρ x))).run P w = .ok cv w ∧ VR I μ w (buildF P t (parts.toList.map fun p => (p.1, e p.2))) cv := by
  obtain ⟨it, z, hit, hzz, hzn, hzt, hzo⟩ := zero_parts hz
  obtain ⟨-, -, hzp⟩ := const_cells (I := I) (μ := μ) (w := w) hzo
  unfold structOk at hs
  split at hs
  case h_2 => cases hs
  rename_i fs hu
  simp only [Array.all_eq_true', Bool.and_eq_true, decide_eq_true_eq] at hs
  have hpl : fs.toList.mapM (fun f => (P.info? f.type).map fun i => (f.offset, i.size)) = some (fs.toList.map fun f => ((P.info? f.type).map fun i => (f.offset, i.size)).getD (0, 0)) :=
    mapM_all (0, 0) fun f hf => by
      obtain ⟨i, hi⟩ := Option.isSome_iff_exists.1 (hs f (by simpa using hf)).1
      exact ⟨_, by rw [hi]; rfl⟩
  have hplace : ∀ i fd, fldT P t i = some fd → ((fs.toList.map fun f => ((P.info? f.type).map fun i => (f.offset, i.size)).getD (0, 0)).toArray[i]?) = some (fd.offset, szT P fd.type) ∧ fd.offset + szT P fd.type ≤ szT P t := by
    intro i fd hf
    have hf' : fs[i]? = some fd := by unfold fldT at hf; rw [hu] at hf; exact hf
    have hm : fd ∈ fs := Array.mem_of_getElem? hf'
    obtain ⟨j, hj⟩ := Option.isSome_iff_exists.1 (hs fd hm).1
    refine ⟨?_, (hs fd hm).2⟩
    simp [hf', hj, szT, Program.cellsOf]
  have hfold : ∀ (ps : List (Nat × AVal)), (∀ p ∈ ps, (fldT P t p.1).isSome = true) → ∀ (a : AVal) j,
      ps.foldl (fun (a : AVal) (p : Nat × AVal) => if (((fs.toList.map fun f => ((P.info? f.type).map fun i => (f.offset, i.size)).getD (0, 0)).toArray[p.1]?).getD (0, 0)).1 ≤ j ∧ j < (((fs.toList.map fun f => ((P.info? f.type).map fun i => (f.offset, i.size)).getD (0, 0)).toArray[p.1]?).getD (0, 0)).1 + (((fs.toList.map fun f => ((P.info? f.type).map fun i => (f.offset, i.size)).getD (0, 0)).toArray[p.1]?).getD (0, 0)).2 then p.2.part (j - (((fs.toList.map fun f => ((P.info? f.type).map fun i => (f.offset, i.size)).getD (0, 0)).toArray[p.1]?).getD (0, 0)).1) 1 false else a) a =
      ps.foldl (fun (a : AVal) (p : Nat × AVal) => if foffT P t p.1 ≤ j ∧ j < foffT P t p.1 + szT P (ftyT P t p.1) then p.2.part (j - foffT P t p.1) 1 false else a) a := by
    intro ps
    induction ps with
    | nil => intros; rfl
    | cons p ps ih =>
      intro h a j
      obtain ⟨fd, hfd⟩ := Option.isSome_iff_exists.1 (h p (by simp))
      simp only [List.foldl_cons]
      rw [(hplace p.1 fd hfd).1]
      have h1 : foffT P t p.1 = fd.offset := by simp [foffT, hfd]
      have h2 : ftyT P t p.1 = fd.type := by simp [ftyT, hfd]
      rw [h1, h2]
      exact ih (fun q hq => h q (by simp [hq])) _ j
  have hpk : ∀ (l : List (Nat × AVal)), partsOk P t l → ∀ p ∈ l, p.2.known = true ∧ p.2.cells = szT P (ftyT P t p.1) := by
    intro l
    induction l with
    | nil => intro _ p hp; cases hp
    | cons q l ih => rintro ⟨h1, h2⟩ p hp; rcases List.mem_cons.1 hp with rfl | hp <;> first | exact h1 | exact ih h2 p hp
  have hpk' := hpk _ hc
  have hps : ∀ p ∈ parts.toList, (fldT P t p.1).isSome = true := fun p hp' => by rw [Array.all_eq_true'] at hp; exact hp p (by simpa using hp')
  obtain ⟨cells', hf1, hf2, hf3⟩ := fill_parts (I := I) (w := w) (n := szT P t) (place := fun i => (fs.toList.map fun f => ((P.info? f.type).map fun i => (f.offset, i.size)).getD (0, 0)).toArray[i]?)
    (parts.toList.map fun p => (p.1, e p.2)) (parts.toList.map fun p => (p.1, ρ p.2)) z.cells (fun j => (zeroT P t).part j 1 false) (by simp) (by
      intro i h h'
      simp only [List.getElem_map]
      have hmem : parts.toList[i]'(by simpa using h) ∈ parts.toList := List.getElem_mem _
      obtain ⟨fd, hfd⟩ := Option.isSome_iff_exists.1 (hps _ hmem)
      obtain ⟨h1, h2⟩ := hpk' (_, _) (List.mem_map.2 ⟨_, hmem, rfl⟩)
      simp only at h1 h2
      have h3 : ftyT P t (parts.toList[i]'(by simpa using h)).1 = fd.type := by simp only [ftyT, hfd, Option.map_some, Option.getD_some]
      rw [h3] at h2
      refine ⟨trivial, h1, he _ hmem, fd.offset, ?_, ?_⟩
      · rw [h2]; exact (hplace _ fd hfd).1
      · rw [h2]; exact (hplace _ fd hfd).2) hzn (by rw [hzt]; intro j hj; exact hzp j (by omega))
  have hb : P.built t (parts.map fun (i, x) => (i, ρ x)).toList = some cells' := by
    unfold Program.built
    rw [hit, hu]
    simp only [hzz, hpl, Array.toList_map]
    exact hf1
  refine ⟨.agg cells', run_build w t _ cells' hb, cells', rfl, hf2, rfl, fun j hj => ?_⟩
  have := hf3 j hj
  rw [hfold _ (by intro p hp'; obtain ⟨q, hq, rfl⟩ := List.mem_map.1 hp'; exact hps q hq)] at this
  exact this
end Go.Nw
