/- The abstract walk, part 6: append. -/
import Derived.Test.YtngdglmimlfefaaAwOps
namespace Go.Aw
set_option linter.unusedVariables false
set_option linter.unusedSimpArgs false
variable {P : Program} {I : Nat → Prop} {σ : Heap} {w : World} {e : Operand → AVal} {ρ : Operand → Value}

theorem herase_get : ∀ (σ : Heap) (k k' : Option Nat), (σ.erase k).get k' = if k' = k then none else σ.get k'
  | [], k, k' => by simp [Heap.erase, Heap.get]
  | (j, v) :: σ, k, k' => by
    simp only [Heap.erase]
    by_cases hk : k = j
    · subst hk
      rw [if_pos rfl, herase_get σ k k']
      by_cases h : k' = k
      · rw [if_pos h, if_pos h]
      · rw [if_neg h, if_neg h]; simp only [Heap.get]; rw [if_neg h]
    · rw [if_neg hk]
      simp only [Heap.get]
      by_cases h : k' = j
      · rw [if_pos h, if_pos h, if_neg (fun h' => hk (h'.symm.trans h))]
      · rw [if_neg h, if_neg h, herase_get σ k k']
theorem Inv.congr {σ' : Heap} (h : ∀ k, σ'.get k = σ.get k) (hinv : Inv I σ w) : Inv I σ' w :=
  ⟨fun b hb => ⟨(hinv.imm b hb).1, by rw [h]; exact (hinv.imm b hb).2⟩, fun b r hr => hinv.row b r (by rw [← h]; exact hr), fun r hr => hinv.no r (by rw [← h]; exact hr)⟩
theorem Ext.congr {I I' : Nat → Prop} {σ σ' τ τ' : Heap} {w w' : World} (h : ∀ k, τ.get k = σ.get k) (h' : ∀ k, τ'.get k = σ'.get k) (x : Ext I I' σ σ' w w') : Ext I I' τ τ' w w' :=
  ⟨x.os, x.tape, x.output, x.size, fun b hb hs => x.old b hb (by rw [← h]; exact hs), x.imm, fun b hb => by rw [h]; exact x.imm' b hb, fun b hb => by rw [h]; exact x.row b (by rw [← h']; exact hb)⟩
/-- Fewer rows. -/
theorem Inv.less {σ' : Heap} (h : σ'.sub σ) (hinv : Inv I σ w) : Inv I σ' w := by
  refine ⟨fun b hb => ⟨(hinv.imm b hb).1, ?_⟩, fun b r hr => hinv.row b r ?_, fun r hr => hinv.no r ?_⟩
  · rcases h (some b) with h' | h'
    · exact h'
    · rw [h']; exact (hinv.imm b hb).2
  · rcases h (some b) with h' | h'
    · rw [h'] at hr; cases hr
    · rw [← h']; exact hr
  · rcases h none with h' | h'
    · rw [h'] at hr; cases hr
    · rw [← h']; exact hr
theorem Ext.less {I I' : Nat → Prop} {σ σ' σ'' : Heap} {w w' : World} (h : σ''.sub σ') (x : Ext I I' σ σ' w w') : Ext I I' σ σ'' w w' :=
  ⟨x.os, x.tape, x.output, x.size, x.old, x.imm, x.imm', fun b hb => x.row b (by rcases h (some b) with h' | h' <;> simp_all)⟩
theorem Inv.drew (hinv : Inv I σ w) (n : Nat) : Inv I σ { w with drawn := n } :=
  ⟨hinv.imm, fun b r hr => let ⟨cs, ty, h1, h2, h3, h4⟩ := hinv.row b r hr; ⟨cs, ty, h1, h2, h3, fun i hi => LR_mono (w := w) (w' := { w with drawn := n }) (fun _ h => h) (fun _ _ => rfl) _ _ _ _ (fun _ _ => rfl) (h4 i hi)⟩, hinv.no⟩

/-- A slice, read. -/
theorem readS_sound {sz : Nat} {y : AVal} {cy : Value} (hy : VR I w y cy) (hinv : Inv I σ w) (hc : (readS sz σ y).1) :
    ∃ a cap, cy = .slice a (readS sz σ y).2.1 cap ∧ ((readS sz σ y).2.1 = 0 ∨ ∃ b off, a = some ⟨b, off, none⟩ ∧ ∀ i < (readS sz σ y).2.1, LR I w ((readS sz σ y).2.2 i) sz fun j => w.cell? ⟨b, off + i * sz + j, none⟩) := by
  cases y with
  | sl s n f =>
    obtain ⟨-, a, cap, h, h'⟩ := hy
    obtain rfl : s = sz := hc
    refine ⟨a, cap, Option.some.inj h, ?_⟩
    rcases h' with h' | ⟨b, off, h1, -, h2⟩
    · exact .inl h'
    · exact .inr ⟨b, off, h1, h2.2⟩
  | nilsl => exact ⟨none, 0, Option.some.inj hy.2, .inl rfl⟩
  | sref k e0 s n cap =>
    obtain ⟨-, hk⟩ := hy
    simp only [readS] at hc ⊢
    cases hr : σ.get k with
    | none => simp [hr] at hc
    | some r =>
      simp only [hr] at hc ⊢
      obtain ⟨⟨rfl, h2⟩, h3⟩ := hc
      cases k with
      | none => obtain ⟨rfl, rfl, a, h⟩ := hk; exact ⟨a, 0, Option.some.inj h, .inl rfl⟩
      | some b =>
        refine ⟨_, cap, Option.some.inj hk.2, .inr ⟨b, e0 * s, rfl, fun i hi => ?_⟩⟩
        obtain ⟨cs, ty, hh, -, -, hl⟩ := hinv.row b r hr
        have := hl (e0 + i) (by omega)
        rw [h2] at this
        refine LR_mono (fun _ h => h) (fun _ _ => rfl) _ _ _ _ (fun j hj => ?_) this
        simp [World.cell?, hh, Nat.add_mul, Nat.add_assoc]
  | _ => exact hc.elim

/-- the cells of a slice -/
theorem run_first {sz m : Nat} {a : Option Addr} {cap : Nat} {g : Nat → AVal} (h : m = 0 ∨ ∃ b off, a = some ⟨b, off, none⟩ ∧ ∀ i < m, LR I w (g i) sz fun j => w.cell? ⟨b, off + i * sz + j, none⟩) (n : Nat) :
    ∃ cs : Array Value, (Builtin.firstCells sz m (.slice a m cap)).run P { w with drawn := n } = .ok cs { w with drawn := n } ∧ cs.size = m * sz ∧ (∀ x ∈ cs.toList, x.oneCell' = true) ∧ ∀ i < m, LR I w (g i) sz fun j => cs[i * sz + j]? := by
  rcases h with rfl | ⟨b, off, rfl, h⟩
  · refine ⟨#[], ?_, by simp, by simp, fun i hi => by omega⟩
    cases a with
    | none => rfl
    | some a => simp [Builtin.firstCells, loadCells, loadCellsFrom]
  · have hcell : ∀ p, p < m * sz → ∃ x, w.cell? ⟨b, off + p, none⟩ = some x ∧ x.oneCell' = true := by
      intro p hp
      have hsz : 0 < sz := by rcases Nat.eq_zero_or_pos sz with h | h
                              · simp [h] at hp
                              · exact h
      have hi : p / sz < m := Nat.div_lt_of_lt_mul (by rwa [Nat.mul_comm])
      obtain ⟨x, hx, h1⟩ := LR_cells (h (p / sz) hi) (p % sz) (Nat.mod_lt _ hsz)
      refine ⟨x, ?_, h1⟩
      rw [← hx, Nat.add_assoc, Nat.mul_comm, Nat.div_add_mod]
    have hcw : ∀ p, ({ w with drawn := n } : World).cell? ⟨b, off + p, none⟩ = w.cell? ⟨b, off + p, none⟩ := fun p => rfl
    have hrun := run_loadCells (P := P) { w with drawn := n } ⟨b, off, none⟩ (m * sz) (fun p => (w.cell? ⟨b, off + p, none⟩).getD undef) (fun p hp => by
      rw [add_mk, hcw]; obtain ⟨x, hx, -⟩ := hcell p hp; rw [hx]; rfl)
    refine ⟨_, hrun, by simp, ?_, fun i hi => ?_⟩
    · intro x hx
      simp only [List.mem_map, List.mem_range] at hx
      obtain ⟨p, hp, rfl⟩ := hx
      obtain ⟨x, hx, h1⟩ := hcell p hp
      rw [hx]; exact h1
    · refine LR_mono (fun _ h => h) (fun _ _ => rfl) _ _ _ _ (fun j hj => ?_) (h i hi)
      have hlt : i * sz + j < m * sz := by
        have : (i + 1) * sz ≤ m * sz := Nat.mul_le_mul_right _ hi
        rw [Nat.add_mul, Nat.one_mul] at this; omega
      obtain ⟨x, hx, -⟩ := hcell (i * sz + j) hlt
      rw [← Nat.add_assoc] at hx
      simp [hlt, Nat.add_assoc]
      rw [← Nat.add_assoc, hx]; rfl

theorem cap_small (need cap : Nat) (h : cap < need) : Builtin.nextslicecap need cap ≤ 2 * need := by
  have hg : 256 ≤ need → ∀ r c, c ≤ 2 * need → Builtin.growBy need r c ≤ 2 * need := by
    intro h256 r
    induction r with
    | zero => intro c h; exact h
    | succ r ih =>
      intro c h
      simp only [Builtin.growBy]
      split
      · exact h
      · exact ih _ (by omega)
  unfold Builtin.nextslicecap
  split
  · omega
  · split
    · omega
    · exact hg (by omega) 4 cap (by omega)

theorem append_sound {t ty : TypeId} {el : TypeId} {t1 : TypeId} {x y : AVal} {cx cy : Value} {K : AVal → Heap → Prop} (hu : P.underlying t = some (.slice el)) (hz : zeroOk P el = true) (hb : 0 < byT P el)
    (ht1 : ∃ e1, P.underlying t1 = some (.slice e1)) (hx : VR I w x cx) (hy : VR I w y cy) (hinv : Inv I σ w) (hA : Append P t x y σ K) :
    ∃ cv w' r σ', (Builtin.append_ #[t, t1] ty #[cx, cy]).run P w = .ok cv w' ∧ K r σ' ∧ VR I w' r cv ∧ Inv I σ' w' ∧ Ext I I σ σ' w w' := by
  obtain ⟨i, z, hi, hzz, hzn, -, hzo⟩ := zero_parts hz
  have hi' : (P.info? el).isSome = true := by simp [hi]
  have hel : elT P t = el := by simp [elT, hu]
  obtain ⟨e1, hu1⟩ := ht1
  cases x with
  | sref k e0 sz n cap =>
    simp only [Append] at hA
    cases hr : σ.get k with
    | none => simp [hr] at hA
    | some r =>
      simp only [hr] at hA
      obtain ⟨⟨hc, hcap, rfl, rfl, rfl, hsz, hbig⟩, f, hf1, hf2, hK⟩ := hA
      rw [hel] at hsz hbig
      obtain ⟨ya, ycap, rfl, hy'⟩ := readS_sound hy hinv hc
      generalize hm : (readS r.sz σ y).2.1 = m at *
      generalize hg : (readS r.sz σ y).2.2 = g at *
      -- the concrete base
      obtain ⟨ba, rfl, hbase⟩ : ∃ ba, cx = .slice ba r.n cap ∧ ((k = none ∧ r.n = 0 ∧ cap = 0) ∨ ∃ b, k = some b ∧ ba = some ⟨b, 0, none⟩) := by
        obtain ⟨-, h⟩ := hx
        cases k with
        | none => obtain ⟨h1, rfl, a, h2⟩ := h; rw [h1] at *; exact ⟨a, Option.some.inj h2, .inl ⟨rfl, rfl, rfl⟩⟩
        | some b => exact ⟨_, Option.some.inj h.2, .inr ⟨b, rfl, by simp⟩⟩
      have hbytes : i.bytes = byT P el := by simp [byT, Program.bytesOf, hi]
      by_cases hroom : r.n + m ≤ cap
      · -- within the capacity
        obtain ⟨ncs, hrun, hns, hn1, hnl⟩ := run_first (P := P) hy' w.drawn
        rcases hbase with ⟨rfl, h1, rfl⟩ | ⟨b, rfl, rfl⟩
        · have hm0 : m = 0 := by omega
          subst hm0
          have hnc : ncs = #[] := Array.eq_empty_of_size_eq_zero (by simpa using hns)
          subst hnc
          have hrn : r.n = 0 := h1
          refine ⟨.slice ba (r.n + 0) 0, w, _, _, ?_, hK none 0 ⟨.inl rfl, fun _ => by omega, by omega⟩, ?_, ?_, ?_⟩
          · have hrun' : (Builtin.firstCells (szT P el) 0 (.slice ya 0 ycap)).run P w = .ok #[] w := by rw [← hsz]; exact hrun
            cases ba with
            | none => simp [Builtin.append_, run_underlying hu, run_underlying hu1, run_sizeOf' hi', Builtin.lenOf, hrn, hrun']
            | some a => simp [Builtin.append_, run_underlying hu, run_underlying hu1, run_sizeOf' hi', Builtin.lenOf, hrn, hrun', storeCells]
          · exact ⟨rfl, by simpa using hrn, rfl, ba, by simp [hrn]⟩
          · refine ⟨fun q hq => ⟨(hinv.imm q hq).1, ?_⟩, fun q r' hq => hinv.row q r' ?_, fun r' hq => ?_⟩
            · simp only [Heap.get]; rw [if_neg (by simp), herase_get, if_neg (by simp)]; exact (hinv.imm q hq).2
            · simp only [Heap.get] at hq; rw [if_neg (by simp), herase_get, if_neg (by simp)] at hq; exact hq
            · simp only [Heap.get, if_true] at hq; cases hq; simpa using hrn
          · refine ⟨rfl, rfl, rfl, Nat.le_refl _, fun _ _ _ => rfl, fun _ h => h, fun _ h => .inl h, fun q hq => .inl ?_⟩
            simp only [Heap.get] at hq; rw [if_neg (by simp), herase_get, if_neg (by simp)] at hq; exact hq
        · obtain ⟨cs, cty, hh, h1, h2, h3⟩ := hinv.row b r hr
          have hle : (r.n + m) * r.sz ≤ r.cap * r.sz := Nat.mul_le_mul_right _ (by omega)
          rw [Nat.add_mul] at hle
          have hfit : r.n * r.sz + ncs.toList.length ≤ cs.size := by simp only [Array.length_toList]; omega
          have hst := run_storeRow (P := P) (w := w) (o := r.n * r.sz) hh hfit hn1
          obtain ⟨h8, h9⟩ := put_row (r' := ⟨r.n + m, cap, r.sz, f⟩) hinv hr hh rfl hroom (by rw [layAt_size hfit]; exact Nat.le_trans (Nat.mul_le_mul_right _ hcap) h2) (by
            intro q hq
            simp only at hq ⊢
            by_cases hqn : q < r.n
            · rw [hf1 q hqn]
              refine LR_mono (fun _ h => h) (fun _ _ => rfl) _ _ _ _ (fun j hj => ?_) (h3 q hqn)
              have : (q + 1) * r.sz ≤ r.n * r.sz := Nat.mul_le_mul_right _ hqn
              rw [Nat.add_mul, Nat.one_mul] at this
              rw [layAt_get hfit, if_neg (by omega)]
            · obtain ⟨p, rfl⟩ : ∃ p, q = r.n + p := ⟨q - r.n, by omega⟩
              rw [hf2 p (by omega)]
              refine LR_mono (fun _ h => h) (fun _ _ => rfl) _ _ _ _ (fun j hj => ?_) (hnl p (by omega))
              have : (p + 1) * r.sz ≤ m * r.sz := Nat.mul_le_mul_right _ (by omega)
              rw [Nat.add_mul, Nat.one_mul] at this
              rw [layAt_get hfit, if_pos (by simp only [Array.length_toList]; rw [Nat.add_mul]; omega), Nat.add_mul, show r.n * r.sz + p * r.sz + j - r.n * r.sz = p * r.sz + j by omega]; simp)
          have hget : ∀ q, Heap.get ((some b, (⟨r.n + m, cap, r.sz, f⟩ : Row)) :: σ.erase (some b)) q = Heap.get (σ.set (some b) ⟨r.n + m, cap, r.sz, f⟩) q := by
            intro q
            rw [hset_get _ _ _ _ (by simp [hr])]
            simp only [Heap.get, herase_get]
            split <;> rfl
          refine ⟨.slice (some ⟨b, 0, none⟩) (r.n + m) cap, _, _, _, ?_, hK (some b) cap ⟨.inl rfl, nofun, hroom⟩, ?_, h8.congr hget, h9.congr (fun _ => rfl) hget⟩
          · have hrun' : (Builtin.firstCells r.sz m (.slice ya m ycap)).run P w = .ok ncs w := hrun
            simp [Builtin.append_, run_underlying hu, run_underlying hu1, run_sizeOf' hi', Builtin.lenOf, hroom, hrun', add_mk, hst, ← hsz]
          · exact ⟨rfl, hroom, by simp⟩
      · -- a new block
        have hneed : cap < r.n + m := by omega
        have hold' : r.n = 0 ∨ ∃ b off, ba = some ⟨b, off, none⟩ ∧ ∀ i < r.n, LR I w (r.f i) r.sz fun j => w.cell? ⟨b, off + i * r.sz + j, none⟩ := by
          rcases hbase with ⟨rfl, h1, rfl⟩ | ⟨b, rfl, rfl⟩
          · exact .inl h1
          · refine .inr ⟨b, 0, rfl, fun i hi => ?_⟩
            obtain ⟨cs, cty, hh, -, -, h3⟩ := hinv.row b r hr
            refine LR_mono (fun _ h => h) (fun _ _ => rfl) _ _ _ _ (fun j hj => ?_) (h3 i hi)
            simp [World.cell?, hh]
        obtain ⟨ocs, orun, ons, -, onl⟩ := run_first (P := P) (cap := cap) hold' (w.drawn + 1)
        obtain ⟨ncs, nrun, nns, -, nnl⟩ := run_first (P := P) (cap := ycap) hy' (w.drawn + 1)
        have hcapn := cap_small (r.n + m) cap hneed
        have h48 : Builtin.nextslicecap (r.n + m) cap * i.bytes ≤ 2 ^ 48 := by
          rw [hbytes]
          have : Builtin.nextslicecap (r.n + m) cap * byT P el ≤ 2 * (r.n + m) * byT P el := Nat.mul_le_mul_right _ hcapn
          have h5 : 2 * (r.n + m) * byT P el = (r.n + m) * (2 * byT P el) := by rw [Nat.mul_comm 2, Nat.mul_assoc]
          omega
        have hint : ¬ ((r.n + m : Nat) : Int) > IntKind.i64.max := by
          have : (r.n + m) * 2 ≤ (r.n + m) * (2 * byT P el) := Nat.mul_le_mul_left _ (by omega)
          simp [IntKind.max, IntKind.bits, IntKind.signed]; omega
        generalize hq : (Question.appendCap (r.n + m) cap el).cut (w.tape w.drawn (.appendCap (r.n + m) cap el)) = nc
        have hnc : r.n + m ≤ nc := by rw [← hq]; simp [Question.cut]
        have hzc : (Builtin.zeroCells z.cells (nc - (r.n + m))).size = (nc - (r.n + m)) * r.sz := by simp [Builtin.zeroCells, hzn, hsz]
        have hsub : (σ.erase k).sub σ := fun q => by rw [herase_get]; split <;> simp
        have htot : nc * r.sz = r.n * r.sz + m * r.sz + (nc - (r.n + m)) * r.sz := by
          rw [← Nat.add_mul, ← Nat.add_mul, Nat.add_sub_cancel' hnc]
        obtain ⟨h8, h9⟩ := new_row (w := { w with drawn := w.drawn + 1 }) (cells := ocs ++ ncs ++ Builtin.zeroCells z.cells (nc - (r.n + m))) (ty := el) (r := ⟨r.n + m, nc, r.sz, f⟩)
          ((hinv.less hsub).drew (w.drawn + 1)) hnc (by simp only [Array.size_append, ons, nns, hzc]; omega) (by
            intro q hq
            simp only at hq ⊢
            by_cases hqn : q < r.n
            · rw [hf1 q hqn]
              refine LR_mono (w := w) (w' := { w with drawn := w.drawn + 1 }) (fun _ h => h) (fun _ _ => rfl) _ _ _ _ (fun j hj => ?_) (onl q hqn)
              have : (q + 1) * r.sz ≤ r.n * r.sz := Nat.mul_le_mul_right _ hqn
              rw [Nat.add_mul, Nat.one_mul] at this
              rw [Array.append_assoc, Array.getElem?_append_left (by omega)]
            · obtain ⟨p, rfl⟩ : ∃ p, q = r.n + p := ⟨q - r.n, by omega⟩
              rw [hf2 p (by omega)]
              refine LR_mono (w := w) (w' := { w with drawn := w.drawn + 1 }) (fun _ h => h) (fun _ _ => rfl) _ _ _ _ (fun j hj => ?_) (nnl p (by omega))
              have : (p + 1) * r.sz ≤ m * r.sz := Nat.mul_le_mul_right _ (by omega)
              rw [Nat.add_mul, Nat.one_mul] at this
              rw [Nat.add_mul, Array.append_assoc, Array.getElem?_append_right (by omega), ons, Array.getElem?_append_left (by omega)]
              congr 1; omega)
        refine ⟨.slice (some ⟨w.heap.size, 0, none⟩) (r.n + m) nc, _, _, _, ?_, hK (some w.heap.size) nc ⟨.inr ⟨_, rfl, hinv.fresh⟩, nofun, hnc⟩, ?_, h8, ?_⟩
        · have hbz : i.bytes ≠ 0 := by omega
          have hch : (choose (.appendCap (r.n + m) cap el)).run P w = .ok nc { w with drawn := w.drawn + 1 } := by simp [run_choose, Question.forced, hq]
          have o2 : (Builtin.firstCells r.sz r.n (.slice ba r.n cap)).run P w.drew = .ok ocs w.drew := orun
          have n2 : (Builtin.firstCells r.sz m (.slice ya m ycap)).run P w.drew = .ok ncs w.drew := nrun
          have hfo : (Question.appendCap (r.n + m) cap el).forced = false := rfl
          have h48' : ¬ 281474976710656 < Builtin.nextslicecap (r.n + m) cap * i.bytes := by omega
          simp [Builtin.append_, run_underlying hu, run_underlying hu1, run_sizeOf' hi', Builtin.lenOf, hroom, typeInfo, hi, hbz, h48', hfo, o2, n2, hq, zeroValue, hzz, newRow, ← hsz]
          rfl
        · exact ⟨rfl, hnc, by simp⟩
        · refine (Ext.less (fun _ => .inr rfl) ⟨h9.os, h9.tape, h9.output, h9.size, fun q hq hs => h9.old q hq ?_, h9.imm, fun q hq => ?_, fun q hq => ?_⟩)
          · rw [herase_get]; split
            · rfl
            · exact hs
          · rcases h9.imm' q hq with h | h | h
            · exact .inl h
            · exact .inr (.inl h)
            · rw [herase_get] at h; split at h
              · exact absurd rfl h
              · exact .inr (.inr h)
          · rcases h9.row q hq with h | h
            · rw [herase_get] at h; split at h
              · exact absurd rfl h
              · exact .inl h
            · exact .inr h
  | _ => exact hA.elim
end Go.Aw
