/- The named walk, part 21: the library's sort, called with a row of the own. -/
import Derived.Test.YtngdglmimlfefaaNwGlue
import Derived.Shelf.Sort.Plain
import Derived.Shelf.Slices.In.SortNone
import Derived.Shelf.GgSortFunc.RowK
namespace Go.Nw
open Go.Sort
set_option linter.unusedVariables false
set_option linter.unusedSimpArgs false
variable {P : Program} {I : Nat → Prop} {μ : Where} {σ : Heap} {w : World}
theorem LR_grow {os : Array Obj} {q : Nat} (hI : ∀ b, I b → b < w.heap.size) {v : AVal} {sz : Nat} {c : Nat → Option Value} (h : LR I μ w v sz c) : LR I μ (Sort.grow (Sort.ahead w q) os) v sz c :=
  LR_mono (fun _ h => h) (fun b hb => by show (w.heap ++ os)[b]? = _; rw [Array.getElem?_append_left (hI b hb)]) _ _ _ (Where.le_refl μ) _ _ _ (fun _ _ => rfl) h
theorem Inv.grow (hinv : Inv I μ σ w) (os : Array Obj) (q : Nat) : Inv I μ σ (Sort.grow (Sort.ahead w q) os) := by
  refine ⟨fun b hb => ⟨by have := (hinv.imm b hb).1; show b < (w.heap ++ os).size; rw [Array.size_append]; omega, (hinv.imm b hb).2⟩, fun k r hr => ?_, hinv.inj, hinv.nm⟩
  obtain ⟨x, hx, h⟩ := hinv.row k r hr
  refine ⟨x, hx, ?_⟩
  cases x with
  | none => exact h
  | some p =>
    obtain ⟨b, C⟩ := p
    obtain ⟨cs, ty, h1, h2, h3, h4⟩ := h
    refine ⟨cs, ty, ?_, h2, h3, fun e he => LR_grow (fun b hb => (hinv.imm b hb).1) (h4 e he)⟩
    show (w.heap ++ os)[b]? = _
    rw [Array.getElem?_append_left, h1]
    exact (Array.getElem?_eq_some_iff.1 h1).1
theorem Ext.grow (I B : Nat → Prop) (w : World) (os : Array Obj) (q : Nat) : Ext I I B B w (Sort.grow (Sort.ahead w q) os) :=
  ⟨rfl, rfl, rfl, by show w.heap.size ≤ (w.heap ++ os).size; rw [Array.size_append]; omega, fun b hb _ => by show (w.heap ++ os)[b]? = _; rw [Array.getElem?_append_left hb],
    fun _ h => h, fun _ h => .inl h, fun _ h => .inl h, Nat.le_add_right _ _⟩
/-- a row's cells, all turned at once -/
theorem put_many {k : Key} {b C q : Nat} {r r' : Row} {cs F : Array Value} {ty : TypeId} {os : Array Obj} (hinv : Inv I μ σ w) (hr : σ.get k = some r) (hk : μ k = some (some (b, C))) (hh : w.heap[b]? = some (.cells cs ty (0, 0)))
    (h1 : r'.l.length ≤ C) (h2 : C * r'.sz ≤ cs.size) (hF : F.size = r'.l.length * r'.sz) (h3 : ∀ i (h : i < r'.l.length), LR I μ w r'.l[i] r'.sz fun j => F[i * r'.sz + j]?) :
    Inv I μ (σ.set k r') (Sort.grow (putRow id (Sort.ahead w q) b 0 F) os) ∧ Ext I I (Blk μ σ) (Blk μ (σ.set k r')) w (Sort.grow (putRow id (Sort.ahead w q) b 0 F) os) := by
  have hb : b < w.heap.size := (Array.getElem?_eq_some_iff.1 hh).1
  have hm : w.heap.modify b (onCells (putCells id 0 F)) = w.heap.setIfInBounds b (.cells (putCells id 0 F cs) ty (0, 0)) := by
    refine Array.ext_getElem? fun i => ?_
    rw [Array.getElem?_modify, Array.getElem?_setIfInBounds]
    by_cases e : b = i
    · subst e
      have e2 : w.heap[b] = .cells cs ty (0, 0) := (Array.getElem?_eq_some_iff.1 hh).2
      simp [hb, e2, onCells]
    · simp [e]
  obtain ⟨h4, h5⟩ := put_row (r' := r') (cs' := putCells id 0 F cs) (w' := { w with heap := w.heap.setIfInBounds b (.cells (putCells id 0 F cs) ty (0, 0)) }) hinv hr hk hh rfl h1 (by simpa [putCells] using h2) (fun i hi => by
    refine LR_mono (fun _ h => h) (fun _ _ => rfl) _ _ _ (Where.le_refl μ) _ _ _ (fun j hj => ?_) (h3 i hi)
    have hlt : i * r'.sz + j < F.size := by
      rw [hF]
      have := Nat.mul_le_mul_right r'.sz (show i + 1 ≤ r'.l.length by omega)
      rw [Nat.add_mul] at this; omega
    have hlc : i * r'.sz + j < cs.size := by
      have := Nat.mul_le_mul_right r'.sz h1
      omega
    have e2 : F[i * r'.sz + j]! = F[i * r'.sz + j] := getElem!_pos F (i * r'.sz + j) hlt
    simp [putCells, hlc, hlt, e2])
  have e : Sort.grow (putRow id (Sort.ahead w q) b 0 F) os = Sort.grow (Sort.ahead { w with heap := w.heap.setIfInBounds b (.cells (putCells id 0 F cs) ty (0, 0)) } q) os := by
    show World.mk _ _ _ _ _ = World.mk _ _ _ _ _
    simp only [Sort.ahead, putRow, mapBlock, hm]
  rw [e]
  exact ⟨h4.grow os q, h5.trans (Ext.grow _ _ _ os q)⟩
theorem putRow_map {α : Type} [Inhabited α] (enc : α → Value) (w : World) (b : Nat) (d : Array α) : putRow enc w b 0 d = putRow id w b 0 (d.map enc) := by
  unfold putRow
  congr 1
  funext c
  unfold putCells
  congr 1
  funext k x
  by_cases h : k < d.size
  · have h' : k < (d.map enc).size := by simpa using h
    have e1 : (d.map enc)[k]! = (d.map enc)[k] := getElem!_pos (d.map enc) k h'
    have e2 : d[k]! = d[k] := getElem!_pos d k h
    simp [h, e1, e2]
  · simp [h]
/-- what lies in the one row that is handed -/
theorem one_row {sz n : Nat} {d : AVal} {l : List AVal} (hinv : Inv I μ ⟨1, [(0, .one ⟨sz, d, l⟩)]⟩ w) {v : Value} (hv : VR I μ w (.sref (0, 0) 0 sz n) v) (hn : 0 < n) :
    ∃ b C cs ty cap, μ (0, 0) = some (some (b, C)) ∧ v = .slice (some ⟨b, 0, none⟩) n cap ∧ w.heap[b]? = some (.cells cs ty (0, 0)) ∧ l.length ≤ C ∧ C * sz ≤ cs.size ∧ ∀ e (h : e < l.length), LR I μ w l[e] sz fun j => cs[e * sz + j]? := by
  obtain ⟨_, x, a, cap, hm, hc, hle, hx⟩ := hv
  obtain ⟨x', hx', hrow⟩ := hinv.row (0, 0) ⟨sz, d, l⟩ rfl
  rw [hm] at hx'
  obtain rfl := Option.some.inj hx'
  cases x with
  | none => have : cap = 0 := hx; omega
  | some p =>
    obtain ⟨b, C⟩ := p
    obtain ⟨h1, h2⟩ := hx
    rcases h2 with h2 | h2
    · omega
    · obtain ⟨cs, ty, h3, h4, h5, h6⟩ := hrow
      refine ⟨b, C, cs, ty, cap, hm, ?_, h3, h4, h5, h6⟩
      rw [Option.some.inj hc, h2, Nat.zero_mul]
theorem set_one {r r' : Row} : Heap.set ⟨1, [(0, .one r)]⟩ (0, 0) r' = ⟨1, [(0, .one r')]⟩ := rfl
theorem vr_unit : VR I μ w (tup []) (.tuple #[]) := ⟨#[], rfl, rfl, fun j hj => absurd hj (Nat.not_lt_zero _)⟩
theorem nil_slice {sz n : Nat} (hn : n = 0) {v : Value} (hv : VR I μ w (.sref (0, 0) 0 sz n) v) : ∃ a cap, v = .slice a 0 cap := by
  obtain ⟨_, x, a, cap, hm, hc, hle, hx⟩ := hv
  subst hn
  exact ⟨a, cap, Option.some.inj hc⟩
/-- slices.Sort of whole numbers -/
theorem sortInt_o {f : FuncId} (hok : fnOk P f = true)
    (hs : ∀ blk cap (zs : List Int) w, Holds (Value.int .i64) w blk 0 zs.toArray → blk < w.heap.size → zs.length < 4611686018427387904 → Calls P f #[.slice (some ⟨blk, 0, none⟩) zs.length cap] w fun e w' =>
      e = .returned (.tuple #[]) ∧ ∃ n os, w' = Sort.grow (putRow (Value.int .i64) (Sort.ahead w n) blk 0 (zs.mergeSort fun x y => decide (x ≤ y)).toArray) os)
    (hz : ∀ p cap w, Calls P f #[.slice p 0 cap] w fun e w' => e = .returned (.tuple #[]) ∧ w' = w) {l : List Int} (hl : l.length < 4611686018427387904) :
    MCalls P f [.sref (0, 0) 0 1 l.length] ⟨1, [(0, .one ⟨1, .int .i64 0, l.map encI⟩)]⟩ (tup []) ⟨1, [(0, .one ⟨1, .int .i64 0, (sortI l).map encI⟩)]⟩ := by
  refine ⟨hok, fun I m w cargs hinv hA => ?_⟩
  obtain ⟨v, hv0, hv⟩ := hA.2 0 Nat.one_pos
  have hca : cargs = #[v] := by
    have h1 := hA.1
    refine Array.ext_getElem? fun i => ?_
    match i with
    | 0 => rw [hv0]; rfl
    | i + 1 => simp at h1 ⊢; omega
  subst hca
  have hv' : VR I m w (.sref (0, 0) 0 1 l.length) v := hv
  by_cases hn : l.length = 0
  · obtain ⟨a, cap, rfl⟩ := nil_slice hn hv'
    obtain rfl : l = [] := List.length_eq_zero_iff.1 hn
    refine (hz a cap w).mono ?_
    rintro e w' ⟨rfl, rfl⟩
    exact ⟨_, _, _, I, m, rfl, ⟨rfl, rfl⟩, vr_unit, by simpa [sortI] using hinv, by simpa [sortI] using Ext.refl I _ w', Where.le_refl m⟩
  · obtain ⟨b, C, cs, ty, cap, hm, rfl, hh, h4, h5, h6⟩ := one_row hinv hv' (by omega)
    have hb : b < w.heap.size := (Array.getElem?_eq_some_iff.1 hh).1
    have hcell : ∀ j, (h : j < l.length) → cs[j]? = some (.int .i64 l[j]) := fun j h => by
      have := (h6 j (by simpa using h))
      simp only [List.getElem_map] at this
      have h7 : cs[j * 1 + 0]? = some (.int .i64 l[j]) := this.2
      simpa using h7
    refine (hs b cap l w (fun j hj => ?_) hb hl).mono ?_
    · have hj' : j < l.length := by simpa using hj
      have e : l.toArray[j]! = l[j] := by rw [getElem!_pos l.toArray j hj]; rfl
      refine ⟨?_, by simp [World.frozen?, hh]⟩
      rw [e]
      simp [World.cell?, hh, hcell j hj']
    · rintro e w' ⟨rfl, n, os, rfl⟩
      rw [putRow_map]
      obtain ⟨h7, h8⟩ := put_many (r' := ⟨1, .int .i64 0, (sortI l).map encI⟩) (F := (sortI l).toArray.map (Value.int .i64)) (q := n) (os := os) hinv rfl hm hh (by simpa [sortI_len] using h4) h5 (by simp)
        (fun i hi => by
          have hi' : i < (sortI l).length := by simpa using hi
          simp only [List.getElem_map]
          exact ⟨rfl, by simp [hi']⟩)
      rw [set_one] at h7 h8
      exact ⟨_, _, _, I, m, rfl, ⟨rfl, rfl⟩, vr_unit, h7, h8, Where.le_refl m⟩
/-- a call that hands no row, said of the world: new blocks and draws alone -/
theorem pcalls_grows {g : FuncId} {args : List AVal} {n : Int} (h : PCalls P g args (.int .i64 n)) {W : World} {cargs : Array Value} (hA : ARel (Old W) W0 W args cargs) :
    Calls P g cargs W fun e w' => e = .returned (.int .i64 n) ∧ ∃ q os, w' = Sort.grow (Sort.ahead W q) os := by
  refine (h.2 (Old W) W0 W cargs (inv_nil fun b hb => hb) hA).mono ?_
  rintro e w' ⟨cv, r, σ', I', μ', rfl, ⟨rfl, rfl⟩, hv, -, hx, -⟩
  refine ⟨by rw [Option.some.inj hv.2], w'.drawn - W.drawn, w'.heap.extract W.heap.size w'.heap.size, ?_⟩
  have hh : W.heap ++ w'.heap.extract W.heap.size w'.heap.size = w'.heap := by
    refine Array.ext_getElem? fun i => ?_
    by_cases hi : i < W.heap.size
    · rw [Array.getElem?_append_left hi, hx.old i hi fun ⟨k, C, h1, _⟩ => h1 rfl]
    · rw [Array.getElem?_append_right (by omega), Array.getElem?_extract]
      have := hx.size
      by_cases h2 : i < w'.heap.size
      · rw [if_pos (by omega), show W.heap.size + (i - W.heap.size) = i by omega]
      · rw [if_neg (by omega), Array.getElem?_eq_none (by omega)]
  have hd : W.drawn + (w'.drawn - W.drawn) = w'.drawn := by have := hx.drawn; omega
  show w' = World.mk (W.heap ++ _) W.tape (W.drawn + _) W.os W.output
  rw [hh, hd, ← hx.os, ← hx.tape, ← hx.output]
theorem flat_at {α : Type} [Inhabited α] {cenc : α → List Value} {sz : Nat} (hk : ∀ x, (cenc x).length = sz) (d : Array α) {i j : Nat} (hi : i < d.size) (hj : j < sz) :
    i * sz + j < (flatK cenc sz d).size ∧ (flatK cenc sz d)[i * sz + j]? = (cenc d[i])[j]? := by
  have hm := Nat.mul_le_mul_right sz (show i + 1 ≤ d.size by omega)
  rw [Nat.add_mul] at hm
  have h1 : i * sz + j < d.size * sz := by omega
  have h2 : i * sz + j < (flatK cenc sz d).size := by rw [size_flatK]; exact h1
  have e1 : (i * sz + j) / sz = i := by rw [Nat.mul_comm, Nat.mul_add_div (by omega), Nat.div_eq_of_lt hj, Nat.add_zero]
  have e2 : (i * sz + j) % sz = j := by rw [Nat.mul_comm, Nat.mul_add_mod, Nat.mod_eq_of_lt hj]
  refine ⟨h2, ?_⟩
  have h3 := get_flatK cenc sz d (i * sz + j) h1
  rw [e1, e2, getElem!_pos (flatK cenc sz d) (i * sz + j) h2, getElem!_pos d i hi] at h3
  have h4 : j < (cenc d[i]).length := by rw [hk]; exact hj
  rw [Array.getElem?_eq_getElem h2, h3, List.getElem?_eq_getElem h4, getElem!_pos (cenc d[i]) j h4]
/-- slices.SortFunc, at what fills one cell or more, by a function that is handed nothing else -/
theorem sortFunc_o {α : Type} [Inhabited α] {sz : Nat} {enc : α → AVal} {cenc : α → List Value} {cf : α → α → Int} {f g : FuncId} {srt : Array α → Array α} {dv : AVal} (hok : fnOk P f = true)
    (hk : ∀ x, (cenc x).length = sz) (hsz : 0 < sz) (hE : ∀ (I : Nat → Prop) (m : Where) (w : World) (x : α) (c : Nat → Option Value), LR I m w (enc x) sz c ↔ ∀ j < sz, c j = (cenc x)[j]?)
    (hV : ∀ (I : Nat → Prop) (w : World) (x : α), VR I W0 w (enc x) (.agg (cenc x).toArray)) (hf : ∀ x y, PCalls P g [enc x, enc y] (.int .i64 (cf x y)))
    (hs : ∀ blk cap (d : Array α) w, (∀ (W : World) x y, Calls P g #[.agg (cenc x).toArray, .agg (cenc y).toArray] W fun e w' => e = .returned (.int .i64 (cf x y)) ∧ ∃ q os, w' = Sort.grow (Sort.ahead W q) os) →
      Holds id w blk 0 (flatK cenc sz d) → blk < w.heap.size → d.size < 4611686018427387904 → Calls P f #[.slice (some ⟨blk, 0, none⟩) d.size cap, .func (.func g) #[] #[]] w fun e w' =>
      e = .returned (.tuple #[]) ∧ ∃ n os, w' = Sort.grow (putRow id (Sort.ahead w n) blk 0 (flatK cenc sz (srt d))) os)
    (hz : ∀ p cap fv w, Calls P f #[.slice p 0 cap, fv] w fun e w' => e = .returned (.tuple #[]) ∧ w' = w) {l : List α} (hl : l.length < 4611686018427387904) (hlen : (srt l.toArray).size = l.length) :
    MCalls P f [.sref (0, 0) 0 sz l.length, fn g []] ⟨1, [(0, .one ⟨sz, dv, l.map enc⟩)]⟩ (tup []) ⟨1, [(0, .one ⟨sz, dv, (srt l.toArray).toList.map enc⟩)]⟩ := by
  refine ⟨hok, fun I m w cargs hinv hA => ?_⟩
  obtain ⟨v, hv0, hv⟩ := hA.2 0 (by simp)
  obtain ⟨u, hu0, hu⟩ := hA.2 1 (by simp)
  have hca : cargs = #[v, u] := by
    have h1 := hA.1
    refine Array.ext_getElem? fun i => ?_
    match i with
    | 0 => rw [hv0]; rfl
    | 1 => rw [hu0]; rfl
    | i + 2 => simp at h1 ⊢; omega
  subst hca
  have hv' : VR I m w (.sref (0, 0) 0 sz l.length) v := hv
  have hu' : VR I m w (fn g []) u := hu
  obtain ⟨_, cs0, hcs, hcs0, _⟩ := hu'
  obtain rfl : u = .func (.func g) #[] cs0 := Option.some.inj hcs
  obtain rfl : cs0 = #[] := Array.eq_empty_of_size_eq_zero hcs0
  have hcmp : ∀ (W : World) x y, Calls P g #[.agg (cenc x).toArray, .agg (cenc y).toArray] W fun e w' => e = .returned (.int .i64 (cf x y)) ∧ ∃ q os, w' = Sort.grow (Sort.ahead W q) os :=
    fun W x y => pcalls_grows (hf x y) (arel_2 (hV _ _ x) (hV _ _ y))
  by_cases hn : l.length = 0
  · obtain ⟨a, cap, rfl⟩ := nil_slice hn hv'
    obtain rfl : l = [] := List.length_eq_zero_iff.1 hn
    have e0 : srt #[] = #[] := Array.eq_empty_of_size_eq_zero hlen
    refine (hz a cap _ w).mono ?_
    rintro e w' ⟨rfl, rfl⟩
    exact ⟨_, _, _, I, m, rfl, ⟨rfl, rfl⟩, vr_unit, by simpa [e0] using hinv, by simpa [e0] using Ext.refl I _ w', Where.le_refl m⟩
  · obtain ⟨b, C, cs, ty, cap, hm, rfl, hh, h4, h5, h6⟩ := one_row hinv hv' (by omega)
    have hb : b < w.heap.size := (Array.getElem?_eq_some_iff.1 hh).1
    have hcell : ∀ e, (h : e < l.length) → ∀ j < sz, cs[e * sz + j]? = (cenc l[e])[j]? := fun e h j hj => by
      have := h6 e (by simpa using h)
      simp only [List.getElem_map] at this
      exact (hE _ _ _ _ _).1 this j hj
    refine (hs b cap l.toArray w hcmp (fun t ht => ?_) hb (by simpa using hl)).mono ?_
    · have ht' : t < l.length * sz := by simpa using ht
      have hd : t / sz < l.length := Nat.div_lt_of_lt_mul (by rw [Nat.mul_comm]; exact ht')
      have hmo := Nat.mod_lt t hsz
      have et : t / sz * sz + t % sz = t := by rw [Nat.mul_comm]; exact Nat.div_add_mod t sz
      obtain ⟨q1, q2⟩ := flat_at hk l.toArray (i := t / sz) (j := t % sz) (by simpa using hd) hmo
      have q3 := hcell (t / sz) hd (t % sz) hmo
      rw [et] at q1 q2 q3
      refine ⟨?_, by simp [World.frozen?, hh]⟩
      have q4 : (flatK cenc sz l.toArray)[t]? = cs[t]? := by rw [q2, q3]; simp
      rw [Array.getElem?_eq_getElem q1] at q4
      show w.cell? ⟨b, 0 + t, none⟩ = some ((flatK cenc sz l.toArray)[t]!)
      rw [getElem!_pos (flatK cenc sz l.toArray) t q1, q4]
      simp [World.cell?, hh]
    · rintro e w' ⟨rfl, n, os, rfl⟩
      obtain ⟨h7, h8⟩ := put_many (r' := ⟨sz, dv, (srt l.toArray).toList.map enc⟩) (F := flatK cenc sz (srt l.toArray)) (q := n) (os := os) hinv rfl hm hh (by simpa [hlen] using h4) h5 (by simp [hlen])
        (fun i hi => by
          have hi' : i < (srt l.toArray).size := by simpa using hi
          simp only [List.getElem_map, Array.getElem_toList]
          exact (hE _ _ _ _ _).2 fun j hj => (flat_at hk (srt l.toArray) hi' hj).2)
      rw [set_one] at h7 h8
      exact ⟨_, _, _, I, m, rfl, ⟨rfl, rfl⟩, vr_unit, h7, h8, Where.le_refl m⟩
end Go.Nw
