/- The abstract walk, part 15: what a row's arguments are. -/
import Derived.Test.YtngdglmimlfefaaNwEq
import Derived.WalkKit
import Derived.ProofKit
import Derived.OpenShut
import Derived.ShutString
import Derived.ChangeOld
import Derived.Below
import Derived.SizedLaws
namespace Go.Nw
set_option linter.unusedVariables false
set_option linter.unusedSimpArgs false
variable {H : Type} {enc : TypeId × Value → H} {P : Program} {w : World}
theorem getD_app {α : Type} [Inhabited α] (l : List α) (a : α) (i : Nat) : (l ++ [a]).getD i default = if i < l.length then l.getD i default else if i = l.length then a else default := by
  simp only [List.getD_eq_getElem?_getD]
  by_cases h : i < l.length
  · rw [if_pos h, List.getElem?_append_left h]
  · rw [if_neg h, List.getElem?_append_right (by omega)]
    by_cases h2 : i = l.length
    · subst h2; simp
    · rw [if_neg h2, List.getElem?_eq_none (by simp; omega)]; rfl
/-- the blocks that stand -/
def Old (w : World) (b : Nat) : Prop := b < w.heap.size
/-- What is read of type t is some a. -/
def Dec (enc : TypeId × Value → H) (P : Program) (w : World) (t : TypeId) (α : Type) (cf : α → Nat → AVal) (ok : α → Prop) (sz : Nat) : Prop :=
  ∀ fuel cs d ps, DataW.trod enc P w 0 (fun _ => true) true fuel t cs = some (d, ps) → (∀ n ∈ d.weights P t, n ≤ reachBytes) →
    ∃ a : α, ok a ∧ cs.length = sz ∧ ∀ j < sz, (cf a j).leaf = true ∧ LR (Old w) W0 w (cf a j) 1 fun _ => cs[j]?
theorem dec_int {t : TypeId} (hu : P.underlying t = some (.int .i64)) : Dec enc P w t Int (fun n _ => .int .i64 n) (fun n => -9223372036854775808 ≤ n ∧ n ≤ 9223372036854775807) 1 := by
  intro fuel cs d ps h _
  cases fuel with
  | zero => simp [DataW.trod] at h
  | succ fuel =>
    unfold DataW.trod at h
    rw [hu] at h
    split at h <;> first | (rename_i h1; cases h1; done) | skip
    · rename_i k k' n h1
      cases h1
      split at h
      · rename_i h2
        obtain ⟨rfl, h3⟩ := h2
        refine ⟨n, ?_, rfl, fun j hj => ⟨rfl, rfl, by rw [show j = 0 by omega]; rfl⟩⟩
        have e2 : (2 : Int) ^ (64 - 1) = 9223372036854775808 := by decide
        simp [Lit.wf, IntKind.min, IntKind.max, IntKind.signed, IntKind.bits] at h3
        omega
      · cases h
    all_goals cases h
theorem dec_str {t : TypeId} (hu : P.underlying t = some .string) : Dec enc P w t ByteArray (fun s _ => .str s) (fun s => s.size < 281474976710656) 1 := by
  intro fuel cs d ps h hw
  cases fuel with
  | zero => simp [DataW.trod] at h
  | succ fuel =>
    unfold DataW.trod at h
    rw [hu] at h
    split at h <;> first | (rename_i h1; cases h1; done) | skip
    · rename_i s h1
      split at h
      · cases h
        have := hw s.data.toList.length (by simp [DataW.weights])
        refine ⟨s, ?_, rfl, fun j hj => ⟨rfl, rfl, by rw [show j = 0 by omega]; rfl⟩⟩
        have h2 : s.data.toList.length = s.size := by simp
        have := reachBytes_lt
        omega
      · cases h
    all_goals cases h
theorem dec_bool {t : TypeId} (hu : P.underlying t = some .bool) : Dec enc P w t Bool (fun s _ => .bool s) (fun _ => True) 1 := by
  intro fuel cs d ps h hw
  cases fuel with
  | zero => simp [DataW.trod] at h
  | succ fuel =>
    unfold DataW.trod at h
    rw [hu] at h
    split at h <;> first | (rename_i h1; cases h1; done) | skip
    · rename_i s h1
      exact ⟨s, trivial, rfl, fun j hj => ⟨rfl, rfl, by rw [show j = 0 by omega]; rfl⟩⟩
    all_goals cases h
theorem mapM_get {α β : Type} {f : α → Option β} : ∀ {l : List α} {r : List β}, l.mapM f = some r → r.length = l.length ∧ ∀ i (h : i < l.length) (h' : i < r.length), f l[i] = some r[i]
  | [], r, h => by simp at h; subst h; exact ⟨rfl, fun i h => by simp at h⟩
  | a :: l, r, h => by
    simp only [List.mapM_cons, Option.pure_def, Option.bind_eq_bind, Option.bind_eq_some_iff] at h
    obtain ⟨b, hb, r', hr, h⟩ := h
    cases h
    obtain ⟨h1, h2⟩ := mapM_get hr
    refine ⟨by simp [h1], fun i h h' => ?_⟩
    cases i with
    | zero => exact hb
    | succ i => exact h2 i (by simpa using h) (by simpa using h')
theorem weights_all {e : TypeId} {n : Nat} : ∀ {l : List (DataW H)} {d : DataW H}, d ∈ l → n ∈ d.weights P e → n ∈ DataW.weightsAll P e l
  | a :: l, d, hd, hn => by
    simp only [DataW.weightsAll, List.mem_append]
    rcases List.mem_cons.1 hd with rfl | hd
    · exact .inl hn
    · exact .inr (weights_all hd hn)
theorem dec_fields {t : TypeId} (hs : (match P.underlying t with | some (.struct _) => true | _ => false) = true) {fuel : Nat} {cs : List Value} {d : DataW H} {ps : List MemPlace} (h : DataW.trod enc P w 0 (fun _ => true) true fuel t cs = some (d, ps)) (hw : ∀ n ∈ d.weights P t, n ≤ reachBytes) :
    cs.length = szT P t ∧ ∀ i, (fldT P t i).isSome = true → ∃ fuel' d' ps', DataW.trod enc P w 0 (fun _ => true) true fuel' (ftyT P t i) ((cs.drop (foffT P t i)).take (szT P (ftyT P t i))) = some (d', ps') ∧ ∀ n ∈ d'.weights P (ftyT P t i), n ≤ reachBytes := by
  cases fuel with
  | zero => simp [DataW.trod] at h
  | succ fuel =>
    cases hu : P.underlying t with
    | none => simp [hu] at hs
    | some D =>
      cases D with
      | struct fs =>
        unfold DataW.trod at h
        simp only [hu] at h
        · split at h
          · rename_i hlen
            cases hm : fs.toList.mapM fun f => DataW.trod enc P w 0 (fun _ => true) true fuel f.type ((cs.drop f.offset).take (P.cellsOf f.type)) with
            | none => rw [hm] at h; cases h
            | some xs =>
              rw [hm] at h
              simp only [Option.map_some, Option.some.injEq, Prod.mk.injEq] at h
              obtain ⟨h2, -⟩ := h
              obtain ⟨h3, h4⟩ := mapM_get hm
              refine ⟨hlen, fun i hi => ?_⟩
              have hfl : fldT P t i = fs[i]? := by simp [fldT, hu]
              rw [hfl] at hi
              have hi' : i < fs.toList.length := by
                cases hq : fs[i]? with
                | none => rw [hq] at hi; cases hi
                | some f => have := (Array.getElem?_eq_some_iff.1 hq).1; simpa using this
              have hi2 : i < xs.length := by omega
              have hfe : fs[i]? = some fs.toList[i] := by simp at hi'; simp [hi']
              have e1 : ftyT P t i = fs.toList[i].type := by simp only [ftyT, hfl, hfe, Option.map_some, Option.getD_some]
              have e2 : foffT P t i = fs.toList[i].offset := by simp only [foffT, hfl, hfe, Option.map_some, Option.getD_some]
              refine ⟨fuel, xs[i].1, xs[i].2, by rw [e1, e2]; exact h4 i hi' hi2, fun n hn => hw n ?_⟩
              rw [← h2]
              simp only [DataW.weights, hu]
              refine DataW.weights_mem_each (j := i) (t := fs.toList[i].type) (d := xs[i].1) (by rw [List.getElem?_map, List.getElem?_eq_getElem hi']; rfl) (by rw [List.getElem?_map, List.getElem?_eq_getElem hi2]; rfl) n (by rw [← e1]; exact hn)
          · cases h
      | _ => simp [hu] at hs
theorem part_get {cs : List Value} {o n j : Nat} (h : j < n) : ((cs.drop o).take n)[j]? = cs[o + j]? := by
  rw [List.getElem?_take, if_pos h, List.getElem?_drop]
theorem dec_slice {t e : TypeId} {α : Type} [Inhabited α] {cf : α → Nat → AVal} {ok : α → Prop} {sz : Nat} {ev : α → AVal} (hd : Dec enc P w e α cf ok sz) (hu : P.underlying t = some (.slice e)) (hsz : szT P e = sz) (h0 : 0 < sz) (hb : 0 < byT P e)
    (hE : ∀ a c, (∀ j < sz, (cf a j).leaf = true ∧ LR (Old w) W0 w (cf a j) 1 fun _ => c j) → LR (Old w) W0 w (ev a) sz c) :
    Dec enc P w t (List α) (fun l _ => .sl sz l.length fun i => ev (l.getD i default)) (fun l => l.length < 281474976710656 ∧ ∀ a ∈ l, ok a) 1 := by
  intro fuel cs d ps h hw
  cases fuel with
  | zero => simp [DataW.trod] at h
  | succ fuel =>
    unfold DataW.trod at h
    rw [hu] at h
    split at h <;> first | (rename_i h1; cases h1; done) | skip
    · rename_i h1
      exact ⟨[], ⟨by simp, nofun⟩, rfl, fun j hj => ⟨rfl, rfl, none, 0, by rw [show j = 0 by omega]; rfl, .inl rfl⟩⟩
    · rename_i e' a len cap h1
      cases h1
      simp only at h
      split at h
      · rename_i hc
        cases hm : (List.range len).mapM fun i => (w.cells? 0 (a.add (i * P.cellsOf e)) (P.cellsOf e)).bind (DataW.trod enc P w 0 (fun _ => true) true fuel e) with
        | none => rw [hm] at h; cases h
        | some elems =>
          rw [hm] at h
          simp only [Option.bind_some, if_true, Option.map_eq_some_iff] at h
          obtain ⟨rest, hr, h⟩ := h
          simp only [Prod.mk.injEq] at h
          obtain ⟨hd', -⟩ := h
          obtain ⟨hel, hget⟩ := mapM_get hm
          simp only [List.length_range] at hel
          subst hd'
          have hwt : (elems.map (·.1)).length * P.bytesOf e ≤ reachBytes := by
            have := hw (((elems.map (·.1)).length + (rest.map (·.1)).length) * P.bytesOf e) (by simp [DataW.weights, hu])
            rw [Nat.add_mul] at this; omega
          have hlen : len < 281474976710656 := by
            rw [List.length_map, hel] at hwt
            have hb' : 0 < P.bytesOf e := hb
            have : len * 1 ≤ len * P.bytesOf e := Nat.mul_le_mul_left _ hb'
            have := reachBytes_lt
            omega
          have hspot : 0 < len → a.block < w.heap.size ∧ a.spot = none := by
            intro hl
            have hg := hget 0 (by simpa using hl) (by omega)
            simp only [List.getElem_range, Option.bind_eq_some_iff] at hg
            obtain ⟨cells, hcells, htr⟩ := hg
            obtain ⟨-, hcl, hcell⟩ := World.cells?_some hcells
            have h1 := hcell 0 (by have : P.cellsOf e = sz := hsz; omega)
            simp only [Nat.zero_mul, Addr.add, if_true] at h1
            have h2 : 0 < cells.length := by have : P.cellsOf e = sz := hsz; omega
            rw [List.getElem?_eq_getElem h2] at h1
            unfold World.cell? at h1
            split at h1
            · rename_i c t' f' hh
              refine ⟨(Array.getElem?_eq_some_iff.1 hh).1, ?_⟩
              cases hsp : a.spot with
              | none => rfl
              | some y => simp [hsp] at h1
            · cases h1
          have key : ∀ i, i < len → ∃ x : α, ok x ∧ LR (Old w) W0 w (ev x) sz (fun j => w.cell? ⟨a.block, a.off + i * sz + j, none⟩) := by
            intro i hi
            have ha : a = ⟨a.block, a.off, none⟩ := by
              obtain ⟨b, o, sp⟩ := a
              have := (hspot (by omega)).2
              simp only at this; rw [this]
            have hg := hget i (by simpa using hi) (by omega)
            simp only [List.getElem_range, Option.bind_eq_some_iff] at hg
            obtain ⟨cells, hcells, htr⟩ := hg
            obtain ⟨-, hcl, hcell⟩ := World.cells?_some hcells
            obtain ⟨x, hx, hxl, hxc⟩ := hd fuel cells elems[i].1 elems[i].2 htr fun n hn => hw n (by
              simp only [DataW.weights, hu, List.mem_cons, List.mem_append]
              exact .inr (.inl (weights_all (d := elems[i].1) (List.mem_map.2 ⟨elems[i], List.getElem_mem _, rfl⟩) hn)))
            have hsz' : P.cellsOf e = sz := hsz
            have hcell' : ∀ j, j < sz → w.cell? ⟨a.block, a.off + i * sz + j, none⟩ = cells[j]? := fun j hj => by
              have := hcell j (by omega)
              rw [hsz', ha, add_mk, add_mk] at this
              exact this
            exact ⟨x, hx, LR_to (fun j hj => hcell' j hj) (hE x (fun j => cells[j]?) hxc)⟩
          have : ∃ l : List α, l.length = len ∧ (∀ x ∈ l, ok x) ∧ ∀ i, i < len → LR (Old w) W0 w (ev (l.getD i default)) sz fun j => w.cell? ⟨a.block, a.off + i * sz + j, none⟩ := by
            clear hget hm hel hlen hwt
            have : ∀ n, n ≤ len → ∃ l : List α, l.length = n ∧ (∀ x ∈ l, ok x) ∧ ∀ i, i < n → LR (Old w) W0 w (ev (l.getD i default)) sz fun j => w.cell? ⟨a.block, a.off + i * sz + j, none⟩ := by
              intro n
              induction n with
              | zero => intro _; exact ⟨[], rfl, nofun, fun i hi => by omega⟩
              | succ n ih =>
                intro hn
                obtain ⟨l, h1, h2, h3⟩ := ih (by omega)
                obtain ⟨x, hx, hlr⟩ := key n (by omega)
                refine ⟨l ++ [x], by simp [h1], fun y hy => ?_, fun i hi => ?_⟩
                · rcases List.mem_append.1 hy with h | h
                  · exact h2 y h
                  · rw [List.mem_singleton.1 h]; exact hx
                · rw [getD_app]
                  by_cases hil : i < n
                  · rw [if_pos (by omega)]; exact h3 i hil
                  · rw [if_neg (by omega), if_pos (by omega), show i = n by omega]; exact hlr
            exact this len (Nat.le_refl _)
          obtain ⟨l, hl1, hl2, hl3⟩ := this
          refine ⟨l, ⟨by omega, hl2⟩, rfl, fun j hj => ⟨rfl, rfl, some a, cap, by rw [show j = 0 by omega]; simp [hl1], ?_⟩⟩
          by_cases hl0 : len = 0
          · exact .inl (by omega)
          · obtain ⟨hblk, hsp⟩ := hspot (by omega)
            refine .inr ⟨a.block, a.off, ?_, hblk, by omega, fun i hi => ?_⟩
            · obtain ⟨b, o, s⟩ := a; simp only at hsp; rw [hsp]
            · exact hl3 i (by omega)
      · cases h
    all_goals cases h
end Go.Nw
namespace Go.Nw
variable {P : Program}
/-- A law's walk, as its row wants it. -/
theorem inv_nil {I : Nat → Prop} {w : World} (h : ∀ b, I b → b < w.heap.size) : Inv I W0 Heap.nil w :=
  ⟨fun b hb => ⟨h b hb, fun ⟨k, C, h1, _⟩ => h1 rfl⟩, fun k r hr => (by cases hr), fun k k' b C C' h1 => absurd rfl h1, fun k hk => absurd rfl hk⟩
theorem calls_true {f : FuncId} {args : List AVal} {cargs : Array Value} {W : World} (h : PCalls P f args (.bool true)) (hA : ARel (Old W) W0 W args cargs) :
    Calls P f cargs W fun e W' => e = .returned (.bool true) ∧ RowKit.Below W.heap.size W W' := by
  refine (h.2 (Old W) W0 W cargs (inv_nil fun b hb => hb) hA).mono ?_
  rintro e w' ⟨cv, r, σ', I', μ', rfl, ⟨rfl, rfl⟩, hv, -, hx, -⟩
  exact ⟨by rw [Option.some.inj hv.2], hx.os, hx.tape, hx.output, hx.size, fun k hk => hx.old k hk fun ⟨k, C, h1, _⟩ => h1 rfl⟩
theorem arel_nil {W : World} {I : Nat → Prop} : ARel I W0 W [] #[] := ⟨rfl, fun j hj => by simp at hj⟩
theorem arel_1 {W : World} {I : Nat → Prop} {a : AVal} {v : Value} (h : VR I W0 W a v) : ARel I W0 W [a] #[v] :=
  ⟨rfl, fun j hj => by obtain rfl : j = 0 := by simpa using hj
                       exact ⟨v, rfl, h⟩⟩
theorem arel_2 {W : World} {I : Nat → Prop} {a b : AVal} {v u : Value} (h : VR I W0 W a v) (h2 : VR I W0 W b u) : ARel I W0 W [a, b] #[v, u] :=
  ⟨rfl, fun j hj => by
    rcases j with _ | _ | j
    · exact ⟨v, rfl, h⟩
    · exact ⟨u, rfl, h2⟩
    · simp at hj; omega⟩
theorem arel_3 {W : World} {I : Nat → Prop} {a b c : AVal} {v u x : Value} (h : VR I W0 W a v) (h2 : VR I W0 W b u) (h3 : VR I W0 W c x) : ARel I W0 W [a, b, c] #[v, u, x] :=
  ⟨rfl, fun j hj => by
    rcases j with _ | _ | _ | j
    · exact ⟨v, rfl, h⟩
    · exact ⟨u, rfl, h2⟩
    · exact ⟨x, rfl, h3⟩
    · simp at hj; omega⟩
def isStr (P : Program) (t : TypeId) : Bool := match P.underlying t with | some (.struct _) => true | _ => false
theorem arg_struct {H : Type} {enc : TypeId × Value → H} {w : World} {t : TypeId} {α : Type} {l : α → List AVal} {ok : α → Prop} {sz : Nat} {v : Value} {d : DataW H} {p : List MemPlace} (hd : Dec enc P w t α (fun a j => lst (l a) j) ok sz) (hl : ∀ a, (l a).length = sz)
    {b : Nat} (hs : isStr P t = true) (hv : Value.okWide P w .any b t v) (h : DataW.Trod enc P w 0 (fun _ => true) true t v d p) (hw : ∀ n ∈ d.weights P t, n ≤ reachBytes) : ∃ a, ok a ∧ VR (Old w) W0 w (agg (l a)) v := by
  obtain ⟨fs, hu⟩ : ∃ fs, P.underlying t = some (.struct fs) := by
    unfold isStr at hs
    split at hs
    · exact ⟨_, by assumption⟩
    · cases hs
  obtain ⟨cs, rfl, -⟩ := WideShapes.okWide_struct hu hv
  obtain ⟨fuel, hf⟩ := h
  obtain ⟨a, h1, h2, h3⟩ := hd fuel _ d p hf hw
  refine ⟨a, h1, cs, rfl, by rw [hl]; simpa [Value.cells] using h2, rfl, fun j hj => ?_⟩
  rw [hl] at hj
  have := h3 j hj
  simpa [Value.cells] using this
theorem arg_one {H : Type} {enc : TypeId × Value → H} {w : World} {t : TypeId} {α : Type} {e : α → AVal} {ok : α → Prop} {v : Value} {d : DataW H} {p : List MemPlace} (hd : Dec enc P w t α (fun a _ => e a) ok 1) (hc : v.cells = #[v])
    (h : DataW.Trod enc P w 0 (fun _ => true) true t v d p) (hw : ∀ n ∈ d.weights P t, n ≤ reachBytes) : ∃ a, ok a ∧ VR (Old w) W0 w (e a) v := by
  obtain ⟨fuel, hf⟩ := h
  obtain ⟨a, h1, h2, h3⟩ := hd fuel _ d p hf hw
  have := h3 0 (by decide)
  exact ⟨a, h1, VR_of_LR this.1 this.2 (by rw [hc]; rfl)⟩
end Go.Nw
