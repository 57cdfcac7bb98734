/- The named walk, part 22: slices.SortFunc by a function that is handed nothing else, at values that are not too great. -/
import Derived.Test.YtngdglmimlfefaaNwSort
import Derived.Shelf.SlSortCmp.WholeK
import Derived.Shelf.SlSortCmp.NoneTotal
namespace Go.Nw
open Go.Proofs Go.Sort
set_option linter.unusedVariables false
set_option linter.unusedSimpArgs false
/-- what the order says, at values that are pulled into bounds -/
def cfP {T : Type} (cl : T → T) (f1 : T → T → Option Int) (x y : T) : Int := (f1 (cl x) (cl y)).getD 0
open Classical in
/-- sorted, if the order is one and is there for all values within bounds -/
noncomputable def sortP {T : Type} [Inhabited T] (B : T → Prop) (cl : T → T) (l : List T) (f1 : T → T → Option Int) : Option (List T) :=
  if (∀ x ∈ l, B x) ∧ (∀ x y, B x → B y → (f1 x y).isSome = true) ∧ SWO (ltOf (cfP cl f1)) ∧ l.length < 4611686018427387904 then
    some ((pdq (ltOf (cfP cl f1)) l.toArray 0 l.length (Lib.bitLen l.length) true true).toList.map cl) else none
theorem pdq_size {T : Type} [Inhabited T] {lt : T → T → Bool} (h : SWO lt) (d : Array T) : (pdq lt d 0 d.size (Lib.bitLen d.size) true true).size = d.size :=
  (pdq_sorts lt h d 0 d.size (Lib.bitLen d.size) true true (Nat.zero_le _) (Nat.le_refl _) (Or.inl rfl)).1.1
variable {P : Program} {ρ : Shelf.Ren}
theorem sortFunc_p {T : Type} [Inhabited T] {sz : Nat} {enc : T → AVal} {cenc : T → List Value} {B : T → Prop} {cl : T → T} {g : FuncId} {dv : AVal} {l r : List T} {f1 : T → T → Option Int} (h : sortP B cl l f1 = some r)
    (L : SlLaysF0.n6 P ρ) (aE : ∀ w, (isAgg (ρ.t 24)).run P w = .ok true w) (zE : ∀ w, (Go.sizeOf (ρ.t 24)).run P w = .ok sz w) (hok : fnOk P (ρ.f 6) = true)
    (hcl : ∀ t, B (cl t)) (hid : ∀ t, B t → cl t = t) (hk : ∀ x, (cenc x).length = sz) (hsz : 0 < sz) (h1 : ∀ x, ∀ v ∈ cenc x, v.oneCell' = true)
    (hE : ∀ (I : Nat → Prop) (m : Where) (w : World) (x : T) (c : Nat → Option Value), LR I m w (enc x) sz c ↔ ∀ j < sz, c j = (cenc x)[j]?)
    (hV : ∀ (I : Nat → Prop) (w : World) (x : T), VR I W0 w (enc x) (.agg (cenc x).toArray))
    (hf : ∀ x y n, f1 x y = some n → PCalls P g [enc x, enc y] (.int .i64 n)) :
    MCalls P (ρ.f 6) [.sref (0, 0) 0 sz l.length, fn g []] ⟨1, [(0, .one ⟨sz, dv, l.map enc⟩)]⟩ (tup []) ⟨1, [(0, .one ⟨sz, dv, r.map enc⟩)]⟩ := by
  unfold sortP at h
  split at h
  case isFalse => cases h
  rename_i hc
  obtain ⟨b1, b2, b3, b4⟩ := hc
  obtain rfl := Option.some.inj h
  have e0 : l.map enc = l.map fun x => enc (cl x) := List.map_congr_left fun x hx => by rw [hid x (b1 x hx)]
  have hf' : ∀ x y, PCalls P g [enc (cl x), enc (cl y)] (.int .i64 (cfP cl f1 x y)) := fun x y => by
    have := b2 _ _ (hcl x) (hcl y)
    obtain ⟨n, hn⟩ := Option.isSome_iff_exists.1 this
    have e : cfP cl f1 x y = n := by simp [cfP, hn]
    rw [e]; exact hf _ _ _ hn
  have heg : ∀ args w, (callFunc g args).run P w = .ok (.enter g args) w := fun args w => run_callFunc args (hf' default default).1
  have := sortFunc_o (P := P) (f := ρ.f 6) (g := g) (enc := fun x => enc (cl x)) (cenc := fun x => cenc (cl x)) (cf := cfP cl f1) (srt := fun d => pdq (ltOf (cfP cl f1)) d 0 d.size (Lib.bitLen d.size) true true) (dv := dv) (sz := sz) hok
    (fun x => hk _) hsz (fun I m w x c => hE I m w (cl x) c) (fun I w x => hV I w (cl x)) hf'
    (fun blk cap d w hcmp hH hb hs => AnyQ.slices_SortFunc_eq L sz aE zE (fun x => cenc (cl x)) (fun x => hk _) (fun x => h1 _) (cfP cl f1) b3 g #[] blk 0 cap d w heg (fun m os dk _ x y => by rw [Array.append_empty]; exact hcmp _ x y) hH hb hs)
    (fun p cap fv w => AnyF.slices_SortFunc_none L p cap fv w) (l := l) b4 (by simpa using pdq_size b3 l.toArray)
  have e1 : ∀ m : List T, (m.map cl).map enc = m.map fun x => enc (cl x) := fun m => by rw [List.map_map]; rfl
  rw [e0, e1]
  simp only [List.size_toArray] at this
  exact this
/-- what comes of it: the same things, in order -/
theorem sortP_ok {T : Type} [Inhabited T] {B : T → Prop} {cl : T → T} {l : List T} {f1 : T → T → Option Int} (hid : ∀ t, B t → cl t = t) (b1 : ∀ x ∈ l, B x) (b2 : ∀ x y, B x → B y → (f1 x y).isSome = true) (b3 : SWO (ltOf (cfP cl f1))) (b4 : l.length < 4611686018427387904) :
    ∃ r, sortP B cl l f1 = some r ∧ r.Perm l ∧ r.Pairwise (fun a b => ltOf (cfP cl f1) b a = false) := by
  refine ⟨_, if_pos ⟨b1, b2, b3, b4⟩, ?_⟩
  obtain ⟨hp, hs⟩ := pdq_sorts (ltOf (cfP cl f1)) b3 l.toArray 0 l.toArray.size (Lib.bitLen l.toArray.size) true true (Nat.zero_le _) (Nat.le_refl _) (Or.inl rfl)
  have h2 := hp.2.2
  have h3 := hp.1
  simp only [List.size_toArray] at h2 h3 hs ⊢
  have h4 : (pdq (ltOf (cfP cl f1)) l.toArray 0 l.length (Lib.bitLen l.length) true true).toList.Perm l := by
    simpa [Array.extract_eq_self_of_le, h3] using h2
  have h5 : (pdq (ltOf (cfP cl f1)) l.toArray 0 l.length (Lib.bitLen l.length) true true).toList.map cl = (pdq (ltOf (cfP cl f1)) l.toArray 0 l.length (Lib.bitLen l.length) true true).toList := by
    conv => rhs; rw [← List.map_id (pdq (ltOf (cfP cl f1)) l.toArray 0 l.length (Lib.bitLen l.length) true true).toList]
    exact List.map_congr_left fun x hx => hid x (b1 x (h4.mem_iff.1 hx))
  rw [h5]
  refine ⟨h4, List.pairwise_iff_getElem.2 fun i j hi hj hij => ?_⟩
  have hi' : i < (pdq (ltOf (cfP cl f1)) l.toArray 0 l.length (Lib.bitLen l.length) true true).size := by simpa using hi
  have hj' : j < (pdq (ltOf (cfP cl f1)) l.toArray 0 l.length (Lib.bitLen l.length) true true).size := by simpa using hj
  have := hs i j (Nat.zero_le _) hij (by rw [← h3]; exact hj')
  rw [getElem!_pos _ i hi', getElem!_pos _ j hj'] at this
  simpa using this
end Go.Nw
