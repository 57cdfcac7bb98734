import Derived.Test.YtngdglmimlfefaaAwTy
set_option linter.unusedVariables false
set_option linter.unusedSimpArgs false
namespace Go.Aw
open Go.Proofs
theorem within_c (n lo hi : Int) : PCalls Try.prog 47 [.int .i64 n, .int .i64 lo, .int .i64 hi] (.bool (decide (lo ≤ n) && decide (n ≤ hi))) := by
  refine acalls_of Try.func47 (by unfold Try.f47; rfl) (by kernel_rfl) (by kernel_rfl) ?_
  have h1 : True := trivial
  simp only [awp_seq]
  simp only [argSlots]
  dsimp only [Try.f47]
  simp only [go_sem]
theorem kindAt1_c (k : Kd) (name : ByteArray) : PCalls Try.prog 95 [encKd k, .iptr (.str name) 0] (.bool (decide (k.name = name))) := by
  refine acalls_of Try.func95 (by unfold Try.f95; rfl) (by kernel_rfl) (by kernel_rfl) ?_
  have h1 : True := trivial
  simp only [awp_seq]
  simp only [argSlots]
  dsimp only [Try.f95]
  simp only [go_sem]
  intro b hb
  simp only [go_sem]
theorem indexFunc_Kd (l : List Kd) (g : Nat) (caps : List AVal) (p : Kd → Bool) (hl : l.length < 281474976710656) (hp : ∀ a ∈ l, PCalls Try.prog g (encKd a :: caps) (.bool (p a))) :
    PCalls Try.prog 94 [encL 3 encKd l, fn g caps] (.int .i64 (idxF p l 0)) := by
  refine acalls_of Try.func94 (by unfold Try.f94; rfl) (by kernel_rfl) (by kernel_rfl) ?_
  have h1 : True := trivial
  simp only [awp_seq]
  simp only [argSlots]
  dsimp only [Try.f94]
  simp only [go_sem]
  refine loop_of (fun m τ σ => ∃ i : Nat, i ≤ l.length ∧ m = l.length - i ∧ idxF p (l.drop i) i = idxF p l 0 ∧ τ = [(8, .int .i64 i), (7, .int .i64 l.length), (0, encL 3 encKd l), (1, fn g caps)] ∧ σ = []) l.length _ [] (wk_of (fun _ => False) ?_ (WkH.none _ _)) ⟨0, Nat.zero_le _, rfl, rfl, rfl, rfl⟩ ?_
  · simp only [go_sem]
    exact .same _
  rintro m τ σ ⟨i, hi, rfl, hinv, rfl, rfl⟩
  simp only [go_sem]
  refine ⟨fun ht => ?_, fun hf => ?_⟩
  · simp only [decide_eq_true_eq] at ht
    have hlt : i < l.length := by omega
    have hj : ((i : Int)).toNat = i := Int.toNat_natCast i
    simp only [hj]
    refine ⟨by omega, call_p (fun _ => False) (hp _ (getD_mem hlt)) (Lend.refl _ _ _) trivial ?_⟩
    rw [drop_get hlt] at hinv
    refine ⟨fun hp1 => ?_, fun hp1 => ?_⟩
    · simp only [idxF, hp1, if_true] at hinv
      rw [← hinv]; simp only [go_sem]
    · simp only [idxF, hp1, Bool.false_eq_true, if_false] at hinv
      refine ⟨l.length - (i + 1), _, _, wk_of (fun _ => False) ?_ (WkH.none _ _), ⟨i + 1, by omega, rfl, ?_, rfl, rfl⟩, by omega⟩
      · rw [W64 (by omega) (by omega)]; simp only [go_sem]; exact .same _
      · rw [← hinv]; rfl
  · simp only [decide_eq_false_iff_not] at hf
    have : i = l.length := by omega
    rw [this, List.drop_length] at hinv
    rw [← hinv]; simp only [idxF, go_sem]
def kindAtF (p : Pn) (name : ByteArray) : Int := idxF (fun k => decide (k.name = name)) p.kinds 0
theorem kindAt_c (p : Pn) (name : ByteArray) (hl : p.kinds.length < 281474976710656) : PCalls Try.prog 46 [encPn p, .str name] (.int .i64 (kindAtF p name)) := by
  refine acalls_of Try.func46 (by unfold Try.f46; rfl) (by kernel_rfl) (by kernel_rfl) ?_
  have h1 : True := trivial
  simp only [awp_seq]
  simp only [argSlots]
  dsimp only [Try.f46]
  simp only [go_sem]
  intro b hb b2 hb2
  simp only [go_sem] at hb2
  simp only [hb2, go_sem]
  refine call_p (fun _ => True) (indexFunc_Kd _ _ [.iptr (.str name) 0] _ hl fun a _ => kindAt1_c a name) ?_ trivial ?_
  · exact ⟨.same _, wkv_fn (by simp [AVal.leaf]) ⟨wkv_ptr (r := ⟨1, 1, 1, fun _ => .str name⟩) trivial (by simp only [go_sem]) rfl Nat.one_pos rfl rfl, trivial⟩, trivial⟩
  · unfold kindAtF; simp only [go_sem]
theorem sizeOf_c (k : Kd) (q : Int) : PCalls Try.prog 62 [encKd k, .int .i64 q] (tup [.int .i64 (if q.tmod 2 = 1 then k.h else k.w), .int .i64 (if q.tmod 2 = 1 then k.w else k.h)]) := by
  refine acalls_of Try.func62 (by unfold Try.f62; rfl) (by kernel_rfl) (by kernel_rfl) ?_
  have h1 : True := trivial
  simp only [awp_seq]
  simp only [argSlots]
  dsimp only [Try.f62]
  simp only [go_sem]
  intro b hb
  refine ⟨by decide, fun ht => ?_, fun ht => ?_⟩
  · simp only [decide_eq_true_eq] at ht; simp only [if_pos ht, go_sem]
  · simp only [decide_eq_false_iff_not] at ht; simp only [if_neg ht, go_sem]
def sizeOfF (k : Kd) (q : Int) : Int × Int := (if q.tmod 2 = 1 then k.h else k.w, if q.tmod 2 = 1 then k.w else k.h)
def cellOfF (p : Pn) (s : Sl) : Rc :=
  let k := p.kinds.getD (kindAtF p s.board).toNat default
  ⟨s.at_.x, s.at_.y, s.at_.x + (sizeOfF k s.q).1, s.at_.y + (sizeOfF k s.q).2⟩
theorem cellOf_c (p : Pn) (s : Sl) (hl : p.kinds.length < 281474976710656) (hk : 0 ≤ kindAtF p s.board) (hk2 : kindAtF p s.board < p.kinds.length) (hx : Sm s.at_.x) (hy : Sm s.at_.y)
    (hs : ∀ k ∈ p.kinds, Sm k.w ∧ Sm k.h) : PCalls Try.prog 127 [encPn p, encSl s] (encRc (cellOfF p s)) := by
  refine acalls_of Try.func127 (by unfold Try.f127; rfl) (by kernel_rfl) (by kernel_rfl) ?_
  have h1 : True := trivial
  simp only [awp_seq]
  simp only [argSlots]
  dsimp only [Try.f127]
  simp only [go_sem]
  intro b hb b2 hb2 b3 hb3
  simp only [go_sem] at hb2 hb3
  simp only [hb2, hb3, go_sem]
  refine qcall_p (fun _ => False) (fun _ => kindAt_c p _ hl) (fun _ => Lend.refl _ _ _) trivial ?_
  simp only [hb2, hb3, go_sem]
  refine ⟨⟨hk, hk2⟩, qcall_p (fun _ => False) (fun _ => sizeOf_c _ _) (fun _ => Lend.refl _ _ _) ?_ ?_⟩
  · intro j hj; rcases j with _ | _ | j <;> first | trivial | (simp at hj; omega)
  simp only [hb2, hb3, go_sem]
  have hkm := hs _ (getD_mem (l := p.kinds) (i := (kindAtF p s.board).toNat) (by omega))
  generalize hg : p.kinds.getD (kindAtF p s.board).toNat default = k at *
  have hw : Sm (if s.q.tmod 2 = 1 then k.h else k.w) := by split; exact hkm.2; exact hkm.1
  have hh : Sm (if s.q.tmod 2 = 1 then k.w else k.h) := by split; exact hkm.1; exact hkm.2
  unfold Sm at hx hy hw hh
  rw [W64 (by omega) (by omega), W64 (by omega) (by omega)]
  refine ⟨fun _ => False, ?_⟩
  unfold cellOfF sizeOfF
  simp only [hg]
  exact .same _
def byteAt (s : ByteArray) (i : Nat) : Int := ((s.data.getD i 0).toNat : Int)
def okByte (i : Nat) (c : Int) : Bool := (decide (97 ≤ c) && decide (c ≤ 122) || decide (65 ≤ c) && decide (c ≤ 90)) || (!decide (i = 0) && ((decide (48 ≤ c) && decide (c ≤ 57)) || decide (c = 95) || decide (c = 45)))
def isNameF (s : ByteArray) : Bool := (List.range s.size).all (fun i => okByte i (byteAt s i)) && (decide (1 ≤ (s.size : Int)) && decide ((s.size : Int) ≤ 40))
theorem isName_no {s : ByteArray} {i : Nat} (hi : i < s.size) (h : okByte i (byteAt s i) = false) : isNameF s = false := by
  have : (List.range s.size).all (fun i => okByte i (byteAt s i)) = false := by
    rw [List.all_eq_false]; exact ⟨i, List.mem_range.2 hi, by simp [h]⟩
  simp [isNameF, this]
theorem isName_yes {s : ByteArray} (h : ∀ k, k < s.size → okByte k (byteAt s k) = true) : isNameF s = (decide (1 ≤ (s.size : Int)) && decide ((s.size : Int) ≤ 40)) := by
  have : (List.range s.size).all (fun i => okByte i (byteAt s i)) = true := by
    rw [List.all_eq_true]; exact fun i hi => h i (List.mem_range.1 hi)
  simp [isNameF, this]
theorem isName_c (s : ByteArray) (hs : s.size < 281474976710656) : PCalls Try.prog 126 [.str s] (.bool (isNameF s)) := by
  refine acalls_of Try.func126 (by unfold Try.f126; rfl) (by kernel_rfl) (by kernel_rfl) ?_
  have h1 : True := trivial
  simp only [awp_seq]
  simp only [argSlots]
  dsimp only [Try.f126]
  simp only [go_sem]
  refine loop_of (fun m τ σ => ∃ i : Nat, i ≤ s.size ∧ m = s.size - i ∧ (∀ k < i, okByte k (byteAt s k) = true) ∧ τ = [(8, .int .i64 i), (7, .int .i64 s.size), (0, .str s)] ∧ σ = []) s.size _ [] (wk_of (fun _ => False) ?_ (WkH.none _ _)) ⟨0, Nat.zero_le _, rfl, nofun, rfl, rfl⟩ ?_
  · simp only [go_sem]
    exact .same _
  rintro m τ σ ⟨i, hi, rfl, hinv, rfl, rfl⟩
  simp only [go_sem]
  refine ⟨fun ht => ?_, fun hf => ?_⟩
  · simp only [decide_eq_true_eq] at ht
    have hlt : i < s.size := by omega
    simp only [Int.toNat_natCast]
    have hc : ((s.data.getD i 0).toNat : Int) = byteAt s i := rfl
    simp only [hc]
    have hok : okByte i (byteAt s i) = (decide (97 ≤ byteAt s i) && decide (byteAt s i ≤ 122) || decide (65 ≤ byteAt s i) && decide (byteAt s i ≤ 90) || (!decide (((i : Int)) = 0) && ((decide (48 ≤ byteAt s i) && decide (byteAt s i ≤ 57)) || decide (byteAt s i = 95) || decide (byteAt s i = 45)))) := by
      have : decide (i = 0) = decide ((i : Int) = 0) := by simp
      simp only [okByte, this]
    have hno := @isName_no s i hlt
    generalize hcb : byteAt s i = c at *
    refine ⟨by omega, ?_, ?_, ?_⟩
    · simp only [Bool.and_eq_true, Bool.or_eq_true, Bool.not_eq_true', Bool.not_eq_false', Bool.and_eq_false_imp, Bool.or_eq_false_iff, decide_eq_true_eq, decide_eq_false_iff_not]; omega
    · simp only [Bool.and_eq_true, Bool.or_eq_true, Bool.not_eq_true', Bool.not_eq_false', Bool.and_eq_false_imp, Bool.or_eq_false_iff, decide_eq_true_eq, decide_eq_false_iff_not]; omega
    refine ⟨fun hb => ?_, fun hb => ?_⟩
    · rw [hno (by rw [hok]; revert hb; simp only [Bool.and_eq_true, Bool.or_eq_true, Bool.not_eq_true', Bool.not_eq_false', Bool.and_eq_false_imp, Bool.or_eq_false_iff, decide_eq_true_eq, decide_eq_false_iff_not]; omega)]
      simp only [go_sem]
    · refine ⟨s.size - (i + 1), _, _, wk_of (fun _ => False) ?_ (WkH.none _ _), ⟨i + 1, by omega, rfl, fun k hk => ?_, rfl, rfl⟩, by omega⟩
      · rw [W64 (by omega) (by omega)]; simp only [go_sem]; exact .same _
      · by_cases hki : k = i
        · subst hki
          rw [hcb, hok]; revert hb; simp only [Bool.and_eq_true, Bool.or_eq_true, Bool.not_eq_true', Bool.not_eq_false', Bool.and_eq_false_imp, Bool.or_eq_false_iff, decide_eq_true_eq, decide_eq_false_iff_not]; omega
        · exact hinv k (by omega)
  · simp only [decide_eq_false_iff_not] at hf
    have hi : i = s.size := by omega
    subst hi
    rw [isName_yes hinv]
    simp only [go_sem]
end Go.Aw
