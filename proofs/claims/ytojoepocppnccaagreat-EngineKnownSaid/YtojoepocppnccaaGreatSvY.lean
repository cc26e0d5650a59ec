/- A second evaluator for the model's code: lists of pairs of numbers, lists of numbers. -/
import Derived.Test.YtojoepocppnccaaGreatSvW
namespace Go.Sv
noncomputable section
universe u
open Go.RowKit
variable {P : Program}

def kf (xs : List (Int × Int)) (i : Nat) : List AV := [.int .i64 (xs.getD i (0, 0)).1, .int .i64 (xs.getD i (0, 0)).2]
def pairA : List AV → Int × Int
  | [.int .i64 a, .int .i64 b] => (a, b)
  | _ => (0, 0)
def pairOk : List AV → Bool
  | [.int .i64 _, .int .i64 _] => true
  | _ => false
/-- The pairs of a list of the evaluator. -/
def kl (f : Nat → List AV) (n : Nat) (us : List (Nat × List AV)) : List (Int × Int) := (List.range n).map fun i => pairA (elt us f i)
def okL (f : Nat → List AV) (n : Nat) (us : List (Nat × List AV)) : Bool := (List.range n).all fun i => pairOk (elt us f i)
theorem kl_length {f : Nat → List AV} {n : Nat} {us : List (Nat × List AV)} : (kl f n us).length = n := by simp [kl]
theorem pair_eq {c : List AV} (h : pairOk c = true) : c = [.int .i64 (pairA c).1, .int .i64 (pairA c).2] := by
  unfold pairOk at h
  split at h
  · rfl
  · cases h
theorem kf_kl {f : Nat → List AV} {n : Nat} {us : List (Nat × List AV)} (h : okL f n us = true) {i : Nat} (hi : i < n) : kf (kl f n us) i = elt us f i := by
  have h1 : pairOk (elt us f i) = true := List.all_eq_true.1 h i (List.mem_range.2 hi)
  have h2 : (kl f n us).getD i (0, 0) = pairA (elt us f i) := by
    rw [List.getD_eq_getElem?_getD, List.getElem?_eq_getElem (by simpa [kl] using hi)]
    simp [kl]
  unfold kf
  rw [h2]
  exact (pair_eq h1).symm
theorem kl_kf (xs : List (Int × Int)) : kl (kf xs) xs.length [] = xs := by
  refine List.ext_getElem (by simp [kl]) fun i h1 h2 => ?_
  simp [kl, elt, kf, pairA, List.getD_eq_getElem?_getD, List.getElem?_eq_getElem h2]
theorem okL_kf (xs : List (Int × Int)) (n : Nat) : okL (kf xs) n [] = true := List.all_eq_true.2 fun _ _ => rfl
theorem VRel.lst_ext {κ : Kap} {w n : Nat} {f g : Nat → List AV} {us vs : List (Nat × List AV)} {y : Value} (he : ∀ i, i < n → elt vs g i = elt us f i) (r : VRel κ (.lst w f n us) y) : VRel κ (.lst w g n vs) y := by
  cases r with
  | lst _ _ b off cap _ _ cs h1 h2 h3 ho h4 h5 _ => exact .lst w n b off cap g vs cs h1 h2 h3 ho (fun i hi => by rw [he i hi]; exact h4 i hi) (fun i hi => by rw [he i hi]; exact h5 i hi) .nil
  | lst0 _ cap _ _ a _ => exact .lst0 w cap g vs a .nil
theorem VRel.pairs {κ : Kap} {n : Nat} {f : Nat → List AV} {us : List (Nat × List AV)} {y : Value} (h : okL f n us = true) (r : VRel κ (.lst 2 f n us) y) : VRel κ (.lst 2 (kf (kl f n us)) n []) y := r.lst_ext fun _ hi => kf_kl h hi
theorem CRel.cons_map {κ : Kap} {x x' : AV} {xs xs' : List AV} {ys : List Value} (h1 : ∀ y, VRel κ x y → VRel κ x' y) (h2 : ∀ ys, CRel κ xs ys → CRel κ xs' ys) (ha : isArr x = false) (r : CRel κ (x :: xs) ys) : CRel κ (x' :: xs') ys := by
  obtain ⟨y, zs, rfl, r1, r2⟩ := r.head ha
  exact CRel.append (h1 y r1) (h2 zs r2)
theorem SoundFn.args {g : FuncId} {vs vs' : List AV} {st st' : AS} {v : AV} (h : SoundFn P g vs' st v st') (hv : ∀ κ us, CRel κ vs us → CRel κ vs' us) : SoundFn P g vs st v st' := fun κ us w hl hR => h κ us w (hv κ us hl) hR

/-! ### lists of numbers -/
def nf (xs : List Int) (i : Nat) : List AV := [.int .i64 (xs.getD i 0)]
def numA : List AV → Int
  | [.int .i64 a] => a
  | _ => 0
def numOk : List AV → Bool
  | [.int .i64 _] => true
  | _ => false
def nl (f : Nat → List AV) (n : Nat) (us : List (Nat × List AV)) : List Int := (List.range n).map fun i => numA (elt us f i)
def okN (f : Nat → List AV) (n : Nat) (us : List (Nat × List AV)) : Bool := (List.range n).all fun i => numOk (elt us f i)
theorem nl_length {f : Nat → List AV} {n : Nat} {us : List (Nat × List AV)} : (nl f n us).length = n := by simp [nl]
theorem num_eq {c : List AV} (h : numOk c = true) : c = [.int .i64 (numA c)] := by
  unfold numOk at h
  split at h
  · rfl
  · cases h
theorem nf_nl {f : Nat → List AV} {n : Nat} {us : List (Nat × List AV)} (h : okN f n us = true) {i : Nat} (hi : i < n) : nf (nl f n us) i = elt us f i := by
  have h1 : numOk (elt us f i) = true := List.all_eq_true.1 h i (List.mem_range.2 hi)
  have h2 : (nl f n us).getD i 0 = numA (elt us f i) := by
    rw [List.getD_eq_getElem?_getD, List.getElem?_eq_getElem (by simpa [nl] using hi)]
    simp [nl]
  unfold nf
  rw [h2]
  exact (num_eq h1).symm
theorem nl_nf (xs : List Int) : nl (nf xs) xs.length [] = xs := by
  refine List.ext_getElem (by simp [nl]) fun i h1 h2 => ?_
  simp [nl, elt, nf, numA, List.getD_eq_getElem?_getD, List.getElem?_eq_getElem h2]
theorem okN_nf (xs : List Int) (n : Nat) : okN (nf xs) n [] = true := List.all_eq_true.2 fun _ _ => rfl
theorem VRel.nums {κ : Kap} {n : Nat} {f : Nat → List AV} {us : List (Nat × List AV)} {y : Value} (h : okN f n us = true) (r : VRel κ (.lst 1 f n us) y) : VRel κ (.lst 1 (nf (nl f n us)) n []) y := r.lst_ext fun _ hi => nf_nl h hi
theorem getD_of {α : Type} {xs : List α} {i : Nat} {d : α} {x : α} {r : List α} (h : xs.drop i = x :: r) : xs.getD i d = x ∧ xs.drop (i + 1) = r ∧ i < xs.length := by
  have h1 : i < xs.length := by
    rcases Nat.lt_or_ge i xs.length with h' | h'
    · exact h'
    · rw [List.drop_eq_nil_of_le h'] at h; cases h
  rw [List.drop_eq_getElem_cons h1] at h
  simp only [List.cons.injEq] at h
  exact ⟨by rw [List.getD_eq_getElem?_getD, List.getElem?_eq_getElem h1, ← h.1]; rfl, h.2, h1⟩
theorem drop_getD {α : Type} {ys : List α} {i : Nat} {d : α} (h : i < ys.length) : ys.drop i = ys.getD i d :: ys.drop (i + 1) := by
  rw [List.drop_eq_getElem_cons h]
  congr 1
  rw [List.getD_eq_getElem?_getD, List.getElem?_eq_getElem h]; rfl
theorem cond_cases {α : Type} {c : Bool} {a b r : α} (h1 : c = true → a = r) (h2 : c = false → b = r) : (bif c then a else b) = r := by
  cases c
  · exact h2 rfl
  · exact h1 rfl

/-! ### a loop over a list -/
def foldX {σ α β : Type} (step : σ → α → σ ⊕ β) : σ → List α → σ ⊕ β
  | s, [] => .inl s
  | s, x :: r => match step s x with
    | .inl s' => foldX step s' r
    | .inr b => .inr b
/-- How a piece of code ends. -/
structure Fin3 where
  e : EK
  E : Env
  st : AS
def fork {σ β : Type} {γ : Sort u} (f : σ → γ) (g : β → γ) : σ ⊕ β → γ
  | .inl a => f a
  | .inr b => g b
theorem loop_fold {σ α β : Type} {nb sz : Nat} {b : Code} (step : σ → α → σ ⊕ β) (xs : List α) (d : α) (Inv : Nat → σ → Prop) (A : Nat → σ → Env × AS) (fin : σ → Fin3) (out : β → Fin3)
    (h1 : ∀ i s, Inv i s → i < xs.length → fork (fun s' => Inv (i + 1) s' ∧ CodeOk P nb sz b (A i s).1 (A i s).2 .normal (A (i + 1) s').1 (A (i + 1) s').2) (fun o => CodeOk P nb sz b (A i s).1 (A i s).2 (out o).e (out o).E (out o).st) (step s (xs.getD i d)))
    (h2 : ∀ s, Inv xs.length s → CodeOk P nb sz b (A xs.length s).1 (A xs.length s).2 (fin s).e (fin s).E (fin s).st) (hf : ∀ s, (fin s).e ≠ .normal) (ho : ∀ o, (out o).e ≠ .normal) :
    ∀ (r : List α) (i : Nat) (s : σ), Inv i s → xs.drop i = r → i ≤ xs.length → LoopOk P nb sz b (A i s).1 (A i s).2 (fork fin out (foldX step s r)).e (fork fin out (foldX step s r)).E (fork fin out (foldX step s r)).st
  | [], i, s, hI, hr, hi => by
    have hi' : i = xs.length := by
      have := congrArg List.length hr
      simp at this; omega
    subst hi'
    exact .last (h2 s hI) (hf s)
  | x :: r, i, s, hI, hr, hi => by
    obtain ⟨g1, g2, g3⟩ := getD_of (d := d) hr
    have h := h1 i s hI g3
    rw [g1] at h
    simp only [foldX]
    cases hs : step s x with
    | inl s' =>
      rw [hs] at h
      exact .round h.2 (loop_fold step xs d Inv A fin out h1 h2 hf ho r (i + 1) s' h.1 g2 g3)
    | inr o =>
      rw [hs] at h
      exact .last h (ho o)
theorem wrapNat {i : Nat} (h : i < 9223372036854775807) : IntKind.i64.wrap (Int.ofNat (i + 1)) = Int.ofNat (i + 1) := by
  have : (Int.ofNat (i + 1) : Int) = (i : Int) + 1 := rfl
  rw [this]; simp [IntKind.wrap, IntKind.bits, IntKind.signed]; omega
theorem dec_lt {i n : Nat} (h : i < n) : decide (Int.ofNat i < Int.ofNat n) = true := by simp; omega
theorem dec_lt' {i n : Nat} (h : i < n) : decide (Int.ofNat i < (n : Int)) = true := dec_lt h
theorem dec_nlt {n : Nat} : decide (Int.ofNat n < Int.ofNat n) = false := by simp
theorem dec_nlt' {n : Nat} : decide (Int.ofNat n < (n : Int)) = false := dec_nlt
end
end Go.Sv
