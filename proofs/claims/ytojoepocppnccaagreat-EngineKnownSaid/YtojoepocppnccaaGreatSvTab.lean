/- A second evaluator for the model's code: contracts by a table: what a function comes to where it is handed just these values. -/
import Derived.Test.YtojoepocppnccaaGreatSvMemo
namespace Go.Sv
noncomputable section
open Go.RowKit
variable {P : Program}

/-! ### the same values -/
def eqA : AV → AV → Bool
  | .int k a, .int k' b => decide (k = k') && decide (a = b)
  | .bool a, .bool b => bif a then b else !b
  | _, _ => false
theorem eqA_eq {x y : AV} (h : eqA x y = true) : x = y := by
  unfold eqA at h
  split at h
  · simp only [Bool.and_eq_true, decide_eq_true_eq] at h
    rw [h.1, h.2]
  · rename_i a b
    cases a <;> cases b <;> first | rfl | cases h
  · cases h
def eqAs : List AV → List AV → Bool
  | [], [] => true
  | x :: xs, y :: ys => eqA x y && eqAs xs ys
  | _, _ => false
theorem eqAs_eq : ∀ {xs ys : List AV}, eqAs xs ys = true → xs = ys
  | [], [], _ => rfl
  | x :: xs, y :: ys, h => by
    simp only [eqAs, Bool.and_eq_true] at h
    rw [eqA_eq h.1, eqAs_eq h.2]
  | [], _ :: _, h => by cases h
  | _ :: _, [], h => by cases h
/-- A cell: a number, a list of numbers' structs, nothing. -/
def same1 (x y : AV) : Bool :=
  match x, y with
  | .lst w f n us, .lst w' g n' vs => Nat.beq w w' && (Nat.beq n n' && (List.range n).all fun i => eqAs (elt us f i) (elt vs g i))
  | .raw (.slice none 0 0), .raw (.slice none 0 0) => true
  | x, y => eqA x y
theorem same1_ok {x y : AV} (h : same1 x y = true) {κ : Kap} {us : List Value} (r : CRel κ [x] us) : CRel κ [y] us := by
  unfold same1 at h
  split at h
  · rename_i w f n us1 w' g n' vs1
    simp only [Bool.and_eq_true] at h
    have h1 := Nat.eq_of_beq_eq_true h.1
    have h2 := Nat.eq_of_beq_eq_true h.2.1
    subst h1; subst h2
    have hv : ∃ u, us = [u] := by
      cases r with
      | lst _ _ _ _ _ _ _ _ _ _ _ _ _ _ r => cases r; exact ⟨_, rfl⟩
      | lst0 _ _ _ _ _ r => cases r; exact ⟨_, rfl⟩
    obtain ⟨u, rfl⟩ := hv
    exact VRel.lst_ext (fun i hi => (eqAs_eq (List.all_eq_true.1 h.2.2 i (List.mem_range.2 hi))).symm) r
  · exact r
  · rw [← eqA_eq h]; exact r
def same1s : List AV → List AV → Bool
  | [], [] => true
  | x :: xs, y :: ys => same1 x y && same1s xs ys
  | _, _ => false
theorem same1s_ok : ∀ {xs ys : List AV}, same1s xs ys = true → ∀ {κ : Kap} {us : List Value}, CRel κ xs us → CRel κ ys us
  | [], [], _, _, _, r => r
  | x :: xs, y :: ys, h, κ, us, r => by
    simp only [same1s, Bool.and_eq_true] at h
    obtain ⟨z1, z2, rfl, a1, a2⟩ := r.cons_inv
    have := (same1_ok h.1 a1).append (same1s_ok h.2 a2)
    simpa using this
  | [], _ :: _, h, _, _, _ => by cases h
  | _ :: _, [], h, _, _, _ => by cases h
def sameA (x y : AV) : Bool :=
  match x, y with
  | .agg c, .agg d => same1s c d
  | x, y => same1 x y
theorem sameA_ok {x y : AV} (h : sameA x y = true) {κ : Kap} {us : List Value} (r : CRel κ [x] us) : CRel κ [y] us := by
  unfold sameA at h
  split at h
  · rename_i c d
    cases r with
    | agg _ zs h1 h2 => exact .agg _ zs (same1s_ok h h1) h2
  · exact same1_ok h r
def sameAs : List AV → List AV → Bool
  | [], [] => true
  | x :: xs, y :: ys => sameA x y && sameAs xs ys
  | _, _ => false
theorem sameAs_ok : ∀ {xs ys : List AV}, sameAs xs ys = true → ∀ {κ : Kap} {us : List Value}, CRel κ xs us → CRel κ ys us
  | [], [], _, _, _, r => r
  | x :: xs, y :: ys, h, κ, us, r => by
    simp only [sameAs, Bool.and_eq_true] at h
    obtain ⟨z1, z2, rfl, a1, a2⟩ := r.cons_inv
    have := (sameA_ok h.1 a1).append (sameAs_ok h.2 a2)
    simpa using this
  | [], _ :: _, h, _, _, _ => by cases h
  | _ :: _, [], h, _, _, _ => by cases h

/-! ### tables -/
abbrev Tab := List (List AV × AV)
def pickT : Tab → List AV → Option AV
  | [], _ => none
  | e :: t, vs => bif sameAs vs e.1 then some e.2 else pickT t vs
structure TabEnt (P : Program) (g : FuncId) (e : List AV × AV) : Prop where
  flat : flatV 4 e.2
  sound : SoundFn P g e.1 ⟨0, []⟩ e.2 ⟨0, []⟩
def TabOk (P : Program) (g : FuncId) (t : Tab) : Prop := ∀ e ∈ t, TabEnt P g e
theorem pickT_ok {g : FuncId} : ∀ {t : Tab} {vs : List AV} {v : AV}, TabOk P g t → pickT t vs = some v → flatV 4 v ∧ SoundFn P g vs ⟨0, []⟩ v ⟨0, []⟩
  | [], vs, v, _, h => by cases h
  | e :: t, vs, v, ht, h => by
    simp only [pickT] at h
    cases hb : sameAs vs e.1 with
    | true =>
      rw [hb, cond_true, Option.some.injEq] at h
      subst h
      have := ht e (List.mem_cons_self ..)
      exact ⟨this.flat, this.sound.args fun κ us r => sameAs_ok hb r⟩
    | false =>
      rw [hb, cond_false] at h
      exact pickT_ok (fun e' he => ht e' (List.mem_cons_of_mem _ he)) h
def tabS (t : Tab) : SpecT := fun _ _ vs k => match pickT t vs with
  | some v => k v ⟨0, []⟩
  | none => none
/-- A table ahead of other contracts: it speaks of what it holds alone. -/
def tabK (g0 : FuncId) (t : Tab) (K : KT) : KT := fun R g vs st =>
  bif Nat.beq g g0 then
    match shedsK st.mem vs (fun vs' _ => pickT t vs') with
    | some _ => specK (addHas g0 has0) (tabS t) R g vs st
    | none => K R g vs st
  else K R g vs st
theorem tabK_ok {g0 : FuncId} {t : Tab} (ht : TabOk P g0 t) {K : KT} (hK : KOk P K) : KOk P (tabK g0 t K) := fun R g vs st F hF k r hk => by
  unfold tabK at hF
  cases hb : Nat.beq g g0 with
  | false => rw [hb, cond_false] at hF; exact hK R g vs st F hF k r hk
  | true =>
    rw [hb, cond_true] at hF
    split at hF
    · refine specK_ok (P := P) (has := addHas g0 has0) (S := tabS t) (fun R g vs k r hg h => ?_) R g vs st F hF k r hk
      have e : g = g0 := by
        unfold addHas at hg
        cases hb' : Nat.beq g g0 with
        | true => exact Nat.eq_of_beq_eq_true hb'
        | false => rw [hb', cond_false] at hg; cases hg
      subst e
      unfold tabS at h
      split at h
      · rename_i v hv
        obtain ⟨h1, h2⟩ := pickT_ok ht hv
        exact ⟨v, _, h, ⟨h1, fun p hp => by cases hp⟩, h2⟩
      · cases h
    · exact hK R g vs st F hF k r hk
/-- An answer of numbers. -/
def isV (o : Option (AV × AS)) (c : List AV) : Nat :=
  match o with
  | some (.tup d, _) => bif eqAs d c then 1 else 0
  | _ => 0
def isV1 (o : Option (AV × AS)) (c : AV) : Nat :=
  match o with
  | some (d, _) => bif eqA d c then 1 else 0
  | _ => 0
def numsB (c : List AV) : Bool := c.all fun x => match x with
  | .int _ _ => true
  | .bool _ => true
  | _ => false
theorem apart_sound (hP : ProgOk P) (hr : RegsOk P) {K : KT} (hK : KOk P K) {L : LT} (hL : LOk P L) {fuel : Nat} {g : FuncId} {vs : List AV} {v : AV} {st : AS} (ha : vs.all (fun x => !isArr x) = true) (h : apart P K L fuel g vs = some (v, st)) : SoundFn P g vs ⟨0, []⟩ v st := by
  unfold apart at h
  rw [evFnF_eq] at h
  obtain ⟨v', st', hk, _, hs⟩ := evFn_ok hP hK hL (regB_ok hP hr) ha h
  obtain ⟨kept, m, hm, h1, h2⟩ := gcK_some hk
  simp only [keepR, Option.some.injEq, Prod.mk.injEq] at hm
  obtain ⟨rfl, rfl⟩ := hm
  exact hs.sub fun n x e => by
    rw [h2] at e
    cases hkn : find kept n with
    | some y => rw [hkn] at e; cases e; exact h1 n _ hkn
    | none => rw [hkn] at e; simp [find] at e
theorem ent_ok (hP : ProgOk P) (hr : RegsOk P) {K : KT} (hK : KOk P K) {L : LT} (hL : LOk P L) {fuel : Nat} {g : FuncId} {vs : List AV} {c : List AV} (ha : vs.all (fun x => !isArr x) = true) (hn : numsB c = true) (hp : plainA (.tup c) = true) (h : Nat.beq (isV (apart P K L fuel g vs) c) 1 = true) : TabEnt P g (vs, .tup c) := by
  unfold isV at h
  split at h
  · rename_i d st hd
    cases hb : eqAs d c with
    | false => rw [hb] at h; cases h
    | true =>
      have e := eqAs_eq hb
      subst e
      refine ⟨fun x hx => ?_, (apart_sound hP hr hK hL ha hd).forget hp⟩
      have := List.all_eq_true.1 hn x hx
      cases x <;> first | trivial | cases this
  · cases h
end
end Go.Sv
