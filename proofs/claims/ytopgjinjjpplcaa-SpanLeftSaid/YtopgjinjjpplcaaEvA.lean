/- From an evaluation to what a call comes to; and what arguments of flat types are. -/
import Derived.Test.YtopgjinjjpplcaaEv9
import Derived.ProofKit
import Derived.WalkKit
import Derived.OpenShut
import Derived.Carry
namespace Go.Ev
open Go.RowKit Go.ChangeShapes Go.WideShapes
variable {P : Program}

def st0 : AS := ⟨0, []⟩
/-- What is handed on: the value alone. -/
def ret (v : Value) (_ : AS) : Option Value := some v

/-- A call of plain values that comes to a plain one, whatever the memory. -/
def PureFn (P : Program) (g : FuncId) (vs : List Value) (v : Value) : Prop :=
  ∀ w : World, Calls P g vs.toArray w fun e w' => e = .returned v ∧ Below w.heap.size w w'

theorem rel0 (w : World) : Rel (fun _ => none) w.heap.size st0 w :=
  ⟨fun _ _ => rfl, Nat.le_refl _, fun n r hn => by simp [st0, find] at hn, fun n n' r r' l l' hn => by simp [st0, find] at hn⟩

theorem lrel_plain {ι : Inj} {vs : List Value} (h : vs.all plain = true) : LRel ι vs vs :=
  ⟨rfl, fun i x y hx hy => by
    rw [hx] at hy
    obtain rfl := Option.some.inj hy
    exact .plain _ (List.all_eq_true.1 h x (List.mem_of_getElem? hx))⟩

theorem lrel_plain_eq {ι : Inj} {vs us : List Value} (h : vs.all plain = true) (hl : LRel ι vs us) : us = vs :=
  (LRel.eq_of hl fun j x y hx hy => ((hl.2 j x y hx hy).eq_of_plain (List.all_eq_true.1 h x (List.mem_of_getElem? hx))).symm).symm

/-- What is asked of a program once. -/
structure ProgOk (P : Program) : Prop where
  flat : FlatOk P
  funcs : FuncsOk P
  names : ∀ (g : Nat) (fn : Func), P.funcs[g]? = some fn → (fn.name == "runtime.NumGoroutine") = false
  orders : P.follows .mixedOrders = true

theorem progOk {P : Program} (h1 : flatT.all (fun t => !(P.stoodInHeld t) && !(P.eqGuardType P.depth t)) = true) (h2 : P.funcs.toList.all funcOk = true) (h3 : P.funcs.toList.all (fun fn => !(fn.name == "runtime.NumGoroutine")) = true) (h4 : P.follows .mixedOrders = true) : ProgOk P := by
  refine ⟨fun t ht => ?_, fun g fn hg => ?_, fun g fn hg => ?_, h4⟩
  · have : t ∈ flatT := by
      revert ht
      generalize flatT = l
      intro ht
      induction l with
      | nil => cases ht
      | cons x xs ih =>
        simp only [memN] at ht
        cases e : Nat.beq x t
        · rw [e, cond_false] at ht; exact List.mem_cons_of_mem _ (ih ht)
        · have := Nat.eq_of_beq_eq_true e; subst this; exact List.mem_cons_self ..
    have := List.all_eq_true.1 h1 t this
    simpa using this
  · exact List.all_eq_true.1 h2 fn (List.mem_of_getElem? (i := g) (by simpa using hg))
  · have := List.all_eq_true.1 h3 fn (List.mem_of_getElem? (i := g) (by simpa using hg))
    simpa using this

theorem pure_of_ev (hP : ProgOk P) {K : KT} (hK : KOk P K) {fuel : Nat} {g : FuncId} {vs : List Value} {v : Value}
    (hp : vs.all plain = true) (hv : plain v = true) (h : evFn P K (regB P) fuel g vs st0 ret = some v) : PureFn P g vs v := by
  intro w
  obtain ⟨v', st', hr, hs⟩ := evFn_ok hP.flat hP.funcs hP.names hK (regB_ok hP.flat hP.names hP.orders) h
  obtain rfl : v' = v := Option.some.inj hr
  refine (hs (fun _ => none) w.heap.size vs w (lrel_plain hp) (rel0 w)).mono fun e w' he => ?_
  obtain ⟨ι', u, _, rfl, hu, _, hb⟩ := he
  rw [hu.eq_of_plain hv]
  exact ⟨rfl, hb⟩

/-- It may be used in any evaluation. -/
theorem PureFn.sound {g : FuncId} {vs : List Value} {v : Value} (hp : vs.all plain = true) (hv : plain v = true) (h : PureFn P g vs v) (st : AS) : SoundFn P g vs st v st := by
  intro ι B us w hl hR
  rw [lrel_plain_eq hp hl]
  refine (h w).mono fun e w' he => ?_
  obtain ⟨rfl, hb⟩ := he
  exact ⟨ι, v, Inj.le_refl ι, rfl, .plain v hv, hR.below hb, hb.mono hR.mem.low⟩

def K0 : KT := fun _ _ _ _ => none
theorem k0_ok : KOk P K0 := fun R g vs st F h => by simp [K0] at h

/-! ### arguments of flat types -/
inductive Sc where
  | bool
  | int (k : IntKind)
  | str

def ScOk : Sc → Value → Prop
  | .bool, .bool _ => True
  | .int k, .int k' n => k' = k ∧ (Lit.int k n).wf = true
  | .str, .string s => s.size ≤ maxLen
  | _, _ => False

def Fits : List Sc → List Value → Prop
  | [], [] => True
  | k :: ks, v :: vs => ScOk k v ∧ Fits ks vs
  | _, _ => False

theorem Fits.append : ∀ {a b : List Sc} {x y : List Value}, Fits a x → Fits b y → Fits (a ++ b) (x ++ y)
  | [], _, [], _, _, h => h
  | [], _, _ :: _, _, h, _ => h.elim
  | _ :: _, _, [], _, h, _ => h.elim
  | _ :: _, _, _ :: _, _, h, h' => ⟨h.1, h.2.append h'⟩

theorem Fits.length : ∀ {a : List Sc} {x : List Value}, Fits a x → a.length = x.length
  | [], [], _ => rfl
  | [], _ :: _, h => h.elim
  | _ :: _, [], h => h.elim
  | _ :: a, _ :: x, h => by simp [h.2.length]

def scFields (P : Program) (rec : TypeId → Option (List Sc)) : Nat → List Field → Option (List Sc)
  | _, [] => some []
  | off, f :: fs =>
    match rec f.type with
    | some ks => bif Nat.beq f.offset off && Nat.beq ks.length (P.cellsOf f.type) then
        match scFields P rec (off + ks.length) fs with
        | some r => some (ks ++ r)
        | none => none
      else none
    | none => none

def scals (P : Program) : Nat → TypeId → Option (List Sc)
  | 0, _ => none
  | n + 1, t =>
    match P.underlying t with
    | some .bool => some [.bool]
    | some (.int k) => some [.int k]
    | some .string => some [.str]
    | some (.struct fs) =>
      match scFields P (scals P n) 0 fs.toList with
      | some ks => bif Nat.beq ks.length (P.cellsOf t) then some ks else none
      | none => none
    | _ => none

section
variable {H : Type} {enc : TypeId × Value → H} {w : World} {base : Nat} {spare : Nat → Bool} {held : Bool}

theorem scFields_fits {n fuel : Nat} (ih : ∀ (t : TypeId) (cs : List Value) (x : DataW H × List MemPlace) (ks : List Sc), scals P n t = some ks → DataW.trod enc P w base spare held fuel t cs = some x → Fits ks cs) (cs : List Value) :
    ∀ (fs : List Field) (off : Nat) (ks : List Sc) (xs : List (DataW H × List MemPlace)), scFields P (scals P n) off fs = some ks →
      (fs.mapM fun f => DataW.trod enc P w base spare held fuel f.type ((cs.drop f.offset).take (P.cellsOf f.type))) = some xs → Fits ks ((cs.drop off).take ks.length)
  | [], off, ks, xs, h, _ => by
    simp only [scFields, Option.some.injEq] at h
    subst h
    simp [Fits]
  | f :: fs, off, ks, xs, h, hx => by
    simp only [scFields] at h
    split at h
    · rename_i k1 hk1
      obtain ⟨hb, h⟩ := cond_some h
      simp only [Bool.and_eq_true] at hb
      have ho := Nat.eq_of_beq_eq_true hb.1
      have hc := Nat.eq_of_beq_eq_true hb.2
      split at h
      · rename_i k2 hk2
        simp only [Option.some.injEq] at h
        subst h
        rw [List.mapM_cons] at hx
        cases h1 : DataW.trod enc P w base spare held fuel f.type ((cs.drop f.offset).take (P.cellsOf f.type)) with
        | none => rw [h1] at hx; cases hx
        | some x1 =>
          rw [h1] at hx
          cases h2 : (fs.mapM fun f => DataW.trod enc P w base spare held fuel f.type ((cs.drop f.offset).take (P.cellsOf f.type))) with
          | none => rw [h2] at hx; cases hx
          | some x2 =>
            have f1 := ih _ _ _ _ hk1 h1
            have f2 := scFields_fits ih cs fs _ _ _ hk2 h2
            rw [ho, ← hc] at f1
            have := f1.append f2
            have e : (cs.drop off).take (k1 ++ k2).length = (cs.drop off).take k1.length ++ (cs.drop (off + k1.length)).take k2.length := by
              rw [List.length_append, List.take_add, List.drop_drop]
            rw [e]
            exact this
      · cases h
    · cases h

theorem scals_fits : ∀ (n fuel : Nat) (t : TypeId) (cs : List Value) (x : DataW H × List MemPlace) (ks : List Sc), scals P n t = some ks → DataW.trod enc P w base spare held fuel t cs = some x → Fits ks cs
  | 0, _, _, _, _, _, h, _ => by simp [scals] at h
  | n + 1, 0, t, cs, x, ks, _, hx => by simp [DataW.trod] at hx
  | n + 1, fuel + 1, t, cs, x, ks, h, hx => by
    simp only [scals] at h
    split at h
    · rename_i hu
      simp only [Option.some.injEq] at h; subst h
      simp only [DataW.trod, hu] at hx
      split at hx <;> first | (cases hx; done) | skip
      all_goals first
        | exact ⟨trivial, trivial⟩
        | (simp_all; done)
    · rename_i k hu
      simp only [Option.some.injEq] at h; subst h
      simp only [DataW.trod, hu] at hx
      split at hx <;> first | (cases hx; done) | skip
      all_goals first
        | (rename_i k' n' heq _; split at hx <;> first | (cases hx; done) | skip; rename_i hk; simp_all [Fits, ScOk])
        | (simp_all; done)
    · rename_i hu
      simp only [Option.some.injEq] at h; subst h
      simp only [DataW.trod, hu] at hx
      split at hx <;> first | (cases hx; done) | skip
      all_goals first
        | (rename_i s heq _; split at hx <;> first | (cases hx; done) | skip; rename_i hk; simp_all [Fits, ScOk])
        | (simp_all; done)
    · rename_i fs hu
      split at h
      · rename_i k1 hk1
        obtain ⟨hb, h⟩ := cond_some h
        simp only [Option.some.injEq] at h; subst h
        have hl := Nat.eq_of_beq_eq_true hb
        have hx' : (if cs.length = P.cellsOf t then (fs.toList.mapM fun f => DataW.trod enc P w base spare held fuel f.type ((cs.drop f.offset).take (P.cellsOf f.type))).map fun xs => (DataW.agg (xs.map (·.1)), xs.flatMap (·.2)) else none) = some x := by
          simpa only [DataW.trod, hu] using hx
        split at hx'
        · rename_i hlen
          cases h2 : (fs.toList.mapM fun f => DataW.trod enc P w base spare held fuel f.type ((cs.drop f.offset).take (P.cellsOf f.type))) with
          | none => rw [h2] at hx'; cases hx'
          | some xs =>
            have := scFields_fits (scals_fits n fuel) cs fs.toList 0 k1 xs hk1 h2
            rw [List.drop_zero, List.take_of_length_le (by rw [hl, hlen]; exact Nat.le_refl _)] at this
            exact this
        · cases hx'
      · cases h
    · cases h

/-- A flat struct that came in. -/
theorem open_flat {r : Reach} {b0 : Nat} {t : TypeId} {fs : Array Field} {v : Value} {d : DataW H} {p : List MemPlace} {ks : List Sc} (hs : P.underlying t = some (.struct fs)) (hk : scals P 9 t = some ks)
    (hv : Value.okWide P w r b0 t v) (h : DataW.Trod enc P w base spare held t v d p) : ∃ cs : List Value, v = .agg ⟨cs⟩ ∧ Fits ks cs := by
  obtain ⟨cs, rfl, _⟩ := okWide_struct hs hv
  obtain ⟨fuel, hf⟩ := h
  exact ⟨cs.toList, by cases cs; rfl, scals_fits 9 fuel t cs.toList _ ks hk (by simpa [Value.cells] using hf)⟩
end

theorem fits_nil {cs : List Value} (h : Fits [] cs) : cs = [] := by
  cases cs with
  | nil => rfl
  | cons _ _ => exact h.elim
theorem fits_int {k : IntKind} {ks : List Sc} {cs : List Value} (h : Fits (.int k :: ks) cs) : ∃ n r, cs = .int k n :: r ∧ (Lit.int k n).wf = true ∧ Fits ks r := by
  cases cs with
  | nil => exact h.elim
  | cons v r =>
    obtain ⟨h1, h2⟩ := h
    cases v with
    | int k' n => obtain ⟨rfl, hw⟩ := h1; exact ⟨n, r, rfl, hw, h2⟩
    | _ => exact h1.elim
theorem fits_bool {ks : List Sc} {cs : List Value} (h : Fits (.bool :: ks) cs) : ∃ b r, cs = .bool b :: r ∧ Fits ks r := by
  cases cs with
  | nil => exact h.elim
  | cons v r =>
    obtain ⟨h1, h2⟩ := h
    cases v with
    | bool b => exact ⟨b, r, rfl, h2⟩
    | _ => exact h1.elim

theorem wf_u64 {n : Int} (h : (Lit.int .u64 n).wf = true) : 0 ≤ n ∧ n < 18446744073709551616 := by
  simp [Lit.wf, IntKind.min, IntKind.max, IntKind.signed, IntKind.bits] at h; omega
theorem wf_u8 {n : Int} (h : (Lit.int .u8 n).wf = true) : 0 ≤ n ∧ n < 256 := by
  simp [Lit.wf, IntKind.min, IntKind.max, IntKind.signed, IntKind.bits] at h; omega
theorem wf_i64 {n : Int} (h : (Lit.int .i64 n).wf = true) : -9223372036854775808 ≤ n ∧ n ≤ 9223372036854775807 := by
  simp [Lit.wf, IntKind.min, IntKind.max, IntKind.signed, IntKind.bits] at h; omega

theorem wrap_u8 (x : Int) : IntKind.wrap .u8 x = x % 256 := by simp [IntKind.wrap, IntKind.bits, IntKind.signed]
theorem wrap_u64 (x : Int) : IntKind.wrap .u64 x = x % 18446744073709551616 := by simp [IntKind.wrap, IntKind.bits, IntKind.signed]
theorem wrap_i64 (x : Int) (h : -9223372036854775808 ≤ x) (h' : x ≤ 9223372036854775807) : IntKind.wrap .i64 x = x := by simp [IntKind.wrap, IntKind.bits, IntKind.signed]; omega

theorem some_congr {b : Bool} {x y : Value} : (bif b then some x else some y) = some (bif b then x else y) := by cases b <;> rfl
end Go.Ev
