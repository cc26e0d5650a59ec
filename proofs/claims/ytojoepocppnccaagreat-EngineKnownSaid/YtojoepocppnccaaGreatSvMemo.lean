/- A second evaluator for the model's code: contracts by evaluation: a function is evaluated apart, on what it is handed; what it hands back is told in rows of its own. -/
import Derived.Test.YtojoepocppnccaaGreatSvX
import Derived.Test.YtojoepocppnccaaGreatSvZ
namespace Go.Sv
noncomputable section
open Go.RowKit
variable {P : Program}

/-! ### values that bear no address of a block that stays, as a check -/
def flatB : Nat → AV → Bool
  | 0, _ => false
  | d + 1, x =>
    match x with
    | .sptr _ _ => false
    | .lst _ _ _ _ => false
    | .agg c => c.all (flatB d)
    | .tup c => c.all (flatB d)
    | .ifc _ x => flatB d x
    | .fn _ a b => a.all (flatB d) && b.all (flatB d)
    | .arr _ n f us => (List.range n).all fun i => (elt us f i).all (flatB d)
    | _ => true
theorem flatB_ok : ∀ (d : Nat) (x : AV), flatB d x = true → flatV d x
  | 0, _, h => by cases h
  | d + 1, x, h => by
    have ih := flatB_ok d
    have hl : ∀ c : List AV, c.all (flatB d) = true → ∀ x ∈ c, flatV d x := fun c hc x hx => ih x (List.all_eq_true.1 hc x hx)
    cases x with
    | sptr _ _ => cases h
    | lst _ _ _ _ => cases h
    | agg c => exact hl c h
    | tup c => exact hl c h
    | ifc t x => exact ih x h
    | fn f a b =>
      simp only [flatB, Bool.and_eq_true] at h
      exact ⟨hl a h.1, hl b h.2⟩
    | arr w n f us =>
      intro i hi
      exact hl _ (List.all_eq_true.1 h i (List.mem_range.2 hi))
    | _ => trivial
def flatRowB : Row → Bool
  | .cells c own _ => own && c.all (flatB 4)
  | .map _ l _ => l.all fun e => flatB 4 e.2.2
  | .ptab _ => true
def flatStB (v : AV) (st : AS) : Bool := flatB 4 v && st.mem.all fun p => flatRowB p.2
theorem flatStB_ok {v : AV} {st : AS} (h : flatStB v st = true) : FlatSt v st := by
  simp only [flatStB, Bool.and_eq_true, List.all_eq_true] at h
  refine ⟨flatB_ok 4 v h.1, fun p hp => ?_⟩
  have := h.2 p hp
  obtain ⟨n, r⟩ := p
  cases r with
  | cells c own tip =>
    simp only [flatRowB, Bool.and_eq_true, List.all_eq_true] at this
    exact ⟨this.1, fun x hx => flatB_ok 4 x (this.2 x hx)⟩
  | map kk l clock =>
    simp only [flatRowB, List.all_eq_true] at this
    exact fun e he => flatB_ok 4 _ (this e he)
  | ptab xs => trivial

/-! ### numbers brought to their ends -/
section
variable {R : Type}
def intK (n : Int) (k : Int → Option R) : Option R :=
  match n with
  | .ofNat m => natK m fun m => k (.ofNat m)
  | .negSucc m => natK m fun m => k (.negSucc m)
theorem intK_eq (n : Int) (k : Int → Option R) : intK n k = k n := by
  cases n with
  | ofNat m => exact natK_eq m fun m => k (.ofNat m)
  | negSucc m => exact natK_eq m fun m => k (.negSucc m)
def norm1K (x : AV) (k : AV → Option R) : Option R :=
  match x with
  | .int kd n => intK n fun n => k (.int kd n)
  | .bool b => bif b then k (.bool true) else k (.bool false)
  | x => k x
theorem norm1K_eq (x : AV) (k : AV → Option R) : norm1K x k = k x := by
  cases x with
  | int kd n => exact intK_eq n fun n => k (.int kd n)
  | bool b => cases b <;> rfl
  | _ => rfl
def norm1sK : List AV → (List AV → Option R) → Option R
  | [], k => k []
  | x :: xs, k => norm1K x fun y => norm1sK xs fun ys => k (y :: ys)
theorem norm1sK_eq : ∀ (xs : List AV) (k : List AV → Option R), norm1sK xs k = k xs
  | [], k => rfl
  | x :: xs, k => by simp only [norm1sK, norm1K_eq, norm1sK_eq xs]
def normK (x : AV) (k : AV → Option R) : Option R :=
  match x with
  | .agg c => norm1sK c fun c => k (.agg c)
  | x => norm1K x k
theorem normK_eq (x : AV) (k : AV → Option R) : normK x k = k x := by
  unfold normK
  split
  · rename_i c; exact norm1sK_eq c fun c => k (.agg c)
  · exact norm1K_eq _ k
def normsK : List AV → (List AV → Option R) → Option R
  | [], k => k []
  | x :: xs, k => normK x fun y => normsK xs fun ys => k (y :: ys)
theorem normsK_eq : ∀ (xs : List AV) (k : List AV → Option R), normsK xs k = k xs
  | [], k => rfl
  | x :: xs, k => by simp only [normsK, normK_eq, normsK_eq xs]
end

/-! ### the contract -/
def keepR (v : AV) (st : AS) : Option (AV × AS) := some (v, st)
/-- What a function comes to, on its own. -/
def apart (P : Program) (K : KT) (L : LT) (fuel : Nat) (g : FuncId) (vs : List AV) : Option (AV × AS) := evFnF P K L fuel g vs ⟨0, []⟩ (gcK [] [] keepR)
def fMemo (P : Program) (K : KT) (L : LT) (fuel : Nat) (g : FuncId) (R : Type) (vs : List AV) (k : AV → AS → Option R) : Option R :=
  normsK vs fun vs => bif vs.all (fun x => !isArr x) then
    match apart P K L fuel g vs with
    | some (v, st) => bif flatStB v st then k v st else none
    | none => none
  else none
theorem memo_ok (hP : ProgOk P) (hr : RegsOk P) {K : KT} (hK : KOk P K) {L : LT} (hL : LOk P L) (fuel : Nat) (g : FuncId) : FnOk P g (fMemo P K L fuel g) := fun R vs k r h => by
  unfold fMemo at h
  rw [normsK_eq] at h
  obtain ⟨ha, h⟩ := cond_some h
  split at h
  · rename_i v st hap
    obtain ⟨hf, h⟩ := cond_some h
    unfold apart at hap
    rw [evFnF_eq] at hap
    obtain ⟨v', st', hk, _, hs⟩ := evFn_ok hP hK hL (regB_ok hP hr) ha hap
    obtain ⟨kept, m, hm, h1, h2⟩ := gcK_some hk
    simp only [keepR, Option.some.injEq, Prod.mk.injEq] at hm
    obtain ⟨rfl, rfl⟩ := hm
    exact ⟨_, _, h, flatStB_ok hf, hs.sub fun n x e => by
      rw [h2] at e
      cases hkn : find kept n with
      | some y => rw [hkn] at e; cases e; exact h1 n _ hkn
      | none => rw [hkn] at e; simp [find] at e⟩
  · cases h
/-- Contracts of some functions, by evaluation. -/
def memoHas : List FuncId → (FuncId → Bool) → FuncId → Bool
  | [], has => has
  | g :: gs, has => addHas g (memoHas gs has)
def memoS (P : Program) (K : KT) (L : LT) (fuel : Nat) : List FuncId → SpecT → SpecT
  | [], S => S
  | g :: gs, S => addS g (fMemo P K L fuel g) (memoS P K L fuel gs S)
theorem memoS_ok (hP : ProgOk P) (hr : RegsOk P) {K : KT} (hK : KOk P K) {L : LT} (hL : LOk P L) (fuel : Nat) : ∀ (gs : List FuncId) {has : FuncId → Bool} {S : SpecT}, SpecOk P has S → SpecOk P (memoHas gs has) (memoS P K L fuel gs S)
  | [], _, _, h => h
  | g :: gs, _, _, h => addS_ok (memo_ok hP hr hK hL fuel g) (memoS_ok hP hr hK hL fuel gs h)
/-- A table with contracts by evaluation ahead of another one. -/
def memoK (P : Program) (K : KT) (L : LT) (fuel : Nat) (gs : List FuncId) : KT := orK (specK (memoHas gs has0) (memoS P K L fuel gs S0)) K
theorem memoK_ok (hP : ProgOk P) (hr : RegsOk P) {K : KT} (hK : KOk P K) {L : LT} (hL : LOk P L) (fuel : Nat) (gs : List FuncId) : KOk P (memoK P K L fuel gs) := orK_ok (specK_ok (memoS_ok hP hr hK hL fuel gs s0_ok)) hK
end
end Go.Sv
