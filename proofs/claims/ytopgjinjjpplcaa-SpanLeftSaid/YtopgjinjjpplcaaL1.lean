/- SpanLeft's contracts for the second evaluator, out of what the first one has shown (chapter 15). -/
import Derived.Test.YtopgjinjjpplcaaBe
import Derived.Test.YtopgjinjjpplcaaSpanQ
namespace Go.Sv
open Go.RowKit Go.Proofs
set_option linter.unusedSimpArgs false
set_option linter.unusedVariables false
/-- What the first evaluator shows of a function of plain values. -/
theorem sound_pure {g : FuncId} {vs : List AV} {ys : List Value} {v : Value} {a : AV} (h : Ev.PureFn Try.prog g ys v) (hx : ∀ κ us, CRel κ vs us → us = ys) (hv : ∀ κ, VRel κ a v) : SoundFn Try.prog g vs ⟨0, []⟩ a ⟨0, []⟩ := fun κ us w hl hR => by
  obtain rfl := hx κ us hl
  refine (h w).mono fun en w' he => ?_
  obtain ⟨h1, h2⟩ := hR.mem.below he.2
  exact ⟨κ, v, ⟨fun _ _ => rfl, fun _ _ h => h, rfl, fun _ _ h => h⟩, he.1, hv κ, ⟨hR.fresh, h1⟩, h2⟩
def spA (a b : Int) : AV := .agg [.int .u64 a, .int .u64 b]
theorem sp_inv {κ : Kap} {a b : Int} {xs : List AV} {us : List Value} (h : CRel κ (.agg [.int .u64 a, .int .u64 b] :: xs) us) : ∃ r, us = Ev.sp a b :: r ∧ CRel κ xs r := by
  cases h with
  | agg c zs h1 h2 =>
    cases h1 with
    | int _ _ h1 =>
      cases h1 with
      | int _ _ h1 =>
        cases h1
        exact ⟨_, rfl, h2⟩
theorem i_inv {κ : Kap} {k : IntKind} {n : Int} {xs : List AV} {us : List Value} (h : CRel κ (.int k n :: xs) us) : ∃ r, us = .int k n :: r ∧ CRel κ xs r := by
  cases h with | int _ _ h => exact ⟨_, rfl, h⟩
theorem b_inv {κ : Kap} {b : Bool} {xs : List AV} {us : List Value} (h : CRel κ (.bool b :: xs) us) : ∃ r, us = .bool b :: r ∧ CRel κ xs r := by
  cases h with | bool _ h => exact ⟨_, rfl, h⟩
theorem n_inv {κ : Kap} {us : List Value} (h : CRel κ [] us) : us = [] := by cases h; rfl
theorem sp_rel {κ : Kap} {a b : Int} {xs : List AV} {us : List Value} (h : CRel κ xs us) : CRel κ (spA a b :: xs) (Ev.sp a b :: us) := .agg _ _ (.int _ _ (.int _ _ .nil)) h
theorem flatB (b : Bool) : FlatSt (.bool b) ⟨0, []⟩ := ⟨trivial, fun p hp => by cases hp⟩
theorem flatPr {b : Bool} {n : Int} : FlatSt (.tup [.bool b, .int .i64 n]) ⟨0, []⟩ := ⟨fun x hx => by
  simp only [List.mem_cons, List.not_mem_nil, or_false] at hx
  rcases hx with rfl | rfl <;> trivial, fun p hp => by cases hp⟩
theorem flatSp {a b : Int} {d : Nat} : flatV (d + 2) (spA a b) := fun y hy => by
  simp only [List.mem_cons, List.not_mem_nil, or_false] at hy
  rcases hy with rfl | rfl <;> trivial
theorem flatCut {a b c d : Int} {i : Bool} {n : Int} : FlatSt (.tup [spA a b, spA c d, .bool i, .int .i64 n]) ⟨0, []⟩ := ⟨fun x hx => by
  simp only [List.mem_cons, List.not_mem_nil, or_false] at hx
  rcases hx with rfl | rfl | rfl | rfl
  · exact flatSp
  · exact flatSp
  · trivial
  · trivial, fun p hp => by cases hp⟩
theorem flatI (k : IntKind) (n : Int) : FlatSt (.int k n) ⟨0, []⟩ := ⟨trivial, fun p hp => by cases hp⟩

def fWorks (R : Type) (vs : List AV) (k : AV → AS → Option R) : Option R :=
  match vs with
  | [] => k (.bool true) ⟨0, []⟩
  | _ => none
theorem okWorks : FnOk Try.prog 13 fWorks := fun R vs k r hr => by
  unfold fWorks at hr
  split at hr
  · exact ⟨_, _, hr, flatB _, sound_pure Ev.works_pure (fun κ us h => n_inv h) fun κ => .bool _ .nil⟩
  · cases hr
def fCmp (R : Type) (vs : List AV) (k : AV → AS → Option R) : Option R :=
  match vs with
  | [.int .u8 op, .int .u64 x, .int .u64 y] => k (.tup [.bool (Ev.cmpB op x y), .int .i64 (Ev.cmpE op)]) ⟨0, []⟩
  | _ => none
theorem okCmp : FnOk Try.prog 16 fCmp := fun R vs k r hr => by
  unfold fCmp at hr
  split at hr
  · rename_i op x y
    refine ⟨_, _, hr, flatPr, sound_pure (Ev.compare_pure op x y) (fun κ us h => ?_) fun κ => .tup _ _ (.bool _ (.int _ _ .nil)) .nil⟩
    obtain ⟨r0, e0, h0⟩ := i_inv h
    obtain ⟨r1, e1, h1⟩ := i_inv h0
    obtain ⟨r2, e2, h2⟩ := i_inv h1
    rw [e0, e1, e2, n_inv h2]
  · cases hr
def cutA (op : Int) (yes : Bool) (a b c d : Int) : AV := .tup [spA (Ev.cutALo op yes a b c d) (Ev.cutAHi op yes a b c d), spA (Ev.cutBLo op yes a b c d) (Ev.cutBHi op yes a b c d), .bool (Ev.cutI op yes a b c d), .int .i64 (Ev.cutE op a b c d)]
def fCut (R : Type) (vs : List AV) (k : AV → AS → Option R) : Option R :=
  match vs with
  | [.int .u8 op, .bool yes, .agg [.int .u64 a, .int .u64 b], .agg [.int .u64 c, .int .u64 d]] => k (cutA op yes a b c d) ⟨0, []⟩
  | _ => none
theorem okCut : FnOk Try.prog 14 fCut := fun R vs k r hr => by
  unfold fCut at hr
  split at hr
  · rename_i op yes a b c d
    refine ⟨_, _, hr, flatCut, sound_pure (Ev.cut_pure op yes a b c d) (fun κ us h => ?_) fun κ => .tup _ _ (sp_rel (sp_rel (.bool _ (.int _ _ .nil)))) .nil⟩
    obtain ⟨r0, e0, h0⟩ := i_inv h
    obtain ⟨r1, e1, h1⟩ := b_inv h0
    obtain ⟨r2, e2, h2⟩ := sp_inv h1
    obtain ⟨r3, e3, h3⟩ := sp_inv h2
    rw [e0, e1, e2, e3, n_inv h3]
  · cases hr
def fIns (R : Type) (vs : List AV) (k : AV → AS → Option R) : Option R :=
  match vs with
  | [.agg [.int .u64 a, .int .u64 b], .int .u64 n] => bif Ev.okS a b && Ev.inU n then k (.int .u64 (Ev.insI a b n)) ⟨0, []⟩ else none
  | _ => none
theorem okIns : FnOk Try.prog 19 fIns := fun R vs k r hr => by
  unfold fIns at hr
  split at hr
  · rename_i a b n
    obtain ⟨hc, hr⟩ := cond_some hr
    simp only [Bool.and_eq_true] at hc
    refine ⟨_, _, hr, flatI _ _, sound_pure (Ev.inside_pure hc.1 hc.2) (fun κ us h => ?_) fun κ => .int _ _ .nil⟩
    obtain ⟨r0, e0, h0⟩ := sp_inv h
    obtain ⟨r1, e1, h1⟩ := i_inv h0
    rw [e0, e1, n_inv h1]
  · cases hr
def fHas (R : Type) (vs : List AV) (k : AV → AS → Option R) : Option R :=
  match vs with
  | [.agg [.int .u64 a, .int .u64 b], .int .u64 n] => k (.bool (Ev.hasB a b n)) ⟨0, []⟩
  | _ => none
theorem okHas : FnOk Try.prog 22 fHas := fun R vs k r hr => by
  unfold fHas at hr
  split at hr
  · rename_i a b n
    refine ⟨_, _, hr, flatB _, sound_pure (Ev.has_pure a b n) (fun κ us h => ?_) fun κ => .bool _ .nil⟩
    obtain ⟨r0, e0, h0⟩ := sp_inv h
    obtain ⟨r1, e1, h1⟩ := i_inv h0
    rw [e0, e1, n_inv h1]
  · cases hr
def fUnd (R : Type) (vs : List AV) (k : AV → AS → Option R) : Option R :=
  match vs with
  | [.agg [.int .u64 a, .int .u64 b], .agg [.int .u64 c, .int .u64 d]] => k (.bool (Ev.undB a b c d)) ⟨0, []⟩
  | _ => none
theorem okUnd : FnOk Try.prog 24 fUnd := fun R vs k r hr => by
  unfold fUnd at hr
  split at hr
  · rename_i a b c d
    refine ⟨_, _, hr, flatB _, sound_pure (Ev.under_pure a b c d) (fun κ us h => ?_) fun κ => .bool _ .nil⟩
    obtain ⟨r0, e0, h0⟩ := sp_inv h
    obtain ⟨r1, e1, h1⟩ := sp_inv h0
    rw [e0, e1, n_inv h1]
  · cases hr
def chkE2 (a b : Int) : Int := bif decide (a > b) then 150 else 0
def fChk (R : Type) (vs : List AV) (k : AV → AS → Option R) : Option R :=
  match vs with
  | [.agg [.int .u64 a, .int .u64 b]] => k (.int .i64 (chkE2 a b)) ⟨0, []⟩
  | _ => none
theorem evChk (a b : Int) : evFn Try.prog K0 L0 (regB Try.prog) 60 18 [.agg [.int .u64 a, .int .u64 b]] ⟨0, []⟩ ret = (bif decide (a > b) then some (.int .i64 150) else some (.int .i64 0)) := by kernel_rfl
theorem okChk : FnOk Try.prog 18 fChk := fun R vs k r hr => by
  unfold fChk at hr
  split at hr
  · rename_i a b
    refine ⟨_, _, hr, flatI _ _, fn_plain sprog_ok.1 sprog_ok.2 k0_ok l0_ok (fuel := 60) rfl rfl ?_⟩
    rw [evChk]
    unfold chkE2
    cases decide (a > b) <;> rfl
  · cases hr
def hasSL : FuncId → Bool := addHas 13 (addHas 14 (addHas 18 (addHas 16 (addHas 19 (addHas 22 (addHas 24 has0))))))
def specSL : SpecT := addS 13 fWorks (addS 14 fCut (addS 18 fChk (addS 16 fCmp (addS 19 fIns (addS 22 fHas (addS 24 fUnd S0))))))
theorem specSL_ok : SpecOk Try.prog hasSL specSL := addS_ok okWorks (addS_ok okCut (addS_ok okChk (addS_ok okCmp (addS_ok okIns (addS_ok okHas (addS_ok okUnd s0_ok))))))
def KSL : KT := orK (specK hasSL specSL) K0
theorem KSL_ok : KOk Try.prog KSL := orK_ok (specK_ok specSL_ok) k0_ok
end Go.Sv
