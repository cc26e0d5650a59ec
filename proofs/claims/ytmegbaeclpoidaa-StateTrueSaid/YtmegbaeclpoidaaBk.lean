/- The evaluator and the contracts that the walk leans on, part Bk: CJ, CK, CL. -/
import Derived.Test.YtmegbaeclpoidaaBj
namespace Go.Sv
open Go.RowKit Go.Proofs
set_option linter.unusedSimpArgs false
theorem act0 (X : List (Int × Int)) (d e : Int) : actF X 0 d e = (X, 0) := rfl
theorem act1 (X : List (Int × Int)) (d e : Int) : actF X 1 d e = prvF X d e := by
  show prvF X d (e + 1 - 1) = _
  rw [show e + 1 - 1 = e from by omega]
theorem act2 (X : List (Int × Int)) (d e : Int) : actF X 2 d e = prvF X d (e + 1) := by
  show prvF X d (e + 2 - 1) = _
  rw [show e + 2 - 1 = e + 1 from by omega]
theorem ptr_wrap {a b c d e : Int} (h : ptrB a b c d e = true) : IntKind.i64.wrap (e + 1) = e + 1 := by
  have := ptr_off h
  exact wrap_in64 (by omega) (by omega)
def okSho (g : FuncId) (op : Int) (y : Bool) : Prop := ∀ (X : List (Int × Int)) (a b c d e a2 b2 c2 d2 e2 : Int), SoundFn Try.prog g [.lst 2 (kf X) X.length [], .int .u8 op, .bool y, vB a b c d e, vB a2 b2 c2 d2 e2] ⟨0, []⟩
  (.tup [.slc 0 [] 0 0 2 (shoF X op y a b c d e a2 b2 c2 d2 e2).1.length (shoF X op y a b c d e a2 b2 c2 d2 e2).1.length, .int .i64 (shoF X op y a b c d e a2 b2 c2 d2 e2).2]) ⟨1, [(0, rOf (shoF X op y a b c d e a2 b2 c2 d2 e2).1)]⟩
theorem soSho29t : okSho 26 29 true := fun X a b c d e a2 b2 c2 d2 e2 => by
  have s0 : (decide ((29 : Int) < 29) || decide ((29 : Int) > 32)) = false := rfl
  have s1 : sayF 29 true true = 2 := rfl
  have s2 : sayF 29 true false = 0 := rfl
  have e0 : (chkE X != Int.ofNat 0) = (chkE X != 0) := rfl
  have hev := evSho29t X a b c d e a2 b2 c2 d2 e2
  cases hb : (chkE X != 0) with
  | true =>
    have hs : shoF X 29 true a b c d e a2 b2 c2 d2 e2 = ([], chkE X) := by simp only [shoF, hb, cond_true]
    rw [hs]
    simp only [kl_kf, okL_kf, e0, hb, cond_true] at hev
    exact shown_nil rfl KCI_ok LCI_ok hev
  | false =>
    obtain ⟨h1, h2⟩ := chkE_ok hb
    obtain ⟨l1, l2, l3, l4, l5⟩ := list_conds h1 h2
    have hid := list_id h2
    simp only [kl_kf, okL_kf, e0, hb, cond_true, cond_false, l1, l2, l3, l4, l5, hid, end_eq, add0_zero, ble_self, decide_true, Bool.and_self, Bool.not_true, Bool.not_false] at hev
    cases hp : ptrB a b c d e <;> cases he : endB a2 b2 c2 d2 e2 <;> cases hp2 : ptrB a2 b2 c2 d2 e2 <;> cases he2 : endB a b c d e
    all_goals simp only [hp, he, hp2, he2, cond_true, cond_false] at hev
    all_goals simp only [shoF, hb, s0, s1, s2, hp, he, hp2, he2, Bool.and_self, Bool.and_true, Bool.and_false, Bool.false_and, Bool.true_and, cond_true, cond_false, act0, act1, act2]
    all_goals first
      | exact shown_nil rfl KCI_ok LCI_ok hev
      | exact shown_list rfl KCI_ok LCI_ok hev
      | (rw [ptr_wrap hp] at hev; exact shown_list rfl KCI_ok LCI_ok hev)
      | (rw [ptr_wrap hp2] at hev; exact shown_list rfl KCI_ok LCI_ok hev)
theorem soSho29f : okSho 26 29 false := fun X a b c d e a2 b2 c2 d2 e2 => by
  have s0 : (decide ((29 : Int) < 29) || decide ((29 : Int) > 32)) = false := rfl
  have s1 : sayF 29 false true = 0 := rfl
  have s2 : sayF 29 false false = 1 := rfl
  have e0 : (chkE X != Int.ofNat 0) = (chkE X != 0) := rfl
  have hev := evSho29f X a b c d e a2 b2 c2 d2 e2
  cases hb : (chkE X != 0) with
  | true =>
    have hs : shoF X 29 false a b c d e a2 b2 c2 d2 e2 = ([], chkE X) := by simp only [shoF, hb, cond_true]
    rw [hs]
    simp only [kl_kf, okL_kf, e0, hb, cond_true] at hev
    exact shown_nil rfl KCI_ok LCI_ok hev
  | false =>
    obtain ⟨h1, h2⟩ := chkE_ok hb
    obtain ⟨l1, l2, l3, l4, l5⟩ := list_conds h1 h2
    have hid := list_id h2
    simp only [kl_kf, okL_kf, e0, hb, cond_true, cond_false, l1, l2, l3, l4, l5, hid, end_eq, add0_zero, ble_self, decide_true, Bool.and_self, Bool.not_true, Bool.not_false] at hev
    cases hp : ptrB a b c d e <;> cases he : endB a2 b2 c2 d2 e2 <;> cases hp2 : ptrB a2 b2 c2 d2 e2 <;> cases he2 : endB a b c d e
    all_goals simp only [hp, he, hp2, he2, cond_true, cond_false] at hev
    all_goals simp only [shoF, hb, s0, s1, s2, hp, he, hp2, he2, Bool.and_self, Bool.and_true, Bool.and_false, Bool.false_and, Bool.true_and, cond_true, cond_false, act0, act1, act2]
    all_goals first
      | exact shown_nil rfl KCI_ok LCI_ok hev
      | exact shown_list rfl KCI_ok LCI_ok hev
      | (rw [ptr_wrap hp] at hev; exact shown_list rfl KCI_ok LCI_ok hev)
      | (rw [ptr_wrap hp2] at hev; exact shown_list rfl KCI_ok LCI_ok hev)
theorem soSho30t : okSho 26 30 true := fun X a b c d e a2 b2 c2 d2 e2 => by
  have s0 : (decide ((30 : Int) < 29) || decide ((30 : Int) > 32)) = false := rfl
  have s1 : sayF 30 true true = 1 := rfl
  have s2 : sayF 30 true false = 0 := rfl
  have e0 : (chkE X != Int.ofNat 0) = (chkE X != 0) := rfl
  have hev := evSho30t X a b c d e a2 b2 c2 d2 e2
  cases hb : (chkE X != 0) with
  | true =>
    have hs : shoF X 30 true a b c d e a2 b2 c2 d2 e2 = ([], chkE X) := by simp only [shoF, hb, cond_true]
    rw [hs]
    simp only [kl_kf, okL_kf, e0, hb, cond_true] at hev
    exact shown_nil rfl KCI_ok LCI_ok hev
  | false =>
    obtain ⟨h1, h2⟩ := chkE_ok hb
    obtain ⟨l1, l2, l3, l4, l5⟩ := list_conds h1 h2
    have hid := list_id h2
    simp only [kl_kf, okL_kf, e0, hb, cond_true, cond_false, l1, l2, l3, l4, l5, hid, end_eq, add0_zero, ble_self, decide_true, Bool.and_self, Bool.not_true, Bool.not_false] at hev
    cases hp : ptrB a b c d e <;> cases he : endB a2 b2 c2 d2 e2 <;> cases hp2 : ptrB a2 b2 c2 d2 e2 <;> cases he2 : endB a b c d e
    all_goals simp only [hp, he, hp2, he2, cond_true, cond_false] at hev
    all_goals simp only [shoF, hb, s0, s1, s2, hp, he, hp2, he2, Bool.and_self, Bool.and_true, Bool.and_false, Bool.false_and, Bool.true_and, cond_true, cond_false, act0, act1, act2]
    all_goals first
      | exact shown_nil rfl KCI_ok LCI_ok hev
      | exact shown_list rfl KCI_ok LCI_ok hev
      | (rw [ptr_wrap hp] at hev; exact shown_list rfl KCI_ok LCI_ok hev)
      | (rw [ptr_wrap hp2] at hev; exact shown_list rfl KCI_ok LCI_ok hev)
theorem soSho30f : okSho 26 30 false := fun X a b c d e a2 b2 c2 d2 e2 => by
  have s0 : (decide ((30 : Int) < 29) || decide ((30 : Int) > 32)) = false := rfl
  have s1 : sayF 30 false true = 0 := rfl
  have s2 : sayF 30 false false = 2 := rfl
  have e0 : (chkE X != Int.ofNat 0) = (chkE X != 0) := rfl
  have hev := evSho30f X a b c d e a2 b2 c2 d2 e2
  cases hb : (chkE X != 0) with
  | true =>
    have hs : shoF X 30 false a b c d e a2 b2 c2 d2 e2 = ([], chkE X) := by simp only [shoF, hb, cond_true]
    rw [hs]
    simp only [kl_kf, okL_kf, e0, hb, cond_true] at hev
    exact shown_nil rfl KCI_ok LCI_ok hev
  | false =>
    obtain ⟨h1, h2⟩ := chkE_ok hb
    obtain ⟨l1, l2, l3, l4, l5⟩ := list_conds h1 h2
    have hid := list_id h2
    simp only [kl_kf, okL_kf, e0, hb, cond_true, cond_false, l1, l2, l3, l4, l5, hid, end_eq, add0_zero, ble_self, decide_true, Bool.and_self, Bool.not_true, Bool.not_false] at hev
    cases hp : ptrB a b c d e <;> cases he : endB a2 b2 c2 d2 e2 <;> cases hp2 : ptrB a2 b2 c2 d2 e2 <;> cases he2 : endB a b c d e
    all_goals simp only [hp, he, hp2, he2, cond_true, cond_false] at hev
    all_goals simp only [shoF, hb, s0, s1, s2, hp, he, hp2, he2, Bool.and_self, Bool.and_true, Bool.and_false, Bool.false_and, Bool.true_and, cond_true, cond_false, act0, act1, act2]
    all_goals first
      | exact shown_nil rfl KCI_ok LCI_ok hev
      | exact shown_list rfl KCI_ok LCI_ok hev
      | (rw [ptr_wrap hp] at hev; exact shown_list rfl KCI_ok LCI_ok hev)
      | (rw [ptr_wrap hp2] at hev; exact shown_list rfl KCI_ok LCI_ok hev)
theorem soSho31t : okSho 26 31 true := fun X a b c d e a2 b2 c2 d2 e2 => by
  have s0 : (decide ((31 : Int) < 29) || decide ((31 : Int) > 32)) = false := rfl
  have s1 : sayF 31 true true = 0 := rfl
  have s2 : sayF 31 true false = 2 := rfl
  have e0 : (chkE X != Int.ofNat 0) = (chkE X != 0) := rfl
  have hev := evSho31t X a b c d e a2 b2 c2 d2 e2
  cases hb : (chkE X != 0) with
  | true =>
    have hs : shoF X 31 true a b c d e a2 b2 c2 d2 e2 = ([], chkE X) := by simp only [shoF, hb, cond_true]
    rw [hs]
    simp only [kl_kf, okL_kf, e0, hb, cond_true] at hev
    exact shown_nil rfl KCI_ok LCI_ok hev
  | false =>
    obtain ⟨h1, h2⟩ := chkE_ok hb
    obtain ⟨l1, l2, l3, l4, l5⟩ := list_conds h1 h2
    have hid := list_id h2
    simp only [kl_kf, okL_kf, e0, hb, cond_true, cond_false, l1, l2, l3, l4, l5, hid, end_eq, add0_zero, ble_self, decide_true, Bool.and_self, Bool.not_true, Bool.not_false] at hev
    cases hp : ptrB a b c d e <;> cases he : endB a2 b2 c2 d2 e2 <;> cases hp2 : ptrB a2 b2 c2 d2 e2 <;> cases he2 : endB a b c d e
    all_goals simp only [hp, he, hp2, he2, cond_true, cond_false] at hev
    all_goals simp only [shoF, hb, s0, s1, s2, hp, he, hp2, he2, Bool.and_self, Bool.and_true, Bool.and_false, Bool.false_and, Bool.true_and, cond_true, cond_false, act0, act1, act2]
    all_goals first
      | exact shown_nil rfl KCI_ok LCI_ok hev
      | exact shown_list rfl KCI_ok LCI_ok hev
      | (rw [ptr_wrap hp] at hev; exact shown_list rfl KCI_ok LCI_ok hev)
      | (rw [ptr_wrap hp2] at hev; exact shown_list rfl KCI_ok LCI_ok hev)
theorem soSho31f : okSho 26 31 false := fun X a b c d e a2 b2 c2 d2 e2 => by
  have s0 : (decide ((31 : Int) < 29) || decide ((31 : Int) > 32)) = false := rfl
  have s1 : sayF 31 false true = 1 := rfl
  have s2 : sayF 31 false false = 0 := rfl
  have e0 : (chkE X != Int.ofNat 0) = (chkE X != 0) := rfl
  have hev := evSho31f X a b c d e a2 b2 c2 d2 e2
  cases hb : (chkE X != 0) with
  | true =>
    have hs : shoF X 31 false a b c d e a2 b2 c2 d2 e2 = ([], chkE X) := by simp only [shoF, hb, cond_true]
    rw [hs]
    simp only [kl_kf, okL_kf, e0, hb, cond_true] at hev
    exact shown_nil rfl KCI_ok LCI_ok hev
  | false =>
    obtain ⟨h1, h2⟩ := chkE_ok hb
    obtain ⟨l1, l2, l3, l4, l5⟩ := list_conds h1 h2
    have hid := list_id h2
    simp only [kl_kf, okL_kf, e0, hb, cond_true, cond_false, l1, l2, l3, l4, l5, hid, end_eq, add0_zero, ble_self, decide_true, Bool.and_self, Bool.not_true, Bool.not_false] at hev
    cases hp : ptrB a b c d e <;> cases he : endB a2 b2 c2 d2 e2 <;> cases hp2 : ptrB a2 b2 c2 d2 e2 <;> cases he2 : endB a b c d e
    all_goals simp only [hp, he, hp2, he2, cond_true, cond_false] at hev
    all_goals simp only [shoF, hb, s0, s1, s2, hp, he, hp2, he2, Bool.and_self, Bool.and_true, Bool.and_false, Bool.false_and, Bool.true_and, cond_true, cond_false, act0, act1, act2]
    all_goals first
      | exact shown_nil rfl KCI_ok LCI_ok hev
      | exact shown_list rfl KCI_ok LCI_ok hev
      | (rw [ptr_wrap hp] at hev; exact shown_list rfl KCI_ok LCI_ok hev)
      | (rw [ptr_wrap hp2] at hev; exact shown_list rfl KCI_ok LCI_ok hev)
theorem soSho32t : okSho 26 32 true := fun X a b c d e a2 b2 c2 d2 e2 => by
  have s0 : (decide ((32 : Int) < 29) || decide ((32 : Int) > 32)) = false := rfl
  have s1 : sayF 32 true true = 0 := rfl
  have s2 : sayF 32 true false = 1 := rfl
  have e0 : (chkE X != Int.ofNat 0) = (chkE X != 0) := rfl
  have hev := evSho32t X a b c d e a2 b2 c2 d2 e2
  cases hb : (chkE X != 0) with
  | true =>
    have hs : shoF X 32 true a b c d e a2 b2 c2 d2 e2 = ([], chkE X) := by simp only [shoF, hb, cond_true]
    rw [hs]
    simp only [kl_kf, okL_kf, e0, hb, cond_true] at hev
    exact shown_nil rfl KCI_ok LCI_ok hev
  | false =>
    obtain ⟨h1, h2⟩ := chkE_ok hb
    obtain ⟨l1, l2, l3, l4, l5⟩ := list_conds h1 h2
    have hid := list_id h2
    simp only [kl_kf, okL_kf, e0, hb, cond_true, cond_false, l1, l2, l3, l4, l5, hid, end_eq, add0_zero, ble_self, decide_true, Bool.and_self, Bool.not_true, Bool.not_false] at hev
    cases hp : ptrB a b c d e <;> cases he : endB a2 b2 c2 d2 e2 <;> cases hp2 : ptrB a2 b2 c2 d2 e2 <;> cases he2 : endB a b c d e
    all_goals simp only [hp, he, hp2, he2, cond_true, cond_false] at hev
    all_goals simp only [shoF, hb, s0, s1, s2, hp, he, hp2, he2, Bool.and_self, Bool.and_true, Bool.and_false, Bool.false_and, Bool.true_and, cond_true, cond_false, act0, act1, act2]
    all_goals first
      | exact shown_nil rfl KCI_ok LCI_ok hev
      | exact shown_list rfl KCI_ok LCI_ok hev
      | (rw [ptr_wrap hp] at hev; exact shown_list rfl KCI_ok LCI_ok hev)
      | (rw [ptr_wrap hp2] at hev; exact shown_list rfl KCI_ok LCI_ok hev)
theorem soSho32f : okSho 26 32 false := fun X a b c d e a2 b2 c2 d2 e2 => by
  have s0 : (decide ((32 : Int) < 29) || decide ((32 : Int) > 32)) = false := rfl
  have s1 : sayF 32 false true = 2 := rfl
  have s2 : sayF 32 false false = 0 := rfl
  have e0 : (chkE X != Int.ofNat 0) = (chkE X != 0) := rfl
  have hev := evSho32f X a b c d e a2 b2 c2 d2 e2
  cases hb : (chkE X != 0) with
  | true =>
    have hs : shoF X 32 false a b c d e a2 b2 c2 d2 e2 = ([], chkE X) := by simp only [shoF, hb, cond_true]
    rw [hs]
    simp only [kl_kf, okL_kf, e0, hb, cond_true] at hev
    exact shown_nil rfl KCI_ok LCI_ok hev
  | false =>
    obtain ⟨h1, h2⟩ := chkE_ok hb
    obtain ⟨l1, l2, l3, l4, l5⟩ := list_conds h1 h2
    have hid := list_id h2
    simp only [kl_kf, okL_kf, e0, hb, cond_true, cond_false, l1, l2, l3, l4, l5, hid, end_eq, add0_zero, ble_self, decide_true, Bool.and_self, Bool.not_true, Bool.not_false] at hev
    cases hp : ptrB a b c d e <;> cases he : endB a2 b2 c2 d2 e2 <;> cases hp2 : ptrB a2 b2 c2 d2 e2 <;> cases he2 : endB a b c d e
    all_goals simp only [hp, he, hp2, he2, cond_true, cond_false] at hev
    all_goals simp only [shoF, hb, s0, s1, s2, hp, he, hp2, he2, Bool.and_self, Bool.and_true, Bool.and_false, Bool.false_and, Bool.true_and, cond_true, cond_false, act0, act1, act2]
    all_goals first
      | exact shown_nil rfl KCI_ok LCI_ok hev
      | exact shown_list rfl KCI_ok LCI_ok hev
      | (rw [ptr_wrap hp] at hev; exact shown_list rfl KCI_ok LCI_ok hev)
      | (rw [ptr_wrap hp2] at hev; exact shown_list rfl KCI_ok LCI_ok hev)
end Go.Sv
namespace Go.Sv
open Go.RowKit Go.Proofs
set_option linter.unusedSimpArgs false

/-! ### Says -/
def fSay (R : Type) (vs : List AV) (k : AV → AS → Option R) : Option R :=
  match vs with
  | [.int .u8 op, .bool y, .bool first] => k (.int .i64 (sayF op y first)) ⟨0, []⟩
  | _ => none
theorem evSay (op : Int) (y first : Bool) : evFn Try.prog K0 L0 (regB Try.prog) 60 78 [.int .u8 op, .bool y, .bool first] ⟨0, []⟩ ret =
  (bif op == Int.ofNat 29 then bif first then bif bif true then y else false then some (AV.int IntKind.i64 (Int.ofNat 2)) else bif !first then bif bif true then !y else false then some (AV.int IntKind.i64 (Int.ofNat 1)) else some (AV.int IntKind.i64 (Int.ofNat 0)) else some (AV.int IntKind.i64 (Int.ofNat 0)) else bif !first then bif bif true then !y else false then some (AV.int IntKind.i64 (Int.ofNat 1)) else some (AV.int IntKind.i64 (Int.ofNat 0)) else some (AV.int IntKind.i64 (Int.ofNat 0)) else bif op == Int.ofNat 30 then bif first then bif bif true then y else false then some (AV.int IntKind.i64 (Int.ofNat 1)) else bif !first then bif bif true then !y else false then some (AV.int IntKind.i64 (Int.ofNat 2)) else some (AV.int IntKind.i64 (Int.ofNat 0)) else some (AV.int IntKind.i64 (Int.ofNat 0)) else bif !first then bif bif true then !y else false then some (AV.int IntKind.i64 
    (Int.ofNat 2)) else some (AV.int IntKind.i64 (Int.ofNat 0)) else some (AV.int IntKind.i64 (Int.ofNat 0)) else bif op == Int.ofNat 31 then bif first then bif bif true then !y else false then some (AV.int IntKind.i64 (Int.ofNat 1)) else bif !first then bif bif true then y else false then some (AV.int IntKind.i64 (Int.ofNat 2)) else some (AV.int IntKind.i64 (Int.ofNat 0)) else some (AV.int IntKind.i64 (Int.ofNat 0)) else bif !first then bif bif true then y else false then some (AV.int IntKind.i64 (Int.ofNat 2)) else some (AV.int IntKind.i64 (Int.ofNat 0)) else some (AV.int IntKind.i64 (Int.ofNat 0)) else bif op == Int.ofNat 32 then bif first then bif bif true then !y else false then some (AV.int IntKind.i64 (Int.ofNat 2)) else bif !first then bif bif true then y else false then some (AV.int IntKind.i64 (Int.ofNat 1)) else some (AV.int IntKind.i64 (Int.ofNat 0)) else some (AV.int IntKind.i64 
    (Int.ofNat 0)) else bif !first then bif bif true then y else false then some (AV.int IntKind.i64 (Int.ofNat 1)) else some (AV.int IntKind.i64 (Int.ofNat 0)) else some (AV.int IntKind.i64 (Int.ofNat 0)) else some (AV.int IntKind.i64 (Int.ofNat 0))) := by kernel_rfl
theorem okSay : FnOk Try.prog 78 fSay := fnOk_plain sprog_ok.1 sprog_ok.2 k0_ok l0_ok fun R vs k r h => by
  unfold fSay at h
  split at h
  · rename_i op y first
    refine ⟨_, h, trivial, rfl, rfl, 60, ?_⟩
    rw [evSay]
    have h1 : (op == Int.ofNat 29) = (op == 29) := rfl
    have h2 : (op == Int.ofNat 30) = (op == 30) := rfl
    have h3 : (op == Int.ofNat 31) = (op == 31) := rfl
    have h4 : (op == Int.ofNat 32) = (op == 32) := rfl
    simp only [h1, h2, h3, h4, sayF]
    cases (op == 29) <;> cases (op == 30) <;> cases (op == 31) <;> cases (op == 32) <;> cases y <;> cases first <;> rfl
  · cases h
def hasCK : FuncId → Bool := addHas 78 (addHas 40 hasC9)
def specCK : SpecT := addS 78 fSay (addS 40 fPrv specC9)
theorem specCK_ok : SpecOk Try.prog hasCK specCK := addS_ok okSay (addS_ok okPrv2 specC9_ok)
def KCK : KT := orK (specK hasCK specCK) KX
theorem KCK_ok : KOk Try.prog KCK := orK_ok (specK_ok specCK_ok) KX_ok
theorem evShoR (X : List (Int × Int)) (op : Int) (y : Bool) (a b c d e a2 b2 c2 d2 e2 : Int) : evFn Try.prog KCK L0 (regB Try.prog) 60 27 [.lst 2 (kf X) X.length [], .int .u8 op, .bool y, vB a b c d e, vB a2 b2 c2 d2 e2] ⟨0, []⟩ kSho =
  (bif okL (kf X) X.length [] then bif chkE (kl (kf X) X.length []) != Int.ofNat 0 then some (AV.tup [AV.raw (Value.slice none 0 0), AV.int IntKind.i64 (chkE (kl (kf X) X.length []))], none) else bif decide (op < 29) then some (AV.tup [AV.raw (Value.slice none 0 0), AV.int IntKind.i64 (Int.ofNat 2)], none) else bif bif false then true else decide (op > 32) then some (AV.tup [AV.raw (Value.slice none 0 0), AV.int IntKind.i64 (Int.ofNat 2)], none) else bif ptrB a2 b2 c2 d2 e2 then bif ptrB a b c d e then bif !bif true then endB a2 b2 c2 d2 e2 else false then bif endB a b c d e then bif bif true then !bif true then ptrB a2 b2 c2 d2 e2 else false else false then some (AV.tup [AV.raw (Value.slice none 0 0), AV.int IntKind.i64 (Int.ofNat 171)], none) else bif sayF op y (ptrB a b c d e) == Int.ofNat 0 then bif okL (kf X) X.length [] && X.length.ble 140737488355328 && allId (kl (kf X) X.length []) 
    then some (AV.tup [AV.slc 4 [] 0 0 2 (ofF 0 (nl (nf (tabF zeros257 (kl (kf X) X.length []))) 257 [])).length (ofF 0 (nl (nf (tabF zeros257 (kl (kf X) X.length []))) 257 [])).length, AV.int IntKind.i64 (Int.ofNat 0)], some (Row.cells [AV.arr 2 (ofF 0 (nl (nf (tabF zeros257 (kl (kf X) X.length []))) 257 [])).length (fun i => [AV.int IntKind.i64 ((ofF 0 (nl (nf (tabF zeros257 (kl (kf X) X.length []))) 257 [])).getD i (0, 0)).fst, AV.int IntKind.i64 ((ofF 0 (nl (nf (tabF zeros257 (kl (kf X) X.length []))) 257 [])).getD i (0, 0)).snd]) []] true true)) else none else bif okL (kf X) X.length [] then some (AV.tup [AV.slc 3 [] 0 0 2 (prvF (kl (kf X) X.length []) d2 (IntKind.i64.wrap (IntKind.i64.wrap (e2 + sayF op y (ptrB a b c d e)) - 1))).fst.length (prvF (kl (kf X) X.length []) d2 (IntKind.i64.wrap (IntKind.i64.wrap (e2 + sayF op y (ptrB a b c d e)) - 1))).fst.length, AV.int IntKind.i64 (prvF 
    (kl (kf X) X.length []) d2 (IntKind.i64.wrap (IntKind.i64.wrap (e2 + sayF op y (ptrB a b c d e)) - 1))).snd], some (Row.cells [AV.arr 2 (prvF (kl (kf X) X.length []) d2 (IntKind.i64.wrap (IntKind.i64.wrap (e2 + sayF op y (ptrB a b c d e)) - 1))).fst.length (fun i => [AV.int IntKind.i64 ((prvF (kl (kf X) X.length []) d2 (IntKind.i64.wrap (IntKind.i64.wrap (e2 + sayF op y (ptrB a b c d e)) - 1))).fst.getD i (0, 0)).fst, AV.int IntKind.i64 ((prvF (kl (kf X) X.length []) d2 (IntKind.i64.wrap (IntKind.i64.wrap (e2 + sayF op y (ptrB a b c d e)) - 1))).fst.getD i (0, 0)).snd]) []] true true)) else none else some (AV.tup [AV.raw (Value.slice none 0 0), AV.int IntKind.i64 (Int.ofNat 171)], none) else bif sayF op y (ptrB a b c d e) == Int.ofNat 0 then bif okL (kf X) X.length [] && X.length.ble 140737488355328 && allId (kl (kf X) X.length []) then some (AV.tup [AV.slc 4 [] 0 0 2 (ofF 0 (nl (nf 
    (tabF zeros257 (kl (kf X) X.length []))) 257 [])).length (ofF 0 (nl (nf (tabF zeros257 (kl (kf X) X.length []))) 257 [])).length, AV.int IntKind.i64 (Int.ofNat 0)], some (Row.cells [AV.arr 2 (ofF 0 (nl (nf (tabF zeros257 (kl (kf X) X.length []))) 257 [])).length (fun i => [AV.int IntKind.i64 ((ofF 0 (nl (nf (tabF zeros257 (kl (kf X) X.length []))) 257 [])).getD i (0, 0)).fst, AV.int IntKind.i64 ((ofF 0 (nl (nf (tabF zeros257 (kl (kf X) X.length []))) 257 [])).getD i (0, 0)).snd]) []] true true)) else none else bif okL (kf X) X.length [] then some (AV.tup [AV.slc 3 [] 0 0 2 (prvF (kl (kf X) X.length []) d2 (IntKind.i64.wrap (IntKind.i64.wrap (e2 + sayF op y (ptrB a b c d e)) - 1))).fst.length (prvF (kl (kf X) X.length []) d2 (IntKind.i64.wrap (IntKind.i64.wrap (e2 + sayF op y (ptrB a b c d e)) - 1))).fst.length, AV.int IntKind.i64 (prvF (kl (kf X) X.length []) d2 (IntKind.i64.wrap 
    (IntKind.i64.wrap (e2 + sayF op y (ptrB a b c d e)) - 1))).snd], some (Row.cells [AV.arr 2 (prvF (kl (kf X) X.length []) d2 (IntKind.i64.wrap (IntKind.i64.wrap (e2 + sayF op y (ptrB a b c d e)) - 1))).fst.length (fun i => [AV.int IntKind.i64 ((prvF (kl (kf X) X.length []) d2 (IntKind.i64.wrap (IntKind.i64.wrap (e2 + sayF op y (ptrB a b c d e)) - 1))).fst.getD i (0, 0)).fst, AV.int IntKind.i64 ((prvF (kl (kf X) X.length []) d2 (IntKind.i64.wrap (IntKind.i64.wrap (e2 + sayF op y (ptrB a b c d e)) - 1))).fst.getD i (0, 0)).snd]) []] true true)) else none else bif endB a b c d e then bif bif true then !bif true then ptrB a2 b2 c2 d2 e2 else false else false then some (AV.tup [AV.raw (Value.slice none 0 0), AV.int IntKind.i64 (Int.ofNat 171)], none) else bif sayF op y (ptrB a b c d e) == Int.ofNat 0 then bif okL (kf X) X.length [] && X.length.ble 140737488355328 && allId (kl (kf X) X.length 
    []) then some (AV.tup [AV.slc 4 [] 0 0 2 (ofF 0 (nl (nf (tabF zeros257 (kl (kf X) X.length []))) 257 [])).length (ofF 0 (nl (nf (tabF zeros257 (kl (kf X) X.length []))) 257 [])).length, AV.int IntKind.i64 (Int.ofNat 0)], some (Row.cells [AV.arr 2 (ofF 0 (nl (nf (tabF zeros257 (kl (kf X) X.length []))) 257 [])).length (fun i => [AV.int IntKind.i64 ((ofF 0 (nl (nf (tabF zeros257 (kl (kf X) X.length []))) 257 [])).getD i (0, 0)).fst, AV.int IntKind.i64 ((ofF 0 (nl (nf (tabF zeros257 (kl (kf X) X.length []))) 257 [])).getD i (0, 0)).snd]) []] true true)) else none else bif okL (kf X) X.length [] then some (AV.tup [AV.slc 3 [] 0 0 2 (prvF (kl (kf X) X.length []) d2 (IntKind.i64.wrap (IntKind.i64.wrap (e2 + sayF op y (ptrB a b c d e)) - 1))).fst.length (prvF (kl (kf X) X.length []) d2 (IntKind.i64.wrap (IntKind.i64.wrap (e2 + sayF op y (ptrB a b c d e)) - 1))).fst.length, AV.int IntKind.i64 
    (prvF (kl (kf X) X.length []) d2 (IntKind.i64.wrap (IntKind.i64.wrap (e2 + sayF op y (ptrB a b c d e)) - 1))).snd], some (Row.cells [AV.arr 2 (prvF (kl (kf X) X.length []) d2 (IntKind.i64.wrap (IntKind.i64.wrap (e2 + sayF op y (ptrB a b c d e)) - 1))).fst.length (fun i => [AV.int IntKind.i64 ((prvF (kl (kf X) X.length []) d2 (IntKind.i64.wrap (IntKind.i64.wrap (e2 + sayF op y (ptrB a b c d e)) - 1))).fst.getD i (0, 0)).fst, AV.int IntKind.i64 ((prvF (kl (kf X) X.length []) d2 (IntKind.i64.wrap (IntKind.i64.wrap (e2 + sayF op y (ptrB a b c d e)) - 1))).fst.getD i (0, 0)).snd]) []] true true)) else none else some (AV.tup [AV.raw (Value.slice none 0 0), AV.int IntKind.i64 (Int.ofNat 171)], none) else bif ptrB a b c d e then bif !bif true then endB a2 b2 c2 d2 e2 else false then bif endB a b c d e then bif bif true then !bif true then ptrB a2 b2 c2 d2 e2 else false else false then some 
    (AV.tup [AV.raw (Value.slice none 0 0), AV.int IntKind.i64 (Int.ofNat 171)], none) else bif sayF op y (ptrB a b c d e) == Int.ofNat 0 then bif okL (kf X) X.length [] && X.length.ble 140737488355328 && allId (kl (kf X) X.length []) then some (AV.tup [AV.slc 4 [] 0 0 2 (ofF 0 (nl (nf (tabF zeros257 (kl (kf X) X.length []))) 257 [])).length (ofF 0 (nl (nf (tabF zeros257 (kl (kf X) X.length []))) 257 [])).length, AV.int IntKind.i64 (Int.ofNat 0)], some (Row.cells [AV.arr 2 (ofF 0 (nl (nf (tabF zeros257 (kl (kf X) X.length []))) 257 [])).length (fun i => [AV.int IntKind.i64 ((ofF 0 (nl (nf (tabF zeros257 (kl (kf X) X.length []))) 257 [])).getD i (0, 0)).fst, AV.int IntKind.i64 ((ofF 0 (nl (nf (tabF zeros257 (kl (kf X) X.length []))) 257 [])).getD i (0, 0)).snd]) []] true true)) else none else bif okL (kf X) X.length [] then some (AV.tup [AV.slc 3 [] 0 0 2 (prvF (kl (kf X) X.length []) d 
    (IntKind.i64.wrap (IntKind.i64.wrap (e + sayF op y (ptrB a b c d e)) - 1))).fst.length (prvF (kl (kf X) X.length []) d (IntKind.i64.wrap (IntKind.i64.wrap (e + sayF op y (ptrB a b c d e)) - 1))).fst.length, AV.int IntKind.i64 (prvF (kl (kf X) X.length []) d (IntKind.i64.wrap (IntKind.i64.wrap (e + sayF op y (ptrB a b c d e)) - 1))).snd], some (Row.cells [AV.arr 2 (prvF (kl (kf X) X.length []) d (IntKind.i64.wrap (IntKind.i64.wrap (e + sayF op y (ptrB a b c d e)) - 1))).fst.length (fun i => [AV.int IntKind.i64 ((prvF (kl (kf X) X.length []) d (IntKind.i64.wrap (IntKind.i64.wrap (e + sayF op y (ptrB a b c d e)) - 1))).fst.getD i (0, 0)).fst, AV.int IntKind.i64 ((prvF (kl (kf X) X.length []) d (IntKind.i64.wrap (IntKind.i64.wrap (e + sayF op y (ptrB a b c d e)) - 1))).fst.getD i (0, 0)).snd]) []] true true)) else none else some (AV.tup [AV.raw (Value.slice none 0 0), AV.int IntKind.i64 
    (Int.ofNat 171)], none) else bif sayF op y (ptrB a b c d e) == Int.ofNat 0 then bif okL (kf X) X.length [] && X.length.ble 140737488355328 && allId (kl (kf X) X.length []) then some (AV.tup [AV.slc 4 [] 0 0 2 (ofF 0 (nl (nf (tabF zeros257 (kl (kf X) X.length []))) 257 [])).length (ofF 0 (nl (nf (tabF zeros257 (kl (kf X) X.length []))) 257 [])).length, AV.int IntKind.i64 (Int.ofNat 0)], some (Row.cells [AV.arr 2 (ofF 0 (nl (nf (tabF zeros257 (kl (kf X) X.length []))) 257 [])).length (fun i => [AV.int IntKind.i64 ((ofF 0 (nl (nf (tabF zeros257 (kl (kf X) X.length []))) 257 [])).getD i (0, 0)).fst, AV.int IntKind.i64 ((ofF 0 (nl (nf (tabF zeros257 (kl (kf X) X.length []))) 257 [])).getD i (0, 0)).snd]) []] true true)) else none else bif okL (kf X) X.length [] then some (AV.tup [AV.slc 3 [] 0 0 2 (prvF (kl (kf X) X.length []) d (IntKind.i64.wrap (IntKind.i64.wrap (e + sayF op y (ptrB a b c d 
    e)) - 1))).fst.length (prvF (kl (kf X) X.length []) d (IntKind.i64.wrap (IntKind.i64.wrap (e + sayF op y (ptrB a b c d e)) - 1))).fst.length, AV.int IntKind.i64 (prvF (kl (kf X) X.length []) d (IntKind.i64.wrap (IntKind.i64.wrap (e + sayF op y (ptrB a b c d e)) - 1))).snd], some (Row.cells [AV.arr 2 (prvF (kl (kf X) X.length []) d (IntKind.i64.wrap (IntKind.i64.wrap (e + sayF op y (ptrB a b c d e)) - 1))).fst.length (fun i => [AV.int IntKind.i64 ((prvF (kl (kf X) X.length []) d (IntKind.i64.wrap (IntKind.i64.wrap (e + sayF op y (ptrB a b c d e)) - 1))).fst.getD i (0, 0)).fst, AV.int IntKind.i64 ((prvF (kl (kf X) X.length []) d (IntKind.i64.wrap (IntKind.i64.wrap (e + sayF op y (ptrB a b c d e)) - 1))).fst.getD i (0, 0)).snd]) []] true true)) else none else bif endB a b c d e then bif bif true then !bif true then ptrB a2 b2 c2 d2 e2 else false else false then some (AV.tup [AV.raw 
    (Value.slice none 0 0), AV.int IntKind.i64 (Int.ofNat 171)], none) else bif sayF op y (ptrB a b c d e) == Int.ofNat 0 then bif okL (kf X) X.length [] && X.length.ble 140737488355328 && allId (kl (kf X) X.length []) then some (AV.tup [AV.slc 4 [] 0 0 2 (ofF 0 (nl (nf (tabF zeros257 (kl (kf X) X.length []))) 257 [])).length (ofF 0 (nl (nf (tabF zeros257 (kl (kf X) X.length []))) 257 [])).length, AV.int IntKind.i64 (Int.ofNat 0)], some (Row.cells [AV.arr 2 (ofF 0 (nl (nf (tabF zeros257 (kl (kf X) X.length []))) 257 [])).length (fun i => [AV.int IntKind.i64 ((ofF 0 (nl (nf (tabF zeros257 (kl (kf X) X.length []))) 257 [])).getD i (0, 0)).fst, AV.int IntKind.i64 ((ofF 0 (nl (nf (tabF zeros257 (kl (kf X) X.length []))) 257 [])).getD i (0, 0)).snd]) []] true true)) else none else bif okL (kf X) X.length [] then some (AV.tup [AV.slc 3 [] 0 0 2 (prvF (kl (kf X) X.length []) d (IntKind.i64.wrap 
    (IntKind.i64.wrap (e + sayF op y (ptrB a b c d e)) - 1))).fst.length (prvF (kl (kf X) X.length []) d (IntKind.i64.wrap (IntKind.i64.wrap (e + sayF op y (ptrB a b c d e)) - 1))).fst.length, AV.int IntKind.i64 (prvF (kl (kf X) X.length []) d (IntKind.i64.wrap (IntKind.i64.wrap (e + sayF op y (ptrB a b c d e)) - 1))).snd], some (Row.cells [AV.arr 2 (prvF (kl (kf X) X.length []) d (IntKind.i64.wrap (IntKind.i64.wrap (e + sayF op y (ptrB a b c d e)) - 1))).fst.length (fun i => [AV.int IntKind.i64 ((prvF (kl (kf X) X.length []) d (IntKind.i64.wrap (IntKind.i64.wrap (e + sayF op y (ptrB a b c d e)) - 1))).fst.getD i (0, 0)).fst, AV.int IntKind.i64 ((prvF (kl (kf X) X.length []) d (IntKind.i64.wrap (IntKind.i64.wrap (e + sayF op y (ptrB a b c d e)) - 1))).fst.getD i (0, 0)).snd]) []] true true)) else none else some (AV.tup [AV.raw (Value.slice none 0 0), AV.int IntKind.i64 (Int.ofNat 171)], 
    none) else none) := by kernel_rfl
end Go.Sv
namespace Go.Sv
open Go.RowKit Go.Proofs
set_option linter.unusedSimpArgs false
theorem of_tab {X : List (Int × Int)} (h : chkF (-1) X = true) : ofF 0 (nl (nf (tabF zeros257 X)) 257 []) = X := by
  have hl : (tabF zeros257 X).length = 257 := (tabF_length _ _).trans zeros_len
  have h1 : nl (nf (tabF zeros257 X)) 257 [] = tabF zeros257 X := by
    have := nl_nf (tabF zeros257 X)
    rw [hl] at this
    exact this
  rw [h1, tabF_eq (chk_book h)]
  exact can_chk h
theorem say_cases (op : Int) (y f : Bool) : sayF op y f = 0 ∨ sayF op y f = 1 ∨ sayF op y f = 2 := by
  unfold sayF
  cases (op == 29) <;> cases (op == 30) <;> cases (op == 31) <;> cases (op == 32) <;> cases y <;> cases f <;> simp
theorem ptr_wrap1 {a b c d e : Int} (h : ptrB a b c d e = true) : IntKind.i64.wrap (IntKind.i64.wrap (e + 1) - 1) = e := by
  have := ptr_off h
  rw [wrap_in64 (x := e + 1) (by omega) (by omega), wrap_in64 (by omega) (by omega)]
  omega
theorem ptr_wrap2 {a b c d e : Int} (h : ptrB a b c d e = true) : IntKind.i64.wrap (IntKind.i64.wrap (e + 2) - 1) = e + 1 := by
  have := ptr_off h
  rw [wrap_in64 (x := e + 2) (by omega) (by omega), wrap_in64 (by omega) (by omega)]
  omega
theorem end_ptr {a b c d e : Int} (h : endB a b c d e = true) : ptrB a b c d e = false := by
  simp only [endB, Bool.and_eq_true, beq_iff_eq] at h
  obtain ⟨⟨rfl, _⟩, _⟩ := h
  rfl
theorem range_op (op : Int) : (decide (op < 29) || decide (op > 32)) = bif decide (op < 29) then true else decide (op > 32) := by cases decide (op < 29) <;> rfl
theorem soShoR (op : Int) (y : Bool) : okSho 27 op y := fun X a b c d e a2 b2 c2 d2 e2 => by
  have e0 : (chkE X != Int.ofNat 0) = (chkE X != 0) := rfl
  have hev := evShoR X op y a b c d e a2 b2 c2 d2 e2
  cases hb : (chkE X != 0) with
  | true =>
    have hs : shoF X op y a b c d e a2 b2 c2 d2 e2 = ([], chkE X) := by simp only [shoF, hb, cond_true]
    rw [hs]
    simp only [kl_kf, okL_kf, e0, hb, cond_true] at hev
    exact shown_nil rfl KCK_ok l0_ok hev
  | false =>
    obtain ⟨h1, h2⟩ := chkE_ok hb
    obtain ⟨l1, l2, l3, l4, l5⟩ := list_conds h1 h2
    have l6 : X.length.ble 140737488355328 = true := Nat.ble_eq_true_of_le (by omega)
    have l7 := allId_book (chk_book h2)
    simp only [kl_kf, okL_kf, e0, hb, cond_true, cond_false, l6, l7, of_tab h2, Bool.and_self, Bool.not_true, Bool.not_false] at hev
    cases ho : decide (op < 29) with
    | true =>
      have hs : shoF X op y a b c d e a2 b2 c2 d2 e2 = ([], 2) := by simp only [shoF, hb, ho, Bool.true_or, cond_true, cond_false]
      rw [hs]
      simp only [ho, cond_true] at hev
      exact shown_nil rfl KCK_ok l0_ok hev
    | false =>
    cases ho2 : decide (op > 32) with
    | true =>
      have hs : shoF X op y a b c d e a2 b2 c2 d2 e2 = ([], 2) := by simp only [shoF, hb, ho, ho2, Bool.or_true, cond_true, cond_false]
      rw [hs]
      simp only [ho, ho2, cond_true, cond_false] at hev
      exact shown_nil rfl KCK_ok l0_ok hev
    | false =>
      simp only [ho, ho2, cond_true, cond_false] at hev
      cases hp : ptrB a b c d e <;> cases he : endB a2 b2 c2 d2 e2 <;> cases hp2 : ptrB a2 b2 c2 d2 e2 <;> cases he2 : endB a b c d e
      all_goals first
        | (exfalso; rw [end_ptr he2] at hp; exact Bool.false_ne_true hp)
        | (exfalso; rw [end_ptr he] at hp2; exact Bool.false_ne_true hp2)
        | skip
      all_goals simp only [hp, he, hp2, he2, cond_true, cond_false, Bool.not_true, Bool.not_false] at hev
      all_goals simp only [shoF, hb, ho, ho2, hp, he, hp2, he2, Bool.or_self, Bool.and_self, Bool.and_true, Bool.and_false, Bool.false_and, Bool.true_and, cond_true, cond_false]
      all_goals first
        | exact shown_nil rfl KCK_ok l0_ok hev
        | (rcases say_cases op y true with hs | hs | hs
           · rw [hs] at hev ⊢
             exact shown_list rfl KCK_ok l0_ok hev
           · rw [hs, ptr_wrap1 hp] at hev
             rw [hs, act1]
             exact shown_list rfl KCK_ok l0_ok hev
           · rw [hs, ptr_wrap2 hp] at hev
             rw [hs, act2]
             exact shown_list rfl KCK_ok l0_ok hev)
        | (rcases say_cases op y false with hs | hs | hs
           · rw [hs] at hev ⊢
             exact shown_list rfl KCK_ok l0_ok hev
           · rw [hs, ptr_wrap1 hp2] at hev
             rw [hs, act1]
             exact shown_list rfl KCK_ok l0_ok hev
           · rw [hs, ptr_wrap2 hp2] at hev
             rw [hs, act2]
             exact shown_list rfl KCK_ok l0_ok hev)
theorem evShoOut (X : List (Int × Int)) (op : Int) (y : Bool) (a b c d e a2 b2 c2 d2 e2 : Int) : evFn Try.prog KCI LCI (regB Try.prog) 8 26 [.lst 2 (kf X) X.length [], .int .u8 op, .bool y, vB a b c d e, vB a2 b2 c2 d2 e2] ⟨0, []⟩ kSho =
  (bif okL (kf X) X.length [] then bif chkE (kl (kf X) X.length []) != Int.ofNat 0 then bif chkE (kl (kf X) X.length []) != Int.ofNat 0 then some (AV.tup [AV.raw (Value.slice none 0 0), AV.int IntKind.i64 (chkE (kl (kf X) X.length []))], none) else bif decide (op < 29) then some (AV.tup [AV.raw (Value.slice none 0 0), AV.int IntKind.i64 (Int.ofNat 2)], none) else bif bif false then true else decide (op > 32) then some (AV.tup [AV.raw (Value.slice none 0 0), AV.int IntKind.i64 (Int.ofNat 2)], none) else none else bif decide (op < 29) then some (AV.tup [AV.raw (Value.slice none 0 0), AV.int IntKind.i64 (Int.ofNat 2)], none) else bif bif false then true else decide (op > 32) then some (AV.tup [AV.raw (Value.slice none 0 0), AV.int IntKind.i64 (Int.ofNat 2)], none) else none else none) := by kernel_rfl
theorem soSho1 (op : Int) (y : Bool) : okSho 26 op y := by
  by_cases h29 : op = 29
  · subst h29; cases y; exact soSho29f; exact soSho29t
  by_cases h30 : op = 30
  · subst h30; cases y; exact soSho30f; exact soSho30t
  by_cases h31 : op = 31
  · subst h31; cases y; exact soSho31f; exact soSho31t
  by_cases h32 : op = 32
  · subst h32; cases y; exact soSho32f; exact soSho32t
  intro X a b c d e a2 b2 c2 d2 e2
  have e0 : (chkE X != Int.ofNat 0) = (chkE X != 0) := rfl
  have hev := evShoOut X op y a b c d e a2 b2 c2 d2 e2
  cases hb : (chkE X != 0) with
  | true =>
    have hs : shoF X op y a b c d e a2 b2 c2 d2 e2 = ([], chkE X) := by simp only [shoF, hb, cond_true]
    rw [hs]
    simp only [kl_kf, okL_kf, e0, hb, cond_true] at hev
    exact shown_nil rfl KCI_ok LCI_ok hev
  | false =>
    have ho : (decide (op < 29) || decide (op > 32)) = true := by
      simp only [Bool.or_eq_true, decide_eq_true_eq]; omega
    have hs : shoF X op y a b c d e a2 b2 c2 d2 e2 = ([], 2) := by simp only [shoF, hb, ho, cond_true, cond_false]
    rw [hs]
    simp only [kl_kf, okL_kf, e0, hb, cond_true, cond_false] at hev
    cases h1 : decide (op < 29) with
    | true =>
      simp only [h1, cond_true] at hev
      exact shown_nil rfl KCI_ok LCI_ok hev
    | false =>
      rw [h1, Bool.false_or] at ho
      simp only [h1, ho, cond_true, cond_false] at hev
      exact shown_nil rfl KCI_ok LCI_ok hev
def fSho (R : Type) (vs : List AV) (k : AV → AS → Option R) : Option R :=
  match vs with
  | [.lst 2 f n us, .int .u8 op, .bool y, .agg [.int .u8 a, .int .u64 b, .int .u64 c, .int .i64 d, .int .i64 e], .agg [.int .u8 a2, .int .u64 b2, .int .u64 c2, .int .i64 d2, .int .i64 e2]] =>
    bif okL f n us then k (.tup [.slc 0 [] 0 0 2 (shoF (kl f n us) op y a b c d e a2 b2 c2 d2 e2).1.length (shoF (kl f n us) op y a b c d e a2 b2 c2 d2 e2).1.length, .int .i64 (shoF (kl f n us) op y a b c d e a2 b2 c2 d2 e2).2]) ⟨1, [(0, rOf (shoF (kl f n us) op y a b c d e a2 b2 c2 d2 e2).1)]⟩ else none
  | _ => none
theorem fn_sho {g : FuncId} (hg : ∀ op y, okSho g op y) : FnOk Try.prog g fSho := fun R vs k r h => by
  unfold fSho at h
  split at h
  · rename_i f n us op y a b c d e a2 b2 c2 d2 e2
    obtain ⟨hc, h⟩ := cond_some h
    exact ⟨_, _, h, flat_list, SoundFn.args (vs' := [.lst 2 (kf (kl f n us)) (kl f n us).length [], .int .u8 op, .bool y, vB a b c d e, vB a2 b2 c2 d2 e2]) (hg op y _ a b c d e a2 b2 c2 d2 e2) fun κ ys hy => hy.cons_map (fun y hy => by rw [kl_length]; exact hy.pairs hc) (fun _ h => h) rfl⟩
  · cases h
theorem okSho1 : FnOk Try.prog 26 fSho := fn_sho soSho1
theorem okSho2 : FnOk Try.prog 27 fSho := fn_sho soShoR
theorem shoF_len (X : List (Int × Int)) (op : Int) (y : Bool) (a b c d e a2 b2 c2 d2 e2 : Int) : (shoF X op y a b c d e a2 b2 c2 d2 e2).1.length ≤ 257 := by
  unfold shoF
  cases hb : (chkE X != 0) with
  | true => simp
  | false =>
    have hx := (chkE_ok hb).1
    have ha : ∀ s d e, (actF X s d e).1.length ≤ 257 := fun s d e => by
      unfold actF
      cases (s == 0) with
      | true => exact hx
      | false => exact prvF_len _ _ _
    cases (decide (op < 29) || decide (op > 32)) <;> cases (ptrB a b c d e && endB a2 b2 c2 d2 e2) <;> cases (endB a b c d e && ptrB a2 b2 c2 d2 e2)
    all_goals first
      | exact ha _ _ _
      | simp
def hasCL : FuncId → Bool := addHas 24 (addHas 25 (addHas 26 (addHas 27 hasCE)))
def specCL : SpecT := addS 24 fWit (addS 25 fWit (addS 26 fSho (addS 27 fSho specCE)))
theorem specCL_ok : SpecOk Try.prog hasCL specCL := addS_ok okWit1 (addS_ok okWit2 (addS_ok okSho1 (addS_ok okSho2 specCE_ok)))
def KCL : KT := orK (specK hasCL specCL) KX
theorem KCL_ok : KOk Try.prog KCL := orK_ok (specK_ok specCL_ok) KX_ok
end Go.Sv
