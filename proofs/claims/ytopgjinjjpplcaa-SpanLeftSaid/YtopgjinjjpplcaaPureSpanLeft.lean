/- The walk of SpanLeft: for all spans and numbers its call returns true. No conditions. -/
import Derived.Test.YtopgjinjjpplcaaL2
import Derived.Test.YtopgjinjjpplcaaBe
namespace Go.Proofs.Ytopgjinjjpplcaa.Law
open Go.Sv Go.RowKit Go.Proofs
set_option linter.unusedSimpArgs false
def spanLeft_sh0 : List Sh := [.int .u64, .int .u64, .int .u64, .int .u64, .int .u64, .int .u64]
def spanLeft_z0 : Value := .agg #[.int .u64 0, .int .u64 0, .int .u64 0, .int .u64 0, .int .u64 0, .int .u64 0]
open Go.Ev in
theorem spanLeft_ev (a b c d X Y : Int) : Go.Sv.evFn Try.prog KSL LSL (Go.Sv.regB Try.prog) 60 8 [.agg [.int .u64 a, .int .u64 b, .int .u64 c, .int .u64 d, .int .u64 X, .int .u64 Y]] ⟨0, []⟩ Go.Sv.ret =
  (bif chkE2 a b != Int.ofNat 0 then
    bif cutE (Int.ofNat 27) a b c d == Int.ofNat 150 then some (AV.bool (bif true then !cutI (Int.ofNat 27) true a b c d else false)) else some (AV.bool false)
  else bif bif false then true else chkE2 c d != Int.ofNat 0 then
    bif cutE (Int.ofNat 27) a b c d == Int.ofNat 150 then some (AV.bool (bif true then !cutI (Int.ofNat 27) true a b c d else false)) else some (AV.bool false)
  else bif okS a b && inU X then bif okS c d && inU Y then
      bif true && (okS a b && okS c d && (hasB a b (insI a b X) && hasB c d (insI c d Y))) then some (AV.bool true) else none
    else none else none) := by kernel_rfl
open Go.Ev in
theorem spanLeft_true {a b c d X Y : Int} (ha : inU a = true) (hb : inU b = true) (hc : inU c = true) (hd : inU d = true) (hX : inU X = true) (hY : inU Y = true) : Go.Sv.evFn Try.prog KSL LSL (Go.Sv.regB Try.prog) 60 8 [.agg [.int .u64 a, .int .u64 b, .int .u64 c, .int .u64 d, .int .u64 X, .int .u64 Y]] ⟨0, []⟩ Go.Sv.ret = some (.bool true) := by
  rw [spanLeft_ev]
  have early : (decide (b < a) || decide (d < c)) = true → cutE (Int.ofNat 27) a b c d = 150 ∧ cutI (Int.ofNat 27) true a b c d = false := fun h => by
    have e : cutE (Int.ofNat 27) a b c d = 150 := by
      unfold cutE
      rw [h]; rfl
    refine ⟨e, ?_⟩
    unfold cutI
    rw [e]; rfl
  by_cases h1 : b < a
  · have k1 : chkE2 a b = 150 := by unfold chkE2; rw [decide_eq_true h1]; rfl
    obtain ⟨e1, e2⟩ := early (by rw [decide_eq_true h1]; rfl)
    rw [k1, e1, e2]; rfl
  · have k1 : chkE2 a b = 0 := by unfold chkE2; rw [decide_eq_false h1]; rfl
    by_cases h2 : d < c
    · have k2 : chkE2 c d = 150 := by unfold chkE2; rw [decide_eq_true h2]; rfl
      obtain ⟨e1, e2⟩ := early (by rw [decide_eq_true h2, Bool.or_true])
      rw [k1, k2, e1, e2]; rfl
    · have k2 : chkE2 c d = 0 := by unfold chkE2; rw [decide_eq_false h2]; rfl
      have s1 : okS a b = true := by unfold okS; rw [ha, hb, decide_eq_true (by omega : a ≤ b)]; rfl
      have s2 : okS c d = true := by unfold okS; rw [hc, hd, decide_eq_true (by omega : c ≤ d)]; rfl
      have i1 := insI_in s1 hX
      have i2 := insI_in s2 hY
      have q1 : hasB a b (insI a b X) = true := by unfold hasB; rw [decide_eq_true i1.1, decide_eq_true i1.2]; rfl
      have q2 : hasB c d (insI c d Y) = true := by unfold hasB; rw [decide_eq_true i2.1, decide_eq_true i2.2]; rfl
      rw [k1, k2, s1, s2, hX, hY, q1, q2]; rfl
theorem inU_of {n : Int} (h : (Lit.int .u64 n).wf = true) : Go.Ev.inU n = true := by
  simp [Lit.wf, IntKind.min, IntKind.max, IntKind.signed, IntKind.bits] at h
  simp only [Go.Ev.inU, Bool.and_eq_true, decide_eq_true_eq]
  omega
theorem spanLeft_walk (w : World) (x : List Value) (g0 : Fit w spanLeft_sh0 x) : CallsV Try.prog 8 [.agg ⟨x⟩] (.bool true) w := by
  obtain ⟨a, _, rfl, w1, h⟩ := g0.int_inv
  obtain ⟨b, _, rfl, w2, h⟩ := h.int_inv
  obtain ⟨c, _, rfl, w3, h⟩ := h.int_inv
  obtain ⟨d, _, rfl, w4, h⟩ := h.int_inv
  obtain ⟨X, _, rfl, w5, h⟩ := h.int_inv
  obtain ⟨Y, _, rfl, w6, h⟩ := h.int_inv
  obtain rfl := h.nil_inv
  exact calls_of_ev (gh := fun _ => .nilFunc) sprog_ok.1 sprog_ok.2 KSL_ok LSL_ok rfl (.agg _ _ (.int _ _ (.int _ _ (.int _ _ (.int _ _ (.int _ _ (.int _ _ .nil)))))) .nil) (spanLeft_true (inU_of w1) (inU_of w2) (inU_of w3) (inU_of w4) (inU_of w5) (inU_of w6))
end Go.Proofs.Ytopgjinjjpplcaa.Law
