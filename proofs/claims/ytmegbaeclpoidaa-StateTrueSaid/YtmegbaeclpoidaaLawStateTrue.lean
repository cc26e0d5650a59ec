/- The statement StateTrue, out of its walk: for every input the law's call returns true, and its arguments read behind it as they read before. No conditions. -/
import Derived.Test.YtmegbaeclpoidaaRows
import Derived.Test.YtmegbaeclpoidaaPureStateTrue
import Derived.WalkKit
import Derived.ProofKit
import Derived.OpenShut
import Derived.ShutString
import Derived.ChangeOld
import Derived.Below
import Derived.SizedLaws
import Derived.Carry
namespace Go.Proofs.Ytmegbaeclpoidaa.stateTrue
open Go.ChangeShapes Go.WideShapes Go.ChangeAt Go.RowKit
set_option linter.unusedVariables false
theorem own : ownKnob Try.prog.godebug = none := by kernel_rfl
theorem laidOut : laidOutB Try.prog = true := by kernel_rfl
open Go.Sv (kf kapOf VRel CRel)
theorem bytes30 : Try.prog.bytesOf 30 = 8 := by kernel_rfl
set_option maxRecDepth 100000 in
theorem lifted (os : Os) (started : os.Started) (H : Type) (enc : TypeId × Value → H) :
    ReturnsInHanded {} Try.checked os 16 .any (Rows.stateTrueSpec.pre6 enc Try.prog Try.f16 Rows.stateTrueRow.domain false) (Rows.stateTrueSpec.post enc Try.prog Try.f16 false true false false) := by
  refine returnsInHanded_of_change_sized (C := Try.checked) own started (by kernel_rfl) Try.func16
    (ChangeSpec.witness6 (enc := enc) (C := Try.checked) false ⟨#[], #[(Go.Proofs.Ytmegbaeclpoidaa.Law.stateTrue_z0), (Go.Proofs.Ytmegbaeclpoidaa.Law.stateTrue_z1), .slice none 0 0], []⟩ 8 (by kernel_rfl) (by kernel_rfl) (by kernel_rfl) (by kernel_rfl)) ?_
  intro W base args ds gs before hval0 hW hcnd hsz0 _
  have hsz : (DataW.weightsEach Try.prog (Try.f16.params.toList ++ Rows.stateTrueSpec.plain.varTypes Try.prog) (ds ++ gs)).all (· ≤ reachBytes) = true := hsz0
  clear hsz0
  have hval : ∀ (j : Nat) t v, Try.f16.params[j]? = some t → args[j]? = some v → Value.okWide Try.prog W .any base t v := hval0
  have hW' := hW
  obtain ⟨p, q, hA0, hV, rfl, hfz, hnd⟩ := hW
  have hA : DataW.TrodAll enc Try.prog W 0 (fun _ => true) true Try.f16.params.toList args.toList ds p := hA0
  rw [Try.params16] at hA hval hsz
  obtain ⟨v0, vs0, d0, ds0, p0, q0, hargs, rfl, rfl, h0, r0⟩ := trodAll_cons hA
  obtain ⟨v1, vs1, d1, ds1, p1, q1, rfl, rfl, rfl, h1, r1⟩ := trodAll_cons r0
  obtain ⟨v2, vs2, d2, ds2, p2, q2, rfl, rfl, rfl, h2, r2⟩ := trodAll_cons r1
  obtain ⟨rfl, rfl, rfl⟩ := trodAll_nil r2
  obtain rfl : args = #[v0, v1, v2] := by cases args; simp_all
  obtain ⟨rfl, rfl⟩ := trodVars_none hV
  have k0 := h0
  have lt0 : ∀ x ∈ p0, x.block < W.heap.size := by obtain ⟨m, hm⟩ := k0; exact DataW.trod_lt m _ _ _ hm
  obtain ⟨a0, rfl, g0⟩ := Go.Sv.open_shape (ks := Go.Proofs.Ytmegbaeclpoidaa.Law.stateTrue_sh0) Try.underlying67 (by kernel_rfl) (hval 0 67 v0 rfl rfl) (Go.Sv.sized_each hsz (j := 0) rfl rfl) h0
  have k1 := h1
  have lt1 : ∀ x ∈ p1, x.block < W.heap.size := by obtain ⟨m, hm⟩ := k1; exact DataW.trod_lt m _ _ _ hm
  obtain ⟨a1, rfl, g1⟩ := Go.Sv.open_shape (ks := Go.Proofs.Ytmegbaeclpoidaa.Law.stateTrue_sh1) Try.underlying67 (by kernel_rfl) (hval 1 67 v1 rfl rfl) (Go.Sv.sized_each hsz (j := 1) rfl rfl) h1
  have k2 := h2
  have lt2 : ∀ x ∈ p2, x.block < W.heap.size := by obtain ⟨m, hm⟩ := k2; exact DataW.trod_lt m _ _ _ hm
  obtain ⟨a2, c2, g2, z2⟩ := Go.Sv.open_nums Try.underlying84 Try.underlying30 (by kernel_rfl) (hval 2 84 v2 rfl rfl) h2
  have s2 : a2.length * 8 ≤ reachBytes := by
    rcases z2 with rfl | ⟨es, sp, rfl, hes⟩
    · simp
    · have := sized_slice hsz (j := 2) (t := 84) (e := 30) rfl rfl Try.underlying84
      rw [bytes30] at this
      omega
  clear hA0 hval0
  refine (Go.Proofs.Ytmegbaeclpoidaa.Law.stateTrue_walk W a0 a1 v2 a2 g0 g1 c2 g2 s2).mono fun e W' ⟨he, bel⟩ => ?_
  subst he
  exact ⟨_, rfl, _, _, _, [], _, [], hW', trodAll_mk1 (shut_bool Try.underlying4 _), (trodAll_cons_mk (Below.trod laidOut (by kernel_rfl) (of_decide_eq_true (by kernel_rfl)) k0 bel lt0) (trodAll_cons_mk (Below.trod laidOut (by kernel_rfl) (of_decide_eq_true (by kernel_rfl)) k1 bel lt1) (trodAll_cons_mk (Below.trod laidOut (by kernel_rfl) (of_decide_eq_true (by kernel_rfl)) k2 bel lt2) trodAll_mk0))), rfl, bel.frame _, fun h => by cases h⟩
theorem over : Rows.stateTrueRow.holds Try.pinned (OpenSpec.ofChange Rows.stateTrueSpec) :=
  OpenClaim.holds_of_wide 16 Try.f16 rfl rfl rfl rfl rfl rfl rfl ⟨rfl, rfl, rfl, rfl, rfl⟩ rfl rfl rfl rfl rfl (by kernel_rfl) Try.func16 (by kernel_rfl)
    (of_decide_eq_true (by kernel_rfl)) (by unfold Func.isWrapper; first | (rw [if_pos (by decide +kernel)]; kernel_rfl) | (rw [if_neg (by decide +kernel)]; exact ⟨rfl, rfl⟩))
    (fun os started H enc _ => lifted os started H enc)
theorem proved : Rows.StateTrueSaid := over
#print axioms proved
end Go.Proofs.Ytmegbaeclpoidaa.stateTrue
namespace Go.Proofs.Ytmegbaeclpoidaa
/-- The row, under a short name, for the claim. -/
theorem stateTrue_holds : Rows.StateTrueSaid := stateTrue.proved
end Go.Proofs.Ytmegbaeclpoidaa

