/- The walk of StateTurned: for all states and numbers its call returns true. Condition: the lists' sizes, which are a row's own. -/
import Derived.Test.YtmegbaeclpoidaaBr
namespace Go.Proofs.Ytmegbaeclpoidaa.Law
open Go.Sv Go.RowKit Go.Proofs
set_option linter.unusedSimpArgs false
def stateTurned_sh0 : List Sh := stSh
def stateTurned_sh1 : List Sh := stSh
def stateTurned_z0 : Value := stZ
def stateTurned_z1 : Value := stZ
theorem stateTurned_ev (a b : St) (at1 : Int) : evFn Try.prog KSD LSE (regB Try.prog) 100 14 [stA a, stA b, .int .i64 at1] ⟨0, []⟩ ret =
  (bif true && okL (kf a.kn) a.kn.length [] then bif true && okL (kf b.kn) b.kn.length [] then bif (joiR (stL a) (stL b)).snd != 0 then some (AV.bool true) else bif true && (true && (okL (kf (joiR (stL a) (stL b)).fst.kn) (joiR (stL a) (stL b)).fst.kn.length [] && (decide ((joiR (stL a) (stL b)).fst.kn.length = (joiR (stL a) (stL b)).fst.kn.length) && decide ((joiR (stL a) (stL b)).fst.kn.length = (joiR (stL a) (stL b)).fst.kn.length)))) && (decide (0 ≤ at1 % 256) && decide (at1 % 256 < 256)) then bif true && okL (kf a.kn) a.kn.length [] then bif chkB (stL a) && chkB (stL (joiR (stL a) (stL b)).fst) && undT (stL a) (stL (joiR (stL a) (stL b)).fst) then some (AV.bool true) else none else none else none else none else none) := by kernel_rfl
theorem stateTurned_true (a b : St) (at1 : Int) : evFn Try.prog KSD LSE (regB Try.prog) 100 14 [stA a, stA b, .int .i64 at1] ⟨0, []⟩ ret = some (.bool true) := by
  rw [stateTurned_ev]
  have j0 : ∀ x y, chkB x = false ∨ chkB y = false → joiR x y = (t0, 2) := fun x y h => by
    unfold joiR
    rcases h with h | h <;> rw [h]
    · rfl
    · rw [Bool.and_false]; rfl
  simp only [stL_eq, okL_kf, kl_kf, chkI_ne, add0_zero, ble_self, Bool.and_self, Bool.true_and, cond_true, cond_false]
  cases ha : chkB a with
  | false =>
    simp only [j0 a b (.inl ha)]
    rfl
  | true =>
    cases hb : chkB b with
    | false =>
      simp only [j0 a b (.inr hb)]
      rfl
    | true =>
      have ca := chkB_iff.1 ha
      have cb := chkB_iff.1 hb
      have cs := joiT_chk ca cb
      have hs := chkB_iff.2 cs
      have u1 : undT a (joiT a b) = true := (undT_iff ca cs).2 (und_joi1 ca cb)
      have h0 : decide (0 ≤ at1 % 256) = true := decide_eq_true (by omega)
      have h1 : decide (at1 % 256 < 256) = true := decide_eq_true (by omega)
      simp only [joiR_of ha hb, ha, hs, u1, h0, h1, okL_kf, kl_kf, stL_eq, decide_true, Bool.and_self, cond_true, cond_false]
      rfl
theorem stateTurned_walk (w : World) (x y : List Value) (at1 : Int) (g0 : Fit w stateTurned_sh0 x) (g1 : Fit w stateTurned_sh1 y) (_ : (Lit.int .i64 at1).wf = true) :
    CallsV Try.prog 14 [.agg ⟨x⟩, .agg ⟨y⟩, .int .i64 at1] (.bool true) w := by
  obtain ⟨a, _, ha⟩ := st_fit g0
  obtain ⟨b, _, hb⟩ := st_fit g1
  exact calls_of_ev (gh := fun _ => .nilFunc) sprog_ok.1 sprog_ok.2 KSD_ok LSE_ok rfl (CRel.append (xs := [_]) (ys := [_]) (ha _) (CRel.append (xs := [_]) (ys := [_]) (hb _) (.int _ _ .nil))) (stateTurned_true a b at1)
end Go.Proofs.Ytmegbaeclpoidaa.Law
