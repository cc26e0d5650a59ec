/- The walk of StateOrder: for all states its call returns true. Condition: the lists' sizes, which are a row's own. -/
import Derived.Test.YtmegbaeclpoidaaBq
namespace Go.Proofs.Ytmegbaeclpoidaa.Law
open Go.Sv Go.RowKit Go.Proofs
set_option linter.unusedSimpArgs false
def stateOrder_sh0 : List Sh := stSh
def stateOrder_sh1 : List Sh := stSh
def stateOrder_sh2 : List Sh := stSh
def stateOrder_z0 : Value := stZ
def stateOrder_z1 : Value := stZ
def stateOrder_z2 : Value := stZ
theorem stateOrder_ev (a b c : St) : evFn Try.prog KS9 L0 (regB Try.prog) 100 11 [stA a, stA b, stA c] ⟨0, []⟩ ret =
  (bif true && okL (kf a.kn) a.kn.length [] then bif chkI (stL a) != 0 then some (AV.bool true) else bif true && okL (kf b.kn) b.kn.length [] then bif bif false then true else chkI (stL b) != 0 then some (AV.bool true) else bif true && okL (kf c.kn) c.kn.length [] then bif bif false then true else chkI (stL c) != 0 then some (AV.bool true) else bif true && okL (kf a.kn) a.kn.length [] then bif true && okL (kf a.kn) a.kn.length [] then bif true && okL (kf a.kn) a.kn.length [] then bif true && okL (kf b.kn) b.kn.length [] then bif true && okL (kf b.kn) b.kn.length [] then bif true && okL (kf a.kn) a.kn.length [] then bif true && okL (kf b.kn) b.kn.length [] then bif true && okL (kf c.kn) c.kn.length [] then bif true && okL (kf a.kn) a.kn.length [] then bif true && okL (kf c.kn) c.kn.length [] then bif true && okL (kf a.kn) a.kn.length [] then bif true && okL (kf 
    b.kn) b.kn.length [] then bif (add0 0 (joiR (stL a) (stL b)).fst.kn.length).ble (joiR (stL a) (stL b)).fst.kn.length then bif true && okL (kf (joiR (stL a) (stL b)).fst.kn) (joiR (stL a) (stL b)).fst.kn.length [] then bif true && okL (kf c.kn) c.kn.length [] then bif (add0 0 (joiR (stL a) (stL b)).fst.kn.length).ble (joiR (stL a) (stL b)).fst.kn.length then bif true && okL (kf a.kn) a.kn.length [] then bif true && okL (kf (joiR (stL a) (stL b)).fst.kn) (joiR (stL a) (stL b)).fst.kn.length [] then bif (add0 0 (joiR (stL a) (stL b)).fst.kn.length).ble (joiR (stL a) (stL b)).fst.kn.length then bif (add0 0 (joiR (stL (joiR (stL a) (stL b)).fst) (stL c)).fst.kn.length).ble (joiR (stL (joiR (stL a) (stL b)).fst) (stL c)).fst.kn.length then bif true && okL (kf (joiR (stL a) (stL b)).fst.kn) (joiR (stL a) (stL b)).fst.kn.length [] then bif true && okL (kf (joiR (stL (joiR (stL a) (stL b)).fst) 
    (stL c)).fst.kn) (joiR (stL (joiR (stL a) (stL b)).fst) (stL c)).fst.kn.length [] then bif (add0 0 (joiR (stL (joiR (stL a) (stL b)).fst) (stL c)).fst.kn.length).ble (joiR (stL (joiR (stL a) (stL b)).fst) (stL c)).fst.kn.length then bif true && okL (kf a.kn) a.kn.length [] then bif true && okL (kf (joiR (stL (joiR (stL a) (stL b)).fst) (stL c)).fst.kn) (joiR (stL (joiR (stL a) (stL b)).fst) (stL c)).fst.kn.length [] then bif (joiR (stL a) (stL b)).snd == 0 then bif bif true then (joiR (stL (joiR (stL a) (stL b)).fst) (stL c)).snd == 0 else false then bif bif true then (undR (stL a) (stL a)).fst else false then bif !(undR (stL a) (stL b)).fst then bif (undR (stL a) (stL b)).fst then bif true && okL (kf a.kn) a.kn.length [] then bif true && okL (kf b.kn) b.kn.length [] then bif (stL a).kn.length.ble 140737488355328 then bif bif true then (bif true then (undR (stL b) 
    (stL a)).fst else false) == samT (stL a) (stL b) else false then bif bif true then (undR (stL a) (stL (joiR (stL a) (stL b)).fst)).fst else false then bif bif true then (undR (stL (joiR (stL a) (stL b)).fst) (stL (joiR (stL (joiR (stL a) (stL b)).fst) (stL c)).fst)).fst else false then some (AV.bool (bif true then (undR (stL a) (stL (joiR (stL (joiR (stL a) (stL b)).fst) (stL c)).fst)).fst else false)) else some (AV.bool false) else some (AV.bool false) else some (AV.bool false) else none else none else none else bif true && okL (kf a.kn) a.kn.length [] then bif true && okL (kf b.kn) b.kn.length [] then bif (stL a).kn.length.ble 140737488355328 then bif bif true then false == samT (stL a) (stL b) else false then bif bif true then (undR (stL a) (stL (joiR (stL a) (stL b)).fst)).fst else false then bif bif true then (undR (stL (joiR (stL a) (stL b)).fst) (stL (joiR (stL (joiR (stL a) (stL 
    b)).fst) (stL c)).fst)).fst else false then some (AV.bool (bif true then (undR (stL a) (stL (joiR (stL (joiR (stL a) (stL b)).fst) (stL c)).fst)).fst else false)) else some (AV.bool false) else some (AV.bool false) else some (AV.bool false) else none else none else none else bif bif false then true else !(undR (stL b) (stL c)).fst then bif (undR (stL a) (stL b)).fst then bif true && okL (kf a.kn) a.kn.length [] then bif true && okL (kf b.kn) b.kn.length [] then bif (stL a).kn.length.ble 140737488355328 then bif bif true then (bif true then (undR (stL b) (stL a)).fst else false) == samT (stL a) (stL b) else false then bif bif true then (undR (stL a) (stL (joiR (stL a) (stL b)).fst)).fst else false then bif bif true then (undR (stL (joiR (stL a) (stL b)).fst) (stL (joiR (stL (joiR (stL a) (stL b)).fst) (stL c)).fst)).fst else false then some (AV.bool (bif true then (undR (stL a) (stL (joiR 
    (stL (joiR (stL a) (stL b)).fst) (stL c)).fst)).fst else false)) else some (AV.bool false) else some (AV.bool false) else some (AV.bool false) else none else none else none else bif true && okL (kf a.kn) a.kn.length [] then bif true && okL (kf b.kn) b.kn.length [] then bif (stL a).kn.length.ble 140737488355328 then bif bif true then false == samT (stL a) (stL b) else false then bif bif true then (undR (stL a) (stL (joiR (stL a) (stL b)).fst)).fst else false then bif bif true then (undR (stL (joiR (stL a) (stL b)).fst) (stL (joiR (stL (joiR (stL a) (stL b)).fst) (stL c)).fst)).fst else false then some (AV.bool (bif true then (undR (stL a) (stL (joiR (stL (joiR (stL a) (stL b)).fst) (stL c)).fst)).fst else false)) else some (AV.bool false) else some (AV.bool false) else some (AV.bool false) else none else none else none else bif bif true then bif false then true else (undR (stL a) (stL 
    c)).fst else false then bif (undR (stL a) (stL b)).fst then bif true && okL (kf a.kn) a.kn.length [] then bif true && okL (kf b.kn) b.kn.length [] then bif (stL a).kn.length.ble 140737488355328 then bif bif true then (bif true then (undR (stL b) (stL a)).fst else false) == samT (stL a) (stL b) else false then bif bif true then (undR (stL a) (stL (joiR (stL a) (stL b)).fst)).fst else false then bif bif true then (undR (stL (joiR (stL a) (stL b)).fst) (stL (joiR (stL (joiR (stL a) (stL b)).fst) (stL c)).fst)).fst else false then some (AV.bool (bif true then (undR (stL a) (stL (joiR (stL (joiR (stL a) (stL b)).fst) (stL c)).fst)).fst else false)) else some (AV.bool false) else some (AV.bool false) else some (AV.bool false) else none else none else none else bif true && okL (kf a.kn) a.kn.length [] then bif true && okL (kf b.kn) b.kn.length [] then bif (stL a).kn.length.ble 140737488355328 
    then bif bif true then false == samT (stL a) (stL b) else false then bif bif true then (undR (stL a) (stL (joiR (stL a) (stL b)).fst)).fst else false then bif bif true then (undR (stL (joiR (stL a) (stL b)).fst) (stL (joiR (stL (joiR (stL a) (stL b)).fst) (stL c)).fst)).fst else false then some (AV.bool (bif true then (undR (stL a) (stL (joiR (stL (joiR (stL a) (stL b)).fst) (stL c)).fst)).fst else false)) else some (AV.bool false) else some (AV.bool false) else some (AV.bool false) else none else none else none else some (AV.bool false) else some (AV.bool false) else some (AV.bool false) else some (AV.bool false) else none else none else none else none else none else none else none else none else none else none else none else none else none else none else none else none else none else none else none else none else none else none else none else none else none else none else none else 
    none) := by kernel_rfl
theorem stateOrder_true (a b c : St) : evFn Try.prog KS9 L0 (regB Try.prog) 100 11 [stA a, stA b, stA c] ⟨0, []⟩ ret = some (.bool true) := by
  rw [stateOrder_ev]
  simp only [stL_eq, okL_kf, kl_kf, chkI_ne, add0_zero, ble_self, Bool.and_self, Bool.true_and, cond_true, cond_false]
  cases ha : chkB a with
  | false => rfl
  | true =>
    cases hb : chkB b with
    | false => rfl
    | true =>
      cases hc : chkB c with
      | false => rfl
      | true =>
        have ca := chkB_iff.1 ha
        have cb := chkB_iff.1 hb
        have cc := chkB_iff.1 hc
        have cs := joiT_chk ca cb
        have ct := joiT_chk cs cc
        have j1 := joiR_of ha hb
        have j2 := joiR_of (chkB_iff.2 cs) hc
        have la := len_LIM ca.kn
        have u1 : undT a a = true := (undT_iff ca ca).2 (.refl a)
        have u2 : undT a (joiT a b) = true := (undT_iff ca cs).2 (und_joi1 ca cb)
        have u3 : undT (joiT a b) (joiT (joiT a b) c) = true := (undT_iff cs ct).2 (und_joi1 cs cc)
        have u4 : undT a (joiT (joiT a b) c) = true := (undT_iff ca ct).2 ((und_joi1 ca cb).trans (und_joi1 cs cc))
        have tr : undT a b = true → undT b c = true → undT a c = true := fun h1 h2 => (undT_iff ca cc).2 (((undT_iff ca cb).1 h1).trans ((undT_iff cb cc).1 h2))
        have bo := und_both ca cb
        simp only [ha, hb, hc, j1, j2, undR_of ha ha, undR_of ha hb, undR_of hb ha, undR_of hb hc, undR_of ha hc, undR_of ha (chkB_iff.2 cs), undR_of (chkB_iff.2 cs) (chkB_iff.2 ct), undR_of ha (chkB_iff.2 ct), la, u1, u2, u3, u4, add0_zero, ble_self, okL_kf, kl_kf, stL_eq, Bool.not_true, Bool.not_false, cond_true, cond_false]
        rw [← bo]
        cases h1 : undT a b with
        | false => rfl
        | true =>
          cases h2 : undT b c with
          | false => cases undT b a <;> rfl
          | true =>
            rw [tr h1 h2]
            cases undT b a <;> rfl
theorem stateOrder_walk (w : World) (x y z : List Value) (g0 : Fit w stateOrder_sh0 x) (g1 : Fit w stateOrder_sh1 y) (g2 : Fit w stateOrder_sh2 z) :
    CallsV Try.prog 11 [.agg ⟨x⟩, .agg ⟨y⟩, .agg ⟨z⟩] (.bool true) w := by
  obtain ⟨a, _, ha⟩ := st_fit g0
  obtain ⟨b, _, hb⟩ := st_fit g1
  obtain ⟨c, _, hc⟩ := st_fit g2
  exact calls_of_ev (gh := fun _ => .nilFunc) sprog_ok.1 sprog_ok.2 KS9_ok l0_ok rfl (CRel.append (xs := [_]) (ys := [_]) (ha _) (CRel.append (xs := [_]) (ys := [_]) (hb _) (hc _))) (stateOrder_true a b c)
end Go.Proofs.Ytmegbaeclpoidaa.Law
