/- The walk of StateLeast: for all states its call returns true. Condition: the lists' sizes, which are a row's own. -/
import Derived.Test.YtmegbaeclpoidaaBq
namespace Go.Proofs.Ytmegbaeclpoidaa.Law
open Go.Sv Go.RowKit Go.Proofs
set_option linter.unusedSimpArgs false
def stateLeast_sh0 : List Sh := stSh
def stateLeast_sh1 : List Sh := stSh
def stateLeast_z0 : Value := stZ
def stateLeast_z1 : Value := stZ
theorem stateLeast_ev (a b : St) : evFn Try.prog KS9 L0 (regB Try.prog) 100 12 [stA a, stA b] ⟨0, []⟩ ret =
  (bif true && okL (kf a.kn) a.kn.length [] then bif true && okL (kf b.kn) b.kn.length [] then bif true && okL (kf b.kn) b.kn.length [] then bif true && okL (kf a.kn) a.kn.length [] then bif (joiR (stL a) (stL b)).snd != 0 then bif (joiR (stL a) (stL b)).snd == (joiR (stL b) (stL a)).snd then bif true && okL (kf a.kn) a.kn.length [] then bif chkI (stL a) != 0 then some (AV.bool true) else bif true && okL (kf b.kn) b.kn.length [] then some (AV.bool (bif true then bif false then true else chkI (stL b) != 0 else false)) else none else none else some (AV.bool false) else bif bif false then true else (joiR (stL b) (stL a)).snd != 0 then bif (joiR (stL a) (stL b)).snd == (joiR (stL b) (stL a)).snd then bif true && okL (kf a.kn) a.kn.length [] then bif chkI (stL a) != 0 then some (AV.bool true) else bif true && okL (kf b.kn) b.kn.length [] then 
    some (AV.bool (bif true then bif false then true else chkI (stL b) != 0 else false)) else none else none else some (AV.bool false) else bif true && okL (kf a.kn) a.kn.length [] then bif true && okL (kf a.kn) a.kn.length [] then bif (add0 0 (joiR (stL a) (stL b)).fst.kn.length).ble (joiR (stL a) (stL b)).fst.kn.length then bif true && okL (kf (joiR (stL a) (stL b)).fst.kn) (joiR (stL a) (stL b)).fst.kn.length [] then bif true && okL (kf a.kn) a.kn.length [] then bif (add0 0 (joiR (stL a) (stL b)).fst.kn.length).ble (joiR (stL a) (stL b)).fst.kn.length then bif true && okL (kf a.kn) a.kn.length [] then bif true && okL (kf (joiR (stL a) (stL b)).fst.kn) (joiR (stL a) (stL b)).fst.kn.length [] then bif (add0 0 (joiR (stL a) (stL b)).fst.kn.length).ble (joiR (stL a) (stL b)).fst.kn.length then bif true && okL (kf b.kn) b.kn.length [] then bif true && okL (kf (joiR (stL a) (stL 
    b)).fst.kn) (joiR (stL a) (stL b)).fst.kn.length [] then bif true && okL (kf a.kn) a.kn.length [] then bif true && okL (kf b.kn) b.kn.length [] then bif (joiR (stL a) (stL a)).snd == 0 then bif bif true then (joiR (stL (joiR (stL a) (stL b)).fst) (stL a)).snd == 0 else false then bif bif true then (undR (stL a) (stL (joiR (stL a) (stL b)).fst)).snd == 0 else false then bif bif true then (undR (stL b) (stL (joiR (stL a) (stL b)).fst)).snd == 0 else false then bif bif true then (undR (stL a) (stL b)).snd == 0 else false then bif (add0 0 (joiR (stL a) (stL b)).fst.kn.length).ble (joiR (stL a) (stL b)).fst.kn.length then bif (add0 0 (joiR (stL b) (stL a)).fst.kn.length).ble (joiR (stL b) (stL a)).fst.kn.length then bif true && okL (kf (joiR (stL a) (stL b)).fst.kn) (joiR (stL a) (stL b)).fst.kn.length [] then bif true && okL (kf (joiR (stL b) 
    (stL a)).fst.kn) (joiR (stL b) (stL a)).fst.kn.length [] then bif (stL (joiR (stL a) (stL b)).fst).kn.length.ble 140737488355328 then bif bif true then samT (stL (joiR (stL a) (stL b)).fst) (stL (joiR (stL b) (stL a)).fst) else false then bif (add0 0 (joiR (stL a) (stL a)).fst.kn.length).ble (joiR (stL a) (stL a)).fst.kn.length then bif true && okL (kf (joiR (stL a) (stL a)).fst.kn) (joiR (stL a) (stL a)).fst.kn.length [] then bif true && okL (kf a.kn) a.kn.length [] then bif (stL (joiR (stL a) (stL a)).fst).kn.length.ble 140737488355328 then bif bif true then samT (stL (joiR (stL a) (stL a)).fst) (stL a) else false then bif (add0 0 (joiR (stL (joiR (stL a) (stL b)).fst) (stL a)).fst.kn.length).ble (joiR (stL (joiR (stL a) (stL b)).fst) (stL a)).fst.kn.length then bif (add0 0 (joiR (stL a) (stL b)).fst.kn.length).ble (joiR (stL a) (stL b)).fst.kn.length then bif true && okL (kf (joiR 
    (stL (joiR (stL a) (stL b)).fst) (stL a)).fst.kn) (joiR (stL (joiR (stL a) (stL b)).fst) (stL a)).fst.kn.length [] then bif true && okL (kf (joiR (stL a) (stL b)).fst.kn) (joiR (stL a) (stL b)).fst.kn.length [] then bif (stL (joiR (stL (joiR (stL a) (stL b)).fst) (stL a)).fst).kn.length.ble 140737488355328 then bif bif true then samT (stL (joiR (stL (joiR (stL a) (stL b)).fst) (stL a)).fst) (stL (joiR (stL a) (stL b)).fst) else false then bif bif true then (undR (stL a) (stL (joiR (stL a) (stL b)).fst)).fst else false then bif bif true then (undR (stL b) (stL (joiR (stL a) (stL b)).fst)).fst else false then bif (add0 0 (joiR (stL a) (stL b)).fst.kn.length).ble (joiR (stL a) (stL b)).fst.kn.length then bif true && okL (kf (joiR (stL a) (stL b)).fst.kn) (joiR (stL a) (stL b)).fst.kn.length [] then bif true && okL (kf b.kn) b.kn.length [] then bif (stL (joiR (stL a) (stL 
    b)).fst).kn.length.ble 140737488355328 then bif bif true then (undR (stL a) (stL b)).fst == samT (stL (joiR (stL a) (stL b)).fst) (stL b) else false then bif (add0 0 (joiR (stL a) (stL b)).fst.kn.length).ble (joiR (stL a) (stL b)).fst.kn.length then bif true && okL (kf (joiR (stL a) (stL b)).fst.kn) (joiR (stL a) (stL b)).fst.kn.length [] then some (AV.bool (bif true then chkI (stL (joiR (stL a) (stL b)).fst) == 0 else false)) else none else none else some (AV.bool false) else none else none else none else none else some (AV.bool false) else some (AV.bool false) else some (AV.bool false) else none else none else none else none else none else some (AV.bool false) else none else none else none else none else some (AV.bool false) else none else none else none else none else none else some (AV.bool false) else some (AV.bool false) else some (AV.bool false) else some (AV.bool false) 
    else some (AV.bool false) else none else none else none else none else none else none else none else none else none else none else none else none else none else none else none else none else none) := by kernel_rfl
theorem stateLeast_true (a b : St) : evFn Try.prog KS9 L0 (regB Try.prog) 100 12 [stA a, stA b] ⟨0, []⟩ ret = some (.bool true) := by
  rw [stateLeast_ev]
  simp only [stL_eq, okL_kf, kl_kf, chkI_ne, add0_zero, ble_self, Bool.and_self, Bool.true_and, cond_true, cond_false]
  have j0 : ∀ x y, chkB x = false ∨ chkB y = false → joiR x y = (t0, 2) := fun x y h => by
    unfold joiR
    rcases h with h | h <;> rw [h]
    · rfl
    · rw [Bool.and_false]; rfl
  cases ha : chkB a with
  | false =>
    simp only [ha, j0 a b (.inl ha), j0 b a (.inr ha)]
    rfl
  | true =>
    cases hb : chkB b with
    | false =>
      simp only [ha, hb, j0 a b (.inr hb), j0 b a (.inl hb)]
      rfl
    | true =>
      have ca := chkB_iff.1 ha
      have cb := chkB_iff.1 hb
      have cs := joiT_chk ca cb
      have hs := chkB_iff.2 cs
      have la := len_LIM ca.kn
      have ls := len_LIM cs.kn
      have lt := len_LIM (joiT_chk ca ca).kn
      have lu := len_LIM (joiT_chk cs ca).kn
      have u1 : undT a (joiT a b) = true := (undT_iff ca cs).2 (und_joi1 ca cb)
      have u2 : undT b (joiT a b) = true := (undT_iff cb cs).2 (und_joi2 ca cb)
      have s1 : samT (joiT a b) (joiT b a) = true := samT_iff.2 (joi_comm ca cb)
      have s2 : samT (joiT a a) a = true := samT_iff.2 (joi_self ca)
      have s3 : samT (joiT (joiT a b) a) (joiT a b) = true := samT_iff.2 (joi_again ca cb)
      have s4 := und_sam ca cb
      have ck : chkI (joiT a b) = 0 := by unfold chkI; rw [hs]; rfl
      simp only [ha, hb, hs, joiR_of ha hb, joiR_of hb ha, joiR_of ha ha, joiR_of hs ha, undR_of ha hb, undR_of ha hs, undR_of hb hs, la, ls, lt, lu, u1, u2, s1, s2, s3, s4, ck, add0_zero, ble_self, okL_kf, kl_kf, stL_eq, Bool.not_true, Bool.not_false, cond_true, cond_false]
      cases samT (joiT a b) b <;> rfl
theorem stateLeast_walk (w : World) (x y : List Value) (g0 : Fit w stateLeast_sh0 x) (g1 : Fit w stateLeast_sh1 y) :
    CallsV Try.prog 12 [.agg ⟨x⟩, .agg ⟨y⟩] (.bool true) w := by
  obtain ⟨a, _, ha⟩ := st_fit g0
  obtain ⟨b, _, hb⟩ := st_fit g1
  exact calls_of_ev (gh := fun _ => .nilFunc) sprog_ok.1 sprog_ok.2 KS9_ok l0_ok rfl (CRel.append (xs := [_]) (ys := [_]) (ha _) (hb _)) (stateLeast_true a b)
end Go.Proofs.Ytmegbaeclpoidaa.Law
