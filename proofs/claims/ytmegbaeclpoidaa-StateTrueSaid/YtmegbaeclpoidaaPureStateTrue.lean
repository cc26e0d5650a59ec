/- The walk of StateTrue: for all states and numbers its call returns true. Condition: the lists' sizes, which are a row's own. -/
import Derived.Test.YtmegbaeclpoidaaBv
namespace Go.Proofs.Ytmegbaeclpoidaa.Law
open Go.Sv Go.RowKit Go.Proofs
set_option linter.unusedSimpArgs false
def stateTrue_sh0 : List Sh := stSh
def stateTrue_sh1 : List Sh := stSh
def stateTrue_z0 : Value := stZ
def stateTrue_z1 : Value := stZ
theorem stateTrue_no (a b : St) (ns : List Int) : evFn Try.prog (KT8 t0 2 t0 t0 t0) L0 (regB Try.prog) 100 16 [stA a, stA b, .lst 1 (uf ns) ns.length []] ⟨0, []⟩ ret =
  (bif true && okL (kf a.kn) a.kn.length [] then bif true && okL (kf b.kn) b.kn.length [] then bif samT (joiR (stL a) (stL b)).fst t0 && (joiR (stL a) (stL b)).snd == 2 then bif true && okL (kf a.kn) a.kn.length [] then bif chkI (stL a) != 0 then some (AV.bool true) else bif true && okL (kf b.kn) b.kn.length [] then some (AV.bool (bif false then true else chkI (stL b) != 0)) else none else none else none else none else none) := by kernel_rfl
theorem chkI_no {a : St} (h : chkB a = false) : (chkI a != 0) = true := by unfold chkI; rw [h]; rfl
theorem chkI_yes {a : St} (h : chkB a = true) : (chkI a != 0) = false := by unfold chkI; rw [h]; rfl
theorem okWr (W : Wd) (r : Nat) : okA wrOk 10 (fun i => rc (W.r i)) [(r, rc (2, 3, 0))] = true := List.all_eq_true.2 fun i _ => by
  show wrOk (bif Nat.beq i r then rc (2, 3, 0) else rc (W.r i)) = true
  cases Nat.beq i r <;> rfl
theorem stateTrue_err (a b : St) (ns : List Int) (h : chkB a = false ∨ chkB b = false) : evFn Try.prog (KT8 t0 2 t0 t0 t0) L0 (regB Try.prog) 100 16 [stA a, stA b, .lst 1 (uf ns) ns.length []] ⟨0, []⟩ ret = some (.bool true) := by
  rw [stateTrue_no]
  have j0 : joiR a b = (t0, 2) := by
    unfold joiR
    rcases h with h | h <;> rw [h]
    · rfl
    · rw [Bool.and_false]; rfl
  have e2 : ((2 : Int) == 2) = true := rfl
  simp only [stL_eq, okL_kf, j0, samT_self, e2, Bool.and_self, Bool.true_and, cond_true, cond_false]
  cases ha : chkB a with
  | false => rw [chkI_no ha]; rfl
  | true =>
    rw [chkI_yes ha]
    rcases h with h | h
    · rw [ha] at h; cases h
    · rw [chkI_no h]; rfl
theorem stateTrue_yes (a b : St) (ns : List Int) (oa : StOk a) (ob : StOk b) (ha : chkB a = true) (hb : chkB b = true) :
    evFn Try.prog (KT9 (joiT a b) (movT a) (calT a) (mdeT a (Int.ofNat ns.length % 10).toNat 8) (undT a b)) L0 (regB Try.prog) 100 16 [stA a, stA b, .lst 1 (uf ns) ns.length []] ⟨0, []⟩ ret = some (.bool true) := by
  rw [evTrue]
  have ca := chkB_iff.1 ha
  have cb := chkB_iff.1 hb
  have cs := joiT_chk ca cb
  have cm := movT_chk ca
  have cc := calT_chk ca
  have cd : ChkOk (mdeT a (Int.ofNat ns.length % 10).toNat 8) := mdeT_chk ca rfl
  have r0 : 0 ≤ Int.ofNat ns.length % 10 := Int.emod_nonneg _ (by omega)
  have r1 : Int.ofNat ns.length % 10 < 10 := Int.emod_lt_of_pos _ (by omega)
  have b1 : decide (Int.ofNat ns.length % 10 < 10) = true := decide_eq_true r1
  have b2 : Nat.blt (Int.ofNat ns.length % 10).toNat 10 = true := by rw [Nat.blt_eq]; omega
  have hin : inB (Int.ofNat ns.length % 10) 7 = true := by
    unfold inB
    rw [decide_eq_true r0, b1]; rfl
  have hmd : mdeR a (Int.ofNat ns.length % 10) 7 = (mdeT a (Int.ofNat ns.length % 10).toNat 8, 0) := mdeR_of ha hin
  have pa := fit_plOk ca ns
  have pb := fit_plOk cb ns
  have ka := fit_hol oa ca ns
  have kb := fit_hol ob cb ns
  have k1 := holW_iff.2 ka
  have k2 := holW_iff.2 kb
  have k3 := holW_iff.2 (hol_mono pa ca cs ka (und_joi1 ca cb))
  have k4 := holW_iff.2 (hol_mono pb cb cs kb (und_joi2 ca cb))
  have k5 := holW_iff.2 (hol_mono pa ca cm ka (und_mov ca))
  have hN := wrap_u64_rng (Int.ofNat ns.length)
  have k6 := holW_iff.2 (cal_hol ka hN.1 hN.2)
  have k7 := holW_iff.2 (made_hol (r := Int.ofNat ns.length % 10) pa ca ka)
  have k8 : undT a b = true → holW7 (fitW a ns) b = true := fun hu => holW_iff.2 (hol_mono pa ca cb ka ((undT_iff ca cb).1 hu))
  have e0 : ((0 : Int) == 0) = true := rfl
  have ht : tailT a b (joiT a b) (movT a) (calT a) (mdeT a (Int.ofNat ns.length % 10).toNat 8) ns = some (.bool true) := by
    unfold tailT gd ft okK okN7 fA
    simp only [okWr, stL_eq, wL_eq, okA_uf, ul_uf, okL_kf, ble_self, idT_of ca, idT_of cm, idT_of cc, idT_of cd, okF_of oa ca, k5, k6, k7, b1, b2, Bool.and_self, Bool.true_and, Bool.not_true, cond_true, cond_false]
  unfold treeT
  rw [ht]
  unfold gd ft okK okN7 fA uCond
  simp only [stL_eq, wL_eq, okA_uf, ul_uf, okL_kf, ble_self, ha, hb, joiR_of ha hb, calR_of ha, movR_of ha, hmd, samT_self, beq_self_eq_true, e0, idT_of ca, idT_of cb, idT_of cs, okF_of oa ca, okF_of ob cb, k1, k2, k3, k4, Bool.and_self, Bool.true_and, Bool.not_true, cond_true, cond_false]
  cases hu : undT a b with
  | false => rfl
  | true =>
    rw [k8 hu]; rfl
theorem stateTrue_walk (w : World) (x y : List Value) (v : Value) (ns : List Int) (g0 : Fit w stateTrue_sh0 x) (g1 : Fit w stateTrue_sh1 y) (c2 : ∀ gh, VRel (kapOf w gh) (.lst 1 (nkf .u64 ns) ns.length []) v) (_ : ∀ n ∈ ns, (Lit.int .u64 n).wf = true) (_ : ns.length * 8 ≤ reachBytes) :
    CallsV Try.prog 16 [.agg ⟨x⟩, .agg ⟨y⟩, v] (.bool true) w := by
  obtain ⟨a, oa, ha⟩ := st_fit g0
  obtain ⟨b, ob, hb⟩ := st_fit g1
  have hc : ∀ κ0, κ0 = kapOf w (fun _ => Value.nilFunc) → True := fun _ _ => trivial
  by_cases hh : chkB a = true ∧ chkB b = true
  · exact calls_of_ev (gh := fun _ => .nilFunc) sprog_ok.1 sprog_ok.2 (KT9_ok _ _ _ _ _) l0_ok rfl (CRel.append (xs := [_]) (ys := [_]) (ha _) (CRel.append (xs := [_]) (ys := [_]) (hb _) (c2 _))) (stateTrue_yes a b ns oa ob hh.1 hh.2)
  · have h2 : chkB a = false ∨ chkB b = false := by
      cases h1 : chkB a with
      | false => exact .inl rfl
      | true => cases h2 : chkB b with
        | false => exact .inr rfl
        | true => exact absurd ⟨h1, h2⟩ hh
    exact calls_of_ev (gh := fun _ => .nilFunc) sprog_ok.1 sprog_ok.2 (KT8_ok _ _ _ _ _) l0_ok rfl (CRel.append (xs := [_]) (ys := [_]) (ha _) (CRel.append (xs := [_]) (ys := [_]) (hb _) (c2 _))) (stateTrue_err a b ns h2)
end Go.Proofs.Ytmegbaeclpoidaa.Law
