/- The walk of TrackJoins: for all lists its call returns true. Condition: the lists' size, which is a row's own. -/
import Derived.Test.YtmegbaeclpoidaaBh
namespace Go.Proofs.Ytmegbaeclpoidaa.Law
open Go.Sv Go.RowKit Go.Proofs
theorem trackJoins_ev (xs ys : List (Int × Int)) : evFn Try.prog KCE LC9 (regB Try.prog) 100 3 [.lst 2 (kf xs) xs.length [], .lst 2 (kf ys) ys.length []] ⟨0, []⟩ ret =
  (bif okL (kf xs) xs.length [] && ((xs.length + 4) * 16).ble 140737488355328 then
  bif okL (kf ys) ys.length [] && ((ys.length + 4) * 16).ble 140737488355328 then
    bif (add0 0 xs.length).ble (xs.length + 4) then
      bif (add0 0 ys.length).ble (ys.length + 4) then
        bif
            okL (kf (kl (kf xs) xs.length [] ++ marks)) xs.length [] &&
              okL (kf (kl (kf ys) ys.length [] ++ marks)) ys.length [] then
          bif okL (kf xs) xs.length [] && okL (kf ys) ys.length [] then
            bif
                (joiF (kl (kf (kl (kf xs) xs.length [] ++ marks)) xs.length [])
                      (kl (kf (kl (kf ys) ys.length [] ++ marks)) ys.length [])).snd !=
                  (joiF (kl (kf xs) xs.length []) (kl (kf ys) ys.length [])).snd then
              some (AV.bool false)
            else
              bif
                  (add0 0
                        (joiF (kl (kf (kl (kf xs) xs.length [] ++ marks)) xs.length [])
                              (kl (kf (kl (kf ys) ys.length [] ++ marks)) ys.length [])).fst.length).ble
                    (joiF (kl (kf (kl (kf xs) xs.length [] ++ marks)) xs.length [])
                          (kl (kf (kl (kf ys) ys.length [] ++ marks)) ys.length [])).fst.length then
                bif
                    (add0 0 (joiF (kl (kf xs) xs.length []) (kl (kf ys) ys.length [])).fst.length).ble
                      (joiF (kl (kf xs) xs.length []) (kl (kf ys) ys.length [])).fst.length then
                  bif
                      okL
                            (kf
                              (joiF (kl (kf (kl (kf xs) xs.length [] ++ marks)) xs.length [])
                                  (kl (kf (kl (kf ys) ys.length [] ++ marks)) ys.length [])).fst)
                            (joiF (kl (kf (kl (kf xs) xs.length [] ++ marks)) xs.length [])
                                  (kl (kf (kl (kf ys) ys.length [] ++ marks)) ys.length [])).fst.length
                            [] &&
                          okL (kf (joiF (kl (kf xs) xs.length []) (kl (kf ys) ys.length [])).fst)
                            (joiF (kl (kf xs) xs.length []) (kl (kf ys) ys.length [])).fst.length [] &&
                        (joiF (kl (kf (kl (kf xs) xs.length [] ++ marks)) xs.length [])
                                  (kl (kf (kl (kf ys) ys.length [] ++ marks)) ys.length [])).fst.length.ble
                          140737488355328 then
                    bif
                        bif false then true
                        else
                          !samE
                              (kl
                                (kf
                                  (joiF (kl (kf (kl (kf xs) xs.length [] ++ marks)) xs.length [])
                                      (kl (kf (kl (kf ys) ys.length [] ++ marks)) ys.length [])).fst)
                                (joiF (kl (kf (kl (kf xs) xs.length [] ++ marks)) xs.length [])
                                      (kl (kf (kl (kf ys) ys.length [] ++ marks)) ys.length [])).fst.length
                                [])
                              (kl (kf (joiF (kl (kf xs) xs.length []) (kl (kf ys) ys.length [])).fst)
                                (joiF (kl (kf xs) xs.length []) (kl (kf ys) ys.length [])).fst.length []) then
                      some (AV.bool false)
                    else
                      bif
                          okL
                                (kf
                                  (joiF (kl (kf (kl (kf xs) xs.length [] ++ marks)) xs.length [])
                                      (kl (kf (kl (kf ys) ys.length [] ++ marks)) ys.length [])).fst)
                                (joiF (kl (kf (kl (kf xs) xs.length [] ++ marks)) xs.length [])
                                      (kl (kf (kl (kf ys) ys.length [] ++ marks)) ys.length [])).fst.length
                                [] &&
                              (decide
                                  ((joiF (kl (kf (kl (kf xs) xs.length [] ++ marks)) xs.length [])
                                          (kl (kf (kl (kf ys) ys.length [] ++ marks)) ys.length [])).fst.length =
                                    (joiF (kl (kf (kl (kf xs) xs.length [] ++ marks)) xs.length [])
                                          (kl (kf (kl (kf ys) ys.length [] ++ marks)) ys.length [])).fst.length) &&
                                decide
                                  ((joiF (kl (kf (kl (kf xs) xs.length [] ++ marks)) xs.length [])
                                          (kl (kf (kl (kf ys) ys.length [] ++ marks)) ys.length [])).fst.length =
                                    (joiF (kl (kf (kl (kf xs) xs.length [] ++ marks)) xs.length [])
                                          (kl (kf (kl (kf ys) ys.length [] ++ marks)) ys.length [])).fst.length)) &&
                            (((joiF (kl (kf (kl (kf xs) xs.length [] ++ marks)) xs.length [])
                                          (kl (kf (kl (kf ys) ys.length [] ++ marks)) ys.length [])).fst.length +
                                    6) *
                                  16).ble
                              140737488355328 then
                        bif
                            okL (kf (kl (kf xs) xs.length [] ++ marks)) (xs.length + 4) [] &&
                                  okL (kf xs) xs.length [] &&
                                (decide (xs.length = xs.length) && decide (xs.length + 4 = xs.length + 4) &&
                                  decide (xs.length + 4 = xs.length + 4)) &&
                              (xs.length + 4).ble 140737488355328 then
                          bif
                              eqL (kl (kf (kl (kf xs) xs.length [] ++ marks)) (xs.length + 4) [])
                                (kl (kf xs) xs.length [] ++ marks) then
                            bif
                                okL (kf (kl (kf ys) ys.length [] ++ marks)) (ys.length + 4) [] &&
                                      okL (kf ys) ys.length [] &&
                                    (decide (ys.length = ys.length) && decide (ys.length + 4 = ys.length + 4) &&
                                      decide (ys.length + 4 = ys.length + 4)) &&
                                  (ys.length + 4).ble 140737488355328 then
                              bif
                                  bif true then
                                    eqL (kl (kf (kl (kf ys) ys.length [] ++ marks)) (ys.length + 4) [])
                                      (kl (kf ys) ys.length [] ++ marks)
                                  else false then
                                some (AV.bool true)
                              else some (AV.bool false)
                            else none
                          else some (AV.bool false)
                        else none
                      else none
                  else none
                else none
              else none
          else none
        else none
      else none
    else none
  else none
else none) := by kernel_rfl
theorem trackJoins_true (xs ys : List (Int × Int)) (hs : xs.length * 16 ≤ reachBytes) (ht : ys.length * 16 ≤ reachBytes) : evFn Try.prog KCE LC9 (regB Try.prog) 100 3 [.lst 2 (kf xs) xs.length [], .lst 2 (kf ys) ys.length []] ⟨0, []⟩ ret = some (.bool true) := by
  rw [trackJoins_ev]
  obtain ⟨h1, _, h3⟩ := sized_facts hs
  obtain ⟨g1, _, g3⟩ := sized_facts ht
  obtain ⟨p1, p2⟩ := len_lim (joiF_len xs ys)
  simp only [okL_kf, kl_kf, kl_app, kl_full, h1, h3, g1, g3, p1, p2, add0_zero, ble_self, ble_add4, bne_self, samE_self, eqL_self, decide_true, Bool.and_self, cond_true, cond_false, Bool.not_true]
theorem trackJoins_walk (w : World) (v0 : Value) (xs : List (Int × Int)) (v1 : Value) (ys : List (Int × Int)) (h0 : ∀ gh, VRel (kapOf w gh) (.lst 2 (kf xs) xs.length []) v0) (_ : ∀ x ∈ xs, (Lit.int .i64 x.1).wf = true ∧ (Lit.int .i64 x.2).wf = true) (hs : xs.length * 16 ≤ reachBytes) (h1 : ∀ gh, VRel (kapOf w gh) (.lst 2 (kf ys) ys.length []) v1) (_ : ∀ x ∈ ys, (Lit.int .i64 x.1).wf = true ∧ (Lit.int .i64 x.2).wf = true) (ht : ys.length * 16 ≤ reachBytes) :
    CallsV Try.prog 3 [v0, v1] (.bool true) w :=
  calls_of_ev (gh := fun _ => .nilFunc) sprog_ok.1 sprog_ok.2 KCE_ok LC9_ok rfl (CRel.append (xs := [_]) (ys := [v0]) (h0 _) (h1 _)) (trackJoins_true xs ys hs ht)
end Go.Proofs.Ytmegbaeclpoidaa.Law
