/- The walk of TrackProves: for all lists and numbers its call returns true. Condition: the list's size, which is a row's own. -/
import Derived.Test.YtmegbaeclpoidaaBg
namespace Go.Proofs.Ytmegbaeclpoidaa.Law
open Go.Sv Go.RowKit Go.Proofs
theorem trackProves_ev (xs : List (Int × Int)) (id c : Int) : evFn Try.prog KCD LC9 (regB Try.prog) 100 7 [.lst 2 (kf xs) xs.length [], .int .i64 id, .int .i64 c] ⟨0, []⟩ ret =
  (bif okL (kf xs) xs.length [] && ((xs.length + 4) * 16).ble 140737488355328 then
  bif (add0 0 xs.length).ble (xs.length + 4) then
    bif okL (kf (kl (kf xs) xs.length [] ++ marks)) xs.length [] then
      bif okL (kf xs) xs.length [] then
        bif chkE (kl (kf (kl (kf xs) xs.length [] ++ marks)) xs.length []) != chkE (kl (kf xs) xs.length []) then
          some (AV.bool false)
        else
          bif (add0 0 xs.length).ble (xs.length + 4) then
            bif okL (kf (kl (kf xs) xs.length [] ++ marks)) xs.length [] && xs.length.ble 140737488355328 then
              bif okL (kf xs) xs.length [] && xs.length.ble 140737488355328 then
                bif
                    bif false then true
                    else
                      bytF id (kl (kf (kl (kf xs) xs.length [] ++ marks)) xs.length []) !=
                        bytF id (kl (kf xs) xs.length []) then
                  some (AV.bool false)
                else
                  bif (add0 0 xs.length).ble (xs.length + 4) then
                    bif okL (kf (kl (kf xs) xs.length [] ++ marks)) xs.length [] then
                      bif okL (kf xs) xs.length [] then
                        bif
                            (prvF (kl (kf (kl (kf xs) xs.length [] ++ marks)) xs.length []) id c).snd !=
                              (prvF (kl (kf xs) xs.length []) id c).snd then
                          some (AV.bool false)
                        else
                          bif
                              (add0 0
                                    (prvF (kl (kf (kl (kf xs) xs.length [] ++ marks)) xs.length []) id
                                          c).fst.length).ble
                                (prvF (kl (kf (kl (kf xs) xs.length [] ++ marks)) xs.length []) id c).fst.length then
                            bif
                                (add0 0 (prvF (kl (kf xs) xs.length []) id c).fst.length).ble
                                  (prvF (kl (kf xs) xs.length []) id c).fst.length then
                              bif
                                  okL (kf (prvF (kl (kf (kl (kf xs) xs.length [] ++ marks)) xs.length []) id c).fst)
                                        (prvF (kl (kf (kl (kf xs) xs.length [] ++ marks)) xs.length []) id c).fst.length
                                        [] &&
                                      okL (kf (prvF (kl (kf xs) xs.length []) id c).fst)
                                        (prvF (kl (kf xs) xs.length []) id c).fst.length [] &&
                                    (prvF (kl (kf (kl (kf xs) xs.length [] ++ marks)) xs.length []) id c).fst.length.ble
                                      140737488355328 then
                                bif
                                    bif false then true
                                    else
                                      !samE
                                          (kl
                                            (kf
                                              (prvF (kl (kf (kl (kf xs) xs.length [] ++ marks)) xs.length []) id c).fst)
                                            (prvF (kl (kf (kl (kf xs) xs.length [] ++ marks)) xs.length []) id
                                                  c).fst.length
                                            [])
                                          (kl (kf (prvF (kl (kf xs) xs.length []) id c).fst)
                                            (prvF (kl (kf xs) xs.length []) id c).fst.length []) then
                                  some (AV.bool false)
                                else
                                  bif
                                      okL (kf (prvF (kl (kf (kl (kf xs) xs.length [] ++ marks)) xs.length []) id c).fst)
                                            (prvF (kl (kf (kl (kf xs) xs.length [] ++ marks)) xs.length []) id
                                                  c).fst.length
                                            [] &&
                                          (decide
                                              ((prvF (kl (kf (kl (kf xs) xs.length [] ++ marks)) xs.length []) id
                                                      c).fst.length =
                                                (prvF (kl (kf (kl (kf xs) xs.length [] ++ marks)) xs.length []) id
                                                      c).fst.length) &&
                                            decide
                                              ((prvF (kl (kf (kl (kf xs) xs.length [] ++ marks)) xs.length []) id
                                                      c).fst.length =
                                                (prvF (kl (kf (kl (kf xs) xs.length [] ++ marks)) xs.length []) id
                                                      c).fst.length)) &&
                                        (((prvF (kl (kf (kl (kf xs) xs.length [] ++ marks)) xs.length []) id
                                                      c).fst.length +
                                                6) *
                                              16).ble
                                          140737488355328 then
                                    bif (add0 0 xs.length).ble (xs.length + 4) then
                                      bif okL (kf (kl (kf xs) xs.length [] ++ marks)) xs.length [] then
                                        bif okL (kf xs) xs.length [] then
                                          bif
                                              (frgF (kl (kf (kl (kf xs) xs.length [] ++ marks)) xs.length []) id).snd !=
                                                (frgF (kl (kf xs) xs.length []) id).snd then
                                            some (AV.bool false)
                                          else
                                            bif
                                                (add0 0
                                                      (frgF (kl (kf (kl (kf xs) xs.length [] ++ marks)) xs.length [])
                                                            id).fst.length).ble
                                                  (frgF (kl (kf (kl (kf xs) xs.length [] ++ marks)) xs.length [])
                                                        id).fst.length then
                                              bif
                                                  (add0 0 (frgF (kl (kf xs) xs.length []) id).fst.length).ble
                                                    (frgF (kl (kf xs) xs.length []) id).fst.length then
                                                bif
                                                    okL
                                                          (kf
                                                            (frgF
                                                                (kl (kf (kl (kf xs) xs.length [] ++ marks)) xs.length
                                                                  [])
                                                                id).fst)
                                                          (frgF
                                                                (kl (kf (kl (kf xs) xs.length [] ++ marks)) xs.length
                                                                  [])
                                                                id).fst.length
                                                          [] &&
                                                        okL (kf (frgF (kl (kf xs) xs.length []) id).fst)
                                                          (frgF (kl (kf xs) xs.length []) id).fst.length [] &&
                                                      (frgF (kl (kf (kl (kf xs) xs.length [] ++ marks)) xs.length [])
                                                                id).fst.length.ble
                                                        140737488355328 then
                                                  bif
                                                      bif false then true
                                                      else
                                                        !samE
                                                            (kl
                                                              (kf
                                                                (frgF
                                                                    (kl (kf (kl (kf xs) xs.length [] ++ marks))
                                                                      xs.length [])
                                                                    id).fst)
                                                              (frgF
                                                                    (kl (kf (kl (kf xs) xs.length [] ++ marks))
                                                                      xs.length [])
                                                                    id).fst.length
                                                              [])
                                                            (kl (kf (frgF (kl (kf xs) xs.length []) id).fst)
                                                              (frgF (kl (kf xs) xs.length []) id).fst.length []) then
                                                    some (AV.bool false)
                                                  else
                                                    bif
                                                        okL
                                                              (kf
                                                                (frgF
                                                                    (kl (kf (kl (kf xs) xs.length [] ++ marks))
                                                                      xs.length [])
                                                                    id).fst)
                                                              (frgF
                                                                    (kl (kf (kl (kf xs) xs.length [] ++ marks))
                                                                      xs.length [])
                                                                    id).fst.length
                                                              [] &&
                                                            (decide
                                                                ((frgF
                                                                        (kl (kf (kl (kf xs) xs.length [] ++ marks))
                                                                          xs.length [])
                                                                        id).fst.length =
                                                                  (frgF
                                                                        (kl (kf (kl (kf xs) xs.length [] ++ marks))
                                                                          xs.length [])
                                                                        id).fst.length) &&
                                                              decide
                                                                ((frgF
                                                                        (kl (kf (kl (kf xs) xs.length [] ++ marks))
                                                                          xs.length [])
                                                                        id).fst.length =
                                                                  (frgF
                                                                        (kl (kf (kl (kf xs) xs.length [] ++ marks))
                                                                          xs.length [])
                                                                        id).fst.length)) &&
                                                          (((frgF
                                                                        (kl (kf (kl (kf xs) xs.length [] ++ marks))
                                                                          xs.length [])
                                                                        id).fst.length +
                                                                  6) *
                                                                16).ble
                                                            140737488355328 then
                                                      bif
                                                          okL (kf (kl (kf xs) xs.length [] ++ marks)) (xs.length + 4)
                                                                  [] &&
                                                                okL (kf xs) xs.length [] &&
                                                              (decide (xs.length = xs.length) &&
                                                                  decide (xs.length + 4 = xs.length + 4) &&
                                                                decide (xs.length + 4 = xs.length + 4)) &&
                                                            (xs.length + 4).ble 140737488355328 then
                                                        bif
                                                            eqL
                                                              (kl (kf (kl (kf xs) xs.length [] ++ marks))
                                                                (xs.length + 4) [])
                                                              (kl (kf xs) xs.length [] ++ marks) then
                                                          some (AV.bool true)
                                                        else some (AV.bool false)
                                                      else none
                                                    else none
                                                else none
                                              else none
                                            else none
                                        else none
                                      else none
                                    else none
                                  else none
                              else none
                            else none
                          else none
                      else none
                    else none
                  else none
              else none
            else none
          else none
      else none
    else none
  else none
else none) := by kernel_rfl
theorem trackProves_true (xs : List (Int × Int)) (id c : Int) (hs : xs.length * 16 ≤ reachBytes) : evFn Try.prog KCD LC9 (regB Try.prog) 100 7 [.lst 2 (kf xs) xs.length [], .int .i64 id, .int .i64 c] ⟨0, []⟩ ret = some (.bool true) := by
  rw [trackProves_ev]
  obtain ⟨h1, h2, h3⟩ := sized_facts hs
  obtain ⟨p1, p2⟩ := len_lim (prvF_len xs id c)
  obtain ⟨f1, f2⟩ := len_lim (frgF_len xs id)
  simp only [okL_kf, kl_kf, kl_app, kl_full, h1, h2, h3, p1, p2, f1, f2, add0_zero, ble_self, ble_add4, bne_self, samE_self, eqL_self, decide_true, Bool.and_self, cond_true, cond_false, Bool.not_true]
theorem trackProves_walk (w : World) (v0 : Value) (xs : List (Int × Int)) (id c : Int) (h0 : ∀ gh, VRel (kapOf w gh) (.lst 2 (kf xs) xs.length []) v0) (_ : ∀ x ∈ xs, (Lit.int .i64 x.1).wf = true ∧ (Lit.int .i64 x.2).wf = true) (hs : xs.length * 16 ≤ reachBytes) (_ : (Lit.int .i64 id).wf = true) (_ : (Lit.int .i64 c).wf = true) :
    CallsV Try.prog 7 [v0, .int .i64 id, .int .i64 c] (.bool true) w :=
  calls_of_ev (gh := fun _ => .nilFunc) sprog_ok.1 sprog_ok.2 KCD_ok LC9_ok rfl (CRel.append (xs := [_]) (ys := [v0]) (h0 _) (.int _ _ (.int _ _ .nil))) (trackProves_true xs id c hs)
end Go.Proofs.Ytmegbaeclpoidaa.Law
