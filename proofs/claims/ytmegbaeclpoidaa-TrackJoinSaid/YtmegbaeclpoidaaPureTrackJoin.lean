/- The walk of TrackJoin: for all lists and numbers its call returns true. No conditions. -/
import Derived.Test.YtmegbaeclpoidaaBi
namespace Go.Proofs.Ytmegbaeclpoidaa.Law
open Go.Sv Go.RowKit Go.Proofs
theorem trackJoin_ev (xs ys : List (Int × Int)) (id : Int) : evFn Try.prog KCE LCF (regB Try.prog) 100 8 [.lst 2 (kf xs) xs.length [], .lst 2 (kf ys) ys.length [], .int .i64 id] ⟨0, []⟩ ret =
  (bif okL (kf xs) xs.length [] && okL (kf ys) ys.length [] then
  bif okL (kf ys) ys.length [] && okL (kf xs) xs.length [] then
    bif (joiF (kl (kf xs) xs.length []) (kl (kf ys) ys.length [])).snd != Int.ofNat 0 then
      bif okL (kf xs) xs.length [] then
        bif chkE (kl (kf xs) xs.length []) != Int.ofNat 0 then
          bif
              bif true then
                Int.ofNat (joiF (kl (kf xs) xs.length []) (kl (kf ys) ys.length [])).fst.length == Int.ofNat 0
              else false then
            some
              (AV.bool
                (bif true then
                  Int.ofNat (joiF (kl (kf ys) ys.length []) (kl (kf xs) xs.length [])).fst.length == Int.ofNat 0
                else false))
          else some (AV.bool false)
        else
          bif okL (kf ys) ys.length [] then
            bif bif false then true else chkE (kl (kf ys) ys.length []) != Int.ofNat 0 then
              bif
                  bif true then
                    Int.ofNat (joiF (kl (kf xs) xs.length []) (kl (kf ys) ys.length [])).fst.length == Int.ofNat 0
                  else false then
                some
                  (AV.bool
                    (bif true then
                      Int.ofNat (joiF (kl (kf ys) ys.length []) (kl (kf xs) xs.length [])).fst.length == Int.ofNat 0
                    else false))
              else some (AV.bool false)
            else some (AV.bool false)
          else none
      else none
    else
      bif bif false then true else (joiF (kl (kf ys) ys.length []) (kl (kf xs) xs.length [])).snd != Int.ofNat 0 then
        bif okL (kf xs) xs.length [] then
          bif chkE (kl (kf xs) xs.length []) != Int.ofNat 0 then
            bif
                bif true then
                  Int.ofNat (joiF (kl (kf xs) xs.length []) (kl (kf ys) ys.length [])).fst.length == Int.ofNat 0
                else false then
              some
                (AV.bool
                  (bif true then
                    Int.ofNat (joiF (kl (kf ys) ys.length []) (kl (kf xs) xs.length [])).fst.length == Int.ofNat 0
                  else false))
            else some (AV.bool false)
          else
            bif okL (kf ys) ys.length [] then
              bif bif false then true else chkE (kl (kf ys) ys.length []) != Int.ofNat 0 then
                bif
                    bif true then
                      Int.ofNat (joiF (kl (kf xs) xs.length []) (kl (kf ys) ys.length [])).fst.length == Int.ofNat 0
                    else false then
                  some
                    (AV.bool
                      (bif true then
                        Int.ofNat (joiF (kl (kf ys) ys.length []) (kl (kf xs) xs.length [])).fst.length == Int.ofNat 0
                      else false))
                else some (AV.bool false)
              else some (AV.bool false)
            else none
        else none
      else
        bif
            (add0 0 (joiF (kl (kf xs) xs.length []) (kl (kf ys) ys.length [])).fst.length).ble
              (joiF (kl (kf xs) xs.length []) (kl (kf ys) ys.length [])).fst.length then
          bif
              okL (kf (joiF (kl (kf xs) xs.length []) (kl (kf ys) ys.length [])).fst)
                (joiF (kl (kf xs) xs.length []) (kl (kf ys) ys.length [])).fst.length [] then
            bif
                (add0 0
                      (prvF
                            (kl (kf (joiF (kl (kf xs) xs.length []) (kl (kf ys) ys.length [])).fst)
                              (joiF (kl (kf xs) xs.length []) (kl (kf ys) ys.length [])).fst.length [])
                            (id % 257) 5).fst.length).ble
                  (prvF
                        (kl (kf (joiF (kl (kf xs) xs.length []) (kl (kf ys) ys.length [])).fst)
                          (joiF (kl (kf xs) xs.length []) (kl (kf ys) ys.length [])).fst.length [])
                        (id % 257) 5).fst.length then
              bif
                  okL
                    (kf
                      (prvF
                          (kl (kf (joiF (kl (kf xs) xs.length []) (kl (kf ys) ys.length [])).fst)
                            (joiF (kl (kf xs) xs.length []) (kl (kf ys) ys.length [])).fst.length [])
                          (id % 257) 5).fst)
                    (prvF
                          (kl (kf (joiF (kl (kf xs) xs.length []) (kl (kf ys) ys.length [])).fst)
                            (joiF (kl (kf xs) xs.length []) (kl (kf ys) ys.length [])).fst.length [])
                          (id % 257) 5).fst.length
                    [] then
                bif
                    (add0 0 (joiF (kl (kf xs) xs.length []) (kl (kf ys) ys.length [])).fst.length).ble
                      (joiF (kl (kf xs) xs.length []) (kl (kf ys) ys.length [])).fst.length then
                  bif
                      (add0 0 (joiF (kl (kf ys) ys.length []) (kl (kf xs) xs.length [])).fst.length).ble
                        (joiF (kl (kf ys) ys.length []) (kl (kf xs) xs.length [])).fst.length then
                    bif
                        okL (kf (joiF (kl (kf xs) xs.length []) (kl (kf ys) ys.length [])).fst)
                              (joiF (kl (kf xs) xs.length []) (kl (kf ys) ys.length [])).fst.length [] &&
                            okL (kf (joiF (kl (kf ys) ys.length []) (kl (kf xs) xs.length [])).fst)
                              (joiF (kl (kf ys) ys.length []) (kl (kf xs) xs.length [])).fst.length [] &&
                          (joiF (kl (kf xs) xs.length []) (kl (kf ys) ys.length [])).fst.length.ble 140737488355328 then
                      bif
                          !samE
                              (kl (kf (joiF (kl (kf xs) xs.length []) (kl (kf ys) ys.length [])).fst)
                                (joiF (kl (kf xs) xs.length []) (kl (kf ys) ys.length [])).fst.length [])
                              (kl (kf (joiF (kl (kf ys) ys.length []) (kl (kf xs) xs.length [])).fst)
                                (joiF (kl (kf ys) ys.length []) (kl (kf xs) xs.length [])).fst.length []) then
                        some (AV.bool false)
                      else
                        bif
                            bif false then true
                            else
                              (prvF
                                    (kl (kf (joiF (kl (kf xs) xs.length []) (kl (kf ys) ys.length [])).fst)
                                      (joiF (kl (kf xs) xs.length []) (kl (kf ys) ys.length [])).fst.length [])
                                    (id % 257) 5).snd !=
                                Int.ofNat 0 then
                          some (AV.bool false)
                        else
                          bif
                              bif false then true
                              else
                                (frgF
                                      (kl
                                        (kf
                                          (prvF
                                              (kl (kf (joiF (kl (kf xs) xs.length []) (kl (kf ys) ys.length [])).fst)
                                                (joiF (kl (kf xs) xs.length []) (kl (kf ys) ys.length [])).fst.length
                                                [])
                                              (id % 257) 5).fst)
                                        (prvF
                                              (kl (kf (joiF (kl (kf xs) xs.length []) (kl (kf ys) ys.length [])).fst)
                                                (joiF (kl (kf xs) xs.length []) (kl (kf ys) ys.length [])).fst.length
                                                [])
                                              (id % 257) 5).fst.length
                                        [])
                                      (id % 257)).snd !=
                                  Int.ofNat 0 then
                            some (AV.bool false)
                          else
                            bif
                                (add0 0 (joiF (kl (kf xs) xs.length []) (kl (kf ys) ys.length [])).fst.length).ble
                                  (joiF (kl (kf xs) xs.length []) (kl (kf ys) ys.length [])).fst.length then
                              bif
                                  okL (kf (joiF (kl (kf xs) xs.length []) (kl (kf ys) ys.length [])).fst)
                                    (joiF (kl (kf xs) xs.length []) (kl (kf ys) ys.length [])).fst.length [] then
                                bif
                                    bif false then true
                                    else
                                      chkE
                                          (kl (kf (joiF (kl (kf xs) xs.length []) (kl (kf ys) ys.length [])).fst)
                                            (joiF (kl (kf xs) xs.length []) (kl (kf ys) ys.length [])).fst.length []) !=
                                        Int.ofNat 0 then
                                  some (AV.bool false)
                                else
                                  bif
                                      (add0 0
                                            (prvF
                                                  (kl
                                                    (kf (joiF (kl (kf xs) xs.length []) (kl (kf ys) ys.length [])).fst)
                                                    (joiF (kl (kf xs) xs.length [])
                                                          (kl (kf ys) ys.length [])).fst.length
                                                    [])
                                                  (id % 257) 5).fst.length).ble
                                        (prvF
                                              (kl (kf (joiF (kl (kf xs) xs.length []) (kl (kf ys) ys.length [])).fst)
                                                (joiF (kl (kf xs) xs.length []) (kl (kf ys) ys.length [])).fst.length
                                                [])
                                              (id % 257) 5).fst.length then
                                    bif
                                        okL
                                          (kf
                                            (prvF
                                                (kl (kf (joiF (kl (kf xs) xs.length []) (kl (kf ys) ys.length [])).fst)
                                                  (joiF (kl (kf xs) xs.length []) (kl (kf ys) ys.length [])).fst.length
                                                  [])
                                                (id % 257) 5).fst)
                                          (prvF
                                                (kl (kf (joiF (kl (kf xs) xs.length []) (kl (kf ys) ys.length [])).fst)
                                                  (joiF (kl (kf xs) xs.length []) (kl (kf ys) ys.length [])).fst.length
                                                  [])
                                                (id % 257) 5).fst.length
                                          [] then
                                      bif
                                          bif false then true
                                          else
                                            chkE
                                                (kl
                                                  (kf
                                                    (prvF
                                                        (kl
                                                          (kf
                                                            (joiF (kl (kf xs) xs.length [])
                                                                (kl (kf ys) ys.length [])).fst)
                                                          (joiF (kl (kf xs) xs.length [])
                                                                (kl (kf ys) ys.length [])).fst.length
                                                          [])
                                                        (id % 257) 5).fst)
                                                  (prvF
                                                        (kl
                                                          (kf
                                                            (joiF (kl (kf xs) xs.length [])
                                                                (kl (kf ys) ys.length [])).fst)
                                                          (joiF (kl (kf xs) xs.length [])
                                                                (kl (kf ys) ys.length [])).fst.length
                                                          [])
                                                        (id % 257) 5).fst.length
                                                  []) !=
                                              Int.ofNat 0 then
                                        some (AV.bool false)
                                      else
                                        bif
                                            (add0 0
                                                  (frgF
                                                        (kl
                                                          (kf
                                                            (prvF
                                                                (kl
                                                                  (kf
                                                                    (joiF (kl (kf xs) xs.length [])
                                                                        (kl (kf ys) ys.length [])).fst)
                                                                  (joiF (kl (kf xs) xs.length [])
                                                                        (kl (kf ys) ys.length [])).fst.length
                                                                  [])
                                                                (id % 257) 5).fst)
                                                          (prvF
                                                                (kl
                                                                  (kf
                                                                    (joiF (kl (kf xs) xs.length [])
                                                                        (kl (kf ys) ys.length [])).fst)
                                                                  (joiF (kl (kf xs) xs.length [])
                                                                        (kl (kf ys) ys.length [])).fst.length
                                                                  [])
                                                                (id % 257) 5).fst.length
                                                          [])
                                                        (id % 257)).fst.length).ble
                                              (frgF
                                                    (kl
                                                      (kf
                                                        (prvF
                                                            (kl
                                                              (kf
                                                                (joiF (kl (kf xs) xs.length [])
                                                                    (kl (kf ys) ys.length [])).fst)
                                                              (joiF (kl (kf xs) xs.length [])
                                                                    (kl (kf ys) ys.length [])).fst.length
                                                              [])
                                                            (id % 257) 5).fst)
                                                      (prvF
                                                            (kl
                                                              (kf
                                                                (joiF (kl (kf xs) xs.length [])
                                                                    (kl (kf ys) ys.length [])).fst)
                                                              (joiF (kl (kf xs) xs.length [])
                                                                    (kl (kf ys) ys.length [])).fst.length
                                                              [])
                                                            (id % 257) 5).fst.length
                                                      [])
                                                    (id % 257)).fst.length then
                                          bif
                                              okL
                                                (kf
                                                  (frgF
                                                      (kl
                                                        (kf
                                                          (prvF
                                                              (kl
                                                                (kf
                                                                  (joiF (kl (kf xs) xs.length [])
                                                                      (kl (kf ys) ys.length [])).fst)
                                                                (joiF (kl (kf xs) xs.length [])
                                                                      (kl (kf ys) ys.length [])).fst.length
                                                                [])
                                                              (id % 257) 5).fst)
                                                        (prvF
                                                              (kl
                                                                (kf
                                                                  (joiF (kl (kf xs) xs.length [])
                                                                      (kl (kf ys) ys.length [])).fst)
                                                                (joiF (kl (kf xs) xs.length [])
                                                                      (kl (kf ys) ys.length [])).fst.length
                                                                [])
                                                              (id % 257) 5).fst.length
                                                        [])
                                                      (id % 257)).fst)
                                                (frgF
                                                      (kl
                                                        (kf
                                                          (prvF
                                                              (kl
                                                                (kf
                                                                  (joiF (kl (kf xs) xs.length [])
                                                                      (kl (kf ys) ys.length [])).fst)
                                                                (joiF (kl (kf xs) xs.length [])
                                                                      (kl (kf ys) ys.length [])).fst.length
                                                                [])
                                                              (id % 257) 5).fst)
                                                        (prvF
                                                              (kl
                                                                (kf
                                                                  (joiF (kl (kf xs) xs.length [])
                                                                      (kl (kf ys) ys.length [])).fst)
                                                                (joiF (kl (kf xs) xs.length [])
                                                                      (kl (kf ys) ys.length [])).fst.length
                                                                [])
                                                              (id % 257) 5).fst.length
                                                        [])
                                                      (id % 257)).fst.length
                                                [] then
                                            bif
                                                bif false then true
                                                else
                                                  chkE
                                                      (kl
                                                        (kf
                                                          (frgF
                                                              (kl
                                                                (kf
                                                                  (prvF
                                                                      (kl
                                                                        (kf
                                                                          (joiF (kl (kf xs) xs.length [])
                                                                              (kl (kf ys) ys.length [])).fst)
                                                                        (joiF (kl (kf xs) xs.length [])
                                                                              (kl (kf ys) ys.length [])).fst.length
                                                                        [])
                                                                      (id % 257) 5).fst)
                                                                (prvF
                                                                      (kl
                                                                        (kf
                                                                          (joiF (kl (kf xs) xs.length [])
                                                                              (kl (kf ys) ys.length [])).fst)
                                                                        (joiF (kl (kf xs) xs.length [])
                                                                              (kl (kf ys) ys.length [])).fst.length
                                                                        [])
                                                                      (id % 257) 5).fst.length
                                                                [])
                                                              (id % 257)).fst)
                                                        (frgF
                                                              (kl
                                                                (kf
                                                                  (prvF
                                                                      (kl
                                                                        (kf
                                                                          (joiF (kl (kf xs) xs.length [])
                                                                              (kl (kf ys) ys.length [])).fst)
                                                                        (joiF (kl (kf xs) xs.length [])
                                                                              (kl (kf ys) ys.length [])).fst.length
                                                                        [])
                                                                      (id % 257) 5).fst)
                                                                (prvF
                                                                      (kl
                                                                        (kf
                                                                          (joiF (kl (kf xs) xs.length [])
                                                                              (kl (kf ys) ys.length [])).fst)
                                                                        (joiF (kl (kf xs) xs.length [])
                                                                              (kl (kf ys) ys.length [])).fst.length
                                                                        [])
                                                                      (id % 257) 5).fst.length
                                                                [])
                                                              (id % 257)).fst.length
                                                        []) !=
                                                    Int.ofNat 0 then
                                              some (AV.bool false)
                                            else
                                              bif
                                                  true &&
                                                          (decide
                                                                ((joiF (kl (kf xs) xs.length [])
                                                                        (kl (kf ys) ys.length [])).fst.length =
                                                                  (joiF (kl (kf xs) xs.length [])
                                                                        (kl (kf ys) ys.length [])).fst.length) &&
                                                              decide
                                                                ((joiF (kl (kf xs) xs.length [])
                                                                        (kl (kf ys) ys.length [])).fst.length =
                                                                  (joiF (kl (kf xs) xs.length [])
                                                                        (kl (kf ys) ys.length [])).fst.length) &&
                                                            (decide
                                                                  ((prvF
                                                                          (kl
                                                                            (kf
                                                                              (joiF (kl (kf xs) xs.length [])
                                                                                  (kl (kf ys) ys.length [])).fst)
                                                                            (joiF (kl (kf xs) xs.length [])
                                                                                  (kl (kf ys) ys.length [])).fst.length
                                                                            [])
                                                                          (id % 257) 5).fst.length =
                                                                    (prvF
                                                                          (kl
                                                                            (kf
                                                                              (joiF (kl (kf xs) xs.length [])
                                                                                  (kl (kf ys) ys.length [])).fst)
                                                                            (joiF (kl (kf xs) xs.length [])
                                                                                  (kl (kf ys) ys.length [])).fst.length
                                                                            [])
                                                                          (id % 257) 5).fst.length) &&
                                                                decide
                                                                  ((prvF
                                                                          (kl
                                                                            (kf
                                                                              (joiF (kl (kf xs) xs.length [])
                                                                                  (kl (kf ys) ys.length [])).fst)
                                                                            (joiF (kl (kf xs) xs.length [])
                                                                                  (kl (kf ys) ys.length [])).fst.length
                                                                            [])
                                                                          (id % 257) 5).fst.length =
                                                                    (prvF
                                                                          (kl
                                                                            (kf
                                                                              (joiF (kl (kf xs) xs.length [])
                                                                                  (kl (kf ys) ys.length [])).fst)
                                                                            (joiF (kl (kf xs) xs.length [])
                                                                                  (kl (kf ys) ys.length [])).fst.length
                                                                            [])
                                                                          (id % 257) 5).fst.length) &&
                                                              (decide
                                                                  ((frgF
                                                                          (kl
                                                                            (kf
                                                                              (prvF
                                                                                  (kl
                                                                                    (kf
                                                                                      (joiF (kl (kf xs) xs.length [])
                                                                                          (kl (kf ys) ys.length
                                                                                            [])).fst)
                                                                                    (joiF (kl (kf xs) xs.length [])
                                                                                          (kl (kf ys) ys.length
                                                                                            [])).fst.length
                                                                                    [])
                                                                                  (id % 257) 5).fst)
                                                                            (prvF
                                                                                  (kl
                                                                                    (kf
                                                                                      (joiF (kl (kf xs) xs.length [])
                                                                                          (kl (kf ys) ys.length
                                                                                            [])).fst)
                                                                                    (joiF (kl (kf xs) xs.length [])
                                                                                          (kl (kf ys) ys.length
                                                                                            [])).fst.length
                                                                                    [])
                                                                                  (id % 257) 5).fst.length
                                                                            [])
                                                                          (id % 257)).fst.length =
                                                                    (frgF
                                                                          (kl
                                                                            (kf
                                                                              (prvF
                                                                                  (kl
                                                                                    (kf
                                                                                      (joiF (kl (kf xs) xs.length [])
                                                                                          (kl (kf ys) ys.length
                                                                                            [])).fst)
                                                                                    (joiF (kl (kf xs) xs.length [])
                                                                                          (kl (kf ys) ys.length
                                                                                            [])).fst.length
                                                                                    [])
                                                                                  (id % 257) 5).fst)
                                                                            (prvF
                                                                                  (kl
                                                                                    (kf
                                                                                      (joiF (kl (kf xs) xs.length [])
                                                                                          (kl (kf ys) ys.length
                                                                                            [])).fst)
                                                                                    (joiF (kl (kf xs) xs.length [])
                                                                                          (kl (kf ys) ys.length
                                                                                            [])).fst.length
                                                                                    [])
                                                                                  (id % 257) 5).fst.length
                                                                            [])
                                                                          (id % 257)).fst.length) &&
                                                                decide
                                                                  ((frgF
                                                                          (kl
                                                                            (kf
                                                                              (prvF
                                                                                  (kl
                                                                                    (kf
                                                                                      (joiF (kl (kf xs) xs.length [])
                                                                                          (kl (kf ys) ys.length
                                                                                            [])).fst)
                                                                                    (joiF (kl (kf xs) xs.length [])
                                                                                          (kl (kf ys) ys.length
                                                                                            [])).fst.length
                                                                                    [])
                                                                                  (id % 257) 5).fst)
                                                                            (prvF
                                                                                  (kl
                                                                                    (kf
                                                                                      (joiF (kl (kf xs) xs.length [])
                                                                                          (kl (kf ys) ys.length
                                                                                            [])).fst)
                                                                                    (joiF (kl (kf xs) xs.length [])
                                                                                          (kl (kf ys) ys.length
                                                                                            [])).fst.length
                                                                                    [])
                                                                                  (id % 257) 5).fst.length
                                                                            [])
                                                                          (id % 257)).fst.length =
                                                                    (frgF
                                                                          (kl
                                                                            (kf
                                                                              (prvF
                                                                                  (kl
                                                                                    (kf
                                                                                      (joiF (kl (kf xs) xs.length [])
                                                                                          (kl (kf ys) ys.length
                                                                                            [])).fst)
                                                                                    (joiF (kl (kf xs) xs.length [])
                                                                                          (kl (kf ys) ys.length
                                                                                            [])).fst.length
                                                                                    [])
                                                                                  (id % 257) 5).fst)
                                                                            (prvF
                                                                                  (kl
                                                                                    (kf
                                                                                      (joiF (kl (kf xs) xs.length [])
                                                                                          (kl (kf ys) ys.length
                                                                                            [])).fst)
                                                                                    (joiF (kl (kf xs) xs.length [])
                                                                                          (kl (kf ys) ys.length
                                                                                            [])).fst.length
                                                                                    [])
                                                                                  (id % 257) 5).fst.length
                                                                            [])
                                                                          (id % 257)).fst.length)))) &&
                                                        (okL (kf xs) xs.length [] && okL (kf ys) ys.length [] &&
                                                          (okL
                                                              (kf
                                                                (joiF (kl (kf xs) xs.length [])
                                                                    (kl (kf ys) ys.length [])).fst)
                                                              (joiF (kl (kf xs) xs.length [])
                                                                    (kl (kf ys) ys.length [])).fst.length
                                                              [] &&
                                                            (okL
                                                                (kf
                                                                  (prvF
                                                                      (kl
                                                                        (kf
                                                                          (joiF (kl (kf xs) xs.length [])
                                                                              (kl (kf ys) ys.length [])).fst)
                                                                        (joiF (kl (kf xs) xs.length [])
                                                                              (kl (kf ys) ys.length [])).fst.length
                                                                        [])
                                                                      (id % 257) 5).fst)
                                                                (prvF
                                                                      (kl
                                                                        (kf
                                                                          (joiF (kl (kf xs) xs.length [])
                                                                              (kl (kf ys) ys.length [])).fst)
                                                                        (joiF (kl (kf xs) xs.length [])
                                                                              (kl (kf ys) ys.length [])).fst.length
                                                                        [])
                                                                      (id % 257) 5).fst.length
                                                                [] &&
                                                              okL
                                                                (kf
                                                                  (frgF
                                                                      (kl
                                                                        (kf
                                                                          (prvF
                                                                              (kl
                                                                                (kf
                                                                                  (joiF (kl (kf xs) xs.length [])
                                                                                      (kl (kf ys) ys.length [])).fst)
                                                                                (joiF (kl (kf xs) xs.length [])
                                                                                      (kl (kf ys) ys.length
                                                                                        [])).fst.length
                                                                                [])
                                                                              (id % 257) 5).fst)
                                                                        (prvF
                                                                              (kl
                                                                                (kf
                                                                                  (joiF (kl (kf xs) xs.length [])
                                                                                      (kl (kf ys) ys.length [])).fst)
                                                                                (joiF (kl (kf xs) xs.length [])
                                                                                      (kl (kf ys) ys.length
                                                                                        [])).fst.length
                                                                                [])
                                                                              (id % 257) 5).fst.length
                                                                        [])
                                                                      (id % 257)).fst)
                                                                (frgF
                                                                      (kl
                                                                        (kf
                                                                          (prvF
                                                                              (kl
                                                                                (kf
                                                                                  (joiF (kl (kf xs) xs.length [])
                                                                                      (kl (kf ys) ys.length [])).fst)
                                                                                (joiF (kl (kf xs) xs.length [])
                                                                                      (kl (kf ys) ys.length
                                                                                        [])).fst.length
                                                                                [])
                                                                              (id % 257) 5).fst)
                                                                        (prvF
                                                                              (kl
                                                                                (kf
                                                                                  (joiF (kl (kf xs) xs.length [])
                                                                                      (kl (kf ys) ys.length [])).fst)
                                                                                (joiF (kl (kf xs) xs.length [])
                                                                                      (kl (kf ys) ys.length
                                                                                        [])).fst.length
                                                                                [])
                                                                              (id % 257) 5).fst.length
                                                                        [])
                                                                      (id % 257)).fst.length
                                                                []))) &&
                                                      ((joiF (kl (kf xs) xs.length [])
                                                                    (kl (kf ys) ys.length [])).fst.length.ble
                                                            1000 &&
                                                          ((prvF
                                                                      (kl
                                                                        (kf
                                                                          (joiF (kl (kf xs) xs.length [])
                                                                              (kl (kf ys) ys.length [])).fst)
                                                                        (joiF (kl (kf xs) xs.length [])
                                                                              (kl (kf ys) ys.length [])).fst.length
                                                                        [])
                                                                      (id % 257) 5).fst.length.ble
                                                              1000 &&
                                                            (frgF
                                                                      (kl
                                                                        (kf
                                                                          (prvF
                                                                              (kl
                                                                                (kf
                                                                                  (joiF (kl (kf xs) xs.length [])
                                                                                      (kl (kf ys) ys.length [])).fst)
                                                                                (joiF (kl (kf xs) xs.length [])
                                                                                      (kl (kf ys) ys.length
                                                                                        [])).fst.length
                                                                                [])
                                                                              (id % 257) 5).fst)
                                                                        (prvF
                                                                              (kl
                                                                                (kf
                                                                                  (joiF (kl (kf xs) xs.length [])
                                                                                      (kl (kf ys) ys.length [])).fst)
                                                                                (joiF (kl (kf xs) xs.length [])
                                                                                      (kl (kf ys) ys.length
                                                                                        [])).fst.length
                                                                                [])
                                                                              (id % 257) 5).fst.length
                                                                        [])
                                                                      (id % 257)).fst.length.ble
                                                              1000) &&
                                                        (xs.length.ble 1000 && ys.length.ble 1000)) &&
                                                    (List.range 257).all
                                                      (tstJ
                                                        (kl
                                                          (kf
                                                            (joiF (kl (kf xs) xs.length [])
                                                                (kl (kf ys) ys.length [])).fst)
                                                          (joiF (kl (kf xs) xs.length [])
                                                                (kl (kf ys) ys.length [])).fst.length
                                                          [])
                                                        (kl
                                                          (kf
                                                            (prvF
                                                                (kl
                                                                  (kf
                                                                    (joiF (kl (kf xs) xs.length [])
                                                                        (kl (kf ys) ys.length [])).fst)
                                                                  (joiF (kl (kf xs) xs.length [])
                                                                        (kl (kf ys) ys.length [])).fst.length
                                                                  [])
                                                                (id % 257) 5).fst)
                                                          (prvF
                                                                (kl
                                                                  (kf
                                                                    (joiF (kl (kf xs) xs.length [])
                                                                        (kl (kf ys) ys.length [])).fst)
                                                                  (joiF (kl (kf xs) xs.length [])
                                                                        (kl (kf ys) ys.length [])).fst.length
                                                                  [])
                                                                (id % 257) 5).fst.length
                                                          [])
                                                        (kl
                                                          (kf
                                                            (frgF
                                                                (kl
                                                                  (kf
                                                                    (prvF
                                                                        (kl
                                                                          (kf
                                                                            (joiF (kl (kf xs) xs.length [])
                                                                                (kl (kf ys) ys.length [])).fst)
                                                                          (joiF (kl (kf xs) xs.length [])
                                                                                (kl (kf ys) ys.length [])).fst.length
                                                                          [])
                                                                        (id % 257) 5).fst)
                                                                  (prvF
                                                                        (kl
                                                                          (kf
                                                                            (joiF (kl (kf xs) xs.length [])
                                                                                (kl (kf ys) ys.length [])).fst)
                                                                          (joiF (kl (kf xs) xs.length [])
                                                                                (kl (kf ys) ys.length [])).fst.length
                                                                          [])
                                                                        (id % 257) 5).fst.length
                                                                  [])
                                                                (id % 257)).fst)
                                                          (frgF
                                                                (kl
                                                                  (kf
                                                                    (prvF
                                                                        (kl
                                                                          (kf
                                                                            (joiF (kl (kf xs) xs.length [])
                                                                                (kl (kf ys) ys.length [])).fst)
                                                                          (joiF (kl (kf xs) xs.length [])
                                                                                (kl (kf ys) ys.length [])).fst.length
                                                                          [])
                                                                        (id % 257) 5).fst)
                                                                  (prvF
                                                                        (kl
                                                                          (kf
                                                                            (joiF (kl (kf xs) xs.length [])
                                                                                (kl (kf ys) ys.length [])).fst)
                                                                          (joiF (kl (kf xs) xs.length [])
                                                                                (kl (kf ys) ys.length [])).fst.length
                                                                          [])
                                                                        (id % 257) 5).fst.length
                                                                  [])
                                                                (id % 257)).fst.length
                                                          [])
                                                        (kl (kf xs) xs.length []) (kl (kf ys) ys.length [])
                                                        (id % 257)) then
                                                bif
                                                    (add0 0
                                                          (kl
                                                              (kf
                                                                (prvF
                                                                    (kl
                                                                      (kf
                                                                        (joiF (kl (kf xs) xs.length [])
                                                                            (kl (kf ys) ys.length [])).fst)
                                                                      (joiF (kl (kf xs) xs.length [])
                                                                            (kl (kf ys) ys.length [])).fst.length
                                                                      [])
                                                                    (id % 257) 5).fst)
                                                              (prvF
                                                                    (kl
                                                                      (kf
                                                                        (joiF (kl (kf xs) xs.length [])
                                                                            (kl (kf ys) ys.length [])).fst)
                                                                      (joiF (kl (kf xs) xs.length [])
                                                                            (kl (kf ys) ys.length [])).fst.length
                                                                      [])
                                                                    (id % 257) 5).fst.length
                                                              []).length).ble
                                                      (kl
                                                          (kf
                                                            (prvF
                                                                (kl
                                                                  (kf
                                                                    (joiF (kl (kf xs) xs.length [])
                                                                        (kl (kf ys) ys.length [])).fst)
                                                                  (joiF (kl (kf xs) xs.length [])
                                                                        (kl (kf ys) ys.length [])).fst.length
                                                                  [])
                                                                (id % 257) 5).fst)
                                                          (prvF
                                                                (kl
                                                                  (kf
                                                                    (joiF (kl (kf xs) xs.length [])
                                                                        (kl (kf ys) ys.length [])).fst)
                                                                  (joiF (kl (kf xs) xs.length [])
                                                                        (kl (kf ys) ys.length [])).fst.length
                                                                  [])
                                                                (id % 257) 5).fst.length
                                                          []).length then
                                                  bif
                                                      okL
                                                          (kf
                                                            (kl
                                                              (kf
                                                                (prvF
                                                                    (kl
                                                                      (kf
                                                                        (joiF (kl (kf xs) xs.length [])
                                                                            (kl (kf ys) ys.length [])).fst)
                                                                      (joiF (kl (kf xs) xs.length [])
                                                                            (kl (kf ys) ys.length [])).fst.length
                                                                      [])
                                                                    (id % 257) 5).fst)
                                                              (prvF
                                                                    (kl
                                                                      (kf
                                                                        (joiF (kl (kf xs) xs.length [])
                                                                            (kl (kf ys) ys.length [])).fst)
                                                                      (joiF (kl (kf xs) xs.length [])
                                                                            (kl (kf ys) ys.length [])).fst.length
                                                                      [])
                                                                    (id % 257) 5).fst.length
                                                              []))
                                                          (kl
                                                              (kf
                                                                (prvF
                                                                    (kl
                                                                      (kf
                                                                        (joiF (kl (kf xs) xs.length [])
                                                                            (kl (kf ys) ys.length [])).fst)
                                                                      (joiF (kl (kf xs) xs.length [])
                                                                            (kl (kf ys) ys.length [])).fst.length
                                                                      [])
                                                                    (id % 257) 5).fst)
                                                              (prvF
                                                                    (kl
                                                                      (kf
                                                                        (joiF (kl (kf xs) xs.length [])
                                                                            (kl (kf ys) ys.length [])).fst)
                                                                      (joiF (kl (kf xs) xs.length [])
                                                                            (kl (kf ys) ys.length [])).fst.length
                                                                      [])
                                                                    (id % 257) 5).fst.length
                                                              []).length
                                                          [] &&
                                                        (kl
                                                                (kf
                                                                  (prvF
                                                                      (kl
                                                                        (kf
                                                                          (joiF (kl (kf xs) xs.length [])
                                                                              (kl (kf ys) ys.length [])).fst)
                                                                        (joiF (kl (kf xs) xs.length [])
                                                                              (kl (kf ys) ys.length [])).fst.length
                                                                        [])
                                                                      (id % 257) 5).fst)
                                                                (prvF
                                                                      (kl
                                                                        (kf
                                                                          (joiF (kl (kf xs) xs.length [])
                                                                              (kl (kf ys) ys.length [])).fst)
                                                                        (joiF (kl (kf xs) xs.length [])
                                                                              (kl (kf ys) ys.length [])).fst.length
                                                                        [])
                                                                      (id % 257) 5).fst.length
                                                                []).length.ble
                                                          140737488355328 then
                                                    bif
                                                        (add0 0
                                                              (kl
                                                                  (kf
                                                                    (joiF (kl (kf xs) xs.length [])
                                                                        (kl (kf ys) ys.length [])).fst)
                                                                  (joiF (kl (kf xs) xs.length [])
                                                                        (kl (kf ys) ys.length [])).fst.length
                                                                  []).length).ble
                                                          (kl
                                                              (kf
                                                                (joiF (kl (kf xs) xs.length [])
                                                                    (kl (kf ys) ys.length [])).fst)
                                                              (joiF (kl (kf xs) xs.length [])
                                                                    (kl (kf ys) ys.length [])).fst.length
                                                              []).length then
                                                      bif
                                                          okL
                                                              (kf
                                                                (kl
                                                                  (kf
                                                                    (joiF (kl (kf xs) xs.length [])
                                                                        (kl (kf ys) ys.length [])).fst)
                                                                  (joiF (kl (kf xs) xs.length [])
                                                                        (kl (kf ys) ys.length [])).fst.length
                                                                  []))
                                                              (kl
                                                                  (kf
                                                                    (joiF (kl (kf xs) xs.length [])
                                                                        (kl (kf ys) ys.length [])).fst)
                                                                  (joiF (kl (kf xs) xs.length [])
                                                                        (kl (kf ys) ys.length [])).fst.length
                                                                  []).length
                                                              [] &&
                                                            (kl
                                                                    (kf
                                                                      (joiF (kl (kf xs) xs.length [])
                                                                          (kl (kf ys) ys.length [])).fst)
                                                                    (joiF (kl (kf xs) xs.length [])
                                                                          (kl (kf ys) ys.length [])).fst.length
                                                                    []).length.ble
                                                              140737488355328 then
                                                        bif
                                                            bytF (id % Int.ofNat 257)
                                                                (kl
                                                                  (kf
                                                                    (kl
                                                                      (kf
                                                                        (prvF
                                                                            (kl
                                                                              (kf
                                                                                (joiF (kl (kf xs) xs.length [])
                                                                                    (kl (kf ys) ys.length [])).fst)
                                                                              (joiF (kl (kf xs) xs.length [])
                                                                                    (kl (kf ys) ys.length
                                                                                      [])).fst.length
                                                                              [])
                                                                            (id % 257) 5).fst)
                                                                      (prvF
                                                                            (kl
                                                                              (kf
                                                                                (joiF (kl (kf xs) xs.length [])
                                                                                    (kl (kf ys) ys.length [])).fst)
                                                                              (joiF (kl (kf xs) xs.length [])
                                                                                    (kl (kf ys) ys.length
                                                                                      [])).fst.length
                                                                              [])
                                                                            (id % 257) 5).fst.length
                                                                      []))
                                                                  (kl
                                                                      (kf
                                                                        (prvF
                                                                            (kl
                                                                              (kf
                                                                                (joiF (kl (kf xs) xs.length [])
                                                                                    (kl (kf ys) ys.length [])).fst)
                                                                              (joiF (kl (kf xs) xs.length [])
                                                                                    (kl (kf ys) ys.length
                                                                                      [])).fst.length
                                                                              [])
                                                                            (id % 257) 5).fst)
                                                                      (prvF
                                                                            (kl
                                                                              (kf
                                                                                (joiF (kl (kf xs) xs.length [])
                                                                                    (kl (kf ys) ys.length [])).fst)
                                                                              (joiF (kl (kf xs) xs.length [])
                                                                                    (kl (kf ys) ys.length
                                                                                      [])).fst.length
                                                                              [])
                                                                            (id % 257) 5).fst.length
                                                                      []).length
                                                                  []) ==
                                                              bif
                                                                  decide
                                                                    (bytF (id % 257)
                                                                        (kl
                                                                          (kf
                                                                            (kl
                                                                              (kf
                                                                                (joiF (kl (kf xs) xs.length [])
                                                                                    (kl (kf ys) ys.length [])).fst)
                                                                              (joiF (kl (kf xs) xs.length [])
                                                                                    (kl (kf ys) ys.length
                                                                                      [])).fst.length
                                                                              []))
                                                                          (kl
                                                                              (kf
                                                                                (joiF (kl (kf xs) xs.length [])
                                                                                    (kl (kf ys) ys.length [])).fst)
                                                                              (joiF (kl (kf xs) xs.length [])
                                                                                    (kl (kf ys) ys.length
                                                                                      [])).fst.length
                                                                              []).length
                                                                          []) >
                                                                      5) then
                                                                bytF (id % Int.ofNat 257)
                                                                  (kl
                                                                    (kf
                                                                      (kl
                                                                        (kf
                                                                          (joiF (kl (kf xs) xs.length [])
                                                                              (kl (kf ys) ys.length [])).fst)
                                                                        (joiF (kl (kf xs) xs.length [])
                                                                              (kl (kf ys) ys.length [])).fst.length
                                                                        []))
                                                                    (kl
                                                                        (kf
                                                                          (joiF (kl (kf xs) xs.length [])
                                                                              (kl (kf ys) ys.length [])).fst)
                                                                        (joiF (kl (kf xs) xs.length [])
                                                                              (kl (kf ys) ys.length [])).fst.length
                                                                        []).length
                                                                    [])
                                                              else Int.ofNat 5 then
                                                          bif
                                                              (add0 0
                                                                    (kl
                                                                        (kf
                                                                          (frgF
                                                                              (kl
                                                                                (kf
                                                                                  (prvF
                                                                                      (kl
                                                                                        (kf
                                                                                          (joiF
                                                                                              (kl (kf xs) xs.length [])
                                                                                              (kl (kf ys) ys.length
                                                                                                [])).fst)
                                                                                        (joiF (kl (kf xs) xs.length [])
                                                                                              (kl (kf ys) ys.length
                                                                                                [])).fst.length
                                                                                        [])
                                                                                      (id % 257) 5).fst)
                                                                                (prvF
                                                                                      (kl
                                                                                        (kf
                                                                                          (joiF
                                                                                              (kl (kf xs) xs.length [])
                                                                                              (kl (kf ys) ys.length
                                                                                                [])).fst)
                                                                                        (joiF (kl (kf xs) xs.length [])
                                                                                              (kl (kf ys) ys.length
                                                                                                [])).fst.length
                                                                                        [])
                                                                                      (id % 257) 5).fst.length
                                                                                [])
                                                                              (id % 257)).fst)
                                                                        (frgF
                                                                              (kl
                                                                                (kf
                                                                                  (prvF
                                                                                      (kl
                                                                                        (kf
                                                                                          (joiF
                                                                                              (kl (kf xs) xs.length [])
                                                                                              (kl (kf ys) ys.length
                                                                                                [])).fst)
                                                                                        (joiF (kl (kf xs) xs.length [])
                                                                                              (kl (kf ys) ys.length
                                                                                                [])).fst.length
                                                                                        [])
                                                                                      (id % 257) 5).fst)
                                                                                (prvF
                                                                                      (kl
                                                                                        (kf
                                                                                          (joiF
                                                                                              (kl (kf xs) xs.length [])
                                                                                              (kl (kf ys) ys.length
                                                                                                [])).fst)
                                                                                        (joiF (kl (kf xs) xs.length [])
                                                                                              (kl (kf ys) ys.length
                                                                                                [])).fst.length
                                                                                        [])
                                                                                      (id % 257) 5).fst.length
                                                                                [])
                                                                              (id % 257)).fst.length
                                                                        []).length).ble
                                                                (kl
                                                                    (kf
                                                                      (frgF
                                                                          (kl
                                                                            (kf
                                                                              (prvF
                                                                                  (kl
                                                                                    (kf
                                                                                      (joiF (kl (kf xs) xs.length [])
                                                                                          (kl (kf ys) ys.length
                                                                                            [])).fst)
                                                                                    (joiF (kl (kf xs) xs.length [])
                                                                                          (kl (kf ys) ys.length
                                                                                            [])).fst.length
                                                                                    [])
                                                                                  (id % 257) 5).fst)
                                                                            (prvF
                                                                                  (kl
                                                                                    (kf
                                                                                      (joiF (kl (kf xs) xs.length [])
                                                                                          (kl (kf ys) ys.length
                                                                                            [])).fst)
                                                                                    (joiF (kl (kf xs) xs.length [])
                                                                                          (kl (kf ys) ys.length
                                                                                            [])).fst.length
                                                                                    [])
                                                                                  (id % 257) 5).fst.length
                                                                            [])
                                                                          (id % 257)).fst)
                                                                    (frgF
                                                                          (kl
                                                                            (kf
                                                                              (prvF
                                                                                  (kl
                                                                                    (kf
                                                                                      (joiF (kl (kf xs) xs.length [])
                                                                                          (kl (kf ys) ys.length
                                                                                            [])).fst)
                                                                                    (joiF (kl (kf xs) xs.length [])
                                                                                          (kl (kf ys) ys.length
                                                                                            [])).fst.length
                                                                                    [])
                                                                                  (id % 257) 5).fst)
                                                                            (prvF
                                                                                  (kl
                                                                                    (kf
                                                                                      (joiF (kl (kf xs) xs.length [])
                                                                                          (kl (kf ys) ys.length
                                                                                            [])).fst)
                                                                                    (joiF (kl (kf xs) xs.length [])
                                                                                          (kl (kf ys) ys.length
                                                                                            [])).fst.length
                                                                                    [])
                                                                                  (id % 257) 5).fst.length
                                                                            [])
                                                                          (id % 257)).fst.length
                                                                    []).length then
                                                            bif
                                                                okL
                                                                    (kf
                                                                      (kl
                                                                        (kf
                                                                          (frgF
                                                                              (kl
                                                                                (kf
                                                                                  (prvF
                                                                                      (kl
                                                                                        (kf
                                                                                          (joiF
                                                                                              (kl (kf xs) xs.length [])
                                                                                              (kl (kf ys) ys.length
                                                                                                [])).fst)
                                                                                        (joiF (kl (kf xs) xs.length [])
                                                                                              (kl (kf ys) ys.length
                                                                                                [])).fst.length
                                                                                        [])
                                                                                      (id % 257) 5).fst)
                                                                                (prvF
                                                                                      (kl
                                                                                        (kf
                                                                                          (joiF
                                                                                              (kl (kf xs) xs.length [])
                                                                                              (kl (kf ys) ys.length
                                                                                                [])).fst)
                                                                                        (joiF (kl (kf xs) xs.length [])
                                                                                              (kl (kf ys) ys.length
                                                                                                [])).fst.length
                                                                                        [])
                                                                                      (id % 257) 5).fst.length
                                                                                [])
                                                                              (id % 257)).fst)
                                                                        (frgF
                                                                              (kl
                                                                                (kf
                                                                                  (prvF
                                                                                      (kl
                                                                                        (kf
                                                                                          (joiF
                                                                                              (kl (kf xs) xs.length [])
                                                                                              (kl (kf ys) ys.length
                                                                                                [])).fst)
                                                                                        (joiF (kl (kf xs) xs.length [])
                                                                                              (kl (kf ys) ys.length
                                                                                                [])).fst.length
                                                                                        [])
                                                                                      (id % 257) 5).fst)
                                                                                (prvF
                                                                                      (kl
                                                                                        (kf
                                                                                          (joiF
                                                                                              (kl (kf xs) xs.length [])
                                                                                              (kl (kf ys) ys.length
                                                                                                [])).fst)
                                                                                        (joiF (kl (kf xs) xs.length [])
                                                                                              (kl (kf ys) ys.length
                                                                                                [])).fst.length
                                                                                        [])
                                                                                      (id % 257) 5).fst.length
                                                                                [])
                                                                              (id % 257)).fst.length
                                                                        []))
                                                                    (kl
                                                                        (kf
                                                                          (frgF
                                                                              (kl
                                                                                (kf
                                                                                  (prvF
                                                                                      (kl
                                                                                        (kf
                                                                                          (joiF
                                                                                              (kl (kf xs) xs.length [])
                                                                                              (kl (kf ys) ys.length
                                                                                                [])).fst)
                                                                                        (joiF (kl (kf xs) xs.length [])
                                                                                              (kl (kf ys) ys.length
                                                                                                [])).fst.length
                                                                                        [])
                                                                                      (id % 257) 5).fst)
                                                                                (prvF
                                                                                      (kl
                                                                                        (kf
                                                                                          (joiF
                                                                                              (kl (kf xs) xs.length [])
                                                                                              (kl (kf ys) ys.length
                                                                                                [])).fst)
                                                                                        (joiF (kl (kf xs) xs.length [])
                                                                                              (kl (kf ys) ys.length
                                                                                                [])).fst.length
                                                                                        [])
                                                                                      (id % 257) 5).fst.length
                                                                                [])
                                                                              (id % 257)).fst)
                                                                        (frgF
                                                                              (kl
                                                                                (kf
                                                                                  (prvF
                                                                                      (kl
                                                                                        (kf
                                                                                          (joiF
                                                                                              (kl (kf xs) xs.length [])
                                                                                              (kl (kf ys) ys.length
                                                                                                [])).fst)
                                                                                        (joiF (kl (kf xs) xs.length [])
                                                                                              (kl (kf ys) ys.length
                                                                                                [])).fst.length
                                                                                        [])
                                                                                      (id % 257) 5).fst)
                                                                                (prvF
                                                                                      (kl
                                                                                        (kf
                                                                                          (joiF
                                                                                              (kl (kf xs) xs.length [])
                                                                                              (kl (kf ys) ys.length
                                                                                                [])).fst)
                                                                                        (joiF (kl (kf xs) xs.length [])
                                                                                              (kl (kf ys) ys.length
                                                                                                [])).fst.length
                                                                                        [])
                                                                                      (id % 257) 5).fst.length
                                                                                [])
                                                                              (id % 257)).fst.length
                                                                        []).length
                                                                    [] &&
                                                                  (kl
                                                                          (kf
                                                                            (frgF
                                                                                (kl
                                                                                  (kf
                                                                                    (prvF
                                                                                        (kl
                                                                                          (kf
                                                                                            (joiF
                                                                                                (kl (kf xs) xs.length
                                                                                                  [])
                                                                                                (kl (kf ys) ys.length
                                                                                                  [])).fst)
                                                                                          (joiF
                                                                                                (kl (kf xs) xs.length
                                                                                                  [])
                                                                                                (kl (kf ys) ys.length
                                                                                                  [])).fst.length
                                                                                          [])
                                                                                        (id % 257) 5).fst)
                                                                                  (prvF
                                                                                        (kl
                                                                                          (kf
                                                                                            (joiF
                                                                                                (kl (kf xs) xs.length
                                                                                                  [])
                                                                                                (kl (kf ys) ys.length
                                                                                                  [])).fst)
                                                                                          (joiF
                                                                                                (kl (kf xs) xs.length
                                                                                                  [])
                                                                                                (kl (kf ys) ys.length
                                                                                                  [])).fst.length
                                                                                          [])
                                                                                        (id % 257) 5).fst.length
                                                                                  [])
                                                                                (id % 257)).fst)
                                                                          (frgF
                                                                                (kl
                                                                                  (kf
                                                                                    (prvF
                                                                                        (kl
                                                                                          (kf
                                                                                            (joiF
                                                                                                (kl (kf xs) xs.length
                                                                                                  [])
                                                                                                (kl (kf ys) ys.length
                                                                                                  [])).fst)
                                                                                          (joiF
                                                                                                (kl (kf xs) xs.length
                                                                                                  [])
                                                                                                (kl (kf ys) ys.length
                                                                                                  [])).fst.length
                                                                                          [])
                                                                                        (id % 257) 5).fst)
                                                                                  (prvF
                                                                                        (kl
                                                                                          (kf
                                                                                            (joiF
                                                                                                (kl (kf xs) xs.length
                                                                                                  [])
                                                                                                (kl (kf ys) ys.length
                                                                                                  [])).fst)
                                                                                          (joiF
                                                                                                (kl (kf xs) xs.length
                                                                                                  [])
                                                                                                (kl (kf ys) ys.length
                                                                                                  [])).fst.length
                                                                                          [])
                                                                                        (id % 257) 5).fst.length
                                                                                  [])
                                                                                (id % 257)).fst.length
                                                                          []).length.ble
                                                                    140737488355328 then
                                                              some
                                                                (AV.bool
                                                                  (bif true then
                                                                    bytF (id % Int.ofNat 257)
                                                                        (kl
                                                                          (kf
                                                                            (kl
                                                                              (kf
                                                                                (frgF
                                                                                    (kl
                                                                                      (kf
                                                                                        (prvF
                                                                                            (kl
                                                                                              (kf
                                                                                                (joiF
                                                                                                    (kl (kf xs)
                                                                                                      xs.length [])
                                                                                                    (kl (kf ys)
                                                                                                      ys.length
                                                                                                      [])).fst)
                                                                                              (joiF
                                                                                                    (kl (kf xs)
                                                                                                      xs.length [])
                                                                                                    (kl (kf ys)
                                                                                                      ys.length
                                                                                                      [])).fst.length
                                                                                              [])
                                                                                            (id % 257) 5).fst)
                                                                                      (prvF
                                                                                            (kl
                                                                                              (kf
                                                                                                (joiF
                                                                                                    (kl (kf xs)
                                                                                                      xs.length [])
                                                                                                    (kl (kf ys)
                                                                                                      ys.length
                                                                                                      [])).fst)
                                                                                              (joiF
                                                                                                    (kl (kf xs)
                                                                                                      xs.length [])
                                                                                                    (kl (kf ys)
                                                                                                      ys.length
                                                                                                      [])).fst.length
                                                                                              [])
                                                                                            (id % 257) 5).fst.length
                                                                                      [])
                                                                                    (id % 257)).fst)
                                                                              (frgF
                                                                                    (kl
                                                                                      (kf
                                                                                        (prvF
                                                                                            (kl
                                                                                              (kf
                                                                                                (joiF
                                                                                                    (kl (kf xs)
                                                                                                      xs.length [])
                                                                                                    (kl (kf ys)
                                                                                                      ys.length
                                                                                                      [])).fst)
                                                                                              (joiF
                                                                                                    (kl (kf xs)
                                                                                                      xs.length [])
                                                                                                    (kl (kf ys)
                                                                                                      ys.length
                                                                                                      [])).fst.length
                                                                                              [])
                                                                                            (id % 257) 5).fst)
                                                                                      (prvF
                                                                                            (kl
                                                                                              (kf
                                                                                                (joiF
                                                                                                    (kl (kf xs)
                                                                                                      xs.length [])
                                                                                                    (kl (kf ys)
                                                                                                      ys.length
                                                                                                      [])).fst)
                                                                                              (joiF
                                                                                                    (kl (kf xs)
                                                                                                      xs.length [])
                                                                                                    (kl (kf ys)
                                                                                                      ys.length
                                                                                                      [])).fst.length
                                                                                              [])
                                                                                            (id % 257) 5).fst.length
                                                                                      [])
                                                                                    (id % 257)).fst.length
                                                                              []))
                                                                          (kl
                                                                              (kf
                                                                                (frgF
                                                                                    (kl
                                                                                      (kf
                                                                                        (prvF
                                                                                            (kl
                                                                                              (kf
                                                                                                (joiF
                                                                                                    (kl (kf xs)
                                                                                                      xs.length [])
                                                                                                    (kl (kf ys)
                                                                                                      ys.length
                                                                                                      [])).fst)
                                                                                              (joiF
                                                                                                    (kl (kf xs)
                                                                                                      xs.length [])
                                                                                                    (kl (kf ys)
                                                                                                      ys.length
                                                                                                      [])).fst.length
                                                                                              [])
                                                                                            (id % 257) 5).fst)
                                                                                      (prvF
                                                                                            (kl
                                                                                              (kf
                                                                                                (joiF
                                                                                                    (kl (kf xs)
                                                                                                      xs.length [])
                                                                                                    (kl (kf ys)
                                                                                                      ys.length
                                                                                                      [])).fst)
                                                                                              (joiF
                                                                                                    (kl (kf xs)
                                                                                                      xs.length [])
                                                                                                    (kl (kf ys)
                                                                                                      ys.length
                                                                                                      [])).fst.length
                                                                                              [])
                                                                                            (id % 257) 5).fst.length
                                                                                      [])
                                                                                    (id % 257)).fst)
                                                                              (frgF
                                                                                    (kl
                                                                                      (kf
                                                                                        (prvF
                                                                                            (kl
                                                                                              (kf
                                                                                                (joiF
                                                                                                    (kl (kf xs)
                                                                                                      xs.length [])
                                                                                                    (kl (kf ys)
                                                                                                      ys.length
                                                                                                      [])).fst)
                                                                                              (joiF
                                                                                                    (kl (kf xs)
                                                                                                      xs.length [])
                                                                                                    (kl (kf ys)
                                                                                                      ys.length
                                                                                                      [])).fst.length
                                                                                              [])
                                                                                            (id % 257) 5).fst)
                                                                                      (prvF
                                                                                            (kl
                                                                                              (kf
                                                                                                (joiF
                                                                                                    (kl (kf xs)
                                                                                                      xs.length [])
                                                                                                    (kl (kf ys)
                                                                                                      ys.length
                                                                                                      [])).fst)
                                                                                              (joiF
                                                                                                    (kl (kf xs)
                                                                                                      xs.length [])
                                                                                                    (kl (kf ys)
                                                                                                      ys.length
                                                                                                      [])).fst.length
                                                                                              [])
                                                                                            (id % 257) 5).fst.length
                                                                                      [])
                                                                                    (id % 257)).fst.length
                                                                              []).length
                                                                          []) ==
                                                                      Int.ofNat 0
                                                                  else false))
                                                            else none
                                                          else none
                                                        else some (AV.bool false)
                                                      else none
                                                    else none
                                                  else none
                                                else none
                                              else none
                                          else none
                                        else none
                                    else none
                                  else none
                              else none
                            else none
                    else none
                  else none
                else none
              else none
            else none
          else none
        else none
  else none
else none) := by kernel_rfl
theorem trackJoin_true (xs ys : List (Int × Int)) (id : Int) : evFn Try.prog KCE LCF (regB Try.prog) 100 8 [.lst 2 (kf xs) xs.length [], .lst 2 (kf ys) ys.length [], .int .i64 id] ⟨0, []⟩ ret = some (.bool true) := by
  rw [trackJoin_ev]
  have e0 : ∀ a : Int, (a != Int.ofNat 0) = (a != 0) := fun _ => rfl
  have e1 : Int.ofNat 257 = 257 := rfl
  by_cases hx : chkE xs = 0
  · by_cases hy : chkE ys = 0
    · obtain ⟨g, m, l, j1, j2, j3, j4, c1, c2, c3, ht, f1, f2⟩ := joins hx hy id
      have hall : (List.range 257).all (tstJ (canF g) (canF m) (canF l) xs ys (id % 257)) = true := List.all_eq_true.2 fun i hi => ht i (List.mem_range.1 hi)
      have nx : (chkE xs != 0) = false := by rw [hx]; rfl
      have ny : (chkE ys != 0) = false := by rw [hy]; rfl
      have lx : Nat.ble xs.length 1000 = true := Nat.ble_eq_true_of_le (by have := (chkE_ok nx).1; omega)
      have ly : Nat.ble ys.length 1000 = true := Nat.ble_eq_true_of_le (by have := (chkE_ok ny).1; omega)
      have lg := (len_lim (canF_len g)).1
      have lm := (len_lim (canF_len m)).1
      have ll := (len_lim (canF_len l)).1
      have kg : Nat.ble (canF g).length 1000 = true := Nat.ble_eq_true_of_le (by have := canF_len g; omega)
      have km : Nat.ble (canF m).length 1000 = true := Nat.ble_eq_true_of_le (by have := canF_len m; omega)
      have kl' : Nat.ble (canF l).length 1000 = true := Nat.ble_eq_true_of_le (by have := canF_len l; omega)
      simp only [okL_kf, kl_kf, j1, j2, j3, j4, e0, e1, bne_self, cond_true, cond_false, Bool.and_self, add0_zero, ble_self, samE_self, c1, c2, c3, lg, lm, ll, kg, km, kl', lx, ly, decide_true, Bool.not_true, hall]
      have f3 : (bytF (id % 257) (canF m) == bif decide (bytF (id % 257) (canF g) > 5) then bytF (id % 257) (canF g) else Int.ofNat 5) = true := by
        rw [f1]
        by_cases h : bytF (id % 257) (canF g) > 5
        · rw [decide_eq_true h, cond_true, beq_iff_eq]; omega
        · rw [decide_eq_false h, cond_false, beq_iff_eq]
          show max 5 (bytF (id % 257) (canF g)) = 5
          omega
      rw [f3, f2]; rfl
    · have nx : (chkE xs != 0) = false := by rw [hx]; rfl
      have ny : (chkE ys != 0) = true := by simpa using hy
      have j1 : joiF xs ys = ([], chkE ys) := by simp only [joiF, nx, ny, cond_true, cond_false]
      have j2 : joiF ys xs = ([], chkE ys) := by simp only [joiF, ny, cond_true]
      simp only [okL_kf, kl_kf, j1, j2, e0, nx, ny, cond_true, cond_false, Bool.and_self, List.length_nil]
      rfl
  · have nx : (chkE xs != 0) = true := by simpa using hx
    have j1 : joiF xs ys = ([], chkE xs) := by simp only [joiF, nx, cond_true]
    cases ny : (chkE ys != 0) with
    | true =>
      have j2 : joiF ys xs = ([], chkE ys) := by simp only [joiF, ny, cond_true]
      simp only [okL_kf, kl_kf, j1, j2, e0, nx, cond_true, cond_false, Bool.and_self, List.length_nil]
      rfl
    | false =>
      have j2 : joiF ys xs = ([], chkE xs) := by simp only [joiF, ny, nx, cond_true, cond_false]
      simp only [okL_kf, kl_kf, j1, j2, e0, nx, cond_true, cond_false, Bool.and_self, List.length_nil]
      rfl
theorem trackJoin_walk (w : World) (v0 : Value) (xs : List (Int × Int)) (v1 : Value) (ys : List (Int × Int)) (id : Int) (h0 : ∀ gh, VRel (kapOf w gh) (.lst 2 (kf xs) xs.length []) v0) (_ : ∀ x ∈ xs, (Lit.int .i64 x.1).wf = true ∧ (Lit.int .i64 x.2).wf = true) (_ : xs.length * 16 ≤ reachBytes) (h1 : ∀ gh, VRel (kapOf w gh) (.lst 2 (kf ys) ys.length []) v1) (_ : ∀ x ∈ ys, (Lit.int .i64 x.1).wf = true ∧ (Lit.int .i64 x.2).wf = true) (_ : ys.length * 16 ≤ reachBytes) (_ : (Lit.int .i64 id).wf = true) :
    CallsV Try.prog 8 [v0, v1, .int .i64 id] (.bool true) w :=
  calls_of_ev (gh := fun _ => .nilFunc) sprog_ok.1 sprog_ok.2 KCE_ok LCF_ok rfl (CRel.append (xs := [_]) (ys := [v0]) (h0 _) (CRel.append (xs := [_]) (ys := [v1]) (h1 _) (.int _ _ .nil))) (trackJoin_true xs ys id)
end Go.Proofs.Ytmegbaeclpoidaa.Law
