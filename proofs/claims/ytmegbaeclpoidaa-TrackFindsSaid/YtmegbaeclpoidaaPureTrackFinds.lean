/- The walk of TrackFinds: for all three numbers its call returns true. No conditions. -/
import Derived.Test.YtmegbaeclpoidaaC2
namespace Go.Proofs.Ytmegbaeclpoidaa.Law
open Go.Sv Go.RowKit Go.Proofs
set_option maxRecDepth 100000 in
theorem trackFinds_ev (off at' size : Int) : evFn Try.prog KC2 L18 (regB Try.prog) 200 6 [.int .i64 off, .int .i64 at', .int .i64 size] ⟨0, []⟩ ret =
  (bif ptrB (Int.ofNat 2) (Int.ofNat 0) (Int.ofNat 0) (Int.ofNat 0) (off % Int.ofNat 2049) then
  bif bif false then true else decide (off % 2049 < 0) then
    bif decide (IntKind.i64.wrap (1 + size % 8) < 1) then some (AV.bool false)
    else
      bif bif false then true else decide (IntKind.i64.wrap (1 + size % 8) > 8) then some (AV.bool false)
      else
        bif decide (IntKind.i64.wrap (at' % 2200 - 50) ≥ IntKind.i64.wrap (0 - 0)) then some (AV.bool false)
        else some (AV.bool false)
  else
    bif decide ((bif decide (2048 < off % 2049) then 2048 else off % 2049) > 0) then
      bif bif false then true else decide ((bif decide (2048 < off % 2049) then 2048 else off % 2049) < 1) then
        some (AV.bool false)
      else
        bif bif false then true else decide ((bif decide (2048 < off % 2049) then 2048 else off % 2049) > 2048) then
          some (AV.bool false)
        else
          bif decide (IntKind.i64.wrap (1 + size % 8) < 1) then some (AV.bool false)
          else
            bif bif false then true else decide (IntKind.i64.wrap (1 + size % 8) > 8) then some (AV.bool false)
            else
              bif decide (IntKind.i64.wrap (at' % 2200 - 50) ≥ IntKind.i64.wrap (0 - 0)) then
                bif decide (IntKind.i64.wrap (at' % 2200 - 50) ≥ 0) then
                  bif
                      bif false then true
                      else
                        !(bif true then
                              decide
                                (IntKind.i64.wrap (at' % 2200 - 50) ≤
                                  IntKind.i64.wrap
                                    (IntKind.i64.wrap
                                        ((bif decide (2048 < off % 2049) then 2048 else off % 2049) -
                                          IntKind.i64.wrap (1 + size % 8)) -
                                      0))
                            else false) ==
                            bif true then
                              decide
                                (IntKind.i64.wrap
                                    (IntKind.i64.wrap (at' % 2200 - 50) + IntKind.i64.wrap (1 + size % 8)) ≤
                                  off % 2049)
                            else false then
                    some (AV.bool false)
                  else
                    bif decide (IntKind.i64.wrap (at' % 2200 - 50) < 0) then some (AV.bool true)
                    else
                      bif
                          bif false then true
                          else decide ((bif decide (2048 < off % 2049) then 2048 else off % 2049) < 1) then
                        some (AV.bool false)
                      else
                        bif
                            bif false then true
                            else decide ((bif decide (2048 < off % 2049) then 2048 else off % 2049) > 2048) then
                          some (AV.bool false)
                        else
                          bif
                              !ptrB (Int.ofNat 2) (Int.ofNat 0) (Int.ofNat 0) (Int.ofNat 0)
                                  (bif decide (2048 < IntKind.i64.wrap (at' % 2200 - 50)) then Int.ofNat 2048
                                  else IntKind.i64.wrap (at' % Int.ofNat 2200 - Int.ofNat 50)) then
                            some (AV.bool false)
                          else
                            bif decide (IntKind.i64.wrap (1 + size % 8) < 1) then some (AV.bool false)
                            else
                              bif bif false then true else decide (IntKind.i64.wrap (1 + size % 8) > 8) then
                                some (AV.bool false)
                              else
                                bif
                                    decide
                                      (IntKind.i64.wrap
                                          (IntKind.i64.wrap (at' % 2200 - 50) -
                                            bif decide (2048 < IntKind.i64.wrap (at' % 2200 - 50)) then 2048
                                            else IntKind.i64.wrap (at' % 2200 - 50)) ≥
                                        IntKind.i64.wrap
                                          (0 -
                                            bif decide (2048 < IntKind.i64.wrap (at' % 2200 - 50)) then 2048
                                            else IntKind.i64.wrap (at' % 2200 - 50))) then
                                  some
                                    (AV.bool
                                      (bif true then
                                        (bif true then
                                            decide
                                              (IntKind.i64.wrap
                                                  (IntKind.i64.wrap (at' % 2200 - 50) -
                                                    bif decide (2048 < IntKind.i64.wrap (at' % 2200 - 50)) then 2048
                                                    else IntKind.i64.wrap (at' % 2200 - 50)) ≤
                                                IntKind.i64.wrap
                                                  (IntKind.i64.wrap
                                                      ((bif decide (2048 < off % 2049) then 2048 else off % 2049) -
                                                        IntKind.i64.wrap (1 + size % 8)) -
                                                    bif decide (2048 < IntKind.i64.wrap (at' % 2200 - 50)) then 2048
                                                    else IntKind.i64.wrap (at' % 2200 - 50)))
                                          else false) ==
                                          bif true then
                                            decide
                                              (IntKind.i64.wrap (at' % 2200 - 50) ≤
                                                IntKind.i64.wrap
                                                  (IntKind.i64.wrap
                                                      ((bif decide (2048 < off % 2049) then 2048 else off % 2049) -
                                                        IntKind.i64.wrap (1 + size % 8)) -
                                                    0))
                                          else false
                                      else false))
                                else
                                  some
                                    (AV.bool
                                      (bif true then
                                        false ==
                                          bif true then
                                            decide
                                              (IntKind.i64.wrap (at' % 2200 - 50) ≤
                                                IntKind.i64.wrap
                                                  (IntKind.i64.wrap
                                                      ((bif decide (2048 < off % 2049) then 2048 else off % 2049) -
                                                        IntKind.i64.wrap (1 + size % 8)) -
                                                    0))
                                          else false
                                      else false))
                else
                  bif
                      bif false then true
                      else
                        !(bif true then
                              decide
                                (IntKind.i64.wrap (at' % 2200 - 50) ≤
                                  IntKind.i64.wrap
                                    (IntKind.i64.wrap
                                        ((bif decide (2048 < off % 2049) then 2048 else off % 2049) -
                                          IntKind.i64.wrap (1 + size % 8)) -
                                      0))
                            else false) ==
                            false then
                    some (AV.bool false)
                  else
                    bif decide (IntKind.i64.wrap (at' % 2200 - 50) < 0) then some (AV.bool true)
                    else
                      bif
                          bif false then true
                          else decide ((bif decide (2048 < off % 2049) then 2048 else off % 2049) < 1) then
                        some (AV.bool false)
                      else
                        bif
                            bif false then true
                            else decide ((bif decide (2048 < off % 2049) then 2048 else off % 2049) > 2048) then
                          some (AV.bool false)
                        else
                          bif
                              !ptrB (Int.ofNat 2) (Int.ofNat 0) (Int.ofNat 0) (Int.ofNat 0)
                                  (bif decide (2048 < IntKind.i64.wrap (at' % 2200 - 50)) then Int.ofNat 2048
                                  else IntKind.i64.wrap (at' % Int.ofNat 2200 - Int.ofNat 50)) then
                            some (AV.bool false)
                          else
                            bif decide (IntKind.i64.wrap (1 + size % 8) < 1) then some (AV.bool false)
                            else
                              bif bif false then true else decide (IntKind.i64.wrap (1 + size % 8) > 8) then
                                some (AV.bool false)
                              else
                                bif
                                    decide
                                      (IntKind.i64.wrap
                                          (IntKind.i64.wrap (at' % 2200 - 50) -
                                            bif decide (2048 < IntKind.i64.wrap (at' % 2200 - 50)) then 2048
                                            else IntKind.i64.wrap (at' % 2200 - 50)) ≥
                                        IntKind.i64.wrap
                                          (0 -
                                            bif decide (2048 < IntKind.i64.wrap (at' % 2200 - 50)) then 2048
                                            else IntKind.i64.wrap (at' % 2200 - 50))) then
                                  some
                                    (AV.bool
                                      (bif true then
                                        (bif true then
                                            decide
                                              (IntKind.i64.wrap
                                                  (IntKind.i64.wrap (at' % 2200 - 50) -
                                                    bif decide (2048 < IntKind.i64.wrap (at' % 2200 - 50)) then 2048
                                                    else IntKind.i64.wrap (at' % 2200 - 50)) ≤
                                                IntKind.i64.wrap
                                                  (IntKind.i64.wrap
                                                      ((bif decide (2048 < off % 2049) then 2048 else off % 2049) -
                                                        IntKind.i64.wrap (1 + size % 8)) -
                                                    bif decide (2048 < IntKind.i64.wrap (at' % 2200 - 50)) then 2048
                                                    else IntKind.i64.wrap (at' % 2200 - 50)))
                                          else false) ==
                                          bif true then
                                            decide
                                              (IntKind.i64.wrap (at' % 2200 - 50) ≤
                                                IntKind.i64.wrap
                                                  (IntKind.i64.wrap
                                                      ((bif decide (2048 < off % 2049) then 2048 else off % 2049) -
                                                        IntKind.i64.wrap (1 + size % 8)) -
                                                    0))
                                          else false
                                      else false))
                                else
                                  some
                                    (AV.bool
                                      (bif true then
                                        false ==
                                          bif true then
                                            decide
                                              (IntKind.i64.wrap (at' % 2200 - 50) ≤
                                                IntKind.i64.wrap
                                                  (IntKind.i64.wrap
                                                      ((bif decide (2048 < off % 2049) then 2048 else off % 2049) -
                                                        IntKind.i64.wrap (1 + size % 8)) -
                                                    0))
                                          else false
                                      else false))
              else
                bif decide (IntKind.i64.wrap (at' % 2200 - 50) ≥ 0) then
                  bif
                      bif false then true
                      else
                        !false ==
                            bif true then
                              decide
                                (IntKind.i64.wrap
                                    (IntKind.i64.wrap (at' % 2200 - 50) + IntKind.i64.wrap (1 + size % 8)) ≤
                                  off % 2049)
                            else false then
                    some (AV.bool false)
                  else
                    bif decide (IntKind.i64.wrap (at' % 2200 - 50) < 0) then some (AV.bool true)
                    else
                      bif
                          bif false then true
                          else decide ((bif decide (2048 < off % 2049) then 2048 else off % 2049) < 1) then
                        some (AV.bool false)
                      else
                        bif
                            bif false then true
                            else decide ((bif decide (2048 < off % 2049) then 2048 else off % 2049) > 2048) then
                          some (AV.bool false)
                        else
                          bif
                              !ptrB (Int.ofNat 2) (Int.ofNat 0) (Int.ofNat 0) (Int.ofNat 0)
                                  (bif decide (2048 < IntKind.i64.wrap (at' % 2200 - 50)) then Int.ofNat 2048
                                  else IntKind.i64.wrap (at' % Int.ofNat 2200 - Int.ofNat 50)) then
                            some (AV.bool false)
                          else
                            bif decide (IntKind.i64.wrap (1 + size % 8) < 1) then some (AV.bool false)
                            else
                              bif bif false then true else decide (IntKind.i64.wrap (1 + size % 8) > 8) then
                                some (AV.bool false)
                              else
                                bif
                                    decide
                                      (IntKind.i64.wrap
                                          (IntKind.i64.wrap (at' % 2200 - 50) -
                                            bif decide (2048 < IntKind.i64.wrap (at' % 2200 - 50)) then 2048
                                            else IntKind.i64.wrap (at' % 2200 - 50)) ≥
                                        IntKind.i64.wrap
                                          (0 -
                                            bif decide (2048 < IntKind.i64.wrap (at' % 2200 - 50)) then 2048
                                            else IntKind.i64.wrap (at' % 2200 - 50))) then
                                  some
                                    (AV.bool
                                      (bif true then
                                        (bif true then
                                            decide
                                              (IntKind.i64.wrap
                                                  (IntKind.i64.wrap (at' % 2200 - 50) -
                                                    bif decide (2048 < IntKind.i64.wrap (at' % 2200 - 50)) then 2048
                                                    else IntKind.i64.wrap (at' % 2200 - 50)) ≤
                                                IntKind.i64.wrap
                                                  (IntKind.i64.wrap
                                                      ((bif decide (2048 < off % 2049) then 2048 else off % 2049) -
                                                        IntKind.i64.wrap (1 + size % 8)) -
                                                    bif decide (2048 < IntKind.i64.wrap (at' % 2200 - 50)) then 2048
                                                    else IntKind.i64.wrap (at' % 2200 - 50)))
                                          else false) ==
                                          false
                                      else false))
                                else some (AV.bool true)
                else
                  bif decide (IntKind.i64.wrap (at' % 2200 - 50) < 0) then some (AV.bool true)
                  else
                    bif
                        bif false then true
                        else decide ((bif decide (2048 < off % 2049) then 2048 else off % 2049) < 1) then
                      some (AV.bool false)
                    else
                      bif
                          bif false then true
                          else decide ((bif decide (2048 < off % 2049) then 2048 else off % 2049) > 2048) then
                        some (AV.bool false)
                      else
                        bif
                            !ptrB (Int.ofNat 2) (Int.ofNat 0) (Int.ofNat 0) (Int.ofNat 0)
                                (bif decide (2048 < IntKind.i64.wrap (at' % 2200 - 50)) then Int.ofNat 2048
                                else IntKind.i64.wrap (at' % Int.ofNat 2200 - Int.ofNat 50)) then
                          some (AV.bool false)
                        else
                          bif decide (IntKind.i64.wrap (1 + size % 8) < 1) then some (AV.bool false)
                          else
                            bif bif false then true else decide (IntKind.i64.wrap (1 + size % 8) > 8) then
                              some (AV.bool false)
                            else
                              bif
                                  decide
                                    (IntKind.i64.wrap
                                        (IntKind.i64.wrap (at' % 2200 - 50) -
                                          bif decide (2048 < IntKind.i64.wrap (at' % 2200 - 50)) then 2048
                                          else IntKind.i64.wrap (at' % 2200 - 50)) ≥
                                      IntKind.i64.wrap
                                        (0 -
                                          bif decide (2048 < IntKind.i64.wrap (at' % 2200 - 50)) then 2048
                                          else IntKind.i64.wrap (at' % 2200 - 50))) then
                                some
                                  (AV.bool
                                    (bif true then
                                      (bif true then
                                          decide
                                            (IntKind.i64.wrap
                                                (IntKind.i64.wrap (at' % 2200 - 50) -
                                                  bif decide (2048 < IntKind.i64.wrap (at' % 2200 - 50)) then 2048
                                                  else IntKind.i64.wrap (at' % 2200 - 50)) ≤
                                              IntKind.i64.wrap
                                                (IntKind.i64.wrap
                                                    ((bif decide (2048 < off % 2049) then 2048 else off % 2049) -
                                                      IntKind.i64.wrap (1 + size % 8)) -
                                                  bif decide (2048 < IntKind.i64.wrap (at' % 2200 - 50)) then 2048
                                                  else IntKind.i64.wrap (at' % 2200 - 50)))
                                        else false) ==
                                        false
                                    else false))
                              else some (AV.bool true)
    else
      bif decide (IntKind.i64.wrap (1 + size % 8) < 1) then some (AV.bool false)
      else
        bif bif false then true else decide (IntKind.i64.wrap (1 + size % 8) > 8) then some (AV.bool false)
        else
          bif decide (IntKind.i64.wrap (at' % 2200 - 50) ≥ IntKind.i64.wrap (0 - 0)) then
            bif decide (IntKind.i64.wrap (at' % 2200 - 50) ≥ 0) then
              bif
                  bif false then true
                  else
                    !(bif true then
                          decide
                            (IntKind.i64.wrap (at' % 2200 - 50) ≤
                              IntKind.i64.wrap (IntKind.i64.wrap (0 - IntKind.i64.wrap (1 + size % 8)) - 0))
                        else false) ==
                        bif true then
                          decide
                            (IntKind.i64.wrap (IntKind.i64.wrap (at' % 2200 - 50) + IntKind.i64.wrap (1 + size % 8)) ≤
                              off % 2049)
                        else false then
                some (AV.bool false)
              else
                bif decide (IntKind.i64.wrap (at' % 2200 - 50) < 0) then some (AV.bool true)
                else
                  bif
                      !ptrB (Int.ofNat 2) (Int.ofNat 0) (Int.ofNat 0) (Int.ofNat 0)
                          (bif decide (2048 < IntKind.i64.wrap (at' % 2200 - 50)) then Int.ofNat 2048
                          else IntKind.i64.wrap (at' % Int.ofNat 2200 - Int.ofNat 50)) then
                    some (AV.bool false)
                  else
                    bif decide (IntKind.i64.wrap (1 + size % 8) < 1) then some (AV.bool false)
                    else
                      bif bif false then true else decide (IntKind.i64.wrap (1 + size % 8) > 8) then
                        some (AV.bool false)
                      else
                        bif
                            decide
                              (IntKind.i64.wrap
                                  (IntKind.i64.wrap (at' % 2200 - 50) -
                                    bif decide (2048 < IntKind.i64.wrap (at' % 2200 - 50)) then 2048
                                    else IntKind.i64.wrap (at' % 2200 - 50)) ≥
                                IntKind.i64.wrap
                                  (0 -
                                    bif decide (2048 < IntKind.i64.wrap (at' % 2200 - 50)) then 2048
                                    else IntKind.i64.wrap (at' % 2200 - 50))) then
                          some
                            (AV.bool
                              (bif true then
                                (bif true then
                                    decide
                                      (IntKind.i64.wrap
                                          (IntKind.i64.wrap (at' % 2200 - 50) -
                                            bif decide (2048 < IntKind.i64.wrap (at' % 2200 - 50)) then 2048
                                            else IntKind.i64.wrap (at' % 2200 - 50)) ≤
                                        IntKind.i64.wrap
                                          (IntKind.i64.wrap (0 - IntKind.i64.wrap (1 + size % 8)) -
                                            bif decide (2048 < IntKind.i64.wrap (at' % 2200 - 50)) then 2048
                                            else IntKind.i64.wrap (at' % 2200 - 50)))
                                  else false) ==
                                  bif true then
                                    decide
                                      (IntKind.i64.wrap (at' % 2200 - 50) ≤
                                        IntKind.i64.wrap (IntKind.i64.wrap (0 - IntKind.i64.wrap (1 + size % 8)) - 0))
                                  else false
                              else false))
                        else
                          some
                            (AV.bool
                              (bif true then
                                false ==
                                  bif true then
                                    decide
                                      (IntKind.i64.wrap (at' % 2200 - 50) ≤
                                        IntKind.i64.wrap (IntKind.i64.wrap (0 - IntKind.i64.wrap (1 + size % 8)) - 0))
                                  else false
                              else false))
            else
              bif
                  bif false then true
                  else
                    !(bif true then
                          decide
                            (IntKind.i64.wrap (at' % 2200 - 50) ≤
                              IntKind.i64.wrap (IntKind.i64.wrap (0 - IntKind.i64.wrap (1 + size % 8)) - 0))
                        else false) ==
                        false then
                some (AV.bool false)
              else
                bif decide (IntKind.i64.wrap (at' % 2200 - 50) < 0) then some (AV.bool true)
                else
                  bif
                      !ptrB (Int.ofNat 2) (Int.ofNat 0) (Int.ofNat 0) (Int.ofNat 0)
                          (bif decide (2048 < IntKind.i64.wrap (at' % 2200 - 50)) then Int.ofNat 2048
                          else IntKind.i64.wrap (at' % Int.ofNat 2200 - Int.ofNat 50)) then
                    some (AV.bool false)
                  else
                    bif decide (IntKind.i64.wrap (1 + size % 8) < 1) then some (AV.bool false)
                    else
                      bif bif false then true else decide (IntKind.i64.wrap (1 + size % 8) > 8) then
                        some (AV.bool false)
                      else
                        bif
                            decide
                              (IntKind.i64.wrap
                                  (IntKind.i64.wrap (at' % 2200 - 50) -
                                    bif decide (2048 < IntKind.i64.wrap (at' % 2200 - 50)) then 2048
                                    else IntKind.i64.wrap (at' % 2200 - 50)) ≥
                                IntKind.i64.wrap
                                  (0 -
                                    bif decide (2048 < IntKind.i64.wrap (at' % 2200 - 50)) then 2048
                                    else IntKind.i64.wrap (at' % 2200 - 50))) then
                          some
                            (AV.bool
                              (bif true then
                                (bif true then
                                    decide
                                      (IntKind.i64.wrap
                                          (IntKind.i64.wrap (at' % 2200 - 50) -
                                            bif decide (2048 < IntKind.i64.wrap (at' % 2200 - 50)) then 2048
                                            else IntKind.i64.wrap (at' % 2200 - 50)) ≤
                                        IntKind.i64.wrap
                                          (IntKind.i64.wrap (0 - IntKind.i64.wrap (1 + size % 8)) -
                                            bif decide (2048 < IntKind.i64.wrap (at' % 2200 - 50)) then 2048
                                            else IntKind.i64.wrap (at' % 2200 - 50)))
                                  else false) ==
                                  bif true then
                                    decide
                                      (IntKind.i64.wrap (at' % 2200 - 50) ≤
                                        IntKind.i64.wrap (IntKind.i64.wrap (0 - IntKind.i64.wrap (1 + size % 8)) - 0))
                                  else false
                              else false))
                        else
                          some
                            (AV.bool
                              (bif true then
                                false ==
                                  bif true then
                                    decide
                                      (IntKind.i64.wrap (at' % 2200 - 50) ≤
                                        IntKind.i64.wrap (IntKind.i64.wrap (0 - IntKind.i64.wrap (1 + size % 8)) - 0))
                                  else false
                              else false))
          else
            bif decide (IntKind.i64.wrap (at' % 2200 - 50) ≥ 0) then
              bif
                  bif false then true
                  else
                    !false ==
                        bif true then
                          decide
                            (IntKind.i64.wrap (IntKind.i64.wrap (at' % 2200 - 50) + IntKind.i64.wrap (1 + size % 8)) ≤
                              off % 2049)
                        else false then
                some (AV.bool false)
              else
                bif decide (IntKind.i64.wrap (at' % 2200 - 50) < 0) then some (AV.bool true)
                else
                  bif
                      !ptrB (Int.ofNat 2) (Int.ofNat 0) (Int.ofNat 0) (Int.ofNat 0)
                          (bif decide (2048 < IntKind.i64.wrap (at' % 2200 - 50)) then Int.ofNat 2048
                          else IntKind.i64.wrap (at' % Int.ofNat 2200 - Int.ofNat 50)) then
                    some (AV.bool false)
                  else
                    bif decide (IntKind.i64.wrap (1 + size % 8) < 1) then some (AV.bool false)
                    else
                      bif bif false then true else decide (IntKind.i64.wrap (1 + size % 8) > 8) then
                        some (AV.bool false)
                      else
                        bif
                            decide
                              (IntKind.i64.wrap
                                  (IntKind.i64.wrap (at' % 2200 - 50) -
                                    bif decide (2048 < IntKind.i64.wrap (at' % 2200 - 50)) then 2048
                                    else IntKind.i64.wrap (at' % 2200 - 50)) ≥
                                IntKind.i64.wrap
                                  (0 -
                                    bif decide (2048 < IntKind.i64.wrap (at' % 2200 - 50)) then 2048
                                    else IntKind.i64.wrap (at' % 2200 - 50))) then
                          some
                            (AV.bool
                              (bif true then
                                (bif true then
                                    decide
                                      (IntKind.i64.wrap
                                          (IntKind.i64.wrap (at' % 2200 - 50) -
                                            bif decide (2048 < IntKind.i64.wrap (at' % 2200 - 50)) then 2048
                                            else IntKind.i64.wrap (at' % 2200 - 50)) ≤
                                        IntKind.i64.wrap
                                          (IntKind.i64.wrap (0 - IntKind.i64.wrap (1 + size % 8)) -
                                            bif decide (2048 < IntKind.i64.wrap (at' % 2200 - 50)) then 2048
                                            else IntKind.i64.wrap (at' % 2200 - 50)))
                                  else false) ==
                                  false
                              else false))
                        else some (AV.bool true)
            else
              bif decide (IntKind.i64.wrap (at' % 2200 - 50) < 0) then some (AV.bool true)
              else
                bif
                    !ptrB (Int.ofNat 2) (Int.ofNat 0) (Int.ofNat 0) (Int.ofNat 0)
                        (bif decide (2048 < IntKind.i64.wrap (at' % 2200 - 50)) then Int.ofNat 2048
                        else IntKind.i64.wrap (at' % Int.ofNat 2200 - Int.ofNat 50)) then
                  some (AV.bool false)
                else
                  bif decide (IntKind.i64.wrap (1 + size % 8) < 1) then some (AV.bool false)
                  else
                    bif bif false then true else decide (IntKind.i64.wrap (1 + size % 8) > 8) then some (AV.bool false)
                    else
                      bif
                          decide
                            (IntKind.i64.wrap
                                (IntKind.i64.wrap (at' % 2200 - 50) -
                                  bif decide (2048 < IntKind.i64.wrap (at' % 2200 - 50)) then 2048
                                  else IntKind.i64.wrap (at' % 2200 - 50)) ≥
                              IntKind.i64.wrap
                                (0 -
                                  bif decide (2048 < IntKind.i64.wrap (at' % 2200 - 50)) then 2048
                                  else IntKind.i64.wrap (at' % 2200 - 50))) then
                        some
                          (AV.bool
                            (bif true then
                              (bif true then
                                  decide
                                    (IntKind.i64.wrap
                                        (IntKind.i64.wrap (at' % 2200 - 50) -
                                          bif decide (2048 < IntKind.i64.wrap (at' % 2200 - 50)) then 2048
                                          else IntKind.i64.wrap (at' % 2200 - 50)) ≤
                                      IntKind.i64.wrap
                                        (IntKind.i64.wrap (0 - IntKind.i64.wrap (1 + size % 8)) -
                                          bif decide (2048 < IntKind.i64.wrap (at' % 2200 - 50)) then 2048
                                          else IntKind.i64.wrap (at' % 2200 - 50)))
                                else false) ==
                                false
                            else false))
                      else some (AV.bool true)
else
  bif decide (IntKind.i64.wrap (1 + size % 8) < 1) then some (AV.bool false)
  else
    bif bif false then true else decide (IntKind.i64.wrap (1 + size % 8) > 8) then some (AV.bool false)
    else
      bif decide (IntKind.i64.wrap (at' % 2200 - 50) ≥ IntKind.i64.wrap (0 - 0)) then some (AV.bool false)
      else some (AV.bool false)) := by kernel_rfl
set_option linter.unusedSimpArgs false
theorem cond_cases {α : Type} {c : Bool} {a b r : α} (h1 : c = true → a = r) (h2 : c = false → b = r) : (bif c then a else b) = r := by
  cases c
  · exact h2 rfl
  · exact h1 rfl
theorem hp (x : Int) (h : 0 ≤ x) (h' : x ≤ 2048) : ptrB 2 0 0 0 x = true := by simp [ptrB, idB, h, h']
set_option maxRecDepth 100000 in
theorem trackFinds_true (off at' size : Int) : evFn Try.prog KC2 L18 (regB Try.prog) 200 6 [.int .i64 off, .int .i64 at', .int .i64 size] ⟨0, []⟩ ret = some (.bool true) := by
  rw [trackFinds_ev]
  have o1 : 0 ≤ off % 2049 := by omega
  have o2 : off % 2049 ≤ 2048 := by omega
  have s1 : 0 ≤ size % 8 := by omega
  have s2 : size % 8 ≤ 7 := by omega
  have a1 : 0 ≤ at' % 2200 := by omega
  have a2 : at' % 2200 ≤ 2199 := by omega
  have e1 : Int.ofNat 2049 = 2049 := rfl
  have e2 : Int.ofNat 2200 = 2200 := rfl
  have e3 : Int.ofNat 2048 = 2048 := rfl
  have e4 : Int.ofNat 2 = 2 := rfl
  have e5 : Int.ofNat 0 = 0 := rfl
  have e6 : Int.ofNat 50 = 50 := rfl
  simp only [e1, e2, e3, e4, e5, e6]
  generalize off % 2049 = O at *
  generalize size % 8 = S at *
  generalize at' % 2200 = A at *
  have h1 : ¬ (2048 < O) := by omega
  have hp : ∀ x, 0 ≤ x → x ≤ 2048 → ptrB 2 0 0 0 x = true := fun x h h' => by simp [ptrB, idB, h, h']
  simp (disch := omega) only [wrap_in64, h1, decide_false, cond_false, cond_true, hp]
  by_cases hB : 2048 < A - 50
  · simp (disch := omega) only [wrap_in64, hB, decide_true, cond_true, cond_false, hp, Bool.not_true]
    repeat' refine cond_cases (fun h => ?_) (fun h => ?_)
    all_goals first | rfl | skip
    all_goals simp only [decide_eq_true_eq, decide_eq_false_iff_not, beq_iff_eq, beq_eq_false_iff_ne, ne_eq, Bool.not_eq_eq_eq_not, Bool.not_true, Bool.not_false, decide_eq_decide, Bool.false_eq, Bool.true_eq] at *
    all_goals first | (exfalso; omega) | (refine congrArg some (congrArg AV.bool ?_); simp only [beq_iff_eq, decide_eq_decide, Bool.false_eq, decide_eq_false_iff_not]; omega) | (exfalso; rw [hp _ (by omega) (by omega)] at h; cases h)
  · simp (disch := omega) only [wrap_in64, hB, decide_false, cond_false]
    repeat' refine cond_cases (fun h => ?_) (fun h => ?_)
    all_goals first | rfl | skip
    all_goals simp only [decide_eq_true_eq, decide_eq_false_iff_not, beq_iff_eq, beq_eq_false_iff_ne, ne_eq, Bool.not_eq_eq_eq_not, Bool.not_true, Bool.not_false, decide_eq_decide, Bool.false_eq, Bool.true_eq] at *
    all_goals first | (exfalso; omega) | (refine congrArg some (congrArg AV.bool ?_); simp only [beq_iff_eq, decide_eq_decide, Bool.false_eq, decide_eq_false_iff_not]; omega) | (exfalso; rw [hp _ (by omega) (by omega)] at h; cases h)
theorem trackFinds_walk (off at' size : Int) (_ : (Lit.int .i64 off).wf = true) (_ : (Lit.int .i64 at').wf = true) (_ : (Lit.int .i64 size).wf = true) (w : World) : CallsV Try.prog 6 [.int .i64 off, .int .i64 at', .int .i64 size] (.bool true) w :=
  calls_of_ev (gh := fun _ => .nilFunc) sprog_ok.1 sprog_ok.2 KC2_ok L18_ok rfl (.int _ _ (.int _ _ (.int _ _ .nil))) (trackFinds_true off at' size)
end Go.Proofs.Ytmegbaeclpoidaa.Law
