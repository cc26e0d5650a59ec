/- The evaluator and the contracts that the walk leans on, part Bf: C1, C2, C3, C4, C5, C6. -/
import Derived.Test.YtmegbaeclpoidaaBe
namespace Go.Sv
open Go.RowKit Go.Proofs

theorem wrap_in64 {x : Int} (h : -9223372036854775808 ≤ x) (h' : x ≤ 9223372036854775807) : IntKind.wrap .i64 x = x := by simp [IntKind.wrap, IntKind.bits, IntKind.signed]; omega
/-! ### sallyportref00.Bring -/
def fBring (R : Type) (vs : List AV) (k : AV → AS → Option R) : Option R :=
  match vs with
  | [.int .i64 i, .int .i64 n] => bif decide (0 < n) && decide (n < 4611686018427387904) then k (.int .i64 (i % n)) ⟨0, []⟩ else none
  | _ => none
theorem evBring (i n : Int) : evFn Try.prog K0 L0 (regB Try.prog) 50 30 [.int .i64 i, .int .i64 n] ⟨0, []⟩ ret =
    bif decide (n = 0) then none else bif decide (i.tmod n < 0) then some (AV.int .i64 (IntKind.i64.wrap (i.tmod n + n))) else some (AV.int .i64 (i.tmod n)) := by kernel_rfl
theorem okBring : FnOk Try.prog 30 fBring := fnOk_plain sprog_ok.1 sprog_ok.2 k0_ok l0_ok fun R vs k r h => by
  unfold fBring at h
  split at h
  · rename_i i n
    obtain ⟨hc, h⟩ := cond_some h
    simp only [Bool.and_eq_true, decide_eq_true_eq] at hc
    refine ⟨_, h, trivial, rfl, rfl, 50, ?_⟩
    rw [evBring]
    have hn : n ≠ 0 := by omega
    simp only [hn, decide_false, cond_false]
    have h1 := Int.tmod_lt_of_pos i hc.1
    have h2 : i % n = if i.tmod n < 0 then i.tmod n + n else i.tmod n := by
      have e1 := Int.emod_eq_tmod (a := i) (b := n)
      have e2 : (n.natAbs : Int) = n := by omega
      rw [e1]
      by_cases h0 : 0 ≤ i
      · have := Int.tmod_nonneg n h0
        simp [h0]; omega
      · by_cases hd : n ∣ i
        · have := Int.tmod_eq_zero_of_dvd hd
          simp [hd, this]
        · have h3 : i.tmod n ≠ 0 := fun e => hd (Int.dvd_of_tmod_eq_zero e)
          have h4 : i.tmod n ≤ 0 := by
            have := Int.tmod_nonneg n (a := -i) (by omega)
            rw [Int.neg_tmod] at this; omega
          have h5 : ¬ (0 ≤ i ∨ n ∣ i) := by simp [hd]; omega
          rw [if_neg h5, if_pos (by omega), e2]
    rw [h2]
    by_cases h3 : i.tmod n < 0
    · have h4 : -n < i.tmod n := by
        have := Int.tmod_lt_of_pos (-i) hc.1
        rw [Int.neg_tmod] at this; omega
      rw [wrap_in64 (by omega) (by omega)]
      simp [h3]
    · simp [h3]
  · cases h

/-! ### tests of values -/
def idB (a : Int) : Bool := decide (0 ≤ a) && decide (a ≤ 256)
def ptrB (a b c d e : Int) : Bool := (a == 2 && (b == 0 && c == 0)) && (idB d && (decide (0 ≤ e) && decide (e ≤ 2048)))
def endB (a b c d e : Int) : Bool := a == 3 && (b == 0 && c == 0) && (d == 0 && e == 0)
def fId (R : Type) (vs : List AV) (k : AV → AS → Option R) : Option R :=
  match vs with
  | [.int .i64 i] => k (.bool (idB i)) ⟨0, []⟩
  | _ => none
theorem okId1 : FnOk Try.prog 79 fId := fnOk_plain sprog_ok.1 sprog_ok.2 k0_ok l0_ok fun R vs k r h => by
  unfold fId at h
  split at h
  · rename_i i
    refine ⟨_, h, trivial, rfl, rfl, 50, ?_⟩
    have h1 : evFn Try.prog K0 L0 (regB Try.prog) 50 79 [.int .i64 i] ⟨0, []⟩ ret = bif decide (i ≥ 0) then some (AV.bool (bif true then decide (i ≤ 256) else false)) else some (AV.bool false) := by kernel_rfl
    rw [h1]
    by_cases h : 0 ≤ i <;> simp [h, idB]
  · cases h
theorem okId2 : FnOk Try.prog 80 fId := fnOk_plain sprog_ok.1 sprog_ok.2 k0_ok l0_ok fun R vs k r h => by
  unfold fId at h
  split at h
  · rename_i i
    refine ⟨_, h, trivial, rfl, rfl, 50, ?_⟩
    have h1 : evFn Try.prog K0 L0 (regB Try.prog) 50 80 [.int .i64 i] ⟨0, []⟩ ret = bif decide (i ≥ 0) then some (AV.bool (bif true then decide (i ≤ 256) else false)) else some (AV.bool false) := by kernel_rfl
    rw [h1]
    by_cases h : 0 ≤ i <;> simp [h, idB]
  · cases h
def fIn (R : Type) (vs : List AV) (k : AV → AS → Option R) : Option R :=
  match vs with
  | [.int .i64 a, .int .i64 b, .int .i64 c] => k (.bool (decide (b ≤ a) && decide (a ≤ c))) ⟨0, []⟩
  | _ => none
theorem okIn : FnOk Try.prog 76 fIn := fnOk_plain sprog_ok.1 sprog_ok.2 k0_ok l0_ok fun R vs k r h => by
  unfold fIn at h
  split at h
  · rename_i a b c
    refine ⟨_, h, trivial, rfl, rfl, 50, ?_⟩
    have h1 : evFn Try.prog K0 L0 (regB Try.prog) 50 76 [.int .i64 a, .int .i64 b, .int .i64 c] ⟨0, []⟩ ret = bif decide (a ≥ b) then some (AV.bool (bif true then decide (a ≤ c) else false)) else some (AV.bool false) := by kernel_rfl
    rw [h1]
    by_cases h : b ≤ a <;> simp [h]
  · cases h
def fPtr (R : Type) (vs : List AV) (k : AV → AS → Option R) : Option R :=
  match vs with
  | [.agg [.int .u8 a, .int .u64 b, .int .u64 c, .int .i64 d, .int .i64 e]] => k (.bool (ptrB a b c d e)) ⟨0, []⟩
  | _ => none
theorem okPtr1 : FnOk Try.prog 74 fPtr := fnOk_plain sprog_ok.1 sprog_ok.2 k0_ok l0_ok fun R vs k r h => by
  unfold fPtr at h
  split at h
  · rename_i a b c d e
    refine ⟨_, h, trivial, rfl, rfl, 50, ?_⟩
    have h1 : evFn Try.prog K0 L0 (regB Try.prog) 50 74 [.agg [.int .u8 a, .int .u64 b, .int .u64 c, .int .i64 d, .int .i64 e]] ⟨0, []⟩ ret = bif a == Int.ofNat 2 && (b == Int.ofNat 0 && (c == Int.ofNat 0 && true) && (d == d && (e == e && true))) then
  bif decide (d ≥ 0) then
    bif bif true then bif true then decide (d ≤ 256) else false else false then
      bif bif true then decide (e ≥ 0) else false then some (AV.bool (bif true then decide (e ≤ 2048) else false))
      else some (AV.bool false)
    else some (AV.bool false)
  else some (AV.bool false)
else some (AV.bool false) := by kernel_rfl
    rw [h1]
    cases ha : (a == 2) <;> cases hb : (b == 0) <;> cases hc : (c == 0) <;> by_cases hd : 0 ≤ d <;> by_cases hd' : d ≤ 256 <;> by_cases he : 0 ≤ e <;> simp [ptrB, idB, ha, hb, hc, hd, hd', he]
  · cases h
theorem okPtr2 : FnOk Try.prog 75 fPtr := fnOk_plain sprog_ok.1 sprog_ok.2 k0_ok l0_ok fun R vs k r h => by
  unfold fPtr at h
  split at h
  · rename_i a b c d e
    refine ⟨_, h, trivial, rfl, rfl, 50, ?_⟩
    have h1 : evFn Try.prog K0 L0 (regB Try.prog) 50 75 [.agg [.int .u8 a, .int .u64 b, .int .u64 c, .int .i64 d, .int .i64 e]] ⟨0, []⟩ ret = bif a == Int.ofNat 2 then
  bif bif true then b == Int.ofNat 0 && (c == Int.ofNat 0 && true) else false then
    bif decide (d ≥ 0) then
      bif bif true then bif true then decide (d ≤ 256) else false else false then
        bif decide (e ≥ 0) then some (AV.bool (bif true then bif true then decide (e ≤ 2048) else false else false))
        else some (AV.bool false)
      else some (AV.bool false)
    else some (AV.bool false)
  else some (AV.bool false)
else some (AV.bool false) := by kernel_rfl
    rw [h1]
    cases ha : (a == 2) <;> cases hb : (b == 0) <;> cases hc : (c == 0) <;> by_cases hd : 0 ≤ d <;> by_cases hd' : d ≤ 256 <;> by_cases he : 0 ≤ e <;> simp [ptrB, idB, ha, hb, hc, hd, hd', he]
  · cases h
def fEnd (R : Type) (vs : List AV) (k : AV → AS → Option R) : Option R :=
  match vs with
  | [.agg [.int .u8 a, .int .u64 b, .int .u64 c, .int .i64 d, .int .i64 e]] => k (.bool (endB a b c d e)) ⟨0, []⟩
  | _ => none
theorem okEnd : FnOk Try.prog 77 fEnd := fnOk_plain sprog_ok.1 sprog_ok.2 k0_ok l0_ok fun R vs k r h => by
  unfold fEnd at h
  split at h
  · rename_i a b c d e
    refine ⟨_, h, trivial, rfl, rfl, 50, ?_⟩
    have h1 : evFn Try.prog K0 L0 (regB Try.prog) 50 77 [.agg [.int .u8 a, .int .u64 b, .int .u64 c, .int .i64 d, .int .i64 e]] ⟨0, []⟩ ret = some (AV.bool (a == Int.ofNat 3 && (b == Int.ofNat 0 && (c == Int.ofNat 0 && true) && (d == Int.ofNat 0 && (e == Int.ofNat 0 && true))))) := by kernel_rfl
    rw [h1]
    simp [endB, Bool.and_assoc]
  · cases h
/-- The table of these. -/
def hasC1 : FuncId → Bool := addHas 30 (addHas 79 (addHas 80 (addHas 76 (addHas 74 (addHas 75 (addHas 77 has0))))))
def specC1 : SpecT := addS 30 fBring (addS 79 fId (addS 80 fId (addS 76 fIn (addS 74 fPtr (addS 75 fPtr (addS 77 fEnd S0))))))
theorem specC1_ok : SpecOk Try.prog hasC1 specC1 := addS_ok okBring (addS_ok okId1 (addS_ok okId2 (addS_ok okIn (addS_ok okPtr1 (addS_ok okPtr2 (addS_ok okEnd s0_ok))))))
end Go.Sv
namespace Go.Sv
open Go.RowKit Go.Proofs
def fTrue (R : Type) (vs : List AV) (k : AV → AS → Option R) : Option R :=
  match vs with
  | [] => k (.bool true) ⟨0, []⟩
  | _ => none
set_option maxRecDepth 100000 in
theorem evWorks16 : evFn Try.prog KA L18 (regB Try.prog) 100 23 [] ⟨0, []⟩ ret = some (.bool true) := by kernel_rfl
theorem okWorks16 : FnOk Try.prog 23 fTrue := fnOk_plain sprog_ok.1 sprog_ok.2 KA_ok L18_ok fun R vs k r h => by
  unfold fTrue at h
  split at h
  · exact ⟨_, h, trivial, rfl, rfl, 100, evWorks16⟩
  · cases h
def hasC2 : FuncId → Bool := addHas 23 hasC1
def specC2 : SpecT := addS 23 fTrue specC1
theorem specC2_ok : SpecOk Try.prog hasC2 specC2 := addS_ok okWorks16 specC1_ok
def KC2 : KT := orK (specK hasC2 specC2) KA
theorem KC2_ok : KOk Try.prog KC2 := orK_ok (specK_ok specC2_ok) KA_ok
end Go.Sv
namespace Go.Sv
open Go.RowKit Go.Proofs

def KC1 : KT := specK hasC1 specC1
theorem KC1_ok : KOk Try.prog KC1 := specK_ok specC1_ok
/-! ### what it computes -/
def chkF : Int → List (Int × Int) → Bool
  | _, [] => true
  | last, x :: r => (!decide (x.1 ≤ last) && idB x.1 && (!decide (x.2 < 1) && !decide (x.2 > 2048))) && chkF x.1 r
def chkE (xs : List (Int × Int)) : Int := bif decide (xs.length > 257) then 3 else bif chkF (-1) xs then 0 else 2

/-! ### the program's -/
def lChk (v2 : AV) (xs : List (Int × Int)) (n i : Nat) (last : Int) : List (Nat × AV) := [(2, v2), (3, .int .i64 last), (9, .lst 2 (kf xs) n []), (10, .int .i64 (Int.ofNat n)), (11, .int .i64 (Int.ofNat i))]
theorem gChk2 (v : AV) (xs : List (Int × Int)) (n i : Nat) (last : Int) : (slots (lChk v xs n i last) (Env.mk 6)).get 2 = v := by kernel_rfl
theorem evChk (xs : List (Int × Int)) (n i : Nat) (last : Int) : evCode Try.prog KC1 L0 (regB Try.prog) 40 35 (loopOf Try.prog 35 0) (slots (lChk .any xs n i last) (Env.mk 6)) ⟨0, []⟩ (fun e E' _ => some (e, keepE E' [2, 3, 9, 10, 11] (Env.mk 6))) =
  (bif decide (Int.ofNat i < Int.ofNat n) then bif decide (Int.ofNat i < (n : Int)) then
    bif decide ((xs.getD i (0, 0)).1 ≤ last) then some (.ret, slots (lChk (.int .i64 2) xs n i last) (Env.mk 6)) else
    bif bif false then true else !idB (xs.getD i (0, 0)).1 then some (.ret, slots (lChk (.int .i64 2) xs n i last) (Env.mk 6)) else
    bif bif false then true else decide ((xs.getD i (0, 0)).2 < 1) then some (.ret, slots (lChk (.int .i64 2) xs n i last) (Env.mk 6)) else
    bif bif false then true else decide ((xs.getD i (0, 0)).2 > 2048) then some (.ret, slots (lChk (.int .i64 2) xs n i last) (Env.mk 6)) else
    some (.normal, ((((((Env.mk 6).set 2 .any).set 3 (.int .i64 (xs.getD i (0, 0)).1)).set 9 (.lst 2 (kf xs) n [])).set 10 (.int .i64 (Int.ofNat n))).set 11 (.int .i64 (IntKind.i64.wrap (Int.ofNat (i + 1))))))
  else none else some (.exit 0, slots (lChk .any xs n i last) (Env.mk 6))) := by kernel_rfl
theorem loopChk (xs : List (Int × Int)) (hx : xs.length ≤ 257) {nb : Nat} (hnb : nb ≤ 0) (hs : SubOk Try.prog 35 (loopOf Try.prog 35 0)) :
    ∀ (r : List (Int × Int)) (i : Nat) (last : Int), xs.drop i = r → i ≤ xs.length → ∃ v3 v11, LoopOk Try.prog nb (szOf Try.prog 35) (loopOf Try.prog 35 0) (slots (lChk .any xs xs.length i last) (Env.mk 6)) ⟨0, []⟩
      (bif chkF last r then .exit 0 else .ret) (slots (lChk (bif chkF last r then .any else .int .i64 2) xs xs.length v11 v3) (Env.mk 6)) ⟨0, []⟩
  | [], i, last, hr, hi => by
    have hi' : i = xs.length := by
      have := congrArg List.length hr
      simp at this; omega
    subst hi'
    refine ⟨last, xs.length, .last (code_free sprog_ok.1 sprog_ok.2 KC1_ok l0_ok (fuel := 40) (ts := [2, 3, 9, 10, 11]) hs hnb hnb rfl ?_) (by intro h; cases h)⟩
    rw [evChk]
    simp [chkF]
  | x :: r, i, last, hr, hi => by
    obtain ⟨h1, h2, h3⟩ := getD_of (d := (0, 0)) hr
    have hlt : Int.ofNat i < Int.ofNat xs.length := by simp; omega
    have hlt' : Int.ofNat i < (xs.length : Int) := hlt
    have hev := evChk xs xs.length i last
    rw [h1] at hev
    simp only [hlt, hlt', decide_true, cond_true, cond_false] at hev
    cases hc : (!decide (x.1 ≤ last) && idB x.1 && (!decide (x.2 < 1) && !decide (x.2 > 2048))) with
    | false =>
      have hf : chkF last (x :: r) = false := by simp [chkF, hc]
      rw [hf]
      refine ⟨last, i, .last (code_free sprog_ok.1 sprog_ok.2 KC1_ok l0_ok (fuel := 40) (ts := [2, 3, 9, 10, 11]) hs hnb hnb rfl (hev.trans ?_)) (by intro h; cases h)⟩
      simp only [cond_false]
      repeat' refine cond_cases (fun h => ?_) (fun h => ?_)
      all_goals first | rfl | (exfalso; simp_all)
    | true =>
      have hf : chkF last (x :: r) = chkF x.1 r := by simp [chkF, hc]
      rw [hf]
      obtain ⟨v3, v11, hl⟩ := loopChk xs hx hnb hs r (i + 1) x.1 h2 (by omega)
      refine ⟨v3, v11, .round (code_free sprog_ok.1 sprog_ok.2 KC1_ok l0_ok (fuel := 40) (ts := [2, 3, 9, 10, 11]) hs hnb hnb rfl (hev.trans ?_)) hl⟩
      simp only [Bool.and_eq_true, Bool.not_eq_true'] at hc
      rw [hc.1.1, hc.1.2, hc.2.1, hc.2.2, wrapNat (by omega)]
      rfl
/-- The loop, for any list. -/
def fLoopChk (R : Type) (E : Env) (st : AS) : Option ((EK → Env → AS → Option R) → Option R) :=
  match E.get 3, E.get 9, E.get 10, E.get 11 with
  | .int .i64 last, .lst 2 f n us, .int .i64 m, .int .i64 i => match st.mem with
    | [] => some fun k => bif Nat.beq st.next 0 && decide (m = Int.ofNat n) && decide (i = 0) && Nat.ble n 257 && okL f n us then
        bif chkF last (kl f n us) then k .normal (slots [] (Env.mk 6)) ⟨0, []⟩ else k .ret (slots [(2, .int .i64 2)] (Env.mk 6)) ⟨0, []⟩ else none
    | _ => none
  | _, _, _, _ => none
theorem okLoopChk : LoopFn Try.prog 35 0 fLoopChk := fun R E st G h hs nb hnb k r hk => by
  unfold fLoopChk at h
  split at h
  · rename_i last f n us m i g3 g9 g10 g11
    split at h
    · rename_i hm
      simp only [Option.some.injEq] at h
      subst h
      obtain ⟨hc, hk1⟩ := cond_some hk
      clear hk
      simp only [Bool.and_eq_true, decide_eq_true_eq] at hc
      obtain ⟨⟨⟨⟨c1, c2⟩, c3⟩, c4⟩, c5⟩ := hc
      have d1 := Nat.eq_of_beq_eq_true c1
      have d4 := Nat.le_of_ble_eq_true c4
      clear c1
      obtain ⟨next, mem⟩ := st
      dsimp only at hm d1
      subst hm; subst d1; subst c2; subst c3
      obtain ⟨v3, v11, hl⟩ := loopChk (kl f n us) (by rw [kl_length]; exact d4) hnb hs (kl f n us) 0 last rfl (Nat.zero_le _)
      have hw : Weak nb (szOf Try.prog 35) E ⟨0, []⟩ (slots (lChk .any (kl f n us) (kl f n us).length 0 last) (Env.mk 6)) ⟨0, []⟩ := weak_slots fun p hp κ y hy => by
        rw [kl_length] at hp
        simp only [lChk, List.mem_cons, List.not_mem_nil, or_false] at hp
        rcases hp with rfl | rfl | rfl | rfl | rfl
        · exact vrel_any _ _
        · dsimp only at hy; rw [g3] at hy; exact hy
        · dsimp only at hy; rw [g9] at hy; exact hy.pairs c5
        · dsimp only at hy; rw [g10] at hy; exact hy
        · dsimp only at hy; rw [g11] at hy; exact hy
      have hl := hl.weak hw
      cases hf : chkF last (kl f n us) with
      | true =>
        rw [hf] at hk1 hl
        exact ⟨.exit 0, _, _, hk1, Nat.le_refl _, hl.out (mk_less 6 _)⟩
      | false =>
        rw [hf] at hk1 hl
        exact ⟨.ret, _, _, hk1, Nat.le_refl _, hl.out (less_slots fun p hp => by rw [List.mem_singleton.1 hp]; exact gChk2 _ _ _ _ _)⟩
    · cases h
  · cases h
def LC3a : LT := addL 35 0 fLoopChk L0
theorem LC3a_ok : LOk Try.prog LC3a := addL_ok sprog_ok.1 (by kernel_rfl) okLoopChk l0_ok
theorem evCheck (xs : List (Int × Int)) (n : Nat) : evFn Try.prog KC1 LC3a (regB Try.prog) 60 35 [.lst 2 (kf xs) n []] ⟨0, []⟩ ret =
  (bif decide ((n : Int) > 257) then some (AV.int IntKind.i64 (Int.ofNat 3)) else bif true && decide ((n : Int) = Int.ofNat n) && true && n.ble 257 && okL (kf xs) n [] then bif chkF (Int.negSucc 0) (kl (kf xs) n []) then some (AV.int IntKind.i64 (Int.ofNat 0)) else some (AV.int IntKind.i64 (Int.ofNat 2)) else none) := by kernel_rfl
/-- Check of a list of pairs. -/
def fChk (R : Type) (vs : List AV) (k : AV → AS → Option R) : Option R :=
  match vs with
  | [.lst 2 f n us] => bif okL f n us then k (.int .i64 (chkE (kl f n us))) ⟨0, []⟩ else none
  | _ => none
theorem okChk1 : FnOk Try.prog 35 fChk := fun R vs k r h => by
  unfold fChk at h
  split at h
  · rename_i f n us
    obtain ⟨hc, h⟩ := cond_some h
    refine ⟨_, _, h, ⟨trivial, fun p hp => by cases hp⟩, SoundFn.args (vs' := [.lst 2 (kf (kl f n us)) (kl f n us).length []]) (fn_plain sprog_ok.1 sprog_ok.2 KC1_ok LC3a_ok (fuel := 60) rfl rfl ?_) fun κ ys hy => hy.cons_map (fun y hy => by rw [kl_length]; exact hy.pairs hc) (fun _ h => h) rfl⟩
    rw [evCheck, kl_kf, okL_kf]
    generalize kl f n us = xs
    simp only [chkE]
    cases hl : decide (xs.length > 257) with
    | true =>
      have : decide ((xs.length : Int) > 257) = true := by simp at hl ⊢; omega
      rw [this]; rfl
    | false =>
      have h1 : decide ((xs.length : Int) > 257) = false := by simp at hl ⊢; omega
      have h2 : xs.length.ble 257 = true := by simp at hl ⊢; omega
      rw [h1, h2]
      cases hb : chkF (Int.negSucc 0) xs with
      | true => have : chkF (-1) xs = true := hb; rw [this]; simp
      | false => have : chkF (-1) xs = false := hb; rw [this]; simp
  · cases h
end Go.Sv
namespace Go.Sv
open Go.RowKit Go.Proofs

/-! ### the document's Check -/
def lCk2 (v2 : AV) (xs : List (Int × Int)) (n i : Nat) : List (Nat × AV) := [(2, v2), (0, .lst 2 (kf xs) n []), (3, .int .i64 (Int.ofNat i))]
theorem gCk2 (v : AV) (xs : List (Int × Int)) (n i : Nat) : (slots (lCk2 v xs n i) (Env.mk 6)).get 2 = v := by kernel_rfl
theorem evCk2 (xs : List (Int × Int)) (n i : Nat) : evCode Try.prog KC1 L0 (regB Try.prog) 60 36 (loopOf Try.prog 36 0) (slots (lCk2 .any xs n i) (Env.mk 6)) ⟨0, []⟩ (fun e E' _ => some (e, keepE E' [2, 0, 3] (Env.mk 6))) =
  (bif decide (Int.ofNat i < (n : Int)) then bif decide (Int.ofNat i < (n : Int)) then
    bif !idB (xs.getD i (0, 0)).1 then some (.ret, slots (lCk2 (.int .i64 2) xs n i) (Env.mk 6)) else
    bif decide (Int.ofNat i > 0) then
      bif decide (Int.ofNat i < (n : Int)) then bif decide (0 ≤ IntKind.i64.wrap (Int.ofNat i - 1)) then bif decide (IntKind.i64.wrap (Int.ofNat i - 1) < (n : Int)) then
        bif (bif false then true else bif true then decide ((xs.getD i (0, 0)).1 ≤ (xs.getD (IntKind.i64.wrap (Int.ofNat i - 1)).toNat (0, 0)).1) else false) then some (.ret, slots (lCk2 (.int .i64 2) xs n i) (Env.mk 6)) else
        bif decide (Int.ofNat i < (n : Int)) then
          bif (bif false then true else !(decide (1 ≤ (xs.getD i (0, 0)).2) && decide ((xs.getD i (0, 0)).2 ≤ 2048))) then some (.ret, slots (lCk2 (.int .i64 2) xs n i) (Env.mk 6)) else
          some (.normal, (((Env.mk 6).set 2 .any).set 0 (.lst 2 (kf xs) n [])).set 3 (.int .i64 (IntKind.i64.wrap (Int.ofNat (i + 1)))))
        else none
      else none else none else none
    else
      bif decide (Int.ofNat i < (n : Int)) then
        bif (bif false then true else !(decide (1 ≤ (xs.getD i (0, 0)).2) && decide ((xs.getD i (0, 0)).2 ≤ 2048))) then some (.ret, slots (lCk2 (.int .i64 2) xs n i) (Env.mk 6)) else
        some (.normal, (((Env.mk 6).set 2 .any).set 0 (.lst 2 (kf xs) n [])).set 3 (.int .i64 (IntKind.i64.wrap (Int.ofNat (i + 1)))))
      else none
  else none else some (.exit 0, slots (lCk2 .any xs n i) (Env.mk 6))) := by kernel_rfl
def stChk (last : Int) (x : Int × Int) : Int ⊕ Unit := bif (!decide (x.1 ≤ last) && idB x.1 && (!decide (x.2 < 1) && !decide (x.2 > 2048))) then .inl x.1 else .inr ()
theorem stChk_fold {γ : Type} (a b : γ) : ∀ (xs : List (Int × Int)) (last : Int), fork (fun _ => a) (fun _ => b) (foldX stChk last xs) = bif chkF last xs then a else b
  | [], last => rfl
  | x :: r, last => by
    have ih := stChk_fold a b r x.1
    simp only [foldX, stChk, chkF]
    cases hc : (!decide (x.1 ≤ last) && idB x.1 && (!decide (x.2 < 1) && !decide (x.2 > 2048))) with
    | true => simpa using ih
    | false => simp [fork]
def InvCk (xs : List (Int × Int)) (i : Nat) (last : Int) : Prop := (i = 0 ∧ last = -1) ∨ (0 < i ∧ last = (xs.getD (i - 1) (0, 0)).1)
theorem inv_next (xs : List (Int × Int)) (i : Nat) : InvCk xs (i + 1) (xs.getD i (0, 0)).1 := .inr ⟨by omega, by simp⟩
theorem wrapPred {i : Nat} (h0 : 0 < i) (h : i < 9223372036854775807) : IntKind.i64.wrap (Int.ofNat i - 1) = Int.ofNat (i - 1) := by
  have : (Int.ofNat i - 1 : Int) = ((i - 1 : Nat) : Int) := by simp; omega
  rw [this]; exact wrap_in64 (by omega) (by omega)
theorem chk_same {i : Nat} {last : Int} {x : Int × Int} (h0 : i = 0 → last = -1) : (!decide (x.1 ≤ last) && idB x.1 && (!decide (x.2 < 1) && !decide (x.2 > 2048))) = (idB x.1 && !(decide (0 < i) && decide (x.1 ≤ last)) && (decide (1 ≤ x.2) && decide (x.2 ≤ 2048))) := by
  have e1 : (!decide (x.2 < 1) && !decide (x.2 > 2048)) = (decide (1 ≤ x.2) && decide (x.2 ≤ 2048)) := by
    congr 1
    · rw [← decide_not]; exact decide_eq_decide.2 (by omega)
    · rw [← decide_not]; exact decide_eq_decide.2 (by omega)
  rw [e1]
  congr 1
  rcases Nat.eq_zero_or_pos i with h | h
  · have := h0 h
    subst this; subst h
    simp only [Nat.lt_irrefl, decide_false, Bool.false_and, Bool.not_false, Bool.and_true]
    cases hb : idB x.1 with
    | false => simp
    | true =>
      simp only [idB, Bool.and_eq_true, decide_eq_true_eq] at hb
      have : ¬ x.1 ≤ -1 := by omega
      simp [this]
  · simp [h, Bool.and_comm]
theorem loopCk2 (xs : List (Int × Int)) (hx : xs.length ≤ 257) {nb : Nat} (hnb : nb ≤ 0) (hs : SubOk Try.prog 36 (loopOf Try.prog 36 0)) :
    LoopOk Try.prog nb (szOf Try.prog 36) (loopOf Try.prog 36 0) (slots (lCk2 .any xs xs.length 0) (Env.mk 6)) ⟨0, []⟩ (bif chkF (-1) xs then Fin3.mk (.exit 0) (slots [] (Env.mk 6)) ⟨0, []⟩ else ⟨.ret, slots [(2, .int .i64 2)] (Env.mk 6), ⟨0, []⟩⟩).e
      (bif chkF (-1) xs then Fin3.mk (.exit 0) (slots [] (Env.mk 6)) ⟨0, []⟩ else ⟨.ret, slots [(2, .int .i64 2)] (Env.mk 6), ⟨0, []⟩⟩).E (bif chkF (-1) xs then Fin3.mk (.exit 0) (slots [] (Env.mk 6)) ⟨0, []⟩ else ⟨.ret, slots [(2, .int .i64 2)] (Env.mk 6), ⟨0, []⟩⟩).st := by
  rw [← stChk_fold]
  refine loop_fold stChk xs (0, 0) (InvCk xs) (fun i _ => (slots (lCk2 .any xs xs.length i) (Env.mk 6), ⟨0, []⟩)) (fun _ => ⟨.exit 0, slots [] (Env.mk 6), ⟨0, []⟩⟩) (fun _ => ⟨.ret, slots [(2, .int .i64 2)] (Env.mk 6), ⟨0, []⟩⟩) (fun i last hI hi => ?_) (fun last _ => ?_) (fun _ h => by cases h) (fun _ h => by cases h) xs 0 (-1) (.inl ⟨rfl, rfl⟩) rfl (Nat.zero_le _)
  · have hev := evCk2 xs xs.length i
    have hnx := inv_next xs i
    have hprev : ∀ h0 : 0 < i, (IntKind.i64.wrap (Int.ofNat i - 1)) = Int.ofNat (i - 1) := fun h0 => wrapPred h0 (by omega)
    have hl : ∀ h0 : 0 < i, last = (xs.getD (i - 1) (0, 0)).1 := fun h0 => (hI.resolve_left (by omega)).2
    have h0 : ∀ h0 : i = 0, last = -1 := fun h0 => (hI.resolve_right (by omega)).2
    generalize xs.getD i (0, 0) = x at hev hnx ⊢
    simp only [dec_lt' hi, cond_true, cond_false, wrapNat (show i < 9223372036854775807 by omega)] at hev
    have hsame := chk_same (i := i) (x := x) h0
    simp only [stChk, hsame]
    cases hid : idB x.1 with
    | false =>
      simp only [hid, Bool.not_false, cond_true] at hev
      exact (code_free sprog_ok.1 sprog_ok.2 KC1_ok l0_ok (fuel := 60) (ts := [2, 0, 3]) hs hnb hnb rfl hev).less (less_slots fun p hp => by rw [List.mem_singleton.1 hp]; exact gCk2 _ _ _ _)
    | true =>
      simp only [hid, Bool.not_true, cond_false] at hev
      rcases Nat.eq_zero_or_pos i with h | h
      · subst h
        have e0 : decide (Int.ofNat 0 > 0) = false := rfl
        simp only [e0, cond_false] at hev
        simp only [Nat.lt_irrefl, decide_false, Bool.false_and, Bool.not_false, Bool.and_true, Bool.true_and]
        cases hb : (decide (1 ≤ x.2) && decide (x.2 ≤ 2048)) with
        | true =>
          simp only [hb, Bool.not_true, cond_false] at hev
          exact ⟨hnx, code_free sprog_ok.1 sprog_ok.2 KC1_ok l0_ok (fuel := 60) (ts := [2, 0, 3]) hs hnb hnb rfl hev⟩
        | false =>
          simp only [hb, Bool.not_false, cond_true] at hev
          exact (code_free sprog_ok.1 sprog_ok.2 KC1_ok l0_ok (fuel := 60) (ts := [2, 0, 3]) hs hnb hnb rfl hev).less (less_slots fun p hp => by rw [List.mem_singleton.1 hp]; exact gCk2 _ _ _ _)
      · have e0 : decide (Int.ofNat i > 0) = true := by simp; omega
        have e1 : decide (0 ≤ Int.ofNat (i - 1)) = true := by simp
        have e2 : decide (Int.ofNat (i - 1) < (xs.length : Int)) = true := dec_lt' (by omega)
        have e3 : (Int.ofNat (i - 1)).toNat = i - 1 := rfl
        simp only [e0, cond_true, hprev h, e1, e2, e3, ← hl h] at hev
        simp only [h, decide_true, Bool.true_and]
        cases hle : decide (x.1 ≤ last) with
        | true =>
          simp only [hle, cond_true] at hev
          exact (code_free sprog_ok.1 sprog_ok.2 KC1_ok l0_ok (fuel := 60) (ts := [2, 0, 3]) hs hnb hnb rfl hev).less (less_slots fun p hp => by rw [List.mem_singleton.1 hp]; exact gCk2 _ _ _ _)
        | false =>
          simp only [hle, cond_false] at hev
          simp only [Bool.not_false, Bool.true_and]
          cases hb : (decide (1 ≤ x.2) && decide (x.2 ≤ 2048)) with
          | true =>
            simp only [hb, Bool.not_true, cond_false] at hev
            exact ⟨hnx, code_free sprog_ok.1 sprog_ok.2 KC1_ok l0_ok (fuel := 60) (ts := [2, 0, 3]) hs hnb hnb rfl hev⟩
          | false =>
            simp only [hb, Bool.not_false, cond_true] at hev
            exact (code_free sprog_ok.1 sprog_ok.2 KC1_ok l0_ok (fuel := 60) (ts := [2, 0, 3]) hs hnb hnb rfl hev).less (less_slots fun p hp => by rw [List.mem_singleton.1 hp]; exact gCk2 _ _ _ _)
  · have hev := evCk2 xs xs.length xs.length
    simp only [dec_nlt', cond_false] at hev
    exact (code_free sprog_ok.1 sprog_ok.2 KC1_ok l0_ok (fuel := 60) (ts := [2, 0, 3]) hs hnb hnb rfl hev).less (mk_less 6 _)
def fLoopCk2 (R : Type) (E : Env) (st : AS) : Option ((EK → Env → AS → Option R) → Option R) :=
  match E.get 0, E.get 3 with
  | .lst 2 f n us, .int .i64 i => match st.mem with
    | [] => some fun k => bif Nat.beq st.next 0 && decide (i = 0) && Nat.ble n 257 && okL f n us then
        bif chkF (-1) (kl f n us) then k .normal (slots [] (Env.mk 6)) ⟨0, []⟩ else k .ret (slots [(2, .int .i64 2)] (Env.mk 6)) ⟨0, []⟩ else none
    | _ => none
  | _, _ => none
theorem okLoopCk2 : LoopFn Try.prog 36 0 fLoopCk2 := fun R E st G h hs nb hnb k r hk => by
  unfold fLoopCk2 at h
  split at h
  · rename_i f n us i g0 g3
    split at h
    · rename_i hm
      simp only [Option.some.injEq] at h
      subst h
      obtain ⟨hc, hk1⟩ := cond_some hk
      clear hk
      simp only [Bool.and_eq_true, decide_eq_true_eq] at hc
      obtain ⟨⟨⟨c1, c3⟩, c4⟩, c5⟩ := hc
      have d1 := Nat.eq_of_beq_eq_true c1
      have d4 := Nat.le_of_ble_eq_true c4
      clear c1
      obtain ⟨next, mem⟩ := st
      dsimp only at hm d1
      subst hm; subst d1; subst c3
      have hl := loopCk2 (kl f n us) (by rw [kl_length]; exact d4) hnb hs
      have hw : Weak nb (szOf Try.prog 36) E ⟨0, []⟩ (slots (lCk2 .any (kl f n us) (kl f n us).length 0) (Env.mk 6)) ⟨0, []⟩ := weak_slots fun p hp κ y hy => by
        rw [kl_length] at hp
        simp only [lCk2, List.mem_cons, List.not_mem_nil, or_false] at hp
        rcases hp with rfl | rfl | rfl
        · exact vrel_any _ _
        · dsimp only at hy; rw [g0] at hy; exact hy.pairs c5
        · dsimp only at hy; rw [g3] at hy; exact hy
      cases hf : chkF (-1) (kl f n us) with
      | true =>
        rw [hf] at hl hk1
        exact ⟨.exit 0, _, _, hk1, Nat.le_refl _, hl.weak hw⟩
      | false =>
        rw [hf] at hl hk1
        exact ⟨.ret, _, _, hk1, Nat.le_refl _, hl.weak hw⟩
    · cases h
  · cases h
def LC4a : LT := addL 36 0 fLoopCk2 L0
theorem LC4a_ok : LOk Try.prog LC4a := addL_ok sprog_ok.1 (by kernel_rfl) okLoopCk2 l0_ok
theorem evCheck2 (xs : List (Int × Int)) (n : Nat) : evFn Try.prog KC1 LC4a (regB Try.prog) 60 36 [.lst 2 (kf xs) n []] ⟨0, []⟩ ret =
  (bif decide ((n : Int) > 257) then some (AV.int IntKind.i64 (Int.ofNat 3)) else bif true && n.ble 257 && okL (kf xs) n [] then bif chkF (Int.negSucc 0) (kl (kf xs) n []) then some (AV.int IntKind.i64 (Int.ofNat 0)) else some (AV.int IntKind.i64 (Int.ofNat 2)) else none) := by kernel_rfl
theorem okChk2 : FnOk Try.prog 36 fChk := fun R vs k r h => by
  unfold fChk at h
  split at h
  · rename_i f n us
    obtain ⟨hc, h⟩ := cond_some h
    refine ⟨_, _, h, ⟨trivial, fun p hp => by cases hp⟩, SoundFn.args (vs' := [.lst 2 (kf (kl f n us)) (kl f n us).length []]) (fn_plain sprog_ok.1 sprog_ok.2 KC1_ok LC4a_ok (fuel := 60) rfl rfl ?_) fun κ ys hy => hy.cons_map (fun y hy => by rw [kl_length]; exact hy.pairs hc) (fun _ h => h) rfl⟩
    rw [evCheck2, kl_kf, okL_kf]
    generalize kl f n us = xs
    simp only [chkE]
    cases hl : decide (xs.length > 257) with
    | true =>
      have : decide ((xs.length : Int) > 257) = true := by simp at hl ⊢; omega
      rw [this]; rfl
    | false =>
      have h1 : decide ((xs.length : Int) > 257) = false := by simp at hl ⊢; omega
      have h2 : xs.length.ble 257 = true := by simp at hl ⊢; omega
      rw [h1, h2]
      cases hb : chkF (Int.negSucc 0) xs with
      | true => have : chkF (-1) xs = true := hb; simp [this]
      | false => have : chkF (-1) xs = false := hb; simp [this]
  · cases h
end Go.Sv
namespace Go.Sv
open Go.RowKit Go.Proofs

/-! ### what they compute -/
def idxF (id : Int) : List (Int × Int) → Nat
  | [] => 0
  | x :: r => bif x.1 == id then 0 else idxF id r + 1
def stByt (id : Int) (_ : Unit) (x : Int × Int) : Unit ⊕ Int := bif x.1 == id then .inr x.2 else .inl ()
theorem stByt_fold {γ : Type} (id : Int) (a : γ) (b : Int → γ) : ∀ (xs : List (Int × Int)), fork (fun _ => a) b (foldX (stByt id) () xs) = bif hasId id xs then b (bytF id xs) else a
  | [] => rfl
  | x :: r => by
    have ih := stByt_fold id a b r
    simp only [foldX, stByt, hasId, bytF, List.any_cons]
    cases hc : (x.1 == id) with
    | true => simp [fork]
    | false => simpa [hasId] using ih

/-! ### the document's Bytes -/
def lByt (v : AV) (xs : List (Int × Int)) (n i : Nat) (id : Int) : List (Nat × AV) := [(4, v), (0, .lst 2 (kf xs) n []), (1, .int .i64 id), (5, .int .i64 (Int.ofNat i))]
theorem gByt (v : AV) (xs : List (Int × Int)) (n i : Nat) (id : Int) : (slots (lByt v xs n i id) (Env.mk 5)).get 4 = v := by kernel_rfl
theorem evByt (xs : List (Int × Int)) (n i : Nat) (id : Int) : evCode Try.prog KC1 L0 (regB Try.prog) 40 38 (loopOf Try.prog 38 0) (slots (lByt .any xs n i id) (Env.mk 5)) ⟨0, []⟩ (fun e E' _ => some (e, keepE E' [4, 0, 1, 5] (Env.mk 5))) =
  (bif decide (Int.ofNat i < (n : Int)) then bif decide (Int.ofNat i < (n : Int)) then
    bif (xs.getD i (0, 0)).1 == id then bif decide (Int.ofNat i < (n : Int)) then some (.ret, slots (lByt (.int .i64 (xs.getD i (0, 0)).2) xs n i id) (Env.mk 5)) else none
    else some (.normal, ((((Env.mk 5).set 4 .any).set 0 (.lst 2 (kf xs) n [])).set 1 (.int .i64 id)).set 5 (.int .i64 (IntKind.i64.wrap (Int.ofNat (i + 1)))))
  else none else some (.exit 0, slots (lByt .any xs n i id) (Env.mk 5))) := by kernel_rfl
theorem loopByt (id : Int) (xs : List (Int × Int)) (hx : xs.length < 4611686018427387904) {nb : Nat} (hnb : nb ≤ 0) (hs : SubOk Try.prog 38 (loopOf Try.prog 38 0)) :
    LoopOk Try.prog nb (szOf Try.prog 38) (loopOf Try.prog 38 0) (slots (lByt .any xs xs.length 0 id) (Env.mk 5)) ⟨0, []⟩ (bif hasId id xs then Fin3.mk .ret (slots [(4, .int .i64 (bytF id xs))] (Env.mk 5)) ⟨0, []⟩ else ⟨.exit 0, slots [] (Env.mk 5), ⟨0, []⟩⟩).e
      (bif hasId id xs then Fin3.mk .ret (slots [(4, .int .i64 (bytF id xs))] (Env.mk 5)) ⟨0, []⟩ else ⟨.exit 0, slots [] (Env.mk 5), ⟨0, []⟩⟩).E (bif hasId id xs then Fin3.mk .ret (slots [(4, .int .i64 (bytF id xs))] (Env.mk 5)) ⟨0, []⟩ else ⟨.exit 0, slots [] (Env.mk 5), ⟨0, []⟩⟩).st := by
  rw [← stByt_fold id (Fin3.mk (.exit 0) (slots [] (Env.mk 5)) ⟨0, []⟩) (fun v => Fin3.mk .ret (slots [(4, .int .i64 v)] (Env.mk 5)) ⟨0, []⟩)]
  refine loop_fold (stByt id) xs (0, 0) (fun _ _ => True) (fun i _ => (slots (lByt .any xs xs.length i id) (Env.mk 5), ⟨0, []⟩)) (fun _ => ⟨.exit 0, slots [] (Env.mk 5), ⟨0, []⟩⟩) (fun v => ⟨.ret, slots [(4, .int .i64 v)] (Env.mk 5), ⟨0, []⟩⟩) (fun i _ _ hi => ?_) (fun _ _ => ?_) (fun _ h => by cases h) (fun _ h => by cases h) xs 0 () trivial rfl (Nat.zero_le _)
  · have hev := evByt xs xs.length i id
    generalize xs.getD i (0, 0) = x at hev ⊢
    simp only [dec_lt' hi, cond_true, wrapNat (show i < 9223372036854775807 by omega)] at hev
    simp only [stByt]
    cases hb : (x.1 == id) with
    | true =>
      simp only [hb, cond_true] at hev
      exact (code_free sprog_ok.1 sprog_ok.2 KC1_ok l0_ok (fuel := 40) (ts := [4, 0, 1, 5]) hs hnb hnb rfl hev).less (less_slots fun p hp => by rw [List.mem_singleton.1 hp]; exact gByt _ _ _ _ _)
    | false =>
      simp only [hb, cond_false] at hev
      exact ⟨trivial, code_free sprog_ok.1 sprog_ok.2 KC1_ok l0_ok (fuel := 40) (ts := [4, 0, 1, 5]) hs hnb hnb rfl hev⟩
  · have hev := evByt xs xs.length xs.length id
    simp only [dec_nlt', cond_false] at hev
    exact (code_free sprog_ok.1 sprog_ok.2 KC1_ok l0_ok (fuel := 40) (ts := [4, 0, 1, 5]) hs hnb hnb rfl hev).less (mk_less 5 _)
def fLoopByt (R : Type) (E : Env) (st : AS) : Option ((EK → Env → AS → Option R) → Option R) :=
  match E.get 0, E.get 1, E.get 5 with
  | .lst 2 f n us, .int .i64 id, .int .i64 i => match st.mem with
    | [] => some fun k => bif Nat.beq st.next 0 && decide (i = 0) && Nat.ble n LIM && okL f n us then
        bif hasId id (kl f n us) then k .ret (slots [(4, .int .i64 (bytF id (kl f n us)))] (Env.mk 5)) ⟨0, []⟩ else k .normal (slots [] (Env.mk 5)) ⟨0, []⟩ else none
    | _ => none
  | _, _, _ => none
theorem okLoopByt : LoopFn Try.prog 38 0 fLoopByt := fun R E st G h hs nb hnb k r hk => by
  unfold fLoopByt at h
  split at h
  · rename_i f n us id i g0 g1 g5
    split at h
    · rename_i hm
      simp only [Option.some.injEq] at h
      subst h
      obtain ⟨hc, hk1⟩ := cond_some hk
      clear hk
      simp only [Bool.and_eq_true, decide_eq_true_eq] at hc
      obtain ⟨⟨⟨c1, c3⟩, c4⟩, c5⟩ := hc
      have d1 := Nat.eq_of_beq_eq_true c1
      have d4 := Nat.le_of_ble_eq_true c4
      clear c1
      obtain ⟨next, mem⟩ := st
      dsimp only at hm d1
      subst hm; subst d1; subst c3
      have hl := loopByt id (kl f n us) (by rw [kl_length]; unfold LIM at d4; omega) hnb hs
      have hw : Weak nb (szOf Try.prog 38) E ⟨0, []⟩ (slots (lByt .any (kl f n us) (kl f n us).length 0 id) (Env.mk 5)) ⟨0, []⟩ := weak_slots fun p hp κ y hy => by
        rw [kl_length] at hp
        simp only [lByt, List.mem_cons, List.not_mem_nil, or_false] at hp
        rcases hp with rfl | rfl | rfl | rfl
        · exact vrel_any _ _
        · dsimp only at hy; rw [g0] at hy; exact hy.pairs c5
        · dsimp only at hy; rw [g1] at hy; exact hy
        · dsimp only at hy; rw [g5] at hy; exact hy
      cases hf : hasId id (kl f n us) with
      | true =>
        rw [hf] at hl hk1
        exact ⟨.ret, _, _, hk1, Nat.le_refl _, hl.weak hw⟩
      | false =>
        rw [hf] at hl hk1
        exact ⟨.exit 0, _, _, hk1, Nat.le_refl _, hl.weak hw⟩
    · cases h
  · cases h
def LC5a : LT := addL 38 0 fLoopByt L0
theorem LC5a_ok : LOk Try.prog LC5a := addL_ok sprog_ok.1 (by kernel_rfl) okLoopByt l0_ok
/-- Bytes of a list of pairs. -/
def fByt (R : Type) (vs : List AV) (k : AV → AS → Option R) : Option R :=
  match vs with
  | [.lst 2 f n us, .int .i64 id] => bif okL f n us && Nat.ble n LIM then k (.int .i64 (bytF id (kl f n us))) ⟨0, []⟩ else none
  | _ => none
theorem evBytes2 (xs : List (Int × Int)) (n : Nat) (id : Int) : evFn Try.prog KC1 LC5a (regB Try.prog) 60 38 [.lst 2 (kf xs) n [], .int .i64 id] ⟨0, []⟩ ret =
  (bif true && true && Nat.ble n LIM && okL (kf xs) n [] then bif hasId id (kl (kf xs) n []) then some (.int .i64 (bytF id (kl (kf xs) n []))) else some (.int .i64 0) else none) := by kernel_rfl
theorem okByt2 : FnOk Try.prog 38 fByt := fun R vs k r h => by
  unfold fByt at h
  split at h
  · rename_i f n us id
    obtain ⟨hc, h⟩ := cond_some h
    simp only [Bool.and_eq_true] at hc
    refine ⟨_, _, h, ⟨trivial, fun p hp => by cases hp⟩, SoundFn.args (vs' := [.lst 2 (kf (kl f n us)) (kl f n us).length [], .int .i64 id]) (fn_plain sprog_ok.1 sprog_ok.2 KC1_ok LC5a_ok (fuel := 60) rfl rfl ?_) fun κ ys hy => hy.cons_map (fun y hy => by rw [kl_length]; exact hy.pairs hc.1) (fun _ h => h) rfl⟩
    have hn : (kl f n us).length.ble LIM = true := by rw [kl_length]; exact hc.2
    rw [evBytes2, kl_kf, okL_kf, hn]
    cases hb : hasId id (kl f n us) with
    | true => simp
    | false => simp [bytF_none _ _ hb]
  · cases h

/-! ### slices.IndexFunc, asked for a pointer's number -/
def stIdx (id : Int) (i : Nat) (x : Int × Int) : Nat ⊕ Nat := bif x.1 == id then .inr i else .inl (i + 1)
theorem stIdx_fold {γ : Type} (id : Int) (a : γ) (b : Nat → γ) : ∀ (xs : List (Int × Int)) (i : Nat), fork (fun _ => a) b (foldX (stIdx id) i xs) = bif hasId id xs then b (i + idxF id xs) else a
  | [], i => rfl
  | x :: r, i => by
    have ih := stIdx_fold id a b r (i + 1)
    simp only [foldX, stIdx, hasId, idxF, List.any_cons]
    cases hc : (x.1 == id) with
    | true => simp [fork]
    | false => simpa [hasId, Nat.add_assoc, Nat.add_comm] using ih
theorem idxF_get (id : Int) : ∀ (xs : List (Int × Int)), hasId id xs = true → idxF id xs < xs.length ∧ (xs.getD (idxF id xs) (0, 0)).2 = bytF id xs
  | [], h => by simp [hasId] at h
  | x :: r, h => by
    simp only [idxF, bytF]
    cases hc : (x.1 == id) with
    | true => simp
    | false =>
      have h' : hasId id r = true := by simpa [hasId, hc] using h
      obtain ⟨h1, h2⟩ := idxF_get id r h'
      exact ⟨by simp; omega, by simpa using h2⟩
def lIdx (v : AV) (xs : List (Int × Int)) (n i : Nat) : List (Nat × AV) := [(4, v), (0, .lst 2 (kf xs) n []), (1, .fn 82 [] [.ptr 0 [] 0]), (7, .int .i64 (Int.ofNat n)), (8, .int .i64 (Int.ofNat i))]
theorem gIdx (v : AV) (xs : List (Int × Int)) (n i : Nat) : (slots (lIdx v xs n i) (Env.mk 5)).get 4 = v := by kernel_rfl
theorem evIdx (xs : List (Int × Int)) (n i : Nat) (id : Int) (o t : Bool) : evCode Try.prog KC1 L0 (regB Try.prog) 40 81 (loopOf Try.prog 81 0) (slots (lIdx .any xs n i) (Env.mk 5)) ⟨1, [(0, .cells [.int .i64 id] o t)]⟩
    (fun e E' st' => some (e, keepE E' [4, 0, 1, 7, 8] (Env.mk 5), [(0, Row.cells [.int .i64 id] o t)].map (fun p => find st'.mem p.1))) =
  (bif decide (Int.ofNat i < Int.ofNat n) then bif decide (Int.ofNat i < (n : Int)) then
    bif (xs.getD i (0, 0)).1 == id then some (.ret, slots (lIdx (.int .i64 (Int.ofNat i)) xs n i) (Env.mk 5), [(0, Row.cells [.int .i64 id] o t)].map (fun p => some p.2))
    else some (.normal, (((((Env.mk 5).set 4 .any).set 0 (.lst 2 (kf xs) n [])).set 1 (.fn 82 [] [.ptr 0 [] 0])).set 7 (.int .i64 (Int.ofNat n))).set 8 (.int .i64 (IntKind.i64.wrap (Int.ofNat (i + 1)))), [(0, Row.cells [.int .i64 id] o t)].map (fun p => some p.2))
  else none else some (.exit 0, slots (lIdx .any xs n i) (Env.mk 5), [(0, Row.cells [.int .i64 id] o t)].map (fun p => some p.2))) := by kernel_rfl
theorem loopIdx (id : Int) (o t : Bool) (xs : List (Int × Int)) (hx : xs.length < 4611686018427387904) {nb : Nat} (hnb : nb ≤ 1) (hs : SubOk Try.prog 81 (loopOf Try.prog 81 0)) :
    LoopOk Try.prog nb (szOf Try.prog 81) (loopOf Try.prog 81 0) (slots (lIdx .any xs xs.length 0) (Env.mk 5)) ⟨1, [(0, .cells [.int .i64 id] o t)]⟩
      (bif hasId id xs then Fin3.mk .ret (slots [(4, .int .i64 (Int.ofNat (0 + idxF id xs)))] (Env.mk 5)) ⟨1, [(0, .cells [.int .i64 id] o t)]⟩ else ⟨.exit 0, slots [] (Env.mk 5), ⟨1, [(0, .cells [.int .i64 id] o t)]⟩⟩).e
      (bif hasId id xs then Fin3.mk .ret (slots [(4, .int .i64 (Int.ofNat (0 + idxF id xs)))] (Env.mk 5)) ⟨1, [(0, .cells [.int .i64 id] o t)]⟩ else ⟨.exit 0, slots [] (Env.mk 5), ⟨1, [(0, .cells [.int .i64 id] o t)]⟩⟩).E
      (bif hasId id xs then Fin3.mk .ret (slots [(4, .int .i64 (Int.ofNat (0 + idxF id xs)))] (Env.mk 5)) ⟨1, [(0, .cells [.int .i64 id] o t)]⟩ else ⟨.exit 0, slots [] (Env.mk 5), ⟨1, [(0, .cells [.int .i64 id] o t)]⟩⟩).st := by
  rw [← stIdx_fold id (Fin3.mk (.exit 0) (slots [] (Env.mk 5)) ⟨1, [(0, .cells [.int .i64 id] o t)]⟩) (fun v => Fin3.mk .ret (slots [(4, .int .i64 (Int.ofNat v))] (Env.mk 5)) ⟨1, [(0, .cells [.int .i64 id] o t)]⟩)]
  refine loop_fold (stIdx id) xs (0, 0) (fun i s => s = i) (fun i _ => (slots (lIdx .any xs xs.length i) (Env.mk 5), ⟨1, [(0, .cells [.int .i64 id] o t)]⟩)) (fun _ => ⟨.exit 0, slots [] (Env.mk 5), ⟨1, [(0, .cells [.int .i64 id] o t)]⟩⟩) (fun v => ⟨.ret, slots [(4, .int .i64 (Int.ofNat v))] (Env.mk 5), ⟨1, [(0, .cells [.int .i64 id] o t)]⟩⟩) (fun i s hI hi => ?_) (fun _ _ => ?_) (fun _ h => by cases h) (fun _ h => by cases h) xs 0 0 rfl rfl (Nat.zero_le _)
  · subst hI
    have hev := evIdx xs xs.length s id o t
    generalize xs.getD s (0, 0) = x at hev ⊢
    simp only [dec_lt hi, dec_lt' hi, cond_true, wrapNat (show s < 9223372036854775807 by omega)] at hev
    simp only [stIdx]
    cases hb : (x.1 == id) with
    | true =>
      simp only [hb, cond_true] at hev
      exact (code_rows sprog_ok.1 sprog_ok.2 KC1_ok l0_ok (fuel := 40) (ts := [4, 0, 1, 7, 8]) hs hnb hnb rfl rfl hev).less (less_slots fun p hp => by rw [List.mem_singleton.1 hp]; exact gIdx _ _ _ _)
    | false =>
      simp only [hb, cond_false] at hev
      exact ⟨rfl, code_rows sprog_ok.1 sprog_ok.2 KC1_ok l0_ok (fuel := 40) (ts := [4, 0, 1, 7, 8]) hs hnb hnb rfl rfl hev⟩
  · have hev := evIdx xs xs.length xs.length id o t
    simp only [dec_nlt, cond_false] at hev
    exact (code_rows sprog_ok.1 sprog_ok.2 KC1_ok l0_ok (fuel := 40) (ts := [4, 0, 1, 7, 8]) hs hnb hnb rfl rfl hev).less (mk_less 5 _)
def fLoopIdx (R : Type) (E : Env) (st : AS) : Option ((EK → Env → AS → Option R) → Option R) :=
  match E.get 0, E.get 1, E.get 7, E.get 8 with
  | .lst 2 f n us, .fn 82 [] [.ptr 0 [] 0], .int .i64 m, .int .i64 i => match st.mem with
    | [(0, .cells [.int .i64 id] o t)] => some fun k => bif Nat.beq st.next 1 && decide (m = Int.ofNat n) && decide (i = 0) && Nat.ble n LIM && okL f n us then
        bif hasId id (kl f n us) then k .ret (slots [(4, .int .i64 (Int.ofNat (idxF id (kl f n us))))] (Env.mk 5)) ⟨1, [(0, .cells [.int .i64 id] o t)]⟩ else k .normal (slots [] (Env.mk 5)) ⟨1, [(0, .cells [.int .i64 id] o t)]⟩ else none
    | _ => none
  | _, _, _, _ => none
theorem okLoopIdx : LoopFn Try.prog 81 0 fLoopIdx := fun R E st G h hs nb hnb k r hk => by
  unfold fLoopIdx at h
  split at h
  · rename_i f n us m i g0 g1 g7 g8
    split at h
    · rename_i id o t hm
      simp only [Option.some.injEq] at h
      subst h
      obtain ⟨hc, hk1⟩ := cond_some hk
      clear hk
      simp only [Bool.and_eq_true, decide_eq_true_eq] at hc
      obtain ⟨⟨⟨⟨c1, c2⟩, c3⟩, c4⟩, c5⟩ := hc
      have d1 := Nat.eq_of_beq_eq_true c1
      have d4 := Nat.le_of_ble_eq_true c4
      clear c1
      obtain ⟨next, mem⟩ := st
      dsimp only at hm d1
      subst hm; subst d1; subst c2; subst c3
      have hl := loopIdx id o t (kl f n us) (by rw [kl_length]; unfold LIM at d4; omega) hnb hs
      have hw : Weak nb (szOf Try.prog 81) E ⟨1, [(0, .cells [.int .i64 id] o t)]⟩ (slots (lIdx .any (kl f n us) (kl f n us).length 0) (Env.mk 5)) ⟨1, [(0, .cells [.int .i64 id] o t)]⟩ := weak_slots fun p hp κ y hy => by
        rw [kl_length] at hp
        simp only [lIdx, List.mem_cons, List.not_mem_nil, or_false] at hp
        rcases hp with rfl | rfl | rfl | rfl | rfl
        · exact vrel_any _ _
        · dsimp only at hy; rw [g0] at hy; exact hy.pairs c5
        · dsimp only at hy; rw [g1] at hy; exact hy
        · dsimp only at hy; rw [g7] at hy; exact hy
        · dsimp only at hy; rw [g8] at hy; exact hy
      cases hf : hasId id (kl f n us) with
      | true =>
        rw [hf, Nat.zero_add] at hl
        rw [hf] at hk1
        exact ⟨.ret, _, _, hk1, Nat.le_refl _, hl.weak hw⟩
      | false =>
        rw [hf] at hl hk1
        exact ⟨.exit 0, _, _, hk1, Nat.le_refl _, hl.weak hw⟩
    · cases h
  · cases h
def LC5b : LT := addL 81 0 fLoopIdx L0
theorem LC5b_ok : LOk Try.prog LC5b := addL_ok sprog_ok.1 (by kernel_rfl) okLoopIdx l0_ok
theorem evBytes1 (xs : List (Int × Int)) (n : Nat) (id : Int) : evFn Try.prog KC1 LC5b (regB Try.prog) 60 37 [.lst 2 (kf xs) n [], .int .i64 id] ⟨0, []⟩ ret =
  (bif true && decide ((n : Int) = Int.ofNat n) && true && n.ble 140737488355328 && okL (kf xs) n [] then bif hasId id (kl (kf xs) n []) then bif decide (Int.ofNat (idxF id (kl (kf xs) n [])) < (n : Int)) then some (AV.int IntKind.i64 (xs.getD (Int.ofNat (idxF id (kl (kf xs) n []))).toNat (0, 0)).snd) else none else some (AV.int IntKind.i64 (Int.ofNat 0)) else none) := by kernel_rfl
theorem okByt1 : FnOk Try.prog 37 fByt := fun R vs k r h => by
  unfold fByt at h
  split at h
  · rename_i f n us id
    obtain ⟨hc, h⟩ := cond_some h
    simp only [Bool.and_eq_true] at hc
    refine ⟨_, _, h, ⟨trivial, fun p hp => by cases hp⟩, SoundFn.args (vs' := [.lst 2 (kf (kl f n us)) (kl f n us).length [], .int .i64 id]) (fn_plain sprog_ok.1 sprog_ok.2 KC1_ok LC5b_ok (fuel := 60) rfl rfl ?_) fun κ ys hy => hy.cons_map (fun y hy => by rw [kl_length]; exact hy.pairs hc.1) (fun _ h => h) rfl⟩
    have hn : (kl f n us).length.ble 140737488355328 = true := by rw [kl_length]; exact hc.2
    rw [evBytes1, kl_kf, okL_kf, hn]
    cases hb : hasId id (kl f n us) with
    | true =>
      obtain ⟨h1, h2⟩ := idxF_get id _ hb
      have h3 : decide (Int.ofNat (idxF id (kl f n us)) < ((kl f n us).length : Int)) = true := dec_lt' h1
      have h4 : (Int.ofNat (idxF id (kl f n us))).toNat = idxF id (kl f n us) := rfl
      rw [h3, h4, h2]
      simp
    | false => simp [bytF_none _ _ hb]
  · cases h

/-! ### the law's same -/
def eqL : List (Int × Int) → List (Int × Int) → Bool
  | [], _ => true
  | x :: r, ys => match ys with
    | [] => false
    | y :: s => (x.1 == y.1 && (x.2 == y.2 && true)) && eqL r s
def samE (xs ys : List (Int × Int)) : Bool := decide (xs.length = ys.length) && eqL xs ys
def stSam (s : List (Int × Int)) (x : Int × Int) : List (Int × Int) ⊕ Unit :=
  match s with
  | [] => .inr ()
  | y :: s' => bif (x.1 == y.1 && (x.2 == y.2 && true)) then .inl s' else .inr ()
theorem stSam_fold {γ : Type} (a b : γ) : ∀ (xs s : List (Int × Int)), fork (fun _ => a) (fun _ => b) (foldX stSam s xs) = bif eqL xs s then a else b
  | [], s => rfl
  | x :: r, [] => rfl
  | x :: r, y :: s => by
    have ih := stSam_fold a b r s
    simp only [foldX, stSam, eqL]
    cases hc : (x.1 == y.1 && (x.2 == y.2 && true)) with
    | true => simpa using ih
    | false => simp [fork]
def lSam (v : AV) (xs ys : List (Int × Int)) (n m i : Nat) : List (Nat × AV) := [(4, v), (0, .lst 2 (kf xs) n []), (1, .lst 2 (kf ys) m []), (5, .int .i64 (Int.ofNat i))]
theorem gSam (v : AV) (xs ys : List (Int × Int)) (n m i : Nat) : (slots (lSam v xs ys n m i) (Env.mk 5)).get 4 = v := by kernel_rfl
theorem evSam (xs ys : List (Int × Int)) (n m i : Nat) : evCode Try.prog KC1 L0 (regB Try.prog) 40 20 (loopOf Try.prog 20 0) (slots (lSam .any xs ys n m i) (Env.mk 5)) ⟨0, []⟩ (fun e E' _ => some (e, keepE E' [4, 0, 1, 5] (Env.mk 5))) =
  (bif decide (Int.ofNat i < (n : Int)) then bif decide (Int.ofNat i < (n : Int)) then bif decide (Int.ofNat i < (m : Int)) then
    bif !((xs.getD i (0, 0)).1 == (ys.getD i (0, 0)).1 && ((xs.getD i (0, 0)).2 == (ys.getD i (0, 0)).2 && true)) then some (.ret, slots (lSam (.bool false) xs ys n m i) (Env.mk 5))
    else some (.normal, ((((Env.mk 5).set 4 .any).set 0 (.lst 2 (kf xs) n [])).set 1 (.lst 2 (kf ys) m [])).set 5 (.int .i64 (IntKind.i64.wrap (Int.ofNat (i + 1)))))
  else none else none else some (.exit 0, slots (lSam .any xs ys n m i) (Env.mk 5))) := by kernel_rfl
theorem loopSam (xs ys : List (Int × Int)) (hx : xs.length < 4611686018427387904) (hxy : xs.length = ys.length) {nb : Nat} (hnb : nb ≤ 0) (hs : SubOk Try.prog 20 (loopOf Try.prog 20 0)) :
    LoopOk Try.prog nb (szOf Try.prog 20) (loopOf Try.prog 20 0) (slots (lSam .any xs ys xs.length ys.length 0) (Env.mk 5)) ⟨0, []⟩ (bif eqL xs ys then Fin3.mk (.exit 0) (slots [] (Env.mk 5)) ⟨0, []⟩ else ⟨.ret, slots [(4, .bool false)] (Env.mk 5), ⟨0, []⟩⟩).e
      (bif eqL xs ys then Fin3.mk (.exit 0) (slots [] (Env.mk 5)) ⟨0, []⟩ else ⟨.ret, slots [(4, .bool false)] (Env.mk 5), ⟨0, []⟩⟩).E (bif eqL xs ys then Fin3.mk (.exit 0) (slots [] (Env.mk 5)) ⟨0, []⟩ else ⟨.ret, slots [(4, .bool false)] (Env.mk 5), ⟨0, []⟩⟩).st := by
  rw [← stSam_fold]
  refine loop_fold stSam xs (0, 0) (fun i s => s = ys.drop i) (fun i _ => (slots (lSam .any xs ys xs.length ys.length i) (Env.mk 5), ⟨0, []⟩)) (fun _ => ⟨.exit 0, slots [] (Env.mk 5), ⟨0, []⟩⟩) (fun _ => ⟨.ret, slots [(4, .bool false)] (Env.mk 5), ⟨0, []⟩⟩) (fun i s hI hi => ?_) (fun _ _ => ?_) (fun _ h => by cases h) (fun _ h => by cases h) xs 0 ys rfl rfl (Nat.zero_le _)
  · have hev := evSam xs ys xs.length ys.length i
    have hi' : i < ys.length := by omega
    have hs2 : s = ys.getD i (0, 0) :: ys.drop (i + 1) := hI.trans (drop_getD hi')
    rw [hs2]
    generalize xs.getD i (0, 0) = x at hev ⊢
    generalize ys.getD i (0, 0) = y at hev ⊢
    simp only [dec_lt' hi, dec_lt' hi', cond_true, wrapNat (show i < 9223372036854775807 by omega)] at hev
    simp only [stSam]
    cases hb : (x.1 == y.1 && (x.2 == y.2 && true)) with
    | true =>
      simp only [hb, Bool.not_true, cond_false] at hev
      exact ⟨rfl, code_free sprog_ok.1 sprog_ok.2 KC1_ok l0_ok (fuel := 40) (ts := [4, 0, 1, 5]) hs hnb hnb rfl hev⟩
    | false =>
      simp only [hb, Bool.not_false, cond_true] at hev
      exact (code_free sprog_ok.1 sprog_ok.2 KC1_ok l0_ok (fuel := 40) (ts := [4, 0, 1, 5]) hs hnb hnb rfl hev).less (less_slots fun p hp => by rw [List.mem_singleton.1 hp]; exact gSam _ _ _ _ _ _)
  · have hev := evSam xs ys xs.length ys.length xs.length
    simp only [dec_nlt', cond_false] at hev
    exact (code_free sprog_ok.1 sprog_ok.2 KC1_ok l0_ok (fuel := 40) (ts := [4, 0, 1, 5]) hs hnb hnb rfl hev).less (mk_less 5 _)
def fLoopSam (R : Type) (E : Env) (st : AS) : Option ((EK → Env → AS → Option R) → Option R) :=
  match E.get 0, E.get 1, E.get 5 with
  | .lst 2 f n us, .lst 2 g m vs, .int .i64 i => match st.mem with
    | [] => some fun k => bif Nat.beq st.next 0 && decide (i = 0) && Nat.ble n LIM && decide (Int.ofNat n = Int.ofNat m) && (okL f n us && okL g m vs) then
        bif eqL (kl f n us) (kl g m vs) then k .normal (slots [] (Env.mk 5)) ⟨0, []⟩ else k .ret (slots [(4, .bool false)] (Env.mk 5)) ⟨0, []⟩ else none
    | _ => none
  | _, _, _ => none
theorem okLoopSam : LoopFn Try.prog 20 0 fLoopSam := fun R E st G h hs nb hnb k r hk => by
  unfold fLoopSam at h
  split at h
  · rename_i f n us g m vs i g0 g1 g5
    split at h
    · rename_i hm
      simp only [Option.some.injEq] at h
      subst h
      obtain ⟨hc, hk1⟩ := cond_some hk
      clear hk
      simp only [Bool.and_eq_true, decide_eq_true_eq] at hc
      obtain ⟨⟨⟨⟨c1, c3⟩, c4⟩, c6⟩, c5, c7⟩ := hc
      have d1 := Nat.eq_of_beq_eq_true c1
      have d4 := Nat.le_of_ble_eq_true c4
      have d6 := Int.ofNat.inj c6
      clear c1
      obtain ⟨next, mem⟩ := st
      dsimp only at hm d1
      subst hm; subst d1; subst c3
      have hl := loopSam (kl f n us) (kl g m vs) (by rw [kl_length]; unfold LIM at d4; omega) (by rw [kl_length, kl_length]; exact d6) hnb hs
      have hw : Weak nb (szOf Try.prog 20) E ⟨0, []⟩ (slots (lSam .any (kl f n us) (kl g m vs) (kl f n us).length (kl g m vs).length 0) (Env.mk 5)) ⟨0, []⟩ := weak_slots fun p hp κ y hy => by
        rw [kl_length, kl_length] at hp
        simp only [lSam, List.mem_cons, List.not_mem_nil, or_false] at hp
        rcases hp with rfl | rfl | rfl | rfl
        · exact vrel_any _ _
        · dsimp only at hy; rw [g0] at hy; exact hy.pairs c5
        · dsimp only at hy; rw [g1] at hy; exact hy.pairs c7
        · dsimp only at hy; rw [g5] at hy; exact hy
      cases hf : eqL (kl f n us) (kl g m vs) with
      | true =>
        rw [hf] at hl hk1
        exact ⟨.exit 0, _, _, hk1, Nat.le_refl _, hl.weak hw⟩
      | false =>
        rw [hf] at hl hk1
        exact ⟨.ret, _, _, hk1, Nat.le_refl _, hl.weak hw⟩
    · cases h
  · cases h
def LC5c : LT := addL 20 0 fLoopSam L0
theorem LC5c_ok : LOk Try.prog LC5c := addL_ok sprog_ok.1 (by kernel_rfl) okLoopSam l0_ok
/-- Are two lists of pairs the same? -/
def fSam (R : Type) (vs : List AV) (k : AV → AS → Option R) : Option R :=
  match vs with
  | [.lst 2 f n us, .lst 2 g m vs'] => bif (okL f n us && okL g m vs') && Nat.ble n LIM then k (.bool (samE (kl f n us) (kl g m vs'))) ⟨0, []⟩ else none
  | _ => none
theorem evSame (xs ys : List (Int × Int)) (n m : Nat) : evFn Try.prog KC1 LC5c (regB Try.prog) 60 20 [.lst 2 (kf xs) n [], .lst 2 (kf ys) m []] ⟨0, []⟩ ret =
  (bif Int.ofNat n != Int.ofNat m then some (AV.bool false) else bif true && n.ble 140737488355328 && decide (Int.ofNat n = Int.ofNat m) && (okL (kf xs) n [] && okL (kf ys) m []) then bif eqL (kl (kf xs) n []) (kl (kf ys) m []) then some (AV.bool true) else some (AV.bool false) else none) := by kernel_rfl
theorem CRel.pairs2 {κ : Kap} {f g : Nat → List AV} {n m : Nat} {us vs : List (Nat × List AV)} {ys : List Value} (h1 : okL f n us = true) (h2 : okL g m vs = true) (h : CRel κ [.lst 2 f n us, .lst 2 g m vs] ys) : CRel κ [.lst 2 (kf (kl f n us)) (kl f n us).length [], .lst 2 (kf (kl g m vs)) (kl g m vs).length []] ys :=
  h.cons_map (fun y hy => by rw [kl_length]; exact hy.pairs h1) (fun ys h => h.cons_map (fun y hy => by rw [kl_length]; exact hy.pairs h2) (fun _ h => h) rfl) rfl
theorem okSam : FnOk Try.prog 20 fSam := fun R vs k r h => by
  unfold fSam at h
  split at h
  · rename_i f n us g m vs'
    obtain ⟨hc, h⟩ := cond_some h
    simp only [Bool.and_eq_true] at hc
    refine ⟨_, _, h, ⟨trivial, fun p hp => by cases hp⟩, SoundFn.args (vs' := [.lst 2 (kf (kl f n us)) (kl f n us).length [], .lst 2 (kf (kl g m vs')) (kl g m vs').length []]) (fn_plain sprog_ok.1 sprog_ok.2 KC1_ok LC5c_ok (fuel := 60) rfl rfl ?_) fun κ ys hy => CRel.pairs2 hc.1.1 hc.1.2 hy⟩
    have hn : (kl f n us).length.ble 140737488355328 = true := by rw [kl_length]; exact hc.2
    rw [evSame, kl_kf, okL_kf, kl_kf, okL_kf, hn]
    generalize kl f n us = xs
    generalize kl g m vs' = ys
    unfold samE
    by_cases hl : xs.length = ys.length
    · simp only [hl, bne_self_eq_false, cond_false, decide_true, Bool.true_and, cond_true]
      cases eqL xs ys <;> rfl
    · have h1 : (Int.ofNat xs.length != Int.ofNat ys.length) = true := by simp; omega
      simp only [h1, cond_true, hl, decide_false, Bool.false_and]
  · cases h
end Go.Sv
namespace Go.Sv
open Go.RowKit Go.Proofs

/-! ### what they compute -/
def tabF : List Int → List (Int × Int) → List Int
  | ts, [] => ts
  | ts, x :: r => tabF (ts.set x.1.toNat x.2) r
def zeros257 : List Int := List.replicate 257 0
def allId (xs : List (Int × Int)) : Bool := xs.all fun x => idB x.1
def ofF : Nat → List Int → List (Int × Int)
  | _, [] => []
  | i, x :: r => bif decide (x > 0) then (Int.ofNat i, x) :: ofF (i + 1) r else ofF (i + 1) r
theorem tabF_length : ∀ (xs : List (Int × Int)) (ts : List Int), (tabF ts xs).length = ts.length
  | [], _ => rfl
  | x :: r, ts => by simp [tabF, tabF_length r]
def stTab (ts : List Int) (x : Int × Int) : List Int ⊕ Unit := .inl (ts.set x.1.toNat x.2)
theorem stTab_fold {γ : Type} (a : List Int → γ) (b : γ) : ∀ (xs : List (Int × Int)) (ts : List Int), fork a (fun _ => b) (foldX stTab ts xs) = a (tabF ts xs)
  | [], _ => rfl
  | _ :: r, _ => stTab_fold a b r _
/-- The pairs found so far. -/
def stOf (s : Nat × List (Int × Int)) (x : Int) : (Nat × List (Int × Int)) ⊕ Unit := .inl (s.1 + 1, bif decide (x > 0) then s.2 ++ [(Int.ofNat s.1, x)] else s.2)
theorem stOf_fold {γ : Type} (a : List (Int × Int) → γ) (b : γ) : ∀ (xs : List Int) (i : Nat) (ys : List (Int × Int)), fork (fun s => a s.2) (fun _ => b) (foldX stOf (i, ys) xs) = a (ys ++ ofF i xs)
  | [], i, ys => by simp [foldX, fork, ofF]
  | x :: r, i, ys => by
    have ih := fun ys => stOf_fold a b r (i + 1) ys
    simp only [foldX, stOf, ofF]
    cases hc : decide (x > 0) with
    | true => simpa using ih (ys ++ [(Int.ofNat i, x)])
    | false => simpa using ih ys

/-! ### table -/
def rTab (ts : List Int) (o t : Bool) : Row := .cells [.arr 1 257 (nf ts) []] o t
def lTab (xs : List (Int × Int)) (n i : Nat) : List (Nat × AV) := [(0, .lst 2 (kf xs) n []), (3, .slc 0 [] 0 0 1 257 257), (4, .int .i64 (Int.ofNat i))]
theorem gTab (xs : List (Int × Int)) (n i : Nat) : (slots (lTab xs n i) (Env.mk 5)).get 3 = .slc 0 [] 0 0 1 257 257 := by kernel_rfl
theorem evTab (xs : List (Int × Int)) (n i : Nat) (ts : List Int) (t : Bool) : evCode Try.prog KC1 L0 (regB Try.prog) 40 72 (loopOf Try.prog 72 0) (slots (lTab xs n i) (Env.mk 5)) ⟨1, [(0, rTab ts true t)]⟩
    (fun e E' st' => some (e, keepE E' [0, 3, 4] (Env.mk 5), [0].map (find st'.mem))) =
  (bif decide (Int.ofNat i < (n : Int)) then bif decide (Int.ofNat i < (n : Int)) then bif decide (Int.ofNat i < (n : Int)) then
    bif decide (0 ≤ (xs.getD i (0, 0)).1) then bif decide ((xs.getD i (0, 0)).1 < (257 : Int)) then bif Nat.blt (xs.getD i (0, 0)).1.toNat 257 then
      some (.normal, (((Env.mk 5).set 0 (.lst 2 (kf xs) n [])).set 3 (.slc 0 [] 0 0 1 257 257)).set 4 (.int .i64 (IntKind.i64.wrap (Int.ofNat (i + 1)))), [some (.cells [.arr 1 257 (nf ts) [((xs.getD i (0, 0)).1.toNat, [.int .i64 (xs.getD i (0, 0)).2])]] true t)])
    else none else none else none
  else none else none else some (.exit 0, slots (lTab xs n i) (Env.mk 5), [some (rTab ts true t)])) := by kernel_rfl
theorem nf_set (ts : List Int) (j : Nat) (v : Int) (hj : j < ts.length) : ∀ i, i < 257 → elt [] (nf (ts.set j v)) i = elt [(j, [.int .i64 v])] (nf ts) i := fun i _ => by
  simp only [elt]
  by_cases e : i = j
  · subst e
    simp [nf, List.getD_eq_getElem?_getD, hj]
  · rw [beq_false e]
    simp only [cond_false, nf, List.getD_eq_getElem?_getD, List.getElem?_set_ne (Ne.symm e)]
theorem tab_ids {xs : List (Int × Int)} {i : Nat} (h : allId xs = true) (hi : i < xs.length) : 0 ≤ (xs.getD i (0, 0)).1 ∧ (xs.getD i (0, 0)).1 ≤ 256 := by
  rw [List.getD_eq_getElem?_getD, List.getElem?_eq_getElem hi]
  have := List.all_eq_true.1 h _ (List.getElem_mem hi)
  simpa [idB] using this
theorem gTabR (xs : List (Int × Int)) (n : Nat) (v : Int) : let E := (((Env.mk 5).set 0 (.lst 2 (kf xs) n [])).set 3 (.slc 0 [] 0 0 1 257 257)).set 4 (.int .i64 v)
    E.get 0 = .lst 2 (kf xs) n [] ∧ E.get 3 = .slc 0 [] 0 0 1 257 257 ∧ E.get 4 = .int .i64 v := ⟨by kernel_rfl, by kernel_rfl, by kernel_rfl⟩
theorem pull_tab (xs : List (Int × Int)) (n j : Nat) : ∀ p ∈ lTab xs n j, ∀ (κ : Kap) y, VRel κ (((((Env.mk 5).set 0 (.lst 2 (kf xs) n [])).set 3 (.slc 0 [] 0 0 1 257 257)).set 4 (.int .i64 (Int.ofNat j))).get p.1) y → VRel (κ.pull id 1) p.2 y := fun p hp κ y hy => by
  obtain ⟨g0, g3, g4⟩ := gTabR xs n (Int.ofNat j)
  simp only [lTab, List.mem_cons, List.not_mem_nil, or_false] at hp
  rcases hp with rfl | rfl | rfl
  · dsimp only at hy; rw [g0] at hy; exact VRel.pull rfl hy
  · dsimp only at hy; rw [g3] at hy; exact VRel.pull_slc rfl (by omega) hy
  · dsimp only at hy; rw [g4] at hy; exact VRel.pull rfl hy
theorem loopTab (t : Bool) (xs : List (Int × Int)) (hx : xs.length < 4611686018427387904) (hid : allId xs = true) (ts : List Int) (hts : ts.length = 257) {nb : Nat} (hnb : nb ≤ 1) (hs : SubOk Try.prog 72 (loopOf Try.prog 72 0)) :
    LoopOk Try.prog nb (szOf Try.prog 72) (loopOf Try.prog 72 0) (slots (lTab xs xs.length 0) (Env.mk 5)) ⟨1, [(0, rTab ts true t)]⟩ (.exit 0) (slots [(3, .slc 0 [] 0 0 1 257 257)] (Env.mk 5)) ⟨1, [(0, rTab (tabF ts xs) true t)]⟩ := by
  have key := loop_fold (P := Try.prog) (nb := nb) (sz := szOf Try.prog 72) (b := loopOf Try.prog 72 0) stTab xs (0, 0) (fun _ s => s.length = 257) (fun i s => (slots (lTab xs xs.length i) (Env.mk 5), ⟨1, [(0, rTab s true t)]⟩)) (fun s => ⟨.exit 0, slots [(3, .slc 0 [] 0 0 1 257 257)] (Env.mk 5), ⟨1, [(0, rTab s true t)]⟩⟩) (fun _ => ⟨.ret, Env.mk 5, ⟨0, []⟩⟩) (fun i s hI hi => ?_) (fun s _ => ?_) (fun _ h => by cases h) (fun _ h => by cases h) xs 0 ts hts rfl (Nat.zero_le _)
  · rw [show fork (fun s => Fin3.mk (.exit 0) (slots [(3, .slc 0 [] 0 0 1 257 257)] (Env.mk 5)) ⟨1, [(0, rTab s true t)]⟩) (fun _ => Fin3.mk .ret (Env.mk 5) ⟨0, []⟩) (foldX stTab ts xs) = Fin3.mk (.exit 0) (slots [(3, .slc 0 [] 0 0 1 257 257)] (Env.mk 5)) ⟨1, [(0, rTab (tabF ts xs) true t)]⟩ from stTab_fold _ _ _ _] at key
    exact key
  · have hev := evTab xs xs.length i s t
    have hb := tab_ids hid hi
    have hpl := pull_tab xs xs.length (i + 1)
    generalize xs.getD i (0, 0) = x at hev hb ⊢
    have e1 : decide (0 ≤ x.1) = true := decide_eq_true hb.1
    have e2 : decide (x.1 < (257 : Int)) = true := decide_eq_true (by omega)
    have e3 : Nat.blt x.1.toNat 257 = true := by rw [Nat.blt_eq]; omega
    have e4 : x.1.toNat < s.length := by rw [hI]; omega
    simp only [dec_lt' hi, cond_true, wrapNat (show i < 9223372036854775807 by omega), e1, e2, e3] at hev
    refine ⟨by rw [List.length_set]; exact hI, code_pull sprog_ok.1 sprog_ok.2 KC1_ok l0_ok (fuel := 40) (ts := [0, 3, 4]) (ms := [(0, rTab (s.set x.1.toNat x.2) true t)]) id (fun _ => .cells [.arr 1 257 (nf s) [(x.1.toNat, [.int .i64 x.2])]] true t) hs hnb hnb (fun _ _ => rfl) hpl (fun p hp => ?_) (fun p hp p' hp' h => h) hev⟩
    rw [List.mem_singleton.1 hp]
    exact ⟨RowLe.arr (by omega) id (nf_set s _ x.2 e4), fun _ => rfl⟩
  · have hev := evTab xs xs.length xs.length s t
    simp only [dec_nlt', cond_false] at hev
    exact (code_rows sprog_ok.1 sprog_ok.2 KC1_ok l0_ok (fuel := 40) (ts := [0, 3, 4]) (ms := [(0, rTab s true t)]) hs hnb hnb rfl rfl hev).less (less_slots fun p hp => by rw [List.mem_singleton.1 hp]; exact gTab _ _ _)
def fLoopTab (R : Type) (E : Env) (st : AS) : Option ((EK → Env → AS → Option R) → Option R) :=
  match E.get 0, E.get 3, E.get 4 with
  | .lst 2 f n us, .slc 0 [] 0 0 1 257 257, .int .i64 i => match st.mem with
    | [(0, .cells [.arr 1 257 f0 us0] true t)] => some fun k => bif Nat.beq st.next 1 && decide (i = 0) && Nat.ble n LIM && (okL f n us && okN f0 257 us0) && allId (kl f n us) then
        k .normal (slots [(3, .slc 0 [] 0 0 1 257 257)] (Env.mk 5)) ⟨1, [(0, rTab (tabF (nl f0 257 us0) (kl f n us)) true t)]⟩ else none
    | _ => none
  | _, _, _ => none
theorem okLoopTab : LoopFn Try.prog 72 0 fLoopTab := fun R E st G h hs nb hnb k r hk => by
  unfold fLoopTab at h
  split at h
  · rename_i f n us i g0 g3 g4
    split at h
    · rename_i f0 us0 t hm
      simp only [Option.some.injEq] at h
      subst h
      obtain ⟨hc, hk1⟩ := cond_some hk
      clear hk
      simp only [Bool.and_eq_true, decide_eq_true_eq] at hc
      obtain ⟨⟨⟨⟨c1, c3⟩, c4⟩, c5, c7⟩, c6⟩ := hc
      have d1 := Nat.eq_of_beq_eq_true c1
      have d4 := Nat.le_of_ble_eq_true c4
      clear c1
      obtain ⟨next, mem⟩ := st
      dsimp only at hm d1
      subst hm; subst d1; subst c3
      have hl := loopTab t (kl f n us) (by rw [kl_length]; unfold LIM at d4; omega) c6 (nl f0 257 us0) nl_length hnb hs
      have hw : Weak nb (szOf Try.prog 72) E ⟨1, [(0, .cells [.arr 1 257 f0 us0] true t)]⟩ (slots (lTab (kl f n us) (kl f n us).length 0) (Env.mk 5)) ⟨1, [(0, rTab (nl f0 257 us0) true t)]⟩ := weak_pull id (fun _ _ => rfl) hnb (fun p hp κ y hy => by
        rw [kl_length] at hp
        simp only [lTab, List.mem_cons, List.not_mem_nil, or_false] at hp
        rcases hp with rfl | rfl | rfl
        · dsimp only at hy; rw [g0] at hy; exact VRel.pull rfl (hy.pairs c5)
        · dsimp only at hy; rw [g3] at hy; exact VRel.pull_slc rfl (by dsimp only; omega) hy
        · dsimp only at hy; rw [g4] at hy; exact VRel.pull rfl hy) (fun m r2 hf => by
        have hp := List.mem_singleton.1 (find_mem _ _ _ hf)
        simp only [Prod.mk.injEq] at hp
        obtain ⟨rfl, rfl⟩ := hp
        exact ⟨_, rfl, RowLe.arr (by dsimp only; omega) id (fun i hi => nf_nl c7 hi), fun _ => rfl⟩) (fun _ _ _ _ _ _ h => h)
      exact ⟨.exit 0, _, _, hk1, Nat.le_refl _, hl.weak hw⟩
    · cases h
  · cases h
def LC6a : LT := addL 72 0 fLoopTab L0
theorem LC6a_ok : LOk Try.prog LC6a := addL_ok sprog_ok.1 (by kernel_rfl) okLoopTab l0_ok
theorem evTable (xs : List (Int × Int)) (n : Nat) : evFn Try.prog KC1 LC6a (regB Try.prog) 60 72 [.lst 2 (kf xs) n []] ⟨0, []⟩ (fun v st => some (v, st)) =
  (bif true && true && Nat.ble n LIM && (okL (kf xs) n [] && okN (fun _ => [.int .i64 0]) 257 []) && allId (kl (kf xs) n []) then
    some (.slc 0 [] 0 0 1 257 257, ⟨1, [(0, rTab (tabF (nl (fun _ => [.int .i64 0]) 257 []) (kl (kf xs) n [])) true false)]⟩) else none) := by kernel_rfl
/-- The table of a list of pairs. -/
def fTab (R : Type) (vs : List AV) (k : AV → AS → Option R) : Option R :=
  match vs with
  | [.lst 2 f n us] => bif okL f n us && Nat.ble n LIM && allId (kl f n us) then k (.slc 0 [] 0 0 1 257 257) ⟨1, [(0, rTab (tabF zeros257 (kl f n us)) true false)]⟩ else none
  | _ => none
theorem nl_zeros : nl (fun _ => [.int .i64 0]) 257 [] = zeros257 := by kernel_rfl
theorem okN_zeros : okN (fun _ => [.int .i64 0]) 257 [] = true := by kernel_rfl
theorem flat_nf {ts : List Int} {n : Nat} {own t : Bool} (ho : own = true) : FlatRow (.cells [.arr 1 n (nf ts) []] own t) := ⟨ho, fun x hx => by
  rw [List.mem_singleton.1 hx]
  intro i _ y hy
  rw [List.mem_singleton.1 hy]; trivial⟩
theorem flat_kf {ys : List (Int × Int)} {n : Nat} {own t : Bool} (ho : own = true) : FlatRow (.cells [.arr 2 n (kf ys) []] own t) := ⟨ho, fun x hx => by
  rw [List.mem_singleton.1 hx]
  intro i _ y hy
  simp only [elt, kf, List.mem_cons, List.not_mem_nil, or_false] at hy
  rcases hy with rfl | rfl <;> trivial⟩
theorem okTab : FnOk Try.prog 72 fTab := fun R vs k r h => by
  unfold fTab at h
  split at h
  · rename_i f n us
    obtain ⟨hc, h⟩ := cond_some h
    simp only [Bool.and_eq_true] at hc
    refine ⟨_, _, h, ⟨trivial, fun p hp => by rw [List.mem_singleton.1 hp]; exact flat_nf rfl⟩, SoundFn.args (vs' := [.lst 2 (kf (kl f n us)) (kl f n us).length []]) (fn_ev sprog_ok.1 sprog_ok.2 KC1_ok LC6a_ok (fuel := 60) rfl ?_) fun κ ys hy => hy.cons_map (fun y hy => by rw [kl_length]; exact hy.pairs hc.1.1) (fun _ h => h) rfl⟩
    have hn : (kl f n us).length.ble LIM = true := by rw [kl_length]; exact hc.1.2
    rw [evTable, kl_kf, okL_kf, hn, hc.2, nl_zeros, okN_zeros]
    simp only [Bool.and_true, cond_true]
  · cases h

/-! ### of -/
def rOf (ys : List (Int × Int)) : Row := .cells [.arr 2 ys.length (kf ys) []] true true
def lOf (xs : List Int) (n i m : Nat) : List (Nat × AV) := [(0, .lst 1 (nf xs) n []), (3, .slc 0 [] 0 0 2 m m), (4, .int .i64 (Int.ofNat i))]
theorem gOf (xs : List Int) (n i m : Nat) : (slots (lOf xs n i m) (Env.mk 5)).get 0 = .lst 1 (nf xs) n [] ∧ (slots (lOf xs n i m) (Env.mk 5)).get 3 = .slc 0 [] 0 0 2 m m ∧ (slots (lOf xs n i m) (Env.mk 5)).get 4 = .int .i64 (Int.ofNat i) := ⟨by kernel_rfl, by kernel_rfl, by kernel_rfl⟩
theorem gOfR (xs : List Int) (n q m : Nat) (v : Int) : let E := (((Env.mk 5).set 0 (.lst 1 (nf xs) n [])).set 3 (.slc q [] 0 0 2 m m)).set 4 (.int .i64 v)
    E.get 0 = .lst 1 (nf xs) n [] ∧ E.get 3 = .slc q [] 0 0 2 m m ∧ E.get 4 = .int .i64 v := ⟨by kernel_rfl, by kernel_rfl, by kernel_rfl⟩
/-- A round that finds something: the row is the one that append made. -/
theorem evOf1 (xs : List Int) (n i m : Nat) (ys : List (Int × Int)) : evCode Try.prog KC1 L0 (regB Try.prog) 40 73 (loopOf Try.prog 73 0) (slots (lOf xs n i m) (Env.mk 5)) ⟨1, [(0, .cells [.arr 2 m (kf ys) []] true true)]⟩
    (fun e E' st' => some (e, keepE E' [0, 3, 4] (Env.mk 5), [2].map (find st'.mem))) =
  (bif decide (Int.ofNat i < (n : Int)) then bif decide (Int.ofNat i < (n : Int)) then
    bif decide (xs.getD i 0 > 0) then bif decide (Int.ofNat i < (n : Int)) then bif Nat.ble m m then bif Nat.ble ((m + 1) * 16) LIM then
      some (.normal, (((Env.mk 5).set 0 (.lst 1 (nf xs) n [])).set 3 (.slc 2 [] 0 0 2 (m + 1) (m + 1))).set 4 (.int .i64 (IntKind.i64.wrap (Int.ofNat (i + 1)))), [some (.cells [.arr 2 (m + 1) (kf ys) [(m, [.int .i64 (Int.ofNat i), .int .i64 (xs.getD i 0)])]] true true)])
    else none else none else none
    else some (.normal, (((Env.mk 5).set 0 (.lst 1 (nf xs) n [])).set 3 (.slc 0 [] 0 0 2 m m)).set 4 (.int .i64 (IntKind.i64.wrap (Int.ofNat (i + 1)))), [none])
  else none else some (.exit 0, slots (lOf xs n i m) (Env.mk 5), [none])) := by kernel_rfl
theorem evOf0 (xs : List Int) (n i m : Nat) (ys : List (Int × Int)) : evCode Try.prog KC1 L0 (regB Try.prog) 40 73 (loopOf Try.prog 73 0) (slots (lOf xs n i m) (Env.mk 5)) ⟨1, [(0, .cells [.arr 2 m (kf ys) []] true true)]⟩
    (fun e E' st' => some (e, keepE E' [0, 3, 4] (Env.mk 5), [0].map (find st'.mem))) =
  (bif decide (Int.ofNat i < (n : Int)) then bif decide (Int.ofNat i < (n : Int)) then
    bif decide (xs.getD i 0 > 0) then bif decide (Int.ofNat i < (n : Int)) then bif Nat.ble m m then bif Nat.ble ((m + 1) * 16) LIM then
      some (.normal, (((Env.mk 5).set 0 (.lst 1 (nf xs) n [])).set 3 (.slc 2 [] 0 0 2 (m + 1) (m + 1))).set 4 (.int .i64 (IntKind.i64.wrap (Int.ofNat (i + 1)))), [none])
    else none else none else none
    else some (.normal, (((Env.mk 5).set 0 (.lst 1 (nf xs) n [])).set 3 (.slc 0 [] 0 0 2 m m)).set 4 (.int .i64 (IntKind.i64.wrap (Int.ofNat (i + 1)))), [some (.cells [.arr 2 m (kf ys) []] true true)])
  else none else some (.exit 0, slots (lOf xs n i m) (Env.mk 5), [some (.cells [.arr 2 m (kf ys) []] true true)])) := by kernel_rfl
theorem kf_snoc (ys : List (Int × Int)) (x : Int × Int) : ∀ i, i < ys.length + 1 → elt [] (kf (ys ++ [x])) i = elt [(ys.length, [.int .i64 x.1, .int .i64 x.2])] (kf ys) i := fun i hi => by
  simp only [elt]
  by_cases e : i = ys.length
  · subst e
    simp [kf]
  · rw [beq_false e]
    simp only [cond_false, kf, List.getD_eq_getElem?_getD, List.getElem?_append_left (show i < ys.length by omega)]
theorem loopOf16 (xs : List Int) (hx : xs.length < 1000000) {nb : Nat} (hnb : nb ≤ 0) (hs : SubOk Try.prog 73 (loopOf Try.prog 73 0)) :
    LoopOk Try.prog nb (szOf Try.prog 73) (loopOf Try.prog 73 0) (slots (lOf xs xs.length 0 0) (Env.mk 5)) ⟨1, [(0, rOf [])]⟩ (.exit 0) (slots [(3, .slc 0 [] 0 0 2 (ofF 0 xs).length (ofF 0 xs).length)] (Env.mk 5)) ⟨1, [(0, rOf (ofF 0 xs))]⟩ := by
  have key := loop_fold (P := Try.prog) (nb := nb) (sz := szOf Try.prog 73) (b := loopOf Try.prog 73 0) stOf xs 0 (fun i s => s.1 = i ∧ s.2.length ≤ i) (fun i s => (slots (lOf xs xs.length i s.2.length) (Env.mk 5), ⟨1, [(0, rOf s.2)]⟩)) (fun s => ⟨.exit 0, slots [(3, .slc 0 [] 0 0 2 s.2.length s.2.length)] (Env.mk 5), ⟨1, [(0, rOf s.2)]⟩⟩) (fun _ => ⟨.ret, Env.mk 5, ⟨0, []⟩⟩) (fun i s hI hi => ?_) (fun s _ => ?_) (fun _ h => by cases h) (fun _ h => by cases h) xs 0 (0, []) ⟨rfl, Nat.le_refl _⟩ rfl (Nat.zero_le _)
  · rw [show fork (fun s : Nat × List (Int × Int) => Fin3.mk (.exit 0) (slots [(3, .slc 0 [] 0 0 2 s.2.length s.2.length)] (Env.mk 5)) ⟨1, [(0, rOf s.2)]⟩) (fun _ => Fin3.mk .ret (Env.mk 5) ⟨0, []⟩) (foldX stOf (0, []) xs) = Fin3.mk (.exit 0) (slots [(3, .slc 0 [] 0 0 2 (ofF 0 xs).length (ofF 0 xs).length)] (Env.mk 5)) ⟨1, [(0, rOf (ofF 0 xs))]⟩ from stOf_fold (fun ys => Fin3.mk (.exit 0) (slots [(3, .slc 0 [] 0 0 2 ys.length ys.length)] (Env.mk 5)) ⟨1, [(0, rOf ys)]⟩) _ xs 0 []] at key
    exact key
  · obtain ⟨j, ys⟩ := s
    obtain ⟨rfl, hI⟩ := hI
    dsimp only at hI ⊢
    have hw := wrapNat (show j < 9223372036854775807 by omega)
    have hbl : Nat.ble ys.length ys.length = true := by simp
    have hlim : Nat.ble ((ys.length + 1) * 16) LIM = true := by unfold LIM; simp; omega
    cases hc : decide (xs.getD j 0 > 0) with
    | true =>
      have hev := evOf1 xs xs.length j ys.length ys
      simp only [dec_lt' hi, cond_true, hc, hw, hbl, hlim] at hev
      have hst : stOf (j, ys) (xs.getD j 0) = .inl (j + 1, ys ++ [(Int.ofNat j, xs.getD j 0)]) := by simp only [stOf, hc, cond_true]
      rw [hst]
      have hlen : (ys ++ [(Int.ofNat j, xs.getD j 0)]).length = ys.length + 1 := by simp
      refine ⟨⟨rfl, by rw [hlen]; omega⟩, ?_⟩
      dsimp only
      rw [hlen]
      refine code_pull sprog_ok.1 sprog_ok.2 KC1_ok l0_ok (fuel := 40) (ts := [0, 3, 4]) (ms := [(0, rOf (ys ++ [(Int.ofNat j, xs.getD j 0)]))]) (fun _ => 2) (fun _ => .cells [.arr 2 (ys.length + 1) (kf ys) [(ys.length, [.int .i64 (Int.ofNat j), .int .i64 (xs.getD j 0)])]] true true) hs (by dsimp only; omega) (by omega) (fun x hx => by omega) (fun p hp κ y hy => ?_) (fun p hp => ?_) (fun p hp p' hp' _ => ?_) hev
      · obtain ⟨g0, g3, g4⟩ := gOfR xs xs.length 2 (ys.length + 1) (Int.ofNat (j + 1))
        simp only [lOf, List.mem_cons, List.not_mem_nil, or_false] at hp
        rcases hp with rfl | rfl | rfl
        · dsimp only at hy; rw [g0] at hy; exact VRel.pull rfl hy
        · dsimp only at hy; rw [g3] at hy; exact VRel.pull_slc rfl (by omega) hy
        · dsimp only at hy; rw [g4] at hy; exact VRel.pull rfl hy
      · rw [List.mem_singleton.1 hp]
        unfold rOf
        rw [hlen]
        exact ⟨RowLe.arr (by omega) id (kf_snoc ys _), fun _ => rfl⟩
      · rw [List.mem_singleton.1 hp, List.mem_singleton.1 hp']
    | false =>
      have hev := evOf0 xs xs.length j ys.length ys
      simp only [dec_lt' hi, cond_true, cond_false, hc, hw] at hev
      have hst : stOf (j, ys) (xs.getD j 0) = .inl (j + 1, ys) := by simp only [stOf, hc, cond_false]
      rw [hst]
      exact ⟨⟨rfl, by dsimp only; omega⟩, code_rows sprog_ok.1 sprog_ok.2 KC1_ok l0_ok (fuel := 40) (ts := [0, 3, 4]) (ms := [(0, rOf ys)]) (l := lOf xs xs.length (j + 1) ys.length) hs (by dsimp only; omega) (by omega) rfl rfl hev⟩
  · have hev := evOf0 xs xs.length xs.length s.2.length s.2
    simp only [dec_nlt', cond_false] at hev
    exact (code_rows sprog_ok.1 sprog_ok.2 KC1_ok l0_ok (fuel := 40) (ts := [0, 3, 4]) (ms := [(0, rOf s.2)]) hs (by dsimp only; omega) (by omega) rfl rfl hev).less (less_slots fun p hp => by rw [List.mem_singleton.1 hp]; exact (gOf _ _ _ _).2.1)
def fLoopOf (R : Type) (E : Env) (st : AS) : Option ((EK → Env → AS → Option R) → Option R) :=
  match E.get 0, E.get 3, E.get 4 with
  | .lst 1 f n us, .raw (.slice none 0 0), .int .i64 i => match st.mem with
    | [] => some fun k => bif Nat.beq st.next 0 && decide (i = 0) && Nat.blt n 1000000 && okN f n us then
        k .normal (slots [(3, .slc 0 [] 0 0 2 (ofF 0 (nl f n us)).length (ofF 0 (nl f n us)).length)] (Env.mk 5)) ⟨1, [(0, rOf (ofF 0 (nl f n us)))]⟩ else none
    | _ => none
  | _, _, _ => none
theorem okLoopOf : LoopFn Try.prog 73 0 fLoopOf := fun R E st G h hs nb hnb k r hk => by
  unfold fLoopOf at h
  split at h
  · rename_i f n us i g0 g3 g4
    split at h
    · rename_i hm
      simp only [Option.some.injEq] at h
      subst h
      obtain ⟨hc, hk1⟩ := cond_some hk
      clear hk
      simp only [Bool.and_eq_true, decide_eq_true_eq] at hc
      obtain ⟨⟨⟨c1, c3⟩, c4⟩, c5⟩ := hc
      have d1 := Nat.eq_of_beq_eq_true c1
      have d4 : n < 1000000 := by simpa using c4
      clear c1
      obtain ⟨next, mem⟩ := st
      dsimp only at hm d1
      subst hm; subst d1; subst c3
      have hl := loopOf16 (nl f n us) (by rw [nl_length]; exact d4) hnb hs
      have hw : Weak nb (szOf Try.prog 73) E ⟨0, []⟩ (slots (lOf (nl f n us) (nl f n us).length 0 0) (Env.mk 5)) ⟨1, [(0, rOf [])]⟩ := by
        refine weak_nil (t := 3) (w := 2) (q := 0) hnb (fun p hp hne κ κ' y hle hy => ?_) g3 (fun p hp e => ?_)
        · rw [nl_length] at hp
          simp only [lOf, List.mem_cons, List.not_mem_nil, or_false] at hp
          rcases hp with rfl | rfl | rfl
          · dsimp only at hy; rw [g0] at hy; exact VRel.plain hle rfl (hy.nums c5)
          · exact absurd rfl hne
          · dsimp only at hy; rw [g4] at hy; exact VRel.plain hle rfl hy
        · simp only [lOf, List.mem_cons, List.not_mem_nil, or_false] at hp
          rcases hp with rfl | rfl | rfl
          · cases e
          · rfl
          · cases e
      exact ⟨.exit 0, _, _, hk1, by dsimp only; omega, hl.weak hw⟩
    · cases h
  · cases h
def LC6b : LT := addL 73 0 fLoopOf L0
theorem LC6b_ok : LOk Try.prog LC6b := addL_ok sprog_ok.1 (by kernel_rfl) okLoopOf l0_ok
theorem evOf (xs : List Int) (n : Nat) : evFn Try.prog KC1 LC6b (regB Try.prog) 60 73 [.lst 1 (nf xs) n []] ⟨0, []⟩ (fun v st => some (v, st)) =
  (bif true && true && Nat.blt n 1000000 && okN (nf xs) n [] then
    some (.slc 0 [] 0 0 2 (ofF 0 (nl (nf xs) n [])).length (ofF 0 (nl (nf xs) n [])).length, ⟨1, [(0, rOf (ofF 0 (nl (nf xs) n [])))]⟩) else none) := by kernel_rfl
/-- The list of a table. -/
def fOf (R : Type) (vs : List AV) (k : AV → AS → Option R) : Option R :=
  match vs with
  | [.lst 1 f n us] => bif okN f n us && Nat.blt n 1000000 then k (.slc 0 [] 0 0 2 (ofF 0 (nl f n us)).length (ofF 0 (nl f n us)).length) ⟨1, [(0, rOf (ofF 0 (nl f n us)))]⟩ else none
  | _ => none
theorem okOf : FnOk Try.prog 73 fOf := fun R vs k r h => by
  unfold fOf at h
  split at h
  · rename_i f n us
    obtain ⟨hc, h⟩ := cond_some h
    simp only [Bool.and_eq_true] at hc
    refine ⟨_, _, h, ⟨trivial, fun p hp => by rw [List.mem_singleton.1 hp]; exact flat_kf rfl⟩, SoundFn.args (vs' := [.lst 1 (nf (nl f n us)) (nl f n us).length []]) (fn_ev sprog_ok.1 sprog_ok.2 KC1_ok LC6b_ok (fuel := 60) rfl ?_) fun κ ys hy => hy.cons_map (fun y hy => by rw [nl_length]; exact hy.nums hc.1) (fun _ h => h) rfl⟩
    have hn : (nl f n us).length.blt 1000000 = true := by rw [nl_length]; exact hc.2
    rw [evOf, nl_nf, okN_nf, hn]
    simp only [Bool.and_true, cond_true]
  · cases h
end Go.Sv
