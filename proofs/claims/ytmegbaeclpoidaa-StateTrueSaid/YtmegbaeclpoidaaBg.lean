/- The evaluator and the contracts that the walk leans on, part Bg: C7, C8, C9, P1, CA, CB, CC, CD, P2. -/
import Derived.Test.YtmegbaeclpoidaaBf
namespace Go.Sv
open Go.RowKit Go.Proofs

/-! ### the table so far -/
def hasC7 : FuncId → Bool := addHas 35 (addHas 36 (addHas 37 (addHas 38 (addHas 20 (addHas 72 (addHas 73 hasC1))))))
def specC7 : SpecT := addS 35 fChk (addS 36 fChk (addS 37 fByt (addS 38 fByt (addS 20 fSam (addS 72 fTab (addS 73 fOf specC1))))))
theorem specC7_ok : SpecOk Try.prog hasC7 specC7 := addS_ok okChk1 (addS_ok okChk2 (addS_ok okByt1 (addS_ok okByt2 (addS_ok okSam (addS_ok okTab (addS_ok okOf specC1_ok))))))
def KC7 : KT := specK hasC7 specC7
theorem KC7_ok : KOk Try.prog KC7 := specK_ok specC7_ok

/-! ### open -/
def bookF : List (Int × Int) → List (Int × Int) → List (Int × Int)
  | ys, [] => ys
  | ys, x :: r => bookF (putP x.1 x.2 ys) r
theorem putP_new (id z : Int) : ∀ ys : List (Int × Int), (∀ y ∈ ys, y.1 ≠ id) → putP id z ys = ys ++ [(id, z)]
  | [], _ => rfl
  | y :: ys, h => by
    have h1 : (y.1 == id) = false := by simpa using h y (List.mem_cons_self ..)
    simp only [putP, h1, cond_false, List.cons_append]
    rw [putP_new id z ys fun y hy => h y (List.mem_cons_of_mem _ hy)]
theorem bookF_chk : ∀ (xs ys : List (Int × Int)) (last : Int), chkF last xs = true → (∀ y ∈ ys, y.1 ≤ last) → bookF ys xs = ys ++ xs
  | [], ys, _, _, _ => by simp [bookF]
  | x :: r, ys, last, h, hy => by
    simp only [chkF, Bool.and_eq_true, Bool.not_eq_true', decide_eq_false_iff_not] at h
    have h1 : last < x.1 := by omega
    simp only [bookF]
    rw [putP_new _ _ _ fun y hy' => by have := hy y hy'; omega, bookF_chk r _ x.1 h.2 fun y hy' => ?_]
    · simp
    · rcases List.mem_append.1 hy' with h' | h'
      · have := hy y h'; omega
      · rw [List.mem_singleton.1 h']; exact Int.le_refl _
def stBook (s : List (Int × Int)) (x : Int × Int) : List (Int × Int) ⊕ Unit := .inl (putP x.1 x.2 s)
theorem stBook_fold {γ : Type} (a : List (Int × Int) → γ) (b : γ) : ∀ (xs ys : List (Int × Int)), fork a (fun _ => b) (foldX stBook ys xs) = a (bookF ys xs)
  | [], _ => rfl
  | _ :: r, _ => stBook_fold a b r _
def lOpn (xs : List (Int × Int)) (n i : Nat) : List (Nat × AV) := [(5, .mp 0), (14, .lst 2 (kf xs) n []), (15, .int .i64 (Int.ofNat n)), (16, .int .i64 (Int.ofNat i))]
theorem gOpn (xs : List (Int × Int)) (n i : Nat) : (slots (lOpn xs n i) (Env.mk 5)).get 5 = .mp 0 := by kernel_rfl
theorem evOpn (xs ys : List (Int × Int)) (n i : Nat) : evCode Try.prog KC7 L0 (regB Try.prog) 40 70 (loopOf Try.prog 70 0) (slots (lOpn xs n i) (Env.mk 5)) ⟨1, [(0, .ptab ys)]⟩
    (fun e E' st' => some (e, keepE E' [5, 14, 15, 16] (Env.mk 5), [0].map (find st'.mem))) =
  (bif decide (Int.ofNat i < Int.ofNat n) then bif decide (Int.ofNat i < (n : Int)) then
    some (.normal, ((((Env.mk 5).set 5 (.mp 0)).set 14 (.lst 2 (kf xs) n [])).set 15 (.int .i64 (Int.ofNat n))).set 16 (.int .i64 (IntKind.i64.wrap (Int.ofNat (i + 1)))), [some (.ptab (putP (xs.getD i (0, 0)).1 (xs.getD i (0, 0)).2 ys))])
  else none else some (.exit 0, slots (lOpn xs n i) (Env.mk 5), [some (.ptab ys)])) := by kernel_rfl
theorem loopOpn (xs : List (Int × Int)) (hx : xs.length < 4611686018427387904) {nb : Nat} (hnb : nb ≤ 1) (hs : SubOk Try.prog 70 (loopOf Try.prog 70 0)) :
    LoopOk Try.prog nb (szOf Try.prog 70) (loopOf Try.prog 70 0) (slots (lOpn xs xs.length 0) (Env.mk 5)) ⟨1, [(0, .ptab [])]⟩ (.exit 0) (slots [(5, .mp 0)] (Env.mk 5)) ⟨1, [(0, .ptab (bookF [] xs))]⟩ := by
  have key := loop_fold (P := Try.prog) (nb := nb) (sz := szOf Try.prog 70) (b := loopOf Try.prog 70 0) stBook xs (0, 0) (fun _ _ => True) (fun i s => (slots (lOpn xs xs.length i) (Env.mk 5), ⟨1, [(0, .ptab s)]⟩)) (fun s => ⟨.exit 0, slots [(5, .mp 0)] (Env.mk 5), ⟨1, [(0, .ptab s)]⟩⟩) (fun _ => ⟨.ret, Env.mk 5, ⟨0, []⟩⟩) (fun i s _ hi => ?_) (fun s _ => ?_) (fun _ h => by cases h) (fun _ h => by cases h) xs 0 [] trivial rfl (Nat.zero_le _)
  · rw [show fork (fun s => Fin3.mk (.exit 0) (slots [(5, .mp 0)] (Env.mk 5)) ⟨1, [(0, .ptab s)]⟩) (fun _ => Fin3.mk .ret (Env.mk 5) ⟨0, []⟩) (foldX stBook [] xs) = Fin3.mk (.exit 0) (slots [(5, .mp 0)] (Env.mk 5)) ⟨1, [(0, .ptab (bookF [] xs))]⟩ from stBook_fold _ _ _ _] at key
    exact key
  · have hev := evOpn xs s xs.length i
    simp only [dec_lt hi, dec_lt' hi, cond_true, wrapNat (show i < 9223372036854775807 by omega)] at hev
    exact ⟨trivial, code_rows sprog_ok.1 sprog_ok.2 KC7_ok l0_ok (fuel := 40) (ts := [5, 14, 15, 16]) (ms := [(0, .ptab (putP (xs.getD i (0, 0)).1 (xs.getD i (0, 0)).2 s))]) hs hnb hnb rfl rfl hev⟩
  · have hev := evOpn xs s xs.length xs.length
    simp only [dec_nlt, cond_false] at hev
    exact (code_rows sprog_ok.1 sprog_ok.2 KC7_ok l0_ok (fuel := 40) (ts := [5, 14, 15, 16]) (ms := [(0, .ptab s)]) hs hnb hnb rfl rfl hev).less (less_slots fun p hp => by rw [List.mem_singleton.1 hp]; exact gOpn _ _ _)
def fLoopOpn (R : Type) (E : Env) (st : AS) : Option ((EK → Env → AS → Option R) → Option R) :=
  match E.get 5, E.get 14, E.get 15, E.get 16 with
  | .mp 0, .lst 2 f n us, .int .i64 m, .int .i64 i => match st.mem with
    | [(0, .map (some .i64) [] 0)] => some fun k => bif Nat.beq st.next 1 && decide (m = Int.ofNat n) && decide (i = 0) && Nat.ble n LIM && okL f n us then
        k .normal (slots [(5, .mp 0)] (Env.mk 5)) ⟨1, [(0, .ptab (bookF [] (kl f n us)))]⟩ else none
    | _ => none
  | _, _, _, _ => none
theorem okLoopOpn : LoopFn Try.prog 70 0 fLoopOpn := fun R E st G h hs nb hnb k r hk => by
  unfold fLoopOpn at h
  split at h
  · rename_i f n us m i g5 g14 g15 g16
    split at h
    · rename_i hm
      simp only [Option.some.injEq] at h
      subst h
      obtain ⟨hc, hk1⟩ := cond_some hk
      clear hk
      simp only [Bool.and_eq_true, decide_eq_true_eq] at hc
      obtain ⟨⟨⟨⟨c1, c2⟩, c3⟩, c4⟩, c5⟩ := hc
      have d1 := Nat.eq_of_beq_eq_true c1
      have d4 := Nat.le_of_ble_eq_true c4
      clear c1
      obtain ⟨next, mem⟩ := st
      dsimp only at hm d1
      subst hm; subst d1; subst c2; subst c3
      have hl := loopOpn (kl f n us) (by rw [kl_length]; unfold LIM at d4; omega) hnb hs
      have hw : Weak nb (szOf Try.prog 70) E ⟨1, [(0, .map (some .i64) [] 0)]⟩ (slots (lOpn (kl f n us) (kl f n us).length 0) (Env.mk 5)) ⟨1, [(0, .ptab [])]⟩ := weak_pull id (fun _ _ => rfl) hnb (fun p hp κ y hy => by
        rw [kl_length] at hp
        simp only [lOpn, List.mem_cons, List.not_mem_nil, or_false] at hp
        rcases hp with rfl | rfl | rfl | rfl
        · dsimp only at hy; rw [g5] at hy; exact VRel.pull_mp rfl (by dsimp only; omega) hy
        · dsimp only at hy; rw [g14] at hy; exact VRel.pull rfl (hy.pairs c5)
        · dsimp only at hy; rw [g15] at hy; exact VRel.pull rfl hy
        · dsimp only at hy; rw [g16] at hy; exact VRel.pull rfl hy) (fun m r2 hf => by
        have hp := List.mem_singleton.1 (find_mem _ _ _ hf)
        simp only [Prod.mk.injEq] at hp
        obtain ⟨rfl, rfl⟩ := hp
        exact ⟨_, rfl, RowLe.toPtab (by dsimp only; omega) rfl, fun _ => rfl⟩) (fun _ _ _ _ _ _ h => h)
      exact ⟨.exit 0, _, _, hk1, Nat.le_refl _, hl.weak hw⟩
    · cases h
  · cases h
def LC7a : LT := addL 70 0 fLoopOpn L0
theorem LC7a_ok : LOk Try.prog LC7a := addL_ok sprog_ok.1 (by kernel_rfl) okLoopOpn l0_ok
theorem evOpen (xs : List (Int × Int)) (n : Nat) : evFn Try.prog KC7 LC7a (regB Try.prog) 60 70 [.lst 2 (kf xs) n []] ⟨0, []⟩ (fun v st => some (v, st)) =
  (bif okL (kf xs) n [] then bif chkE (kl (kf xs) n []) != 0 then some (.tup [.raw (.map none), .int .i64 (chkE (kl (kf xs) n []))], ⟨0, []⟩) else
    bif true && decide ((n : Int) = Int.ofNat n) && true && Nat.ble n LIM && okL (kf xs) n [] then some (.tup [.mp 0, .int .i64 0], ⟨1, [(0, .ptab (bookF [] (kl (kf xs) n [])))]⟩) else none else none) := by kernel_rfl
/-- A list of pairs as a book. -/
def fOpn (R : Type) (vs : List AV) (k : AV → AS → Option R) : Option R :=
  match vs with
  | [.lst 2 f n us] => bif okL f n us then bif chkE (kl f n us) != 0 then k (.tup [.raw (.map none), .int .i64 (chkE (kl f n us))]) ⟨0, []⟩ else k (.tup [.mp 0, .int .i64 0]) ⟨1, [(0, .ptab (kl f n us))]⟩ else none
  | _ => none
theorem chkE_ok {xs : List (Int × Int)} (h : (chkE xs != 0) = false) : xs.length ≤ 257 ∧ chkF (-1) xs = true := by
  unfold chkE at h
  cases h1 : decide (xs.length > 257) with
  | true => rw [h1] at h; cases h
  | false =>
    rw [h1, cond_false] at h
    cases h2 : chkF (-1) xs with
    | true => exact ⟨by simpa using h1, rfl⟩
    | false => rw [h2] at h; cases h
theorem okOpn : FnOk Try.prog 70 fOpn := fun R vs k r h => by
  unfold fOpn at h
  split at h
  · rename_i f n us
    obtain ⟨hc, h⟩ := cond_some h
    have key : ∀ v st', evFn Try.prog KC7 LC7a (regB Try.prog) 60 70 [.lst 2 (kf (kl f n us)) (kl f n us).length []] ⟨0, []⟩ (fun v st => some (v, st)) = some (v, st') → SoundFn Try.prog 70 [.lst 2 f n us] ⟨0, []⟩ v st' := fun v st' he =>
      SoundFn.args (vs' := [.lst 2 (kf (kl f n us)) (kl f n us).length []]) (fn_ev sprog_ok.1 sprog_ok.2 KC7_ok LC7a_ok (fuel := 60) rfl he) fun κ ys hy => hy.cons_map (fun y hy => by rw [kl_length]; exact hy.pairs hc) (fun _ h => h) rfl
    rw [evOpen, kl_kf, okL_kf] at key
    generalize kl f n us = xs at *
    cases hb : (chkE xs != 0) with
    | true =>
      rw [hb] at h key
      refine ⟨_, _, h, ⟨?_, fun p hp => by cases hp⟩, key _ _ rfl⟩
      intro x hx
      simp only [List.mem_cons, List.not_mem_nil, or_false] at hx
      rcases hx with rfl | rfl <;> trivial
    | false =>
      rw [hb] at h key
      obtain ⟨h1, h2⟩ := chkE_ok hb
      have h3 : Nat.ble xs.length LIM = true := by unfold LIM; simp; omega
      have h4 : bookF [] xs = xs := by simpa using bookF_chk xs [] (-1) h2 (by simp)
      rw [h3, h4] at key
      refine ⟨_, _, h, ⟨?_, fun p hp => by rw [List.mem_singleton.1 hp]; trivial⟩, key _ _ (by simp)⟩
      intro x hx
      simp only [List.mem_cons, List.not_mem_nil, or_false] at hx
      rcases hx with rfl | rfl <;> trivial
  · cases h
end Go.Sv
namespace Go.Sv
open Go.RowKit Go.Proofs

/-! ### what it computes -/
def pairsF (xs : List (Int × Int)) (ks : List Int) : List (Int × Int) := ks.map fun k => (k, bytF k xs)
def listF (xs : List (Int × Int)) : List (Int × Int) := pairsF xs (sortZ (xs.map (·.1)))
def stLst (xs s : List (Int × Int)) (k : Int) : List (Int × Int) ⊕ Unit := .inl (s ++ [(k, bytF k xs)])
theorem stLst_fold {γ : Type} (xs : List (Int × Int)) (a : List (Int × Int) → γ) (b : γ) : ∀ (ks : List Int) (ys : List (Int × Int)), fork a (fun _ => b) (foldX (stLst xs) ys ks) = a (ys ++ pairsF xs ks)
  | [], ys => by simp [foldX, fork, pairsF]
  | k :: r, ys => by
    have ih := stLst_fold xs a b r (ys ++ [(k, bytF k xs)])
    simp only [foldX, stLst]
    simpa [pairsF] using ih

/-! ### book.list: the loop (A) -/
def lLstA (n i m : Nat) : List (Nat × AV) := [(0, .mp 0), (3, .slc 3 [] 0 0 2 m m), (8, .slc 2 [] 0 0 1 n n), (9, .int .i64 (Int.ofNat n)), (10, .int .i64 (Int.ofNat i))]
theorem gLstA (n i m : Nat) : (slots (lLstA n i m) (Env.mk 5)).get 3 = .slc 3 [] 0 0 2 m m := by kernel_rfl
theorem gLstRA (n m q : Nat) (v : Int) : let E := (((((Env.mk 5).set 0 (.mp 0)).set 3 (.slc q [] 0 0 2 m m)).set 8 (.slc 2 [] 0 0 1 n n)).set 9 (.int .i64 (Int.ofNat n))).set 10 (.int .i64 v)
    E.get 0 = .mp 0 ∧ E.get 3 = .slc q [] 0 0 2 m m ∧ E.get 8 = .slc 2 [] 0 0 1 n n ∧ E.get 9 = .int .i64 (Int.ofNat n) ∧ E.get 10 = .int .i64 v := ⟨by kernel_rfl, by kernel_rfl, by kernel_rfl, by kernel_rfl, by kernel_rfl⟩
theorem evLstA (xs ys : List (Int × Int)) (ks : List Int) (n i m : Nat) : evCode Try.prog KC7 L0 (regB Try.prog) 60 71 (loopOf Try.prog 71 0) (slots (lLstA n i m) (Env.mk 5)) ⟨4, [(0, .ptab xs), (2, .cells [.arr 1 n (nf ks) []] true true), (3, .cells [.arr 2 m (kf ys) []] true true)]⟩
    (fun e E' st' => some (e, keepE E' [0, 3, 8, 9, 10] (Env.mk 5), [0, 2, 5].map (find st'.mem))) =
  (bif decide (Int.ofNat i < Int.ofNat n) then bif decide (Int.ofNat i < (n : Int)) then bif Nat.blt i n then bif Nat.ble m m then bif Nat.ble ((m + 1) * 16) LIM then
    some (.normal, (((((Env.mk 5).set 0 (.mp 0)).set 3 (.slc 5 [] 0 0 2 (m + 1) (m + 1))).set 8 (.slc 2 [] 0 0 1 n n)).set 9 (.int .i64 (Int.ofNat n))).set 10 (.int .i64 (IntKind.i64.wrap (Int.ofNat (i + 1)))),
      [some (.ptab xs), some (.cells [.arr 1 n (nf ks) []] true true), some (.cells [.arr 2 (m + 1) (kf ys) [(m, [.int .i64 (ks.getD i 0), .int .i64 (bytF (ks.getD i 0) xs)])]] true true)])
  else none else none else none else none else some (.exit 0, slots (lLstA n i m) (Env.mk 5), [some (.ptab xs), some (.cells [.arr 1 n (nf ks) []] true true), none])) := by kernel_rfl
theorem evLstEA (xs ys : List (Int × Int)) (ks : List Int) (n m : Nat) : evCode Try.prog KC7 L0 (regB Try.prog) 60 71 (loopOf Try.prog 71 0) (slots (lLstA n n m) (Env.mk 5)) ⟨4, [(0, .ptab xs), (2, .cells [.arr 1 n (nf ks) []] true true), (3, .cells [.arr 2 m (kf ys) []] true true)]⟩
    (fun e E' st' => some (e, keepE E' [0, 3, 8, 9, 10] (Env.mk 5), [(0, Row.ptab xs), (3, Row.cells [.arr 2 m (kf ys) []] true true)].map (fun p => find st'.mem p.1))) =
  (bif decide (Int.ofNat n < Int.ofNat n) then bif decide (Int.ofNat n < (n : Int)) then bif Nat.blt n n then bif Nat.ble m m then bif Nat.ble ((m + 1) * 16) LIM then
    some (.normal, (((((Env.mk 5).set 0 (.mp 0)).set 3 (.slc 5 [] 0 0 2 (m + 1) (m + 1))).set 8 (.slc 2 [] 0 0 1 n n)).set 9 (.int .i64 (Int.ofNat n))).set 10 (.int .i64 (IntKind.i64.wrap (Int.ofNat (n + 1)))), [some (.ptab xs), none])
  else none else none else none else none else some (.exit 0, slots (lLstA n n m) (Env.mk 5), [(0, Row.ptab xs), (3, Row.cells [.arr 2 m (kf ys) []] true true)].map (fun p => some p.2))) := by kernel_rfl
theorem loopLstA (xs : List (Int × Int)) (ks : List Int) (hx : ks.length < 1000000) {nb : Nat} (hnb : nb ≤ 3) (hs : SubOk Try.prog 71 (loopOf Try.prog 71 0)) :
    LoopOk Try.prog nb (szOf Try.prog 71) (loopOf Try.prog 71 0) (slots (lLstA ks.length 0 0) (Env.mk 5)) ⟨4, [(0, .ptab xs), (2, .cells [.arr 1 ks.length (nf ks) []] true true), (3, rOf [])]⟩ (.exit 0) (slots [(3, .slc 3 [] 0 0 2 (pairsF xs ks).length (pairsF xs ks).length)] (Env.mk 5)) ⟨4, [(0, .ptab xs), (3, rOf (pairsF xs ks))]⟩ := by
  have key := loop_fold (P := Try.prog) (nb := nb) (sz := szOf Try.prog 71) (b := loopOf Try.prog 71 0) (stLst xs) ks 0 (fun i s => s.length = i) (fun i s => (slots (lLstA ks.length i s.length) (Env.mk 5), ⟨4, [(0, .ptab xs), (2, .cells [.arr 1 ks.length (nf ks) []] true true), (3, rOf s)]⟩)) (fun s => ⟨.exit 0, slots [(3, .slc 3 [] 0 0 2 s.length s.length)] (Env.mk 5), ⟨4, [(0, .ptab xs), (3, rOf s)]⟩⟩) (fun _ => ⟨.ret, Env.mk 5, ⟨0, []⟩⟩) (fun i ys hI hi => ?_) (fun s _ => ?_) (fun _ h => by cases h) (fun _ h => by cases h) ks 0 [] rfl rfl (Nat.zero_le _)
  · rw [show fork (fun s : List (Int × Int) => Fin3.mk (.exit 0) (slots [(3, .slc 3 [] 0 0 2 s.length s.length)] (Env.mk 5)) ⟨4, [(0, .ptab xs), (3, rOf s)]⟩) (fun _ => Fin3.mk .ret (Env.mk 5) ⟨0, []⟩) (foldX (stLst xs) [] ks) = Fin3.mk (.exit 0) (slots [(3, .slc 3 [] 0 0 2 (pairsF xs ks).length (pairsF xs ks).length)] (Env.mk 5)) ⟨4, [(0, .ptab xs), (3, rOf (pairsF xs ks))]⟩ from (stLst_fold xs (fun s : List (Int × Int) => Fin3.mk (.exit 0) (slots [(3, .slc 3 [] 0 0 2 s.length s.length)] (Env.mk 5)) ⟨4, [(0, .ptab xs), (3, rOf s)]⟩) _ ks []).trans (by rw [List.nil_append])] at key
    exact key
  · have hw := wrapNat (show i < 9223372036854775807 by omega)
    have hbl : Nat.ble ys.length ys.length = true := by simp
    have hlt : Nat.blt i ks.length = true := by simp [hi]
    have hlim : Nat.ble ((ys.length + 1) * 16) LIM = true := by unfold LIM; simp; omega
    have hev := evLstA xs ys ks ks.length i ys.length
    simp only [dec_lt hi, dec_lt' hi, cond_true, hw, hbl, hlt, hlim] at hev
    have hlen : (ys ++ [(ks.getD i 0, bytF (ks.getD i 0) xs)]).length = ys.length + 1 := by simp
    refine ⟨by rw [hlen]; omega, ?_⟩
    dsimp only
    rw [hlen]
    refine code_pull sprog_ok.1 sprog_ok.2 KC7_ok l0_ok (fuel := 60) (ts := [0, 3, 8, 9, 10]) (ms := [(0, .ptab xs), (2, .cells [.arr 1 ks.length (nf ks) []] true true), (3, rOf (ys ++ [(ks.getD i 0, bytF (ks.getD i 0) xs)]))])
      (fun x => bif Nat.beq x 3 then 5 else x) (fun x => bif Nat.beq x 0 then .ptab xs else bif Nat.beq x 2 then .cells [.arr 1 ks.length (nf ks) []] true true else .cells [.arr 2 (ys.length + 1) (kf ys) [(ys.length, [.int .i64 (ks.getD i 0), .int .i64 (bytF (ks.getD i 0) xs)])]] true true) hs (by dsimp only; omega) (by omega) (fun x hx => by rw [beq_false (show x ≠ 3 by omega)]; rfl) (fun p hp κ y hy => ?_) (fun p hp => ?_) (fun p hp p' hp' h => ?_) hev
    · obtain ⟨g0, g3, g8, g9, g10⟩ := gLstRA ks.length (ys.length + 1) 5 (Int.ofNat (i + 1))
      simp only [lLstA, List.mem_cons, List.not_mem_nil, or_false] at hp
      rcases hp with rfl | rfl | rfl | rfl | rfl
      · dsimp only at hy; rw [g0] at hy; exact VRel.pull_mp rfl (by omega) hy
      · dsimp only at hy; rw [g3] at hy; exact VRel.pull_slc rfl (by omega) hy
      · dsimp only at hy; rw [g8] at hy; exact VRel.pull_slc rfl (by omega) hy
      · dsimp only at hy; rw [g9] at hy; exact VRel.pull rfl hy
      · dsimp only at hy; rw [g10] at hy; exact VRel.pull rfl hy
    · simp only [List.mem_cons, List.not_mem_nil, or_false] at hp
      rcases hp with rfl | rfl | rfl
      · exact ⟨RowLe.ptab (by omega), fun _ => rfl⟩
      · exact ⟨RowLe.plain (by omega) rfl, fun _ => rfl⟩
      · unfold rOf
        rw [hlen]
        exact ⟨RowLe.arr (by omega) id (kf_snoc ys _), fun _ => rfl⟩
    · simp only [List.mem_cons, List.not_mem_nil, or_false] at hp hp'
      rcases hp with rfl | rfl | rfl <;> rcases hp' with rfl | rfl | rfl <;> first | rfl | (dsimp only at h; exact absurd h (by decide))
  · have hev := evLstEA xs s ks ks.length s.length
    simp only [dec_nlt, cond_false] at hev
    exact (code_rows sprog_ok.1 sprog_ok.2 KC7_ok l0_ok (fuel := 60) (ts := [0, 3, 8, 9, 10]) (ms := [(0, .ptab xs), (3, rOf s)]) hs (by dsimp only; omega) (by omega) rfl rfl hev).less (less_slots fun p hp => by rw [List.mem_singleton.1 hp]; exact gLstA _ _ _)
theorem gEntA (n : Nat) : let E := slots [(0, .mp 0), (3, .raw (.slice none 0 0)), (8, .slc 2 [] 0 0 1 n n), (9, .int .i64 (Int.ofNat n)), (10, .int .i64 0)] (Env.mk 5); E.get 0 = .mp 0 ∧ E.get 3 = .raw (.slice none 0 0) ∧ E.get 8 = .slc 2 [] 0 0 1 n n ∧ E.get 9 = .int .i64 (Int.ofNat n) ∧ E.get 10 = .int .i64 0 := ⟨by kernel_rfl, by kernel_rfl, by kernel_rfl, by kernel_rfl, by kernel_rfl⟩
def fLoopLstA (R : Type) (E : Env) (st : AS) : Option ((EK → Env → AS → Option R) → Option R) :=
  match E.get 0, E.get 3, E.get 8, E.get 9, E.get 10 with
  | .mp 0, .raw (.slice none 0 0), .slc 2 [] 0 0 1 n n1, .int .i64 m, .int .i64 i => match st.mem with
    | [(0, .ptab xs), (1, _), (2, .cells [.arr 1 n2 g us] true true)] => some fun k => bif Nat.beq st.next 3 && decide (m = Int.ofNat n) && decide (i = 0) && Nat.blt n 1000000 && okN g n us && (decide (n = n1) && decide (n = n2)) then
        k .normal (slots [(3, .slc 3 [] 0 0 2 (pairsF xs (nl g n us)).length (pairsF xs (nl g n us)).length)] (Env.mk 5)) ⟨4, [(0, .ptab xs), (3, rOf (pairsF xs (nl g n us)))]⟩ else none
    | _ => none
  | _, _, _, _, _ => none
theorem okLoopLstA : LoopFn Try.prog 71 0 fLoopLstA := fun R E st G h hs nb hnb k r hk => by
  unfold fLoopLstA at h
  split at h
  · rename_i n n1 m i g0 g3 g8 g9 g10
    split at h
    · rename_i xs r1 n2 g us hm
      simp only [Option.some.injEq] at h
      subst h
      obtain ⟨hc, hk1⟩ := cond_some hk
      clear hk
      simp only [Bool.and_eq_true, decide_eq_true_eq] at hc
      obtain ⟨⟨⟨⟨⟨c1, c2⟩, c3⟩, c4⟩, c5⟩, c6, c7⟩ := hc
      have d1 := Nat.eq_of_beq_eq_true c1
      have d4 : n < 1000000 := by simpa using c4
      clear c1
      obtain ⟨next, mem⟩ := st
      dsimp only at hm d1
      subst hm; subst d1; subst c2; subst c3; subst c6; subst c7
      have hl := loopLstA xs (nl g n us) (by rw [nl_length]; exact d4) hnb hs
      have hw1 : Weak nb (szOf Try.prog 71) E ⟨3, [(0, .ptab xs), (1, r1), (2, .cells [.arr 1 n g us] true true)]⟩ (slots [(0, .mp 0), (3, .raw (.slice none 0 0)), (8, .slc 2 [] 0 0 1 n n), (9, .int .i64 (Int.ofNat n)), (10, .int .i64 0)] (Env.mk 5)) ⟨3, [(0, .ptab xs), (2, .cells [.arr 1 n (nf (nl g n us)) []] true true)]⟩ := weak_pull id (fun _ _ => rfl) hnb (fun p hp κ y hy => by
        simp only [List.mem_cons, List.not_mem_nil, or_false] at hp
        rcases hp with rfl | rfl | rfl | rfl | rfl
        · dsimp only at hy; rw [g0] at hy; exact VRel.pull_mp rfl (by dsimp only; omega) hy
        · dsimp only at hy; rw [g3] at hy; exact VRel.pull rfl hy
        · dsimp only at hy; rw [g8] at hy; exact VRel.pull_slc rfl (by dsimp only; omega) hy
        · dsimp only at hy; rw [g9] at hy; exact VRel.pull rfl hy
        · dsimp only at hy; rw [g10] at hy; exact VRel.pull rfl hy) (fun m r2 hf => by
        have hp := find_mem _ _ _ hf
        simp only [List.mem_cons, List.not_mem_nil, or_false, Prod.mk.injEq] at hp
        rcases hp with ⟨rfl, rfl⟩ | ⟨rfl, rfl⟩
        · exact ⟨_, rfl, RowLe.ptab (by dsimp only; omega), fun _ => rfl⟩
        · exact ⟨_, rfl, RowLe.arr (by dsimp only; omega) id (fun i hi => nf_nl c5 hi), fun _ => rfl⟩) (fun _ _ _ _ _ _ h => h)
      have hg : ∀ (n : Nat), let E := slots [(0, .mp 0), (3, .raw (.slice none 0 0)), (8, .slc 2 [] 0 0 1 n n), (9, .int .i64 (Int.ofNat n)), (10, .int .i64 0)] (Env.mk 5); E.get 0 = .mp 0 ∧ E.get 3 = .raw (.slice none 0 0) ∧ E.get 8 = .slc 2 [] 0 0 1 n n ∧ E.get 9 = .int .i64 (Int.ofNat n) ∧ E.get 10 = .int .i64 0 := gEntA
      obtain ⟨e0, e3, e8, e9, e10⟩ := hg n
      have hw2 : Weak nb (szOf Try.prog 71) (slots [(0, .mp 0), (3, .raw (.slice none 0 0)), (8, .slc 2 [] 0 0 1 n n), (9, .int .i64 (Int.ofNat n)), (10, .int .i64 0)] (Env.mk 5)) ⟨3, [(0, .ptab xs), (2, .cells [.arr 1 n (nf (nl g n us)) []] true true)]⟩ (slots (lLstA n 0 0) (Env.mk 5)) ⟨4, [(3, .cells [.arr 2 0 (kf []) []] true true), (0, .ptab xs), (2, .cells [.arr 1 n (nf (nl g n us)) []] true true)]⟩ := weak_nil2 (t := 3) (w := 2) hnb (fun p hp hne => by
        simp only [lLstA, List.mem_cons, List.not_mem_nil, or_false] at hp
        rcases hp with rfl | rfl | rfl | rfl | rfl
        · exact e0
        · exact absurd rfl hne
        · exact e8
        · exact e9
        · exact e10) e3 (fun p hp e => by
        simp only [lLstA, List.mem_cons, List.not_mem_nil, or_false] at hp
        rcases hp with rfl | rfl | rfl | rfl | rfl <;> first | rfl | (cases e))
      have hw3 : Weak nb (szOf Try.prog 71) (slots (lLstA n 0 0) (Env.mk 5)) ⟨4, [(3, .cells [.arr 2 0 (kf []) []] true true), (0, .ptab xs), (2, .cells [.arr 1 n (nf (nl g n us)) []] true true)]⟩ (slots (lLstA n 0 0) (Env.mk 5)) ⟨4, [(0, .ptab xs), (2, .cells [.arr 1 n (nf (nl g n us)) []] true true), (3, rOf [])]⟩ := fun κ a w hA hR => by
        have he : find [(3, Row.cells [.arr 2 0 (kf []) []] true true), (0, .ptab xs), (2, .cells [.arr 1 n (nf (nl g n us)) []] true true)] = find [(0, .ptab xs), (2, .cells [.arr 1 n (nf (nl g n us)) []] true true), (3, rOf [])] := funext fun x => by
          simp only [find]
          by_cases x1 : 3 = x
          · subst x1; rfl
          · rw [beq_false x1]; simp only [cond_false]
        have hm2 := hR.mem
        refine ⟨κ, Kap.leN_refl _ _, hA, ⟨hR.fresh, by dsimp only at hm2 ⊢; rw [← he]; exact hm2⟩, ?_⟩
        dsimp only
        rw [← he]
        exact Fr.refl _ _ _
      rw [nl_length] at hl
      exact ⟨.exit 0, _, _, hk1, by dsimp only; omega, hl.weak (hw1.trans (hw2.trans hw3))⟩
    · cases h
  · cases h

/-! ### book.list: the loop (B) -/
def lLstB (n i m : Nat) : List (Nat × AV) := [(0, .mp 0), (3, .slc 4 [] 0 0 2 m m), (8, .slc 3 [] 0 0 1 n n), (9, .int .i64 (Int.ofNat n)), (10, .int .i64 (Int.ofNat i))]
theorem gLstB (n i m : Nat) : (slots (lLstB n i m) (Env.mk 5)).get 3 = .slc 4 [] 0 0 2 m m := by kernel_rfl
theorem gLstRB (n m q : Nat) (v : Int) : let E := (((((Env.mk 5).set 0 (.mp 0)).set 3 (.slc q [] 0 0 2 m m)).set 8 (.slc 3 [] 0 0 1 n n)).set 9 (.int .i64 (Int.ofNat n))).set 10 (.int .i64 v)
    E.get 0 = .mp 0 ∧ E.get 3 = .slc q [] 0 0 2 m m ∧ E.get 8 = .slc 3 [] 0 0 1 n n ∧ E.get 9 = .int .i64 (Int.ofNat n) ∧ E.get 10 = .int .i64 v := ⟨by kernel_rfl, by kernel_rfl, by kernel_rfl, by kernel_rfl, by kernel_rfl⟩
theorem evLstB (xs ys : List (Int × Int)) (ks : List Int) (n i m : Nat) : evCode Try.prog KC7 L0 (regB Try.prog) 60 71 (loopOf Try.prog 71 0) (slots (lLstB n i m) (Env.mk 5)) ⟨5, [(0, .ptab xs), (3, .cells [.arr 1 n (nf ks) []] true true), (4, .cells [.arr 2 m (kf ys) []] true true)]⟩
    (fun e E' st' => some (e, keepE E' [0, 3, 8, 9, 10] (Env.mk 5), [0, 3, 6].map (find st'.mem))) =
  (bif decide (Int.ofNat i < Int.ofNat n) then bif decide (Int.ofNat i < (n : Int)) then bif Nat.blt i n then bif Nat.ble m m then bif Nat.ble ((m + 1) * 16) LIM then
    some (.normal, (((((Env.mk 5).set 0 (.mp 0)).set 3 (.slc 6 [] 0 0 2 (m + 1) (m + 1))).set 8 (.slc 3 [] 0 0 1 n n)).set 9 (.int .i64 (Int.ofNat n))).set 10 (.int .i64 (IntKind.i64.wrap (Int.ofNat (i + 1)))),
      [some (.ptab xs), some (.cells [.arr 1 n (nf ks) []] true true), some (.cells [.arr 2 (m + 1) (kf ys) [(m, [.int .i64 (ks.getD i 0), .int .i64 (bytF (ks.getD i 0) xs)])]] true true)])
  else none else none else none else none else some (.exit 0, slots (lLstB n i m) (Env.mk 5), [some (.ptab xs), some (.cells [.arr 1 n (nf ks) []] true true), none])) := by kernel_rfl
theorem evLstEB (xs ys : List (Int × Int)) (ks : List Int) (n m : Nat) : evCode Try.prog KC7 L0 (regB Try.prog) 60 71 (loopOf Try.prog 71 0) (slots (lLstB n n m) (Env.mk 5)) ⟨5, [(0, .ptab xs), (3, .cells [.arr 1 n (nf ks) []] true true), (4, .cells [.arr 2 m (kf ys) []] true true)]⟩
    (fun e E' st' => some (e, keepE E' [0, 3, 8, 9, 10] (Env.mk 5), [(0, Row.ptab xs), (4, Row.cells [.arr 2 m (kf ys) []] true true)].map (fun p => find st'.mem p.1))) =
  (bif decide (Int.ofNat n < Int.ofNat n) then bif decide (Int.ofNat n < (n : Int)) then bif Nat.blt n n then bif Nat.ble m m then bif Nat.ble ((m + 1) * 16) LIM then
    some (.normal, (((((Env.mk 5).set 0 (.mp 0)).set 3 (.slc 6 [] 0 0 2 (m + 1) (m + 1))).set 8 (.slc 3 [] 0 0 1 n n)).set 9 (.int .i64 (Int.ofNat n))).set 10 (.int .i64 (IntKind.i64.wrap (Int.ofNat (n + 1)))), [some (.ptab xs), none])
  else none else none else none else none else some (.exit 0, slots (lLstB n n m) (Env.mk 5), [(0, Row.ptab xs), (4, Row.cells [.arr 2 m (kf ys) []] true true)].map (fun p => some p.2))) := by kernel_rfl
theorem loopLstB (xs : List (Int × Int)) (ks : List Int) (hx : ks.length < 1000000) {nb : Nat} (hnb : nb ≤ 4) (hs : SubOk Try.prog 71 (loopOf Try.prog 71 0)) :
    LoopOk Try.prog nb (szOf Try.prog 71) (loopOf Try.prog 71 0) (slots (lLstB ks.length 0 0) (Env.mk 5)) ⟨5, [(0, .ptab xs), (3, .cells [.arr 1 ks.length (nf ks) []] true true), (4, rOf [])]⟩ (.exit 0) (slots [(3, .slc 4 [] 0 0 2 (pairsF xs ks).length (pairsF xs ks).length)] (Env.mk 5)) ⟨5, [(0, .ptab xs), (4, rOf (pairsF xs ks))]⟩ := by
  have key := loop_fold (P := Try.prog) (nb := nb) (sz := szOf Try.prog 71) (b := loopOf Try.prog 71 0) (stLst xs) ks 0 (fun i s => s.length = i) (fun i s => (slots (lLstB ks.length i s.length) (Env.mk 5), ⟨5, [(0, .ptab xs), (3, .cells [.arr 1 ks.length (nf ks) []] true true), (4, rOf s)]⟩)) (fun s => ⟨.exit 0, slots [(3, .slc 4 [] 0 0 2 s.length s.length)] (Env.mk 5), ⟨5, [(0, .ptab xs), (4, rOf s)]⟩⟩) (fun _ => ⟨.ret, Env.mk 5, ⟨0, []⟩⟩) (fun i ys hI hi => ?_) (fun s _ => ?_) (fun _ h => by cases h) (fun _ h => by cases h) ks 0 [] rfl rfl (Nat.zero_le _)
  · rw [show fork (fun s : List (Int × Int) => Fin3.mk (.exit 0) (slots [(3, .slc 4 [] 0 0 2 s.length s.length)] (Env.mk 5)) ⟨5, [(0, .ptab xs), (4, rOf s)]⟩) (fun _ => Fin3.mk .ret (Env.mk 5) ⟨0, []⟩) (foldX (stLst xs) [] ks) = Fin3.mk (.exit 0) (slots [(3, .slc 4 [] 0 0 2 (pairsF xs ks).length (pairsF xs ks).length)] (Env.mk 5)) ⟨5, [(0, .ptab xs), (4, rOf (pairsF xs ks))]⟩ from (stLst_fold xs (fun s : List (Int × Int) => Fin3.mk (.exit 0) (slots [(3, .slc 4 [] 0 0 2 s.length s.length)] (Env.mk 5)) ⟨5, [(0, .ptab xs), (4, rOf s)]⟩) _ ks []).trans (by rw [List.nil_append])] at key
    exact key
  · have hw := wrapNat (show i < 9223372036854775807 by omega)
    have hbl : Nat.ble ys.length ys.length = true := by simp
    have hlt : Nat.blt i ks.length = true := by simp [hi]
    have hlim : Nat.ble ((ys.length + 1) * 16) LIM = true := by unfold LIM; simp; omega
    have hev := evLstB xs ys ks ks.length i ys.length
    simp only [dec_lt hi, dec_lt' hi, cond_true, hw, hbl, hlt, hlim] at hev
    have hlen : (ys ++ [(ks.getD i 0, bytF (ks.getD i 0) xs)]).length = ys.length + 1 := by simp
    refine ⟨by rw [hlen]; omega, ?_⟩
    dsimp only
    rw [hlen]
    refine code_pull sprog_ok.1 sprog_ok.2 KC7_ok l0_ok (fuel := 60) (ts := [0, 3, 8, 9, 10]) (ms := [(0, .ptab xs), (3, .cells [.arr 1 ks.length (nf ks) []] true true), (4, rOf (ys ++ [(ks.getD i 0, bytF (ks.getD i 0) xs)]))])
      (fun x => bif Nat.beq x 4 then 6 else x) (fun x => bif Nat.beq x 0 then .ptab xs else bif Nat.beq x 3 then .cells [.arr 1 ks.length (nf ks) []] true true else .cells [.arr 2 (ys.length + 1) (kf ys) [(ys.length, [.int .i64 (ks.getD i 0), .int .i64 (bytF (ks.getD i 0) xs)])]] true true) hs (by dsimp only; omega) (by omega) (fun x hx => by rw [beq_false (show x ≠ 4 by omega)]; rfl) (fun p hp κ y hy => ?_) (fun p hp => ?_) (fun p hp p' hp' h => ?_) hev
    · obtain ⟨g0, g3, g8, g9, g10⟩ := gLstRB ks.length (ys.length + 1) 6 (Int.ofNat (i + 1))
      simp only [lLstB, List.mem_cons, List.not_mem_nil, or_false] at hp
      rcases hp with rfl | rfl | rfl | rfl | rfl
      · dsimp only at hy; rw [g0] at hy; exact VRel.pull_mp rfl (by omega) hy
      · dsimp only at hy; rw [g3] at hy; exact VRel.pull_slc rfl (by omega) hy
      · dsimp only at hy; rw [g8] at hy; exact VRel.pull_slc rfl (by omega) hy
      · dsimp only at hy; rw [g9] at hy; exact VRel.pull rfl hy
      · dsimp only at hy; rw [g10] at hy; exact VRel.pull rfl hy
    · simp only [List.mem_cons, List.not_mem_nil, or_false] at hp
      rcases hp with rfl | rfl | rfl
      · exact ⟨RowLe.ptab (by omega), fun _ => rfl⟩
      · exact ⟨RowLe.plain (by omega) rfl, fun _ => rfl⟩
      · unfold rOf
        rw [hlen]
        exact ⟨RowLe.arr (by omega) id (kf_snoc ys _), fun _ => rfl⟩
    · simp only [List.mem_cons, List.not_mem_nil, or_false] at hp hp'
      rcases hp with rfl | rfl | rfl <;> rcases hp' with rfl | rfl | rfl <;> first | rfl | (dsimp only at h; exact absurd h (by decide))
  · have hev := evLstEB xs s ks ks.length s.length
    simp only [dec_nlt, cond_false] at hev
    exact (code_rows sprog_ok.1 sprog_ok.2 KC7_ok l0_ok (fuel := 60) (ts := [0, 3, 8, 9, 10]) (ms := [(0, .ptab xs), (4, rOf s)]) hs (by dsimp only; omega) (by omega) rfl rfl hev).less (less_slots fun p hp => by rw [List.mem_singleton.1 hp]; exact gLstB _ _ _)
theorem gEntB (n : Nat) : let E := slots [(0, .mp 0), (3, .raw (.slice none 0 0)), (8, .slc 3 [] 0 0 1 n n), (9, .int .i64 (Int.ofNat n)), (10, .int .i64 0)] (Env.mk 5); E.get 0 = .mp 0 ∧ E.get 3 = .raw (.slice none 0 0) ∧ E.get 8 = .slc 3 [] 0 0 1 n n ∧ E.get 9 = .int .i64 (Int.ofNat n) ∧ E.get 10 = .int .i64 0 := ⟨by kernel_rfl, by kernel_rfl, by kernel_rfl, by kernel_rfl, by kernel_rfl⟩
def fLoopLstB (R : Type) (E : Env) (st : AS) : Option ((EK → Env → AS → Option R) → Option R) :=
  match E.get 0, E.get 3, E.get 8, E.get 9, E.get 10 with
  | .mp 0, .raw (.slice none 0 0), .slc 3 [] 0 0 1 n n1, .int .i64 m, .int .i64 i => match st.mem with
    | [(0, .ptab xs), (1, _), (2, _), (3, .cells [.arr 1 n2 g us] true true)] => some fun k => bif Nat.beq st.next 4 && decide (m = Int.ofNat n) && decide (i = 0) && Nat.blt n 1000000 && okN g n us && (decide (n = n1) && decide (n = n2)) then
        k .normal (slots [(3, .slc 4 [] 0 0 2 (pairsF xs (nl g n us)).length (pairsF xs (nl g n us)).length)] (Env.mk 5)) ⟨5, [(0, .ptab xs), (4, rOf (pairsF xs (nl g n us)))]⟩ else none
    | _ => none
  | _, _, _, _, _ => none
theorem okLoopLstB : LoopFn Try.prog 71 0 fLoopLstB := fun R E st G h hs nb hnb k r hk => by
  unfold fLoopLstB at h
  split at h
  · rename_i n n1 m i g0 g3 g8 g9 g10
    split at h
    · rename_i xs r0 r1 n2 g us hm
      simp only [Option.some.injEq] at h
      subst h
      obtain ⟨hc, hk1⟩ := cond_some hk
      clear hk
      simp only [Bool.and_eq_true, decide_eq_true_eq] at hc
      obtain ⟨⟨⟨⟨⟨c1, c2⟩, c3⟩, c4⟩, c5⟩, c6, c7⟩ := hc
      have d1 := Nat.eq_of_beq_eq_true c1
      have d4 : n < 1000000 := by simpa using c4
      clear c1
      obtain ⟨next, mem⟩ := st
      dsimp only at hm d1
      subst hm; subst d1; subst c2; subst c3; subst c6; subst c7
      have hl := loopLstB xs (nl g n us) (by rw [nl_length]; exact d4) hnb hs
      have hw1 : Weak nb (szOf Try.prog 71) E ⟨4, [(0, .ptab xs), (1, r0), (2, r1), (3, .cells [.arr 1 n g us] true true)]⟩ (slots [(0, .mp 0), (3, .raw (.slice none 0 0)), (8, .slc 3 [] 0 0 1 n n), (9, .int .i64 (Int.ofNat n)), (10, .int .i64 0)] (Env.mk 5)) ⟨4, [(0, .ptab xs), (3, .cells [.arr 1 n (nf (nl g n us)) []] true true)]⟩ := weak_pull id (fun _ _ => rfl) hnb (fun p hp κ y hy => by
        simp only [List.mem_cons, List.not_mem_nil, or_false] at hp
        rcases hp with rfl | rfl | rfl | rfl | rfl
        · dsimp only at hy; rw [g0] at hy; exact VRel.pull_mp rfl (by dsimp only; omega) hy
        · dsimp only at hy; rw [g3] at hy; exact VRel.pull rfl hy
        · dsimp only at hy; rw [g8] at hy; exact VRel.pull_slc rfl (by dsimp only; omega) hy
        · dsimp only at hy; rw [g9] at hy; exact VRel.pull rfl hy
        · dsimp only at hy; rw [g10] at hy; exact VRel.pull rfl hy) (fun m r2 hf => by
        have hp := find_mem _ _ _ hf
        simp only [List.mem_cons, List.not_mem_nil, or_false, Prod.mk.injEq] at hp
        rcases hp with ⟨rfl, rfl⟩ | ⟨rfl, rfl⟩
        · exact ⟨_, rfl, RowLe.ptab (by dsimp only; omega), fun _ => rfl⟩
        · exact ⟨_, rfl, RowLe.arr (by dsimp only; omega) id (fun i hi => nf_nl c5 hi), fun _ => rfl⟩) (fun _ _ _ _ _ _ h => h)
      have hg : ∀ (n : Nat), let E := slots [(0, .mp 0), (3, .raw (.slice none 0 0)), (8, .slc 3 [] 0 0 1 n n), (9, .int .i64 (Int.ofNat n)), (10, .int .i64 0)] (Env.mk 5); E.get 0 = .mp 0 ∧ E.get 3 = .raw (.slice none 0 0) ∧ E.get 8 = .slc 3 [] 0 0 1 n n ∧ E.get 9 = .int .i64 (Int.ofNat n) ∧ E.get 10 = .int .i64 0 := gEntB
      obtain ⟨e0, e3, e8, e9, e10⟩ := hg n
      have hw2 : Weak nb (szOf Try.prog 71) (slots [(0, .mp 0), (3, .raw (.slice none 0 0)), (8, .slc 3 [] 0 0 1 n n), (9, .int .i64 (Int.ofNat n)), (10, .int .i64 0)] (Env.mk 5)) ⟨4, [(0, .ptab xs), (3, .cells [.arr 1 n (nf (nl g n us)) []] true true)]⟩ (slots (lLstB n 0 0) (Env.mk 5)) ⟨5, [(4, .cells [.arr 2 0 (kf []) []] true true), (0, .ptab xs), (3, .cells [.arr 1 n (nf (nl g n us)) []] true true)]⟩ := weak_nil2 (t := 3) (w := 2) hnb (fun p hp hne => by
        simp only [lLstB, List.mem_cons, List.not_mem_nil, or_false] at hp
        rcases hp with rfl | rfl | rfl | rfl | rfl
        · exact e0
        · exact absurd rfl hne
        · exact e8
        · exact e9
        · exact e10) e3 (fun p hp e => by
        simp only [lLstB, List.mem_cons, List.not_mem_nil, or_false] at hp
        rcases hp with rfl | rfl | rfl | rfl | rfl <;> first | rfl | (cases e))
      have hw3 : Weak nb (szOf Try.prog 71) (slots (lLstB n 0 0) (Env.mk 5)) ⟨5, [(4, .cells [.arr 2 0 (kf []) []] true true), (0, .ptab xs), (3, .cells [.arr 1 n (nf (nl g n us)) []] true true)]⟩ (slots (lLstB n 0 0) (Env.mk 5)) ⟨5, [(0, .ptab xs), (3, .cells [.arr 1 n (nf (nl g n us)) []] true true), (4, rOf [])]⟩ := fun κ a w hA hR => by
        have he : find [(4, Row.cells [.arr 2 0 (kf []) []] true true), (0, .ptab xs), (3, .cells [.arr 1 n (nf (nl g n us)) []] true true)] = find [(0, .ptab xs), (3, .cells [.arr 1 n (nf (nl g n us)) []] true true), (4, rOf [])] := funext fun x => by
          simp only [find]
          by_cases x1 : 4 = x
          · subst x1; rfl
          · rw [beq_false x1]; simp only [cond_false]
        have hm2 := hR.mem
        refine ⟨κ, Kap.leN_refl _ _, hA, ⟨hR.fresh, by dsimp only at hm2 ⊢; rw [← he]; exact hm2⟩, ?_⟩
        dsimp only
        rw [← he]
        exact Fr.refl _ _ _
      rw [nl_length] at hl
      exact ⟨.exit 0, _, _, hk1, by dsimp only; omega, hl.weak (hw1.trans (hw2.trans hw3))⟩
    · cases h
  · cases h
end Go.Sv
namespace Go.Sv
open Go.RowKit Go.Proofs

def fLoopLst (R : Type) (E : Env) (st : AS) : Option ((EK → Env → AS → Option R) → Option R) :=
  match fLoopLstA R E st with
  | some G => some G
  | none => fLoopLstB R E st
theorem okLoopLst : LoopFn Try.prog 71 0 fLoopLst := fun R E st G h => by
  unfold fLoopLst at h
  split at h
  · rename_i G' hG
    simp only [Option.some.injEq] at h
    subst h
    exact okLoopLstA R E st _ hG
  · exact okLoopLstB R E st G h
def hasC9 : FuncId → Bool := addHas 70 hasC7
def specC9 : SpecT := addS 70 fOpn specC7
theorem specC9_ok : SpecOk Try.prog hasC9 specC9 := addS_ok okOpn specC7_ok
def KC9 : KT := orK (specK hasC9 specC9) KA
theorem KC9_ok : KOk Try.prog KC9 := orK_ok (specK_ok specC9_ok) KA_ok
def LC9 : LT := addL 71 0 fLoopLst L0
theorem LC9_ok : LOk Try.prog LC9 := addL_ok sprog_ok.1 (by kernel_rfl) okLoopLst l0_ok
end Go.Sv
namespace Go.Sv
open Go.RowKit Go.Proofs

/-- The one form of what a table says. -/
def canF (g : Int → Int) : List (Int × Int) := ofF 0 ((List.range 257).map fun j => g (Int.ofNat j))
theorem ofF_mem : ∀ (xs : List Int) (i : Nat) (p : Int × Int), p ∈ ofF i xs ↔ ∃ j, j < xs.length ∧ p.1 = Int.ofNat (i + j) ∧ p.2 = xs.getD j 0 ∧ p.2 > 0
  | [], i, p => by simp [ofF]
  | x :: r, i, p => by
    have ih := ofF_mem r (i + 1) p
    have hr : (∃ j, j < (x :: r).length ∧ p.1 = Int.ofNat (i + j) ∧ p.2 = (x :: r).getD j 0 ∧ p.2 > 0) ↔ ((p.1 = Int.ofNat i ∧ p.2 = x ∧ p.2 > 0) ∨ ∃ j, j < r.length ∧ p.1 = Int.ofNat (i + 1 + j) ∧ p.2 = r.getD j 0 ∧ p.2 > 0) := by
      constructor
      · rintro ⟨j, h1, h2, h3, h4⟩
        cases j with
        | zero => exact .inl ⟨by simpa using h2, by simpa using h3, h4⟩
        | succ j => exact .inr ⟨j, by simpa using h1, by rw [h2]; congr 1; omega, by simpa using h3, h4⟩
      · rintro (⟨h1, h2, h3⟩ | ⟨j, h1, h2, h3, h4⟩)
        · exact ⟨0, by simp, by simpa using h1, by simpa using h2, h3⟩
        · exact ⟨j + 1, by simpa using h1, by rw [h2]; congr 1; omega, by simpa using h3, h4⟩
    rw [hr, ← ih]
    simp only [ofF]
    cases hc : decide (x > 0) with
    | true =>
      have hx := of_decide_eq_true hc
      simp only [cond_true, List.mem_cons]
      constructor
      · rintro (h | h)
        · subst h; exact .inl ⟨rfl, rfl, hx⟩
        · exact .inr h
      · rintro (⟨h1, h2, _⟩ | h)
        · exact .inl (Prod.ext h1 h2)
        · exact .inr h
    | false =>
      have hx := of_decide_eq_false hc
      simp only [cond_false]
      constructor
      · exact .inr
      · rintro (⟨_, h2, h3⟩ | h)
        · exact absurd (h2 ▸ h3) hx
        · exact h
theorem ofF_sorted : ∀ (xs : List Int) (i : Nat), (ofF i xs).Pairwise fun a b => a.1 < b.1
  | [], i => .nil
  | x :: r, i => by
    simp only [ofF]
    cases decide (x > 0) with
    | true =>
      refine List.pairwise_cons.2 ⟨fun p hp => ?_, ofF_sorted r (i + 1)⟩
      obtain ⟨j, _, h2, _⟩ := (ofF_mem r (i + 1) p).1 hp
      rw [h2]; simp; omega
    | false => exact ofF_sorted r (i + 1)
theorem canF_mem {g : Int → Int} {p : Int × Int} : p ∈ canF g ↔ idB p.1 = true ∧ p.2 = g p.1 ∧ p.2 > 0 := by
  unfold canF
  rw [ofF_mem]
  simp only [List.length_map, List.length_range, Nat.zero_add, idB, Bool.and_eq_true, decide_eq_true_eq]
  constructor
  · rintro ⟨j, h1, h2, h3, h4⟩
    have e : ((List.range 257).map fun j => g (Int.ofNat j)).getD j 0 = g (Int.ofNat j) := by
      rw [List.getD_eq_getElem?_getD, List.getElem?_eq_getElem (by simpa using h1)]
      simp
    rw [e, ← h2] at h3
    refine ⟨?_, h3, h4⟩
    rw [h2]; simp; omega
  · rintro ⟨⟨h1, h2⟩, h3, h4⟩
    have hj : p.1 = Int.ofNat p.1.toNat := by simp; omega
    refine ⟨p.1.toNat, by omega, hj, ?_, h4⟩
    rw [List.getD_eq_getElem?_getD, List.getElem?_eq_getElem (by simp; omega)]
    simp only [List.getElem_map, List.getElem_range, Option.getD_some]
    rw [← hj]; exact h3
theorem sorted_eq : ∀ {a b : List (Int × Int)}, a.Pairwise (fun x y => x.1 < y.1) → b.Pairwise (fun x y => x.1 < y.1) → (∀ p, p ∈ a ↔ p ∈ b) → a = b
  | [], [], _, _, _ => rfl
  | [], y :: b, _, _, h => absurd ((h y).2 (List.mem_cons_self ..)) (by simp)
  | x :: a, [], _, _, h => absurd ((h x).1 (List.mem_cons_self ..)) (by simp)
  | x :: a, y :: b, ha, hb, h => by
    have ha' := List.pairwise_cons.1 ha
    have hb' := List.pairwise_cons.1 hb
    have hxy : x = y := by
      rcases List.mem_cons.1 ((h x).1 (List.mem_cons_self ..)) with e | e
      · exact e
      · rcases List.mem_cons.1 ((h y).2 (List.mem_cons_self ..)) with e' | e'
        · exact e'.symm
        · have h1 := hb'.1 x e
          have h2 := ha'.1 y e'
          omega
    subst hxy
    congr 1
    refine sorted_eq ha'.2 hb'.2 fun p => ⟨fun hp => ?_, fun hp => ?_⟩
    · rcases List.mem_cons.1 ((h p).1 (List.mem_cons_of_mem _ hp)) with e | e
      · subst e; exact absurd (ha'.1 p hp) (by omega)
      · exact e
    · rcases List.mem_cons.1 ((h p).2 (List.mem_cons_of_mem _ hp)) with e | e
      · subst e; exact absurd (hb'.1 p hp) (by omega)
      · exact e

/-- A book: each number once, numbers that may be, bytes there are. -/
structure Book (xs : List (Int × Int)) : Prop where
  nodup : (xs.map (·.1)).Nodup
  ok : ∀ x ∈ xs, idB x.1 = true ∧ x.2 > 0
theorem bytF_mem {xs : List (Int × Int)} {k : Int} (h : k ∈ xs.map (·.1)) : (k, bytF k xs) ∈ xs := by
  induction xs with
  | nil => cases h
  | cons x r ih =>
    simp only [bytF]
    cases hb : (x.1 == k) with
    | true =>
      have : x.1 = k := by simpa using hb
      subst this
      exact List.mem_cons_self ..
    | false =>
      have hne : x.1 ≠ k := by simpa using hb
      simp only [List.map_cons, List.mem_cons] at h
      rcases h with h | h
      · exact absurd h.symm hne
      · exact List.mem_cons_of_mem _ (ih h)
theorem hasId_iff {xs : List (Int × Int)} {k : Int} : hasId k xs = true ↔ k ∈ xs.map (·.1) := by
  simp only [hasId, List.any_eq_true, List.mem_map, beq_iff_eq]
theorem bytF_zero {xs : List (Int × Int)} {k : Int} (h : k ∉ xs.map (·.1)) : bytF k xs = 0 := by
  refine bytF_none k xs ?_
  cases hb : hasId k xs with
  | false => rfl
  | true => exact absurd (hasId_iff.1 hb) h
theorem bytF_of_mem {xs : List (Int × Int)} (hn : (xs.map (·.1)).Nodup) {p : Int × Int} (h : p ∈ xs) : bytF p.1 xs = p.2 := by
  induction xs with
  | nil => cases h
  | cons x r ih =>
    simp only [List.map_cons, List.nodup_cons] at hn
    simp only [bytF]
    rcases List.mem_cons.1 h with e | e
    · subst e; simp
    · have hne : (x.1 == p.1) = false := by
        have : p.1 ∈ r.map (·.1) := List.mem_map.2 ⟨p, e, rfl⟩
        simp only [beq_eq_false_iff_ne]
        intro e'; rw [e'] at hn; exact hn.1 this
      rw [hne]; exact ih hn.2 e
theorem listF_can {xs : List (Int × Int)} (h : Book xs) : listF xs = canF fun j => bytF j xs := by
  refine sorted_eq ?_ (ofF_sorted _ _) fun p => ?_
  · have hs := sortZ_sorted (xs.map (·.1))
    have hd : (sortZ (xs.map (·.1))).Nodup := (sortZ_perm _).nodup_iff.2 h.nodup
    have hlt : (sortZ (xs.map (·.1))).Pairwise (· < ·) := List.Pairwise.imp₂ (fun a b h1 h2 => by omega) hs hd
    exact List.pairwise_map.2 hlt
  · change p ∈ listF xs ↔ p ∈ canF _
    rw [canF_mem]
    simp only [listF, pairsF, List.mem_map, (sortZ_perm _).mem_iff]
    constructor
    · rintro ⟨k, ⟨x, hx, rfl⟩, rfl⟩
      have := h.ok _ (bytF_mem (xs := xs) (k := x.1) (List.mem_map.2 ⟨x, hx, rfl⟩))
      exact ⟨this.1, rfl, this.2⟩
    · rintro ⟨h1, h2, h3⟩
      have hk : p.1 ∈ xs.map (·.1) := by
        refine Classical.byContradiction fun hc => ?_
        rw [h2, bytF_zero hc] at h3
        omega
      obtain ⟨x, hx, he⟩ := List.mem_map.1 hk
      exact ⟨p.1, ⟨x, hx, he⟩, Prod.ext rfl h2.symm⟩
theorem chk_sorted : ∀ (xs : List (Int × Int)) (last : Int), chkF last xs = true → (∀ x ∈ xs, last < x.1 ∧ idB x.1 = true ∧ 1 ≤ x.2 ∧ x.2 ≤ 2048) ∧ xs.Pairwise fun a b => a.1 < b.1
  | [], _, _ => ⟨by simp, .nil⟩
  | x :: r, last, h => by
    simp only [chkF, Bool.and_eq_true, Bool.not_eq_true', decide_eq_false_iff_not] at h
    obtain ⟨i1, i2⟩ := chk_sorted r x.1 h.2
    refine ⟨fun y hy => ?_, List.pairwise_cons.2 ⟨fun y hy => (i1 y hy).1, i2⟩⟩
    rcases List.mem_cons.1 hy with e | e
    · subst e; exact ⟨by omega, h.1.1.2, by omega, by omega⟩
    · have := i1 y e; exact ⟨by omega, this.2⟩
theorem sorted_nodup {xs : List (Int × Int)} (h : xs.Pairwise fun a b => a.1 < b.1) : (xs.map (·.1)).Nodup := List.pairwise_map.2 (h.imp fun h => by omega)
theorem chk_book {xs : List (Int × Int)} (h : chkF (-1) xs = true) : Book xs := by
  obtain ⟨h1, h2⟩ := chk_sorted xs _ h
  exact ⟨sorted_nodup h2, fun x hx => ⟨(h1 x hx).2.1, by have := (h1 x hx).2.2.1; omega⟩⟩
/-- A list in its one form is that form. -/
theorem can_chk {xs : List (Int × Int)} (h : chkF (-1) xs = true) : (canF fun j => bytF j xs) = xs := by
  have hb := chk_book h
  refine sorted_eq (ofF_sorted _ _) (chk_sorted xs _ h).2 fun p => ?_
  change p ∈ canF _ ↔ p ∈ xs
  rw [canF_mem]
  constructor
  · rintro ⟨_, h2, h3⟩
    have hk : p.1 ∈ xs.map (·.1) := Classical.byContradiction fun hc => by rw [h2, bytF_zero hc] at h3; omega
    have := bytF_mem hk
    rwa [← h2] at this
  · intro hp
    exact ⟨(hb.ok p hp).1, (bytF_of_mem hb.nodup hp).symm, (hb.ok p hp).2⟩
theorem putP_mem {id z : Int} : ∀ {xs : List (Int × Int)} {p : Int × Int}, p ∈ putP id z xs → p = (id, z) ∨ p ∈ xs
  | [], p, h => .inl (by simpa [putP] using h)
  | x :: r, p, h => by
    simp only [putP] at h
    cases hb : (x.1 == id) with
    | true =>
      rw [hb, cond_true] at h
      rcases List.mem_cons.1 h with e | e
      · exact .inl e
      · exact .inr (List.mem_cons_of_mem _ e)
    | false =>
      rw [hb, cond_false] at h
      rcases List.mem_cons.1 h with e | e
      · exact .inr (by rw [e]; exact List.mem_cons_self ..)
      · rcases putP_mem e with e | e
        · exact .inl e
        · exact .inr (List.mem_cons_of_mem _ e)
theorem putP_keys {id z : Int} : ∀ {xs : List (Int × Int)}, (putP id z xs).map (·.1) = if id ∈ xs.map (·.1) then xs.map (·.1) else xs.map (·.1) ++ [id]
  | [] => by simp [putP]
  | x :: r => by
    have ih := putP_keys (id := id) (z := z) (xs := r)
    simp only [putP]
    cases hb : (x.1 == id) with
    | true =>
      have : x.1 = id := by simpa using hb
      simp [this]
    | false =>
      have hne : x.1 ≠ id := by simpa using hb
      simp only [cond_false, List.map_cons, ih, List.mem_cons, hne.symm, false_or]
      split <;> simp
theorem putP_book {xs : List (Int × Int)} {id z : Int} (h : Book xs) (hi : idB id = true) (hz : z > 0) : Book (putP id z xs) := by
  refine ⟨?_, fun p hp => ?_⟩
  · rw [putP_keys]
    split
    · exact h.nodup
    · rename_i hn
      refine List.nodup_append.2 ⟨h.nodup, by simp, fun a ha b hb => ?_⟩
      rw [List.mem_singleton.1 hb]
      intro e; rw [e] at ha; exact hn ha
  · rcases putP_mem hp with e | e
    · rw [e]; exact ⟨hi, hz⟩
    · exact h.ok p e
theorem bytF_put {id z : Int} : ∀ (xs : List (Int × Int)) (j : Int), bytF j (putP id z xs) = if j = id then z else bytF j xs
  | [], j => by
    by_cases h : j = id
    · subst h; simp [putP, bytF]
    · have : (id == j) = false := by simpa using Ne.symm h
      simp [putP, bytF, h, this]
  | x :: r, j => by
    have ih := bytF_put (id := id) (z := z) r j
    simp only [putP]
    cases hb : (x.1 == id) with
    | true =>
      have hx : x.1 = id := by simpa using hb
      by_cases h : j = id
      · subst h; simp [bytF]
      · have h1 : (id == j) = false := by simpa using Ne.symm h
        simp [bytF, h, hx, h1]
    | false =>
      simp only [cond_false, bytF, ih]
      by_cases h : j = id
      · subst h; simp [hb]
      · simp [h]
theorem putP_len {id z : Int} : ∀ (xs : List (Int × Int)), (putP id z xs).length ≤ xs.length + 1
  | [] => by simp [putP]
  | x :: r => by
    have ih := putP_len (id := id) (z := z) r
    simp only [putP]
    cases (x.1 == id) <;> simp <;> omega
theorem delP_sub {id : Int} : ∀ (xs : List (Int × Int)), (delP id xs).Sublist xs
  | [] => .slnil
  | x :: r => by
    simp only [delP]
    cases (x.1 == id) with
    | true => exact List.sublist_cons_self ..
    | false => exact (delP_sub r).cons_cons _
theorem delP_book {xs : List (Int × Int)} {id : Int} (h : Book xs) : Book (delP id xs) :=
  ⟨h.nodup.sublist ((delP_sub xs).map _), fun x hx => h.ok x ((delP_sub xs).subset hx)⟩
theorem bytF_del {id : Int} : ∀ (xs : List (Int × Int)) (j : Int), (xs.map (·.1)).Nodup → bytF j (delP id xs) = if j = id then 0 else bytF j xs
  | [], j, _ => by simp [delP, bytF]
  | x :: r, j, hn => by
    simp only [List.map_cons, List.nodup_cons] at hn
    have ih := bytF_del (id := id) r j hn.2
    simp only [delP]
    cases hb : (x.1 == id) with
    | true =>
      have hx : x.1 = id := by simpa using hb
      simp only [cond_true, bytF, hx]
      by_cases h : j = id
      · subst h
        rw [hx] at hn
        simp [bytF_zero hn.1]
      · have h1 : (id == j) = false := by simpa using Ne.symm h
        simp [h, h1]
    | false =>
      simp only [cond_false, bytF, ih]
      by_cases h : j = id
      · subst h; simp [hb]
      · simp [h]
/-- The table of a book. -/
theorem tabF_get : ∀ (xs : List (Int × Int)) (ts : List Int) (j : Nat), (xs.map (·.1)).Nodup → (∀ x ∈ xs, idB x.1 = true) → ts.length = 257 → j < 257 → (tabF ts xs).getD j 0 = bif hasId (Int.ofNat j) xs then bytF (Int.ofNat j) xs else ts.getD j 0
  | [], ts, j, _, _, _, _ => by simp [tabF, hasId]
  | x :: r, ts, j, hn, hi, ht, hj => by
    simp only [List.map_cons, List.nodup_cons] at hn
    have hx := hi x (List.mem_cons_self ..)
    simp only [idB, Bool.and_eq_true, decide_eq_true_eq] at hx
    simp only [tabF]
    rw [tabF_get r _ j hn.2 (fun y hy => hi y (List.mem_cons_of_mem _ hy)) (by simpa using ht) hj]
    simp only [hasId, List.any_cons, bytF]
    by_cases e : x.1 = Int.ofNat j
    · have h1 : (x.1 == Int.ofNat j) = true := by simpa using e
      have h2 : hasId (Int.ofNat j) r = false := by
        cases hb : hasId (Int.ofNat j) r with
        | false => rfl
        | true => rw [← e] at hb; exact absurd (hasId_iff.1 hb) hn.1
      have h3 : x.1.toNat = j := by rw [e]; rfl
      simp only [hasId] at h2
      rw [h2, h1, h3]
      simp only [cond_false, cond_true, Bool.true_or, List.getD_eq_getElem?_getD]
      rw [List.getElem?_set_self (by rw [ht]; exact hj)]; rfl
    · have h1 : (x.1 == Int.ofNat j) = false := by simpa using e
      have h3 : x.1.toNat ≠ j := by intro h; apply e; rw [← h]; simp; omega
      rw [h1]
      simp only [Bool.false_or, cond_false, List.getD_eq_getElem?_getD, List.getElem?_set_ne h3]
theorem zeros_len : zeros257.length = 257 := List.length_replicate
theorem zeros_get (j : Nat) : zeros257.getD j 0 = 0 := by
  unfold zeros257
  rw [List.getD_eq_getElem?_getD, List.getElem?_replicate]
  split <;> rfl
theorem tabF_eq {xs : List (Int × Int)} (h : Book xs) : tabF zeros257 xs = (List.range 257).map fun j => bytF (Int.ofNat j) xs := by
  refine List.ext_getElem (by rw [tabF_length, zeros_len, List.length_map, List.length_range]) fun j h1 h2 => ?_
  have hj : j < 257 := by rw [List.length_map, List.length_range] at h2; exact h2
  have e := tabF_get xs zeros257 j h.nodup (fun x hx => (h.ok x hx).1) zeros_len hj
  rw [List.getD_eq_getElem?_getD, List.getElem?_eq_getElem h1, Option.getD_some] at e
  rw [e, zeros_get]
  simp only [List.getElem_map, List.getElem_range]
  cases hb : hasId (Int.ofNat j) xs with
  | true => rfl
  | false => exact (bytF_none _ _ hb).symm
end Go.Sv
namespace Go.Sv
open Go.RowKit Go.Proofs
variable {P : Program}

/-! ### a list that is handed back with a number -/
theorem pull_pair {κ : Kap} {ρ : Nat → Nat} {q L : Nat} {kd : IntKind} {e : Int} {y : Value} (hr : ρ 0 = q) (h : VRel κ (.tup [.slc q [] 0 0 2 L L, .int kd e]) y) : VRel (κ.pull ρ 1) (.tup [.slc 0 [] 0 0 2 L L, .int kd e]) y := by
  cases h with
  | tup _ zs h1 h2 =>
    obtain ⟨u, us, rfl, r1, r2⟩ := h1.head rfl
    exact .tup _ _ (CRel.append (xs := [_]) (VRel.pull_slc hr (by omega) r1) (CRel.noNm (κ.pull_nl ρ 1) rfl r2)) .nil
/-- The list lies in a row of its own. -/
theorem SoundFn.list {g : FuncId} {vs : List AV} {q : Nat} {st1 : AS} {ys : List (Int × Int)} {kd : IntKind} {e : Int} (h : SoundFn P g vs ⟨0, []⟩ (.tup [.slc q [] 0 0 2 ys.length ys.length, .int kd e]) st1) (hf : find st1.mem q = some (rOf ys)) :
    SoundFn P g vs ⟨0, []⟩ (.tup [.slc 0 [] 0 0 2 ys.length ys.length, .int kd e]) ⟨1, [(0, rOf ys)]⟩ :=
  h.pull (st2 := ⟨1, [(0, rOf ys)]⟩) (fun _ => q) (fun κ y hy => pull_pair rfl hy) (fun n r2 hn => by
    have hp := List.mem_singleton.1 (find_mem _ _ _ hn)
    simp only [Prod.mk.injEq] at hp
    obtain ⟨rfl, rfl⟩ := hp
    exact ⟨_, hf, RowLe.arr (by dsimp only; omega) id (fun _ _ => rfl), id⟩) (fun n n' r r' h1 h2 _ => by
    have hp := List.mem_singleton.1 (find_mem _ _ _ h1)
    have hp' := List.mem_singleton.1 (find_mem _ _ _ h2)
    simp only [Prod.mk.injEq] at hp hp'
    rw [hp.1, hp'.1])
/-- No list: as one of no elements. -/
theorem SoundFn.noList {g : FuncId} {vs : List AV} {st1 : AS} {kd : IntKind} {e : Int} (h : SoundFn P g vs ⟨0, []⟩ (.tup [.raw (.slice none 0 0), .int kd e]) st1) :
    SoundFn P g vs ⟨0, []⟩ (.tup [.slc 0 [] 0 0 2 0 0, .int kd e]) ⟨1, [(0, rOf [])]⟩ := fun κ us w hl hR => by
  refine (h.forget rfl κ us w hl hR).mono fun en w' he => ?_
  obtain ⟨κ1, v', hle, rfl, hv, hR', hF⟩ := he
  have hn : κ1.loc 0 = none := hR'.fresh 0 (Nat.le_refl _)
  obtain ⟨h1, h2⟩ := hR'.mem.new0 hn (c := [.arr 2 0 (kf []) []]) arr_none true true
  have hM : (Mem.set (find []) 0 (some (.cells [.arr 2 0 (kf []) []] true true))) = find [(0, rOf [])] := by
    funext x
    simp only [find, Mem.set, rOf]
    by_cases e : x = 0
    · subst e; rfl
    · rw [if_neg e, beq_false (Ne.symm e)]; rfl
  change MRel _ (Mem.set (find []) 0 _) w' at h1
  change Fr κ1 (find []) w' _ (Mem.set (find []) 0 _) w' at h2
  rw [hM] at h1 h2
  refine ⟨κ1.at 0 none, v', ⟨fun n hn => by simp at hn, fun b cs h => hle.st b cs h, hle.gh, fun b s h => hle.sz b s h⟩, rfl, ?_, ⟨fun n hge => ?_, h1⟩, hF.trans h2⟩
  · cases hv with
    | tup _ zs h3 h4 =>
      obtain ⟨u, us, rfl, r1, r2⟩ := h3.head rfl
      refine .tup _ _ (CRel.append (xs := [_]) (ys := [u]) ?_ (r2.mono (Kap.at_le hn))) .nil
      cases r1
      exact .slc0 0 0 0 2 [] Kap.at_same .nil
  · rw [Kap.at_ne (by dsimp only at hge; omega)]; exact hR'.fresh n (Nat.zero_le _)
theorem flat_list {ys : List (Int × Int)} {L : Nat} {kd : IntKind} {e : Int} : FlatSt (.tup [.slc 0 [] 0 0 2 L L, .int kd e]) ⟨1, [(0, rOf ys)]⟩ := ⟨fun x hx => by
  simp only [List.mem_cons, List.not_mem_nil, or_false] at hx
  rcases hx with rfl | rfl <;> trivial, fun p hp => by rw [List.mem_singleton.1 hp]; exact flat_kf rfl⟩

/-! ### what they compute -/
def outP (X : List (Int × Int)) : List (Int × Int) := pairsF X (nl (fun i => [.int .i64 (nthZ (sortZ (X.map (·.1))) i)]) (X.map (·.1)).length [])
theorem outP_eq (X : List (Int × Int)) : outP X = listF X := by
  have h : outP X = pairsF X (nl (nf (sortZ (X.map (·.1)))) (X.map (·.1)).length []) := rfl
  rw [h, ← length_sortZ, nl_nf]; rfl
def outL (X : List (Int × Int)) : Option (AV × AS) :=
  bif Nat.ble (X.length * 8) LIM && allZ X then (bif true && decide (((X.map (·.1)).length : Int) = Int.ofNat (X.map (·.1)).length) && true && Nat.blt (X.map (·.1)).length 1000000 && okN (fun i => [.int .i64 (nthZ (sortZ (X.map (·.1))) i)]) (X.map (·.1)).length [] && (decide ((X.map (·.1)).length = (X.map (·.1)).length) && decide ((X.map (·.1)).length = (X.map (·.1)).length)) then
    some (.tup [.slc 3 [] 0 0 2 (outP X).length (outP X).length, .int .i64 0], ⟨4, [(0, .ptab X), (3, rOf (outP X))]⟩) else none) else none
theorem outL_eq {X : List (Int × Int)} (hl : X.length ≤ 300) (hb : Book X) : outL X = some (.tup [.slc 3 [] 0 0 2 (canF fun j => bytF j X).length (canF fun j => bytF j X).length, .int .i64 0], ⟨4, [(0, .ptab X), (3, rOf (canF fun j => bytF j X))]⟩) := by
  unfold outL
  have h1 : Nat.ble (X.length * 8) LIM = true := by unfold LIM; simp; omega
  have h2 : allZ X = true := List.all_eq_true.2 fun x hx => by
    have := (hb.ok x hx).1
    simp only [idB, inZ, Bool.and_eq_true, decide_eq_true_eq] at this ⊢
    omega
  have h3 : Nat.blt (X.map (·.1)).length 1000000 = true := by simp; omega
  have h4 : okN (fun i => [.int .i64 (nthZ (sortZ (X.map (·.1))) i)]) (X.map (·.1)).length [] = true := List.all_eq_true.2 fun _ _ => rfl
  have h5 : decide (((X.map (·.1)).length : Int) = Int.ofNat (X.map (·.1)).length) = true := by simp
  rw [h1, h2, h3, h4, h5, outP_eq, listF_can hb]
  simp
def prvF (X : List (Int × Int)) (id c : Int) : List (Int × Int) × Int :=
  bif chkE X != 0 then ([], chkE X) else bif !idB id || decide (c < 0) then ([], 2) else (canF fun j => if j = id then max (bytF id X) (min c 2048) else bytF j X, 0)
def frgF (X : List (Int × Int)) (id : Int) : List (Int × Int) × Int :=
  bif chkE X != 0 then ([], chkE X) else bif !idB id then ([], 2) else (canF fun j => if j = id then 0 else bytF j X, 0)
def min48 (c : Int) : Int := bif decide (2048 < c) then 2048 else c
theorem min48_eq (c : Int) : min48 c = min c 2048 := by
  unfold min48
  by_cases h : 2048 < c
  · simp [h]; omega
  · simp [h]; omega

/-! ### Prove -/
theorem evPrv (xs : List (Int × Int)) (n : Nat) (id c : Int) : evFn Try.prog KC9 LC9 (regB Try.prog) 60 39 [.lst 2 (kf xs) n [], .int .i64 id, .int .i64 c] ⟨0, []⟩ (fun v st => some (v, st)) =
  (bif okL (kf xs) n [] then
    bif chkE (kl (kf xs) n []) != Int.ofNat 0 then bif chkE (kl (kf xs) n []) != Int.ofNat 0 then some (.tup [.raw (.slice none 0 0), .int .i64 (chkE (kl (kf xs) n []))], ⟨0, []⟩) else
      bif !idB id then some (.tup [.raw (.slice none 0 0), .int .i64 2], ⟨0, []⟩) else bif (bif false then true else decide (c < 0)) then some (.tup [.raw (.slice none 0 0), .int .i64 2], ⟨0, []⟩) else bif decide (min48 c > 0) then none else none
    else bif !idB id then some (.tup [.raw (.slice none 0 0), .int .i64 2], ⟨1, [(0, .ptab (kl (kf xs) n []))]⟩) else bif (bif false then true else decide (c < 0)) then some (.tup [.raw (.slice none 0 0), .int .i64 2], ⟨1, [(0, .ptab (kl (kf xs) n []))]⟩) else
      bif decide (min48 c > bytF id (kl (kf xs) n [])) then outL (putP id (min48 c) (kl (kf xs) n [])) else outL (kl (kf xs) n [])
  else none) := by kernel_rfl
def fPrv (R : Type) (vs : List AV) (k : AV → AS → Option R) : Option R :=
  match vs with
  | [.lst 2 f n us, .int .i64 id, .int .i64 c] => bif okL f n us then k (.tup [.slc 0 [] 0 0 2 (prvF (kl f n us) id c).1.length (prvF (kl f n us) id c).1.length, .int .i64 (prvF (kl f n us) id c).2]) ⟨1, [(0, rOf (prvF (kl f n us) id c).1)]⟩ else none
  | _ => none
theorem bytF_nonneg {X : List (Int × Int)} (h : Book X) (id : Int) : 0 ≤ bytF id X := by
  by_cases hk : id ∈ X.map (·.1)
  · have := (h.ok _ (bytF_mem hk)).2; dsimp only at this; omega
  · rw [bytF_zero hk]; omega
theorem okPrv : FnOk Try.prog 39 fPrv := fun R vs k r h => by
  unfold fPrv at h
  split at h
  · rename_i f n us id c
    obtain ⟨hc, h⟩ := cond_some h
    have key : ∀ v st', evFn Try.prog KC9 LC9 (regB Try.prog) 60 39 [.lst 2 (kf (kl f n us)) (kl f n us).length [], .int .i64 id, .int .i64 c] ⟨0, []⟩ (fun v st => some (v, st)) = some (v, st') → SoundFn Try.prog 39 [.lst 2 f n us, .int .i64 id, .int .i64 c] ⟨0, []⟩ v st' := fun v st' he =>
      SoundFn.args (vs' := [.lst 2 (kf (kl f n us)) (kl f n us).length [], .int .i64 id, .int .i64 c]) (fn_ev sprog_ok.1 sprog_ok.2 KC9_ok LC9_ok (fuel := 60) rfl he) fun κ ys hy => hy.cons_map (fun y hy => by rw [kl_length]; exact hy.pairs hc) (fun _ h => h) rfl
    rw [evPrv, kl_kf, okL_kf] at key
    generalize kl f n us = X at *
    refine ⟨_, _, h, flat_list, ?_⟩
    unfold prvF
    have e0 : (chkE X != Int.ofNat 0) = (chkE X != 0) := rfl
    rw [e0] at key
    cases hb : (chkE X != 0) with
    | true =>
      rw [hb] at key
      exact (key _ _ rfl).noList
    | false =>
      rw [hb] at key
      simp only [cond_true, cond_false] at key ⊢
      cases hi : idB id with
      | false =>
        rw [hi] at key
        exact (key _ _ rfl).noList
      | true =>
        rw [hi] at key
        cases hn : decide (c < 0) with
        | true =>
          rw [hn] at key
          exact (key _ _ rfl).noList
        | false =>
          rw [hn] at key
          simp only [Bool.not_true, cond_false, Bool.or_self] at key ⊢
          obtain ⟨h1, h2⟩ := chkE_ok hb
          have hbook := chk_book h2
          have h0 := bytF_nonneg hbook id
          have hm := min48_eq c
          cases hg : decide (min48 c > bytF id X) with
          | true =>
            rw [hg, cond_true] at key
            have hg' := of_decide_eq_true hg
            have hb2 := putP_book (z := min48 c) hbook hi (by omega)
            have hl2 := putP_len (id := id) (z := min48 c) X
            rw [outL_eq (by omega) hb2] at key
            have hfun : (fun j => bytF j (putP id (min48 c) X)) = fun j => if j = id then max (bytF id X) (min c 2048) else bytF j X := funext fun j => by
              rw [bytF_put]
              split
              · rw [← hm]; omega
              · rfl
            rw [hfun] at key
            exact (key _ _ rfl).list rfl
          | false =>
            rw [hg, cond_false] at key
            have hg' := of_decide_eq_false hg
            rw [outL_eq (by omega) hbook] at key
            have hfun : (fun j => bytF j X) = fun j => if j = id then max (bytF id X) (min c 2048) else bytF j X := funext fun j => by
              split
              · rename_i e; rw [e, ← hm]; omega
              · rfl
            rw [← hfun]
            exact (key _ _ rfl).list rfl
  · cases h
end Go.Sv
namespace Go.Sv
open Go.RowKit Go.Proofs

theorem nl_set {T : List Int} {j : Nat} {V : Int} (hT : T.length = 257) (hj : j < 257) : nl (nf T) 257 [(j, [.int .i64 V])] = T.set j V := by
  have h : ∀ i, i < 257 → elt [] (nf (T.set j V)) i = elt [(j, [.int .i64 V])] (nf T) i := nf_set T j V (by rw [hT]; exact hj)
  have h2 : nl (nf T) 257 [(j, [.int .i64 V])] = nl (nf (T.set j V)) 257 [] := List.map_congr_left fun i hi => by rw [h i (List.mem_range.1 hi)]
  rw [h2]
  have := nl_nf (T.set j V)
  rw [List.length_set, hT] at this
  exact this
theorem okN_set {T : List Int} {j : Nat} {V : Int} : okN (nf T) 257 [(j, [.int .i64 V])] = true := List.all_eq_true.2 fun i _ => by
  simp only [elt]
  cases Nat.beq i j <;> rfl
theorem map_set_id (g : Int → Int) {id : Int} (hid : idB id = true) (V : Int) : ((List.range 257).map fun j => g (Int.ofNat j)).set id.toNat V = (List.range 257).map fun j => (fun k => if k = id then V else g k) (Int.ofNat j) := by
  simp only [idB, Bool.and_eq_true, decide_eq_true_eq] at hid
  refine List.ext_getElem (by rw [List.length_set, List.length_map, List.length_map]) fun i h1 h2 => ?_
  have hi : i < 257 := by rw [List.length_map, List.length_range] at h2; exact h2
  rw [List.getElem_set]
  simp only [List.getElem_map, List.getElem_range]
  by_cases e : id.toNat = i
  · have e' : Int.ofNat i = id := by rw [← e]; simp; omega
    rw [if_pos e, if_pos e']
  · have e' : ¬ Int.ofNat i = id := by intro h; apply e; rw [← h]; rfl
    rw [if_neg e, if_neg e']
theorem getD_map257 (g : Int → Int) {id : Int} (hid : idB id = true) : ((List.range 257).map fun j => g (Int.ofNat j)).getD id.toNat 0 = g id := by
  simp only [idB, Bool.and_eq_true, decide_eq_true_eq] at hid
  rw [List.getD_eq_getElem?_getD, List.getElem?_eq_getElem (by rw [List.length_map, List.length_range]; omega)]
  simp only [List.getElem_map, List.getElem_range, Option.getD_some]
  congr 1
  simp; omega
theorem id_facts {id : Int} (h : idB id = true) : decide (0 ≤ id) = true ∧ decide (id < (257 : Int)) = true ∧ Nat.blt id.toNat 257 = true ∧ id.toNat < 257 := by
  simp only [idB, Bool.and_eq_true, decide_eq_true_eq] at h
  exact ⟨decide_eq_true h.1, decide_eq_true (by omega), by rw [Nat.blt_eq]; omega, by omega⟩
theorem allId_book {X : List (Int × Int)} (h : Book X) : allId X = true := List.all_eq_true.2 fun x hx => (h.ok x hx).1

/-! ### the document's Prove -/
def tX (X : List (Int × Int)) : List Int := tabF zeros257 X
def maxT (T : List Int) (id c : Int) : Int := bif decide (min48 c > T.getD id.toNat 0) then min48 c else T.getD id.toNat 0
def outT (T : List Int) (id V : Int) : Option (AV × AS) :=
  bif okN (nf T) 257 [(id.toNat, [.int .i64 V])] && Nat.blt 257 1000000 then
    some (.tup [.slc 1 [] 0 0 2 (ofF 0 (nl (nf T) 257 [(id.toNat, [.int .i64 V])])).length (ofF 0 (nl (nf T) 257 [(id.toNat, [.int .i64 V])])).length, .int .i64 0], ⟨2, [(0, .cells [.arr 1 257 (nf T) [(id.toNat, [.int .i64 V])]] true false), (1, rOf (ofF 0 (nl (nf T) 257 [(id.toNat, [.int .i64 V])])))]⟩) else none
theorem outT_eq {X : List (Int × Int)} {id V : Int} (hb : Book X) (hid : idB id = true) : outT (tX X) id V = some (.tup [.slc 1 [] 0 0 2 (canF fun j => if j = id then V else bytF j X).length (canF fun j => if j = id then V else bytF j X).length, .int .i64 0], ⟨2, [(0, .cells [.arr 1 257 (nf (tX X)) [(id.toNat, [.int .i64 V])]] true false), (1, rOf (canF fun j => if j = id then V else bytF j X))]⟩) := by
  obtain ⟨_, _, _, h4⟩ := id_facts hid
  have hT : (tX X).length = 257 := by unfold tX; rw [tabF_length, zeros_len]
  unfold outT
  rw [okN_set, nl_set hT h4]
  have h5 : (tX X).set id.toNat V = (List.range 257).map fun j => (fun k => if k = id then V else bytF k X) (Int.ofNat j) := by
    unfold tX; rw [tabF_eq hb]; exact map_set_id (fun k => bytF k X) hid V
  rw [h5]
  rfl
theorem evPrv2 (xs : List (Int × Int)) (n : Nat) (id c : Int) : evFn Try.prog KC9 LC9 (regB Try.prog) 60 40 [.lst 2 (kf xs) n [], .int .i64 id, .int .i64 c] ⟨0, []⟩ (fun v st => some (v, st)) =
  (bif okL (kf xs) n [] then
    bif chkE (kl (kf xs) n []) != Int.ofNat 0 then some (.tup [.raw (.slice none 0 0), .int .i64 (chkE (kl (kf xs) n []))], ⟨0, []⟩)
    else bif !idB id then some (.tup [.raw (.slice none 0 0), .int .i64 2], ⟨0, []⟩) else bif (bif false then true else decide (c < 0)) then some (.tup [.raw (.slice none 0 0), .int .i64 2], ⟨0, []⟩) else
      bif okL (kf xs) n [] && Nat.ble n LIM && allId (kl (kf xs) n []) then
        bif decide (0 ≤ id) then bif decide (id < (257 : Int)) then bif Nat.blt id.toNat 257 then bif decide (0 ≤ id) then bif decide (id < (257 : Int)) then bif Nat.blt id.toNat 257 then
          outT (tX (kl (kf xs) n [])) id (maxT (tX (kl (kf xs) n [])) id c)
        else none else none else none else none else none else none
      else none
  else none) := by kernel_rfl
theorem okPrv2 : FnOk Try.prog 40 fPrv := fun R vs k r h => by
  unfold fPrv at h
  split at h
  · rename_i f n us id c
    obtain ⟨hc, h⟩ := cond_some h
    have key : ∀ v st', evFn Try.prog KC9 LC9 (regB Try.prog) 60 40 [.lst 2 (kf (kl f n us)) (kl f n us).length [], .int .i64 id, .int .i64 c] ⟨0, []⟩ (fun v st => some (v, st)) = some (v, st') → SoundFn Try.prog 40 [.lst 2 f n us, .int .i64 id, .int .i64 c] ⟨0, []⟩ v st' := fun v st' he =>
      SoundFn.args (vs' := [.lst 2 (kf (kl f n us)) (kl f n us).length [], .int .i64 id, .int .i64 c]) (fn_ev sprog_ok.1 sprog_ok.2 KC9_ok LC9_ok (fuel := 60) rfl he) fun κ ys hy => hy.cons_map (fun y hy => by rw [kl_length]; exact hy.pairs hc) (fun _ h => h) rfl
    rw [evPrv2, kl_kf, okL_kf] at key
    generalize kl f n us = X at *
    refine ⟨_, _, h, flat_list, ?_⟩
    unfold prvF
    have e0 : (chkE X != Int.ofNat 0) = (chkE X != 0) := rfl
    rw [e0] at key
    cases hb : (chkE X != 0) with
    | true =>
      rw [hb] at key
      exact (key _ _ rfl).noList
    | false =>
      rw [hb] at key
      simp only [cond_true, cond_false] at key ⊢
      cases hi : idB id with
      | false =>
        rw [hi] at key
        exact (key _ _ rfl).noList
      | true =>
        rw [hi] at key
        cases hn : decide (c < 0) with
        | true =>
          rw [hn] at key
          exact (key _ _ rfl).noList
        | false =>
          rw [hn] at key
          obtain ⟨h1, h2⟩ := chkE_ok hb
          have hbook := chk_book h2
          obtain ⟨i1, i2, i3, i4⟩ := id_facts hi
          have hl : Nat.ble X.length LIM = true := by unfold LIM; simp; omega
          simp only [Bool.not_true, cond_false, cond_true, Bool.or_self, i1, i2, i3, hl, allId_book hbook, Bool.and_self] at key ⊢
          rw [outT_eq hbook hi] at key
          have hm := min48_eq c
          have hV : maxT (tX X) id c = max (bytF id X) (min c 2048) := by
            unfold maxT tX
            rw [tabF_eq hbook, getD_map257 (fun k => bytF k X) hi, ← hm]
            by_cases hg : min48 c > bytF id X
            · simp [hg]; omega
            · simp [hg]; omega
          rw [hV] at key
          exact (key _ _ rfl).list rfl
  · cases h

/-! ### Forget -/
theorem evFrg2 (xs : List (Int × Int)) (n : Nat) (id : Int) : evFn Try.prog KC9 LC9 (regB Try.prog) 60 42 [.lst 2 (kf xs) n [], .int .i64 id] ⟨0, []⟩ (fun v st => some (v, st)) =
  (bif okL (kf xs) n [] then
    bif chkE (kl (kf xs) n []) != Int.ofNat 0 then some (.tup [.raw (.slice none 0 0), .int .i64 (chkE (kl (kf xs) n []))], ⟨0, []⟩)
    else bif !idB id then some (.tup [.raw (.slice none 0 0), .int .i64 2], ⟨0, []⟩) else
      bif okL (kf xs) n [] && Nat.ble n LIM && allId (kl (kf xs) n []) then
        bif decide (0 ≤ id) then bif decide (id < (257 : Int)) then bif Nat.blt id.toNat 257 then
          outT (tX (kl (kf xs) n [])) id 0
        else none else none else none
      else none
  else none) := by kernel_rfl
def fFrg (R : Type) (vs : List AV) (k : AV → AS → Option R) : Option R :=
  match vs with
  | [.lst 2 f n us, .int .i64 id] => bif okL f n us then k (.tup [.slc 0 [] 0 0 2 (frgF (kl f n us) id).1.length (frgF (kl f n us) id).1.length, .int .i64 (frgF (kl f n us) id).2]) ⟨1, [(0, rOf (frgF (kl f n us) id).1)]⟩ else none
  | _ => none
theorem okFrg2 : FnOk Try.prog 42 fFrg := fun R vs k r h => by
  unfold fFrg at h
  split at h
  · rename_i f n us id
    obtain ⟨hc, h⟩ := cond_some h
    have key : ∀ v st', evFn Try.prog KC9 LC9 (regB Try.prog) 60 42 [.lst 2 (kf (kl f n us)) (kl f n us).length [], .int .i64 id] ⟨0, []⟩ (fun v st => some (v, st)) = some (v, st') → SoundFn Try.prog 42 [.lst 2 f n us, .int .i64 id] ⟨0, []⟩ v st' := fun v st' he =>
      SoundFn.args (vs' := [.lst 2 (kf (kl f n us)) (kl f n us).length [], .int .i64 id]) (fn_ev sprog_ok.1 sprog_ok.2 KC9_ok LC9_ok (fuel := 60) rfl he) fun κ ys hy => hy.cons_map (fun y hy => by rw [kl_length]; exact hy.pairs hc) (fun _ h => h) rfl
    rw [evFrg2, kl_kf, okL_kf] at key
    generalize kl f n us = X at *
    refine ⟨_, _, h, flat_list, ?_⟩
    unfold frgF
    have e0 : (chkE X != Int.ofNat 0) = (chkE X != 0) := rfl
    rw [e0] at key
    cases hb : (chkE X != 0) with
    | true =>
      rw [hb] at key
      exact (key _ _ rfl).noList
    | false =>
      rw [hb] at key
      simp only [cond_true, cond_false] at key ⊢
      cases hi : idB id with
      | false =>
        rw [hi] at key
        exact (key _ _ rfl).noList
      | true =>
        rw [hi] at key
        obtain ⟨h1, h2⟩ := chkE_ok hb
        have hbook := chk_book h2
        obtain ⟨i1, i2, i3, i4⟩ := id_facts hi
        have hl : Nat.ble X.length LIM = true := by unfold LIM; simp; omega
        simp only [Bool.not_true, cond_false, cond_true, i1, i2, i3, hl, allId_book hbook, Bool.and_self] at key ⊢
        rw [outT_eq hbook hi] at key
        exact (key _ _ rfl).list rfl
  · cases h
theorem evFrg (xs : List (Int × Int)) (n : Nat) (id : Int) : evFn Try.prog KC9 LC9 (regB Try.prog) 60 41 [.lst 2 (kf xs) n [], .int .i64 id] ⟨0, []⟩ (fun v st => some (v, st)) =
  (bif okL (kf xs) n [] then
    bif chkE (kl (kf xs) n []) != Int.ofNat 0 then bif chkE (kl (kf xs) n []) != Int.ofNat 0 then some (.tup [.raw (.slice none 0 0), .int .i64 (chkE (kl (kf xs) n []))], ⟨0, []⟩) else
      bif !idB id then some (.tup [.raw (.slice none 0 0), .int .i64 2], ⟨0, []⟩) else none
    else bif !idB id then some (.tup [.raw (.slice none 0 0), .int .i64 2], ⟨1, [(0, .ptab (kl (kf xs) n []))]⟩) else outL (delP id (kl (kf xs) n []))
  else none) := by kernel_rfl
theorem okFrg : FnOk Try.prog 41 fFrg := fun R vs k r h => by
  unfold fFrg at h
  split at h
  · rename_i f n us id
    obtain ⟨hc, h⟩ := cond_some h
    have key : ∀ v st', evFn Try.prog KC9 LC9 (regB Try.prog) 60 41 [.lst 2 (kf (kl f n us)) (kl f n us).length [], .int .i64 id] ⟨0, []⟩ (fun v st => some (v, st)) = some (v, st') → SoundFn Try.prog 41 [.lst 2 f n us, .int .i64 id] ⟨0, []⟩ v st' := fun v st' he =>
      SoundFn.args (vs' := [.lst 2 (kf (kl f n us)) (kl f n us).length [], .int .i64 id]) (fn_ev sprog_ok.1 sprog_ok.2 KC9_ok LC9_ok (fuel := 60) rfl he) fun κ ys hy => hy.cons_map (fun y hy => by rw [kl_length]; exact hy.pairs hc) (fun _ h => h) rfl
    rw [evFrg, kl_kf, okL_kf] at key
    generalize kl f n us = X at *
    refine ⟨_, _, h, flat_list, ?_⟩
    unfold frgF
    have e0 : (chkE X != Int.ofNat 0) = (chkE X != 0) := rfl
    rw [e0] at key
    cases hb : (chkE X != 0) with
    | true =>
      rw [hb] at key
      exact (key _ _ rfl).noList
    | false =>
      rw [hb] at key
      simp only [cond_true, cond_false] at key ⊢
      cases hi : idB id with
      | false =>
        rw [hi] at key
        exact (key _ _ rfl).noList
      | true =>
        rw [hi] at key
        obtain ⟨h1, h2⟩ := chkE_ok hb
        have hbook := chk_book h2
        simp only [Bool.not_true, cond_false] at key ⊢
        have hl2 := (delP_sub (id := id) X).length_le
        rw [outL_eq (by omega) (delP_book hbook)] at key
        have hfun : (fun j => bytF j (delP id X)) = fun j => if j = id then 0 else bytF j X := funext fun j => bytF_del X j hbook.nodup
        rw [hfun] at key
        exact (key _ _ rfl).list rfl
  · cases h
end Go.Sv
namespace Go.Sv
open Go.RowKit Go.Proofs

/-! ### spare -/
def marks : List (Int × Int) := [(-7, 0), (-7, 1), (-7, 2), (-7, 3)]
def rSpa (xs : List (Int × Int)) (n : Nat) : Row := .cells [.arr 2 (n + 4) (kf (xs ++ marks)) []] true true
theorem evSpa (xs : List (Int × Int)) (n : Nat) : evFn Try.prog KC1 L0 (regB Try.prog) 60 17 [.lst 2 (kf xs) n []] ⟨0, []⟩ (fun v st => some (v, [8].map (find st.mem))) =
  (bif Nat.ble (n * 16) LIM then bif Nat.ble n n then bif Nat.ble ((n + 1) * 16) LIM then bif Nat.ble (n + 1) (n + 1) then bif Nat.ble ((n + 2) * 16) LIM then bif Nat.ble (n + 2) (n + 2) then bif Nat.ble ((n + 3) * 16) LIM then bif Nat.ble (n + 3) (n + 3) then bif Nat.ble ((n + 4) * 16) LIM then bif decide ((n : Int) ≤ ((n + 4 : Nat) : Int)) then
    some (.slc 8 [] 0 0 2 n (n + 4), [some (.cells [.arr 2 (n + 4) (kf xs) [(n + 3, [.int .i64 (-7), .int .i64 3]), (n + 2, [.int .i64 (-7), .int .i64 2]), (n + 1, [.int .i64 (-7), .int .i64 1]), (n, [.int .i64 (-7), .int .i64 0])]] true true)])
  else none else none else none else none else none else none else none else none else none else none) := by kernel_rfl
def fSpa (R : Type) (vs : List AV) (k : AV → AS → Option R) : Option R :=
  match vs with
  | [.lst 2 f n us] => bif okL f n us && Nat.ble ((n + 4) * 16) LIM then k (.slc 0 [] 0 0 2 n (n + 4)) ⟨1, [(0, rSpa (kl f n us) n)]⟩ else none
  | _ => none
theorem kf_marks (xs : List (Int × Int)) : ∀ i, i < xs.length + 4 → elt [] (kf (xs ++ marks)) i = elt [(xs.length + 3, [.int .i64 (-7), .int .i64 3]), (xs.length + 2, [.int .i64 (-7), .int .i64 2]), (xs.length + 1, [.int .i64 (-7), .int .i64 1]), (xs.length, [.int .i64 (-7), .int .i64 0])] (kf xs) i := fun i hi => by
  have hk : ∀ j, j < 4 → kf (xs ++ marks) (xs.length + j) = kf marks j := fun j hj => by
    simp only [kf, List.getD_eq_getElem?_getD]
    rw [List.getElem?_append_right (by omega), show xs.length + j - xs.length = j from by omega]
  simp only [elt]
  by_cases e3 : i = xs.length + 3
  · subst e3; rw [hk 3 (by omega)]; simp [kf, marks]
  · by_cases e2 : i = xs.length + 2
    · subst e2; rw [hk 2 (by omega), beq_false e3]; simp [kf, marks]
    · by_cases e1 : i = xs.length + 1
      · subst e1; rw [hk 1 (by omega), beq_false e3, beq_false e2]; simp [kf, marks]
      · by_cases e0 : i = xs.length
        · subst e0
          have := hk 0 (by omega)
          rw [Nat.add_zero] at this
          rw [this, beq_false e3, beq_false e2, beq_false e1]; simp [kf, marks]
        · rw [beq_false e3, beq_false e2, beq_false e1, beq_false e0]
          simp only [cond_false, kf, List.getD_eq_getElem?_getD, List.getElem?_append_left (show i < xs.length by omega)]
theorem okSpa : FnOk Try.prog 17 fSpa := fun R vs k r h => by
  unfold fSpa at h
  split at h
  · rename_i f n us
    obtain ⟨hc, h⟩ := cond_some h
    simp only [Bool.and_eq_true] at hc
    refine ⟨_, _, h, ⟨trivial, fun p hp => by rw [List.mem_singleton.1 hp]; exact flat_kf rfl⟩, SoundFn.args (vs' := [.lst 2 (kf (kl f n us)) (kl f n us).length []]) ?_ fun κ ys hy => hy.cons_map (fun y hy => by rw [kl_length]; exact hy.pairs hc.1) (fun _ h => h) rfl⟩
    have hn : (kl f n us).length = n := kl_length
    generalize kl f n us = xs at *
    subst hn
    have hle := Nat.le_of_ble_eq_true hc.2
    have b1 : ∀ j, j ≤ 4 → Nat.ble ((xs.length + j) * 16) LIM = true := fun j hj => Nat.ble_eq_true_of_le (Nat.le_trans (Nat.mul_le_mul_right 16 (by omega)) hle)
    have b0 := b1 0 (by omega)
    rw [Nat.add_zero] at b0
    have b2 : ∀ j : Nat, Nat.ble j j = true := fun j => by simp
    have b3 : decide ((xs.length : Int) ≤ ((xs.length + 4 : Nat) : Int)) = true := decide_eq_true (by omega)
    have hev := evSpa xs xs.length
    rw [b0, b2, b1 1 (by omega), b2, b1 2 (by omega), b2, b1 3 (by omega), b2, b1 4 (by omega), b3] at hev
    simp only [cond_true] at hev
    obtain ⟨v, st1, hk, _, hs⟩ := evFn_ok sprog_ok.1 KC1_ok l0_ok (regB_ok sprog_ok.1 sprog_ok.2) rfl hev
    simp only [Option.some.injEq, Prod.mk.injEq, List.map_cons, List.map_nil, List.cons.injEq, and_true] at hk
    obtain ⟨rfl, hrow⟩ := hk
    exact hs.pull (st2 := ⟨1, [(0, rSpa xs xs.length)]⟩) (fun _ => 8) (fun κ y hy => VRel.pull_slc rfl (by dsimp only; omega) hy) (fun n r2 hn => by
      have hp := List.mem_singleton.1 (find_mem _ _ _ hn)
      simp only [Prod.mk.injEq] at hp
      obtain ⟨rfl, rfl⟩ := hp
      exact ⟨_, hrow, RowLe.arr (by dsimp only; omega) id (kf_marks xs), fun _ => rfl⟩) (fun n n' r r' h1 h2 _ => by
      have hp := List.mem_singleton.1 (find_mem _ _ _ h1)
      have hp' := List.mem_singleton.1 (find_mem _ _ _ h2)
      simp only [Prod.mk.injEq] at hp hp'
      rw [hp.1, hp'.1])
  · cases h

/-! ### spoil -/
def stSpo (s : Nat × List (Int × Int)) (_ : Int × Int) : (Nat × List (Int × Int)) ⊕ Unit := .inl (s.1 + 1, s.2.set s.1 (-9, 0))
theorem stSpo_fold : ∀ (xs : List (Int × Int)) (s : Nat × List (Int × Int)), ∃ t, foldX stSpo s xs = .inl t ∧ t.2.length = s.2.length
  | [], s => ⟨s, rfl, rfl⟩
  | x :: r, s => by
    obtain ⟨t, h1, h2⟩ := stSpo_fold r (s.1 + 1, s.2.set s.1 (-9, 0))
    exact ⟨t, h1, by rw [h2]; simp⟩
def rKf (zs : List (Int × Int)) (N : Nat) : Row := .cells [.arr 2 N (kf zs) []] true true
def lSpo (N i : Nat) : List (Nat × AV) := [(0, .slc 0 [] 0 0 2 N N), (2, .int .i64 (Int.ofNat i))]
theorem gSpo (N i : Nat) : (slots (lSpo N i) (Env.mk 5)).get 0 = .slc 0 [] 0 0 2 N N := by kernel_rfl
theorem gSpoR (N : Nat) (v : Int) : let E := ((Env.mk 5).set 0 (.slc 0 [] 0 0 2 N N)).set 2 (.int .i64 v); E.get 0 = .slc 0 [] 0 0 2 N N ∧ E.get 2 = .int .i64 v := ⟨by kernel_rfl, by kernel_rfl⟩
theorem evSpo (zs : List (Int × Int)) (i N : Nat) : evCode Try.prog KC1 L0 (regB Try.prog) 60 21 (loopOf Try.prog 21 0) (slots (lSpo N i) (Env.mk 5)) ⟨1, [(0, rKf zs N)]⟩ (fun e E' st' => some (e, keepE E' [0, 2] (Env.mk 5), [0].map (find st'.mem))) =
  (bif decide (Int.ofNat i < (N : Int)) then bif decide (Int.ofNat i < (N : Int)) then bif Nat.blt i N then
    some (.normal, ((Env.mk 5).set 0 (.slc 0 [] 0 0 2 N N)).set 2 (.int .i64 (IntKind.i64.wrap (Int.ofNat (i + 1)))), [some (.cells [.arr 2 N (kf zs) [(i, [.int .i64 (-9), .int .i64 0])]] true true)])
  else none else none else some (.exit 0, slots (lSpo N i) (Env.mk 5), [some (rKf zs N)])) := by kernel_rfl
theorem kf_set (zs : List (Int × Int)) (j : Nat) (x : Int × Int) (hj : j < zs.length) : ∀ i, i < zs.length → elt [] (kf (zs.set j x)) i = elt [(j, [.int .i64 x.1, .int .i64 x.2])] (kf zs) i := fun i _ => by
  simp only [elt]
  by_cases e : i = j
  · subst e
    simp [kf, List.getD_eq_getElem?_getD, hj]
  · rw [beq_false e]
    simp only [cond_false, kf, List.getD_eq_getElem?_getD, List.getElem?_set_ne (Ne.symm e)]
def spoAll (zs : List (Int × Int)) : List (Int × Int) :=
  match foldX stSpo (0, zs) zs with
  | .inl t => t.2
  | .inr _ => []
theorem loopSpo (zs : List (Int × Int)) (hz : zs.length < 4611686018427387904) {nb : Nat} (hnb : nb ≤ 1) (hs : SubOk Try.prog 21 (loopOf Try.prog 21 0)) :
    (spoAll zs).length = zs.length ∧ LoopOk Try.prog nb (szOf Try.prog 21) (loopOf Try.prog 21 0) (slots (lSpo zs.length 0) (Env.mk 5)) ⟨1, [(0, rKf zs zs.length)]⟩ (.exit 0) (slots [(0, .slc 0 [] 0 0 2 zs.length zs.length)] (Env.mk 5)) ⟨1, [(0, rKf (spoAll zs) zs.length)]⟩ := by
  obtain ⟨t, h1, h2⟩ := stSpo_fold zs (0, zs)
  have hsp : spoAll zs = t.2 := by unfold spoAll; rw [h1]
  rw [hsp]
  refine ⟨h2, ?_⟩
  have key := loop_fold (P := Try.prog) (nb := nb) (sz := szOf Try.prog 21) (b := loopOf Try.prog 21 0) stSpo zs (0, 0) (fun i s => s.1 = i ∧ s.2.length = zs.length) (fun i s => (slots (lSpo zs.length i) (Env.mk 5), ⟨1, [(0, rKf s.2 zs.length)]⟩)) (fun s => ⟨.exit 0, slots [(0, .slc 0 [] 0 0 2 zs.length zs.length)] (Env.mk 5), ⟨1, [(0, rKf s.2 zs.length)]⟩⟩) (fun _ => ⟨.ret, Env.mk 5, ⟨0, []⟩⟩) (fun i s hI hi => ?_) (fun s _ => ?_) (fun _ h => by cases h) (fun _ h => by cases h) zs 0 (0, zs) ⟨rfl, rfl⟩ rfl (Nat.zero_le _)
  · rw [h1] at key; exact key
  · obtain ⟨j, ys⟩ := s
    obtain ⟨rfl, hI⟩ := hI
    dsimp only at hI
    have hev := evSpo ys j zs.length
    have hlt : Nat.blt j zs.length = true := by simp [hi]
    simp only [dec_lt' hi, cond_true, wrapNat (show j < 9223372036854775807 by omega), hlt] at hev
    refine ⟨⟨rfl, by dsimp only; rw [List.length_set]; exact hI⟩, code_pull sprog_ok.1 sprog_ok.2 KC1_ok l0_ok (fuel := 60) (ts := [0, 2]) (ms := [(0, rKf (ys.set j (-9, 0)) zs.length)]) id (fun _ => .cells [.arr 2 zs.length (kf ys) [(j, [.int .i64 (-9), .int .i64 0])]] true true) hs hnb hnb (fun _ _ => rfl) (fun p hp κ y hy => ?_) (fun p hp => ?_) (fun p hp p' hp' h => h) hev⟩
    · obtain ⟨g0, g2⟩ := gSpoR zs.length (Int.ofNat (j + 1))
      simp only [lSpo, List.mem_cons, List.not_mem_nil, or_false] at hp
      rcases hp with rfl | rfl
      · dsimp only at hy; rw [g0] at hy; exact VRel.pull_slc rfl (by omega) hy
      · dsimp only at hy; rw [g2] at hy; exact VRel.pull rfl hy
    · rw [List.mem_singleton.1 hp]
      exact ⟨RowLe.arr (by omega) id (fun i hi' => kf_set ys j (-9, 0) (by omega) i (by omega)), fun _ => rfl⟩
  · have hev := evSpo s.2 zs.length zs.length
    simp only [dec_nlt', cond_false] at hev
    exact (code_rows sprog_ok.1 sprog_ok.2 KC1_ok l0_ok (fuel := 60) (ts := [0, 2]) (ms := [(0, rKf s.2 zs.length)]) hs hnb hnb rfl rfl hev).less (less_slots fun p hp => by rw [List.mem_singleton.1 hp]; exact gSpo _ _)
def fLoopSpo (R : Type) (E : Env) (st : AS) : Option ((EK → Env → AS → Option R) → Option R) :=
  match E.get 0, E.get 2 with
  | .slc 0 [] 0 0 2 n n1, .int .i64 i => match st.mem with
    | [(0, .cells [.arr 2 N f us] true true)] => some fun k => bif Nat.beq st.next 1 && decide (i = 0) && Nat.ble n LIM && okL f n us && (decide (n = N) && decide (n = n1)) then
        k .normal (slots [(0, .slc 0 [] 0 0 2 n n)] (Env.mk 5)) ⟨1, [(0, rKf (spoAll (kl f n us)) n)]⟩ else none
    | _ => none
  | _, _ => none
theorem okLoopSpo : LoopFn Try.prog 21 0 fLoopSpo := fun R E st G h hs nb hnb k r hk => by
  unfold fLoopSpo at h
  split at h
  · rename_i n n1 i g0 g2
    split at h
    · rename_i N f us hm
      simp only [Option.some.injEq] at h
      subst h
      obtain ⟨hc, hk1⟩ := cond_some hk
      clear hk
      simp only [Bool.and_eq_true, decide_eq_true_eq] at hc
      obtain ⟨⟨⟨⟨c1, c3⟩, c4⟩, c5⟩, c6, c7⟩ := hc
      have d1 := Nat.eq_of_beq_eq_true c1
      have d4 := Nat.le_of_ble_eq_true c4
      clear c1
      obtain ⟨next, mem⟩ := st
      dsimp only at hm d1
      subst hm; subst d1; subst c3; subst c6; subst c7
      have hl := (loopSpo (kl f n us) (by rw [kl_length]; unfold LIM at d4; omega) hnb hs).2
      have hw : Weak nb (szOf Try.prog 21) E ⟨1, [(0, .cells [.arr 2 n f us] true true)]⟩ (slots (lSpo (kl f n us).length 0) (Env.mk 5)) ⟨1, [(0, rKf (kl f n us) (kl f n us).length)]⟩ := weak_pull id (fun _ _ => rfl) hnb (fun p hp κ y hy => by
        rw [kl_length] at hp
        simp only [lSpo, List.mem_cons, List.not_mem_nil, or_false] at hp
        rcases hp with rfl | rfl
        · dsimp only at hy; rw [g0] at hy; exact VRel.pull_slc rfl (by dsimp only; omega) hy
        · dsimp only at hy; rw [g2] at hy; exact VRel.pull rfl hy) (fun m r2 hf => by
        have hp := List.mem_singleton.1 (find_mem _ _ _ hf)
        simp only [Prod.mk.injEq] at hp
        obtain ⟨rfl, rfl⟩ := hp
        rw [kl_length]
        exact ⟨_, rfl, RowLe.arr (by dsimp only; omega) id (fun i hi => kf_kl c5 hi), fun _ => rfl⟩) (fun _ _ _ _ _ _ h => h)
      rw [kl_length] at hl hw
      exact ⟨.exit 0, _, _, hk1, Nat.le_refl _, hl.weak hw⟩
    · cases h
  · cases h
def LCC1 : LT := addL 21 0 fLoopSpo L0
theorem LCC1_ok : LOk Try.prog LCC1 := addL_ok sprog_ok.1 (by kernel_rfl) okLoopSpo l0_ok
theorem evSpoil (zs : List (Int × Int)) (N : Nat) : evFn Try.prog KC1 LCC1 (regB Try.prog) 60 21 [.slc 0 [] 0 0 2 N N] ⟨1, [(0, rKf zs N)]⟩ ret =
  (bif true && true && Nat.ble N LIM && okL (kf zs) N [] && (decide (N = N) && decide (N = N)) then
    bif Nat.ble N N then bif Nat.ble ((N + 1) * 16) LIM then bif Nat.ble (N + 1) (N + 1) then bif Nat.ble ((N + 2) * 16) LIM then bif Nat.ble (N + 2) (N + 2) then bif Nat.ble ((N + 3) * 16) LIM then
    bif Nat.ble (N + 3) (N + 3) then bif Nat.ble ((N + 4) * 16) LIM then bif Nat.ble (N + 4) (N + 4) then bif Nat.ble ((N + 5) * 16) LIM then bif Nat.ble (N + 5) (N + 5) then bif Nat.ble ((N + 6) * 16) LIM then some (.tup []) else none
    else none else none else none else none else none else none else none else none else none else none else none else none) := by kernel_rfl
/-- The list is written over, and may not be looked at any more. -/
def KSpo {R : Type} (vs : List AV) (st : AS) : Option ((Ent → Option R) → Option R) :=
  match vs with
  | [.slc q [] 0 0 2 n n1] => match find st.mem q with
    | some (.cells [.arr 2 N f us] true true) => some fun k => bif okL f n us && (decide (n = N) && decide (n = n1)) && Nat.ble ((n + 6) * 16) LIM then k ⟨.tup [], [(q, none)], 0, [q]⟩ else none
    | _ => none
  | _ => none
theorem KSpo_ok {R : Type} {vs : List AV} {st : AS} {F : (Ent → Option R) → Option R} (h : KSpo vs st = some F) {k : Ent → Option R} {r : R} (hk : F k = some r) : ∃ e, k e = some r ∧ CallEnt Try.prog 21 vs st.next (find st.mem) e := by
  unfold KSpo at h
  split at h
  · rename_i q n n1
    split at h
    · rename_i N f us hf
      simp only [Option.some.injEq] at h
      subst h
      obtain ⟨hc, hk1⟩ := cond_some hk
      simp only [Bool.and_eq_true, decide_eq_true_eq] at hc
      obtain ⟨⟨c1, c2, c3⟩, c4⟩ := hc
      subst c2; subst c3
      have hle := Nat.le_of_ble_eq_true c4
      refine ⟨_, hk1, row_ent (o := none) rfl hf rfl rfl (fun _ h => by cases h) (fun κ ys hy => hy.oneSlc rfl) ?_⟩
      refine SoundFn.row (r2 := rKf (kl f n us) n) (fun κ w h => h.arrExt fun i hi => kf_kl c1 hi) (fun _ => rfl) ?_
      have hn : (kl f n us).length = n := kl_length
      have hev := evSpoil (kl f n us) n
      have b1 : ∀ j, j ≤ 6 → Nat.ble ((n + j) * 16) LIM = true := fun j hj => Nat.ble_eq_true_of_le (Nat.le_trans (Nat.mul_le_mul_right 16 (by omega)) hle)
      have b2 : ∀ j : Nat, Nat.ble j j = true := fun j => by simp
      have b3 : Nat.ble n LIM = true := Nat.ble_eq_true_of_le (by omega)
      have b4 : okL (kf (kl f n us)) n [] = true := okL_kf _ _
      rw [b2, b1 1 (by omega), b2, b1 2 (by omega), b2, b1 3 (by omega), b2, b1 4 (by omega), b2, b1 5 (by omega), b2, b1 6 (by omega), b3, b4] at hev
      simp only [decide_true, Bool.and_self, cond_true] at hev
      obtain ⟨v, st1, hk2, _, hs⟩ := evFn_ok sprog_ok.1 KC1_ok LCC1_ok (regB_ok sprog_ok.1 sprog_ok.2) rfl hev
      simp only [ret, Option.some.injEq] at hk2
      subst hk2
      exact hs.keep1 (o := none) rfl fun _ h => by cases h
    · cases h
  · cases h

/-! ### kept -/
def lKep (v : AV) (ys : List (Int × Int)) (m N i : Nat) : List (Nat × AV) := [(4, v), (1, .lst 2 (kf ys) m []), (5, .slc 0 [] 0 0 2 N N), (6, .int .i64 (Int.ofNat i))]
theorem gKep (v : AV) (ys : List (Int × Int)) (m N i : Nat) : (slots (lKep v ys m N i) (Env.mk 6)).get 4 = v := by kernel_rfl
def nKep (ys : List (Int × Int)) (m N i : Nat) : Env := ((((Env.mk 6).set 4 .any).set 1 (.lst 2 (kf ys) m [])).set 5 (.slc 0 [] 0 0 2 N N)).set 6 (.int .i64 (IntKind.i64.wrap (Int.ofNat (i + 1))))
def mKep (zs ys : List (Int × Int)) (m N i : Nat) : Option (EK × Env × List (Option Row)) :=
  bif decide (Int.ofNat i ≥ (m : Int)) then bif decide (Int.ofNat i < (N : Int)) then bif Nat.blt i N then
    bif (bif false then true else bif true then !((zs.getD i (0, 0)).1 == -7 && ((zs.getD i (0, 0)).2 == IntKind.i64.wrap (Int.ofNat i - Int.ofNat m) && true)) else false) then some (.ret, slots (lKep (.bool false) ys m N i) (Env.mk 6), [(0, rKf zs N)].map (fun p => some p.2))
    else some (.normal, nKep ys m N i, [(0, rKf zs N)].map (fun p => some p.2))
  else none else none else some (.normal, nKep ys m N i, [(0, rKf zs N)].map (fun p => some p.2))
theorem evKep (zs ys : List (Int × Int)) (m N i : Nat) : evCode Try.prog KC1 L0 (regB Try.prog) 60 22 (loopOf Try.prog 22 0) (slots (lKep .any ys m N i) (Env.mk 6)) ⟨1, [(0, rKf zs N)]⟩ (fun e E' st' => some (e, keepE E' [4, 1, 5, 6] (Env.mk 6), [(0, rKf zs N)].map (fun p => find st'.mem p.1))) =
  (bif decide (Int.ofNat i < (N : Int)) then bif decide (Int.ofNat i < (m : Int)) then bif decide (Int.ofNat i < (N : Int)) then bif Nat.blt i N then bif decide (Int.ofNat i < (m : Int)) then
    bif (bif true then !((zs.getD i (0, 0)).1 == (ys.getD i (0, 0)).1 && ((zs.getD i (0, 0)).2 == (ys.getD i (0, 0)).2 && true)) else false) then some (.ret, slots (lKep (.bool false) ys m N i) (Env.mk 6), [(0, rKf zs N)].map (fun p => some p.2))
    else mKep zs ys m N i
  else none else none else none else mKep zs ys m N i
  else some (.exit 0, slots (lKep .any ys m N i) (Env.mk 6), [(0, rKf zs N)].map (fun p => some p.2))) := by kernel_rfl
theorem marks_get {j : Nat} (h : j < 4) : marks.getD j (0, 0) = (-7, (j : Int)) := by
  match j, h with
  | 0, _ => rfl
  | 1, _ => rfl
  | 2, _ => rfl
  | 3, _ => rfl
theorem evKep1 (zs ys : List (Int × Int)) (m N i : Nat) (hN : N = m + 4) (hm : ys.length = m) (hi : i < N) (hb : N < 4611686018427387904) : evCode Try.prog KC1 L0 (regB Try.prog) 60 22 (loopOf Try.prog 22 0) (slots (lKep .any ys m N i) (Env.mk 6)) ⟨1, [(0, rKf zs N)]⟩ (fun e E' st' => some (e, keepE E' [4, 1, 5, 6] (Env.mk 6), [(0, rKf zs N)].map (fun p => find st'.mem p.1))) =
    bif ((zs.getD i (0, 0)).1 == ((ys ++ marks).getD i (0, 0)).1 && ((zs.getD i (0, 0)).2 == ((ys ++ marks).getD i (0, 0)).2 && true)) then some (.normal, slots (lKep .any ys m N (i + 1)) (Env.mk 6), [(0, rKf zs N)].map (fun p => some p.2))
    else some (.ret, slots (lKep (.bool false) ys m N i) (Env.mk 6), [(0, rKf zs N)].map (fun p => some p.2)) := by
  rw [evKep]
  have h1 : decide (Int.ofNat i < (N : Int)) = true := dec_lt' hi
  have h2 : Nat.blt i N = true := by simp [hi]
  have hn : nKep ys m N i = slots (lKep .any ys m N (i + 1)) (Env.mk 6) := by
    unfold nKep
    rw [wrapNat (show i < 9223372036854775807 by omega)]; rfl
  unfold mKep
  rw [hn, h1, h2]
  by_cases hlt : i < m
  · have e1 : decide (Int.ofNat i < (m : Int)) = true := dec_lt' hlt
    have e2 : decide (Int.ofNat i ≥ (m : Int)) = false := decide_eq_false (by simp; omega)
    have e3 : (ys ++ marks).getD i (0, 0) = ys.getD i (0, 0) := by simp only [List.getD_eq_getElem?_getD, List.getElem?_append_left (show i < ys.length by omega)]
    rw [e1, e2, e3]
    simp only [cond_true, cond_false]
    cases ((zs.getD i (0, 0)).1 == (ys.getD i (0, 0)).1 && ((zs.getD i (0, 0)).2 == (ys.getD i (0, 0)).2 && true)) <;> rfl
  · have e1 : decide (Int.ofNat i < (m : Int)) = false := decide_eq_false (by simp; omega)
    have e2 : decide (Int.ofNat i ≥ (m : Int)) = true := decide_eq_true (by simp; omega)
    have e3 : (ys ++ marks).getD i (0, 0) = (-7, ((i - m : Nat) : Int)) := by
      rw [← marks_get (show i - m < 4 by omega)]
      simp only [List.getD_eq_getElem?_getD, List.getElem?_append_right (show ys.length ≤ i by omega), hm]
    have e4 : IntKind.i64.wrap (Int.ofNat i - Int.ofNat m) = ((i - m : Nat) : Int) := by
      have : (Int.ofNat i - Int.ofNat m : Int) = ((i - m : Nat) : Int) := by simp; omega
      rw [this]; exact wrap_in64 (by omega) (by omega)
    rw [e1, e2, e3, e4]
    simp only [cond_true, cond_false]
    cases ((zs.getD i (0, 0)).1 == -7 && ((zs.getD i (0, 0)).2 == ((i - m : Nat) : Int) && true)) <;> rfl
theorem loopKep (zs ys : List (Int × Int)) (hz : zs.length = ys.length + 4) (hb : zs.length < 4611686018427387904) {nb : Nat} (hnb : nb ≤ 1) (hs : SubOk Try.prog 22 (loopOf Try.prog 22 0)) :
    LoopOk Try.prog nb (szOf Try.prog 22) (loopOf Try.prog 22 0) (slots (lKep .any ys ys.length zs.length 0) (Env.mk 6)) ⟨1, [(0, rKf zs zs.length)]⟩
      (bif eqL zs (ys ++ marks) then Fin3.mk (.exit 0) (slots [] (Env.mk 6)) ⟨1, [(0, rKf zs zs.length)]⟩ else ⟨.ret, slots [(4, .bool false)] (Env.mk 6), ⟨1, [(0, rKf zs zs.length)]⟩⟩).e
      (bif eqL zs (ys ++ marks) then Fin3.mk (.exit 0) (slots [] (Env.mk 6)) ⟨1, [(0, rKf zs zs.length)]⟩ else ⟨.ret, slots [(4, .bool false)] (Env.mk 6), ⟨1, [(0, rKf zs zs.length)]⟩⟩).E
      (bif eqL zs (ys ++ marks) then Fin3.mk (.exit 0) (slots [] (Env.mk 6)) ⟨1, [(0, rKf zs zs.length)]⟩ else ⟨.ret, slots [(4, .bool false)] (Env.mk 6), ⟨1, [(0, rKf zs zs.length)]⟩⟩).st := by
  rw [← stSam_fold]
  refine loop_fold stSam zs (0, 0) (fun i s => s = (ys ++ marks).drop i) (fun i _ => (slots (lKep .any ys ys.length zs.length i) (Env.mk 6), ⟨1, [(0, rKf zs zs.length)]⟩)) (fun _ => ⟨.exit 0, slots [] (Env.mk 6), ⟨1, [(0, rKf zs zs.length)]⟩⟩) (fun _ => ⟨.ret, slots [(4, .bool false)] (Env.mk 6), ⟨1, [(0, rKf zs zs.length)]⟩⟩) (fun i s hI hi => ?_) (fun _ _ => ?_) (fun _ h => by cases h) (fun _ h => by cases h) zs 0 (ys ++ marks) rfl rfl (Nat.zero_le _)
  · have hi' : i < (ys ++ marks).length := by rw [List.length_append]; exact Nat.lt_of_lt_of_eq hi hz
    have hs2 : s = (ys ++ marks).getD i (0, 0) :: (ys ++ marks).drop (i + 1) := hI.trans (drop_getD hi')
    have hev := evKep1 zs ys ys.length zs.length i hz rfl hi hb
    rw [hs2]
    simp only [stSam]
    cases hbq : ((zs.getD i (0, 0)).1 == ((ys ++ marks).getD i (0, 0)).1 && ((zs.getD i (0, 0)).2 == ((ys ++ marks).getD i (0, 0)).2 && true)) with
    | true =>
      rw [hbq, cond_true] at hev
      exact ⟨rfl, code_rows sprog_ok.1 sprog_ok.2 KC1_ok l0_ok (fuel := 60) (ts := [4, 1, 5, 6]) hs hnb hnb rfl rfl hev⟩
    | false =>
      rw [hbq, cond_false] at hev
      exact (code_rows sprog_ok.1 sprog_ok.2 KC1_ok l0_ok (fuel := 60) (ts := [4, 1, 5, 6]) hs hnb hnb rfl rfl hev).less (less_slots fun p hp => by rw [List.mem_singleton.1 hp]; exact gKep _ _ _ _ _)
  · have hev := evKep zs ys ys.length zs.length zs.length
    simp only [dec_nlt', cond_false] at hev
    exact (code_rows sprog_ok.1 sprog_ok.2 KC1_ok l0_ok (fuel := 60) (ts := [4, 1, 5, 6]) hs hnb hnb rfl rfl hev).less (mk_less 6 _)
def fLoopKep (R : Type) (E : Env) (st : AS) : Option ((EK → Env → AS → Option R) → Option R) :=
  match E.get 1, E.get 5, E.get 6 with
  | .lst 2 g m vs, .slc 0 [] 0 0 2 n n1, .int .i64 i => match st.mem with
    | [(0, .cells [.arr 2 N f us] true true)] => some fun k => bif Nat.beq st.next 1 && decide (i = 0) && Nat.ble N LIM && (okL f N us && okL g m vs) && ((decide (n = N) && decide (n1 = N)) && decide (N = m + 4)) then
        bif eqL (kl f N us) (kl g m vs ++ marks) then k .normal (slots [] (Env.mk 6)) ⟨1, [(0, rKf (kl f N us) N)]⟩ else k .ret (slots [(4, .bool false)] (Env.mk 6)) ⟨1, [(0, rKf (kl f N us) N)]⟩ else none
    | _ => none
  | _, _, _ => none
theorem okLoopKep : LoopFn Try.prog 22 0 fLoopKep := fun R E st G h hs nb hnb k r hk => by
  unfold fLoopKep at h
  split at h
  · rename_i g m vs n n1 i g1 g5 g6
    split at h
    · rename_i N f us hm
      simp only [Option.some.injEq] at h
      subst h
      obtain ⟨hc, hk1⟩ := cond_some hk
      clear hk
      simp only [Bool.and_eq_true, decide_eq_true_eq] at hc
      obtain ⟨⟨⟨⟨c1, c3⟩, c4⟩, c5, c8⟩, ⟨c6, c7⟩, c9⟩ := hc
      have d1 := Nat.eq_of_beq_eq_true c1
      have d4 := Nat.le_of_ble_eq_true c4
      clear c1
      have c7' : n = n1 := c6.trans c7.symm
      clear c7
      obtain ⟨next, mem⟩ := st
      dsimp only at hm d1
      subst hm; subst d1; subst c3; subst c6; subst c7'
      have hl := loopKep (kl f n us) (kl g m vs) (by rw [kl_length, kl_length]; exact c9) (by rw [kl_length]; unfold LIM at d4; omega) hnb hs
      have hw : Weak nb (szOf Try.prog 22) E ⟨1, [(0, .cells [.arr 2 n f us] true true)]⟩ (slots (lKep .any (kl g m vs) (kl g m vs).length (kl f n us).length 0) (Env.mk 6)) ⟨1, [(0, rKf (kl f n us) (kl f n us).length)]⟩ := weak_pull id (fun _ _ => rfl) hnb (fun p hp κ y hy => by
        rw [kl_length, kl_length] at hp
        simp only [lKep, List.mem_cons, List.not_mem_nil, or_false] at hp
        rcases hp with rfl | rfl | rfl | rfl
        · exact vrel_any _ _
        · dsimp only at hy; rw [g1] at hy; exact VRel.pull rfl (hy.pairs c8)
        · dsimp only at hy; rw [g5] at hy; exact VRel.pull_slc rfl (by dsimp only; omega) hy
        · dsimp only at hy; rw [g6] at hy; exact VRel.pull rfl hy) (fun m r2 hf => by
        have hp := List.mem_singleton.1 (find_mem _ _ _ hf)
        simp only [Prod.mk.injEq] at hp
        obtain ⟨rfl, rfl⟩ := hp
        rw [kl_length]
        exact ⟨_, rfl, RowLe.arr (by dsimp only; omega) id (fun i hi => kf_kl c5 hi), fun _ => rfl⟩) (fun _ _ _ _ _ _ h => h)
      have hl := hl.weak hw
      rw [kl_length] at hl
      cases hf : eqL (kl f n us) (kl g m vs ++ marks) with
      | true =>
        rw [hf] at hl hk1
        exact ⟨.exit 0, _, _, hk1, Nat.le_refl _, hl⟩
      | false =>
        rw [hf] at hl hk1
        exact ⟨.ret, _, _, hk1, Nat.le_refl _, hl⟩
    · cases h
  · cases h
def LCC2 : LT := addL 22 0 fLoopKep L0
theorem LCC2_ok : LOk Try.prog LCC2 := addL_ok sprog_ok.1 (by kernel_rfl) okLoopKep l0_ok
theorem evKept (zs ys : List (Int × Int)) (m : Nat) : evFn Try.prog KC1 LCC2 (regB Try.prog) 60 22 [.slc 0 [] 0 0 2 m (m + 4), .lst 2 (kf ys) m []] ⟨1, [(0, rKf zs (m + 4))]⟩ (fun v st => some (v, find st.mem 0)) =
  (bif decide (0 ≤ IntKind.i64.wrap ((m : Int) + 4)) then bif decide (IntKind.i64.wrap ((m : Int) + 4) ≤ Int.ofNat (m + 4)) then
    bif true && true && Nat.ble (m + 4) LIM && (okL (kf zs) (m + 4) [] && okL (kf ys) m []) && ((decide (sub0 (IntKind.i64.wrap ((m : Int) + 4)).toNat 0 = m + 4) && decide (sub0 (m + 4) 0 = m + 4)) && decide (m + 4 = m + 4)) then
      bif eqL (kl (kf zs) (m + 4) []) (kl (kf ys) m [] ++ marks) then some (.bool true, some (rKf (kl (kf zs) (m + 4) []) (m + 4))) else some (.bool false, some (rKf (kl (kf zs) (m + 4) []) (m + 4)))
    else none else none else none) := by kernel_rfl
theorem sub0_zero (n : Nat) : sub0 n 0 = n := by unfold sub0; simp
def KKep {R : Type} (vs : List AV) (st : AS) : Option ((Ent → Option R) → Option R) :=
  match vs with
  | [.slc q [] 0 0 2 n cap, .lst 2 g m us'] => match find st.mem q with
    | some (.cells [.arr 2 N f us] true true) => some fun k => bif (okL f N us && okL g m us') && ((decide (n = m) && decide (cap = m + 4)) && decide (N = m + 4)) && Nat.ble (m + 4) LIM then
        k ⟨.bool (eqL (kl f N us) (kl g m us' ++ marks)), [(q, some (rKf (kl f N us) N))], 0, [q]⟩ else none
    | _ => none
  | _ => none
theorem KKep_ok {R : Type} {vs : List AV} {st : AS} {F : (Ent → Option R) → Option R} (h : KKep vs st = some F) {k : Ent → Option R} {r : R} (hk : F k = some r) : ∃ e, k e = some r ∧ CallEnt Try.prog 22 vs st.next (find st.mem) e := by
  unfold KKep at h
  split at h
  · rename_i q n cap g m us'
    split at h
    · rename_i N f us hf
      simp only [Option.some.injEq] at h
      subst h
      obtain ⟨hc, hk1⟩ := cond_some hk
      simp only [Bool.and_eq_true, decide_eq_true_eq] at hc
      obtain ⟨⟨⟨c1, c2⟩, ⟨c3, c4⟩, c5⟩, c6⟩ := hc
      subst c3; subst c4; subst c5
      have hle := Nat.le_of_ble_eq_true c6
      refine ⟨_, hk1, row_ent (o := some (rKf (kl f (n + 4) us) (n + 4))) rfl hf rfl rfl (fun r' h => by cases h; rfl) (fun κ ys hy => hy.oneSlc rfl) ?_⟩
      refine SoundFn.row (r2 := rKf (kl f (n + 4) us) (n + 4)) (fun κ w h => h.arrExt fun i hi => kf_kl c1 hi) (fun _ => rfl) ?_
      have hz : (kl f (n + 4) us).length = n + 4 := kl_length
      have hy : (kl g n us').length = n := kl_length
      refine SoundFn.args (vs' := [.slc 0 [] 0 0 2 n (n + 4), .lst 2 (kf (kl g n us')) n []]) ?_ fun κ ys h => h.cons_map (fun _ h => h) (fun ys h => h.cons_map (fun y hy => hy.pairs c2) (fun _ h => h) rfl) rfl
      have hev := evKept (kl f (n + 4) us) (kl g n us') n
      have k1 : kl (kf (kl f (n + 4) us)) (n + 4) [] = kl f (n + 4) us := by have := kl_kf (kl f (n + 4) us); rwa [hz] at this
      have k2 : kl (kf (kl g n us')) n [] = kl g n us' := by have := kl_kf (kl g n us'); rwa [hy] at this
      have w1 : IntKind.i64.wrap ((n : Int) + 4) = ((n + 4 : Nat) : Int) := by
        have : ((n : Int) + 4) = ((n + 4 : Nat) : Int) := by omega
        unfold LIM at hle
        rw [this]; exact wrap_in64 (by omega) (by omega)
      have w2 : decide ((0 : Int) ≤ ((n + 4 : Nat) : Int)) = true := decide_eq_true (by omega)
      have w3 : decide (((n + 4 : Nat) : Int) ≤ Int.ofNat (n + 4)) = true := decide_eq_true (Int.le_refl _)
      have w4 : (((n + 4 : Nat) : Int)).toNat = n + 4 := by omega
      rw [w1, w2, w3, w4, sub0_zero, k1, k2, okL_kf, okL_kf, c6] at hev
      simp only [decide_true, Bool.and_self, cond_true] at hev
      have hev2 : evFn Try.prog KC1 LCC2 (regB Try.prog) 60 22 [.slc 0 [] 0 0 2 n (n + 4), .lst 2 (kf (kl g n us')) n []] ⟨1, [(0, rKf (kl f (n + 4) us) (n + 4))]⟩ (fun v st => some (v, find st.mem 0)) = some (.bool (eqL (kl f (n + 4) us) (kl g n us' ++ marks)), some (rKf (kl f (n + 4) us) (n + 4))) := hev.trans (by cases eqL (kl f (n + 4) us) (kl g n us' ++ marks) <;> rfl)
      obtain ⟨v, st1, hk2, _, hs⟩ := evFn_ok sprog_ok.1 KC1_ok LCC2_ok (regB_ok sprog_ok.1 sprog_ok.2) rfl hev2
      simp only [Option.some.injEq, Prod.mk.injEq] at hk2
      obtain ⟨rfl, hrow⟩ := hk2
      exact hs.keep1 rfl fun r' h => by cases h; exact ⟨hrow, rfl⟩
    · cases h
  · cases h
end Go.Sv
namespace Go.Sv
open Go.RowKit Go.Proofs
def hasCD : FuncId → Bool := addHas 39 (addHas 40 (addHas 41 (addHas 42 (addHas 17 (addHas 23 hasC9)))))
def specCD : SpecT := addS 39 fPrv (addS 40 fPrv (addS 41 fFrg (addS 42 fFrg (addS 17 fSpa (addS 23 fTrue specC9)))))
theorem specCD_ok : SpecOk Try.prog hasCD specCD := addS_ok okPrv (addS_ok okPrv2 (addS_ok okFrg (addS_ok okFrg2 (addS_ok okSpa (addS_ok okWorks16 specC9_ok)))))
def KX : KT := fun _ g vs st => bif Nat.beq g 103 then K103 vs st else bif Nat.beq g 21 then KSpo vs st else bif Nat.beq g 22 then KKep vs st else none
theorem KX_ok : KOk Try.prog KX := fun R g vs st F h k r hF => by
  unfold KX at h
  cases h1 : Nat.beq g 103 with
  | true =>
    rw [h1] at h
    have := Nat.eq_of_beq_eq_true h1
    subst this
    exact K103_ok h hF
  | false =>
    rw [h1, cond_false] at h
    cases h2 : Nat.beq g 21 with
    | true =>
      rw [h2] at h
      have := Nat.eq_of_beq_eq_true h2
      subst this
      exact KSpo_ok h hF
    | false =>
      rw [h2, cond_false] at h
      obtain ⟨h3, h⟩ := cond_some h
      have := Nat.eq_of_beq_eq_true h3
      subst this
      exact KKep_ok h hF
def KCD : KT := orK (specK hasCD specCD) KX
theorem KCD_ok : KOk Try.prog KCD := orK_ok (specK_ok specCD_ok) KX_ok
end Go.Sv
namespace Go.Sv
open Go.RowKit Go.Proofs
theorem kl_app (xs ys : List (Int × Int)) : kl (kf (xs ++ ys)) xs.length [] = xs := by
  refine List.ext_getElem (by simp [kl]) fun i h1 h2 => ?_
  simp [kl, elt, kf, pairA, List.getD_eq_getElem?_getD, List.getElem?_append_left h2, List.getElem?_eq_getElem h2]
theorem kl_full (xs : List (Int × Int)) : kl (kf (xs ++ marks)) (xs.length + 4) [] = xs ++ marks := by
  have := kl_kf (xs ++ marks)
  rwa [List.length_append] at this
theorem eqL_self : ∀ xs : List (Int × Int), eqL xs xs = true
  | [] => rfl
  | x :: r => by simp [eqL, eqL_self r]
theorem samE_self (xs : List (Int × Int)) : samE xs xs = true := by simp [samE, eqL_self]
theorem ofF_len : ∀ (xs : List Int) (i : Nat), (ofF i xs).length ≤ xs.length
  | [], _ => by simp [ofF]
  | x :: r, i => by
    have := ofF_len r (i + 1)
    simp only [ofF]
    cases decide (x > 0) <;> simp <;> omega
theorem canF_len (g : Int → Int) : (canF g).length ≤ 257 := by
  unfold canF
  refine Nat.le_trans (ofF_len _ _) ?_
  rw [List.length_map, List.length_range]; exact Nat.le_refl _
theorem prvF_len (X : List (Int × Int)) (id c : Int) : (prvF X id c).1.length ≤ 257 := by
  unfold prvF
  cases (chkE X != 0)
  · cases (!idB id || decide (c < 0))
    · simp only [cond_false]; exact canF_len _
    · simp only [cond_false, cond_true, List.length_nil]; omega
  · simp only [cond_true, List.length_nil]; omega
theorem frgF_len (X : List (Int × Int)) (id : Int) : (frgF X id).1.length ≤ 257 := by
  unfold frgF
  cases (chkE X != 0)
  · cases (!idB id)
    · simp only [cond_false]; exact canF_len _
    · simp only [cond_false, cond_true, List.length_nil]; omega
  · simp only [cond_true, List.length_nil]; omega
theorem len_lim {L : Nat} (h : L ≤ 257) : Nat.ble L 140737488355328 = true ∧ Nat.ble ((L + 6) * 16) 140737488355328 = true := ⟨Nat.ble_eq_true_of_le (by omega), Nat.ble_eq_true_of_le (by omega)⟩
theorem add0_zero (n : Nat) : add0 0 n = n := rfl
theorem ble_self (n : Nat) : Nat.ble n n = true := by simp
theorem ble_add4 (n : Nat) : Nat.ble n (n + 4) = true := by simp
theorem bne_self {α : Type} [BEq α] [LawfulBEq α] (a : α) : (a != a) = false := by simp
theorem sized_facts {n : Nat} (h : n * 16 ≤ reachBytes) : Nat.ble ((n + 4) * 16) 140737488355328 = true ∧ Nat.ble n 140737488355328 = true ∧ Nat.ble (n + 4) 140737488355328 = true := by
  unfold reachBytes at h
  exact ⟨Nat.ble_eq_true_of_le (by omega), Nat.ble_eq_true_of_le (by omega), Nat.ble_eq_true_of_le (by omega)⟩
end Go.Sv
