/- The evaluator and the contracts that the walk leans on, part Bl: CM, CN, CO, P4. -/
import Derived.Test.YtmegbaeclpoidaaBk
namespace Go.Sv
open Go.RowKit Go.Proofs
set_option linter.unusedSimpArgs false

/-! ### arrays told anew -/
theorem CRel.arr_ext {κ : Kap} {w n : Nat} {f g : Nat → List AV} {us vs : List (Nat × List AV)} {xs xs' : List AV} {ys : List Value} (he : ∀ i, i < n → elt vs g i = elt us f i) (hx : ∀ ys, CRel κ xs ys → CRel κ xs' ys) (r : CRel κ (.arr w n f us :: xs) ys) : CRel κ (.arr w n g vs :: xs') ys := by
  cases r with
  | arr _ _ _ _ zs h1 h2 h3 h4 h5 h6 => exact .arr w n g vs zs h1 h2 (fun i hi => by rw [he i hi]; exact h3 i hi) (fun i hi => by rw [he i hi]; exact h4 i hi) h5 (hx _ h6)
theorem CRel.int_ext {κ : Kap} {k : IntKind} {n : Int} {xs xs' : List AV} {ys : List Value} (hx : ∀ ys, CRel κ xs ys → CRel κ xs' ys) (r : CRel κ (.int k n :: xs) ys) : CRel κ (.int k n :: xs') ys := by
  cases r with
  | int _ _ h => exact .int _ _ (hx _ h)
theorem VRel.agg_ext {κ : Kap} {c c' : List AV} {y : Value} (hx : ∀ ys, CRel κ c ys → CRel κ c' ys) (r : VRel κ (.agg c) y) : VRel κ (.agg c') y := by
  cases r with
  | agg _ zs h1 h2 => exact .agg _ zs (hx _ h1) h2

theorem RowLe.told {ρ : Nat → Nat} {next n : Nat} {c c' : List AV} {own tip : Bool} (hn : n < next) (hc : c.all noNm = true) (he : ∀ κ zs, CRel κ c zs → CRel κ c' zs) : RowLe ρ next n (.cells c own tip) (.cells c' own tip) := fun κ W h => by
  rcases h with ⟨h1, h2⟩ | ⟨b, zs, rest, e, fr, h1, h2, h3, h4, h5⟩
  · exact .inl ⟨by rw [Kap.pull_loc hn]; exact h1, he _ _ (CRel.noNm (κ.pull_nl ρ next) hc h2)⟩
  · exact .inr ⟨b, zs, rest, e, fr, by rw [Kap.pull_loc hn]; exact h1, h2, he _ _ (CRel.noNm (κ.pull_nl ρ next) hc h3), h4, h5⟩

/-! ### made -/
def wrldA (L : Int) (f : Nat → List AV) (us : List (Nat × List AV)) : AV := .agg [.int .i64 L, .arr 1 10 f us]
theorem wrld_ext {κ : Kap} {L : Int} {f g : Nat → List AV} {us vs : List (Nat × List AV)} {y : Value} (he : ∀ i, i < 10 → elt vs g i = elt us f i) (r : VRel κ (wrldA L f us) y) : VRel κ (wrldA L g vs) y := VRel.agg_ext (fun _ h => CRel.int_ext (fun _ h => CRel.arr_ext he (fun _ h => h) h) h) r
def madF (p : List Int) : List Int := 0 :: (List.range 9).map fun i => p.getD (i + 1) 0 % 3000
theorem evMade (L : Int) (p : List Int) : evFn Try.prog KC1 L0 (regB Try.prog) 80 28 [wrldA L (nf p) []] ⟨0, []⟩ ret =
  (some (AV.agg [AV.int IntKind.i64 (L % Int.ofNat 2049), AV.arr 1 10 (fun i => [AV.int IntKind.i64 (p.getD i 0)]) [(0, [AV.int IntKind.i64 (Int.ofNat 0)]), (9, [AV.int IntKind.i64 (p.getD 9 (Int.ofNat 0) % Int.ofNat 3000)]), (8, [AV.int IntKind.i64 (p.getD 8 (Int.ofNat 0) % Int.ofNat 3000)]), (7, [AV.int IntKind.i64 (p.getD 7 (Int.ofNat 0) % Int.ofNat 3000)]), (6, [AV.int IntKind.i64 (p.getD 6 (Int.ofNat 0) % Int.ofNat 3000)]), (5, [AV.int IntKind.i64 (p.getD 5 (Int.ofNat 0) % Int.ofNat 3000)]), (4, [AV.int IntKind.i64 (p.getD 4 (Int.ofNat 0) % Int.ofNat 3000)]), (3, [AV.int IntKind.i64 (p.getD 3 (Int.ofNat 0) % Int.ofNat 3000)]), (2, [AV.int IntKind.i64 (p.getD 2 (Int.ofNat 0) % Int.ofNat 3000)]), (1, [AV.int IntKind.i64 (p.getD 1 (Int.ofNat 0) % Int.ofNat 3000)]), (0, [AV.int IntKind.i64 (p.getD 0 (Int.ofNat 0) % Int.ofNat 3000)])]])) := by kernel_rfl
def fMad (R : Type) (vs : List AV) (k : AV → AS → Option R) : Option R :=
  match vs with
  | [.agg [.int .i64 L, .arr 1 10 f us]] => bif okN f 10 us then k (wrldA (L % 2049) (nf (madF (nl f 10 us))) []) ⟨0, []⟩ else none
  | _ => none
theorem SoundFn.told {g : FuncId} {vs : List AV} {st st' : AS} {v v' : AV} (h : SoundFn Try.prog g vs st v st') (hv : ∀ κ y, VRel κ v y → VRel κ v' y) : SoundFn Try.prog g vs st v' st' := fun κ us w hl hR =>
  (h κ us w hl hR).mono fun e w' he => by
    obtain ⟨κ', y, h1, h2, h3, h4⟩ := he
    exact ⟨κ', y, h1, h2, hv _ _ h3, h4⟩
theorem flat_wrld {L : Int} {p : List Int} : flatV 4 (wrldA L (nf p) []) := fun x hx => by
  simp only [List.mem_cons, List.not_mem_nil, or_false] at hx
  rcases hx with rfl | rfl
  · trivial
  · exact fun i _ x hx => by
      simp only [elt, nf, List.mem_cons, List.not_mem_nil, or_false] at hx
      subst hx; trivial
theorem okMad : FnOk Try.prog 28 fMad := fun R vs k r h => by
  unfold fMad at h
  split at h
  · rename_i L f us
    obtain ⟨hc, h⟩ := cond_some h
    refine ⟨_, _, h, ⟨flat_wrld, fun p hp => by cases hp⟩, ?_⟩
    refine SoundFn.told (SoundFn.args (vs' := [wrldA L (nf (nl f 10 us)) []]) (fn_plain sprog_ok.1 sprog_ok.2 KC1_ok l0_ok (fuel := 80) rfl rfl (evMade L (nl f 10 us))) fun κ ys hy => hy.cons_map (fun y hy => ?_) (fun _ h => h) rfl) fun κ y hy => ?_
    · exact wrld_ext (fun i hi => nf_nl hc hi) hy
    · refine wrld_ext (fun i hi => ?_) hy
      match i, hi with
      | 0, _ => rfl
      | 1, _ => rfl
      | 2, _ => rfl
      | 3, _ => rfl
      | 4, _ => rfl
      | 5, _ => rfl
      | 6, _ => rfl
      | 7, _ => rfl
      | 8, _ => rfl
      | 9, _ => rfl
  · cases h

/-! ### so -/
def soF (op a b : Int) : Bool := bif op == 29 then decide (a < b) else bif op == 30 then decide (a ≤ b) else bif op == 31 then decide (a > b) else decide (a ≥ b)
def fSo (R : Type) (vs : List AV) (k : AV → AS → Option R) : Option R :=
  match vs with
  | [.int .u8 op, .int .i64 a, .int .i64 b] => k (.bool (soF op a b)) ⟨0, []⟩
  | _ => none
theorem evSo (op a b : Int) : evFn Try.prog K0 L0 (regB Try.prog) 60 31 [.int .u8 op, .int .i64 a, .int .i64 b] ⟨0, []⟩ ret =
  (bif op == Int.ofNat 29 then some (AV.bool (decide (a < b))) else bif op == Int.ofNat 30 then some (AV.bool (decide (a ≤ b))) else bif op == Int.ofNat 31 then some (AV.bool (decide (a > b))) else some (AV.bool (decide (a ≥ b)))) := by kernel_rfl
theorem okSo : FnOk Try.prog 31 fSo := fnOk_plain sprog_ok.1 sprog_ok.2 k0_ok l0_ok fun R vs k r h => by
  unfold fSo at h
  split at h
  · rename_i op a b
    refine ⟨_, h, trivial, rfl, rfl, 60, ?_⟩
    rw [evSo]
    have h1 : (op == Int.ofNat 29) = (op == 29) := rfl
    have h2 : (op == Int.ofNat 30) = (op == 30) := rfl
    have h3 : (op == Int.ofNat 31) = (op == 31) := rfl
    simp only [h1, h2, h3, soF]
    cases (op == 29) <;> cases (op == 30) <;> cases (op == 31) <;> rfl
  · cases h

/-! ### holds -/
def hitB (L : Int) (P : List Int) (x : Int × Int) : Bool := !decide (x.1 ≥ 10) && !decide (IntKind.i64.wrap (P.getD x.1.toNat 0 + x.2) > L)
def holF (L : Int) (P : List Int) (X : List (Int × Int)) : Bool := X.all (hitB L P)
def stHol (L : Int) (P : List Int) (_ : Unit) (x : Int × Int) : Unit ⊕ Unit := bif hitB L P x then .inl () else .inr ()
theorem stHol_fold {γ : Type} (L : Int) (P : List Int) (a b : γ) : ∀ (xs : List (Int × Int)), fork (fun _ => a) (fun _ => b) (foldX (stHol L P) () xs) = bif holF L P xs then a else b
  | [] => rfl
  | x :: r => by
    have ih := stHol_fold L P a b r
    simp only [foldX, stHol, holF, List.all_cons]
    cases hc : hitB L P x with
    | true => simp only [cond_true, Bool.true_and]; exact ih
    | false => simp [fork]
def rHol (L : Int) (P : List Int) (t : Bool) : Row := .cells [.int .i64 L, .arr 1 10 (nf P) []] true t
def lHol (v : AV) (xs : List (Int × Int)) (n i : Nat) : List (Nat × AV) := [(4, v), (1, .lst 2 (kf xs) n []), (2, .ptr 0 [] 0), (5, .int .i64 (Int.ofNat i))]
theorem gHol (v : AV) (xs : List (Int × Int)) (n i : Nat) : (slots (lHol v xs n i) (Env.mk 6)).get 4 = v := by kernel_rfl
theorem evHol (L : Int) (P : List Int) (t : Bool) (xs : List (Int × Int)) (n i : Nat) : evCode Try.prog KC1 L0 (regB Try.prog) 60 34 (loopOf Try.prog 34 0) (slots (lHol .any xs n i) (Env.mk 6)) ⟨1, [(0, rHol L P t)]⟩ (fun e E' st' => some (e, keepE E' [4, 1, 2, 5] (Env.mk 6), [(0, rHol L P t)].map (fun p => find st'.mem p.1))) =
  (bif decide (Int.ofNat i < (n : Int)) then bif decide (Int.ofNat i < (n : Int)) then
    bif decide ((xs.getD i (0, 0)).1 ≥ 10) then some (.ret, slots (lHol (.bool false) xs n i) (Env.mk 6), [(0, rHol L P t)].map (fun p => some p.2)) else
    bif decide (Int.ofNat i < (n : Int)) then bif decide (0 ≤ (xs.getD i (0, 0)).1) then bif decide ((xs.getD i (0, 0)).1 < ((10 : Nat) : Int)) then bif Nat.blt (xs.getD i (0, 0)).1.toNat 10 then bif decide (Int.ofNat i < (n : Int)) then
      bif (bif false then true else decide (IntKind.i64.wrap (P.getD (xs.getD i (0, 0)).1.toNat 0 + (xs.getD i (0, 0)).2) > L)) then some (.ret, slots (lHol (.bool false) xs n i) (Env.mk 6), [(0, rHol L P t)].map (fun p => some p.2)) else
      some (.normal, ((((Env.mk 6).set 4 .any).set 1 (.lst 2 (kf xs) n [])).set 2 (.ptr 0 [] 0)).set 5 (.int .i64 (IntKind.i64.wrap (Int.ofNat (i + 1)))), [(0, rHol L P t)].map (fun p => some p.2))
    else none else none else none else none else none
  else none else some (.exit 0, slots (lHol .any xs n i) (Env.mk 6), [(0, rHol L P t)].map (fun p => some p.2))) := by kernel_rfl
def nnId (xs : List (Int × Int)) : Bool := xs.all fun x => decide (0 ≤ x.1)
theorem nn_get {xs : List (Int × Int)} {i : Nat} (h : nnId xs = true) (hi : i < xs.length) : 0 ≤ (xs.getD i (0, 0)).1 := by
  have h1 : xs.getD i (0, 0) ∈ xs := by
    rw [List.getD_eq_getElem?_getD, List.getElem?_eq_getElem hi]; exact List.getElem_mem hi
  exact of_decide_eq_true (List.all_eq_true.1 h _ h1)
theorem loopHol (L : Int) (P : List Int) (t : Bool) (xs : List (Int × Int)) (hx : xs.length < 4611686018427387904) (hid : nnId xs = true) {nb : Nat} (hnb : nb ≤ 1) (hs : SubOk Try.prog 34 (loopOf Try.prog 34 0)) :
    LoopOk Try.prog nb (szOf Try.prog 34) (loopOf Try.prog 34 0) (slots (lHol .any xs xs.length 0) (Env.mk 6)) ⟨1, [(0, rHol L P t)]⟩
      (bif holF L P xs then Fin3.mk (.exit 0) (slots [] (Env.mk 6)) ⟨1, [(0, rHol L P t)]⟩ else ⟨.ret, slots [(4, .bool false)] (Env.mk 6), ⟨1, [(0, rHol L P t)]⟩⟩).e
      (bif holF L P xs then Fin3.mk (.exit 0) (slots [] (Env.mk 6)) ⟨1, [(0, rHol L P t)]⟩ else ⟨.ret, slots [(4, .bool false)] (Env.mk 6), ⟨1, [(0, rHol L P t)]⟩⟩).E
      (bif holF L P xs then Fin3.mk (.exit 0) (slots [] (Env.mk 6)) ⟨1, [(0, rHol L P t)]⟩ else ⟨.ret, slots [(4, .bool false)] (Env.mk 6), ⟨1, [(0, rHol L P t)]⟩⟩).st := by
  rw [← stHol_fold]
  refine loop_fold (stHol L P) xs (0, 0) (fun _ _ => True) (fun i _ => (slots (lHol .any xs xs.length i) (Env.mk 6), ⟨1, [(0, rHol L P t)]⟩)) (fun _ => ⟨.exit 0, slots [] (Env.mk 6), ⟨1, [(0, rHol L P t)]⟩⟩) (fun _ => ⟨.ret, slots [(4, .bool false)] (Env.mk 6), ⟨1, [(0, rHol L P t)]⟩⟩) (fun i s hI hi => ?_) (fun _ _ => ?_) (fun _ h => by cases h) (fun _ h => by cases h) xs 0 () trivial rfl (Nat.zero_le _)
  · have hev := evHol L P t xs xs.length i
    have h0 := nn_get hid hi
    simp only [dec_lt' hi, cond_true, decide_eq_true h0, wrapNat (show i < 9223372036854775807 by omega)] at hev
    simp only [stHol, hitB]
    generalize xs.getD i (0, 0) = x at hev h0 ⊢
    cases h1 : decide (x.1 ≥ 10) with
    | true =>
      simp only [h1, cond_true] at hev
      exact (code_rows sprog_ok.1 sprog_ok.2 KC1_ok l0_ok (fuel := 60) (ts := [4, 1, 2, 5]) hs hnb hnb rfl rfl hev).less (less_slots fun p hp => by rw [List.mem_singleton.1 hp]; exact gHol _ _ _ _)
    | false =>
      have h2 : decide (x.1 < ((10 : Nat) : Int)) = true := by
        have := of_decide_eq_false h1
        exact decide_eq_true (by omega)
      have h3 : Nat.blt x.1.toNat 10 = true := by
        have := of_decide_eq_true h2
        simp; omega
      simp only [h1, h2, h3, cond_true, cond_false] at hev
      cases h4 : decide (IntKind.i64.wrap (P.getD x.1.toNat 0 + x.2) > L) with
      | true =>
        simp only [h4, cond_true] at hev
        exact (code_rows sprog_ok.1 sprog_ok.2 KC1_ok l0_ok (fuel := 60) (ts := [4, 1, 2, 5]) hs hnb hnb rfl rfl hev).less (less_slots fun p hp => by rw [List.mem_singleton.1 hp]; exact gHol _ _ _ _)
      | false =>
        simp only [h4, cond_false] at hev
        exact ⟨trivial, code_rows sprog_ok.1 sprog_ok.2 KC1_ok l0_ok (fuel := 60) (ts := [4, 1, 2, 5]) (l := lHol .any xs xs.length (i + 1)) hs hnb hnb rfl rfl hev⟩
  · have hev := evHol L P t xs xs.length xs.length
    simp only [dec_nlt', cond_false] at hev
    exact (code_rows sprog_ok.1 sprog_ok.2 KC1_ok l0_ok (fuel := 60) (ts := [4, 1, 2, 5]) hs hnb hnb rfl rfl hev).less (mk_less 6 _)
def fLoopHol (R : Type) (E : Env) (st : AS) : Option ((EK → Env → AS → Option R) → Option R) :=
  match E.get 1, E.get 2, E.get 5 with
  | .lst 2 g m vs, .ptr 0 [] 0, .int .i64 i => match st.mem with
    | [(0, .cells [.int .i64 L, .arr 1 10 f us] true t)] => some fun k => bif Nat.beq st.next 1 && decide (i = 0) && Nat.ble m LIM && (okN f 10 us && okL g m vs) && nnId (kl g m vs) then
        bif holF L (nl f 10 us) (kl g m vs) then k .normal (slots [] (Env.mk 6)) ⟨1, [(0, rHol L (nl f 10 us) t)]⟩ else k .ret (slots [(4, .bool false)] (Env.mk 6)) ⟨1, [(0, rHol L (nl f 10 us) t)]⟩ else none
    | _ => none
  | _, _, _ => none
theorem okLoopHol : LoopFn Try.prog 34 0 fLoopHol := fun R E st G h hs nb hnb k r hk => by
  unfold fLoopHol at h
  split at h
  · rename_i g m vs i g1 g2 g5
    split at h
    · rename_i L f us t hm
      simp only [Option.some.injEq] at h
      subst h
      obtain ⟨hc, hk1⟩ := cond_some hk
      clear hk
      simp only [Bool.and_eq_true, decide_eq_true_eq] at hc
      obtain ⟨⟨⟨⟨c1, c3⟩, c4⟩, c5, c8⟩, c9⟩ := hc
      have d1 := Nat.eq_of_beq_eq_true c1
      have d4 := Nat.le_of_ble_eq_true c4
      clear c1
      obtain ⟨next, mem⟩ := st
      dsimp only at hm d1
      subst hm; subst d1; subst c3
      have hl := loopHol L (nl f 10 us) t (kl g m vs) (by rw [kl_length]; unfold LIM at d4; omega) c9 hnb hs
      have hw : Weak nb (szOf Try.prog 34) E ⟨1, [(0, .cells [.int .i64 L, .arr 1 10 f us] true t)]⟩ (slots (lHol .any (kl g m vs) (kl g m vs).length 0) (Env.mk 6)) ⟨1, [(0, rHol L (nl f 10 us) t)]⟩ := weak_pull id (fun _ _ => rfl) hnb (fun p hp κ y hy => by
        rw [kl_length] at hp
        simp only [lHol, List.mem_cons, List.not_mem_nil, or_false] at hp
        rcases hp with rfl | rfl | rfl | rfl
        · exact vrel_any _ _
        · dsimp only at hy; rw [g1] at hy; exact VRel.pull rfl (hy.pairs c8)
        · dsimp only at hy; rw [g2] at hy; exact VRel.pull_ptr rfl (by dsimp only; omega) hy
        · dsimp only at hy; rw [g5] at hy; exact VRel.pull rfl hy) (fun m r2 hf => by
        have hp := List.mem_singleton.1 (find_mem _ _ _ hf)
        simp only [Prod.mk.injEq] at hp
        obtain ⟨rfl, rfl⟩ := hp
        exact ⟨_, rfl, RowLe.told (by dsimp only; omega) rfl (fun κ zs hz => CRel.int_ext (fun _ h => CRel.arr_ext (fun i hi => nf_nl c5 hi) (fun _ h => h) h) hz), fun _ => rfl⟩) (fun _ _ _ _ _ _ h => h)
      have hl := hl.weak hw
      cases hf : holF L (nl f 10 us) (kl g m vs) with
      | true =>
        rw [hf] at hl hk1
        exact ⟨.exit 0, _, _, hk1, Nat.le_refl _, hl⟩
      | false =>
        rw [hf] at hl hk1
        exact ⟨.ret, _, _, hk1, Nat.le_refl _, hl⟩
    · cases h
  · cases h
def LCM1 : LT := addL 34 0 fLoopHol L0
theorem LCM1_ok : LOk Try.prog LCM1 := addL_ok sprog_ok.1 (by kernel_rfl) okLoopHol l0_ok
theorem evHolds (L : Int) (P : List Int) (xs : List (Int × Int)) (n : Nat) : evFn Try.prog KC1 LCM1 (regB Try.prog) 60 34 [wrldA L (nf P) [], .lst 2 (kf xs) n []] ⟨0, []⟩ ret =
  (bif true && n.ble 140737488355328 && (true && okL (kf xs) n []) && nnId (kl (kf xs) n []) then bif holF L (nl (nf P) 10 []) (kl (kf xs) n []) then some (AV.bool true) else some (AV.bool false) else none) := by kernel_rfl
def fHol (R : Type) (vs : List AV) (k : AV → AS → Option R) : Option R :=
  match vs with
  | [.agg [.int .i64 L, .arr 1 10 f us], .lst 2 g m vs'] => bif (okN f 10 us && okL g m vs') && Nat.ble m LIM && nnId (kl g m vs') then k (.bool (holF L (nl f 10 us) (kl g m vs'))) ⟨0, []⟩ else none
  | _ => none
theorem okHol : FnOk Try.prog 34 fHol := fun R vs k r h => by
  unfold fHol at h
  split at h
  · rename_i L f us g m vs'
    obtain ⟨hc, h⟩ := cond_some h
    simp only [Bool.and_eq_true] at hc
    obtain ⟨⟨⟨c1, c2⟩, c3⟩, c4⟩ := hc
    refine ⟨_, _, h, ⟨trivial, fun p hp => by cases hp⟩, SoundFn.args (vs' := [wrldA L (nf (nl f 10 us)) [], .lst 2 (kf (kl g m vs')) (kl g m vs').length []]) (fn_plain sprog_ok.1 sprog_ok.2 KC1_ok LCM1_ok (fuel := 60) rfl rfl ?_) fun κ ys hy => hy.cons_map (fun y hy => wrld_ext (fun i hi => nf_nl c1 hi) hy) (fun ys hy => hy.cons_map (fun y hy => by rw [kl_length]; exact hy.pairs c2) (fun _ h => h) rfl) rfl⟩
    rw [evHolds, kl_kf, okL_kf, c4]
    have h1 : nl (nf (nl f 10 us)) 10 [] = nl f 10 us := by
      have := nl_nf (nl f 10 us)
      rw [nl_length] at this
      exact this
    have h2 : (kl g m vs').length.ble 140737488355328 = true := by rw [kl_length]; exact c3
    rw [h1, h2]
    simp only [Bool.and_self, Bool.true_and, cond_true]
    cases holF L (nl f 10 us) (kl g m vs') <;> rfl
  · cases h
end Go.Sv
namespace Go.Sv
open Go.RowKit Go.Proofs
set_option linter.unusedSimpArgs false

def somB (L : Int) (P : List Int) (x : Int × Int) : Int := bif decide (IntKind.i64.wrap (L - P.getD (x.1 % 10).toNat 0) < IntKind.i64.wrap (1 + x.2 % 2048)) then IntKind.i64.wrap (L - P.getD (x.1 % 10).toNat 0) else IntKind.i64.wrap (1 + x.2 % 2048)
def lastOk (ys : List (Int × Int)) (id : Int) : Bool := bif Int.ofNat ys.length == Int.ofNat 0 then true else decide ((ys.getD (ys.length - 1) (0, 0)).1 < id)
def stSom (L : Int) (P : List Int) (ys : List (Int × Int)) (x : Int × Int) : List (Int × Int) ⊕ Unit := .inl (bif decide (somB L P x > 0) && lastOk ys (x.1 % 10) then ys ++ [(x.1 % 10, somB L P x)] else ys)
def somF (L : Int) (P : List Int) : List (Int × Int) → List (Int × Int) → List (Int × Int)
  | ys, [] => ys
  | ys, x :: r => somF L P (bif decide (somB L P x > 0) && lastOk ys (x.1 % 10) then ys ++ [(x.1 % 10, somB L P x)] else ys) r
theorem stSom_fold {γ : Type} (L : Int) (P : List Int) (a : List (Int × Int) → γ) (b : γ) : ∀ (xs ys : List (Int × Int)), fork a (fun _ => b) (foldX (stSom L P) ys xs) = a (somF L P ys xs)
  | [], ys => rfl
  | x :: r, ys => by simpa only [foldX, stSom, somF] using stSom_fold L P a b r _
def lSom (xs : List (Int × Int)) (n i m : Nat) : List (Nat × AV) := [(1, .lst 2 (kf xs) n []), (2, .ptr 0 [] 0), (5, .slc 1 [] 0 0 2 m m), (6, .int .i64 (Int.ofNat i))]
def nSom (xs : List (Int × Int)) (n i q m : Nat) : Env := ((((Env.mk 7).set 1 (.lst 2 (kf xs) n [])).set 2 (.ptr 0 [] 0)).set 5 (.slc q [] 0 0 2 m m)).set 6 (.int .i64 (IntKind.i64.wrap (Int.ofNat (i + 1))))
theorem gSom (xs : List (Int × Int)) (n i m : Nat) : (slots (lSom xs n i m) (Env.mk 7)).get 5 = .slc 1 [] 0 0 2 m m := by kernel_rfl
theorem gSomR (xs : List (Int × Int)) (n q m : Nat) (v : Int) : let E := ((((Env.mk 7).set 1 (.lst 2 (kf xs) n [])).set 2 (.ptr 0 [] 0)).set 5 (.slc q [] 0 0 2 m m)).set 6 (.int .i64 v)
    E.get 1 = .lst 2 (kf xs) n [] ∧ E.get 2 = .ptr 0 [] 0 ∧ E.get 5 = .slc q [] 0 0 2 m m ∧ E.get 6 = .int .i64 v := ⟨by kernel_rfl, by kernel_rfl, by kernel_rfl, by kernel_rfl⟩
def cSom {β : Type} (L : Int) (P : List Int) (xs ys : List (Int × Int)) (n i m : Nat) (A B C : Option β) : Option β :=
  bif decide (Int.ofNat i < (n : Int)) then bif decide (Int.ofNat i < (n : Int)) then bif decide (Int.ofNat i < (n : Int)) then
  bif decide (0 ≤ (xs.getD i (0, 0)).1 % 10) then bif decide ((xs.getD i (0, 0)).1 % 10 < ((10 : Nat) : Int)) then bif Nat.blt ((xs.getD i (0, 0)).1 % 10).toNat 10 then
  bif decide (somB L P (xs.getD i (0, 0)) > 0) then
    bif Int.ofNat m == Int.ofNat 0 then bif Nat.ble m m then bif Nat.ble ((m + 1) * 16) LIM then A else none else none
    else bif decide (0 ≤ IntKind.i64.wrap ((m : Int) - 1)) then bif decide (IntKind.i64.wrap ((m : Int) - 1) < (m : Int)) then bif Nat.blt (add0 0 (IntKind.i64.wrap ((m : Int) - 1)).toNat) m then
      bif (bif true then bif false then true else decide ((ys.getD (add0 0 (IntKind.i64.wrap ((m : Int) - 1)).toNat) (0, 0)).1 < (xs.getD i (0, 0)).1 % 10) else false) then bif Nat.ble m m then bif Nat.ble ((m + 1) * 16) LIM then A else none else none else B
    else none else none else none
  else B
  else none else none else none else none else none else C
theorem evSomA (L : Int) (P : List Int) (t : Bool) (xs ys : List (Int × Int)) (n i m : Nat) : evCode Try.prog KC1 L0 (regB Try.prog) 60 29 (loopOf Try.prog 29 0) (slots (lSom xs n i m) (Env.mk 7)) ⟨2, [(0, rHol L P t), (1, .cells [.arr 2 m (kf ys) []] true true)]⟩
    (fun e E' st' => some (e, keepE E' [1, 2, 5, 6] (Env.mk 7), [0, 4].map (find st'.mem))) =
  cSom L P xs ys n i m
    (some (.normal, nSom xs n i 4 (m + 1), [some (rHol L P t), some (.cells [.arr 2 (m + 1) (kf ys) [(m, [.int .i64 ((xs.getD i (0, 0)).1 % 10), .int .i64 (somB L P (xs.getD i (0, 0)))])]] true true)]))
    (some (.normal, nSom xs n i 1 m, [some (rHol L P t), none])) (some (.exit 0, slots (lSom xs n i m) (Env.mk 7), [some (rHol L P t), none])) := by kernel_rfl
theorem evSomB (L : Int) (P : List Int) (t : Bool) (xs ys : List (Int × Int)) (n i m : Nat) : evCode Try.prog KC1 L0 (regB Try.prog) 60 29 (loopOf Try.prog 29 0) (slots (lSom xs n i m) (Env.mk 7)) ⟨2, [(0, rHol L P t), (1, .cells [.arr 2 m (kf ys) []] true true)]⟩
    (fun e E' st' => some (e, keepE E' [1, 2, 5, 6] (Env.mk 7), [0, 1].map (find st'.mem))) =
  cSom L P xs ys n i m
    (some (.normal, nSom xs n i 4 (m + 1), [some (rHol L P t), none]))
    (some (.normal, nSom xs n i 1 m, [some (rHol L P t), some (.cells [.arr 2 m (kf ys) []] true true)])) (some (.exit 0, slots (lSom xs n i m) (Env.mk 7), [some (rHol L P t), some (.cells [.arr 2 m (kf ys) []] true true)])) := by kernel_rfl
theorem cSom_run {β : Type} {L : Int} {P : List Int} {xs ys : List (Int × Int)} {i : Nat} (hi : i < xs.length) (hm : (ys.length + 1) * 16 ≤ LIM) (A B C : Option β) :
    cSom L P xs ys xs.length i ys.length A B C = bif decide (somB L P (xs.getD i (0, 0)) > 0) && lastOk ys ((xs.getD i (0, 0)).1 % 10) then A else B := by
  have h1 : decide (0 ≤ (xs.getD i (0, 0)).1 % 10) = true := decide_eq_true (by omega)
  have h2 : decide ((xs.getD i (0, 0)).1 % 10 < ((10 : Nat) : Int)) = true := decide_eq_true (by omega)
  have h3 : Nat.blt ((xs.getD i (0, 0)).1 % 10).toNat 10 = true := by simp; omega
  have hbl : Nat.ble ys.length ys.length = true := by simp
  have hlim : Nat.ble ((ys.length + 1) * 16) LIM = true := Nat.ble_eq_true_of_le hm
  have hm : (ys.length + 1) * 16 ≤ 140737488355328 := hm
  unfold cSom lastOk
  simp only [dec_lt' hi, h1, h2, h3, hbl, hlim, cond_true]
  cases decide (somB L P (xs.getD i (0, 0)) > 0) with
  | false => rfl
  | true =>
    cases hz : (Int.ofNat ys.length == Int.ofNat 0) with
    | true => simp only [cond_true, Bool.and_self]
    | false =>
      have hp : 0 < ys.length := by
        rcases Nat.eq_zero_or_pos ys.length with h | h
        · rw [h] at hz; cases hz
        · exact h
      have hw : IntKind.i64.wrap ((ys.length : Int) - 1) = ((ys.length - 1 : Nat) : Int) := by
        rw [wrap_in64 (by omega) (by omega)]; omega
      have e1 : decide (0 ≤ ((ys.length - 1 : Nat) : Int)) = true := decide_eq_true (by omega)
      have e2 : decide (((ys.length - 1 : Nat) : Int) < (ys.length : Int)) = true := decide_eq_true (by omega)
      have e3 : add0 0 ((ys.length - 1 : Nat) : Int).toNat = ys.length - 1 := by rw [Int.toNat_natCast]; exact add0_zero _
      have e4 : Nat.blt (ys.length - 1) ys.length = true := by simp; omega
      simp only [hw, e1, e2, e3, e4, cond_true, cond_false, Bool.true_and]
theorem loopSom (L : Int) (P : List Int) (t : Bool) (xs : List (Int × Int)) (hx : xs.length * 16 ≤ LIM) {nb : Nat} (hnb : nb ≤ 1) (hs : SubOk Try.prog 29 (loopOf Try.prog 29 0)) :
    LoopOk Try.prog nb (szOf Try.prog 29) (loopOf Try.prog 29 0) (slots (lSom xs xs.length 0 0) (Env.mk 7)) ⟨2, [(0, rHol L P t), (1, rOf [])]⟩ (.exit 0)
      (slots [(5, .slc 1 [] 0 0 2 (somF L P [] xs).length (somF L P [] xs).length)] (Env.mk 7)) ⟨2, [(0, rHol L P t), (1, rOf (somF L P [] xs))]⟩ := by
  have key := loop_fold (P := Try.prog) (nb := nb) (sz := szOf Try.prog 29) (b := loopOf Try.prog 29 0) (stSom L P) xs (0, 0) (fun i s => s.length ≤ i) (fun i s => (slots (lSom xs xs.length i s.length) (Env.mk 7), ⟨2, [(0, rHol L P t), (1, rOf s)]⟩)) (fun s => ⟨.exit 0, slots [(5, .slc 1 [] 0 0 2 s.length s.length)] (Env.mk 7), ⟨2, [(0, rHol L P t), (1, rOf s)]⟩⟩) (fun _ => ⟨.ret, Env.mk 7, ⟨0, []⟩⟩) (fun i ys hI hi => ?_) (fun s hI => ?_) (fun _ h => by cases h) (fun _ h => by cases h) xs 0 [] (Nat.le_refl _) rfl (Nat.zero_le _)
  · rw [show fork (fun s : List (Int × Int) => Fin3.mk (.exit 0) (slots [(5, .slc 1 [] 0 0 2 s.length s.length)] (Env.mk 7)) ⟨2, [(0, rHol L P t), (1, rOf s)]⟩) (fun _ => Fin3.mk .ret (Env.mk 7) ⟨0, []⟩) (foldX (stSom L P) [] xs) = Fin3.mk (.exit 0) (slots [(5, .slc 1 [] 0 0 2 (somF L P [] xs).length (somF L P [] xs).length)] (Env.mk 7)) ⟨2, [(0, rHol L P t), (1, rOf (somF L P [] xs))]⟩ from stSom_fold L P (fun s : List (Int × Int) => Fin3.mk (.exit 0) (slots [(5, .slc 1 [] 0 0 2 s.length s.length)] (Env.mk 7)) ⟨2, [(0, rHol L P t), (1, rOf s)]⟩) _ xs []] at key
    exact key
  · have hx' : xs.length * 16 ≤ 140737488355328 := hx
    have hw := wrapNat (show i < 9223372036854775807 by omega)
    cases hc : (decide (somB L P (xs.getD i (0, 0)) > 0) && lastOk ys ((xs.getD i (0, 0)).1 % 10)) with
    | true =>
      have hev := evSomA L P t xs ys xs.length i ys.length
      rw [cSom_run hi (show _ ≤ 140737488355328 by omega), hc, cond_true] at hev
      have hst : stSom L P ys (xs.getD i (0, 0)) = .inl (ys ++ [((xs.getD i (0, 0)).1 % 10, somB L P (xs.getD i (0, 0)))]) := by simp only [stSom, hc, cond_true]
      rw [hst]
      have hlen : (ys ++ [((xs.getD i (0, 0)).1 % 10, somB L P (xs.getD i (0, 0)))]).length = ys.length + 1 := by simp
      refine ⟨by rw [hlen]; omega, ?_⟩
      dsimp only
      rw [hlen]
      unfold nSom at hev
      rw [hw] at hev
      refine code_pull sprog_ok.1 sprog_ok.2 KC1_ok l0_ok (fuel := 60) (ts := [1, 2, 5, 6]) (ms := [(0, rHol L P t), (1, rOf (ys ++ [((xs.getD i (0, 0)).1 % 10, somB L P (xs.getD i (0, 0)))]))]) (fun x => bif Nat.beq x 1 then 4 else x)
        (fun x => bif Nat.beq x 0 then rHol L P t else .cells [.arr 2 (ys.length + 1) (kf ys) [(ys.length, [.int .i64 ((xs.getD i (0, 0)).1 % 10), .int .i64 (somB L P (xs.getD i (0, 0)))])]] true true) hs (by dsimp only; omega) (by omega) (fun x hx => by rw [beq_false (show x ≠ 1 by omega)]; rfl) (fun p hp κ y hy => ?_) (fun p hp => ?_) (fun p hp p' hp' h => ?_) hev
      · obtain ⟨g1, g2, g5, g6⟩ := gSomR xs xs.length 4 (ys.length + 1) (Int.ofNat (i + 1))
        simp only [lSom, List.mem_cons, List.not_mem_nil, or_false] at hp
        rcases hp with rfl | rfl | rfl | rfl
        · dsimp only at hy; rw [g1] at hy; exact VRel.pull rfl hy
        · dsimp only at hy; rw [g2] at hy; exact VRel.pull_ptr rfl (by omega) hy
        · dsimp only at hy; rw [g5] at hy; exact VRel.pull_slc rfl (by omega) hy
        · dsimp only at hy; rw [g6] at hy; exact VRel.pull rfl hy
      · simp only [List.mem_cons, List.not_mem_nil, or_false] at hp
        rcases hp with rfl | rfl
        · exact ⟨RowLe.plain (by omega) rfl, fun _ => rfl⟩
        · unfold rOf
          rw [hlen]
          exact ⟨RowLe.arr (by omega) id (kf_snoc ys _), fun _ => rfl⟩
      · simp only [List.mem_cons, List.not_mem_nil, or_false] at hp hp'
        rcases hp with rfl | rfl <;> rcases hp' with rfl | rfl <;> first | rfl | (dsimp only at h; exact absurd h (by decide))
    | false =>
      have hev := evSomB L P t xs ys xs.length i ys.length
      rw [cSom_run hi (show _ ≤ 140737488355328 by omega), hc, cond_false] at hev
      unfold nSom at hev
      rw [hw] at hev
      have hst : stSom L P ys (xs.getD i (0, 0)) = .inl ys := by simp only [stSom, hc, cond_false]
      rw [hst]
      exact ⟨by omega, code_rows sprog_ok.1 sprog_ok.2 KC1_ok l0_ok (fuel := 60) (ts := [1, 2, 5, 6]) (ms := [(0, rHol L P t), (1, rOf ys)]) (l := lSom xs xs.length (i + 1) ys.length) hs (by dsimp only; omega) (by omega) rfl rfl hev⟩
  · have hev := evSomB L P t xs s xs.length xs.length s.length
    unfold cSom at hev
    simp only [dec_nlt', cond_false] at hev
    exact (code_rows sprog_ok.1 sprog_ok.2 KC1_ok l0_ok (fuel := 60) (ts := [1, 2, 5, 6]) (ms := [(0, rHol L P t), (1, rOf s)]) hs (by dsimp only; omega) (by omega) rfl rfl hev).less (less_slots fun p hp => by rw [List.mem_singleton.1 hp]; exact gSom _ _ _ _)
def fLoopSom (R : Type) (E : Env) (st : AS) : Option ((EK → Env → AS → Option R) → Option R) :=
  match E.get 1, E.get 2, E.get 5, E.get 6 with
  | .lst 2 g m vs, .ptr 0 [] 0, .raw (.slice none 0 0), .int .i64 i => match st.mem with
    | [(0, .cells [.int .i64 L, .arr 1 10 f us] true t)] => some fun k => bif Nat.beq st.next 1 && decide (i = 0) && Nat.ble (m * 16) LIM && (okN f 10 us && okL g m vs) then
        k .normal (slots [(5, .slc 1 [] 0 0 2 (somF L (nl f 10 us) [] (kl g m vs)).length (somF L (nl f 10 us) [] (kl g m vs)).length)] (Env.mk 7)) ⟨2, [(0, rHol L (nl f 10 us) t), (1, rOf (somF L (nl f 10 us) [] (kl g m vs)))]⟩ else none
    | _ => none
  | _, _, _, _ => none
theorem gEntS (xs : List (Int × Int)) (n : Nat) : let E := slots [(1, .lst 2 (kf xs) n []), (2, .ptr 0 [] 0), (5, .raw (.slice none 0 0)), (6, .int .i64 0)] (Env.mk 7); E.get 1 = .lst 2 (kf xs) n [] ∧ E.get 2 = .ptr 0 [] 0 ∧ E.get 5 = .raw (.slice none 0 0) ∧ E.get 6 = .int .i64 0 := ⟨by kernel_rfl, by kernel_rfl, by kernel_rfl, by kernel_rfl⟩
theorem okLoopSom : LoopFn Try.prog 29 0 fLoopSom := fun R E st G h hs nb hnb k r hk => by
  unfold fLoopSom at h
  split at h
  · rename_i g m vs i g1 g2 g5 g6
    split at h
    · rename_i L f us t hm
      simp only [Option.some.injEq] at h
      subst h
      obtain ⟨hc, hk1⟩ := cond_some hk
      clear hk
      simp only [Bool.and_eq_true, decide_eq_true_eq] at hc
      obtain ⟨⟨⟨c1, c3⟩, c4⟩, c5, c8⟩ := hc
      have d1 := Nat.eq_of_beq_eq_true c1
      have d4 := Nat.le_of_ble_eq_true c4
      clear c1
      obtain ⟨next, mem⟩ := st
      dsimp only at hm d1
      subst hm; subst d1; subst c3
      have hl := loopSom L (nl f 10 us) t (kl g m vs) (by rw [kl_length]; exact d4) hnb hs
      have hw1 : Weak nb (szOf Try.prog 29) E ⟨1, [(0, .cells [.int .i64 L, .arr 1 10 f us] true t)]⟩ (slots [(1, .lst 2 (kf (kl g m vs)) (kl g m vs).length []), (2, .ptr 0 [] 0), (5, .raw (.slice none 0 0)), (6, .int .i64 0)] (Env.mk 7)) ⟨1, [(0, rHol L (nl f 10 us) t)]⟩ := weak_pull id (fun _ _ => rfl) hnb (fun p hp κ y hy => by
        rw [kl_length] at hp
        simp only [List.mem_cons, List.not_mem_nil, or_false] at hp
        rcases hp with rfl | rfl | rfl | rfl
        · dsimp only at hy; rw [g1] at hy; exact VRel.pull rfl (hy.pairs c8)
        · dsimp only at hy; rw [g2] at hy; exact VRel.pull_ptr rfl (by dsimp only; omega) hy
        · dsimp only at hy; rw [g5] at hy; exact VRel.pull rfl hy
        · dsimp only at hy; rw [g6] at hy; exact VRel.pull rfl hy) (fun m r2 hf => by
        have hp := List.mem_singleton.1 (find_mem _ _ _ hf)
        simp only [Prod.mk.injEq] at hp
        obtain ⟨rfl, rfl⟩ := hp
        exact ⟨_, rfl, RowLe.told (by dsimp only; omega) rfl (fun κ zs hz => CRel.int_ext (fun _ h => CRel.arr_ext (fun i hi => nf_nl c5 hi) (fun _ h => h) h) hz), fun _ => rfl⟩) (fun _ _ _ _ _ _ h => h)
      obtain ⟨e1, e2, e5, e6⟩ := gEntS (kl g m vs) (kl g m vs).length
      have hw2 : Weak nb (szOf Try.prog 29) (slots [(1, .lst 2 (kf (kl g m vs)) (kl g m vs).length []), (2, .ptr 0 [] 0), (5, .raw (.slice none 0 0)), (6, .int .i64 0)] (Env.mk 7)) ⟨1, [(0, rHol L (nl f 10 us) t)]⟩ (slots (lSom (kl g m vs) (kl g m vs).length 0 0) (Env.mk 7)) ⟨2, [(1, .cells [.arr 2 0 (kf []) []] true true), (0, rHol L (nl f 10 us) t)]⟩ := weak_nil2 (t := 5) (w := 2) hnb (fun p hp hne => by
        simp only [lSom, List.mem_cons, List.not_mem_nil, or_false] at hp
        rcases hp with rfl | rfl | rfl | rfl
        · exact e1
        · exact e2
        · exact absurd rfl hne
        · exact e6) e5 (fun p hp e => by
        simp only [lSom, List.mem_cons, List.not_mem_nil, or_false] at hp
        rcases hp with rfl | rfl | rfl | rfl <;> first | rfl | (cases e))
      have hw3 : Weak nb (szOf Try.prog 29) (slots (lSom (kl g m vs) (kl g m vs).length 0 0) (Env.mk 7)) ⟨2, [(1, .cells [.arr 2 0 (kf []) []] true true), (0, rHol L (nl f 10 us) t)]⟩ (slots (lSom (kl g m vs) (kl g m vs).length 0 0) (Env.mk 7)) ⟨2, [(0, rHol L (nl f 10 us) t), (1, rOf [])]⟩ := fun κ a w hA hR => by
        have he : find [(1, Row.cells [.arr 2 0 (kf []) []] true true), (0, rHol L (nl f 10 us) t)] = find [(0, rHol L (nl f 10 us) t), (1, rOf [])] := funext fun x => by
          simp only [find]
          by_cases x1 : 1 = x
          · subst x1; rfl
          · rw [beq_false x1]; simp only [cond_false]
        have hm2 := hR.mem
        refine ⟨κ, Kap.leN_refl _ _, hA, ⟨hR.fresh, by dsimp only at hm2 ⊢; rw [← he]; exact hm2⟩, ?_⟩
        dsimp only
        rw [← he]
        exact Fr.refl _ _ _
      exact ⟨.exit 0, _, _, hk1, by dsimp only; omega, hl.weak (hw1.trans (hw2.trans hw3))⟩
    · cases h
  · cases h
def LCN1 : LT := addL 29 0 fLoopSom L0
theorem LCN1_ok : LOk Try.prog LCN1 := addL_ok sprog_ok.1 (by kernel_rfl) okLoopSom l0_ok
theorem evSome (L : Int) (P : List Int) (xs : List (Int × Int)) (n : Nat) : evFn Try.prog KC1 LCN1 (regB Try.prog) 60 29 [wrldA L (nf P) [], .lst 2 (kf xs) n []] ⟨0, []⟩ (fun v st => some (v, find st.mem 1)) =
  (bif true && (n * 16).ble 140737488355328 && (true && okL (kf xs) n []) then some (AV.slc 1 [] 0 0 2 (somF L (nl (nf P) 10 []) [] (kl (kf xs) n [])).length (somF L (nl (nf P) 10 []) [] (kl (kf xs) n [])).length, some (Row.cells [AV.arr 2 (somF L (nl (nf P) 10 []) [] (kl (kf xs) n [])).length (fun i => [AV.int IntKind.i64 ((somF L (nl (nf P) 10 []) [] (kl (kf xs) n [])).getD i (0, 0)).fst, AV.int IntKind.i64 ((somF L (nl (nf P) 10 []) [] (kl (kf xs) n [])).getD i (0, 0)).snd]) []] true true)) else none) := by kernel_rfl
def fSom (R : Type) (vs : List AV) (k : AV → AS → Option R) : Option R :=
  match vs with
  | [.agg [.int .i64 L, .arr 1 10 f us], .lst 2 g m vs'] => bif (okN f 10 us && okL g m vs') && Nat.ble (m * 16) LIM then k (.slc 0 [] 0 0 2 (somF L (nl f 10 us) [] (kl g m vs')).length (somF L (nl f 10 us) [] (kl g m vs')).length) ⟨1, [(0, rOf (somF L (nl f 10 us) [] (kl g m vs')))]⟩ else none
  | _ => none
theorem okSom : FnOk Try.prog 29 fSom := fun R vs k r h => by
  unfold fSom at h
  split at h
  · rename_i L f us g m vs'
    obtain ⟨hc, h⟩ := cond_some h
    simp only [Bool.and_eq_true] at hc
    obtain ⟨⟨c1, c2⟩, c3⟩ := hc
    refine ⟨_, _, h, ⟨trivial, fun p hp => by rw [List.mem_singleton.1 hp]; exact flat_kf rfl⟩, SoundFn.args (vs' := [wrldA L (nf (nl f 10 us)) [], .lst 2 (kf (kl g m vs')) (kl g m vs').length []]) ?_ fun κ ys hy => hy.cons_map (fun y hy => wrld_ext (fun i hi => nf_nl c1 hi) hy) (fun ys hy => hy.cons_map (fun y hy => by rw [kl_length]; exact hy.pairs c2) (fun _ h => h) rfl) rfl⟩
    have h1 : nl (nf (nl f 10 us)) 10 [] = nl f 10 us := by
      have := nl_nf (nl f 10 us)
      rw [nl_length] at this
      exact this
    have h2 : ((kl g m vs').length * 16).ble 140737488355328 = true := by rw [kl_length]; exact c3
    have hev := evSome L (nl f 10 us) (kl g m vs') (kl g m vs').length
    rw [kl_kf, okL_kf, h1, h2] at hev
    simp only [Bool.and_self, Bool.true_and, cond_true] at hev
    obtain ⟨v, st1, hk, _, hs⟩ := evFn_ok sprog_ok.1 KC1_ok LCN1_ok (regB_ok sprog_ok.1 sprog_ok.2) rfl hev
    simp only [Option.some.injEq, Prod.mk.injEq] at hk
    obtain ⟨rfl, hrow⟩ := hk
    exact hs.pull (st2 := ⟨1, [(0, rOf (somF L (nl f 10 us) [] (kl g m vs')))]⟩) (fun _ => 1) (fun κ y hy => VRel.pull_slc rfl (by dsimp only; omega) hy) (fun n r2 hn => by
      have hp := List.mem_singleton.1 (find_mem _ _ _ hn)
      simp only [Prod.mk.injEq] at hp
      obtain ⟨rfl, rfl⟩ := hp
      exact ⟨_, hrow, RowLe.arr (by dsimp only; omega) id (fun _ _ => rfl), fun h => h⟩) (fun n n' r r' h1 h2 _ => by
      have hp := List.mem_singleton.1 (find_mem _ _ _ h1)
      have hp' := List.mem_singleton.1 (find_mem _ _ _ h2)
      simp only [Prod.mk.injEq] at hp hp'
      rw [hp.1, hp'.1])
  · cases h
/-! ### the table, with what made makes and what a world's places are under names -/
def pl10 (f : Nat → List AV) (us : List (Nat × List AV)) : List Int := nl f 10 us
def fMadM (M : List Int → List Int) (N : (Nat → List AV) → List (Nat × List AV) → List Int) (R : Type) (vs : List AV) (k : AV → AS → Option R) : Option R :=
  match vs with
  | [.agg [.int .i64 L, .arr 1 10 f us]] => bif okN f 10 us then k (wrldA (L % 2049) (nf (M (N f us))) []) ⟨0, []⟩ else none
  | _ => none
def fHolM (N : (Nat → List AV) → List (Nat × List AV) → List Int) (R : Type) (vs : List AV) (k : AV → AS → Option R) : Option R :=
  match vs with
  | [.agg [.int .i64 L, .arr 1 10 f us], .lst 2 g m vs'] => bif (okN f 10 us && okL g m vs') && Nat.ble m LIM && nnId (kl g m vs') then k (.bool (holF L (N f us) (kl g m vs'))) ⟨0, []⟩ else none
  | _ => none
def fSomM (N : (Nat → List AV) → List (Nat × List AV) → List Int) (R : Type) (vs : List AV) (k : AV → AS → Option R) : Option R :=
  match vs with
  | [.agg [.int .i64 L, .arr 1 10 f us], .lst 2 g m vs'] => bif (okN f 10 us && okL g m vs') && Nat.ble (m * 16) LIM then k (.slc 0 [] 0 0 2 (somF L (N f us) [] (kl g m vs')).length (somF L (N f us) [] (kl g m vs')).length) ⟨1, [(0, rOf (somF L (N f us) [] (kl g m vs')))]⟩ else none
  | _ => none
def hasCN : FuncId → Bool := addHas 28 (addHas 31 (addHas 34 (addHas 29 hasCL)))
def specCN (M : List Int → List Int) (N : (Nat → List AV) → List (Nat × List AV) → List Int) : SpecT := addS 28 (fMadM M N) (addS 31 fSo (addS 34 (fHolM N) (addS 29 (fSomM N) specCL)))
theorem specCN_ok : SpecOk Try.prog hasCN (specCN madF pl10) := addS_ok (F := fMadM madF pl10) okMad (addS_ok okSo (addS_ok (F := fHolM pl10) okHol (addS_ok (F := fSomM pl10) okSom specCL_ok)))
def KCN (M : List Int → List Int) (N : (Nat → List AV) → List (Nat × List AV) → List Int) : KT := orK (specK hasCN (specCN M N)) KX
theorem KCN_ok : KOk Try.prog (KCN madF pl10) := orK_ok (specK_ok specCN_ok) KX_ok
end Go.Sv
namespace Go.Sv
open Go.RowKit Go.Proofs
set_option linter.unusedSimpArgs false
set_option linter.unusedVariables false

def atF (P : List Int) (off far : Int) (i : Nat) : Int := IntKind.i64.wrap (IntKind.i64.wrap (P.getD i 0 + off) + far)
def sndB (L : Int) (P : List Int) (A : List (Int × Int)) (off sz far : Int) (i : Nat) : Bool :=
  !((witF A 2 0 0 (Int.ofNat i) off far sz).2 != Int.ofNat 0) && bif (witF A 2 0 0 (Int.ofNat i) off far sz).1 then !decide (atF P off far i < 0) && !decide (IntKind.i64.wrap (atF P off far i + sz) > L) else true
def stSnd (f : Nat → Bool) (_ : Unit) (i : Nat) : Unit ⊕ Unit := bif f i then .inl () else .inr ()
theorem stSnd_fold {γ : Type} (f : Nat → Bool) (a b : γ) : ∀ (xs : List Nat), fork (fun _ => a) (fun _ => b) (foldX (stSnd f) () xs) = bif xs.all f then a else b
  | [] => rfl
  | x :: r => by
    have ih := stSnd_fold f a b r
    simp only [foldX, stSnd, List.all_cons]
    cases hc : f x with
    | true => simp only [cond_true, Bool.true_and]; exact ih
    | false => simp [fork]
def lSnd (v : AV) (off sz far : Int) (m i : Nat) : List (Nat × AV) := [(6, v), (3, .ptr 0 [] 0), (8, .int .i64 off), (12, .slc 5 [] 0 0 2 m m), (17, .int .i64 sz), (18, .int .i64 far), (19, .int .i64 (Int.ofNat i))]
theorem gSnd (v : AV) (off sz far : Int) (m i : Nat) : (slots (lSnd v off sz far m i) (Env.mk 8)).get 6 = v := by kernel_rfl
def nSnd (off sz far : Int) (m i : Nat) : Env := (((((((Env.mk 8).set 6 .any).set 3 (.ptr 0 [] 0)).set 8 (.int .i64 off)).set 12 (.slc 5 [] 0 0 2 m m)).set 17 (.int .i64 sz)).set 18 (.int .i64 far)).set 19 (.int .i64 (IntKind.i64.wrap (Int.ofNat (i + 1))))
def mSnd (L : Int) (P : List Int) (t : Bool) (A : List (Int × Int)) : List (Nat × Row) := [(0, rHol L P t), (5, rOf A)]
theorem evSnd (L : Int) (P : List Int) (t : Bool) (A : List (Int × Int)) (off sz far : Int) (m i : Nat) (hm : m = A.length) : evCode Try.prog KCL L0 (regB Try.prog) 60 5 (loopOf Try.prog 5 0) (slots (lSnd .any off sz far m i) (Env.mk 8)) ⟨9, [(0, rHol L P t), (5, .cells [.arr 2 m (kf A) []] true true)]⟩ (fun e E' st' => some (e, keepE E' [6, 3, 8, 12, 17, 18, 19] (Env.mk 8), (mSnd L P t A).map (fun p => find st'.mem p.1))) =
  (bif decide (Int.ofNat i < 10) then bif Nat.ble (add0 0 m) m then bif okL (kf A) m [] then bif decide (Int.ofNat i < ((10 : Nat) : Int)) then bif Nat.blt i 10 then
    bif (witF (kl (kf A) m []) 2 0 0 (Int.ofNat i) off far sz).2 != Int.ofNat 0 then some (.ret, slots (lSnd (.bool false) off sz far m i) (Env.mk 8), (mSnd L P t A).map (fun p => some p.2)) else
    bif (witF (kl (kf A) m []) 2 0 0 (Int.ofNat i) off far sz).1 then
      bif decide (atF P off far i < 0) then some (.ret, slots (lSnd (.bool false) off sz far m i) (Env.mk 8), (mSnd L P t A).map (fun p => some p.2)) else
      bif (bif false then true else bif true then bif false then true else decide (IntKind.i64.wrap (atF P off far i + sz) > L) else false) then some (.ret, slots (lSnd (.bool false) off sz far m i) (Env.mk 8), (mSnd L P t A).map (fun p => some p.2)) else
      some (.normal, nSnd off sz far m i, (mSnd L P t A).map (fun p => some p.2))
    else some (.normal, nSnd off sz far m i, (mSnd L P t A).map (fun p => some p.2))
  else none else none else none else none else some (.exit 0, slots (lSnd .any off sz far m i) (Env.mk 8), (mSnd L P t A).map (fun p => some p.2))) := by
  subst hm
  kernel_rfl
theorem loopSnd (L : Int) (P : List Int) (t : Bool) (A : List (Int × Int)) (off sz far : Int) {nb : Nat} (hnb : nb ≤ 9) (hs : SubOk Try.prog 5 (loopOf Try.prog 5 0)) :
    LoopOk Try.prog nb (szOf Try.prog 5) (loopOf Try.prog 5 0) (slots (lSnd .any off sz far A.length 0) (Env.mk 8)) ⟨9, mSnd L P t A⟩
      (bif (List.range 10).all (sndB L P A off sz far) then Fin3.mk (.exit 0) (slots [] (Env.mk 8)) ⟨9, mSnd L P t A⟩ else ⟨.ret, slots [(6, .bool false)] (Env.mk 8), ⟨9, mSnd L P t A⟩⟩).e
      (bif (List.range 10).all (sndB L P A off sz far) then Fin3.mk (.exit 0) (slots [] (Env.mk 8)) ⟨9, mSnd L P t A⟩ else ⟨.ret, slots [(6, .bool false)] (Env.mk 8), ⟨9, mSnd L P t A⟩⟩).E
      (bif (List.range 10).all (sndB L P A off sz far) then Fin3.mk (.exit 0) (slots [] (Env.mk 8)) ⟨9, mSnd L P t A⟩ else ⟨.ret, slots [(6, .bool false)] (Env.mk 8), ⟨9, mSnd L P t A⟩⟩).st := by
  rw [← stSnd_fold]
  refine loop_fold (stSnd (sndB L P A off sz far)) (List.range 10) 0 (fun _ _ => True) (fun i _ => (slots (lSnd .any off sz far A.length i) (Env.mk 8), ⟨9, mSnd L P t A⟩)) (fun _ => ⟨.exit 0, slots [] (Env.mk 8), ⟨9, mSnd L P t A⟩⟩) (fun _ => ⟨.ret, slots [(6, .bool false)] (Env.mk 8), ⟨9, mSnd L P t A⟩⟩) (fun i s hI hi => ?_) (fun _ _ => ?_) (fun _ h => by cases h) (fun _ h => by cases h) (List.range 10) 0 () trivial rfl (Nat.zero_le _)
  · have hev := evSnd L P t A off sz far A.length i rfl
    have hi' : i < 10 := by simpa using hi
    have e0 : (List.range 10).getD i 0 = i := by
      rw [List.getD_eq_getElem?_getD, List.getElem?_eq_getElem hi, List.getElem_range]; rfl
    have e1 : decide (Int.ofNat i < 10) = true := decide_eq_true (by simp; omega)
    have e2 : decide (Int.ofNat i < ((10 : Nat) : Int)) = true := e1
    have e3 : Nat.blt i 10 = true := by simp; omega
    unfold nSnd at hev
    rw [e0]
    simp only [add0_zero, ble_self, kl_kf, okL_kf, e1, e2, e3, cond_true, cond_false, wrapNat (show i < 9223372036854775807 by omega)] at hev
    simp only [stSnd, sndB]
    cases h1 : ((witF A 2 0 0 (Int.ofNat i) off far sz).2 != Int.ofNat 0) with
    | true =>
      rw [h1, cond_true] at hev
      exact (code_rows sprog_ok.1 sprog_ok.2 KCL_ok l0_ok (fuel := 60) (ts := [6, 3, 8, 12, 17, 18, 19]) (ms := mSnd L P t A) hs hnb hnb rfl rfl hev).less (less_slots fun p hp => by rw [List.mem_singleton.1 hp]; exact gSnd _ _ _ _ _ _)
    | false =>
      rw [h1, cond_false] at hev
      cases h2 : (witF A 2 0 0 (Int.ofNat i) off far sz).1 with
      | false =>
        rw [h2, cond_false] at hev
        exact ⟨trivial, code_rows sprog_ok.1 sprog_ok.2 KCL_ok l0_ok (fuel := 60) (ts := [6, 3, 8, 12, 17, 18, 19]) (ms := mSnd L P t A) (l := lSnd .any off sz far A.length (i + 1)) hs hnb hnb rfl rfl hev⟩
      | true =>
        rw [h2, cond_true] at hev
        cases h3 : decide (atF P off far i < 0) with
        | true =>
          rw [h3, cond_true] at hev
          exact (code_rows sprog_ok.1 sprog_ok.2 KCL_ok l0_ok (fuel := 60) (ts := [6, 3, 8, 12, 17, 18, 19]) (ms := mSnd L P t A) hs hnb hnb rfl rfl hev).less (less_slots fun p hp => by rw [List.mem_singleton.1 hp]; exact gSnd _ _ _ _ _ _)
        | false =>
          rw [h3, cond_false] at hev
          cases h4 : decide (IntKind.i64.wrap (atF P off far i + sz) > L) with
          | true =>
            rw [h4, cond_true] at hev
            exact (code_rows sprog_ok.1 sprog_ok.2 KCL_ok l0_ok (fuel := 60) (ts := [6, 3, 8, 12, 17, 18, 19]) (ms := mSnd L P t A) hs hnb hnb rfl rfl hev).less (less_slots fun p hp => by rw [List.mem_singleton.1 hp]; exact gSnd _ _ _ _ _ _)
          | false =>
            rw [h4, cond_false] at hev
            exact ⟨trivial, code_rows sprog_ok.1 sprog_ok.2 KCL_ok l0_ok (fuel := 60) (ts := [6, 3, 8, 12, 17, 18, 19]) (ms := mSnd L P t A) (l := lSnd .any off sz far A.length (i + 1)) hs hnb hnb rfl rfl hev⟩
  · have hev := evSnd L P t A off sz far A.length 10 rfl
    have e1 : decide (Int.ofNat 10 < 10) = false := rfl
    rw [e1, cond_false] at hev
    exact (code_rows sprog_ok.1 sprog_ok.2 KCL_ok l0_ok (fuel := 60) (ts := [6, 3, 8, 12, 17, 18, 19]) (ms := mSnd L P t A) hs hnb hnb rfl rfl hev).less (mk_less 8 _)
def fLoopSnd (N : (Nat → List AV) → List (Nat × List AV) → List Int) (R : Type) (E : Env) (st : AS) : Option ((EK → Env → AS → Option R) → Option R) :=
  match E.get 3, E.get 8, E.get 12, E.get 17, E.get 18, E.get 19 with
  | .ptr 0 [] 0, .int .i64 off, .slc 5 [] 0 0 2 m m1, .int .i64 sz, .int .i64 far, .int .i64 i => match find st.mem 0, find st.mem 5 with
    | some (.cells [.int .i64 L, .arr 1 10 f us] true t), some (.cells [.arr 2 m2 g vs] true true) => some fun k => bif Nat.beq st.next 9 && decide (i = 0) && (okN f 10 us && okL g m2 vs) && (decide (m = m2) && decide (m1 = m2)) then
        bif (List.range 10).all (sndB L (N f us) (kl g m2 vs) off sz far) then k .normal (slots [] (Env.mk 8)) ⟨9, mSnd L (N f us) t (kl g m2 vs)⟩ else k .ret (slots [(6, .bool false)] (Env.mk 8)) ⟨9, mSnd L (N f us) t (kl g m2 vs)⟩ else none
    | _, _ => none
  | _, _, _, _, _, _ => none
theorem okLoopSnd : LoopFn Try.prog 5 0 (fLoopSnd pl10) := fun R E st G h hs nb hnb k r hk => by
  unfold fLoopSnd at h
  split at h
  · rename_i off m m1 sz far i g3 g8 g12 g17 g18 g19
    split at h
    · rename_i L f us t m2 g vs hm0 hm5
      simp only [Option.some.injEq] at h
      subst h
      obtain ⟨hc, hk1⟩ := cond_some hk
      clear hk
      simp only [Bool.and_eq_true, decide_eq_true_eq] at hc
      obtain ⟨⟨⟨c1, c3⟩, c5, c8⟩, c6, c7⟩ := hc
      have d1 := Nat.eq_of_beq_eq_true c1
      clear c1
      have c7' : m1 = m := c7.trans c6.symm
      clear c7
      obtain ⟨next, mem⟩ := st
      dsimp only at hm0 hm5 d1
      subst d1; subst c3; subst c6; subst c7'
      have hl := loopSnd L (pl10 f us) t (kl g m1 vs) off sz far hnb hs
      have hw : Weak nb (szOf Try.prog 5) E ⟨9, mem⟩ (slots (lSnd .any off sz far (kl g m1 vs).length 0) (Env.mk 8)) ⟨9, mSnd L (pl10 f us) t (kl g m1 vs)⟩ := weak_pull id (fun _ _ => rfl) hnb (fun p hp κ y hy => by
        rw [kl_length] at hp
        simp only [lSnd, List.mem_cons, List.not_mem_nil, or_false] at hp
        rcases hp with rfl | rfl | rfl | rfl | rfl | rfl | rfl
        · exact vrel_any _ _
        · dsimp only at hy; rw [g3] at hy; exact VRel.pull_ptr rfl (by dsimp only; omega) hy
        · dsimp only at hy; rw [g8] at hy; exact VRel.pull rfl hy
        · dsimp only at hy; rw [g12] at hy; exact VRel.pull_slc rfl (by dsimp only; omega) hy
        · dsimp only at hy; rw [g17] at hy; exact VRel.pull rfl hy
        · dsimp only at hy; rw [g18] at hy; exact VRel.pull rfl hy
        · dsimp only at hy; rw [g19] at hy; exact VRel.pull rfl hy) (fun m r2 hf => by
        have hp := find_mem _ _ _ hf
        simp only [mSnd, List.mem_cons, List.not_mem_nil, or_false, Prod.mk.injEq] at hp
        rcases hp with ⟨rfl, rfl⟩ | ⟨rfl, rfl⟩
        · exact ⟨_, hm0, RowLe.told (by dsimp only; omega) rfl (fun κ zs hz => CRel.int_ext (fun _ h => CRel.arr_ext (fun i hi => nf_nl c5 hi) (fun _ h => h) h) hz), fun _ => rfl⟩
        · unfold rOf
          rw [kl_length]
          exact ⟨_, hm5, RowLe.arr (by dsimp only; omega) id (fun i hi => kf_kl c8 hi), fun _ => rfl⟩) (fun _ _ _ _ _ _ h => h)
      have hl := hl.weak hw
      cases hf : (List.range 10).all (sndB L (pl10 f us) (kl g m1 vs) off sz far) with
      | true =>
        rw [hf] at hl hk1
        exact ⟨.exit 0, _, _, hk1, Nat.le_refl _, hl⟩
      | false =>
        rw [hf] at hl hk1
        exact ⟨.ret, _, _, hk1, Nat.le_refl _, hl⟩
    · cases h
  · cases h
def LCO (N : (Nat → List AV) → List (Nat × List AV) → List Int) : LT := addL 5 0 (fLoopSnd N) LC9
theorem LCO_ok : LOk Try.prog (LCO pl10) := addL_ok sprog_ok.1 (by kernel_rfl) okLoopSnd LC9_ok
end Go.Sv
namespace Go.Sv
open Go.RowKit Go.Proofs
set_option linter.unusedSimpArgs false
set_option linter.unusedVariables false
/-- A list that is true of places in a packet. -/
structure Tru (L : Int) (M : List Int) (X : List (Int × Int)) : Prop where
  sorted : X.Pairwise fun a b => a.1 < b.1
  each : ∀ x ∈ X, 0 ≤ x.1 ∧ x.1 < 10 ∧ 1 ≤ x.2 ∧ x.2 ≤ 2048 ∧ M.getD x.1.toNat 0 + x.2 ≤ L
theorem Tru.chk {L : Int} {M : List Int} {X : List (Int × Int)} (h : Tru L M X) : chkF (-1) X = true := chk_of X (-1) h.sorted fun x hx => by
  obtain ⟨h1, h2, h3, h4, _⟩ := h.each x hx
  exact ⟨by omega, by simp [idB]; omega, h3, h4⟩
theorem Tru.len {L : Int} {M : List Int} {X : List (Int × Int)} (h : Tru L M X) : X.length ≤ 257 := by
  rw [← can_chk h.chk]; exact canF_len _
theorem Tru.chkE {L : Int} {M : List Int} {X : List (Int × Int)} (h : Tru L M X) : Sv.chkE X = 0 := by
  unfold Sv.chkE
  have h1 : decide (X.length > 257) = false := decide_eq_false (by have := h.len; omega)
  rw [h1, h.chk]; rfl
theorem Tru.nn {L : Int} {M : List Int} {X : List (Int × Int)} (h : Tru L M X) : nnId X = true := List.all_eq_true.2 fun x hx => decide_eq_true (h.each x hx).1
/-- Where pointers can lie. -/
def PlcOk (M : List Int) : Prop := ∀ i : Nat, 0 ≤ M.getD i 0 ∧ M.getD i 0 < 3000
theorem Tru.hol {L : Int} {M : List Int} {X : List (Int × Int)} (hM : PlcOk M) (h : Tru L M X) : holF L M X = true := List.all_eq_true.2 fun x hx => by
  obtain ⟨h1, h2, h3, h4, h5⟩ := h.each x hx
  have := hM x.1.toNat
  unfold hitB
  rw [wrap_in64 (by omega) (by omega), decide_eq_false (by omega), decide_eq_false (by omega)]
  rfl
theorem tru_nil {L : Int} {M : List Int} : Tru L M [] := ⟨.nil, by simp⟩
theorem mad_ok (p : List Int) : PlcOk (madF p) := fun i => by
  by_cases h : i < 10
  · match i, h with
    | 0, _ => exact ⟨Int.le_refl 0, show (0 : Int) < 3000 by omega⟩
    | j + 1, h =>
      have e : (madF p).getD (j + 1) 0 = p.getD (j + 1) 0 % 3000 := by
        have hj : j < (List.range 9).length := by simp; omega
        simp only [madF, List.getD_eq_getElem?_getD, List.getElem?_cons_succ, List.getElem?_map]
        rw [List.getElem?_eq_getElem hj, List.getElem_range]
        rfl
      rw [e]
      omega
  · have e : (madF p).getD i 0 = 0 := by
      rw [List.getD_eq_getElem?_getD, List.getElem?_eq_none (by simp [madF]; omega)]; rfl
    rw [e]; omega
theorem last_lt {ys : List (Int × Int)} {id : Int} (hs : ys.Pairwise fun a b => a.1 < b.1) (h : lastOk ys id = true) : ∀ y ∈ ys, y.1 < id := fun y hy => by
  obtain ⟨i, hi, rfl⟩ := List.mem_iff_getElem.1 hy
  unfold lastOk at h
  cases hz : (Int.ofNat ys.length == Int.ofNat 0) with
  | true =>
    have : Int.ofNat ys.length = Int.ofNat 0 := by simpa using hz
    have := Int.ofNat.inj this
    omega
  | false =>
    rw [hz, cond_false, decide_eq_true_eq, List.getD_eq_getElem?_getD, List.getElem?_eq_getElem (show ys.length - 1 < ys.length by omega)] at h
    have h' : (ys[ys.length - 1]'(by omega)).1 < id := h
    by_cases he : i = ys.length - 1
    · subst he; exact h'
    · have := List.pairwise_iff_getElem.1 hs i (ys.length - 1) hi (by omega) (by omega)
      omega
theorem som_step {L : Int} {M : List Int} (hL : 0 ≤ L ∧ L ≤ 2048) (hM : PlcOk M) {ys : List (Int × Int)} (h : Tru L M ys) (x : Int × Int) : Tru L M (bif decide (somB L M x > 0) && lastOk ys (x.1 % 10) then ys ++ [(x.1 % 10, somB L M x)] else ys) := by
  cases hc : (decide (somB L M x > 0) && lastOk ys (x.1 % 10)) with
  | false => exact h
  | true =>
    simp only [Bool.and_eq_true, decide_eq_true_eq] at hc
    obtain ⟨hb, hl⟩ := hc
    have hm := hM (x.1 % 10).toNat
    have hw1 : IntKind.i64.wrap (L - M.getD (x.1 % 10).toNat 0) = L - M.getD (x.1 % 10).toNat 0 := wrap_in64 (by omega) (by omega)
    have hw2 : IntKind.i64.wrap (1 + x.2 % 2048) = 1 + x.2 % 2048 := wrap_in64 (by omega) (by omega)
    have hbv : somB L M x ≤ L - M.getD (x.1 % 10).toNat 0 ∧ somB L M x ≤ 2048 := by
      unfold somB
      rw [hw1, hw2]
      cases hd : decide (L - M.getD (x.1 % 10).toNat 0 < 1 + x.2 % 2048) with
      | true => exact ⟨Int.le_refl _, by rw [cond_true]; omega⟩
      | false =>
        have := of_decide_eq_false hd
        rw [cond_false]
        exact ⟨by omega, by omega⟩
    refine ⟨List.pairwise_append.2 ⟨h.sorted, List.pairwise_singleton _ _, fun a ha b hb' => ?_⟩, fun y hy => ?_⟩
    · rw [List.mem_singleton.1 hb']
      exact last_lt h.sorted hl a ha
    · rcases List.mem_append.1 hy with h1 | h1
      · exact h.each y h1
      · rw [List.mem_singleton.1 h1]
        exact ⟨by dsimp only; omega, by dsimp only; omega, by dsimp only; omega, hbv.2, by dsimp only; omega⟩
theorem som_tru {L : Int} {M : List Int} (hL : 0 ≤ L ∧ L ≤ 2048) (hM : PlcOk M) : ∀ (xs ys : List (Int × Int)), Tru L M ys → Tru L M (somF L M ys xs)
  | [], _, h => h
  | x :: r, ys, h => som_tru hL hM r _ (som_step hL hM h x)
theorem Tru.byt {L : Int} {M : List Int} {X : List (Int × Int)} (h : Tru L M X) {j : Int} (hj : bytF j X > 0) : 0 ≤ j ∧ j < 10 ∧ bytF j X ≤ 2048 ∧ M.getD j.toNat 0 + bytF j X ≤ L := by
  have hk : j ∈ X.map (·.1) := Classical.byContradiction fun hc => by rw [bytF_zero hc] at hj; omega
  obtain ⟨h1, h2, h3, h4, h5⟩ := h.each _ (bytF_mem hk)
  exact ⟨h1, h2, h4, h5⟩
theorem prv_tru {L : Int} {M : List Int} {X : List (Int × Int)} (h : Tru L M X) {id c : Int} (hi : 0 ≤ id ∧ id < 10) (hc : 0 ≤ c ∧ c ≤ 2048) (hp : M.getD id.toNat 0 + c ≤ L) : Tru L M (prvF X id c).1 ∧ (prvF X id c).2 = 0 := by
  have hb : idB id = true := by simp [idB]; omega
  have e : prvF X id c = (canF fun j => if j = id then max (bytF id X) (min c 2048) else bytF j X, 0) := by
    unfold prvF
    rw [h.chkE, hb, decide_eq_false (show ¬ c < 0 by omega)]
    rfl
  rw [e]
  refine ⟨⟨ofF_sorted _ _, fun p hp' => ?_⟩, rfl⟩
  dsimp only at hp'
  obtain ⟨h1, h2, h3⟩ := canF_mem.1 hp'
  by_cases he : p.1 = id
  · rw [if_pos he] at h2
    rw [he] at *
    by_cases hz : bytF id X > 0
    · obtain ⟨_, _, g3, g4⟩ := h.byt hz
      exact ⟨hi.1, hi.2, by omega, by omega, by omega⟩
    · exact ⟨hi.1, hi.2, by omega, by omega, by omega⟩
  · rw [if_neg he] at h2
    have hz : bytF p.1 X > 0 := by omega
    obtain ⟨g1, g2, g3, g4⟩ := h.byt hz
    exact ⟨g1, g2, by omega, by omega, by omega⟩
theorem act_tru {L : Int} {M : List Int} {X : List (Int × Int)} (h : Tru L M X) {s id f : Int} (hs : s = 0 ∨ s = 1 ∧ M.getD id.toNat 0 + f ≤ L ∨ s = 2 ∧ M.getD id.toNat 0 + f < L) (hi : 0 ≤ id ∧ id < 10) (hf : 0 ≤ f ∧ f < 100) : Tru L M (actF X s id f).1 ∧ (actF X s id f).2 = 0 := by
  rcases hs with rfl | ⟨rfl, h1⟩ | ⟨rfl, h1⟩
  · exact ⟨h, rfl⟩
  · rw [act1]; exact prv_tru h hi (by omega) h1
  · rw [act2]; exact prv_tru h hi (by omega) (by omega)
theorem say_so {op p L : Int} (h : 29 ≤ op ∧ op ≤ 32) : (sayF op (soF op p L) true = 0 ∨ sayF op (soF op p L) true = 1 ∧ p ≤ L ∨ sayF op (soF op p L) true = 2 ∧ p < L) ∧ (sayF op (soF op L p) false = 0 ∨ sayF op (soF op L p) false = 1 ∧ p ≤ L ∨ sayF op (soF op L p) false = 2 ∧ p < L) := by
  obtain ⟨h1, h2⟩ := h
  have hop : op = 29 ∨ op = 30 ∨ op = 31 ∨ op = 32 := by omega
  rcases hop with rfl | rfl | rfl | rfl
  · have e1 : soF 29 p L = decide (p < L) := rfl
    have e2 : soF 29 L p = decide (L < p) := rfl
    rw [e1, e2]
    constructor
    · cases hd : decide (p < L) with
      | true => exact .inr (.inr ⟨rfl, of_decide_eq_true hd⟩)
      | false => exact .inl rfl
    · cases hd : decide (L < p) with
      | true => exact .inl rfl
      | false => exact .inr (.inl ⟨rfl, by have := of_decide_eq_false hd; omega⟩)
  · have e1 : soF 30 p L = decide (p ≤ L) := rfl
    have e2 : soF 30 L p = decide (L ≤ p) := rfl
    rw [e1, e2]
    constructor
    · cases hd : decide (p ≤ L) with
      | true => exact .inr (.inl ⟨rfl, of_decide_eq_true hd⟩)
      | false => exact .inl rfl
    · cases hd : decide (L ≤ p) with
      | true => exact .inl rfl
      | false => exact .inr (.inr ⟨rfl, by have := of_decide_eq_false hd; omega⟩)
  · have e1 : soF 31 p L = decide (p > L) := rfl
    have e2 : soF 31 L p = decide (L > p) := rfl
    rw [e1, e2]
    constructor
    · cases hd : decide (p > L) with
      | true => exact .inl rfl
      | false => exact .inr (.inl ⟨rfl, by have := of_decide_eq_false hd; omega⟩)
    · cases hd : decide (L > p) with
      | true => exact .inr (.inr ⟨rfl, by have := of_decide_eq_true hd; omega⟩)
      | false => exact .inl rfl
  · have e1 : soF 32 p L = decide (p ≥ L) := rfl
    have e2 : soF 32 L p = decide (L ≥ p) := rfl
    rw [e1, e2]
    constructor
    · cases hd : decide (p ≥ L) with
      | true => exact .inl rfl
      | false => exact .inr (.inr ⟨rfl, by have := of_decide_eq_false hd; omega⟩)
    · cases hd : decide (L ≥ p) with
      | true => exact .inr (.inl ⟨rfl, by have := of_decide_eq_true hd; omega⟩)
      | false => exact .inl rfl
theorem ptr_is {i f : Int} (hi : 0 ≤ i ∧ i < 10) (hf : 0 ≤ f ∧ f < 100) : ptrB 2 0 0 i f = true := by
  have h1 : idB i = true := by simp [idB]; omega
  have h2 : decide (0 ≤ f) = true := decide_eq_true hf.1
  have h3 : decide (f ≤ 2048) = true := decide_eq_true (by omega)
  unfold ptrB
  rw [h1, h2, h3]; rfl
theorem end_no (c d e f : Int) : endB 2 c d e f = false := rfl
theorem ptr_no (c d e f : Int) : ptrB 3 c d e f = false := rfl
theorem end_is : endB 3 0 0 0 0 = true := rfl
/-- What the law's two comparisons show. -/
theorem sho_tru {L : Int} {M : List Int} {X : List (Int × Int)} (hM : PlcOk M) (hL : 0 ≤ L ∧ L ≤ 2048) (h : Tru L M X) {op id f : Int} (ho : 29 ≤ op ∧ op ≤ 32) (hi : 0 ≤ id ∧ id < 10) (hf : 0 ≤ f ∧ f < 100) :
    (Tru L M (shoF X op (soF op (IntKind.i64.wrap (M.getD id.toNat 0 + f)) L) 2 0 0 id f 3 0 0 0 0).1 ∧ (shoF X op (soF op (IntKind.i64.wrap (M.getD id.toNat 0 + f)) L) 2 0 0 id f 3 0 0 0 0).2 = 0) ∧
    (Tru L M (shoF X op (soF op L (IntKind.i64.wrap (M.getD id.toNat 0 + f))) 3 0 0 0 0 2 0 0 id f).1 ∧ (shoF X op (soF op L (IntKind.i64.wrap (M.getD id.toNat 0 + f))) 3 0 0 0 0 2 0 0 id f).2 = 0) := by
  have hm := hM id.toNat
  rw [wrap_in64 (x := M.getD id.toNat 0 + f) (by omega) (by omega)]
  have h0 : (Sv.chkE X != 0) = false := by rw [h.chkE]; rfl
  have h1 : (decide (op < 29) || decide (op > 32)) = false := by rw [decide_eq_false (by omega), decide_eq_false (by omega)]; rfl
  obtain ⟨s1, s2⟩ := say_so (op := op) (p := M.getD id.toNat 0 + f) (L := L) ho
  constructor
  · have e : ∀ y, shoF X op y 2 0 0 id f 3 0 0 0 0 = actF X (sayF op y true) id f := fun y => by
      unfold shoF
      rw [h0, h1, ptr_is hi hf, end_is]; rfl
    rw [e]
    exact act_tru h s1 hi hf
  · have e : ∀ y, shoF X op y 3 0 0 0 0 2 0 0 id f = actF X (sayF op y false) id f := fun y => by
      unfold shoF
      rw [h0, h1, ptr_is hi hf, end_is, ptr_no]; rfl
    rw [e]
    exact act_tru h s2 hi hf
/-- Each access that is within lies within the packet. -/
theorem snd_tru {L : Int} {M : List Int} {A : List (Int × Int)} (hM : PlcOk M) (hL : 0 ≤ L ∧ L ≤ 2048) (h : Tru L M A) {f sz far : Int} (hf : 0 ≤ f ∧ f < 100) (hs : 1 ≤ sz ∧ sz ≤ 8) (hr : -100 ≤ far ∧ far < 100) : (List.range 10).all (sndB L M A f sz far) = true := List.all_eq_true.2 fun i hi => by
  have hi' : i < 10 := by simpa using hi
  have hm := hM i
  have hb := bytF_le h.chk (Int.ofNat i)
  have h0 : (Sv.chkE A != 0) = false := by rw [h.chkE]; rfl
  have e : witF A 2 0 0 (Int.ofNat i) f far sz = (decide (far ≥ -f) && decide (far ≤ bytF (Int.ofNat i) A - sz - f), 0) := by
    unfold witF
    rw [h0, ptr_is (show 0 ≤ Int.ofNat i ∧ Int.ofNat i < 10 from ⟨by simp, by simp; omega⟩) hf, decide_eq_true hs.1, decide_eq_true hs.2, wrap_in64 (x := 0 - f) (by omega) (by omega), wrap_in64 (x := bytF (Int.ofNat i) A - sz) (by omega) (by omega), wrap_in64 (x := bytF (Int.ofNat i) A - sz - f) (by omega) (by omega), show 0 - f = -f from by omega]
    rfl
  have ea : atF M f far i = M.getD i 0 + f + far := by
    unfold atF
    rw [wrap_in64 (x := M.getD i 0 + f) (by omega) (by omega), wrap_in64 (by omega) (by omega)]
  unfold sndB
  rw [e, ea, wrap_in64 (x := M.getD i 0 + f + far + sz) (by omega) (by omega)]
  cases hd : (decide (far ≥ -f) && decide (far ≤ bytF (Int.ofNat i) A - sz - f)) with
  | false => rfl
  | true =>
    simp only [Bool.and_eq_true, decide_eq_true_eq] at hd
    have hz : bytF (Int.ofNat i) A > 0 := by omega
    obtain ⟨_, _, _, g4⟩ := h.byt hz
    have g4' : M.getD i 0 + bytF (Int.ofNat i) A ≤ L := g4
    rw [decide_eq_false (show ¬ (M.getD i 0 + f + far < 0) by omega), decide_eq_false (show ¬ (M.getD i 0 + f + far + sz > L) by omega)]
    rfl
end Go.Sv
