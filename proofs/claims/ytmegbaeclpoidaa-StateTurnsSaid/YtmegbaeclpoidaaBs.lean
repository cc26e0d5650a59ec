/- The evaluator and the contracts that the walk leans on, part Bs: SF, SH, SI, SG, SJ, SK. -/
import Derived.Test.YtmegbaeclpoidaaBr
namespace Go.Sv
open Go.RowKit Go.Proofs
set_option linter.unusedSimpArgs false
set_option linter.unusedVariables false

/-! ### Same -/
def lSm (v4 : AV) (i : Nat) : List (Nat × AV) := [(4, v4), (2, .ptr 0 [] 0), (3, .ptr 1 [] 0), (5, .int .i64 (Int.ofNat i))]
theorem gSm (v4 : AV) (i : Nat) : (slots (lSm v4 i) (Env.mk 6)).get 4 = v4 := by kernel_rfl
def nSm (i : Nat) : Env := ((((Env.mk 6).set 4 .any).set 2 (.ptr 0 [] 0)).set 3 (.ptr 1 [] 0)).set 5 (.int .i64 (IntKind.i64.wrap (Int.ofNat (i + 1))))
theorem evSm (a b : St) (i : Nat) : evCode Try.prog KSD L0 (regB Try.prog) 60 49 (loopOf Try.prog 49 0) (slots (lSm .any i) (Env.mk 6)) ⟨2, mU1 a b⟩ (fun e E' st' => some (e, keepE E' [4, 2, 3, 5] (Env.mk 6), (mU1 a b).map (fun p => find st'.mem p.1))) =
  (bif decide (Int.ofNat i < (a.kn.length : Int)) then bif decide (Int.ofNat i < (a.kn.length : Int)) then bif decide (Int.ofNat i < (b.kn.length : Int)) then
    bif !pEq a.kn b.kn i then some (.ret, slots (lSm (.bool false) i) (Env.mk 6), (mU1 a b).map (fun p => some p.2)) else some (.normal, nSm i, (mU1 a b).map (fun p => some p.2))
  else none else none else some (.exit 0, slots (lSm .any i) (Env.mk 6), (mU1 a b).map (fun p => some p.2))) := by kernel_rfl
def fLoopSm (R : Type) (E : Env) (st : AS) : Option ((EK → Env → AS → Option R) → Option R) :=
  some fun k => match E.get 2, E.get 3, E.get 5, st.mem with
  | .ptr 0 [] 0, .ptr 1 [] 0, .int .i64 i, (0, ra) :: (1, rb) :: _ => bif Nat.beq st.next 2 && decide (i = 0) then rowK ra fun a => rowK rb fun b =>
      bif decide (a.kn.length = b.kn.length) && Nat.ble a.kn.length LIM then bif eqL a.kn b.kn then k .normal (slots [] (Env.mk 6)) ⟨2, mU1 a b⟩ else k .ret (slots [(4, .bool false)] (Env.mk 6)) ⟨2, mU1 a b⟩ else none else none
  | _, _, _, _ => none
theorem okLoopSm : LoopFn Try.prog 49 0 fLoopSm := fun R E st G h hs nb hnb k y hk => by
  unfold fLoopSm at h
  simp only [Option.some.injEq] at h
  subst h
  dsimp only at hk
  split at hk
  · rename_i i ra rb rest g2 g3 g5 hm
    obtain ⟨hc, hk1⟩ := cond_some hk
    clear hk
    simp only [Bool.and_eq_true, decide_eq_true_eq] at hc
    obtain ⟨c1, c3⟩ := hc
    have d1 := Nat.eq_of_beq_eq_true c1
    clear c1
    obtain ⟨next, mem⟩ := st
    dsimp only at hm d1
    subst hm; subst d1; subst c3
    obtain ⟨a, hk1, oa, ha⟩ := rowK_ok hk1
    obtain ⟨b, hk1, ob, hb⟩ := rowK_ok hk1
    obtain ⟨hc2, hk1⟩ := cond_some hk1
    simp only [Bool.and_eq_true, decide_eq_true_eq] at hc2
    obtain ⟨h1, h2⟩ := hc2
    have h2 := Nat.le_of_ble_eq_true h2
    have hl := loop_all (nb := nb) (q := 2) (d := 6) (fuel := 60) (ts := [4, 2, 3, 5]) KSD_ok l0_ok (g := 49) (id := 0) a.kn.length (pEq a.kn b.kn) (fun i => lSm .any i) (fun i => lSm (.bool false) i) (mU1 a b) [] [(4, .bool false)] hs hnb (fun _ => rfl) (fun _ => rfl) rfl (fun p hp => by cases hp) (fun i p hp => by rw [List.mem_singleton.1 hp]; exact gSm _ _) (fun i hi => by
      have hev := evSm a b i
      have hn : nSm i = slots (lSm .any (i + 1)) (Env.mk 6) := by
        unfold nSm
        rw [wrapNat (show i < 9223372036854775807 by unfold LIM at h2; omega)]; rfl
      rw [dec_lt' hi, dec_lt' (show i < b.kn.length by omega), hn] at hev
      rw [hev]
      cases pEq a.kn b.kn i <;> rfl) (by
      have hev := evSm a b a.kn.length
      rw [dec_nlt'] at hev
      exact hev)
    have hw : Weak nb (szOf Try.prog 49) E ⟨2, (0, ra) :: (1, rb) :: rest⟩ (slots (lSm .any 0) (Env.mk 6)) ⟨2, mU1 a b⟩ := weak_pull _root_.id (fun _ _ => rfl) hnb (fun p hp κ z hz => by
      simp only [lSm, List.mem_cons, List.not_mem_nil, or_false] at hp
      rcases hp with rfl | rfl | rfl | rfl
      · exact vrel_any _ _
      · dsimp only at hz; rw [g2] at hz; exact VRel.pull_ptr rfl (by dsimp only; omega) hz
      · dsimp only at hz; rw [g3] at hz; exact VRel.pull_ptr rfl (by dsimp only; omega) hz
      · dsimp only at hz; rw [g5] at hz; exact VRel.pull rfl hz) (fun q r2 hf => by
      have hp := find_mem _ _ _ hf
      simp only [mU1, List.mem_cons, List.not_mem_nil, or_false, Prod.mk.injEq] at hp
      rcases hp with ⟨rfl, rfl⟩ | ⟨rfl, rfl⟩
      · exact ⟨_, rfl, ha _ _ _ (by dsimp only; omega), fun _ => oa⟩
      · exact ⟨_, rfl, hb _ _ _ (by dsimp only; omega), fun _ => ob⟩) (fun _ _ _ _ _ _ h => h)
    rw [eqL_all _ _ h1] at hk1
    cases hf : (List.range a.kn.length).all (pEq a.kn b.kn) with
    | true =>
      rw [hf] at hl hk1
      exact ⟨.exit 0, _, _, hk1, Nat.le_refl _, hl.weak hw⟩
    | false =>
      rw [hf] at hl hk1
      exact ⟨.ret, _, _, hk1, Nat.le_refl _, hl.weak hw⟩
  · cases hk

/-! ### Under -/
def lUd (v4 v5 : AV) (i : Nat) : List (Nat × AV) := [(4, v4), (5, v5), (2, .ptr 0 [] 0), (3, .ptr 1 [] 0), (8, .int .i64 (Int.ofNat i))]
theorem gUd (v4 v5 : AV) (i : Nat) : (slots (lUd v4 v5 i) (Env.mk 7)).get 4 = v4 ∧ (slots (lUd v4 v5 i) (Env.mk 7)).get 5 = v5 := by
  refine ⟨?_, ?_⟩ <;> kernel_rfl
def nUd (i : Nat) : Env := (((((Env.mk 7).set 4 .any).set 5 .any).set 2 (.ptr 0 [] 0)).set 3 (.ptr 1 [] 0)).set 8 (.int .i64 (IntKind.i64.wrap (Int.ofNat (i + 1))))
theorem evUd (a b : St) (i : Nat) : evCode Try.prog KSD L0 (regB Try.prog) 60 51 (loopOf Try.prog 51 4) (slots (lUd .any .any i) (Env.mk 7)) ⟨2, mU1 a b⟩ (fun e E' st' => some (e, keepE E' [4, 5, 2, 3, 8] (Env.mk 7), (mU1 a b).map (fun p => find st'.mem p.1))) =
  (bif decide (Int.ofNat i < (b.kn.length : Int)) then bif decide (Int.ofNat i < (b.kn.length : Int)) then bif okL (kf a.kn) a.kn.length [] && Nat.ble a.kn.length LIM then bif decide (Int.ofNat i < (b.kn.length : Int)) then
    bif decide (bytF (b.kn.getD i (0, 0)).1 (kl (kf a.kn) a.kn.length []) < (b.kn.getD i (0, 0)).2) then some (.ret, slots (lUd (.bool false) (.int .i64 0) i) (Env.mk 7), (mU1 a b).map (fun p => some p.2)) else some (.normal, nUd i, (mU1 a b).map (fun p => some p.2))
  else none else none else none else some (.exit 4, slots (lUd .any .any i) (Env.mk 7), (mU1 a b).map (fun p => some p.2))) := by kernel_rfl
def fLoopUd (R : Type) (E : Env) (st : AS) : Option ((EK → Env → AS → Option R) → Option R) :=
  some fun k => match E.get 2, E.get 3, E.get 8, st.mem with
  | .ptr 0 [] 0, .ptr 1 [] 0, .int .i64 i, (0, ra) :: (1, rb) :: _ => bif Nat.beq st.next 2 && decide (i = 0) then rowK ra fun a => rowK rb fun b =>
      bif Nat.ble b.kn.length LIM && Nat.ble a.kn.length LIM then bif undK a.kn b.kn then k .normal (slots [] (Env.mk 7)) ⟨2, mU1 a b⟩ else k .ret (slots [(4, .bool false), (5, .int .i64 0)] (Env.mk 7)) ⟨2, mU1 a b⟩ else none else none
  | _, _, _, _ => none
theorem okLoopUd : LoopFn Try.prog 51 4 fLoopUd := fun R E st G h hs nb hnb k y hk => by
  unfold fLoopUd at h
  simp only [Option.some.injEq] at h
  subst h
  dsimp only at hk
  split at hk
  · rename_i i ra rb rest g2 g3 g8 hm
    obtain ⟨hc, hk1⟩ := cond_some hk
    clear hk
    simp only [Bool.and_eq_true, decide_eq_true_eq] at hc
    obtain ⟨c1, c3⟩ := hc
    have d1 := Nat.eq_of_beq_eq_true c1
    clear c1
    obtain ⟨next, mem⟩ := st
    dsimp only at hm d1
    subst hm; subst d1; subst c3
    obtain ⟨a, hk1, oa, ha⟩ := rowK_ok hk1
    obtain ⟨b, hk1, ob, hb⟩ := rowK_ok hk1
    obtain ⟨hc2, hk1⟩ := cond_some hk1
    simp only [Bool.and_eq_true] at hc2
    obtain ⟨h1, h2'⟩ := hc2
    have h2 := Nat.le_of_ble_eq_true h1
    have hl := loop_all (nb := nb) (q := 2) (d := 7) (fuel := 60) (ts := [4, 5, 2, 3, 8]) KSD_ok l0_ok (g := 51) (id := 4) b.kn.length (fun i => !decide (bytF (b.kn.getD i (0, 0)).1 a.kn < (b.kn.getD i (0, 0)).2)) (fun i => lUd .any .any i) (fun i => lUd (.bool false) (.int .i64 0) i) (mU1 a b) [] [(4, .bool false), (5, .int .i64 0)] hs hnb (fun _ => rfl) (fun _ => rfl) rfl (fun p hp => by cases hp) (fun i p hp => by
      obtain ⟨g2, g3⟩ := gUd (.bool false) (.int .i64 0) i
      simp only [List.mem_cons, List.not_mem_nil, or_false] at hp
      rcases hp with rfl | rfl
      · exact g2
      · exact g3) (fun i hi => by
      have hev := evUd a b i
      have hn : nUd i = slots (lUd .any .any (i + 1)) (Env.mk 7) := by
        unfold nUd
        rw [wrapNat (show i < 9223372036854775807 by unfold LIM at h2; omega)]; rfl
      rw [dec_lt' hi, okL_kf, h2', hn, kl_kf] at hev
      rw [hev]
      cases decide (bytF (b.kn.getD i (0, 0)).1 a.kn < (b.kn.getD i (0, 0)).2) <;> rfl) (by
      have hev := evUd a b b.kn.length
      rw [dec_nlt'] at hev
      exact hev)
    have hw : Weak nb (szOf Try.prog 51) E ⟨2, (0, ra) :: (1, rb) :: rest⟩ (slots (lUd .any .any 0) (Env.mk 7)) ⟨2, mU1 a b⟩ := weak_pull _root_.id (fun _ _ => rfl) hnb (fun p hp κ z hz => by
      simp only [lUd, List.mem_cons, List.not_mem_nil, or_false] at hp
      rcases hp with rfl | rfl | rfl | rfl | rfl
      · exact vrel_any _ _
      · exact vrel_any _ _
      · dsimp only at hz; rw [g2] at hz; exact VRel.pull_ptr rfl (by dsimp only; omega) hz
      · dsimp only at hz; rw [g3] at hz; exact VRel.pull_ptr rfl (by dsimp only; omega) hz
      · dsimp only at hz; rw [g8] at hz; exact VRel.pull rfl hz) (fun q r2 hf => by
      have hp := find_mem _ _ _ hf
      simp only [mU1, List.mem_cons, List.not_mem_nil, or_false, Prod.mk.injEq] at hp
      rcases hp with ⟨rfl, rfl⟩ | ⟨rfl, rfl⟩
      · exact ⟨_, rfl, ha _ _ _ (by dsimp only; omega), fun _ => oa⟩
      · exact ⟨_, rfl, hb _ _ _ (by dsimp only; omega), fun _ => ob⟩) (fun _ _ _ _ _ _ h => h)
    rw [undK_all] at hk1
    cases hf : (List.range b.kn.length).all (fun i => !decide (bytF (b.kn.getD i (0, 0)).1 a.kn < (b.kn.getD i (0, 0)).2)) with
    | true =>
      rw [hf] at hl hk1
      exact ⟨.exit 4, _, _, hk1, Nat.le_refl _, hl.weak hw⟩
    | false =>
      rw [hf] at hl hk1
      exact ⟨.ret, _, _, hk1, Nat.le_refl _, hl.weak hw⟩
  · cases hk
def LSF : LT := addL 49 0 fLoopSm (addL 51 4 fLoopUd L0)
theorem LSF_ok : LOk Try.prog LSF := addL_ok sprog_ok.1 (by kernel_rfl) okLoopSm (addL_ok sprog_ok.1 (by kernel_rfl) okLoopUd l0_ok)
end Go.Sv
namespace Go.Sv
open Go.RowKit Go.Proofs
set_option linter.unusedSimpArgs false
set_option linter.unusedVariables false
theorem evSamT2 (a b : St) : evFn Try.prog KSD LSF (regB Try.prog) 80 49 [stA a, stA b] ⟨0, []⟩ ret =
  (bif !(List.range 10).all (fun i => vEq (a.r i) (b.r i)) then some (.bool false) else bif (bif false then true else !(List.range 8).all (fun i => sEq (a.s i) (b.s i))) then some (.bool false) else bif (bif false then true else Int.ofNat a.kn.length != Int.ofNat b.kn.length) then some (.bool false) else
    bif true && okL (kf a.kn) a.kn.length [] then bif true && okL (kf b.kn) b.kn.length [] then bif decide ((stL a).kn.length = (stL b).kn.length) && Nat.ble (stL a).kn.length LIM then bif eqL (stL a).kn (stL b).kn then some (.bool true) else some (.bool false) else none else none else none) := by kernel_rfl
theorem okSamT2 : FnOk Try.prog 49 fSamT := fSamT_ok KSD_ok LSF_ok fun a b h => by
  rw [evSamT2]
  simp only [stL_eq, okL_kf, h, Bool.true_and, Bool.and_true, cond_true, cond_false]
  unfold samT samE
  cases (List.range 10).all (fun i => vEq (a.r i) (b.r i)) with
  | false => rfl
  | true =>
    cases (List.range 8).all (fun i => sEq (a.s i) (b.s i)) with
    | false => rfl
    | true =>
      by_cases hl : a.kn.length = b.kn.length
      · have h1 : (Int.ofNat a.kn.length != Int.ofNat b.kn.length) = false := by rw [hl]; simp
        rw [h1, decide_eq_true hl]
        cases eqL a.kn b.kn <;> rfl
      · have h1 : (Int.ofNat a.kn.length != Int.ofNat b.kn.length) = true := by simp; omega
        rw [h1, decide_eq_false hl]; rfl

/-! ### spare -/
def stS (t : St) (q n c : Nat) : AV := .agg [regA t.r, sltA t.s, .slc q [] 0 0 2 n c]
def kSp (v : AV) (st : AS) : Option (List (List AV) × List (List AV) × AV × Option Row) :=
  match v with
  | .agg [.arr 5 10 f us, .arr 2 8 g vs, z] => some ((List.range 10).map (elt us f), (List.range 8).map (elt vs g), z, zRow st z)
  | _ => none
theorem kSp_inv {v : AV} {st : AS} {R S : List (List AV)} {z : AV} {o : Option Row} (h : kSp v st = some (R, S, z, o)) : ∃ f us g vs, v = .agg [.arr 5 10 f us, .arr 2 8 g vs, z] ∧ (List.range 10).map (elt us f) = R ∧ (List.range 8).map (elt vs g) = S ∧ zRow st z = o := by
  unfold kSp at h
  split at h
  · rename_i f us g vs z
    simp only [Option.some.injEq, Prod.mk.injEq] at h
    obtain ⟨rfl, rfl, rfl, rfl⟩ := h
    exact ⟨f, us, g, vs, rfl, rfl, rfl, rfl⟩
  · cases h
theorem evSpS (a : St) : evFn Try.prog KSD LSF (regB Try.prog) 80 45 [stA a] ⟨0, []⟩ kSp =
  (bif Nat.ble (a.kn.length * 16) LIM then bif Nat.ble a.kn.length a.kn.length then bif Nat.ble ((a.kn.length + 1) * 16) LIM then bif Nat.ble (a.kn.length + 1) (a.kn.length + 1) then bif Nat.ble ((a.kn.length + 2) * 16) LIM then bif Nat.ble (a.kn.length + 2) (a.kn.length + 2) then bif Nat.ble ((a.kn.length + 3) * 16) LIM then bif Nat.ble (a.kn.length + 3) (a.kn.length + 3) then bif Nat.ble ((a.kn.length + 4) * 16) LIM then bif decide ((a.kn.length : Int) ≤ ((a.kn.length + 4 : Nat) : Int)) then
    some ((List.range 10).map fun i => vc (a.r i), (List.range 8).map fun i => sc (a.s i), .slc 13 [] 0 0 2 a.kn.length (a.kn.length + 4), some (.cells [.arr 2 (a.kn.length + 4) (kf a.kn) [(a.kn.length + 3, [.int .i64 (-7), .int .i64 3]), (a.kn.length + 2, [.int .i64 (-7), .int .i64 2]), (a.kn.length + 1, [.int .i64 (-7), .int .i64 1]), (a.kn.length, [.int .i64 (-7), .int .i64 0])]] true true))
  else none else none else none else none else none else none else none else none else none else none) := by kernel_rfl
theorem flat_stS {t : St} {n c : Nat} {xs : List (Int × Int)} {m : Nat} : FlatSt (stS t 0 n c) ⟨1, [(0, rSpa xs m)]⟩ := ⟨fun x hx => by
  simp only [List.mem_cons, List.not_mem_nil, or_false] at hx
  rcases hx with rfl | rfl | rfl
  · exact fun i _ x hx => by
      simp only [elt, vc, List.mem_cons, List.not_mem_nil, or_false] at hx
      rcases hx with rfl | rfl | rfl | rfl | rfl <;> trivial
  · exact fun i _ x hx => by
      simp only [elt, sc, List.mem_cons, List.not_mem_nil, or_false] at hx
      rcases hx with rfl | rfl <;> trivial
  · trivial, fun p hp => by rw [List.mem_singleton.1 hp]; exact flat_kf rfl⟩
def fSpS (R : Type) (vs : List AV) (k : AV → AS → Option R) : Option R :=
  match vs with
  | [x] => stK x fun a => bif Nat.ble ((a.kn.length + 4) * 16) LIM then k (stS a 0 a.kn.length (a.kn.length + 4)) ⟨1, [(0, rSpa a.kn a.kn.length)]⟩ else none
  | _ => none
theorem okSpS : FnOk Try.prog 45 fSpS := fun R vs k r h => by
  unfold fSpS at h
  split at h
  · rename_i x
    obtain ⟨a, h, ha, hx⟩ := stK_ok h
    obtain ⟨hc, h⟩ := cond_some h
    refine ⟨_, _, h, flat_stS, SoundFn.args (vs' := [stA a]) ?_ fun κ ys hy => hy.last (hx κ) ha⟩
    have hle := Nat.le_of_ble_eq_true hc
    have b1 : ∀ j, j ≤ 4 → Nat.ble ((a.kn.length + j) * 16) LIM = true := fun j hj => Nat.ble_eq_true_of_le (Nat.le_trans (Nat.mul_le_mul_right 16 (by omega)) hle)
    have b0 := b1 0 (by omega)
    rw [Nat.add_zero] at b0
    have b2 : ∀ j : Nat, Nat.ble j j = true := fun j => by simp
    have b3 : decide ((a.kn.length : Int) ≤ ((a.kn.length + 4 : Nat) : Int)) = true := decide_eq_true (by omega)
    have hev := evSpS a
    rw [b0, b2, b1 1 (by omega), b2, b1 2 (by omega), b2, b1 3 (by omega), b2, b1 4 (by omega), b3] at hev
    simp only [cond_true] at hev
    obtain ⟨v, st1, hk, _, hs⟩ := evFn_ok sprog_ok.1 KSD_ok LSF_ok (regB_ok sprog_ok.1 sprog_ok.2) rfl hev
    obtain ⟨f, us, g, vs, rfl, h1, h2, h3⟩ := kSp_inv hk
    refine hs.pull (st2 := ⟨1, [(0, rSpa a.kn a.kn.length)]⟩) (fun _ => 13) (fun κ y hy => ?_) (fun n r2 hn => ?_) (fun n n' r r' h1 h2 _ => ?_)
    · cases hy with
      | agg _ zs h4 h5 => exact .agg _ zs (CRel.arr_to (κ.pull_nl (fun _ => 13) 1) (fun i hi => (rng_map h1 i hi).symm) (fun _ h => CRel.arr_to (κ.pull_nl (fun _ => 13) 1) (fun i hi => (rng_map h2 i hi).symm) (fun _ h => CRel.last_to (fun y hy => VRel.pull_slc rfl Nat.zero_lt_one hy) rfl h) h) h4) .nil
    · have hp := List.mem_singleton.1 (find_mem _ _ _ hn)
      simp only [Prod.mk.injEq] at hp
      obtain ⟨rfl, rfl⟩ := hp
      exact ⟨_, h3, RowLe.arr (by dsimp only; omega) id (kf_marks a.kn), fun _ => rfl⟩
    · have hp := List.mem_singleton.1 (find_mem _ _ _ h1)
      have hp' := List.mem_singleton.1 (find_mem _ _ _ h2)
      simp only [Prod.mk.injEq] at hp hp'
      rw [hp.1, hp'.1]
  · cases h
def hasSH : FuncId → Bool := addHas 49 (addHas 45 hasSD)
def specSH : SpecT := addS 49 fSamT (addS 45 fSpS specSD)
theorem specSH_ok : SpecOk Try.prog hasSH specSH := addS_ok okSamT2 (addS_ok okSpS specSD_ok)
def KSH : KT := orK (specK hasSH specSH) KX
theorem KSH_ok : KOk Try.prog KSH := orK_ok (specK_ok specSH_ok) KX_ok
end Go.Sv
namespace Go.Sv
open Go.RowKit Go.Proofs
set_option linter.unusedSimpArgs false
set_option linter.unusedVariables false
def lUr (v4 v5 : AV) (i : Nat) : List (Nat × AV) := [(4, v4), (5, v5), (2, .ptr 0 [] 0), (3, .ptr 1 [] 0), (6, .int .i64 (Int.ofNat i))]
theorem gUr (v4 v5 : AV) (i : Nat) : (slots (lUr v4 v5 i) (Env.mk 7)).get 4 = v4 ∧ (slots (lUr v4 v5 i) (Env.mk 7)).get 5 = v5 ∧ (slots (lUr v4 v5 i) (Env.mk 7)).get 2 = .ptr 0 [] 0 ∧ (slots (lUr v4 v5 i) (Env.mk 7)).get 3 = .ptr 1 [] 0 := by
  refine ⟨?_, ?_, ?_, ?_⟩ <;> kernel_rfl
def nUr (i : Nat) : Env := (((((Env.mk 7).set 4 .any).set 5 .any).set 2 (.ptr 0 [] 0)).set 3 (.ptr 1 [] 0)).set 6 (.int .i64 (IntKind.i64.wrap (Int.ofNat (i + 1))))
theorem evUr (a b : St) (i : Nat) : evCode Try.prog KSD L0 (regB Try.prog) 60 51 (loopOf Try.prog 51 0) (slots (lUr .any .any i) (Env.mk 7)) ⟨2, mU1 a b⟩ (fun e E' st' => some (e, keepE E' [4, 5, 2, 3, 6] (Env.mk 7), (mU1 a b).map (fun p => find st'.mem p.1))) =
  (bif decide (Int.ofNat i < 10) then bif decide (Int.ofNat i < 10) then bif Nat.blt i 10 then bif decide (Int.ofNat i < 10) then bif Nat.blt i 10 then
    bif !sayV (a.r i) (b.r i) then some (.ret, slots (lUr (.bool false) (.int .i64 0) i) (Env.mk 7), (mU1 a b).map (fun p => some p.2)) else some (.normal, nUr i, (mU1 a b).map (fun p => some p.2))
  else none else none else none else none else some (.exit 0, slots (lUr .any .any i) (Env.mk 7), (mU1 a b).map (fun p => some p.2))) := by kernel_rfl
def fLoopUr (R : Type) (E : Env) (st : AS) : Option ((EK → Env → AS → Option R) → Option R) :=
  some fun k => match E.get 2, E.get 3, E.get 6, st.mem with
  | .ptr 0 [] 0, .ptr 1 [] 0, .int .i64 i, (0, ra) :: (1, rb) :: _ => bif Nat.beq st.next 2 && decide (i = 0) then rowK ra fun a => rowK rb fun b =>
      bif (List.range 10).all (fun i => sayV (a.r i) (b.r i)) then k .normal (slots [(2, .ptr 0 [] 0), (3, .ptr 1 [] 0)] (Env.mk 7)) ⟨2, mU1 a b⟩ else k .ret (slots [(4, .bool false), (5, .int .i64 0)] (Env.mk 7)) ⟨2, mU1 a b⟩ else none
  | _, _, _, _ => none
theorem okLoopUr : LoopFn Try.prog 51 0 fLoopUr := fun R E st G h hs nb hnb k y hk => by
  unfold fLoopUr at h
  simp only [Option.some.injEq] at h
  subst h
  dsimp only at hk
  split at hk
  · rename_i i ra rb rest g2 g3 g8 hm
    obtain ⟨hc, hk1⟩ := cond_some hk
    clear hk
    simp only [Bool.and_eq_true, decide_eq_true_eq] at hc
    obtain ⟨c1, c3⟩ := hc
    have d1 := Nat.eq_of_beq_eq_true c1
    clear c1
    obtain ⟨next, mem⟩ := st
    dsimp only at hm d1
    subst hm; subst d1; subst c3
    obtain ⟨a, hk1, oa, ha⟩ := rowK_ok hk1
    obtain ⟨b, hk1, ob, hb⟩ := rowK_ok hk1
    have hl := loop_all (nb := nb) (q := 2) (d := 7) (fuel := 60) (ts := [4, 5, 2, 3, 6]) KSD_ok l0_ok (g := 51) (id := 0) 10 (fun i => sayV (a.r i) (b.r i)) (fun i => lUr .any .any i) (fun i => lUr (.bool false) (.int .i64 0) i) (mU1 a b) [(2, .ptr 0 [] 0), (3, .ptr 1 [] 0)] [(4, .bool false), (5, .int .i64 0)] hs hnb (fun _ => rfl) (fun _ => rfl) rfl (fun p hp => by
      obtain ⟨_, _, g2, g3⟩ := gUr .any .any 10
      simp only [List.mem_cons, List.not_mem_nil, or_false] at hp
      rcases hp with rfl | rfl
      · exact g2
      · exact g3) (fun i p hp => by
      obtain ⟨g2, g3, _, _⟩ := gUr (.bool false) (.int .i64 0) i
      simp only [List.mem_cons, List.not_mem_nil, or_false] at hp
      rcases hp with rfl | rfl
      · exact g2
      · exact g3) (fun i hi => by
      have hev := evUr a b i
      have hn : nUr i = slots (lUr .any .any (i + 1)) (Env.mk 7) := by
        unfold nUr
        rw [wrapNat (show i < 9223372036854775807 by omega)]; rfl
      have hd : decide (Int.ofNat i < 10) = true := decide_eq_true (by simp; omega)
      have hb : Nat.blt i 10 = true := by simp; omega
      rw [hd, hb, hn] at hev
      rw [hev]
      cases sayV (a.r i) (b.r i) <;> rfl) (evUr a b 10)
    have hw : Weak nb (szOf Try.prog 51) E ⟨2, (0, ra) :: (1, rb) :: rest⟩ (slots (lUr .any .any 0) (Env.mk 7)) ⟨2, mU1 a b⟩ := weak_pull _root_.id (fun _ _ => rfl) hnb (fun p hp κ z hz => by
      simp only [lUr, List.mem_cons, List.not_mem_nil, or_false] at hp
      rcases hp with rfl | rfl | rfl | rfl | rfl
      · exact vrel_any _ _
      · exact vrel_any _ _
      · dsimp only at hz; rw [g2] at hz; exact VRel.pull_ptr rfl (by dsimp only; omega) hz
      · dsimp only at hz; rw [g3] at hz; exact VRel.pull_ptr rfl (by dsimp only; omega) hz
      · dsimp only at hz; rw [g8] at hz; exact VRel.pull rfl hz) (fun q r2 hf => by
      have hp := find_mem _ _ _ hf
      simp only [mU1, List.mem_cons, List.not_mem_nil, or_false, Prod.mk.injEq] at hp
      rcases hp with ⟨rfl, rfl⟩ | ⟨rfl, rfl⟩
      · exact ⟨_, rfl, ha _ _ _ (by dsimp only; omega), fun _ => oa⟩
      · exact ⟨_, rfl, hb _ _ _ (by dsimp only; omega), fun _ => ob⟩) (fun _ _ _ _ _ _ h => h)
    cases hf : (List.range 10).all (fun i => sayV (a.r i) (b.r i)) with
    | true =>
      rw [hf] at hl hk1
      exact ⟨.exit 0, _, _, hk1, Nat.le_refl _, hl.weak hw⟩
    | false =>
      rw [hf] at hl hk1
      exact ⟨.ret, _, _, hk1, Nat.le_refl _, hl.weak hw⟩
  · cases hk
def LSI : LT := addL 51 0 fLoopUr LSF
theorem LSI_ok : LOk Try.prog LSI := addL_ok sprog_ok.1 (by kernel_rfl) okLoopUr LSF_ok
theorem evUnd2 (a b : St) : evFn Try.prog KSD LSI (regB Try.prog) 80 51 [stA a, stA b] ⟨0, []⟩ ret =
  (bif true && okL (kf a.kn) a.kn.length [] then bif chkI (stL a) != 0 then aUnd false 2 else
    bif true && okL (kf b.kn) b.kn.length [] then bif (bif false then true else chkI (stL b) != 0) then aUnd false 2 else
    bif true && okL (kf a.kn) a.kn.length [] then bif true && okL (kf b.kn) b.kn.length [] then bif (List.range 10).all (fun i => sayV (a.r i) (b.r i)) then ifs ((List.range 8).map fun i => sUnd (a.s i) (b.s i)) (aUnd false 0) (
      bif true && okL (kf (stL a).kn) (stL a).kn.length [] then bif true && okL (kf (stL b).kn) (stL b).kn.length [] then bif Nat.ble (stL (stL b)).kn.length LIM && Nat.ble (stL (stL a)).kn.length LIM then
        bif undK (stL (stL a)).kn (stL (stL b)).kn then aUnd true 0 else aUnd false 0 else none else none else none)
    else aUnd false 0 else none else none else none else none) := by kernel_rfl
theorem okUnd2 : FnOk Try.prog 51 fUnd := fUnd_ok KSD_ok LSI_ok fun a b => by
  rw [evUnd2]
  simp only [okL_kf, stL_eq, chkI_ne, ifs_eq, map_all, Bool.and_self, Bool.true_and, Bool.and_true, cond_true, cond_false]
  unfold undR
  cases ha : chkB a with
  | false => rfl
  | true =>
    cases hb : chkB b with
    | false => rfl
    | true =>
      have l3 : Nat.ble b.kn.length LIM = true := len_LIM (chkB_iff.1 hb).kn
      have l4 : Nat.ble a.kn.length LIM = true := len_LIM (chkB_iff.1 ha).kn
      simp only [l3, l4, Bool.not_true, Bool.and_self, cond_true, cond_false, undT]
      cases (List.range 10).all (fun i => sayV (a.r i) (b.r i)) <;> cases (List.range 8).all (fun i => sUnd (a.s i) (b.s i)) <;> cases undK a.kn b.kn <;> rfl
end Go.Sv
namespace Go.Sv
open Go.RowKit Go.Proofs
set_option linter.unusedSimpArgs false
set_option linter.unusedVariables false

/-! ### a call on one row, other rows looked at only -/
section
variable {P : Program}
theorem freeze_ent {g : FuncId} {xs vs : List AV} {ns : List Nat} {next : Nat} {m : List (Nat × Row)} {e : Ent} (hsh : ∀ (κ : Kap) (w : World) (M : Mem), MRel κ M w → (∀ n ∈ ns, ∀ c o t, find m n = some (.cells c o t) → M n = some (.cells c false t)) → ∀ zs, CRel κ xs zs → CRel κ vs zs)
    (hne : ∀ n ∈ e.rd, n ∉ ns) (h : CallEnt P g vs next (find m) e) : CallEnt P g xs next (find m) ⟨e.v, frz m ns ++ e.eff, e.nx, ns ++ e.rd⟩ := by
  intro κ us w M hl hR hrd hfr
  dsimp only at hrd hfr
  obtain ⟨κf, f1, f2, f3, f4, f5, f6⟩ := MRel.freezeAll (m := m) ns hR fun n hn c o t hc => .inl (by rw [hrd n (List.mem_append_left _ hn)]; exact hc)
  have hvs := hsh κf w _ f3 f6 us (hl.mono f1)
  refine (h κf us w _ hvs f3 (fun n hn => (f5 n (hne n hn)).trans (hrd n (List.mem_append_right _ hn))) (fun n h1 h2 => by rw [f2]; exact hfr n h1 h2)).mono fun en w' he => ?_
  obtain ⟨κ', v', a1, a2, a3, a4, a5, a6⟩ := he
  rw [← Mem.sets_append] at a5 a6
  exact ⟨κ', v', Kap.le_trans f1 a1, fun n hn => (a2 n hn).trans (congrFun f2 n), a3, a4, a5, f4.trans a6⟩
end
theorem VRel.stOne {κ : Kap} {q n c : Nat} {t : St} {f g : Nat → List AV} {us vs : List (Nat × List AV)} {y : Value} (hr : ∀ i, i < 10 → vc (t.r i) = elt us f i) (hs : ∀ i, i < 8 → sc (t.s i) = elt vs g i) (h : VRel κ (.agg [.arr 5 10 f us, .arr 2 8 g vs, .slc q [] 0 0 2 n c]) y) : VRel (κ.one q) (stS t 0 n c) y := by
  cases h with
  | agg _ zs h1 h2 => exact .agg _ zs (CRel.arr_to (κ.one_nl q) hr (fun _ h => CRel.arr_to (κ.one_nl q) hs (fun _ h => CRel.oneSlc rfl h) h) h1) .nil
theorem VRel.stA_to {κ κ' : Kap} (hl : κ.nl.le κ'.nl) {t : St} {y : Value} (h : VRel κ (stA t) y) : VRel κ' (stA t) y := by
  cases h with
  | agg _ zs h1 h2 => exact .agg _ zs (CRel.noNm hl rfl h1) .nil

/-! ### told -/
def KSG : KT := KSH
theorem KSG_ok : KOk Try.prog KSG := KSH_ok
def lTld (b : Bool) (N i : Nat) : List (Nat × AV) := [(9, .bool b), (10, .slc 0 [] 0 0 2 N N), (11, .int .i64 (Int.ofNat i))]
theorem gTld (b : Bool) (N i : Nat) : (slots (lTld b N i) (Env.mk 6)).get 9 = .bool b ∧ (slots (lTld b N i) (Env.mk 6)).get 10 = .slc 0 [] 0 0 2 N N := ⟨by kernel_rfl, by kernel_rfl⟩
theorem gTldR (b : Bool) (N : Nat) (v : Int) : let E := (((Env.mk 6).set 9 (.bool b)).set 10 (.slc 0 [] 0 0 2 N N)).set 11 (.int .i64 v); E.get 9 = .bool b ∧ E.get 10 = .slc 0 [] 0 0 2 N N ∧ E.get 11 = .int .i64 v := ⟨by kernel_rfl, by kernel_rfl, by kernel_rfl⟩
theorem evTld (b : Bool) (zs : List (Int × Int)) (i N : Nat) : evCode Try.prog KSG L0 (regB Try.prog) 60 54 (loopOf Try.prog 54 0) (slots (lTld b N i) (Env.mk 6)) ⟨3, [(0, rKf zs N)]⟩ (fun e E' st' => some (e, keepE E' [9, 10, 11] (Env.mk 6), [0].map (find st'.mem))) =
  (bif decide (Int.ofNat i < (N : Int)) then bif decide (Int.ofNat i < (N : Int)) then bif Nat.blt i N then
    some (.normal, (((Env.mk 6).set 9 (.bool b)).set 10 (.slc 0 [] 0 0 2 N N)).set 11 (.int .i64 (IntKind.i64.wrap (Int.ofNat (i + 1)))), [some (.cells [.arr 2 N (kf zs) [(i, [.int .i64 (-9), .int .i64 0])]] true true)])
  else none else none else some (.exit 0, slots (lTld b N i) (Env.mk 6), [some (rKf zs N)])) := by kernel_rfl
theorem loopTld (b : Bool) (zs : List (Int × Int)) (hz : zs.length < 4611686018427387904) {nb : Nat} (hnb : nb ≤ 3) (hs : SubOk Try.prog 54 (loopOf Try.prog 54 0)) :
    (spoAll zs).length = zs.length ∧ LoopOk Try.prog nb (szOf Try.prog 54) (loopOf Try.prog 54 0) (slots (lTld b zs.length 0) (Env.mk 6)) ⟨3, [(0, rKf zs zs.length)]⟩ (.exit 0) (slots [(9, .bool b), (10, .slc 0 [] 0 0 2 zs.length zs.length)] (Env.mk 6)) ⟨3, [(0, rKf (spoAll zs) zs.length)]⟩ := by
  obtain ⟨t, h1, h2⟩ := stSpo_fold zs (0, zs)
  have hsp : spoAll zs = t.2 := by unfold spoAll; rw [h1]
  rw [hsp]
  refine ⟨h2, ?_⟩
  have key := loop_fold (P := Try.prog) (nb := nb) (sz := szOf Try.prog 54) (b := loopOf Try.prog 54 0) stSpo zs (0, 0) (fun i s => s.1 = i ∧ s.2.length = zs.length) (fun i s => (slots (lTld b zs.length i) (Env.mk 6), ⟨3, [(0, rKf s.2 zs.length)]⟩)) (fun s => ⟨.exit 0, slots [(9, .bool b), (10, .slc 0 [] 0 0 2 zs.length zs.length)] (Env.mk 6), ⟨3, [(0, rKf s.2 zs.length)]⟩⟩) (fun _ => ⟨.ret, Env.mk 6, ⟨0, []⟩⟩) (fun i s hI hi => ?_) (fun s _ => ?_) (fun _ h => by cases h) (fun _ h => by cases h) zs 0 (0, zs) ⟨rfl, rfl⟩ rfl (Nat.zero_le _)
  · rw [h1] at key; exact key
  · obtain ⟨j, ys⟩ := s
    obtain ⟨rfl, hI⟩ := hI
    dsimp only at hI
    have hev := evTld b ys j zs.length
    have hlt : Nat.blt j zs.length = true := by simp [hi]
    simp only [dec_lt' hi, cond_true, wrapNat (show j < 9223372036854775807 by omega), hlt] at hev
    refine ⟨⟨rfl, by dsimp only; rw [List.length_set]; exact hI⟩, code_pull sprog_ok.1 sprog_ok.2 KSG_ok l0_ok (fuel := 60) (ts := [9, 10, 11]) (ms := [(0, rKf (ys.set j (-9, 0)) zs.length)]) id (fun _ => .cells [.arr 2 zs.length (kf ys) [(j, [.int .i64 (-9), .int .i64 0])]] true true) hs hnb hnb (fun _ _ => rfl) (fun p hp κ y hy => ?_) (fun p hp => ?_) (fun p hp p' hp' h => h) hev⟩
    · obtain ⟨g9, g0, g2⟩ := gTldR b zs.length (Int.ofNat (j + 1))
      simp only [lTld, List.mem_cons, List.not_mem_nil, or_false] at hp
      rcases hp with rfl | rfl | rfl
      · dsimp only at hy; rw [g9] at hy; exact VRel.pull rfl hy
      · dsimp only at hy; rw [g0] at hy; exact VRel.pull_slc rfl (by omega) hy
      · dsimp only at hy; rw [g2] at hy; exact VRel.pull rfl hy
    · rw [List.mem_singleton.1 hp]
      exact ⟨RowLe.arr (by omega) id (fun i hi' => kf_set ys j (-9, 0) (by omega) i (by omega)), fun _ => rfl⟩
  · have hev := evTld b s.2 zs.length zs.length
    simp only [dec_nlt', cond_false] at hev
    exact (code_rows sprog_ok.1 sprog_ok.2 KSG_ok l0_ok (fuel := 60) (ts := [9, 10, 11]) (ms := [(0, rKf s.2 zs.length)]) hs hnb hnb rfl rfl hev).less (less_slots fun p hp => by
      obtain ⟨g9, g0⟩ := gTld b zs.length zs.length
      simp only [List.mem_cons, List.not_mem_nil, or_false] at hp
      rcases hp with rfl | rfl
      · exact g9
      · exact g0)
def fLoopTld (R : Type) (E : Env) (st : AS) : Option ((EK → Env → AS → Option R) → Option R) :=
  some fun k => match E.get 9, E.get 10, E.get 11, st.mem with
  | .bool b, .slc 0 [] 0 0 2 n n1, .int .i64 i, (0, .cells [.arr 2 N f us] true true) :: _ => bif Nat.beq st.next 3 && decide (i = 0) && Nat.ble n LIM && okL f n us && (decide (n = N) && decide (n = n1)) then
        k .normal (slots [(9, .bool b), (10, .slc 0 [] 0 0 2 n n)] (Env.mk 6)) ⟨3, [(0, rKf (spoAll (kl f n us)) n)]⟩ else none
  | _, _, _, _ => none
theorem okLoopTld : LoopFn Try.prog 54 0 fLoopTld := fun R E st G h hs nb hnb k r hk => by
  unfold fLoopTld at h
  simp only [Option.some.injEq] at h
  subst h
  dsimp only at hk
  split at hk
  · rename_i b n n1 i N f us rest g9 g0 g2 hm
    obtain ⟨hc, hk1⟩ := cond_some hk
    clear hk
    simp only [Bool.and_eq_true, decide_eq_true_eq] at hc
    obtain ⟨⟨⟨⟨c1, c3⟩, c4⟩, c5⟩, c6, c7⟩ := hc
    have d1 := Nat.eq_of_beq_eq_true c1
    have d4 := Nat.le_of_ble_eq_true c4
    clear c1
    obtain ⟨next, mem⟩ := st
    dsimp only at hm d1
    subst hm; subst d1; subst c3; subst c6; subst c7
    have hl := (loopTld b (kl f n us) (by rw [kl_length]; unfold LIM at d4; omega) hnb hs).2
    have hw : Weak nb (szOf Try.prog 54) E ⟨3, (0, .cells [.arr 2 n f us] true true) :: rest⟩ (slots (lTld b (kl f n us).length 0) (Env.mk 6)) ⟨3, [(0, rKf (kl f n us) (kl f n us).length)]⟩ := weak_pull id (fun _ _ => rfl) hnb (fun p hp κ y hy => by
      rw [kl_length] at hp
      simp only [lTld, List.mem_cons, List.not_mem_nil, or_false] at hp
      rcases hp with rfl | rfl | rfl
      · dsimp only at hy; rw [g9] at hy; exact VRel.pull rfl hy
      · dsimp only at hy; rw [g0] at hy; exact VRel.pull_slc rfl (by dsimp only; omega) hy
      · dsimp only at hy; rw [g2] at hy; exact VRel.pull rfl hy) (fun m r2 hf => by
      have hp := List.mem_singleton.1 (find_mem _ _ _ hf)
      simp only [Prod.mk.injEq] at hp
      obtain ⟨rfl, rfl⟩ := hp
      rw [kl_length]
      exact ⟨_, rfl, RowLe.arr (by dsimp only; omega) id (fun i hi => kf_kl c5 hi), fun _ => rfl⟩) (fun _ _ _ _ _ _ h => h)
    rw [kl_length] at hl hw
    exact ⟨.exit 0, _, _, hk1, Nat.le_refl _, hl.weak hw⟩
  · cases hk
def LSG : LT := addL 54 0 fLoopTld L0
theorem LSG_ok : LOk Try.prog LSG := addL_ok sprog_ok.1 (by kernel_rfl) okLoopTld l0_ok
end Go.Sv
namespace Go.Sv
open Go.RowKit Go.Proofs
set_option linter.unusedSimpArgs false
set_option linter.unusedVariables false

/-! ### told -/
def spoB (zs : List (Int × Int)) (N : Nat) (x : Option AV) : Option AV :=
  bif true && Nat.ble N LIM && okL (kf zs) N [] && (decide (N = N) && decide (N = N)) then
    bif Nat.ble N N then bif Nat.ble ((N + 1) * 16) LIM then bif Nat.ble (N + 1) (N + 1) then bif Nat.ble ((N + 2) * 16) LIM then bif Nat.ble (N + 2) (N + 2) then bif Nat.ble ((N + 3) * 16) LIM then
    bif Nat.ble (N + 3) (N + 3) then bif Nat.ble ((N + 4) * 16) LIM then bif Nat.ble (N + 4) (N + 4) then bif Nat.ble ((N + 5) * 16) LIM then bif Nat.ble (N + 5) (N + 5) then bif Nat.ble ((N + 6) * 16) LIM then x
    else none else none else none else none else none else none else none else none else none else none else none else none else none
theorem spoB_eq (zs : List (Int × Int)) (N : Nat) (x : Option AV) (h : Nat.ble ((N + 6) * 16) LIM = true) : spoB zs N x = x := by
  have hle := Nat.le_of_ble_eq_true h
  have b1 : ∀ j, j ≤ 6 → Nat.ble ((N + j) * 16) LIM = true := fun j hj => Nat.ble_eq_true_of_le (Nat.le_trans (Nat.mul_le_mul_right 16 (by omega)) hle)
  have b2 : ∀ j : Nat, Nat.ble j j = true := fun j => by simp
  have b3 : Nat.ble N LIM = true := Nat.ble_eq_true_of_le (by omega)
  unfold spoB
  rw [b2, b1 1 (by omega), b2, b1 2 (by omega), b2, b1 3 (by omega), b2, b1 4 (by omega), b2, b1 5 (by omega), b2, b1 6 (by omega), b3, okL_kf]
  simp only [decide_true, Bool.and_self, cond_true]
theorem evTold (a b : St) (zs : List (Int × Int)) (N : Nat) (e e2 : Int) : evFn Try.prog KSG LSG (regB Try.prog) 60 54 [stS a 0 N N, .int .i64 e, stA b, .int .i64 e2] ⟨1, [(0, rKf zs N)]⟩ ret =
  (bif e == e2 then bif Nat.ble N N then bif true && okL (kf zs) N [] then bif true && okL (kf b.kn) b.kn.length [] then bif Nat.ble (kl (kf zs) N []).length LIM then
    spoB zs N (some (.bool (bif true then samT ⟨a.r, a.s, kl (kf zs) N []⟩ (stL b) else false))) else none else none else none else none else spoB zs N (some (.bool false))) := by kernel_rfl
theorem told_sound {a b : St} {zs : List (Int × Int)} {N : Nat} {e e2 : Int} (hz : zs.length = N) (h : Nat.ble ((N + 6) * 16) LIM = true) :
    SoundFn Try.prog 54 [stS a 0 N N, .int .i64 e, stA b, .int .i64 e2] ⟨1, [(0, rKf zs N)]⟩ (.bool (e == e2 && samT ⟨a.r, a.s, zs⟩ b)) ⟨1, oneMem none⟩ := by
  subst hz
  have hle := Nat.le_of_ble_eq_true h
  have hev := evTold a b zs zs.length e e2
  have b3 : Nat.ble zs.length LIM = true := Nat.ble_eq_true_of_le (by omega)
  simp only [spoB_eq _ _ _ h, okL_kf, kl_kf, stL_eq, ble_self, b3, Bool.and_self, Bool.true_and, cond_true] at hev
  have hev2 : evFn Try.prog KSG LSG (regB Try.prog) 60 54 [stS a 0 zs.length zs.length, .int .i64 e, stA b, .int .i64 e2] ⟨1, [(0, rKf zs zs.length)]⟩ ret = some (.bool (e == e2 && samT ⟨a.r, a.s, zs⟩ b)) := hev.trans (by cases (e == e2) <;> rfl)
  obtain ⟨v, st1, hk2, _, hs⟩ := evFn_ok sprog_ok.1 KSG_ok LSG_ok (regB_ok sprog_ok.1 sprog_ok.2) rfl hev2
  simp only [ret, Option.some.injEq] at hk2
  subst hk2
  exact hs.keep1 (o := none) rfl fun _ h => by cases h
def KTld {R : Type} (vs : List AV) (st : AS) : Option ((Ent → Option R) → Option R) :=
  match vs with
  | [.agg [.arr 5 10 f us, .arr 2 8 g ws, .slc q [] 0 0 2 n n1], .int .i64 e, y, .int .i64 e2] => match find st.mem q with
    | some (.cells [.arr 2 N h xs] true true) => some fun k => bif (okA vOk 10 f us && okA sOk 8 g ws) && (okL h n xs && (decide (n = N) && decide (n = n1))) && Nat.ble ((n + 6) * 16) LIM then
        shed2K st.mem y fun y' ns => stK y' fun b => bif ns.all (fun m => !Nat.beq m q) then
          k ⟨.bool (e == e2 && samT ⟨fun i => vOf (elt us f i), fun i => sOf (elt ws g i), kl h n xs⟩ b), frz st.mem ns ++ [(q, none)], 0, ns ++ [q]⟩ else none else none
    | _ => none
  | _ => none
theorem KTld_ok {R : Type} {vs : List AV} {st : AS} {F : (Ent → Option R) → Option R} (h : KTld vs st = some F) {k : Ent → Option R} {r : R} (hk : F k = some r) : ∃ e, k e = some r ∧ CallEnt Try.prog 54 vs st.next (find st.mem) e := by
  unfold KTld at h
  split at h
  · rename_i f us g ws q n n1 e y e2
    split at h
    · rename_i N h' xs hf
      simp only [Option.some.injEq] at h
      subst h
      obtain ⟨hc, hk1⟩ := cond_some hk
      simp only [Bool.and_eq_true, decide_eq_true_eq] at hc
      obtain ⟨⟨⟨c1, c2⟩, c3, c4, c5⟩, c6⟩ := hc
      subst c4; subst c5
      obtain ⟨y', ns, hk1, _, hsh⟩ := shed2K_ok hk1
      obtain ⟨b, hk1, hb, hv⟩ := stK_ok hk1
      obtain ⟨hq, hk1⟩ := cond_some hk1
      have hlen : (kl h' n xs).length = n := kl_length ..
      refine ⟨_, hk1, freeze_ent (vs := [.agg [.arr 5 10 f us, .arr 2 8 g ws, .slc q [] 0 0 2 n n], .int .i64 e, y', .int .i64 e2]) (e := ⟨.bool (e == e2 && samT ⟨fun i => vOf (elt us f i), fun i => sOf (elt ws g i), kl h' n xs⟩ b), [(q, none)], 0, [q]⟩) (fun κ w M hR hM zs hz => ?_) (fun m hm => ?_) (row_ent (vs := [stS ⟨fun i => vOf (elt us f i), fun i => sOf (elt ws g i), kl h' n xs⟩ 0 n n, .int .i64 e, stA b, .int .i64 e2]) (o := none) rfl hf rfl rfl (fun _ h => by cases h) (fun κ ys hy => ?_) ?_)⟩
      · obtain ⟨z1, zs1, rfl, r1, hz⟩ := hz.head rfl
        obtain ⟨z2, zs2, rfl, r2, hz⟩ := hz.head rfl
        obtain ⟨z3, zs3, rfl, r3, r4⟩ := hz.cons_inv
        exact CRel.append (xs := [_]) (ys := [_]) r1 (CRel.append (xs := [_]) (ys := [_]) r2 (CRel.append (xs := [_]) ((hsh κ w M hR hM _ r3).mono κ.nl_le) r4))
      · rw [List.mem_singleton.1 hm]
        intro hin
        have := List.all_eq_true.1 hq _ hin
        simp at this
      · obtain ⟨z1, zs1, rfl, r1, hy⟩ := hy.head rfl
        obtain ⟨z2, zs2, rfl, r2, hy⟩ := hy.head rfl
        obtain ⟨z3, zs3, rfl, r3, r4⟩ := hy.head hb
        exact CRel.append (xs := [_]) (ys := [_]) (VRel.stOne (t := ⟨fun i => vOf (elt us f i), fun i => sOf (elt ws g i), kl h' n xs⟩) (fun i hi => vc_of (okA_at c1 hi)) (fun i hi => sc_of (okA_at c2 hi)) r1) (CRel.append (xs := [_]) (ys := [_]) (CRel.noNm (κ.one_nl q) rfl r2) (CRel.append (xs := [_]) (ys := [_]) (VRel.stA_to (κ.one_nl q) (hv κ _ r3)) (CRel.noNm (κ.one_nl q) rfl r4)))
      · exact SoundFn.row (r2 := rKf (kl h' n xs) n) (fun κ w h => h.arrExt fun i hi => kf_kl c3 hi) (fun _ => rfl) (told_sound (a := ⟨fun i => vOf (elt us f i), fun i => sOf (elt ws g i), kl h' n xs⟩) hlen c6)
    · cases h
  · cases h

/-! ### kept -/
def lKp (v : AV) (N i : Nat) : List (Nat × AV) := [(4, v), (3, .ptr 2 [] 0), (5, .slc 0 [] 0 0 2 N N), (6, .int .i64 (Int.ofNat i))]
theorem gKp (v : AV) (N i : Nat) : (slots (lKp v N i) (Env.mk 6)).get 4 = v := by kernel_rfl
def nKp (N i : Nat) : Env := ((((Env.mk 6).set 4 .any).set 3 (.ptr 2 [] 0)).set 5 (.slc 0 [] 0 0 2 N N)).set 6 (.int .i64 (IntKind.i64.wrap (Int.ofNat (i + 1))))
def rwK (zs : List (Int × Int)) (s : St) (N : Nat) : List (Nat × Row) := [(0, rKf zs N), (2, boxA s)]
def mKp (zs : List (Int × Int)) (s : St) (N i : Nat) : Option (EK × Env × List (Option Row)) :=
  bif decide (Int.ofNat i ≥ (s.kn.length : Int)) then bif decide (Int.ofNat i < (N : Int)) then bif Nat.blt i N then
    bif (bif false then true else bif true then !((zs.getD i (0, 0)).1 == -7 && ((zs.getD i (0, 0)).2 == IntKind.i64.wrap (Int.ofNat i - Int.ofNat s.kn.length) && true)) else false) then some (.ret, slots (lKp (.bool false) N i) (Env.mk 6), (rwK zs s N).map (fun p => some p.2))
    else some (.normal, nKp N i, (rwK zs s N).map (fun p => some p.2))
  else none else none else some (.normal, nKp N i, (rwK zs s N).map (fun p => some p.2))
theorem evKp (zs : List (Int × Int)) (s : St) (N i : Nat) : evCode Try.prog KSD L0 (regB Try.prog) 60 55 (loopOf Try.prog 55 0) (slots (lKp .any N i) (Env.mk 6)) ⟨3, (rwK zs s N)⟩ (fun e E' st' => some (e, keepE E' [4, 3, 5, 6] (Env.mk 6), (rwK zs s N).map (fun p => find st'.mem p.1))) =
  (bif decide (Int.ofNat i < (N : Int)) then bif decide (Int.ofNat i < (s.kn.length : Int)) then bif decide (Int.ofNat i < (N : Int)) then bif Nat.blt i N then bif decide (Int.ofNat i < (s.kn.length : Int)) then
    bif (bif true then !((zs.getD i (0, 0)).1 == (s.kn.getD i (0, 0)).1 && ((zs.getD i (0, 0)).2 == (s.kn.getD i (0, 0)).2 && true)) else false) then some (.ret, slots (lKp (.bool false) N i) (Env.mk 6), (rwK zs s N).map (fun p => some p.2))
    else mKp zs s N i
  else none else none else none else mKp zs s N i
  else some (.exit 0, slots (lKp .any N i) (Env.mk 6), (rwK zs s N).map (fun p => some p.2))) := by kernel_rfl
theorem evKp1 (zs : List (Int × Int)) (s : St) (N i : Nat) (hN : N = s.kn.length + 4) (hi : i < N) (hb : N < 4611686018427387904) : evCode Try.prog KSD L0 (regB Try.prog) 60 55 (loopOf Try.prog 55 0) (slots (lKp .any N i) (Env.mk 6)) ⟨3, (rwK zs s N)⟩ (fun e E' st' => some (e, keepE E' [4, 3, 5, 6] (Env.mk 6), (rwK zs s N).map (fun p => find st'.mem p.1))) =
    bif ((zs.getD i (0, 0)).1 == ((s.kn ++ marks).getD i (0, 0)).1 && ((zs.getD i (0, 0)).2 == ((s.kn ++ marks).getD i (0, 0)).2 && true)) then some (.normal, slots (lKp .any N (i + 1)) (Env.mk 6), (rwK zs s N).map (fun p => some p.2))
    else some (.ret, slots (lKp (.bool false) N i) (Env.mk 6), (rwK zs s N).map (fun p => some p.2)) := by
  rw [evKp]
  have h1 : decide (Int.ofNat i < (N : Int)) = true := dec_lt' hi
  have h2 : Nat.blt i N = true := by simp [hi]
  have hn : nKp N i = slots (lKp .any N (i + 1)) (Env.mk 6) := by
    unfold nKp
    rw [wrapNat (show i < 9223372036854775807 by omega)]; rfl
  unfold mKp
  rw [hn, h1, h2]
  by_cases hlt : i < s.kn.length
  · have e1 : decide (Int.ofNat i < (s.kn.length : Int)) = true := dec_lt' hlt
    have e2 : decide (Int.ofNat i ≥ (s.kn.length : Int)) = false := decide_eq_false (by simp; omega)
    have e3 : (s.kn ++ marks).getD i (0, 0) = s.kn.getD i (0, 0) := by simp only [List.getD_eq_getElem?_getD, List.getElem?_append_left (show i < s.kn.length by omega)]
    rw [e1, e2, e3]
    simp only [cond_true, cond_false]
    cases ((zs.getD i (0, 0)).1 == (s.kn.getD i (0, 0)).1 && ((zs.getD i (0, 0)).2 == (s.kn.getD i (0, 0)).2 && true)) <;> rfl
  · have e1 : decide (Int.ofNat i < (s.kn.length : Int)) = false := decide_eq_false (by simp; omega)
    have e2 : decide (Int.ofNat i ≥ (s.kn.length : Int)) = true := decide_eq_true (by simp; omega)
    have e3 : (s.kn ++ marks).getD i (0, 0) = (-7, ((i - s.kn.length : Nat) : Int)) := by
      rw [← marks_get (show i - s.kn.length < 4 by omega)]
      simp only [List.getD_eq_getElem?_getD, List.getElem?_append_right (show s.kn.length ≤ i by omega)]
    have e4 : IntKind.i64.wrap (Int.ofNat i - Int.ofNat s.kn.length) = ((i - s.kn.length : Nat) : Int) := by
      have : (Int.ofNat i - Int.ofNat s.kn.length : Int) = ((i - s.kn.length : Nat) : Int) := by simp; omega
      rw [this]; exact wrap_in64 (by omega) (by omega)
    rw [e1, e2, e3, e4]
    simp only [cond_true, cond_false]
    cases ((zs.getD i (0, 0)).1 == -7 && ((zs.getD i (0, 0)).2 == ((i - s.kn.length : Nat) : Int) && true)) <;> rfl
theorem loopKp (zs : List (Int × Int)) (s : St) (hz : zs.length = s.kn.length + 4) (hb : zs.length < 4611686018427387904) {nb : Nat} (hnb : nb ≤ 3) (hs : SubOk Try.prog 55 (loopOf Try.prog 55 0)) :
    LoopOk Try.prog nb (szOf Try.prog 55) (loopOf Try.prog 55 0) (slots (lKp .any zs.length 0) (Env.mk 6)) ⟨3, (rwK zs s zs.length)⟩
      (bif eqL zs (s.kn ++ marks) then Fin3.mk (.exit 0) (slots [] (Env.mk 6)) ⟨3, (rwK zs s zs.length)⟩ else ⟨.ret, slots [(4, .bool false)] (Env.mk 6), ⟨3, (rwK zs s zs.length)⟩⟩).e
      (bif eqL zs (s.kn ++ marks) then Fin3.mk (.exit 0) (slots [] (Env.mk 6)) ⟨3, (rwK zs s zs.length)⟩ else ⟨.ret, slots [(4, .bool false)] (Env.mk 6), ⟨3, (rwK zs s zs.length)⟩⟩).E
      (bif eqL zs (s.kn ++ marks) then Fin3.mk (.exit 0) (slots [] (Env.mk 6)) ⟨3, (rwK zs s zs.length)⟩ else ⟨.ret, slots [(4, .bool false)] (Env.mk 6), ⟨3, (rwK zs s zs.length)⟩⟩).st := by
  rw [← stSam_fold]
  refine loop_fold stSam zs (0, 0) (fun i t => t = (s.kn ++ marks).drop i) (fun i _ => (slots (lKp .any zs.length i) (Env.mk 6), ⟨3, (rwK zs s zs.length)⟩)) (fun _ => ⟨.exit 0, slots [] (Env.mk 6), ⟨3, (rwK zs s zs.length)⟩⟩) (fun _ => ⟨.ret, slots [(4, .bool false)] (Env.mk 6), ⟨3, (rwK zs s zs.length)⟩⟩) (fun i t hI hi => ?_) (fun _ _ => ?_) (fun _ h => by cases h) (fun _ h => by cases h) zs 0 (s.kn ++ marks) rfl rfl (Nat.zero_le _)
  · have hi' : i < (s.kn ++ marks).length := by rw [List.length_append]; exact Nat.lt_of_lt_of_eq hi hz
    have hs2 : t = (s.kn ++ marks).getD i (0, 0) :: (s.kn ++ marks).drop (i + 1) := hI.trans (drop_getD hi')
    have hev := evKp1 zs s zs.length i hz hi hb
    rw [hs2]
    simp only [stSam]
    cases hbq : ((zs.getD i (0, 0)).1 == ((s.kn ++ marks).getD i (0, 0)).1 && ((zs.getD i (0, 0)).2 == ((s.kn ++ marks).getD i (0, 0)).2 && true)) with
    | true =>
      rw [hbq, cond_true] at hev
      exact ⟨rfl, code_rows sprog_ok.1 sprog_ok.2 KSD_ok l0_ok (fuel := 60) (ts := [4, 3, 5, 6]) hs hnb hnb rfl rfl hev⟩
    | false =>
      rw [hbq, cond_false] at hev
      exact (code_rows sprog_ok.1 sprog_ok.2 KSD_ok l0_ok (fuel := 60) (ts := [4, 3, 5, 6]) hs hnb hnb rfl rfl hev).less (less_slots fun p hp => by rw [List.mem_singleton.1 hp]; exact gKp _ _ _)
  · have hev := evKp zs s zs.length zs.length
    simp only [dec_nlt', cond_false] at hev
    exact (code_rows sprog_ok.1 sprog_ok.2 KSD_ok l0_ok (fuel := 60) (ts := [4, 3, 5, 6]) hs hnb hnb rfl rfl hev).less (mk_less 6 _)
def fLoopKp (R : Type) (E : Env) (st : AS) : Option ((EK → Env → AS → Option R) → Option R) :=
  some fun k => match E.get 3, E.get 5, E.get 6, st.mem with
  | .ptr 2 [] 0, .slc 0 [] 0 0 2 n n1, .int .i64 i, (0, .cells [.arr 2 N f us] true true) :: (1, _) :: (2, rs) :: _ => bif Nat.beq st.next 3 && decide (i = 0) && Nat.ble N LIM && okL f N us && (decide (n = N) && decide (n1 = N)) then rowK rs fun s =>
      bif decide (N = s.kn.length + 4) then bif eqL (kl f N us) (s.kn ++ marks) then k .normal (slots [] (Env.mk 6)) ⟨3, rwK (kl f N us) s N⟩ else k .ret (slots [(4, .bool false)] (Env.mk 6)) ⟨3, rwK (kl f N us) s N⟩ else none else none
  | _, _, _, _ => none
theorem okLoopKp : LoopFn Try.prog 55 0 fLoopKp := fun R E st G h hs nb hnb k r hk => by
  unfold fLoopKp at h
  simp only [Option.some.injEq] at h
  subst h
  dsimp only at hk
  split at hk
  · rename_i n n1 i N f us r1 rs rest g3 g5 g6 hm
    obtain ⟨hc, hk1⟩ := cond_some hk
    clear hk
    simp only [Bool.and_eq_true, decide_eq_true_eq] at hc
    obtain ⟨⟨⟨⟨c1, c3⟩, c4⟩, c5⟩, c6, c7⟩ := hc
    have d1 := Nat.eq_of_beq_eq_true c1
    have d4 := Nat.le_of_ble_eq_true c4
    clear c1
    have c7' : n = n1 := c6.trans c7.symm
    clear c7
    obtain ⟨next, mem⟩ := st
    dsimp only at hm d1
    subst hm; subst d1; subst c3; subst c6; subst c7'
    obtain ⟨s, hk1, os, hsr⟩ := rowK_ok hk1
    obtain ⟨c9, hk1⟩ := cond_some hk1
    have c9 := of_decide_eq_true c9
    have hl := loopKp (kl f n us) s (by rw [kl_length]; exact c9) (by rw [kl_length]; unfold LIM at d4; omega) hnb hs
    have hw : Weak nb (szOf Try.prog 55) E ⟨3, (0, .cells [.arr 2 n f us] true true) :: (1, r1) :: (2, rs) :: rest⟩ (slots (lKp .any (kl f n us).length 0) (Env.mk 6)) ⟨3, rwK (kl f n us) s (kl f n us).length⟩ := weak_pull id (fun _ _ => rfl) hnb (fun p hp κ y hy => by
      rw [kl_length] at hp
      simp only [lKp, List.mem_cons, List.not_mem_nil, or_false] at hp
      rcases hp with rfl | rfl | rfl | rfl
      · exact vrel_any _ _
      · dsimp only at hy; rw [g3] at hy; exact VRel.pull_ptr rfl (by dsimp only; omega) hy
      · dsimp only at hy; rw [g5] at hy; exact VRel.pull_slc rfl (by dsimp only; omega) hy
      · dsimp only at hy; rw [g6] at hy; exact VRel.pull rfl hy) (fun m r2 hf => by
      have hp := find_mem _ _ _ hf
      simp only [rwK, List.mem_cons, List.not_mem_nil, or_false, Prod.mk.injEq] at hp
      rcases hp with ⟨rfl, rfl⟩ | ⟨rfl, rfl⟩
      · rw [kl_length]
        exact ⟨_, rfl, RowLe.arr (by dsimp only; omega) id (fun i hi => kf_kl c5 hi), fun _ => rfl⟩
      · exact ⟨_, rfl, hsr _ _ _ (by dsimp only; omega), fun _ => os⟩) (fun _ _ _ _ _ _ h => h)
    have hl := hl.weak hw
    rw [kl_length] at hl
    cases hf : eqL (kl f n us) (s.kn ++ marks) with
    | true =>
      rw [hf] at hl hk1
      exact ⟨.exit 0, _, _, hk1, Nat.le_refl _, hl⟩
    | false =>
      rw [hf] at hl hk1
      exact ⟨.ret, _, _, hk1, Nat.le_refl _, hl⟩
  · cases hk
def LSJ : LT := addL 55 0 fLoopKp L0
theorem LSJ_ok : LOk Try.prog LSJ := addL_ok sprog_ok.1 (by kernel_rfl) okLoopKp l0_ok
end Go.Sv
namespace Go.Sv
open Go.RowKit Go.Proofs
set_option linter.unusedSimpArgs false
set_option linter.unusedVariables false
theorem evKeptS (a s : St) (zs : List (Int × Int)) (m : Nat) : evFn Try.prog KSD LSJ (regB Try.prog) 60 55 [stS a 0 m (m + 4), stA s] ⟨1, [(0, rKf zs (m + 4))]⟩ (fun v st => some (v, find st.mem 0)) =
  (bif decide (0 ≤ IntKind.i64.wrap ((s.kn.length : Int) + 4)) then bif decide (IntKind.i64.wrap ((s.kn.length : Int) + 4) ≤ ((m + 4 : Nat) : Int)) then
    bif true && Nat.ble (m + 4) LIM && okL (kf zs) (m + 4) [] && (decide (sub0 (IntKind.i64.wrap ((s.kn.length : Int) + 4)).toNat 0 = m + 4) && decide (sub0 (m + 4) 0 = m + 4)) then bif true && okL (kf s.kn) s.kn.length [] then bif decide (m + 4 = (stL s).kn.length + 4) then
      bif eqL (kl (kf zs) (m + 4) []) ((stL s).kn ++ marks) then some (.bool true, some (rKf (kl (kf zs) (m + 4) []) (m + 4))) else some (.bool false, some (rKf (kl (kf zs) (m + 4) []) (m + 4)))
    else none else none else none else none else none) := by kernel_rfl
def KKpS {R : Type} (vs : List AV) (st : AS) : Option ((Ent → Option R) → Option R) :=
  match vs with
  | [.agg [.arr 5 10 f us, .arr 2 8 g ws, .slc q [] 0 0 2 n cap], y] => match find st.mem q with
    | some (.cells [.arr 2 N h xs] true true) => some fun k => stK y fun s => bif (okA vOk 10 f us && okA sOk 8 g ws) && okL h N xs && ((decide (n = s.kn.length) && decide (cap = n + 4)) && decide (N = n + 4)) && Nat.ble (n + 4) LIM then
        k ⟨.bool (eqL (kl h N xs) (s.kn ++ marks)), [(q, some (rKf (kl h N xs) N))], 0, [q]⟩ else none
    | _ => none
  | _ => none
theorem KKpS_ok {R : Type} {vs : List AV} {st : AS} {F : (Ent → Option R) → Option R} (h : KKpS vs st = some F) {k : Ent → Option R} {r : R} (hk : F k = some r) : ∃ e, k e = some r ∧ CallEnt Try.prog 55 vs st.next (find st.mem) e := by
  unfold KKpS at h
  split at h
  · rename_i f us g ws q n cap y
    split at h
    · rename_i N h' xs hf
      simp only [Option.some.injEq] at h
      subst h
      obtain ⟨s, hkA, hb, hv⟩ := stK_ok hk
      obtain ⟨hc, hkB⟩ := cond_some hkA
      clear hkA hk
      simp only [Bool.and_eq_true, decide_eq_true_eq] at hc
      obtain ⟨⟨⟨⟨c1, c2⟩, c3⟩, ⟨c4, c5⟩, c6⟩, c7⟩ := hc
      subst c5; subst c6
      have hle := Nat.le_of_ble_eq_true c7
      have hlen : (kl h' (n + 4) xs).length = n + 4 := kl_length ..
      refine ⟨_, hkB, row_ent (vs := [stS ⟨fun i => vOf (elt us f i), fun i => sOf (elt ws g i), []⟩ 0 n (n + 4), stA s]) (o := some (rKf (kl h' (n + 4) xs) (n + 4))) rfl hf rfl rfl (fun r' h => by cases h; rfl) (fun κ ys hy => ?_) ?_⟩
      · obtain ⟨z1, zs1, rfl, r1, hy⟩ := hy.head rfl
        obtain ⟨z3, zs3, rfl, r3, r4⟩ := hy.head hb
        cases r4
        exact CRel.append (xs := [_]) (ys := [_]) (VRel.stOne (t := ⟨fun i => vOf (elt us f i), fun i => sOf (elt ws g i), []⟩) (fun i hi => vc_of (okA_at c1 hi)) (fun i hi => sc_of (okA_at c2 hi)) r1) (VRel.stA_to (κ.one_nl q) (hv κ _ r3))
      · refine SoundFn.row (r2 := rKf (kl h' (n + 4) xs) (n + 4)) (fun κ w h => h.arrExt fun i hi => kf_kl c3 hi) (fun _ => rfl) ?_
        have hev := evKeptS ⟨fun i => vOf (elt us f i), fun i => sOf (elt ws g i), []⟩ s (kl h' (n + 4) xs) n
        have k1 : kl (kf (kl h' (n + 4) xs)) (n + 4) [] = kl h' (n + 4) xs := by have := kl_kf (kl h' (n + 4) xs); rwa [hlen] at this
        have w1 : IntKind.i64.wrap ((s.kn.length : Int) + 4) = ((n + 4 : Nat) : Int) := by
          have : ((s.kn.length : Int) + 4) = ((n + 4 : Nat) : Int) := by omega
          unfold LIM at hle
          rw [this]; exact wrap_in64 (by omega) (by omega)
        have w2 : decide ((0 : Int) ≤ ((n + 4 : Nat) : Int)) = true := decide_eq_true (by omega)
        have w3 : decide (((n + 4 : Nat) : Int) ≤ ((n + 4 : Nat) : Int)) = true := decide_eq_true (Int.le_refl _)
        have w4 : (((n + 4 : Nat) : Int)).toNat = n + 4 := by omega
        have w5 : decide (n + 4 = s.kn.length + 4) = true := decide_eq_true (by omega)
        rw [stL_eq, w1, w2, w3, w4, sub0_zero, k1, okL_kf, okL_kf, c7, w5] at hev
        simp only [decide_true, Bool.and_self, cond_true] at hev
        have hev2 : evFn Try.prog KSD LSJ (regB Try.prog) 60 55 [stS ⟨fun i => vOf (elt us f i), fun i => sOf (elt ws g i), []⟩ 0 n (n + 4), stA s] ⟨1, [(0, rKf (kl h' (n + 4) xs) (n + 4))]⟩ (fun v st => some (v, find st.mem 0)) = some (.bool (eqL (kl h' (n + 4) xs) (s.kn ++ marks)), some (rKf (kl h' (n + 4) xs) (n + 4))) := hev.trans (by cases eqL (kl h' (n + 4) xs) (s.kn ++ marks) <;> rfl)
        obtain ⟨v, st1, hk2, _, hs⟩ := evFn_ok sprog_ok.1 KSD_ok LSJ_ok (regB_ok sprog_ok.1 sprog_ok.2) rfl hev2
        simp only [Option.some.injEq, Prod.mk.injEq] at hk2
        obtain ⟨rfl, hrow⟩ := hk2
        exact hs.keep1 rfl fun r' h => by cases h; exact ⟨hrow, rfl⟩
    · cases h
  · cases h
def KXJ : KT := fun _ g vs st => bif Nat.beq g 54 then KTld vs st else bif Nat.beq g 55 then KKpS vs st else none
theorem KXJ_ok : KOk Try.prog KXJ := fun R g vs st F h k r hF => by
  unfold KXJ at h
  cases h1 : Nat.beq g 54 with
  | true =>
    rw [h1] at h
    have := Nat.eq_of_beq_eq_true h1
    subst this
    exact KTld_ok h hF
  | false =>
    rw [h1, cond_false] at h
    obtain ⟨h3, h⟩ := cond_some h
    have := Nat.eq_of_beq_eq_true h3
    subst this
    exact KKpS_ok h hF
def hasSK : FuncId → Bool := addHas 51 hasSH
def specSK : SpecT := addS 51 fUnd specSH
theorem specSK_ok : SpecOk Try.prog hasSK specSK := addS_ok okUnd2 specSH_ok
def KSK : KT := orK (specK hasSK specSK) KXJ
theorem KSK_ok : KOk Try.prog KSK := orK_ok (specK_ok specSK_ok) KXJ_ok
end Go.Sv
