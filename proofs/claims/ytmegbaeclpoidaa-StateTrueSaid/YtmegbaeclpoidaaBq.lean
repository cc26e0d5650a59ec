/- The evaluator and the contracts that the walk leans on, part Bq: S6, S7, S8, S9. -/
import Derived.Test.YtmegbaeclpoidaaBp
namespace Go.Sv
open Go.RowKit Go.Proofs
set_option linter.unusedSimpArgs false
set_option linter.unusedVariables false

/-! ### a loop that looks at each of some things, and may return -/
theorem stAll_fold {γ : Type} (ok : Nat → Bool) (a b : γ) : ∀ xs : List Nat, fork (fun _ => a) (fun _ => b) (foldX (fun (_ : Unit) i => bif ok i then Sum.inl () else Sum.inr ()) () xs) = bif xs.all ok then a else b
  | [] => rfl
  | x :: r => by
    have ih := stAll_fold ok a b r
    simp only [foldX, List.all_cons]
    cases ok x with
    | true => simpa using ih
    | false => rfl
theorem loop_all {K : KT} {L : LT} (hK : KOk Try.prog K) (hL : LOk Try.prog L) {g id d q nb fuel : Nat} {ts : List Nat} (len : Nat) (ok : Nat → Bool) (A O : Nat → List (Nat × AV)) (ms : List (Nat × Row)) (fin out : List (Nat × AV)) (hs : SubOk Try.prog g (loopOf Try.prog g id)) (hnb : nb ≤ q)
    (hA : ∀ i, (A i).all (fun p => nmB q p.2) = true) (hO : ∀ i, (O i).all (fun p => nmB q p.2) = true) (hm : ms.all (fun p => Nat.blt p.1 q && rowB p.2) = true)
    (hf : ∀ p ∈ fin, (slots (A len) (Env.mk d)).get p.1 = p.2) (ho : ∀ i, ∀ p ∈ out, (slots (O i) (Env.mk d)).get p.1 = p.2)
    (h1 : ∀ i, i < len → evCode Try.prog K L (regB Try.prog) fuel g (loopOf Try.prog g id) (slots (A i) (Env.mk d)) ⟨q, ms⟩ (fun e E' st' => some (e, keepE E' ts (Env.mk d), ms.map (fun p => find st'.mem p.1))) = bif ok i then some (.normal, slots (A (i + 1)) (Env.mk d), ms.map (fun p => some p.2)) else some (.ret, slots (O i) (Env.mk d), ms.map (fun p => some p.2)))
    (h2 : evCode Try.prog K L (regB Try.prog) fuel g (loopOf Try.prog g id) (slots (A len) (Env.mk d)) ⟨q, ms⟩ (fun e E' st' => some (e, keepE E' ts (Env.mk d), ms.map (fun p => find st'.mem p.1))) = some (.exit id, slots (A len) (Env.mk d), ms.map (fun p => some p.2))) :
    LoopOk Try.prog nb (szOf Try.prog g) (loopOf Try.prog g id) (slots (A 0) (Env.mk d)) ⟨q, ms⟩ (bif (List.range len).all ok then Fin3.mk (.exit id) (slots fin (Env.mk d)) ⟨q, ms⟩ else ⟨.ret, slots out (Env.mk d), ⟨q, ms⟩⟩).e
      (bif (List.range len).all ok then Fin3.mk (.exit id) (slots fin (Env.mk d)) ⟨q, ms⟩ else ⟨.ret, slots out (Env.mk d), ⟨q, ms⟩⟩).E (bif (List.range len).all ok then Fin3.mk (.exit id) (slots fin (Env.mk d)) ⟨q, ms⟩ else ⟨.ret, slots out (Env.mk d), ⟨q, ms⟩⟩).st := by
  have hr : (List.range len).length = len := List.length_range
  rw [← stAll_fold]
  refine loop_fold (P := Try.prog) (nb := nb) (sz := szOf Try.prog g) (b := loopOf Try.prog g id) (fun (_ : Unit) i => bif ok i then Sum.inl () else Sum.inr ()) (List.range len) 0 (fun _ _ => True) (fun i _ => (slots (A i) (Env.mk d), ⟨q, ms⟩)) (fun _ => ⟨.exit id, slots fin (Env.mk d), ⟨q, ms⟩⟩) (fun _ => ⟨.ret, slots out (Env.mk d), ⟨q, ms⟩⟩) (fun i _ _ hi => ?_) (fun _ _ => ?_) (fun _ h => by cases h) (fun _ h => by cases h) (List.range len) 0 () trivial rfl (Nat.zero_le _)
  · rw [hr] at hi
    have hg : (List.range len).getD i 0 = i := by simp [List.getD, hi]
    have hev := h1 i hi
    rw [hg]
    cases hb : ok i with
    | true =>
      rw [hb, cond_true] at hev
      exact ⟨trivial, code_rows sprog_ok.1 sprog_ok.2 hK hL hs hnb hnb (hA _) hm hev⟩
    | false =>
      rw [hb, cond_false] at hev
      exact (code_rows sprog_ok.1 sprog_ok.2 hK hL hs hnb hnb (hO _) hm hev).less (less_slots fun p hp => ho i p hp)
  · rw [hr]
    exact (code_rows sprog_ok.1 sprog_ok.2 hK hL hs hnb hnb (hA _) hm h2).less (less_slots fun p hp => hf p hp)

/-! ### slices.Equal -/
def lEq (v4 : AV) (X Y : List (Int × Int)) (n m i : Nat) : List (Nat × AV) := [(4, v4), (0, .lst 2 (kf X) n []), (1, .lst 2 (kf Y) m []), (12, .int .i64 (Int.ofNat n)), (13, .int .i64 (Int.ofNat i))]
theorem gEq (v : AV) (X Y : List (Int × Int)) (n m i : Nat) : (slots (lEq v X Y n m i) (Env.mk 5)).get 4 = v := by kernel_rfl
def pEq (X Y : List (Int × Int)) (i : Nat) : Bool := (X.getD i (0, 0)).1 == (Y.getD i (0, 0)).1 && ((X.getD i (0, 0)).2 == (Y.getD i (0, 0)).2 && true)
theorem evEq (X Y : List (Int × Int)) (n m i : Nat) : evCode Try.prog KS5 L0 (regB Try.prog) 60 88 (loopOf Try.prog 88 0) (slots (lEq .any X Y n m i) (Env.mk 5)) ⟨0, []⟩ (fun e E' st' => some (e, keepE E' [4, 0, 1, 12, 13] (Env.mk 5), ([] : List (Nat × Row)).map (fun p => find st'.mem p.1))) =
  (bif decide (Int.ofNat i < Int.ofNat n) then bif decide (Int.ofNat i < (n : Int)) then bif decide (Int.ofNat i < (m : Int)) then
    bif !pEq X Y i then some (.ret, slots (lEq (.bool false) X Y n m i) (Env.mk 5), [])
    else some (.normal, ((((((Env.mk 5).set 4 .any).set 0 (.lst 2 (kf X) n [])).set 1 (.lst 2 (kf Y) m [])).set 12 (.int .i64 (Int.ofNat n))).set 13 (.int .i64 (IntKind.i64.wrap (Int.ofNat (i + 1))))), [])
  else none else none else some (.exit 0, slots (lEq .any X Y n m i) (Env.mk 5), [])) := by kernel_rfl
theorem eqL_all : ∀ (X Y : List (Int × Int)), X.length = Y.length → eqL X Y = (List.range X.length).all (pEq X Y)
  | [], Y, _ => rfl
  | x :: r, [], h => by simp at h
  | x :: r, y :: s, h => by
    rw [List.length_cons, List.range_succ_eq_map, List.all_cons, List.all_map]
    have ih := eqL_all r s (by simpa using h)
    show ((x.1 == y.1 && (x.2 == y.2 && true)) && eqL r s) = _
    rw [ih]
    rfl
def fLoopEq (R : Type) (E : Env) (st : AS) : Option ((EK → Env → AS → Option R) → Option R) :=
  some fun k => match E.get 0, E.get 1, E.get 12, E.get 13, st.mem with
  | .lst 2 f n us, .lst 2 g m vs, .int .i64 c, .int .i64 i, [] => bif Nat.beq st.next 0 && decide (i = 0) && decide (c = Int.ofNat n) && Nat.ble n LIM && decide (Int.ofNat n = Int.ofNat m) && (okL f n us && okL g m vs) then
        bif eqL (kl f n us) (kl g m vs) then k .normal (slots [] (Env.mk 5)) ⟨0, []⟩ else k .ret (slots [(4, .bool false)] (Env.mk 5)) ⟨0, []⟩ else none
  | _, _, _, _, _ => none
theorem okLoopEq : LoopFn Try.prog 88 0 fLoopEq := fun R E st G h hs nb hnb k r hk => by
  unfold fLoopEq at h
  simp only [Option.some.injEq] at h
  subst h
  dsimp only at hk
  split at hk
  · rename_i f n us g m vs c i g0 g1 g12 g13 hm
    obtain ⟨hc, hk1⟩ := cond_some hk
    clear hk
    simp only [Bool.and_eq_true, decide_eq_true_eq] at hc
    obtain ⟨⟨⟨⟨⟨c1, c3⟩, cc⟩, c4⟩, c6⟩, c5, c7⟩ := hc
    have d1 := Nat.eq_of_beq_eq_true c1
    have d4 := Nat.le_of_ble_eq_true c4
    have d6 : n = m := Int.ofNat.inj c6
    clear c1
    obtain ⟨next, mem⟩ := st
    dsimp only at hm d1
    subst hm; subst d1; subst c3; subst cc; subst d6
    have e1 : (kl f n us).length = n := kl_length ..
    have e2 : (kl g n vs).length = n := kl_length ..
    have hl := loop_all (nb := nb) (q := 0) (d := 5) (fuel := 60) (ts := [4, 0, 1, 12, 13]) KS5_ok l0_ok (g := 88) (id := 0) n (pEq (kl f n us) (kl g n vs)) (fun i => lEq .any (kl f n us) (kl g n vs) n n i) (fun i => lEq (.bool false) (kl f n us) (kl g n vs) n n i) [] [] [(4, .bool false)] hs hnb (fun _ => rfl) (fun _ => rfl) rfl (fun p hp => by cases hp) (fun i p hp => by rw [List.mem_singleton.1 hp]; exact gEq _ _ _ _ _ _) (fun i hi => by
      have hev := evEq (kl f n us) (kl g n vs) n n i
      rw [hev, wrapNat (show i < 9223372036854775807 by unfold LIM at d4; omega), dec_lt' hi]
      have : decide (Int.ofNat i < Int.ofNat n) = true := dec_lt' hi
      rw [this]
      cases pEq (kl f n us) (kl g n vs) i <;> rfl) (by
      have hev := evEq (kl f n us) (kl g n vs) n n n
      have : decide (Int.ofNat n < Int.ofNat n) = false := dec_nlt' ..
      rw [this] at hev
      exact hev)
    have hw : Weak nb (szOf Try.prog 88) E ⟨0, []⟩ (slots (lEq .any (kl f n us) (kl g n vs) n n 0) (Env.mk 5)) ⟨0, []⟩ := weak_slots fun p hp κ y hy => by
      simp only [lEq, List.mem_cons, List.not_mem_nil, or_false] at hp
      rcases hp with rfl | rfl | rfl | rfl | rfl
      · exact vrel_any _ _
      · dsimp only at hy; rw [g0] at hy; exact hy.pairs c5
      · dsimp only at hy; rw [g1] at hy; exact hy.pairs c7
      · dsimp only at hy; rw [g12] at hy; exact hy
      · dsimp only at hy; rw [g13] at hy; exact hy
    rw [eqL_all _ _ (e1.trans e2.symm), e1] at hk1
    cases hf : (List.range n).all (pEq (kl f n us) (kl g n vs)) with
    | true =>
      rw [hf] at hl hk1
      exact ⟨.exit 0, _, _, hk1, Nat.le_refl _, hl.weak hw⟩
    | false =>
      rw [hf] at hl hk1
      exact ⟨.ret, _, _, hk1, Nat.le_refl _, hl.weak hw⟩
  · cases hk
def LS6a : LT := addL 88 0 fLoopEq L0
theorem LS6a_ok : LOk Try.prog LS6a := addL_ok sprog_ok.1 (by kernel_rfl) okLoopEq l0_ok
theorem evEqual (X Y : List (Int × Int)) (n m : Nat) : evFn Try.prog KS5 LS6a (regB Try.prog) 60 88 [.lst 2 (kf X) n [], .lst 2 (kf Y) m []] ⟨0, []⟩ ret =
  (bif Int.ofNat n != Int.ofNat m then some (AV.bool false) else bif true && decide ((n : Int) = Int.ofNat n) && n.ble 140737488355328 && decide (Int.ofNat n = Int.ofNat m) && (okL (kf X) n [] && okL (kf Y) m []) then bif eqL (kl (kf X) n []) (kl (kf Y) m []) then some (AV.bool true) else some (AV.bool false) else none) := by kernel_rfl
theorem okEqual : FnOk Try.prog 88 fSam := fun R vs k r h => by
  unfold fSam at h
  split at h
  · rename_i f n us g m vs'
    obtain ⟨hc, h⟩ := cond_some h
    simp only [Bool.and_eq_true] at hc
    refine ⟨_, _, h, ⟨trivial, fun p hp => by cases hp⟩, SoundFn.args (vs' := [.lst 2 (kf (kl f n us)) (kl f n us).length [], .lst 2 (kf (kl g m vs')) (kl g m vs').length []]) (fn_plain sprog_ok.1 sprog_ok.2 KS5_ok LS6a_ok (fuel := 60) rfl rfl ?_) fun κ ys hy => CRel.pairs2 hc.1.1 hc.1.2 hy⟩
    have hn : (kl f n us).length.ble 140737488355328 = true := by rw [kl_length]; exact hc.2
    rw [evEqual, kl_kf, okL_kf, kl_kf, okL_kf, hn]
    generalize kl f n us = xs
    generalize kl g m vs' = ys
    unfold samE
    by_cases hl : xs.length = ys.length
    · have he : decide ((ys.length : Int) = Int.ofNat ys.length) = true := decide_eq_true rfl
      simp only [hl, bne_self_eq_false, he, cond_false, decide_true, Bool.true_and, Bool.and_self, Bool.and_true, cond_true]
      cases eqL xs ys <;> rfl
    · have h1 : (Int.ofNat xs.length != Int.ofNat ys.length) = true := by simp; omega
      simp only [h1, cond_true, hl, decide_false, Bool.false_and]
  · cases h
def hasS6 : FuncId → Bool := addHas 88 hasS5
def specS6 : SpecT := addS 88 fSam specS5
theorem specS6_ok : SpecOk Try.prog hasS6 specS6 := addS_ok okEqual specS5_ok
def KS6 : KT := orK (specK hasS6 specS6) KX
theorem KS6_ok : KOk Try.prog KS6 := orK_ok (specK_ok specS6_ok) KX_ok

/-! ### rows that hold a state -/
def boxA (t : St) : Row := .cells [regA t.r, sltA t.s, .lst 2 (kf t.kn) t.kn.length []] true false
def rowK {R : Type} (r : Row) (k : St → Option R) : Option R :=
  match r with
  | .cells c true false => stK (.agg c) k
  | _ => none
theorem stK_nm {R : Type} {c : List AV} {k : St → Option R} {r : R} (h : stK (.agg c) k = some r) : c.all noNm = true := by
  unfold stK at h
  split at h
  · rename_i e
    simp only [AV.agg.injEq] at e
    subst e; rfl
  · rename_i e
    simp only [AV.agg.injEq] at e
    subst e; rfl
  · cases h
theorem rowK_ok {R : Type} {r : Row} {k : St → Option R} {x : R} (h : rowK r k = some x) : ∃ t, k t = some x ∧ r.own = true ∧ ∀ ρ next n, n < next → RowLe ρ next n r (boxA t) := by
  unfold rowK at h
  split at h
  · rename_i c
    have hn := stK_nm h
    obtain ⟨t, hk, _, hv⟩ := stK_ok h
    refine ⟨t, hk, rfl, fun ρ next n hl => RowLe.told hl hn fun κ zs hz => ?_⟩
    have := hv κ _ (.agg _ zs hz .nil)
    cases this with
    | agg _ zs' h1 h2 => exact h1
  · cases h
def rgK {R : Type} (x : AV) (k : (Nat → Vw) → Option R) : Option R :=
  match x with
  | .agg [.arr 5 10 f us] => bif okA vOk 10 f us then k fun i => vOf (elt us f i) else none
  | _ => none
theorem rgK_ok {R : Type} {x : AV} {k : (Nat → Vw) → Option R} {y : R} (h : rgK x k = some y) : ∃ r, k r = some y ∧ noNm x = noNm (.agg []) ∧ ∀ κ z, VRel κ x z → VRel κ (.agg [regA r]) z := by
  unfold rgK at h
  split at h
  · rename_i f us
    obtain ⟨hc, h⟩ := cond_some h
    exact ⟨_, h, rfl, fun κ z hz => VRel.agg_ext (fun _ h => CRel.arr_ext (fun i hi => vc_of (okA_at hc hi)) (fun _ h => h) h) hz⟩
  · cases h
/-- A state's registers and a row, one and two. -/
def mU1 (a b : St) : List (Nat × Row) := [(0, boxA a), (1, boxA b)]
end Go.Sv
namespace Go.Sv
open Go.RowKit Go.Proofs
set_option linter.unusedSimpArgs false
set_option linter.unusedVariables false

/-! ### the registers -/
def und1 {α : Type} (w v : Vw) (x y : α) : α :=
  bif v.k == 1 then bif (bif true then w.k == 1 else false) then
    bif v.k != 0 then bif (bif true then !vEq v w else false) then bif (bif true then !(bif true then sUnd (w.a, w.b) (v.a, v.b) else false) else false) then x else y else y else y
    else bif v.k != 0 then bif (bif true then !vEq v w else false) then x else y else y
  else bif v.k != 0 then bif (bif true then !vEq v w else false) then x else y else y
theorem und1_eq {α : Type} (w v : Vw) (x y : α) : und1 w v x y = bif sayV w v then y else x := by
  have hc : vEq v w = vEq w v := by
    cases h1 : vEq v w <;> cases h2 : vEq w v
    · rfl
    · rw [vEq_iff] at h2; subst h2; rw [vEq_self] at h1; cases h1
    · rw [vEq_iff] at h1; subst h1; rw [vEq_self] at h2; cases h2
    · rfl
  unfold und1 sayV
  rw [hc]
  by_cases h0 : v.k = 0
  · have e0 : (v.k == 0) = true := by rw [h0]; rfl
    have e1 : (v.k == 1) = false := by rw [h0]; rfl
    have e2 : (v.k != 0) = false := by rw [h0]; rfl
    rw [e0, e1, e2]; rfl
  · have e0 : (v.k == 0) = false := by simpa using h0
    have e2 : (v.k != 0) = true := by simpa using h0
    rw [e0, e2]
    cases h1 : (v.k == 1) with
    | false =>
      simp only [cond_true, cond_false, Bool.and_false]
      cases vEq w v <;> rfl
    | true =>
      cases h2 : (w.k == 1) with
      | false =>
        simp only [cond_true, cond_false, Bool.false_and]
        cases vEq w v <;> rfl
      | true =>
        simp only [cond_true, cond_false, Bool.and_self]
        cases h3 : vEq w v with
        | false =>
          unfold sUnd
          cases (decide (w.a ≥ v.a) && decide (w.b ≤ v.b)) <;> rfl
        | true =>
          have := vEq_iff.1 h3
          subst this
          have : (decide (w.a ≥ w.a) && decide (w.b ≤ w.b)) = true := by simp
          rw [this]; rfl
def lU1 (v4 v5 : AV) (r : Nat → Vw) (i : Nat) : List (Nat × AV) := [(4, v4), (5, v5), (2, .ptr 0 [] 0), (3, .ptr 1 [] 0), (23, .agg [regA r]), (24, .int .i64 (Int.ofNat i))]
theorem gU1 (v4 v5 : AV) (r : Nat → Vw) (i : Nat) : (slots (lU1 v4 v5 r i) (Env.mk 7)).get 4 = v4 ∧ (slots (lU1 v4 v5 r i) (Env.mk 7)).get 5 = v5 ∧ (slots (lU1 v4 v5 r i) (Env.mk 7)).get 2 = .ptr 0 [] 0 ∧ (slots (lU1 v4 v5 r i) (Env.mk 7)).get 3 = .ptr 1 [] 0 := by
  refine ⟨?_, ?_, ?_, ?_⟩ <;> kernel_rfl
def nU1 (r : Nat → Vw) (i : Nat) : Env := ((((((Env.mk 7).set 4 .any).set 5 .any).set 2 (.ptr 0 [] 0)).set 3 (.ptr 1 [] 0)).set 23 (.agg [regA r])).set 24 (.int .i64 (IntKind.i64.wrap (Int.ofNat (i + 1))))
theorem evU1 (a b : St) (r : Nat → Vw) (i : Nat) : evCode Try.prog KS6 L0 (regB Try.prog) 60 50 (loopOf Try.prog 50 0) (slots (lU1 .any .any r i) (Env.mk 7)) ⟨5, mU1 a b⟩ (fun e E' st' => some (e, keepE E' [4, 5, 2, 3, 23, 24] (Env.mk 7), (mU1 a b).map (fun p => find st'.mem p.1))) =
  (bif decide (Int.ofNat i < 10) then bif decide (Int.ofNat i < 10) then bif decide (Int.ofNat i < 10) then bif Nat.blt i 10 then
    und1 (a.r i) (r i) (some (.ret, slots (lU1 (.bool false) (.int .i64 0) r i) (Env.mk 7), (mU1 a b).map (fun p => some p.2))) (some (.normal, nU1 r i, (mU1 a b).map (fun p => some p.2)))
  else none else none else none else some (.exit 0, slots (lU1 .any .any r i) (Env.mk 7), (mU1 a b).map (fun p => some p.2))) := by kernel_rfl
def fLoopU1 (R : Type) (E : Env) (st : AS) : Option ((EK → Env → AS → Option R) → Option R) :=
  some fun k => match E.get 2, E.get 3, E.get 24, st.mem with
  | .ptr 0 [] 0, .ptr 1 [] 0, .int .i64 i, (0, ra) :: (1, rb) :: _ => bif Nat.beq st.next 5 && decide (i = 0) then rgK (E.get 23) fun r => rowK ra fun a => rowK rb fun b =>
      bif (List.range 10).all (fun i => sayV (a.r i) (r i)) then k .normal (slots [(2, .ptr 0 [] 0), (3, .ptr 1 [] 0)] (Env.mk 7)) ⟨5, mU1 a b⟩ else k .ret (slots [(4, .bool false), (5, .int .i64 0)] (Env.mk 7)) ⟨5, mU1 a b⟩ else none
  | _, _, _, _ => none
theorem okLoopU1 : LoopFn Try.prog 50 0 fLoopU1 := fun R E st G h hs nb hnb k y hk => by
  unfold fLoopU1 at h
  simp only [Option.some.injEq] at h
  subst h
  dsimp only at hk
  split at hk
  · rename_i i ra rb rest g2 g3 g24 hm
    obtain ⟨hc, hk1⟩ := cond_some hk
    clear hk
    simp only [Bool.and_eq_true, decide_eq_true_eq] at hc
    obtain ⟨c1, c3⟩ := hc
    have d1 := Nat.eq_of_beq_eq_true c1
    clear c1
    obtain ⟨next, mem⟩ := st
    dsimp only at hm d1
    subst hm; subst d1; subst c3
    obtain ⟨r, hk1, hn23, hr⟩ := rgK_ok hk1
    obtain ⟨a, hk1, oa, ha⟩ := rowK_ok hk1
    obtain ⟨b, hk1, ob, hb⟩ := rowK_ok hk1
    have hl := loop_all (nb := nb) (q := 5) (d := 7) (fuel := 60) (ts := [4, 5, 2, 3, 23, 24]) KS6_ok l0_ok (g := 50) (id := 0) 10 (fun i => sayV (a.r i) (r i)) (fun i => lU1 .any .any r i) (fun i => lU1 (.bool false) (.int .i64 0) r i) (mU1 a b) [(2, .ptr 0 [] 0), (3, .ptr 1 [] 0)] [(4, .bool false), (5, .int .i64 0)] hs hnb (fun _ => rfl) (fun _ => rfl) rfl (fun p hp => by
      obtain ⟨_, _, g2, g3⟩ := gU1 .any .any r 10
      simp only [List.mem_cons, List.not_mem_nil, or_false] at hp
      rcases hp with rfl | rfl
      · exact g2
      · exact g3) (fun i p hp => by
      obtain ⟨g2, g3, _, _⟩ := gU1 (.bool false) (.int .i64 0) r i
      simp only [List.mem_cons, List.not_mem_nil, or_false] at hp
      rcases hp with rfl | rfl
      · exact g2
      · exact g3) (fun i hi => by
      have hev := evU1 a b r i
      have hd : decide (Int.ofNat i < 10) = true := decide_eq_true (by simp; omega)
      have hb : Nat.blt i 10 = true := by simp; omega
      have hn : nU1 r i = slots (lU1 .any .any r (i + 1)) (Env.mk 7) := by
        unfold nU1
        rw [wrapNat (show i < 9223372036854775807 by omega)]; rfl
      rw [hd, hb, und1_eq, hn] at hev
      exact hev) (evU1 a b r 10)
    have hw : Weak nb (szOf Try.prog 50) E ⟨5, (0, ra) :: (1, rb) :: rest⟩ (slots (lU1 .any .any r 0) (Env.mk 7)) ⟨5, mU1 a b⟩ := weak_pull _root_.id (fun _ _ => rfl) hnb (fun p hp κ z hz => by
      simp only [lU1, List.mem_cons, List.not_mem_nil, or_false] at hp
      rcases hp with rfl | rfl | rfl | rfl | rfl | rfl
      · exact vrel_any _ _
      · exact vrel_any _ _
      · dsimp only at hz; rw [g2] at hz; exact VRel.pull_ptr rfl (by dsimp only; omega) hz
      · dsimp only at hz; rw [g3] at hz; exact VRel.pull_ptr rfl (by dsimp only; omega) hz
      · exact VRel.nmB rfl (hr κ z hz)
      · dsimp only at hz; rw [g24] at hz; exact VRel.pull rfl hz) (fun q r2 hf => by
      have hp := find_mem _ _ _ hf
      simp only [mU1, List.mem_cons, List.not_mem_nil, or_false, Prod.mk.injEq] at hp
      rcases hp with ⟨rfl, rfl⟩ | ⟨rfl, rfl⟩
      · exact ⟨_, rfl, ha _ _ _ (by dsimp only; omega), fun _ => oa⟩
      · exact ⟨_, rfl, hb _ _ _ (by dsimp only; omega), fun _ => ob⟩) (fun _ _ _ _ _ _ h => h)
    cases hf : (List.range 10).all (fun i => sayV (a.r i) (r i)) with
    | true =>
      rw [hf] at hl hk1
      exact ⟨.exit 0, _, _, hk1, Nat.le_refl _, hl.weak hw⟩
    | false =>
      rw [hf] at hl hk1
      exact ⟨.ret, _, _, hk1, Nat.le_refl _, hl.weak hw⟩
  · cases hk

/-! ### what is known of the packet -/
def lU4 (v4 v5 : AV) (Y : List (Int × Int)) (n i : Nat) : List (Nat × AV) := [(4, v4), (5, v5), (2, .ptr 0 [] 0), (75, .lst 2 (kf Y) n []), (76, .int .i64 (Int.ofNat n)), (77, .int .i64 (Int.ofNat i))]
theorem gU4 (v4 v5 : AV) (Y : List (Int × Int)) (n i : Nat) : (slots (lU4 v4 v5 Y n i) (Env.mk 7)).get 4 = v4 ∧ (slots (lU4 v4 v5 Y n i) (Env.mk 7)).get 5 = v5 := by
  refine ⟨?_, ?_⟩ <;> kernel_rfl
def nU4 (Y : List (Int × Int)) (n i : Nat) : Env := ((((((Env.mk 7).set 4 .any).set 5 .any).set 2 (.ptr 0 [] 0)).set 75 (.lst 2 (kf Y) n [])).set 76 (.int .i64 (Int.ofNat n))).set 77 (.int .i64 (IntKind.i64.wrap (Int.ofNat (i + 1))))
def mU4 (a : St) : List (Nat × Row) := [(0, boxA a)]
theorem evU4 (a : St) (Y : List (Int × Int)) (n i : Nat) : evCode Try.prog KS6 L0 (regB Try.prog) 60 50 (loopOf Try.prog 50 4) (slots (lU4 .any .any Y n i) (Env.mk 7)) ⟨13, mU4 a⟩ (fun e E' st' => some (e, keepE E' [4, 5, 2, 75, 76, 77] (Env.mk 7), (mU4 a).map (fun p => find st'.mem p.1))) =
  (bif decide (Int.ofNat i < Int.ofNat n) then bif decide (Int.ofNat i < (n : Int)) then bif okL (kf a.kn) a.kn.length [] && Nat.ble a.kn.length LIM then
    bif decide (bytF (Y.getD i (0, 0)).1 (kl (kf a.kn) a.kn.length []) < (Y.getD i (0, 0)).2) then some (.ret, slots (lU4 (.bool false) (.int .i64 0) Y n i) (Env.mk 7), (mU4 a).map (fun p => some p.2)) else some (.normal, nU4 Y n i, (mU4 a).map (fun p => some p.2))
  else none else none else some (.exit 4, slots (lU4 .any .any Y n i) (Env.mk 7), (mU4 a).map (fun p => some p.2))) := by kernel_rfl
theorem undK_all (X : List (Int × Int)) : ∀ Y : List (Int × Int), undK X Y = (List.range Y.length).all fun i => !decide (bytF (Y.getD i (0, 0)).1 X < (Y.getD i (0, 0)).2)
  | [] => rfl
  | y :: r => by
    rw [List.length_cons, List.range_succ_eq_map, List.all_cons, List.all_map]
    have ih := undK_all X r
    show ((!decide (bytF y.1 X < y.2)) && undK X r) = _
    rw [ih]
    rfl
def fLoopU4 (R : Type) (E : Env) (st : AS) : Option ((EK → Env → AS → Option R) → Option R) :=
  some fun k => match E.get 2, E.get 75, E.get 76, E.get 77, st.mem with
  | .ptr 0 [] 0, .lst 2 f n us, .int .i64 c, .int .i64 i, (0, ra) :: _ => bif Nat.beq st.next 13 && decide (i = 0) && decide (c = Int.ofNat n) && Nat.ble n LIM && okL f n us then rowK ra fun a => bif Nat.ble a.kn.length LIM then
      bif undK a.kn (kl f n us) then k .normal (slots [] (Env.mk 7)) ⟨13, mU4 a⟩ else k .ret (slots [(4, .bool false), (5, .int .i64 0)] (Env.mk 7)) ⟨13, mU4 a⟩ else none else none
  | _, _, _, _, _ => none
theorem okLoopU4 : LoopFn Try.prog 50 4 fLoopU4 := fun R E st G h hs nb hnb k y hk => by
  unfold fLoopU4 at h
  simp only [Option.some.injEq] at h
  subst h
  dsimp only at hk
  split at hk
  · rename_i f n us c i ra rest g2 g75 g76 g77 hm
    obtain ⟨hc, hk1⟩ := cond_some hk
    clear hk
    simp only [Bool.and_eq_true, decide_eq_true_eq] at hc
    obtain ⟨⟨⟨⟨c1, c3⟩, cc⟩, c4⟩, c5⟩ := hc
    have d1 := Nat.eq_of_beq_eq_true c1
    have d4 := Nat.le_of_ble_eq_true c4
    clear c1
    obtain ⟨next, mem⟩ := st
    dsimp only at hm d1
    subst hm; subst d1; subst c3; subst cc
    obtain ⟨a, hk1, oa, ha⟩ := rowK_ok hk1
    obtain ⟨hc2, hk1⟩ := cond_some hk1
    have e1 : (kl f n us).length = n := kl_length ..
    have hl := loop_all (nb := nb) (q := 13) (d := 7) (fuel := 60) (ts := [4, 5, 2, 75, 76, 77]) KS6_ok l0_ok (g := 50) (id := 4) n (fun i => !decide (bytF ((kl f n us).getD i (0, 0)).1 a.kn < ((kl f n us).getD i (0, 0)).2)) (fun i => lU4 .any .any (kl f n us) n i) (fun i => lU4 (.bool false) (.int .i64 0) (kl f n us) n i) (mU4 a) [] [(4, .bool false), (5, .int .i64 0)] hs hnb (fun _ => rfl) (fun _ => rfl) rfl (fun p hp => by cases hp) (fun i p hp => by
      obtain ⟨g2, g3⟩ := gU4 (.bool false) (.int .i64 0) (kl f n us) n i
      simp only [List.mem_cons, List.not_mem_nil, or_false] at hp
      rcases hp with rfl | rfl
      · exact g2
      · exact g3) (fun i hi => by
      have hev := evU4 a (kl f n us) n i
      have hn : nU4 (kl f n us) n i = slots (lU4 .any .any (kl f n us) n (i + 1)) (Env.mk 7) := by
        unfold nU4
        rw [wrapNat (show i < 9223372036854775807 by unfold LIM at d4; omega)]; rfl
      have hd : decide (Int.ofNat i < Int.ofNat n) = true := dec_lt' hi
      rw [hd, dec_lt' hi, okL_kf, hc2, hn, kl_kf] at hev
      rw [hev]
      cases decide (bytF ((kl f n us).getD i (0, 0)).1 a.kn < ((kl f n us).getD i (0, 0)).2) <;> rfl) (by
      have hev := evU4 a (kl f n us) n n
      have : decide (Int.ofNat n < Int.ofNat n) = false := dec_nlt' ..
      rw [this] at hev
      exact hev)
    have hw : Weak nb (szOf Try.prog 50) E ⟨13, (0, ra) :: rest⟩ (slots (lU4 .any .any (kl f n us) n 0) (Env.mk 7)) ⟨13, mU4 a⟩ := weak_pull _root_.id (fun _ _ => rfl) hnb (fun p hp κ z hz => by
      simp only [lU4, List.mem_cons, List.not_mem_nil, or_false] at hp
      rcases hp with rfl | rfl | rfl | rfl | rfl | rfl
      · exact vrel_any _ _
      · exact vrel_any _ _
      · dsimp only at hz; rw [g2] at hz; exact VRel.pull_ptr rfl (by dsimp only; omega) hz
      · dsimp only at hz; rw [g75] at hz; exact VRel.pull rfl (hz.pairs c5)
      · dsimp only at hz; rw [g76] at hz; exact VRel.pull rfl hz
      · dsimp only at hz; rw [g77] at hz; exact VRel.pull rfl hz) (fun q r2 hf => by
      have hp := find_mem _ _ _ hf
      simp only [mU4, List.mem_cons, List.not_mem_nil, or_false, Prod.mk.injEq] at hp
      obtain ⟨rfl, rfl⟩ := hp
      exact ⟨_, rfl, ha _ _ _ (by dsimp only; omega), fun _ => oa⟩) (fun _ _ _ _ _ _ h => h)
    rw [undK_all, e1] at hk1
    cases hf : (List.range n).all (fun i => !decide (bytF ((kl f n us).getD i (0, 0)).1 a.kn < ((kl f n us).getD i (0, 0)).2)) with
    | true =>
      rw [hf] at hl hk1
      exact ⟨.exit 4, _, _, hk1, Nat.le_refl _, hl.weak hw⟩
    | false =>
      rw [hf] at hl hk1
      exact ⟨.ret, _, _, hk1, Nat.le_refl _, hl.weak hw⟩
  · cases hk
def LS7 : LT := addL 50 0 fLoopU1 (addL 50 4 fLoopU4 L0)
theorem LS7_ok : LOk Try.prog LS7 := addL_ok sprog_ok.1 (by kernel_rfl) okLoopU1 (addL_ok sprog_ok.1 (by kernel_rfl) okLoopU4 l0_ok)
end Go.Sv
namespace Go.Sv
open Go.RowKit Go.Proofs
set_option linter.unusedSimpArgs false
set_option linter.unusedVariables false
def aUnd (b : Bool) (e : Int) : Option AV := some (.tup [.bool b, .int .i64 e])
def wUnd (a b : St) : Option AV :=
  bif true && okL (kf a.kn) a.kn.length [] then bif true && okL (kf b.kn) b.kn.length [] then bif (List.range 10).all (fun i => sayV (a.r i) (b.r i)) then ifs ((List.range 8).map fun i => sUnd (a.s i) (b.s i)) (aUnd false 0) (
    bif true && decide (((stL b).kn.length : Int) = Int.ofNat (stL b).kn.length) && Nat.ble (stL b).kn.length LIM && okL (kf (stL b).kn) (stL b).kn.length [] then bif true && okL (kf (stL a).kn) (stL a).kn.length [] then bif Nat.ble (stL (stL a)).kn.length LIM then
      bif undK (stL (stL a)).kn (kl (kf (stL b).kn) (stL b).kn.length []) then aUnd true 0 else aUnd false 0 else none else none else none)
  else aUnd false 0 else none else none
theorem evUnd1 (a b : St) : evFn Try.prog KS6 LS7 (regB Try.prog) 80 50 [stA a, stA b] ⟨0, []⟩ ret =
  (bif true && okL (kf a.kn) a.kn.length [] then bif chkI (stL a) != 0 then bif chkI (stL a) != 0 then aUnd false (chkI (stL a)) else none else
    bif true && okL (kf b.kn) b.kn.length [] then bif chkI (stL b) != 0 then bif chkI (stL b) != 0 then aUnd false (chkI (stL b)) else wUnd a b else wUnd a b else none
  else none) := by kernel_rfl
def undR (a b : St) : Bool × Int := bif chkB a && chkB b then (undT a b, 0) else (false, 2)
def fUnd (R : Type) (vs : List AV) (k : AV → AS → Option R) : Option R :=
  match vs with
  | [x, y] => stK x fun a => stK y fun b => k (.tup [.bool (undR a b).1, .int .i64 (undR a b).2]) ⟨0, []⟩
  | _ => none
theorem fUnd_ok {g : FuncId} {K : KT} {L : LT} {fuel : Nat} (hK : KOk Try.prog K) (hL : LOk Try.prog L) (h : ∀ a b, evFn Try.prog K L (regB Try.prog) fuel g [stA a, stA b] ⟨0, []⟩ ret = aUnd (undR a b).1 (undR a b).2) : FnOk Try.prog g fUnd := fun R vs k r hr => by
  unfold fUnd at hr
  split at hr
  · rename_i x y
    obtain ⟨a, hr, ha, hx⟩ := stK_ok hr
    obtain ⟨b, hr, hb, hy⟩ := stK_ok hr
    exact ⟨_, _, hr, ⟨fun x hx => by
      simp only [List.mem_cons, List.not_mem_nil, or_false] at hx
      rcases hx with rfl | rfl <;> trivial, fun p hp => by cases hp⟩, (fn_plain sprog_ok.1 sprog_ok.2 hK hL rfl rfl (h a b)).args fun κ ys hc => st_two ha hb (hx κ) (hy κ) hc⟩
  · cases hr
theorem len_LIM {X : List (Int × Int)} (h : chkE X = 0) : Nat.ble X.length 140737488355328 = true := Nat.ble_eq_true_of_le (by have := (chkE_zero h).1; omega)
theorem map_all {α : Type} (f : α → Bool) (l : List α) : (l.map f).all id = l.all f := by rw [List.all_map]; rfl
theorem okUnd1 : FnOk Try.prog 50 fUnd := fUnd_ok KS6_ok LS7_ok fun a b => by
  rw [evUnd1]
  unfold wUnd
  have e1 : ∀ n : Nat, decide ((n : Int) = Int.ofNat n) = true := fun n => decide_eq_true rfl
  simp only [okL_kf, kl_kf, stL_eq, chkI_ne, ifs_eq, map_all, e1, Bool.and_self, Bool.true_and, Bool.and_true, cond_true, cond_false]
  unfold undR
  cases ha : chkB a with
  | false => simp only [chkI_no ha, Bool.not_false, Bool.false_and, cond_true, cond_false]
  | true =>
    cases hb : chkB b with
    | false => simp only [chkI_no hb, Bool.not_false, Bool.not_true, Bool.and_false, cond_true, cond_false]
    | true =>
      have l1 := len_LIM (chkB_iff.1 ha).kn
      have l2 := len_LIM (chkB_iff.1 hb).kn
      have l3 : Nat.ble b.kn.length LIM = true := l2
      have l4 : Nat.ble a.kn.length LIM = true := l1
      simp only [l1, l2, l3, l4, Bool.not_true, Bool.and_self, cond_true, cond_false, undT]
      cases (List.range 10).all (fun i => sayV (a.r i) (b.r i)) <;> cases (List.range 8).all (fun i => sUnd (a.s i) (b.s i)) <;> cases undK a.kn b.kn <;> rfl
theorem evSamT1 (a b : St) : evFn Try.prog KS6 LS7 (regB Try.prog) 80 48 [stA a, stA b] ⟨0, []⟩ ret =
  (bif (List.range 10).all (fun i => vEq (a.r i) (b.r i)) then bif (bif true then (List.range 8).all (fun i => sEq (a.s i) (b.s i)) else false) then bif okL (kf a.kn) a.kn.length [] && okL (kf b.kn) b.kn.length [] && Nat.ble a.kn.length LIM then
    some (.bool (bif true then samE (kl (kf a.kn) a.kn.length []) (kl (kf b.kn) b.kn.length []) else false)) else none else some (.bool false) else some (.bool false)) := by kernel_rfl
def fSamT (R : Type) (vs : List AV) (k : AV → AS → Option R) : Option R :=
  match vs with
  | [x, y] => stK x fun a => stK y fun b => bif Nat.ble a.kn.length LIM then k (.bool (samT a b)) ⟨0, []⟩ else none
  | _ => none
theorem fSamT_ok {g : FuncId} {K : KT} {L : LT} {fuel : Nat} (hK : KOk Try.prog K) (hL : LOk Try.prog L) (h : ∀ a b, Nat.ble a.kn.length LIM = true → evFn Try.prog K L (regB Try.prog) fuel g [stA a, stA b] ⟨0, []⟩ ret = some (.bool (samT a b))) : FnOk Try.prog g fSamT := fun R vs k r hr => by
  unfold fSamT at hr
  split at hr
  · rename_i x y
    obtain ⟨a, hr, ha, hx⟩ := stK_ok hr
    obtain ⟨b, hr, hb, hy⟩ := stK_ok hr
    obtain ⟨hc, hr⟩ := cond_some hr
    exact ⟨_, _, hr, ⟨trivial, fun p hp => by cases hp⟩, (fn_plain sprog_ok.1 sprog_ok.2 hK hL rfl rfl (h a b hc)).args fun κ ys hc => st_two ha hb (hx κ) (hy κ) hc⟩
  · cases hr
theorem okSamT1 : FnOk Try.prog 48 fSamT := fSamT_ok KS6_ok LS7_ok fun a b h => by
  rw [evSamT1]
  simp only [okL_kf, kl_kf, h, Bool.and_self, cond_true, samT]
  cases (List.range 10).all (fun i => vEq (a.r i) (b.r i)) <;> cases (List.range 8).all (fun i => sEq (a.s i) (b.s i)) <;> rfl
def hasS8 : FuncId → Bool := addHas 50 (addHas 48 hasS6)
def specS8 : SpecT := addS 50 fUnd (addS 48 fSamT specS6)
theorem specS8_ok : SpecOk Try.prog hasS8 specS8 := addS_ok okUnd1 (addS_ok okSamT1 specS6_ok)
def KS8 : KT := orK (specK hasS8 specS8) KX
theorem KS8_ok : KOk Try.prog KS8 := orK_ok (specK_ok specS8_ok) KX_ok
end Go.Sv
namespace Go.Sv
open Go.RowKit Go.Proofs
set_option maxRecDepth 100000 in
theorem evWorks17 : evFn Try.prog KS8 L0 (regB Try.prog) 100 56 [] ⟨0, []⟩ ret = some (.bool true) := by kernel_rfl
theorem okWorks17 : FnOk Try.prog 56 fTrue := fnOk_plain sprog_ok.1 sprog_ok.2 KS8_ok l0_ok fun R vs k r h => by
  unfold fTrue at h
  split at h
  · exact ⟨_, h, trivial, rfl, rfl, 100, evWorks17⟩
  · cases h
def hasS9 : FuncId → Bool := addHas 56 hasS8
def specS9 : SpecT := addS 56 fTrue specS8
theorem specS9_ok : SpecOk Try.prog hasS9 specS9 := addS_ok okWorks17 specS8_ok
def KS9 : KT := orK (specK hasS9 specS9) KX
theorem KS9_ok : KOk Try.prog KS9 := orK_ok (specK_ok specS9_ok) KX_ok
theorem joiR_of {a b : St} (ha : chkB a = true) (hb : chkB b = true) : joiR a b = (joiT a b, 0) := by unfold joiR; rw [ha, hb]; rfl
theorem undR_of {a b : St} (ha : chkB a = true) (hb : chkB b = true) : undR a b = (undT a b, 0) := by unfold undR; rw [ha, hb]; rfl
end Go.Sv
