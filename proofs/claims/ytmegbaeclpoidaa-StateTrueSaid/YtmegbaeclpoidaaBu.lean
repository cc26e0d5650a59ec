/- The evaluator and the contracts that the walk leans on, part Bu: T1, T2, T3, T4, T5, T6, T7, T8, T9. -/
import Derived.Test.YtmegbaeclpoidaaBr
namespace Go.Sv
open Go.RowKit Go.Proofs
set_option linter.unusedSimpArgs false
set_option linter.unusedVariables false
structure Wd where
  L : Int
  pl : Nat → Int
  r : Nat → Int × Int × Int
  sl : Nat → Int
def pc (x : Int) : List AV := [.int .i64 x]
def rc (x : Int × Int × Int) : List AV := [.int .u8 x.1, .int .u64 x.2.1, .int .i64 x.2.2]
def rOfW : List AV → Int × Int × Int
  | [.int _ a, .int _ b, .int _ c] => (a, b, c)
  | _ => (0, 0, 0)
def uc (x : Int) : List AV := [.int .u64 x]
def pOf : List AV → Int
  | [.int _ x] => x
  | _ => 0
def pOk : List AV → Bool
  | [.int .i64 _] => true
  | _ => false
theorem pc_of {c : List AV} (h : pOk c = true) : pc (pOf c) = c := by
  unfold pOk at h
  split at h
  · rfl
  · cases h
def uOk : List AV → Bool
  | [.int .u64 _] => true
  | _ => false
theorem uc_of {c : List AV} (h : uOk c = true) : uc (pOf c) = c := by
  unfold uOk at h
  split at h
  · rfl
  · cases h
def wrOk : List AV → Bool
  | [.int .u8 _, .int .u64 _, .int .i64 _] => true
  | _ => false
theorem rc_of {c : List AV} (h : wrOk c = true) : rc (rOfW c) = c := by
  unfold wrOk at h
  split at h
  · rfl
  · cases h
def wC (W : Wd) : List AV := [.int .i64 W.L, .arr 1 257 (fun i => pc (W.pl i)) [], .arr 3 10 (fun i => rc (W.r i)) [], .arr 1 8 (fun i => uc (W.sl i)) []]
def wA (W : Wd) : AV := .agg (wC W)
/-- A world that came in. -/
def wK {R : Type} (x : AV) (k : Wd → Option R) : Option R :=
  match x with
  | .agg [.int .i64 L, .arr 1 257 f us, .arr 3 10 g vs, .arr 1 8 h ws] => bif okA pOk 257 f us && okA wrOk 10 g vs && okA uOk 8 h ws then k ⟨L, fun i => pOf (elt us f i), fun i => rOfW (elt vs g i), fun i => pOf (elt ws h i)⟩ else none
  | _ => none
theorem wK_ok {R : Type} {x : AV} {k : Wd → Option R} {r : R} (h : wK x k = some r) : ∃ W, k W = some r ∧ isArr x = false ∧ ∀ κ y, VRel κ x y → VRel κ (wA W) y := by
  unfold wK at h
  split at h
  · rename_i L f us g vs h' ws
    obtain ⟨hc, h⟩ := cond_some h
    simp only [Bool.and_eq_true] at hc
    obtain ⟨⟨c1, c2⟩, c3⟩ := hc
    exact ⟨_, h, rfl, fun κ y hy => VRel.agg_ext (fun _ hz => CRel.int_ext (fun _ hz => CRel.arr_ext (fun i hi => pc_of (okA_at c1 hi)) (fun _ hz => CRel.arr_ext (fun i hi => rc_of (okA_at c2 hi)) (fun _ hz => CRel.arr_ext (fun i hi => uc_of (okA_at c3 hi)) (fun _ h => h) hz) hz) hz) hz) hy⟩
  · cases h
theorem wC_nm (W : Wd) : (wC W).all noNm = true := rfl
def boxW (W : Wd) : Row := .cells (wC W) true false
/-- A row that holds a world. -/
def rowW {R : Type} (r : Row) (k : Wd → Option R) : Option R :=
  match r with
  | .cells c true false => wK (.agg c) k
  | _ => none
theorem wK_nm {R : Type} {c : List AV} {k : Wd → Option R} {r : R} (h : wK (.agg c) k = some r) : c.all noNm = true := by
  unfold wK at h
  split at h
  · rename_i e
    simp only [AV.agg.injEq] at e
    subst e; rfl
  · cases h
theorem rowW_ok {R : Type} {r : Row} {k : Wd → Option R} {x : R} (h : rowW r k = some x) : ∃ W, k W = some x ∧ r.own = true ∧ ∀ ρ next n, n < next → RowLe ρ next n r (boxW W) := by
  unfold rowW at h
  split at h
  · rename_i c
    have hn := wK_nm h
    obtain ⟨W, hk, _, hv⟩ := wK_ok h
    refine ⟨W, hk, rfl, fun ρ next n hl => RowLe.told hl hn fun κ zs hz => ?_⟩
    have := hv κ _ (.agg _ zs hz .nil)
    cases this with
    | agg _ zs' h1 h2 => exact h1
  · cases h
/-! ### Has -/
def hasF (s : Int × Int) (n : Int) : Bool := decide (s.1 ≤ n) && decide (n ≤ s.2)
def fHas (R : Type) (vs : List AV) (k : AV → AS → Option R) : Option R :=
  match vs with
  | [.agg [.int .u64 a, .int .u64 b], .int .u64 n] => k (.bool (hasF (a, b) n)) ⟨0, []⟩
  | _ => none
theorem evHas (s : Int × Int) (n : Int) : evFn Try.prog K0 L0 (regB Try.prog) 60 102 [.agg (sc s), .int .u64 n] ⟨0, []⟩ ret =
  (bif decide (s.fst ≤ n) then some (AV.bool (bif true then decide (n ≤ s.snd) else false)) else some (AV.bool false)) := by kernel_rfl
theorem okHas : FnOk Try.prog 102 fHas := fnOk_plain sprog_ok.1 sprog_ok.2 k0_ok l0_ok fun R vs k r h => by
  unfold fHas at h
  split at h
  · rename_i a b n
    refine ⟨_, h, trivial, rfl, rfl, 60, (evHas (a, b) n).trans ?_⟩
    unfold hasF
    cases decide ((a, b).1 ≤ n) <;> rfl
  · cases h
def hasT1 : FuncId → Bool := addHas 102 hasSD
def specT1 : SpecT := addS 102 fHas specSD
theorem specT1_ok : SpecOk Try.prog hasT1 specT1 := addS_ok okHas specSD_ok
def KT1 : KT := orK (specK hasT1 specT1) K0
theorem KT1_ok : KOk Try.prog KT1 := orK_ok (specK_ok specT1_ok) k0_ok
end Go.Sv
namespace Go.Sv
open Go.RowKit Go.Proofs
set_option linter.unusedSimpArgs false
set_option linter.unusedVariables false
def mW (W : Wd) (s : St) : List (Nat × Row) := [(0, boxW W), (1, boxA s)]
def u64p (W : Wd) (v : Vw) : Int := IntKind.u64.wrap (IntKind.i64.wrap (W.pl v.i.toNat + v.o))
def hoT {α : Type} (W : Wd) (v : Vw) (x : Int × Int × Int) (ret nor bad : α) : α :=
  bif v.k == 1 then bif x.1 != 1 then ret else bif (bif false then true else !hasF (v.a, v.b) x.2.1) then ret else nor else
  bif v.k == 2 then bif x.1 != 2 then ret else bif decide (0 ≤ v.i) then bif decide (v.i < 257) then bif Nat.blt v.i.toNat 257 then bif (bif false then true else x.2.1 != u64p W v) then ret else nor else bad else bad else bad else
  bif v.k == 3 then bif x.1 != 3 then ret else bif (bif false then true else x.2.1 != IntKind.u64.wrap W.L) then ret else nor else nor
def hoB (W : Wd) (v : Vw) (x : Int × Int × Int) : Bool :=
  bif v.k == 1 then x.1 == 1 && hasF (v.a, v.b) x.2.1 else bif v.k == 2 then x.1 == 2 && x.2.1 == u64p W v else bif v.k == 3 then x.1 == 3 && x.2.1 == IntKind.u64.wrap W.L else true
def idR (v : Vw) : Bool := !(v.k == 2) || idB v.i
theorem hoT_eq {α : Type} {W : Wd} {v : Vw} {x : Int × Int × Int} {ret nor bad : α} (h : idR v = true) : hoT W v x ret nor bad = bif hoB W v x then nor else ret := by
  unfold hoT hoB
  cases h1 : (v.k == 1) with
  | true =>
    simp only [cond_true, cond_false, bne]
    cases (x.1 == 1) <;> cases hasF (v.a, v.b) x.2.1 <;> rfl
  | false =>
    cases h2 : (v.k == 2) with
    | true =>
      unfold idR at h
      rw [h2] at h
      have hi : idB v.i = true := h
      simp only [idB, Bool.and_eq_true, decide_eq_true_eq] at hi
      have d1 : decide (0 ≤ v.i) = true := decide_eq_true hi.1
      have d2 : decide (v.i < 257) = true := decide_eq_true (by omega)
      have d3 : Nat.blt v.i.toNat 257 = true := by simp; omega
      simp only [d1, d2, d3, cond_true, cond_false, bne]
      cases (x.1 == 2) <;> cases (x.2.1 == u64p W v) <;> rfl
    | false =>
      cases h3 : (v.k == 3) with
      | true =>
        simp only [cond_true, cond_false, bne]
        cases (x.1 == 3) <;> cases (x.2.1 == IntKind.u64.wrap W.L) <;> rfl
      | false => rfl
def lHo (v : AV) (i : Nat) : List (Nat × AV) := [(4, v), (2, .ptr 0 [] 0), (3, .ptr 1 [] 0), (5, .int .i64 (Int.ofNat i))]
theorem gHo (v : AV) (i : Nat) : (slots (lHo v i) (Env.mk 7)).get 4 = v ∧ (slots (lHo v i) (Env.mk 7)).get 2 = .ptr 0 [] 0 ∧ (slots (lHo v i) (Env.mk 7)).get 3 = .ptr 1 [] 0 := by
  refine ⟨?_, ?_, ?_⟩ <;> kernel_rfl
def nHo (i : Nat) : Env := ((((Env.mk 7).set 4 .any).set 2 (.ptr 0 [] 0)).set 3 (.ptr 1 [] 0)).set 5 (.int .i64 (IntKind.i64.wrap (Int.ofNat (i + 1))))
theorem evHo (W : Wd) (s : St) (i : Nat) : evCode Try.prog KT1 L0 (regB Try.prog) 60 69 (loopOf Try.prog 69 0) (slots (lHo .any i) (Env.mk 7)) ⟨2, mW W s⟩ (fun e E' st' => some (e, keepE E' [4, 2, 3, 5] (Env.mk 7), (mW W s).map (fun p => find st'.mem p.1))) =
  (bif decide (Int.ofNat i < 10) then bif decide (Int.ofNat i < 10) then bif Nat.blt i 10 then bif decide (Int.ofNat i < 10) then bif Nat.blt i 10 then
    hoT W (s.r i) (W.r i) (some (.ret, slots (lHo (.bool false) i) (Env.mk 7), (mW W s).map (fun p => some p.2))) (some (.normal, nHo i, (mW W s).map (fun p => some p.2))) none
  else none else none else none else none else some (.exit 0, slots (lHo .any i) (Env.mk 7), (mW W s).map (fun p => some p.2))) := by kernel_rfl
def fLoopHo (R : Type) (E : Env) (st : AS) : Option ((EK → Env → AS → Option R) → Option R) :=
  some fun k => match E.get 2, E.get 3, E.get 5, st.mem with
  | .ptr 0 [] 0, .ptr 1 [] 0, .int .i64 i, (0, rw) :: (1, rs) :: _ => bif Nat.beq st.next 2 && decide (i = 0) then rowW rw fun W => rowK rs fun s => bif (List.range 10).all (fun i => idR (s.r i)) then
      bif (List.range 10).all (fun i => hoB W (s.r i) (W.r i)) then k .normal (slots [(2, .ptr 0 [] 0), (3, .ptr 1 [] 0)] (Env.mk 7)) ⟨2, mW W s⟩ else k .ret (slots [(4, .bool false)] (Env.mk 7)) ⟨2, mW W s⟩ else none else none
  | _, _, _, _ => none
theorem okLoopHo : LoopFn Try.prog 69 0 fLoopHo := fun R E st G h hs nb hnb k y hk => by
  unfold fLoopHo at h
  simp only [Option.some.injEq] at h
  subst h
  dsimp only at hk
  split at hk
  · rename_i i ra rb rest g2 g3 g5 hm
    obtain ⟨hc, hkA⟩ := cond_some hk
    clear hk
    simp only [Bool.and_eq_true, decide_eq_true_eq] at hc
    obtain ⟨c1, c3⟩ := hc
    have d1 := Nat.eq_of_beq_eq_true c1
    clear c1
    obtain ⟨next, mem⟩ := st
    dsimp only at hm d1
    subst hm; subst d1; subst c3
    obtain ⟨W, hkB, oa, ha⟩ := rowW_ok hkA
    obtain ⟨s, hkC, ob, hb⟩ := rowK_ok hkB
    obtain ⟨hid, hkD⟩ := cond_some hkC
    have hid : ∀ i, i < 10 → idR (s.r i) = true := fun i hi => List.all_eq_true.1 hid i (List.mem_range.2 hi)
    have hl := loop_all (nb := nb) (q := 2) (d := 7) (fuel := 60) (ts := [4, 2, 3, 5]) KT1_ok l0_ok (g := 69) (id := 0) 10 (fun i => hoB W (s.r i) (W.r i)) (fun i => lHo .any i) (fun i => lHo (.bool false) i) (mW W s) [(2, .ptr 0 [] 0), (3, .ptr 1 [] 0)] [(4, .bool false)] hs hnb (fun _ => rfl) (fun _ => rfl) rfl (fun p hp => by
      obtain ⟨_, w2, w3⟩ := gHo .any 10
      simp only [List.mem_cons, List.not_mem_nil, or_false] at hp
      rcases hp with rfl | rfl
      · exact w2
      · exact w3) (fun i p hp => by rw [List.mem_singleton.1 hp]; exact (gHo _ _).1) (fun i hi => by
      have hev := evHo W s i
      have hd : decide (Int.ofNat i < 10) = true := decide_eq_true (by simp; omega)
      have hb : Nat.blt i 10 = true := by simp; omega
      have hn : nHo i = slots (lHo .any (i + 1)) (Env.mk 7) := by
        unfold nHo
        rw [wrapNat (show i < 9223372036854775807 by omega)]; rfl
      rw [hd, hb, hoT_eq (hid i hi), hn] at hev
      exact hev) (evHo W s 10)
    have hw : Weak nb (szOf Try.prog 69) E ⟨2, (0, ra) :: (1, rb) :: rest⟩ (slots (lHo .any 0) (Env.mk 7)) ⟨2, mW W s⟩ := weak_pull _root_.id (fun _ _ => rfl) hnb (fun p hp κ z hz => by
      simp only [lHo, List.mem_cons, List.not_mem_nil, or_false] at hp
      rcases hp with rfl | rfl | rfl | rfl
      · exact vrel_any _ _
      · dsimp only at hz; rw [g2] at hz; exact VRel.pull_ptr rfl (by dsimp only; omega) hz
      · dsimp only at hz; rw [g3] at hz; exact VRel.pull_ptr rfl (by dsimp only; omega) hz
      · dsimp only at hz; rw [g5] at hz; exact VRel.pull rfl hz) (fun q r2 hf => by
      have hp := find_mem _ _ _ hf
      simp only [mW, List.mem_cons, List.not_mem_nil, or_false, Prod.mk.injEq] at hp
      rcases hp with ⟨rfl, rfl⟩ | ⟨rfl, rfl⟩
      · exact ⟨_, rfl, ha _ _ _ (by dsimp only; omega), fun _ => oa⟩
      · exact ⟨_, rfl, hb _ _ _ (by dsimp only; omega), fun _ => ob⟩) (fun _ _ _ _ _ _ h => h)
    cases hf : (List.range 10).all (fun i => hoB W (s.r i) (W.r i)) with
    | true =>
      rw [hf] at hl hkD
      exact ⟨.exit 0, _, _, hkD, Nat.le_refl _, hl.weak hw⟩
    | false =>
      rw [hf] at hl hkD
      exact ⟨.ret, _, _, hkD, Nat.le_refl _, hl.weak hw⟩
  · cases hk

/-! ### what is known of the packet -/
def lHk (v : AV) (i : Nat) : List (Nat × AV) := [(4, v), (2, .ptr 0 [] 0), (3, .ptr 1 [] 0), (9, .int .i64 (Int.ofNat i))]
theorem gHk (v : AV) (i : Nat) : (slots (lHk v i) (Env.mk 7)).get 4 = v := by kernel_rfl
def nHk (i : Nat) : Env := ((((Env.mk 7).set 4 .any).set 2 (.ptr 0 [] 0)).set 3 (.ptr 1 [] 0)).set 9 (.int .i64 (IntKind.i64.wrap (Int.ofNat (i + 1))))
def knB (W : Wd) (k : Int × Int) : Bool := !decide (IntKind.i64.wrap (W.pl k.1.toNat + k.2) > W.L)
theorem evHk (W : Wd) (s : St) (i : Nat) : evCode Try.prog KT1 L0 (regB Try.prog) 60 69 (loopOf Try.prog 69 5) (slots (lHk .any i) (Env.mk 7)) ⟨2, mW W s⟩ (fun e E' st' => some (e, keepE E' [4, 2, 3, 9] (Env.mk 7), (mW W s).map (fun p => find st'.mem p.1))) =
  (bif decide (Int.ofNat i < (s.kn.length : Int)) then bif decide (Int.ofNat i < (s.kn.length : Int)) then bif decide (0 ≤ (s.kn.getD i (0, 0)).1) then bif decide ((s.kn.getD i (0, 0)).1 < 257) then bif Nat.blt (s.kn.getD i (0, 0)).1.toNat 257 then bif decide (Int.ofNat i < (s.kn.length : Int)) then
    bif decide (IntKind.i64.wrap (W.pl (s.kn.getD i (0, 0)).1.toNat + (s.kn.getD i (0, 0)).2) > W.L) then some (.ret, slots (lHk (.bool false) i) (Env.mk 7), (mW W s).map (fun p => some p.2)) else some (.normal, nHk i, (mW W s).map (fun p => some p.2))
  else none else none else none else none else none else some (.exit 5, slots (lHk .any i) (Env.mk 7), (mW W s).map (fun p => some p.2))) := by kernel_rfl
def fLoopHk (R : Type) (E : Env) (st : AS) : Option ((EK → Env → AS → Option R) → Option R) :=
  some fun k => match E.get 2, E.get 3, E.get 9, st.mem with
  | .ptr 0 [] 0, .ptr 1 [] 0, .int .i64 i, (0, rw) :: (1, rs) :: _ => bif Nat.beq st.next 2 && decide (i = 0) then rowW rw fun W => rowK rs fun s => bif s.kn.all (fun k => idB k.1) && Nat.ble s.kn.length LIM then
      bif (List.range s.kn.length).all (fun i => knB W (s.kn.getD i (0, 0))) then k .normal (slots [] (Env.mk 7)) ⟨2, mW W s⟩ else k .ret (slots [(4, .bool false)] (Env.mk 7)) ⟨2, mW W s⟩ else none else none
  | _, _, _, _ => none
theorem okLoopHk : LoopFn Try.prog 69 5 fLoopHk := fun R E st G h hs nb hnb k y hk => by
  unfold fLoopHk at h
  simp only [Option.some.injEq] at h
  subst h
  dsimp only at hk
  split at hk
  · rename_i i ra rb rest g2 g3 g5 hm
    obtain ⟨hc, hkA⟩ := cond_some hk
    clear hk
    simp only [Bool.and_eq_true, decide_eq_true_eq] at hc
    obtain ⟨c1, c3⟩ := hc
    have d1 := Nat.eq_of_beq_eq_true c1
    clear c1
    obtain ⟨next, mem⟩ := st
    dsimp only at hm d1
    subst hm; subst d1; subst c3
    obtain ⟨W, hkB, oa, ha⟩ := rowW_ok hkA
    obtain ⟨s, hkC, ob, hb⟩ := rowK_ok hkB
    obtain ⟨hid, hkD⟩ := cond_some hkC
    simp only [Bool.and_eq_true] at hid
    obtain ⟨hid, hlim⟩ := hid
    have hlim := Nat.le_of_ble_eq_true hlim
    have hl := loop_all (nb := nb) (q := 2) (d := 7) (fuel := 60) (ts := [4, 2, 3, 9]) KT1_ok l0_ok (g := 69) (id := 5) s.kn.length (fun i => knB W (s.kn.getD i (0, 0))) (fun i => lHk .any i) (fun i => lHk (.bool false) i) (mW W s) [] [(4, .bool false)] hs hnb (fun _ => rfl) (fun _ => rfl) rfl (fun p hp => by cases hp) (fun i p hp => by rw [List.mem_singleton.1 hp]; exact gHk _ _) (fun i hi => by
      have hev := evHk W s i
      have hn : nHk i = slots (lHk .any (i + 1)) (Env.mk 7) := by
        unfold nHk
        rw [wrapNat (show i < 9223372036854775807 by unfold LIM at hlim; omega)]; rfl
      have hm : s.kn.getD i (0, 0) ∈ s.kn := by
        rw [List.getD_eq_getElem?_getD, List.getElem?_eq_getElem hi]
        exact List.getElem_mem hi
      have hi2 := List.all_eq_true.1 hid _ hm
      generalize s.kn.getD i (0, 0) = kk at hev hi2
      simp only [idB, Bool.and_eq_true, decide_eq_true_eq] at hi2
      have e1 : decide (0 ≤ kk.1) = true := decide_eq_true hi2.1
      have e2 : decide (kk.1 < 257) = true := decide_eq_true (by omega)
      have e3 : Nat.blt kk.1.toNat 257 = true := by simp; omega
      rw [dec_lt' hi, e1, e2, e3, hn] at hev
      rw [hev]
      unfold knB
      cases decide (IntKind.i64.wrap (W.pl kk.1.toNat + kk.2) > W.L) <;> rfl) (by
      have hev := evHk W s s.kn.length
      rw [dec_nlt'] at hev
      exact hev)
    have hw : Weak nb (szOf Try.prog 69) E ⟨2, (0, ra) :: (1, rb) :: rest⟩ (slots (lHk .any 0) (Env.mk 7)) ⟨2, mW W s⟩ := weak_pull _root_.id (fun _ _ => rfl) hnb (fun p hp κ z hz => by
      simp only [lHk, List.mem_cons, List.not_mem_nil, or_false] at hp
      rcases hp with rfl | rfl | rfl | rfl
      · exact vrel_any _ _
      · dsimp only at hz; rw [g2] at hz; exact VRel.pull_ptr rfl (by dsimp only; omega) hz
      · dsimp only at hz; rw [g3] at hz; exact VRel.pull_ptr rfl (by dsimp only; omega) hz
      · dsimp only at hz; rw [g5] at hz; exact VRel.pull rfl hz) (fun q r2 hf => by
      have hp := find_mem _ _ _ hf
      simp only [mW, List.mem_cons, List.not_mem_nil, or_false, Prod.mk.injEq] at hp
      rcases hp with ⟨rfl, rfl⟩ | ⟨rfl, rfl⟩
      · exact ⟨_, rfl, ha _ _ _ (by dsimp only; omega), fun _ => oa⟩
      · exact ⟨_, rfl, hb _ _ _ (by dsimp only; omega), fun _ => ob⟩) (fun _ _ _ _ _ _ h => h)
    cases hf : (List.range s.kn.length).all (fun i => knB W (s.kn.getD i (0, 0))) with
    | true =>
      rw [hf] at hl hkD
      exact ⟨.exit 5, _, _, hkD, Nat.le_refl _, hl.weak hw⟩
    | false =>
      rw [hf] at hl hkD
      exact ⟨.ret, _, _, hkD, Nat.le_refl _, hl.weak hw⟩
  · cases hk
def LT2 : LT := addL 69 0 fLoopHo (addL 69 5 fLoopHk L0)
theorem LT2_ok : LOk Try.prog LT2 := addL_ok sprog_ok.1 (by kernel_rfl) okLoopHo (addL_ok sprog_ok.1 (by kernel_rfl) okLoopHk l0_ok)
end Go.Sv
namespace Go.Sv
open Go.RowKit Go.Proofs
set_option linter.unusedSimpArgs false
set_option linter.unusedVariables false
theorem evHolds7 (W : Wd) (s : St) : evFn Try.prog KT1 LT2 (regB Try.prog) 80 69 [wA W, stA s] ⟨0, []⟩ ret =
  (bif true && okL (kf s.kn) s.kn.length [] then bif (List.range 10).all (fun i => idR (s.r i)) then bif (List.range 10).all (fun i => hoB W (s.r i) (W.r i)) then ifs ((List.range 8).map fun i => hasF (s.s i) (W.sl i)) (some (.bool false)) (
    bif true && okL (kf (stL s).kn) (stL s).kn.length [] then bif (stL (stL s)).kn.all (fun k => idB k.1) && Nat.ble (stL (stL s)).kn.length LIM then bif (List.range (stL (stL s)).kn.length).all (fun i => knB W ((stL (stL s)).kn.getD i (0, 0))) then some (.bool true) else some (.bool false) else none else none)
  else some (.bool false) else none else none) := by kernel_rfl
def holW7 (W : Wd) (s : St) : Bool := (List.range 10).all (fun i => hoB W (s.r i) (W.r i)) && ((List.range 8).all (fun i => hasF (s.s i) (W.sl i)) && (List.range s.kn.length).all (fun i => knB W (s.kn.getD i (0, 0))))
def idT (s : St) : Bool := (List.range 10).all (fun i => idR (s.r i)) && (s.kn.all (fun k => idB k.1) && Nat.ble s.kn.length LIM)
def fHol7 (R : Type) (vs : List AV) (k : AV → AS → Option R) : Option R :=
  match vs with
  | [x, y] => wK x fun W => stK y fun s => bif idT s then k (.bool (holW7 W s)) ⟨0, []⟩ else none
  | _ => none
theorem okHol7 : FnOk Try.prog 69 fHol7 := fun R vs k r hr => by
  unfold fHol7 at hr
  split at hr
  · rename_i x y
    obtain ⟨W, hr, ha, hx⟩ := wK_ok hr
    obtain ⟨s, hr, hb, hy⟩ := stK_ok hr
    obtain ⟨hc, hr⟩ := cond_some hr
    simp only [idT, Bool.and_eq_true] at hc
    obtain ⟨h1, h2, h3⟩ := hc
    refine ⟨_, _, hr, ⟨trivial, fun p hp => by cases hp⟩, (fn_plain sprog_ok.1 sprog_ok.2 KT1_ok LT2_ok (fuel := 80) (vs := [wA W, stA s]) rfl rfl ((evHolds7 W s).trans ?_)).args fun κ ys hc => ?_⟩
    · simp only [okL_kf, stL_eq, ifs_eq, map_all, h1, h2, h3, Bool.and_self, cond_true]
      unfold holW7
      cases (List.range 10).all (fun i => hoB W (s.r i) (W.r i)) <;> cases (List.range 8).all (fun i => hasF (s.s i) (W.sl i)) <;> cases (List.range s.kn.length).all (fun i => knB W (s.kn.getD i (0, 0))) <;> rfl
    · obtain ⟨u, us, rfl, r1, r2⟩ := hc.head ha
      exact CRel.append (xs := [_]) (ys := [u]) (hx κ _ r1) (r2.last (hy κ) hb)
  · cases hr
end Go.Sv
namespace Go.Sv
open Go.RowKit Go.Proofs
set_option linter.unusedSimpArgs false
set_option linter.unusedVariables false
/-! ### pick -/
def allB (s : Int × Int) : Bool := s.1 == 0 && s.2 == 18446744073709551615
def modS (s : Int × Int) : Int := IntKind.u64.wrap (IntKind.u64.wrap (s.2 - s.1) + 1)
def picF (s : Int × Int) (n : Int) : Int := bif allB s then n else IntKind.u64.wrap (s.1 + n.tmod (modS s))
theorem evPick (s : Int × Int) (n : Int) : evFn Try.prog KT1 L0 (regB Try.prog) 60 101 [.agg (sc s), .int .u64 n] ⟨0, []⟩ ret =
  (bif s.1 == 0 then bif (bif true then s.2 == 18446744073709551615 else false) then some (.int .u64 n) else bif decide (modS s = 0) then none else some (.int .u64 (IntKind.u64.wrap (s.1 + n.tmod (modS s)))) else bif decide (modS s = 0) then none else some (.int .u64 (IntKind.u64.wrap (s.1 + n.tmod (modS s))))) := by kernel_rfl
def fPick (R : Type) (vs : List AV) (k : AV → AS → Option R) : Option R :=
  match vs with
  | [.agg [.int .u64 a, .int .u64 b], .int .u64 n] => bif allB (a, b) || !decide (modS (a, b) = 0) then k (.int .u64 (picF (a, b) n)) ⟨0, []⟩ else none
  | _ => none
theorem okPick : FnOk Try.prog 101 fPick := fnOk_plain sprog_ok.1 sprog_ok.2 KT1_ok l0_ok fun R vs k r h => by
  unfold fPick at h
  split at h
  · rename_i a b n
    obtain ⟨hc, h⟩ := cond_some h
    refine ⟨_, h, trivial, rfl, rfl, 60, (evPick (a, b) n).trans ?_⟩
    unfold picF
    cases hA : allB (a, b) with
    | true =>
      simp only [allB, Bool.and_eq_true] at hA
      rw [hA.1, hA.2]; rfl
    | false =>
      rw [hA, Bool.false_or] at hc
      have hm : decide (modS (a, b) = 0) = false := by simpa using hc
      have hA' : ((a, b).1 == 0 && (a, b).2 == 18446744073709551615) = false := hA
      rw [hm]
      cases h1 : ((a, b).1 == 0) with
      | false => rfl
      | true =>
        rw [h1, Bool.true_and] at hA'
        rw [hA']; rfl
  · cases h
def hasT4 : FuncId → Bool := addHas 101 (addHas 69 hasT1)
def specT4 : SpecT := addS 101 fPick (addS 69 fHol7 specT1)
theorem specT4_ok : SpecOk Try.prog hasT4 specT4 := addS_ok okPick (addS_ok okHol7 specT1_ok)
def KT4 : KT := orK (specK hasT4 specT4) K0
theorem KT4_ok : KOk Try.prog KT4 := orK_ok (specK_ok specT4_ok) k0_ok

/-! ### the draw -/
def uf (ns : List Int) (i : Nat) : List AV := [.int .u64 (ns.getD i 0)]
def dr1 (d x : Int) : Int := IntKind.u64.wrap (IntKind.u64.wrap (d * 31) + x)
def lF1 (ns : List Int) (N i : Nat) (d : Int) : List (Nat × AV) := [(2, .ptr 0 [] 0), (4, .ptr 1 [] 0), (5, .ptr 2 [] 0), (1, .lst 1 (uf ns) N []), (6, .int .u64 d), (7, .int .i64 (Int.ofNat i))]
def nF1 (ns : List Int) (N i : Nat) (d : Int) : Env := ((((((Env.mk 7).set 2 (.ptr 0 [] 0)).set 4 (.ptr 1 [] 0)).set 5 (.ptr 2 [] 0)).set 1 (.lst 1 (uf ns) N [])).set 6 (.int .u64 d)).set 7 (.int .i64 (IntKind.i64.wrap (Int.ofNat (i + 1))))
def mF (r0 r1 r2 : Row) : List (Nat × Row) := [(0, r0), (1, r1), (2, r2)]
theorem evF1 (r0 r1 r2 : Row) (ns : List Int) (N i : Nat) (d : Int) : evCode Try.prog KT4 L0 (regB Try.prog) 60 68 (loopOf Try.prog 68 0) (slots (lF1 ns N i d) (Env.mk 7)) ⟨3, mF r0 r1 r2⟩ (fun e E' st' => some (e, keepE E' [2, 4, 5, 1, 6, 7] (Env.mk 7), (mF r0 r1 r2).map (fun p => find st'.mem p.1))) =
  (bif decide (Int.ofNat i < (N : Int)) then bif (bif true then decide (Int.ofNat i < 40) else false) then bif decide (Int.ofNat i < (N : Int)) then some (.normal, nF1 ns N i (dr1 d (ns.getD i 0)), (mF r0 r1 r2).map fun p => some p.2) else none else some (.exit 0, slots (lF1 ns N i d) (Env.mk 7), (mF r0 r1 r2).map fun p => some p.2) else some (.exit 0, slots (lF1 ns N i d) (Env.mk 7), (mF r0 r1 r2).map fun p => some p.2)) := by kernel_rfl
theorem gF1 (ns : List Int) (N i : Nat) (d : Int) : (slots (lF1 ns N i d) (Env.mk 7)).get 2 = .ptr 0 [] 0 ∧ (slots (lF1 ns N i d) (Env.mk 7)).get 4 = .ptr 1 [] 0 ∧ (slots (lF1 ns N i d) (Env.mk 7)).get 5 = .ptr 2 [] 0 ∧ (slots (lF1 ns N i d) (Env.mk 7)).get 6 = .int .u64 d := by
  refine ⟨?_, ?_, ?_, ?_⟩ <;> kernel_rfl
def drF (ns : List Int) (d : Int) (i : Nat) : Int := (ns.take i).foldl dr1 d
theorem drF_succ {ns : List Int} {d : Int} {i : Nat} (h : i < ns.length) : drF ns d (i + 1) = dr1 (drF ns d i) (ns.getD i 0) := by
  unfold drF
  rw [List.take_succ_eq_append_getElem h, List.foldl_append]
  simp [List.getD_eq_getElem?_getD, h]
theorem VRel.lst_told {κ : Kap} {w n : Nat} {f g : Nat → List AV} {us vs : List (Nat × List AV)} {y : Value} (he : ∀ i, i < n → elt vs g i = elt us f i) (h : VRel κ (.lst w f n us) y) : VRel κ (.lst w g n vs) y := by
  cases h with
  | lst _ _ b off cap _ _ cs h1 h2 h3 h4 h5 h6 _ => exact .lst w n b off cap g vs cs h1 h2 h3 h4 (fun i hi => by rw [he i hi]; exact h5 i hi) (fun i hi => by rw [he i hi]; exact h6 i hi) .nil
  | lst0 _ cap _ _ a _ => exact .lst0 w cap g vs a .nil
def ul (f : Nat → List AV) (n : Nat) (us : List (Nat × List AV)) : List Int := (List.range n).map fun i => pOf (elt us f i)
theorem ul_len {f : Nat → List AV} {n : Nat} {us : List (Nat × List AV)} : (ul f n us).length = n := by simp [ul]
theorem uf_ul {f : Nat → List AV} {n : Nat} {us : List (Nat × List AV)} (h : okA uOk n f us = true) {i : Nat} (hi : i < n) : uf (ul f n us) i = elt us f i := by
  have : (ul f n us).getD i 0 = pOf (elt us f i) := by simp [ul, List.getD_eq_getElem?_getD, hi]
  unfold uf
  rw [this]
  exact uc_of (okA_at h hi)
def lQ (d : Int) : List (Nat × AV) := [(2, .ptr 0 [] 0), (4, .ptr 1 [] 0), (5, .ptr 2 [] 0), (6, .int .u64 d)]
def fLoopF1 (R : Type) (E : Env) (st : AS) : Option ((EK → Env → AS → Option R) → Option R) :=
  some fun k => match E.get 2, E.get 4, E.get 5, E.get 1, E.get 6, E.get 7, st.mem with
  | .ptr 0 [] 0, .ptr 1 [] 0, .ptr 2 [] 0, .lst 1 f n us, .int .u64 d, .int .i64 i, [(0, r0), (1, r1), (2, r2)] => bif (Nat.beq st.next 3 && decide (i = 0)) && (okA uOk n f us && (rowB r0 && (rowB r1 && rowB r2))) then
      k .normal (slots (lQ (drF (ul f n us) d (min n 40))) (Env.mk 7)) ⟨3, mF r0 r1 r2⟩ else none
  | _, _, _, _, _, _, _ => none
theorem okLoopF1 : LoopFn Try.prog 68 0 fLoopF1 := fun R E st G h hs nb hnb k y hk => by
  unfold fLoopF1 at h
  simp only [Option.some.injEq] at h
  subst h
  dsimp only at hk
  split at hk
  · rename_i f n us d i r0 r1 r2 g2 g4 g5 g1 g6 g7 hm
    obtain ⟨hc, hkA⟩ := cond_some hk
    clear hk
    simp only [Bool.and_eq_true, decide_eq_true_eq] at hc
    obtain ⟨⟨c1, c3⟩, c4, c5, c6, c7⟩ := hc
    have d1 := Nat.eq_of_beq_eq_true c1
    clear c1
    obtain ⟨next, mem⟩ := st
    dsimp only at hm d1
    subst hm; subst d1; subst c3
    have hlen := ul_len (f := f) (n := n) (us := us)
    have hms : (mF r0 r1 r2).all (fun p => Nat.blt p.1 3 && rowB p.2) = true := by simp [mF, c5, c6, c7]
    have hl := loop_upd (nb := nb) (g := 68) (id := 0) (d := 7) (q := 3) (min n 40) (fun i => lF1 (ul f n us) n i (drF (ul f n us) d i)) (fun _ => mF r0 r1 r2) (lQ (drF (ul f n us) d (min n 40))) (mF r0 r1 r2) (fun i hi => by
      have hev := evF1 r0 r1 r2 (ul f n us) n i (drF (ul f n us) d i)
      have h40 : decide (Int.ofNat i < 40) = true := decide_eq_true (by simp; omega)
      rw [dec_lt' (show i < n by omega), h40, ← drF_succ (show i < (ul f n us).length by omega)] at hev
      have hn : nF1 (ul f n us) n i (drF (ul f n us) d (i + 1)) = slots (lF1 (ul f n us) n (i + 1) (drF (ul f n us) d (i + 1))) (Env.mk 7) := by
        unfold nF1
        rw [wrapNat (show i < 9223372036854775807 by omega)]; rfl
      rw [hn] at hev
      exact code_rows sprog_ok.1 sprog_ok.2 KT4_ok l0_ok (fuel := 60) (ts := [2, 4, 5, 1, 6, 7]) hs hnb hnb rfl hms hev) (by
      have hev := evF1 r0 r1 r2 (ul f n us) n (min n 40) (drF (ul f n us) d (min n 40))
      have hx : evCode Try.prog KT4 L0 (regB Try.prog) 60 68 (loopOf Try.prog 68 0) (slots (lF1 (ul f n us) n (min n 40) (drF (ul f n us) d (min n 40))) (Env.mk 7)) ⟨3, mF r0 r1 r2⟩ (fun e E' st' => some (e, keepE E' [2, 4, 5, 1, 6, 7] (Env.mk 7), (mF r0 r1 r2).map (fun p => find st'.mem p.1))) = some (.exit 0, slots (lF1 (ul f n us) n (min n 40) (drF (ul f n us) d (min n 40))) (Env.mk 7), (mF r0 r1 r2).map fun p => some p.2) := by
        rw [hev]
        by_cases h : n ≤ 40
        · rw [Nat.min_eq_left h, dec_nlt']; rfl
        · have h40 : decide (Int.ofNat (min n 40) < 40) = false := decide_eq_false (by simp; omega)
          rw [dec_lt' (show min n 40 < n by omega), h40]; rfl
      refine (code_rows sprog_ok.1 sprog_ok.2 KT4_ok l0_ok (fuel := 60) (ts := [2, 4, 5, 1, 6, 7]) hs hnb hnb rfl hms hx).less (less_slots fun p hp => ?_)
      obtain ⟨w1, w2, w3, w4⟩ := gF1 (ul f n us) n (min n 40) (drF (ul f n us) d (min n 40))
      simp only [lQ, List.mem_cons, List.not_mem_nil, or_false] at hp
      rcases hp with rfl | rfl | rfl | rfl
      · exact w1
      · exact w2
      · exact w3
      · exact w4)
    have hw : Weak nb (szOf Try.prog 68) E ⟨3, [(0, r0), (1, r1), (2, r2)]⟩ (slots (lF1 (ul f n us) n 0 (drF (ul f n us) d 0)) (Env.mk 7)) ⟨3, mF r0 r1 r2⟩ := weak_pull _root_.id (fun _ _ => rfl) hnb (fun p hp κ z hz => by
      simp only [lF1, List.mem_cons, List.not_mem_nil, or_false] at hp
      rcases hp with rfl | rfl | rfl | rfl | rfl | rfl
      · dsimp only at hz; rw [g2] at hz; exact VRel.pull_ptr rfl (by dsimp only; omega) hz
      · dsimp only at hz; rw [g4] at hz; exact VRel.pull_ptr rfl (by dsimp only; omega) hz
      · dsimp only at hz; rw [g5] at hz; exact VRel.pull_ptr rfl (by dsimp only; omega) hz
      · dsimp only at hz; rw [g1] at hz; exact VRel.pull rfl (VRel.lst_told (fun i hi => uf_ul c4 hi) hz)
      · dsimp only at hz; rw [g6] at hz; exact VRel.pull rfl hz
      · dsimp only at hz; rw [g7] at hz; exact VRel.pull rfl hz) (fun q r2 hf => by
      have hp := find_mem _ _ _ hf
      simp only [mF, List.mem_cons, List.not_mem_nil, or_false, Prod.mk.injEq] at hp
      rcases hp with ⟨rfl, rfl⟩ | ⟨rfl, rfl⟩ | ⟨rfl, rfl⟩
      · exact ⟨_, rfl, RowLe.same (by dsimp only; omega) c5, _root_.id⟩
      · exact ⟨_, rfl, RowLe.same (by dsimp only; omega) c6, _root_.id⟩
      · exact ⟨_, rfl, RowLe.same (by dsimp only; omega) c7, _root_.id⟩) (fun _ _ _ _ _ _ h => h)
    exact ⟨.exit 0, _, _, hkA, Nat.le_refl _, hl.weak hw⟩
  · cases hk
/-! ### places -/
def plF (s : St) (d : Int) (i : Nat) : Int := IntKind.i64.wrap (2048 - bif decide (IntKind.i64.wrap (d.tmod 64) > bytF (Int.ofNat i) s.kn) then IntKind.i64.wrap (d.tmod 64) else bytF (Int.ofNat i) s.kn)
end Go.Sv
namespace Go.Sv
open Go.RowKit Go.Proofs
set_option linter.unusedSimpArgs false
set_option linter.unusedVariables false
def curG {α : Type} (F g : Nat → α) (i j : Nat) : α := bif Nat.blt j i then F j else g j
theorem curG_succ {α : Type} (F g : Nat → α) (i j : Nat) : curG F g (i + 1) j = bif Nat.beq j i then F i else curG F g i j := by
  unfold curG
  by_cases e : j = i
  · subst e
    have h1 : Nat.beq j j = true := by simp
    have h2 : Nat.blt j (j + 1) = true := by simp
    rw [h1, h2]; rfl
  · rw [beq_no e, blt_succ e]; rfl
theorem curG_end {α : Type} (F g : Nat → α) (n j : Nat) (h : j < n) : curG F g n j = F j := by
  unfold curG
  have : Nat.blt j n = true := by simpa using h
  rw [this]; rfl
def dr2 (d : Int) : Int := IntKind.u64.wrap (IntKind.u64.wrap (d * 6364136223846793005) + 1442695040888963407)
def drN (d : Int) : Nat → Int
  | 0 => d
  | i + 1 => dr2 (drN d i)
def wCU (W : Wd) (u1 u3 u4 : List (Nat × List AV)) : List AV := [.int .i64 W.L, .arr 1 257 (fun i => pc (W.pl i)) u1, .arr 3 10 (fun i => rc (W.r i)) u3, .arr 1 8 (fun i => uc (W.sl i)) u4]
theorem wCU_to {κ : Kap} {W W' : Wd} {u1 u3 u4 : List (Nat × List AV)} {zs : List Value} (hL : W'.L = W.L) (h1 : ∀ j, j < 257 → pc (W'.pl j) = elt u1 (fun i => pc (W.pl i)) j) (h3 : ∀ j, j < 10 → rc (W'.r j) = elt u3 (fun i => rc (W.r i)) j) (h4 : ∀ j, j < 8 → uc (W'.sl j) = elt u4 (fun i => uc (W.sl i)) j) (h : CRel κ (wCU W u1 u3 u4) zs) : CRel κ (wC W') zs := by
  unfold wC
  rw [hL]
  exact CRel.int_ext (fun _ h => CRel.arr_ext h1 (fun _ h => CRel.arr_ext h3 (fun _ h => CRel.arr_ext h4 (fun _ h => h) h) h) h) h
def mG (W : Wd) (s : St) (r1 : Row) : List (Nat × Row) := [(2, boxW W), (0, boxA s), (1, r1)]

/-! ### the registers -/
def valR (W : Wd) (v : Vw) (d : Int) : Int := bif v.k == 1 then picF (v.a, v.b) d else bif v.k == 2 then u64p W v else bif v.k == 3 then IntKind.u64.wrap W.L else 0
def okS (s : Int × Int) : Bool := allB s || !decide (modS s = 0)
def okR (v : Vw) : Bool := idR v && (!(v.k == 1) || okS (v.a, v.b))
def lR (d : Int) (i : Nat) : List (Nat × AV) := lQ d ++ [(9, .int .i64 (Int.ofNat i))]
theorem gR (d : Int) (i : Nat) : (slots (lR d i) (Env.mk 7)).get 2 = .ptr 0 [] 0 ∧ (slots (lR d i) (Env.mk 7)).get 4 = .ptr 1 [] 0 ∧ (slots (lR d i) (Env.mk 7)).get 5 = .ptr 2 [] 0 ∧ (slots (lR d i) (Env.mk 7)).get 6 = .int .u64 d := by
  refine ⟨?_, ?_, ?_, ?_⟩ <;> kernel_rfl
def nR (d : Int) (i : Nat) : Env := (((((Env.mk 7).set 2 (.ptr 0 [] 0)).set 4 (.ptr 1 [] 0)).set 5 (.ptr 2 [] 0)).set 6 (.int .u64 d)).set 9 (.int .i64 (IntKind.i64.wrap (Int.ofNat (i + 1))))
def leafR (W : Wd) (s : St) (r1 : Row) (d : Int) (i : Nat) (us : List (Nat × List AV)) : Option (EK × Env × List (Option Row)) := some (.normal, nR (dr2 d) i, [some (.cells (wCU W [] us []) true false), some (boxA s), some r1])
def usR (W : Wd) (v : Vw) (i : Nat) (x : Int) : List (Nat × List AV) := [((Int.ofNat i).toNat, rc (v.k, x, 0)), ((Int.ofNat i).toNat, rc (v.k, 0, 0))]
def usN (W : Wd) (v : Vw) (i : Nat) (x : Int) : List (Nat × List AV) := [((Int.ofNat i).toNat, rc ((W.r i).1, x, (W.r i).2.2)), ((Int.ofNat i).toNat, rc (v.k, 0, 0))]
theorem evF4 (W : Wd) (s : St) (r1 : Row) (d : Int) (i : Nat) : evCode Try.prog KT4 L0 (regB Try.prog) 60 68 (loopOf Try.prog 68 4) (slots (lR d i) (Env.mk 7)) ⟨3, mG W s r1⟩ (fun e E' st' => some (e, keepE E' [2, 4, 5, 6, 9] (Env.mk 7), ([2, 0, 1] : List Nat).map (find st'.mem))) =
  (bif decide (Int.ofNat i < 10) then bif decide (Int.ofNat i < 10) then bif Nat.blt i 10 then bif decide (Int.ofNat i < 10) then bif Nat.blt i 10 then
    bif (s.r i).k == 1 then bif okS ((s.r i).a, (s.r i).b) then bif decide (Int.ofNat i < 10) then bif Nat.blt i 10 then bif Nat.beq i i then leafR W s r1 d i (usR W (s.r i) i (picF ((s.r i).a, (s.r i).b) (dr2 d))) else leafR W s r1 d i (usN W (s.r i) i (picF ((s.r i).a, (s.r i).b) (dr2 d))) else none else none else none else
    bif (s.r i).k == 2 then bif decide (0 ≤ (s.r i).i) then bif decide ((s.r i).i < 257) then bif Nat.blt (s.r i).i.toNat 257 then bif decide (Int.ofNat i < 10) then bif Nat.blt i 10 then bif Nat.beq i i then leafR W s r1 d i (usR W (s.r i) i (u64p W (s.r i))) else leafR W s r1 d i (usN W (s.r i) i (u64p W (s.r i))) else none else none else none else none else none else
    bif (s.r i).k == 3 then bif decide (Int.ofNat i < 10) then bif Nat.blt i 10 then bif Nat.beq i i then leafR W s r1 d i (usR W (s.r i) i (IntKind.u64.wrap W.L)) else leafR W s r1 d i (usN W (s.r i) i (IntKind.u64.wrap W.L)) else none else none else
    leafR W s r1 d i [((Int.ofNat i).toNat, rc ((s.r i).k, 0, 0))]
  else none else none else none else none else some (.exit 4, slots (lR d i) (Env.mk 7), [some (boxW W), some (boxA s), some r1])) := by kernel_rfl
theorem roundR {W : Wd} {s : St} {r1 : Row} {d : Int} {i : Nat} (hi : i < 10) (hv : okR (s.r i) = true) : ∃ us, (∀ j, elt us (fun i => rc (W.r i)) j = rc (bif Nat.beq j i then ((s.r i).k, valR W (s.r i) (dr2 d), 0) else W.r j)) ∧
    evCode Try.prog KT4 L0 (regB Try.prog) 60 68 (loopOf Try.prog 68 4) (slots (lR d i) (Env.mk 7)) ⟨3, mG W s r1⟩ (fun e E' st' => some (e, keepE E' [2, 4, 5, 6, 9] (Env.mk 7), ([2, 0, 1] : List Nat).map (find st'.mem))) = leafR W s r1 d i us := by
  have hd : decide (Int.ofNat i < 10) = true := decide_eq_true (by simp; omega)
  have hb : Nat.blt i 10 = true := by simp; omega
  have hq : Nat.beq i i = true := by simp
  have key : ∀ x, ∀ j, elt (usR W (s.r i) i x) (fun i => rc (W.r i)) j = rc (bif Nat.beq j i then ((s.r i).k, x, 0) else W.r j) := fun x j => by
    show (bif Nat.beq j i then _ else bif Nat.beq j i then _ else _) = _
    cases Nat.beq j i <;> rfl
  rw [evF4, hd, hb, hq]
  simp only [cond_true, cond_false]
  simp only [okR, Bool.and_eq_true] at hv
  obtain ⟨hv1, hv2⟩ := hv
  unfold valR
  cases h1 : ((s.r i).k == 1) with
  | true =>
    rw [h1] at hv2
    have hs : okS ((s.r i).a, (s.r i).b) = true := hv2
    rw [hs]
    exact ⟨_, key _, rfl⟩
  | false =>
    cases h2 : ((s.r i).k == 2) with
    | true =>
      unfold idR at hv1
      rw [h2] at hv1
      have hi : idB (s.r i).i = true := hv1
      simp only [idB, Bool.and_eq_true, decide_eq_true_eq] at hi
      have d1 : decide (0 ≤ (s.r i).i) = true := decide_eq_true hi.1
      have d2 : decide ((s.r i).i < 257) = true := decide_eq_true (by omega)
      have d3 : Nat.blt (s.r i).i.toNat 257 = true := by simp; omega
      rw [d1, d2, d3]
      exact ⟨_, key _, rfl⟩
    | false =>
      cases h3 : ((s.r i).k == 3) with
      | true => exact ⟨_, key _, rfl⟩
      | false =>
        refine ⟨_, fun j => ?_, rfl⟩
        show (bif Nat.beq j i then _ else _) = _
        cases Nat.beq j i <;> rfl
/-- The world behind the registers' loop. -/
def regW (W : Wd) (s : St) (d : Int) (i : Nat) : Wd := ⟨W.L, W.pl, curG (fun j => ((s.r j).k, valR W (s.r j) (drN d (j + 1)), 0)) W.r i, W.sl⟩
def fLoopF4 (R : Type) (E : Env) (st : AS) : Option ((EK → Env → AS → Option R) → Option R) :=
  some fun k => match E.get 2, E.get 4, E.get 5, E.get 6, E.get 9, st.mem with
  | .ptr 0 [] 0, .ptr 1 [] 0, .ptr 2 [] 0, .int .u64 d, .int .i64 i, [(2, rw), (0, ra), (1, r1)] => bif Nat.beq st.next 3 && decide (i = 0) && rowB r1 then rowW rw fun W => rowK ra fun s => bif (List.range 10).all (fun i => okR (s.r i)) then
      k .normal (slots (lQ (drN d 10)) (Env.mk 7)) ⟨3, mG (regW W s d 10) s r1⟩ else none else none
  | _, _, _, _, _, _ => none
theorem okLoopF4 : LoopFn Try.prog 68 4 fLoopF4 := fun R E st G h hs nb hnb k y hk => by
  unfold fLoopF4 at h
  simp only [Option.some.injEq] at h
  subst h
  dsimp only at hk
  split at hk
  · rename_i d i rw' ra r1 g2 g4 g5 g6 g9 hm
    obtain ⟨hc, hkA⟩ := cond_some hk
    clear hk
    simp only [Bool.and_eq_true, decide_eq_true_eq] at hc
    obtain ⟨⟨c1, c3⟩, c4⟩ := hc
    have d1 := Nat.eq_of_beq_eq_true c1
    clear c1
    obtain ⟨next, mem⟩ := st
    dsimp only at hm d1
    subst hm; subst d1; subst c3
    obtain ⟨W, hkB, ow, hW⟩ := rowW_ok hkA
    obtain ⟨s, hkC, os, hS⟩ := rowK_ok hkB
    obtain ⟨hok, hkD⟩ := cond_some hkC
    have hok : ∀ i, i < 10 → okR (s.r i) = true := fun i hi => List.all_eq_true.1 hok i (List.mem_range.2 hi)
    have hrest : ([(0, boxA s), (1, r1)] : List (Nat × Row)).all (fun p => Nat.blt p.1 3 && rowB p.2) = true := by
      have h0 : rowB (boxA s) = true := rfl
      simp [h0, c4]
    have hl := loop_upd (nb := nb) (g := 68) (id := 4) (d := 7) (q := 3) 10 (fun i => lR (drN d i) i) (fun i => mG (regW W s d i) s r1) (lQ (drN d 10)) (mG (regW W s d 10) s r1) (fun i hi => by
      obtain ⟨us, hus, hev⟩ := roundR (W := regW W s d i) (r1 := r1) (d := drN d i) hi (hok i hi)
      have hn : nR (dr2 (drN d i)) i = slots (lR (drN d (i + 1)) (i + 1)) (Env.mk 7) := by
        unfold nR
        rw [wrapNat (show i < 9223372036854775807 by omega)]; rfl
      unfold leafR at hev
      rw [hn] at hev
      exact step_set (q := 3) (d := 7) (c := wCU (regW W s d i) [] us []) (c' := wC (regW W s d (i + 1))) KT4_ok l0_ok (n0 := 2) (rest := [(0, boxA s), (1, r1)]) (ts := [2, 4, 5, 6, 9]) (fuel := 60) (st := ⟨3, mG (regW W s d i) s r1⟩) hs hnb hnb rfl hrest (by omega) rfl (fun κ zs hz => wCU_to (W := regW W s d i) (W' := regW W s d (i + 1)) (u1 := []) (u3 := us) (u4 := []) rfl (fun _ _ => rfl) (fun j _ => by
        rw [hus]
        show rc (curG _ _ (i + 1) j) = _
        rw [curG_succ]; rfl) (fun _ _ => rfl) hz) hev) (by
      have hev := evF4 (regW W s d 10) s r1 (drN d 10) 10
      refine (step_set (q := 3) (d := 7) (c := wC (regW W s d 10)) (c' := wC (regW W s d 10)) (e := .exit 4) (l := lR (drN d 10) 10) KT4_ok l0_ok (n0 := 2) (rest := [(0, boxA s), (1, r1)]) (ts := [2, 4, 5, 6, 9]) (fuel := 60) (st := ⟨3, mG (regW W s d 10) s r1⟩) hs hnb hnb rfl hrest (by omega) rfl (fun κ zs hz => hz) hev).less (less_slots fun p hp => ?_)
      obtain ⟨w1, w2, w3, w4⟩ := gR (drN d 10) 10
      simp only [lQ, List.mem_cons, List.not_mem_nil, or_false] at hp
      rcases hp with rfl | rfl | rfl | rfl
      · exact w1
      · exact w2
      · exact w3
      · exact w4)
    have hw : Weak nb (szOf Try.prog 68) E ⟨3, [(2, rw'), (0, ra), (1, r1)]⟩ (slots (lR (drN d 0) 0) (Env.mk 7)) ⟨3, mG (regW W s d 0) s r1⟩ := weak_pull _root_.id (fun _ _ => rfl) hnb (fun p hp κ z hz => by
      simp only [lR, lQ, List.cons_append, List.nil_append, List.mem_cons, List.not_mem_nil, or_false] at hp
      rcases hp with rfl | rfl | rfl | rfl | rfl
      · dsimp only at hz; rw [g2] at hz; exact VRel.pull_ptr rfl (by dsimp only; omega) hz
      · dsimp only at hz; rw [g4] at hz; exact VRel.pull_ptr rfl (by dsimp only; omega) hz
      · dsimp only at hz; rw [g5] at hz; exact VRel.pull_ptr rfl (by dsimp only; omega) hz
      · dsimp only at hz; rw [g6] at hz; exact VRel.pull rfl hz
      · dsimp only at hz; rw [g9] at hz; exact VRel.pull rfl hz) (fun q r2 hf => by
      have hp := find_mem _ _ _ hf
      simp only [mG, List.mem_cons, List.not_mem_nil, or_false, Prod.mk.injEq] at hp
      rcases hp with ⟨rfl, rfl⟩ | ⟨rfl, rfl⟩ | ⟨rfl, rfl⟩
      · exact ⟨_, rfl, hW _ _ _ (by dsimp only; omega), fun _ => ow⟩
      · exact ⟨_, rfl, hS _ _ _ (by dsimp only; omega), fun _ => os⟩
      · exact ⟨_, rfl, RowLe.same (by dsimp only; omega) c4, _root_.id⟩) (fun _ _ _ _ _ _ h => h)
    exact ⟨.exit 4, _, _, hkD, Nat.le_refl _, hl.weak hw⟩
  · cases hk
end Go.Sv
namespace Go.Sv
open Go.RowKit Go.Proofs
set_option linter.unusedSimpArgs false
set_option linter.unusedVariables false
/-! ### places -/
def lP (d : Int) (i : Nat) : List (Nat × AV) := lQ d ++ [(8, .int .i64 (Int.ofNat i))]
theorem gP (d : Int) (i : Nat) : (slots (lP d i) (Env.mk 7)).get 2 = .ptr 0 [] 0 ∧ (slots (lP d i) (Env.mk 7)).get 4 = .ptr 1 [] 0 ∧ (slots (lP d i) (Env.mk 7)).get 5 = .ptr 2 [] 0 ∧ (slots (lP d i) (Env.mk 7)).get 6 = .int .u64 d := by
  refine ⟨?_, ?_, ?_, ?_⟩ <;> kernel_rfl
def nP (d : Int) (i : Nat) : Env := (((((Env.mk 7).set 2 (.ptr 0 [] 0)).set 4 (.ptr 1 [] 0)).set 5 (.ptr 2 [] 0)).set 6 (.int .u64 d)).set 8 (.int .i64 (IntKind.i64.wrap (Int.ofNat (i + 1))))
theorem evF2 (W : Wd) (s : St) (r1 : Row) (d : Int) (i : Nat) : evCode Try.prog KT4 L0 (regB Try.prog) 60 68 (loopOf Try.prog 68 2) (slots (lP d i) (Env.mk 7)) ⟨3, mG W s r1⟩ (fun e E' st' => some (e, keepE E' [2, 4, 5, 6, 8] (Env.mk 7), ([2, 0, 1] : List Nat).map (find st'.mem))) =
  (bif decide (Int.ofNat i < 257) then bif okL (kf s.kn) s.kn.length [] && Nat.ble s.kn.length LIM then bif decide (Int.ofNat i < 257) then bif Nat.blt i 257 then
    some (.normal, nP d i, [some (.cells (wCU W [((Int.ofNat i).toNat, pc (plF (stL s) d i))] [] []) true false), some (boxA s), some r1])
  else none else none else none else some (.exit 2, slots (lP d i) (Env.mk 7), [some (boxW W), some (boxA s), some r1])) := by kernel_rfl
/-- The world behind the places' loop: the first place stays. -/
def plcW (W : Wd) (s : St) (d : Int) (i : Nat) : Wd := ⟨W.L, curG (fun j => bif Nat.beq j 0 then W.pl 0 else plF s d j) W.pl i, W.r, W.sl⟩
def fLoopF2 (R : Type) (E : Env) (st : AS) : Option ((EK → Env → AS → Option R) → Option R) :=
  some fun k => match E.get 2, E.get 4, E.get 5, E.get 6, E.get 8, st.mem with
  | .ptr 0 [] 0, .ptr 1 [] 0, .ptr 2 [] 0, .int .u64 d, .int .i64 i, [(0, ra), (1, r1), (2, rw)] => bif Nat.beq st.next 3 && decide (i = 1) && rowB r1 then rowW rw fun W => rowK ra fun s => bif Nat.ble s.kn.length LIM then
      k .normal (slots (lQ d) (Env.mk 7)) ⟨3, mG (plcW W s d 257) s r1⟩ else none else none
  | _, _, _, _, _, _ => none
theorem okLoopF2 : LoopFn Try.prog 68 2 fLoopF2 := fun R E st G h hs nb hnb k y hk => by
  unfold fLoopF2 at h
  simp only [Option.some.injEq] at h
  subst h
  dsimp only at hk
  split at hk
  · rename_i d i ra r1 rw' g2 g4 g5 g6 g8 hm
    obtain ⟨hc, hkA⟩ := cond_some hk
    clear hk
    simp only [Bool.and_eq_true, decide_eq_true_eq] at hc
    obtain ⟨⟨c1, c3⟩, c4⟩ := hc
    have d1 := Nat.eq_of_beq_eq_true c1
    clear c1
    obtain ⟨next, mem⟩ := st
    dsimp only at hm d1
    subst hm; subst d1; subst c3
    obtain ⟨W, hkB, ow, hW⟩ := rowW_ok hkA
    obtain ⟨s, hkC, os, hS⟩ := rowK_ok hkB
    obtain ⟨hlim, hkD⟩ := cond_some hkC
    have hrest : ([(0, boxA s), (1, r1)] : List (Nat × Row)).all (fun p => Nat.blt p.1 3 && rowB p.2) = true := by
      have h0 : rowB (boxA s) = true := rfl
      simp [h0, c4]
    have hl := loop_upd (nb := nb) (g := 68) (id := 2) (d := 7) (q := 3) 256 (fun i => lP d (i + 1)) (fun i => mG (plcW W s d (i + 1)) s r1) (lQ d) (mG (plcW W s d 257) s r1) (fun i hi => by
      have hev := evF2 (plcW W s d (i + 1)) s r1 d (i + 1)
      have hd : decide (Int.ofNat (i + 1) < 257) = true := decide_eq_true (by simp; omega)
      have hb : Nat.blt (i + 1) 257 = true := by simp; omega
      have hn : nP d (i + 1) = slots (lP d (i + 1 + 1)) (Env.mk 7) := by
        unfold nP
        rw [wrapNat (show i + 1 < 9223372036854775807 by omega)]; rfl
      rw [hd, hb, okL_kf, hlim, hn, stL_eq] at hev
      exact step_set (q := 3) (d := 7) (c := wCU (plcW W s d (i + 1)) [((Int.ofNat (i + 1)).toNat, pc (plF s d (i + 1)))] [] []) (c' := wC (plcW W s d (i + 1 + 1))) KT4_ok l0_ok (n0 := 2) (rest := [(0, boxA s), (1, r1)]) (ts := [2, 4, 5, 6, 8]) (fuel := 60) (st := ⟨3, mG (plcW W s d (i + 1)) s r1⟩) hs hnb hnb rfl hrest (by omega) rfl (fun κ zs hz => wCU_to (W := plcW W s d (i + 1)) (W' := plcW W s d (i + 1 + 1)) (u1 := [((Int.ofNat (i + 1)).toNat, pc (plF s d (i + 1)))]) (u3 := []) (u4 := []) rfl (fun j _ => by
        have h1 : (plcW W s d (i + 1 + 1)).pl j = bif Nat.beq j (i + 1) then plF s d (i + 1) else (plcW W s d (i + 1)).pl j := curG_succ (fun j => bif Nat.beq j 0 then W.pl 0 else plF s d j) W.pl (i + 1) j
        have h2 : elt [((Int.ofNat (i + 1)).toNat, pc (plF s d (i + 1)))] (fun i_1 => pc ((plcW W s d (i + 1)).pl i_1)) j = bif Nat.beq j (i + 1) then pc (plF s d (i + 1)) else pc ((plcW W s d (i + 1)).pl j) := rfl
        rw [h1, h2]
        cases Nat.beq j (i + 1) <;> rfl) (fun _ _ => rfl) (fun _ _ => rfl) hz) hev) (by
      have hev := evF2 (plcW W s d 257) s r1 d 257
      refine (step_set (q := 3) (d := 7) (c := wC (plcW W s d 257)) (c' := wC (plcW W s d 257)) (e := .exit 2) (l := lP d 257) KT4_ok l0_ok (n0 := 2) (rest := [(0, boxA s), (1, r1)]) (ts := [2, 4, 5, 6, 8]) (fuel := 60) (st := ⟨3, mG (plcW W s d 257) s r1⟩) hs hnb hnb rfl hrest (by omega) rfl (fun κ zs hz => hz) hev).less (less_slots fun p hp => ?_)
      obtain ⟨w1, w2, w3, w4⟩ := gP d 257
      simp only [lQ, List.mem_cons, List.not_mem_nil, or_false] at hp
      rcases hp with rfl | rfl | rfl | rfl
      · exact w1
      · exact w2
      · exact w3
      · exact w4)
    have hW0 : ∀ j, pc ((plcW W s d 1).pl j) = pc (W.pl j) := fun j => by
      show pc (bif Nat.blt j 1 then (bif Nat.beq j 0 then W.pl 0 else plF s d j) else W.pl j) = _
      match j with
      | 0 => rfl
      | j + 1 => rfl
    have hw : Weak nb (szOf Try.prog 68) E ⟨3, [(0, ra), (1, r1), (2, rw')]⟩ (slots (lP d 1) (Env.mk 7)) ⟨3, mG W s r1⟩ := weak_pull _root_.id (fun _ _ => rfl) hnb (fun p hp κ z hz => by
      simp only [lP, lQ, List.cons_append, List.nil_append, List.mem_cons, List.not_mem_nil, or_false] at hp
      rcases hp with rfl | rfl | rfl | rfl | rfl
      · dsimp only at hz; rw [g2] at hz; exact VRel.pull_ptr rfl (by dsimp only; omega) hz
      · dsimp only at hz; rw [g4] at hz; exact VRel.pull_ptr rfl (by dsimp only; omega) hz
      · dsimp only at hz; rw [g5] at hz; exact VRel.pull_ptr rfl (by dsimp only; omega) hz
      · dsimp only at hz; rw [g6] at hz; exact VRel.pull rfl hz
      · dsimp only at hz; rw [g8] at hz; exact VRel.pull rfl hz) (fun q r2 hf => by
      have hp := find_mem _ _ _ hf
      simp only [mG, List.mem_cons, List.not_mem_nil, or_false, Prod.mk.injEq] at hp
      rcases hp with ⟨rfl, rfl⟩ | ⟨rfl, rfl⟩ | ⟨rfl, rfl⟩
      · exact ⟨_, rfl, hW _ _ _ (by dsimp only; omega), fun _ => ow⟩
      · exact ⟨_, rfl, hS _ _ _ (by dsimp only; omega), fun _ => os⟩
      · exact ⟨_, rfl, RowLe.same (by dsimp only; omega) c4, _root_.id⟩) (fun _ _ _ _ _ _ h => h)
    have hw2 : Weak nb (szOf Try.prog 68) (slots (lP d 1) (Env.mk 7)) ⟨3, mG W s r1⟩ (slots (lP d 1) (Env.mk 7)) ⟨3, mG (plcW W s d 1) s r1⟩ := weak_pull _root_.id (fun _ _ => rfl) hnb (fun p hp κ z hz => by
      obtain ⟨w1, w2, w3, w4⟩ := gP d 1
      simp only [lP, lQ, List.cons_append, List.nil_append, List.mem_cons, List.not_mem_nil, or_false] at hp
      rcases hp with rfl | rfl | rfl | rfl | rfl
      · dsimp only at hz; rw [w1] at hz; exact VRel.pull_ptr rfl (by dsimp only; omega) hz
      · dsimp only at hz; rw [w2] at hz; exact VRel.pull_ptr rfl (by dsimp only; omega) hz
      · dsimp only at hz; rw [w3] at hz; exact VRel.pull_ptr rfl (by dsimp only; omega) hz
      · dsimp only at hz; rw [w4] at hz; exact VRel.pull rfl hz
      · dsimp only at hz
        have w5 : (slots (lP d 1) (Env.mk 7)).get 8 = .int .i64 (Int.ofNat 1) := by kernel_rfl
        rw [w5] at hz; exact VRel.pull rfl hz) (fun q r2 hf => by
      have hp := find_mem _ _ _ hf
      simp only [mG, List.mem_cons, List.not_mem_nil, or_false, Prod.mk.injEq] at hp
      rcases hp with ⟨rfl, rfl⟩ | ⟨rfl, rfl⟩ | ⟨rfl, rfl⟩
      · exact ⟨_, rfl, RowLe.told (by dsimp only; omega) rfl (fun κ zs hz => wCU_to (W := W) (W' := plcW W s d 1) (u1 := []) (u3 := []) (u4 := []) rfl (fun j _ => hW0 j) (fun _ _ => rfl) (fun _ _ => rfl) hz), fun _ => rfl⟩
      · exact ⟨_, rfl, RowLe.same (by dsimp only; omega) rfl, _root_.id⟩
      · exact ⟨_, rfl, RowLe.same (by dsimp only; omega) c4, _root_.id⟩) (fun _ _ _ _ _ _ h => h)
    exact ⟨.exit 2, _, _, hkD, Nat.le_refl _, (hl.weak hw2).weak hw⟩
  · cases hk

/-! ### slots -/
def lS (d : Int) (i : Nat) : List (Nat × AV) := lQ d ++ [(11, .int .i64 (Int.ofNat i))]
theorem gS (d : Int) (i : Nat) : (slots (lS d i) (Env.mk 7)).get 4 = .ptr 1 [] 0 ∧ (slots (lS d i) (Env.mk 7)).get 5 = .ptr 2 [] 0 := by
  refine ⟨?_, ?_⟩ <;> kernel_rfl
def nS (d : Int) (i : Nat) : Env := (((((Env.mk 7).set 2 (.ptr 0 [] 0)).set 4 (.ptr 1 [] 0)).set 5 (.ptr 2 [] 0)).set 6 (.int .u64 d)).set 11 (.int .i64 (IntKind.i64.wrap (Int.ofNat (i + 1))))
theorem evF7 (W : Wd) (s : St) (r1 : Row) (d : Int) (i : Nat) : evCode Try.prog KT4 L0 (regB Try.prog) 60 68 (loopOf Try.prog 68 7) (slots (lS d i) (Env.mk 7)) ⟨3, mG W s r1⟩ (fun e E' st' => some (e, keepE E' [2, 4, 5, 6, 11] (Env.mk 7), ([2, 0, 1] : List Nat).map (find st'.mem))) =
  (bif decide (Int.ofNat i < 8) then bif decide (Int.ofNat i < 8) then bif Nat.blt i 8 then bif okS (s.s i) then bif decide (Int.ofNat i < 8) then bif Nat.blt i 8 then
    some (.normal, nS (dr2 d) i, [some (.cells (wCU W [] [] [((Int.ofNat i).toNat, uc (picF (s.s i) (dr2 d)))]) true false), some (boxA s), some r1])
  else none else none else none else none else none else some (.exit 7, slots (lS d i) (Env.mk 7), [some (boxW W), some (boxA s), some r1])) := by kernel_rfl
def sltW (W : Wd) (s : St) (d : Int) (i : Nat) : Wd := ⟨W.L, W.pl, W.r, curG (fun j => picF (s.s j) (drN d (j + 1))) W.sl i⟩
def fLoopF7 (R : Type) (E : Env) (st : AS) : Option ((EK → Env → AS → Option R) → Option R) :=
  some fun k => match E.get 2, E.get 4, E.get 5, E.get 6, E.get 11, st.mem with
  | .ptr 0 [] 0, .ptr 1 [] 0, .ptr 2 [] 0, .int .u64 d, .int .i64 i, [(2, rw), (0, ra), (1, r1)] => bif Nat.beq st.next 3 && decide (i = 0) && rowB r1 then rowW rw fun W => rowK ra fun s => bif (List.range 8).all (fun i => okS (s.s i)) then
      k .normal (slots [(4, .ptr 1 [] 0), (5, .ptr 2 [] 0)] (Env.mk 7)) ⟨3, mG (sltW W s d 8) s r1⟩ else none else none
  | _, _, _, _, _, _ => none
theorem okLoopF7 : LoopFn Try.prog 68 7 fLoopF7 := fun R E st G h hs nb hnb k y hk => by
  unfold fLoopF7 at h
  simp only [Option.some.injEq] at h
  subst h
  dsimp only at hk
  split at hk
  · rename_i d i rw' ra r1 g2 g4 g5 g6 g9 hm
    obtain ⟨hc, hkA⟩ := cond_some hk
    clear hk
    simp only [Bool.and_eq_true, decide_eq_true_eq] at hc
    obtain ⟨⟨c1, c3⟩, c4⟩ := hc
    have d1 := Nat.eq_of_beq_eq_true c1
    clear c1
    obtain ⟨next, mem⟩ := st
    dsimp only at hm d1
    subst hm; subst d1; subst c3
    obtain ⟨W, hkB, ow, hW⟩ := rowW_ok hkA
    obtain ⟨s, hkC, os, hS⟩ := rowK_ok hkB
    obtain ⟨hok, hkD⟩ := cond_some hkC
    have hok : ∀ i, i < 8 → okS (s.s i) = true := fun i hi => List.all_eq_true.1 hok i (List.mem_range.2 hi)
    have hrest : ([(0, boxA s), (1, r1)] : List (Nat × Row)).all (fun p => Nat.blt p.1 3 && rowB p.2) = true := by
      have h0 : rowB (boxA s) = true := rfl
      simp [h0, c4]
    have hl := loop_upd (nb := nb) (g := 68) (id := 7) (d := 7) (q := 3) 8 (fun i => lS (drN d i) i) (fun i => mG (sltW W s d i) s r1) [(4, .ptr 1 [] 0), (5, .ptr 2 [] 0)] (mG (sltW W s d 8) s r1) (fun i hi => by
      have hev := evF7 (sltW W s d i) s r1 (drN d i) i
      have hd : decide (Int.ofNat i < 8) = true := decide_eq_true (by simp; omega)
      have hb : Nat.blt i 8 = true := by simp; omega
      have hn : nS (dr2 (drN d i)) i = slots (lS (drN d (i + 1)) (i + 1)) (Env.mk 7) := by
        unfold nS
        rw [wrapNat (show i < 9223372036854775807 by omega)]; rfl
      rw [hd, hb, hok i hi, hn] at hev
      exact step_set (q := 3) (d := 7) (c := wCU (sltW W s d i) [] [] [((Int.ofNat i).toNat, uc (picF (s.s i) (dr2 (drN d i))))]) (c' := wC (sltW W s d (i + 1))) KT4_ok l0_ok (n0 := 2) (rest := [(0, boxA s), (1, r1)]) (ts := [2, 4, 5, 6, 11]) (fuel := 60) (st := ⟨3, mG (sltW W s d i) s r1⟩) hs hnb hnb rfl hrest (by omega) rfl (fun κ zs hz => wCU_to (W := sltW W s d i) (W' := sltW W s d (i + 1)) (u1 := []) (u3 := []) (u4 := [((Int.ofNat i).toNat, uc (picF (s.s i) (dr2 (drN d i))))]) rfl (fun _ _ => rfl) (fun _ _ => rfl) (fun j _ => by
        have h1 : (sltW W s d (i + 1)).sl j = bif Nat.beq j i then picF (s.s i) (drN d (i + 1)) else (sltW W s d i).sl j := curG_succ (fun j => picF (s.s j) (drN d (j + 1))) W.sl i j
        have h2 : elt [((Int.ofNat i).toNat, uc (picF (s.s i) (dr2 (drN d i))))] (fun i_1 => uc ((sltW W s d i).sl i_1)) j = bif Nat.beq j i then uc (picF (s.s i) (dr2 (drN d i))) else uc ((sltW W s d i).sl j) := rfl
        rw [h1, h2]
        cases Nat.beq j i <;> rfl) hz) hev) (by
      have hev := evF7 (sltW W s d 8) s r1 (drN d 8) 8
      refine (step_set (q := 3) (d := 7) (c := wC (sltW W s d 8)) (c' := wC (sltW W s d 8)) (e := .exit 7) (l := lS (drN d 8) 8) KT4_ok l0_ok (n0 := 2) (rest := [(0, boxA s), (1, r1)]) (ts := [2, 4, 5, 6, 11]) (fuel := 60) (st := ⟨3, mG (sltW W s d 8) s r1⟩) hs hnb hnb rfl hrest (by omega) rfl (fun κ zs hz => hz) hev).less (less_slots fun p hp => ?_)
      obtain ⟨w1, w2⟩ := gS (drN d 8) 8
      simp only [List.mem_cons, List.not_mem_nil, or_false] at hp
      rcases hp with rfl | rfl
      · exact w1
      · exact w2)
    have hw : Weak nb (szOf Try.prog 68) E ⟨3, [(2, rw'), (0, ra), (1, r1)]⟩ (slots (lS (drN d 0) 0) (Env.mk 7)) ⟨3, mG (sltW W s d 0) s r1⟩ := weak_pull _root_.id (fun _ _ => rfl) hnb (fun p hp κ z hz => by
      simp only [lS, lQ, List.cons_append, List.nil_append, List.mem_cons, List.not_mem_nil, or_false] at hp
      rcases hp with rfl | rfl | rfl | rfl | rfl
      · dsimp only at hz; rw [g2] at hz; exact VRel.pull_ptr rfl (by dsimp only; omega) hz
      · dsimp only at hz; rw [g4] at hz; exact VRel.pull_ptr rfl (by dsimp only; omega) hz
      · dsimp only at hz; rw [g5] at hz; exact VRel.pull_ptr rfl (by dsimp only; omega) hz
      · dsimp only at hz; rw [g6] at hz; exact VRel.pull rfl hz
      · dsimp only at hz; rw [g9] at hz; exact VRel.pull rfl hz) (fun q r2 hf => by
      have hp := find_mem _ _ _ hf
      simp only [mG, List.mem_cons, List.not_mem_nil, or_false, Prod.mk.injEq] at hp
      rcases hp with ⟨rfl, rfl⟩ | ⟨rfl, rfl⟩ | ⟨rfl, rfl⟩
      · exact ⟨_, rfl, hW _ _ _ (by dsimp only; omega), fun _ => ow⟩
      · exact ⟨_, rfl, hS _ _ _ (by dsimp only; omega), fun _ => os⟩
      · exact ⟨_, rfl, RowLe.same (by dsimp only; omega) c4, _root_.id⟩) (fun _ _ _ _ _ _ h => h)
    exact ⟨.exit 7, _, _, hkD, Nat.le_refl _, hl.weak hw⟩
  · cases hk
def LT6 : LT := addL 68 0 fLoopF1 (addL 68 2 fLoopF2 (addL 68 4 fLoopF4 (addL 68 7 fLoopF7 L0)))
theorem LT6_ok : LOk Try.prog LT6 := addL_ok sprog_ok.1 (by kernel_rfl) okLoopF1 (addL_ok sprog_ok.1 (by kernel_rfl) okLoopF2 (addL_ok sprog_ok.1 (by kernel_rfl) okLoopF4 (addL_ok sprog_ok.1 (by kernel_rfl) okLoopF7 l0_ok)))
end Go.Sv
namespace Go.Sv
open Go.RowKit Go.Proofs
set_option linter.unusedSimpArgs false
set_option linter.unusedVariables false
def W00 : Wd := ⟨2048, fun _ => 0, fun _ => (0, 0, 0), fun _ => 0⟩
def fitX (s1 s2 s3 : St) (d : Int) : Wd := sltW (regW (plcW W00 s1 d 257) s2 d 10) s3 (drN d 10) 8
theorem evFit (s : St) (ns : List Int) (n : Nat) : evFn Try.prog KT4 LT6 (regB Try.prog) 60 68 [stA s, .lst 1 (uf ns) n []] ⟨0, []⟩ ret =
  (bif true && (okA uOk n (uf ns) [] && true) then bif true && okL (kf s.kn) s.kn.length [] then bif Nat.ble (stL s).kn.length LIM then bif true && okL (kf (stL s).kn) (stL s).kn.length [] then bif (List.range 10).all (fun i => okR ((stL (stL s)).r i)) then
    bif true && okL (kf (stL (stL s)).kn) (stL (stL s)).kn.length [] then bif (List.range 8).all (fun i => okS ((stL (stL (stL s))).s i)) then some (wA (fitX (stL s) (stL (stL s)) (stL (stL (stL s))) (drF (ul (uf ns) n []) 17 (min n 40))))
  else none else none else none else none else none else none else none) := by kernel_rfl
def fitW (s : St) (ns : List Int) : Wd := fitX s s s (drF ns 17 (min ns.length 40))
def okF (s : St) : Bool := Nat.ble s.kn.length LIM && ((List.range 10).all (fun i => okR (s.r i)) && (List.range 8).all (fun i => okS (s.s i)))
def fFit (R : Type) (vs : List AV) (k : AV → AS → Option R) : Option R :=
  match vs with
  | [x, .lst 1 f n us] => stK x fun s => bif okA uOk n f us && okF s then k (wA (fitW s (ul f n us))) ⟨0, []⟩ else none
  | _ => none
theorem ul_uf (ns : List Int) : ul (uf ns) ns.length [] = ns := by
  unfold ul
  refine List.ext_getElem (by simp) fun i h1 h2 => ?_
  simp [elt, uf, pOf, List.getD_eq_getElem?_getD, h2]
theorem okA_uf (ns : List Int) (n : Nat) : okA uOk n (uf ns) [] = true := List.all_eq_true.2 fun _ _ => rfl
theorem flat_wA (W : Wd) : FlatSt (wA W) ⟨0, []⟩ := ⟨fun x hx => by
  simp only [wC, List.mem_cons, List.not_mem_nil, or_false] at hx
  rcases hx with rfl | rfl | rfl | rfl
  · trivial
  · exact fun i _ x hx => by
      simp only [elt, pc, List.mem_cons, List.not_mem_nil, or_false] at hx
      subst hx; trivial
  · exact fun i _ x hx => by
      simp only [elt, rc, List.mem_cons, List.not_mem_nil, or_false] at hx
      rcases hx with rfl | rfl | rfl <;> trivial
  · exact fun i _ x hx => by
      simp only [elt, uc, List.mem_cons, List.not_mem_nil, or_false] at hx
      subst hx; trivial, fun p hp => by cases hp⟩
theorem okFit : FnOk Try.prog 68 fFit := fun R vs k r hr => by
  unfold fFit at hr
  split at hr
  · rename_i x f n us
    obtain ⟨s, hr, ha, hx⟩ := stK_ok hr
    obtain ⟨hc, hr⟩ := cond_some hr
    simp only [okF, Bool.and_eq_true] at hc
    obtain ⟨c1, c2, c3, c4⟩ := hc
    have hlen := ul_len (f := f) (n := n) (us := us)
    refine ⟨_, _, hr, flat_wA _, (fn_plain sprog_ok.1 sprog_ok.2 KT4_ok LT6_ok (fuel := 60) (vs := [stA s, .lst 1 (uf (ul f n us)) n []]) rfl rfl ((evFit s (ul f n us) n).trans ?_)).args fun κ ys hc => ?_⟩
    · have hu : ul (uf (ul f n us)) n [] = ul f n us := by
        have := ul_uf (ul f n us)
        rwa [hlen] at this
      simp only [okA_uf, okL_kf, stL_eq, c2, c3, c4, hu, Bool.and_self, cond_true]
      unfold fitW
      rw [hlen]
    · obtain ⟨u, us', rfl, r1, r2⟩ := hc.head ha
      exact CRel.append (xs := [_]) (ys := [u]) (hx κ _ r1) (r2.last (fun y hy => VRel.lst_told (fun i hi => uf_ul c1 hi) hy) rfl)
  · cases hr
def hasT7 : FuncId → Bool := addHas 68 hasT4
def specT7 : SpecT := addS 68 fFit specT4
theorem specT7_ok : SpecOk Try.prog hasT7 specT7 := addS_ok okFit specT4_ok
def KT7 : KT := orK (specK hasT7 specT7) K0
theorem KT7_ok : KOk Try.prog KT7 := orK_ok (specK_ok specT7_ok) k0_ok
end Go.Sv
namespace Go.Sv
open Go.RowKit Go.Proofs
set_option linter.unusedSimpArgs false
set_option linter.unusedVariables false
theorem SoundFn.eqv {g : FuncId} {vs : List AV} {t t' : St} {e : Int} (h : SoundFn Try.prog g vs ⟨0, []⟩ (oSt t e) (oAS t)) (q : Eqv t t') : SoundFn Try.prog g vs ⟨0, []⟩ (oSt t' e) (oAS t') := by
  have hA : oAS t' = oAS t := by unfold oAS; rw [q.kn]
  rw [hA]
  refine h.told fun κ y hy => ?_
  cases hy with
  | tup _ zs h1 h2 =>
    obtain ⟨u, us, rfl, r1, r2⟩ := h1.head rfl
    refine .tup _ _ (CRel.append (xs := [_]) (ys := [u]) ?_ r2) h2
    unfold stR at r1 ⊢
    rw [← q.kn]
    exact VRel.agg_ext (fun _ hz => CRel.arr_ext (fun i hi => by show vc (t'.r i) = vc (t.r i); rw [q.r i hi]) (fun _ hz => CRel.arr_ext (fun i hi => by show sc (t'.s i) = sc (t.s i); rw [q.s i hi]) (fun _ h => h) hz) hz) r1
theorem okA_vc (r : Nat → Vw) : okA vOk 10 (fun i => vc (r i)) [] = true := List.all_eq_true.2 fun _ _ => rfl
theorem okA_sc (s : Nat → Int × Int) : okA sOk 8 (fun i => sc (s i)) [] = true := List.all_eq_true.2 fun _ _ => rfl
theorem stK_stA {R : Type} (t : St) (k : St → Option R) : stK (stA t) k = k t := by
  have h : stK (stA t) k = bif okA vOk 10 (fun i => vc (t.r i)) [] && okA sOk 8 (fun i => sc (t.s i)) [] && okL (kf t.kn) t.kn.length [] then k (stL t) else none := rfl
  rw [h, okA_vc, okA_sc, okL_kf, stL_eq]; rfl
def fV2 (F : St → St → St × Int) (t : St) (e : Int) (R : Type) (vs : List AV) (k : AV → AS → Option R) : Option R :=
  match vs with
  | [x, y] => stK x fun a => stK y fun b => bif samT (F a b).1 t && (F a b).2 == e then k (oSt t e) (oAS t) else none
  | _ => none
theorem fV2_ok {g : FuncId} {F : St → St → St × Int} (h : FnOk Try.prog g (fS2 F)) (t : St) (e : Int) : FnOk Try.prog g (fV2 F t e) := fun R vs k r hr => by
  unfold fV2 at hr
  split at hr
  · rename_i x y
    obtain ⟨a, hr, ha, hx⟩ := stK_ok hr
    obtain ⟨b, hr, hb, hy⟩ := stK_ok hr
    obtain ⟨hc, hr⟩ := cond_some hr
    simp only [Bool.and_eq_true, beq_iff_eq] at hc
    obtain ⟨c1, c2⟩ := hc
    subst c2
    obtain ⟨v, st', h1, _, h2⟩ := h (AV × AS) [stA a, stA b] (fun v st => some (v, st)) (oSt (F a b).1 (F a b).2, oAS (F a b).1) (by
      show stK (stA a) (fun a => stK (stA b) fun b => some (oSt (F a b).1 (F a b).2, oAS (F a b).1)) = _
      rw [stK_stA, stK_stA])
    simp only [Option.some.injEq, Prod.mk.injEq] at h1
    obtain ⟨rfl, rfl⟩ := h1
    exact ⟨_, _, hr, flat_st, (SoundFn.eqv h2 (samT_iff.1 c1)).args fun κ ys hc => st_two ha hb (hx κ) (hy κ) hc⟩
  · cases hr
def fV1 (F : St → St × Int) (t : St) (R : Type) (vs : List AV) (k : AV → AS → Option R) : Option R :=
  match vs with
  | [x] => stK x fun a => bif samT (F a).1 t && (F a).2 == 0 then k (oSt t 0) (oAS t) else none
  | _ => none
theorem fV1_ok {g : FuncId} {F : St → St × Int} (h : FnOk Try.prog g (fS1 F)) (t : St) : FnOk Try.prog g (fV1 F t) := fun R vs k r hr => by
  unfold fV1 at hr
  split at hr
  · rename_i x
    obtain ⟨a, hr, ha, hx⟩ := stK_ok hr
    obtain ⟨hc, hr⟩ := cond_some hr
    simp only [Bool.and_eq_true, beq_iff_eq] at hc
    obtain ⟨c1, c2⟩ := hc
    obtain ⟨v, st', h1, _, h2⟩ := h (AV × AS) [stA a] (fun v st => some (v, st)) (oSt (F a).1 (F a).2, oAS (F a).1) (by
      show stK (stA a) (fun a => some (oSt (F a).1 (F a).2, oAS (F a).1)) = _
      rw [stK_stA])
    simp only [Option.some.injEq, Prod.mk.injEq] at h1
    obtain ⟨rfl, rfl⟩ := h1
    rw [c2] at h2
    exact ⟨_, _, hr, flat_st, (SoundFn.eqv h2 (samT_iff.1 c1)).args fun κ ys hc => hc.last (hx κ) ha⟩
  · cases hr
def fVM (t : St) (R : Type) (vs : List AV) (k : AV → AS → Option R) : Option R :=
  match vs with
  | [x, .int .i64 reg, .int .i64 at1] => stK x fun a => bif samT (mdeR a reg at1).1 t && (mdeR a reg at1).2 == 0 then k (oSt t 0) (oAS t) else none
  | _ => none
theorem fVM_ok {g : FuncId} (h : FnOk Try.prog g fMde) (t : St) : FnOk Try.prog g (fVM t) := fun R vs k r hr => by
  unfold fVM at hr
  split at hr
  · rename_i x reg at1
    obtain ⟨a, hr, ha, hx⟩ := stK_ok hr
    obtain ⟨hc, hr⟩ := cond_some hr
    simp only [Bool.and_eq_true, beq_iff_eq] at hc
    obtain ⟨c1, c2⟩ := hc
    obtain ⟨v, st', h1, _, h2⟩ := h (AV × AS) [stA a, .int .i64 reg, .int .i64 at1] (fun v st => some (v, st)) (oSt (mdeR a reg at1).1 (mdeR a reg at1).2, oAS (mdeR a reg at1).1) (by
      show stK (stA a) (fun a => some (oSt (mdeR a reg at1).1 (mdeR a reg at1).2, oAS (mdeR a reg at1).1)) = _
      rw [stK_stA])
    simp only [Option.some.injEq, Prod.mk.injEq] at h1
    obtain ⟨rfl, rfl⟩ := h1
    rw [c2] at h2
    exact ⟨_, _, hr, flat_st, (SoundFn.eqv h2 (samT_iff.1 c1)).args fun κ ys hc => hc.cons_map (fun y hy => hx κ y hy) (fun _ h => h) ha⟩
  · cases hr
def hasT8 : FuncId → Bool := addHas 52 (addHas 57 (addHas 59 (addHas 61 hasT7)))
def specT8 (s : St) (e : Int) (m c d : St) : SpecT := addS 52 (fV2 joiR s e) (addS 57 (fV1 movR m) (addS 59 (fV1 calR c) (addS 61 (fVM d) specT7)))
theorem specT8_ok (s : St) (e : Int) (m c d : St) : SpecOk Try.prog hasT8 (specT8 s e m c d) := addS_ok (fV2_ok okTJoi1 s e) (addS_ok (fV1_ok okMoved1 m) (addS_ok (fV1_ok okCalled1 c) (addS_ok (fVM_ok okMade1 d) specT7_ok)))
def KT8 (s : St) (e : Int) (m c d : St) : KT := orK (specK hasT8 (specT8 s e m c d)) K0
theorem KT8_ok (s : St) (e : Int) (m c d : St) : KOk Try.prog (KT8 s e m c d) := orK_ok (specK_ok (specT8_ok s e m c d)) k0_ok
end Go.Sv
namespace Go.Sv
open Go.RowKit Go.Proofs
set_option linter.unusedSimpArgs false
set_option linter.unusedVariables false
def uCond (a b : St) (u : Bool) : Bool := chkB a && chkB b && (undT a b == u)
def fUV (u : Bool) (R : Type) (vs : List AV) (k : AV → AS → Option R) : Option R :=
  match vs with
  | [x, y] => stK x fun a => stK y fun b => bif uCond a b u then k (.tup [.bool u, .int .i64 0]) ⟨0, []⟩ else none
  | _ => none
theorem fUV_ok (u : Bool) : FnOk Try.prog 50 (fUV u) := fun R vs k r hr => by
  unfold fUV at hr
  split at hr
  · rename_i x y
    obtain ⟨a, hr, ha, hx⟩ := stK_ok hr
    obtain ⟨b, hr, hb, hy⟩ := stK_ok hr
    obtain ⟨hc, hr⟩ := cond_some hr
    simp only [uCond, Bool.and_eq_true, beq_iff_eq] at hc
    obtain ⟨⟨c1, c2⟩, c3⟩ := hc
    obtain ⟨v, st', h1, _, h2⟩ := okUnd1 (AV × AS) [stA a, stA b] (fun v st => some (v, st)) (.tup [.bool u, .int .i64 0], ⟨0, []⟩) (by
      show stK (stA a) (fun a => stK (stA b) fun b => some (AV.tup [.bool (undR a b).1, .int .i64 (undR a b).2], (⟨0, []⟩ : AS))) = _
      rw [stK_stA, stK_stA, undR_of c1 c2, c3])
    simp only [Option.some.injEq, Prod.mk.injEq] at h1
    obtain ⟨rfl, rfl⟩ := h1
    exact ⟨_, _, hr, ⟨fun x hx => by
      simp only [List.mem_cons, List.not_mem_nil, or_false] at hx
      rcases hx with rfl | rfl <;> trivial, fun p hp => by cases hp⟩, h2.args fun κ ys hc => st_two ha hb (hx κ) (hy κ) hc⟩
  · cases hr
def hasT9 : FuncId → Bool := addHas 50 hasT8
def specT9 (s : St) (m c d : St) (u : Bool) : SpecT := addS 50 (fUV u) (specT8 s 0 m c d)
theorem specT9_ok (s : St) (m c d : St) (u : Bool) : SpecOk Try.prog hasT9 (specT9 s m c d u) := addS_ok (fUV_ok u) (specT8_ok s 0 m c d)
def KT9 (s : St) (m c d : St) (u : Bool) : KT := orK (specK hasT9 (specT9 s m c d u)) K0
theorem KT9_ok (s : St) (m c d : St) (u : Bool) : KOk Try.prog (KT9 s m c d u) := orK_ok (specK_ok (specT9_ok s m c d u)) k0_ok
def gd (c : Bool) (x : Option AV) : Option AV := bif c then x else none
def ft (c : Bool) (x : Option AV) : Option AV := bif c then some (.bool false) else x
def okK (t : St) : Bool := true && okL (kf t.kn) t.kn.length []
def wL (W : Wd) : Wd := ⟨W.L, fun i => pOf (elt [] (fun i => pc (W.pl i)) i), fun i => rOfW (elt [] (fun i => rc (W.r i)) i), fun i => pOf (elt [] (fun i => uc (W.sl i)) i)⟩
theorem wL_eq (W : Wd) : wL W = W := rfl
def fA (a : St) (ns : List Int) : Wd := fitW (stL a) (ul (uf ns) ns.length [])
def okN7 (a : St) (ns : List Int) : Bool := okA uOk ns.length (uf ns) [] && okF (stL a)
def w1 (W : Wd) (N : Int) : Wd := ⟨W.L, fun i => pOf (elt [] (fun i => pc (W.pl i)) i), fun i => rOfW (elt [(5, rc (0, 0, 0)), (4, rc (0, 0, 0)), (3, rc (0, 0, 0)), (2, rc (0, 0, 0)), (1, rc (0, 0, 0)), (0, rc (1, N, 0))] (fun i => rc (W.r i)) i), fun i => pOf (elt [] (fun i => uc (W.sl i)) i)⟩
def w2 (W : Wd) (r : Int) : Wd := ⟨W.L, fun i => pOf (elt [(8, pc 3)] (fun i => pc (W.pl i)) i), fun i => rOfW (elt [(r.toNat, rc (2, 3, 0))] (fun i => rc (W.r i)) i), fun i => pOf (elt [] (fun i => uc (W.sl i)) i)⟩
def tailT (a b s m c d : St) (ns : List Int) : Option AV :=
  gd (Nat.ble m.kn.length m.kn.length) <| gd (okK m) <| gd (idT (stL m)) <| ft (bif false then true else !holW7 (wL (fA a ns)) (stL m)) <| gd (okK a) <| gd (okN7 a ns) <| gd (decide (Int.ofNat ns.length % 10 < 10)) <| gd (Nat.blt (Int.ofNat ns.length % 10).toNat 10) <|
  gd (Nat.ble c.kn.length c.kn.length) <| gd (okK c) <| gd (idT (stL c)) <| bif holW7 (w1 (fA a ns) (IntKind.u64.wrap (Int.ofNat ns.length))) (stL c) then
    gd (Nat.ble d.kn.length d.kn.length) <| gd (true && okA wrOk 10 (fun i => rc ((fA a ns).r i)) [((Int.ofNat ns.length % 10).toNat, rc (2, 3, 0))] && true) <| gd (okK d) <| gd (idT (stL d)) <| some (.bool (bif true then holW7 (w2 (fA a ns) (Int.ofNat ns.length % 10)) (stL d) else false))
  else some (.bool false)
def treeT (a b s m c d : St) (u : Bool) (ns : List Int) : Option AV :=
  gd (okK a) <| gd (okK b) <| gd (samT (joiR (stL a) (stL b)).1 s && (joiR (stL a) (stL b)).2 == 0) <| gd (okK a) <| gd (okN7 a ns) <| gd (okK b) <| gd (okN7 b ns) <|
  gd (okK a) <| gd (idT (stL a)) <| ft (!holW7 (wL (fA a ns)) (stL a)) <| gd (okK b) <| gd (idT (stL b)) <| ft (bif false then true else !holW7 (wL (fA b ns)) (stL b)) <|
  gd (Nat.ble s.kn.length s.kn.length) <| gd (okK s) <| gd (idT (stL s)) <| ft (bif false then true else !holW7 (wL (fA a ns)) (stL s)) <| gd (Nat.ble s.kn.length s.kn.length) <| gd (okK s) <| gd (idT (stL s)) <| ft (bif false then true else !holW7 (wL (fA b ns)) (stL s)) <|
  gd (okK a) <| gd (okK b) <| gd (uCond (stL a) (stL b) u) <| gd (okK a) <| gd (samT (calR (stL a)).1 c && (calR (stL a)).2 == 0) <| gd (okK a) <| gd (samT (movR (stL a)).1 m && (movR (stL a)).2 == 0) <| gd (okK a) <| gd (samT (mdeR (stL a) (Int.ofNat ns.length % 10) 7).1 d && (mdeR (stL a) (Int.ofNat ns.length % 10) 7).2 == 0) <|
  bif u then gd (okK b) <| gd (idT (stL b)) <| ft (bif false then true else bif true then !holW7 (wL (fA a ns)) (stL b) else false) <| tailT a b s m c d ns else tailT a b s m c d ns
theorem evTrue (a b s m c d : St) (u : Bool) (ns : List Int) : evFn Try.prog (KT9 s m c d u) L0 (regB Try.prog) 100 16 [stA a, stA b, .lst 1 (uf ns) ns.length []] ⟨0, []⟩ ret = treeT a b s m c d u ns := by kernel_rfl
end Go.Sv
