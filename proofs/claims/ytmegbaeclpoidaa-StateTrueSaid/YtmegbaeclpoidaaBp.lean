/- The evaluator and the contracts that the walk leans on, part Bp: S4, P5, P6, S5. -/
import Derived.Test.YtmegbaeclpoidaaBo
namespace Go.Sv
open Go.RowKit Go.Proofs
set_option linter.unusedSimpArgs false
set_option linter.unusedVariables false
def chkB (t : St) : Bool := (chkL t).all id && chkE t.kn == 0
def chkI (t : St) : Int := bif chkB t then 0 else 2
structure ChkOk (t : St) : Prop where
  r : ∀ i, i < 10 → mayF (t.r i) = true
  s : ∀ i, i < 8 → sOkB (t.s i) = true
  kn : chkE t.kn = 0
theorem sChk_zero (s : Int × Int) : (sChk s == 0) = sOkB s := chk_zero s.1 s.2
theorem chkB_iff {t : St} : chkB t = true ↔ ChkOk t := by
  unfold chkB chkL
  simp only [List.all_append, Bool.and_eq_true, List.all_map, List.all_eq_true, List.mem_range, beq_iff_eq, Function.comp, id, sChk_zero]
  have e : ∀ i, (sChk (t.s i) = 0) ↔ sOkB (t.s i) = true := fun i => by
    rw [← sChk_zero]; simp
  constructor
  · rintro ⟨⟨h1, h2⟩, h3⟩
    exact ⟨h1, fun i hi => (e i).1 (by first | exact h2 i hi | exact (e i).2 (h2 i hi)), h3⟩
  · intro h
    exact ⟨⟨h.r, fun i hi => by first | exact (e i).2 (h.s i hi) | exact h.s i hi⟩, h.kn⟩
def fTChk (R : Type) (vs : List AV) (k : AV → AS → Option R) : Option R :=
  match vs with
  | [x] => stK x fun t => k (.int .i64 (chkI t)) ⟨0, []⟩
  | _ => none
theorem fTChk_ok {g : FuncId} (h : ∀ t : St, evFn Try.prog KS3 L0 (regB Try.prog) 60 g [stA t] ⟨0, []⟩ ret = ifs (chkL t) (some (.int .i64 2)) (bif okL (kf t.kn) t.kn.length [] then bif chkE (kl (kf t.kn) t.kn.length []) != 0 then some (.int .i64 2) else some (.int .i64 0) else none)) : FnOk Try.prog g fTChk := fun R vs k r hr => by
  unfold fTChk at hr
  split at hr
  · rename_i x
    obtain ⟨t, hk, ha, hv⟩ := stK_ok hr
    refine ⟨_, _, hk, ⟨trivial, fun p hp => by cases hp⟩, SoundFn.args (vs' := [stA t]) (fn_plain sprog_ok.1 sprog_ok.2 KS3_ok l0_ok (fuel := 60) rfl rfl ?_) fun κ ys hy => hy.last (hv κ) ha⟩
    rw [h, ifs_eq, okL_kf, kl_kf]
    unfold chkI chkB
    cases (chkL t).all id with
    | false => rfl
    | true =>
      simp only [cond_true, Bool.true_and]
      have : (chkE t.kn != 0) = !(chkE t.kn == 0) := rfl
      rw [this]
      cases (chkE t.kn == 0) <;> rfl
  · cases hr
theorem okTChk1 : FnOk Try.prog 46 fTChk := fTChk_ok evTChk1
theorem okTChk2 : FnOk Try.prog 47 fTChk := fTChk_ok evTChk2
def hasS4 : FuncId → Bool := addHas 46 (addHas 47 hasS3)
def specS4 : SpecT := addS 46 fTChk (addS 47 fTChk specS3)
theorem specS4_ok : SpecOk Try.prog hasS4 specS4 := addS_ok okTChk1 (addS_ok okTChk2 specS3_ok)
def KS4 : KT := orK (specK hasS4 specS4) KX
theorem KS4_ok : KOk Try.prog KS4 := orK_ok (specK_ok specS4_ok) KX_ok
end Go.Sv
namespace Go.Sv
open Go.RowKit Go.Proofs
set_option linter.unusedSimpArgs false
set_option linter.unusedVariables false

def joiT (a b : St) : St := ⟨fun i => comF (a.r i) (b.r i), fun i => sJoi (a.s i) (b.s i), (joiF a.kn b.kn).1⟩
def undK (a b : List (Int × Int)) : Bool := b.all fun k => !decide (bytF k.1 a < k.2)
def undT (a b : St) : Bool := (List.range 10).all (fun i => sayV (a.r i) (b.r i)) && ((List.range 8).all (fun i => sUnd (a.s i) (b.s i)) && undK a.kn b.kn)
def samT (a b : St) : Bool := (List.range 10).all (fun i => vEq (a.r i) (b.r i)) && ((List.range 8).all (fun i => sEq (a.s i) (b.s i)) && samE a.kn b.kn)

/-! ### values -/
theorem vEq_iff {v w : Vw} : vEq v w = true ↔ v = w := by
  obtain ⟨a, b, c, d, e⟩ := v
  obtain ⟨a2, b2, c2, d2, e2⟩ := w
  simp only [vEq, Bool.and_eq_true, beq_iff_eq, Bool.and_true, Vw.mk.injEq]
  constructor
  · rintro ⟨h1, ⟨h2, h3⟩, h4, h5⟩; exact ⟨h1, h2, h3, h4, h5⟩
  · rintro ⟨h1, h2, h3, h4, h5⟩; exact ⟨h1, ⟨h2, h3⟩, h4, h5⟩
theorem vEq_self (v : Vw) : vEq v v = true := vEq_iff.2 rfl
theorem sEq_iff {s t : Int × Int} : sEq s t = true ↔ s = t := by
  obtain ⟨a, b⟩ := s
  obtain ⟨c, d⟩ := t
  simp only [sEq, Bool.and_eq_true, beq_iff_eq, Bool.and_true, Prod.mk.injEq]
theorem may_num {v : Vw} (h : mayF v = true) (hk : v.k = 1) : v.i = 0 ∧ v.o = 0 ∧ v.a ≤ v.b := by
  unfold mayF at h
  rw [hk] at h
  have h1 : ((v.i == 0 && v.o == 0) && !decide (v.a > v.b)) = true := h
  simp only [Bool.and_eq_true, beq_iff_eq, Bool.not_eq_true', decide_eq_false_iff_not] at h1
  omega
theorem num_may {v : Vw} (hk : v.k = 1) (hi : v.i = 0) (ho : v.o = 0) (h : v.a ≤ v.b) : mayF v = true := by
  unfold mayF
  rw [hk, hi, ho]
  have : decide (v.a > v.b) = false := decide_eq_false (by omega)
  rw [this]; rfl
theorem may_none {v : Vw} (h : mayF v = true) (hk : v.k = 0) : v = v0 := by
  obtain ⟨k, a, b, i, o⟩ := v
  dsimp only at hk
  subst hk
  have h1 : zB ⟨0, a, b, i, o⟩ = true := h
  simp only [zB, Bool.and_eq_true, beq_iff_eq, Bool.and_true] at h1
  obtain ⟨⟨h1, h2⟩, h3, h4⟩ := h1
  subst h1; subst h2; subst h3; subst h4; rfl
theorem may_v0 : mayF v0 = true := rfl
theorem sayV_iff {v w : Vw} : sayV v w = true ↔ w.k = 0 ∨ (v.k = 1 ∧ w.k = 1 ∧ w.a ≤ v.a ∧ v.b ≤ w.b) ∨ v = w := by
  unfold sayV
  by_cases h0 : w.k = 0
  · have : (w.k == 0) = true := by rw [h0]; rfl
    rw [this]; simp [h0]
  · have e0 : (w.k == 0) = false := by simpa using h0
    rw [e0]
    simp only [cond_false]
    by_cases h1 : v.k = 1 ∧ w.k = 1
    · have e1 : (v.k == 1 && w.k == 1) = true := by rw [h1.1, h1.2]; rfl
      rw [e1]
      simp only [cond_true, Bool.and_eq_true, decide_eq_true_eq, ge_iff_le]
      constructor
      · rintro ⟨h2, h3⟩; exact .inr (.inl ⟨h1.1, h1.2, h2, h3⟩)
      · rintro (h | ⟨_, _, h2, h3⟩ | h)
        · exact absurd h h0
        · exact ⟨h2, h3⟩
        · subst h; omega
    · have e1 : (v.k == 1 && w.k == 1) = false := by
        cases hc : (v.k == 1 && w.k == 1) with
        | false => rfl
        | true => simp only [Bool.and_eq_true, beq_iff_eq] at hc; exact absurd hc h1
      rw [e1]
      simp only [cond_false, vEq_iff]
      constructor
      · intro h; exact .inr (.inr h)
      · rintro (h | ⟨h2, h3, _⟩ | h)
        · exact absurd h h0
        · exact absurd ⟨h2, h3⟩ h1
        · exact h
theorem com_cases {v w : Vw} (hv : mayF v = true) (hw : mayF w = true) : (v.k = 1 ∧ w.k = 1 ∧ comF v w = ⟨1, min v.a w.a, max v.b w.b, 0, 0⟩) ∨ (v = w ∧ comF v w = v) ∨ (v ≠ w ∧ ¬ (v.k = 1 ∧ w.k = 1) ∧ comF v w = v0) := by
  unfold comF
  by_cases h : v = w
  · subst h
    rw [vEq_self]
    exact .inr (.inl ⟨rfl, rfl⟩)
  · have e : vEq v w = false := by
      cases hc : vEq v w with
      | false => rfl
      | true => exact absurd (vEq_iff.1 hc) h
    rw [e, cond_false]
    by_cases h1 : v.k = 1 ∧ w.k = 1
    · have e1 : (v.k == 1 && w.k == 1) = true := by rw [h1.1, h1.2]; rfl
      rw [e1, cond_true]
      refine .inl ⟨h1.1, h1.2, ?_⟩
      unfold vJoi
      have m1 : (bif decide (w.a < v.a) then w.a else v.a) = min v.a w.a := by
        by_cases h : w.a < v.a
        · rw [decide_eq_true h, cond_true]; omega
        · rw [decide_eq_false h, cond_false]; omega
      have m2 : (bif decide (w.b > v.b) then w.b else v.b) = max v.b w.b := by
        by_cases h : w.b > v.b
        · rw [decide_eq_true h, cond_true]; omega
        · rw [decide_eq_false h, cond_false]; omega
      rw [m1, m2]
    · have e1 : (v.k == 1 && w.k == 1) = false := by
        cases hc : (v.k == 1 && w.k == 1) with
        | false => rfl
        | true => simp only [Bool.and_eq_true, beq_iff_eq] at hc; exact absurd hc h1
      rw [e1, cond_false]
      exact .inr (.inr ⟨h, h1, rfl⟩)
theorem com_may {v w : Vw} (hv : mayF v = true) (hw : mayF w = true) : mayF (comF v w) = true := by
  rcases com_cases hv hw with ⟨h1, h2, h3⟩ | ⟨h1, h3⟩ | ⟨_, _, h3⟩
  · rw [h3]
    obtain ⟨_, _, a1⟩ := may_num hv h1
    obtain ⟨_, _, a2⟩ := may_num hw h2
    exact num_may rfl rfl rfl (by dsimp only; omega)
  · rw [h3]; exact hv
  · rw [h3]; rfl
theorem comR_eq {v w : Vw} (hv : mayF v = true) (hw : mayF w = true) : comR v w = comF v w := by
  by_cases h1 : v.k = 1 ∧ w.k = 1
  · have e1 : (v.k == 1 && w.k == 1) = true := by rw [h1.1, h1.2]; rfl
    have hR : comR v w = vJoi v w := by unfold comR; rw [e1]; rfl
    rw [hR]
    unfold comF
    cases hc : vEq v w with
    | false => rw [e1]; rfl
    | true =>
      have := vEq_iff.1 hc
      subst this
      obtain ⟨a1, a2, a3⟩ := may_num hv h1.1
      obtain ⟨k, a, b, i, o⟩ := v
      dsimp only at h1 a1 a2
      obtain ⟨h1, _⟩ := h1
      subst h1; subst a1; subst a2
      unfold vJoi
      simp
  · have e1 : (v.k == 1 && w.k == 1) = false := by
      cases hc : (v.k == 1 && w.k == 1) with
      | false => rfl
      | true => simp only [Bool.and_eq_true, beq_iff_eq] at hc; exact absurd hc h1
    unfold comR comF
    rw [e1]
    cases vEq v w <;> rfl
theorem say_refl (v : Vw) : sayV v v = true := sayV_iff.2 (.inr (.inr rfl))
theorem say_trans {u v w : Vw} (h1 : sayV u v = true) (h2 : sayV v w = true) : sayV u w = true := by
  rcases sayV_iff.1 h2 with h | ⟨k1, k2, a, b⟩ | h
  · exact sayV_iff.2 (.inl h)
  · rcases sayV_iff.1 h1 with g | ⟨l1, l2, c, d⟩ | g
    · omega
    · exact sayV_iff.2 (.inr (.inl ⟨l1, k2, by omega, by omega⟩))
    · subst g; exact h2
  · subst h; exact h1
theorem say_anti {v w : Vw} (hv : mayF v = true) (hw : mayF w = true) (h1 : sayV v w = true) (h2 : sayV w v = true) : v = w := by
  rcases sayV_iff.1 h1 with h | ⟨k1, k2, a, b⟩ | h
  · rcases sayV_iff.1 h2 with g | ⟨l1, l2, c, d⟩ | g
    · rw [may_none hv g, may_none hw h]
    · omega
    · exact g.symm
  · rcases sayV_iff.1 h2 with g | ⟨l1, l2, c, d⟩ | g
    · omega
    · obtain ⟨a1, a2, _⟩ := may_num hv k1
      obtain ⟨b1, b2, _⟩ := may_num hw k2
      obtain ⟨k, a, b, i, o⟩ := v
      obtain ⟨k', a', b', i', o'⟩ := w
      dsimp only at *
      simp only [Vw.mk.injEq]
      omega
    · exact g.symm
  · exact h
theorem say_com1 {v w : Vw} (hv : mayF v = true) (hw : mayF w = true) : sayV v (comF v w) = true := by
  rcases com_cases hv hw with ⟨h1, h2, h3⟩ | ⟨h1, h3⟩ | ⟨_, _, h3⟩
  · rw [h3]; exact sayV_iff.2 (.inr (.inl ⟨h1, rfl, by dsimp only; omega, by dsimp only; omega⟩))
  · rw [h3]; exact say_refl v
  · rw [h3]; exact sayV_iff.2 (.inl rfl)
theorem say_com2 {v w : Vw} (hv : mayF v = true) (hw : mayF w = true) : sayV w (comF v w) = true := by
  rcases com_cases hv hw with ⟨h1, h2, h3⟩ | ⟨h1, h3⟩ | ⟨_, _, h3⟩
  · rw [h3]; exact sayV_iff.2 (.inr (.inl ⟨h2, rfl, by dsimp only; omega, by dsimp only; omega⟩))
  · rw [h3, h1]; exact say_refl w
  · rw [h3]; exact sayV_iff.2 (.inl rfl)
theorem say_glb {v w x : Vw} (hv : mayF v = true) (hw : mayF w = true) (h1 : sayV v x = true) (h2 : sayV w x = true) : sayV (comF v w) x = true := by
  by_cases h0 : x.k = 0
  · exact sayV_iff.2 (.inl h0)
  by_cases hx : x.k = 1
  · have b1 : v.k = 1 ∧ x.a ≤ v.a ∧ v.b ≤ x.b := by
      rcases sayV_iff.1 h1 with h | ⟨k1, k2, a, b⟩ | h
      · omega
      · exact ⟨k1, a, b⟩
      · subst h; exact ⟨hx, by omega, by omega⟩
    have b2 : w.k = 1 ∧ x.a ≤ w.a ∧ w.b ≤ x.b := by
      rcases sayV_iff.1 h2 with h | ⟨k1, k2, a, b⟩ | h
      · omega
      · exact ⟨k1, a, b⟩
      · subst h; exact ⟨hx, by omega, by omega⟩
    rcases com_cases hv hw with ⟨_, _, h3⟩ | ⟨_, h3⟩ | ⟨_, h, _⟩
    · rw [h3]; exact sayV_iff.2 (.inr (.inl ⟨rfl, hx, by dsimp only; omega, by dsimp only; omega⟩))
    · rw [h3]; exact h1
    · exact absurd ⟨b1.1, b2.1⟩ h
  · have e1 : v = x := by
      rcases sayV_iff.1 h1 with h | ⟨k1, k2, _⟩ | h
      · exact absurd h h0
      · exact absurd k2 hx
      · exact h
    have e2 : w = x := by
      rcases sayV_iff.1 h2 with h | ⟨k1, k2, _⟩ | h
      · exact absurd h h0
      · exact absurd k2 hx
      · exact h
    subst e1; subst e2
    unfold comF
    rw [vEq_self]; exact h1

/-! ### spans -/
theorem sUnd_iff {s t : Int × Int} : sUnd s t = true ↔ t.1 ≤ s.1 ∧ s.2 ≤ t.2 := by
  unfold sUnd
  simp only [Bool.and_eq_true, decide_eq_true_eq, ge_iff_le]
theorem sOkB_iff {s : Int × Int} : sOkB s = true ↔ s.1 ≤ s.2 := by
  unfold sOkB
  simp only [Bool.not_eq_true', decide_eq_false_iff_not]
  omega
theorem sJoi_eq (s t : Int × Int) : sJoi s t = (min s.1 t.1, max s.2 t.2) := by
  unfold sJoi
  have m1 : (bif decide (t.1 < s.1) then t.1 else s.1) = min s.1 t.1 := by
    by_cases h : t.1 < s.1
    · rw [decide_eq_true h, cond_true]; omega
    · rw [decide_eq_false h, cond_false]; omega
  have m2 : (bif decide (t.2 > s.2) then t.2 else s.2) = max s.2 t.2 := by
    by_cases h : t.2 > s.2
    · rw [decide_eq_true h, cond_true]; omega
    · rw [decide_eq_false h, cond_false]; omega
  rw [m1, m2]

/-! ### lists of what is known -/
theorem chkE_zero {X : List (Int × Int)} (h : chkE X = 0) : X.length ≤ 257 ∧ chkF (-1) X = true := chkE_ok (by rw [h]; rfl)
theorem eqL_eq : ∀ {a b : List (Int × Int)}, a.length = b.length → (eqL a b = true ↔ a = b)
  | [], [], _ => by simp [eqL]
  | x :: a, [], h => by simp at h
  | [], y :: b, h => by simp at h
  | x :: a, y :: b, h => by
    have ih := eqL_eq (a := a) (b := b) (by simpa using h)
    obtain ⟨x1, x2⟩ := x
    obtain ⟨y1, y2⟩ := y
    simp only [eqL, Bool.and_eq_true, beq_iff_eq, List.cons.injEq, Prod.mk.injEq, ih, Bool.and_true]
theorem samE_iff {a b : List (Int × Int)} : samE a b = true ↔ a = b := by
  unfold samE
  simp only [Bool.and_eq_true, decide_eq_true_eq]
  constructor
  · rintro ⟨h1, h2⟩; exact (eqL_eq h1).1 h2
  · intro h; subst h; exact ⟨rfl, (eqL_eq rfl).2 rfl⟩
theorem undK_iff {a b : List (Int × Int)} (ha : chkF (-1) a = true) (hb : chkF (-1) b = true) : undK a b = true ↔ ∀ j, bytF j b ≤ bytF j a := by
  unfold undK
  simp only [List.all_eq_true, Bool.not_eq_true', decide_eq_false_iff_not]
  have bb := chk_book hb
  constructor
  · intro h j
    by_cases hj : j ∈ b.map (·.1)
    · have := h _ (bytF_mem hj)
      dsimp only at this
      omega
    · rw [bytF_zero hj]; exact (bytF_le ha j).1
  · intro h p hp
    have := h p.1
    rw [bytF_of_mem bb.nodup hp] at this
    omega
theorem joi_byt {X Y : List (Int × Int)} (hx : chkE X = 0) (hy : chkE Y = 0) : chkE (joiF X Y).1 = 0 ∧ (joiF X Y).2 = 0 ∧ ∀ j, bytF j (joiF X Y).1 = min (bytF j X) (bytF j Y) := by
  obtain ⟨_, x2⟩ := chkE_zero hx
  obtain ⟨_, y2⟩ := chkE_zero hy
  have e : joiF X Y = (canF fun j => min (bytF j X) (bytF j Y), 0) := by
    unfold joiF
    rw [hx, hy]; rfl
  rw [e]
  refine ⟨can_chkE (g := fun j => min (bytF j X) (bytF j Y)) fun j => by have := bytF_le x2 j; omega, rfl, fun j => ?_⟩
  have h1 := bytF_le x2 j
  have h2 := bytF_le y2 j
  dsimp only
  rw [bytF_can]
  by_cases hj : idB j = true
  · by_cases hp : min (bytF j X) (bytF j Y) > 0
    · rw [if_pos ⟨hj, hp⟩]
    · rw [if_neg (fun h => hp h.2)]; omega
  · rw [if_neg (fun h => hj h.1)]
    have : bytF j X = 0 := by
      refine bytF_zero fun hm => hj ?_
      exact ((chk_book x2).ok _ (bytF_mem hm)).1
    omega
theorem byt_ext {X Y : List (Int × Int)} (hx : chkF (-1) X = true) (hy : chkF (-1) Y = true) (h : ∀ j, bytF j X = bytF j Y) : X = Y := by
  rw [← can_chk hx, ← can_chk hy, funext h]

/-! ### states -/
structure Eqv (a b : St) : Prop where
  r : ∀ i, i < 10 → a.r i = b.r i
  s : ∀ i, i < 8 → a.s i = b.s i
  kn : a.kn = b.kn
theorem samT_iff {a b : St} : samT a b = true ↔ Eqv a b := by
  unfold samT
  simp only [Bool.and_eq_true, List.all_eq_true, List.mem_range, vEq_iff, sEq_iff, samE_iff]
  exact ⟨fun h => ⟨h.1, h.2.1, h.2.2⟩, fun h => ⟨h.r, h.s, h.kn⟩⟩
theorem samT_self (a : St) : samT a a = true := samT_iff.2 ⟨fun _ _ => rfl, fun _ _ => rfl, rfl⟩
structure Und (a b : St) : Prop where
  r : ∀ i, i < 10 → sayV (a.r i) (b.r i) = true
  s : ∀ i, i < 8 → sUnd (a.s i) (b.s i) = true
  kn : ∀ j, bytF j b.kn ≤ bytF j a.kn
theorem undT_iff {a b : St} (ha : ChkOk a) (hb : ChkOk b) : undT a b = true ↔ Und a b := by
  unfold undT
  simp only [Bool.and_eq_true, List.all_eq_true, List.mem_range, undK_iff (chkE_zero ha.kn).2 (chkE_zero hb.kn).2]
  exact ⟨fun h => ⟨h.1, h.2.1, h.2.2⟩, fun h => ⟨h.r, h.s, h.kn⟩⟩
theorem Und.refl (a : St) : Und a a := ⟨fun i _ => say_refl _, fun i _ => sUnd_iff.2 ⟨by omega, by omega⟩, fun j => by omega⟩
theorem Und.trans {a b c : St} (h1 : Und a b) (h2 : Und b c) : Und a c :=
  ⟨fun i hi => say_trans (h1.r i hi) (h2.r i hi), fun i hi => by
    have := sUnd_iff.1 (h1.s i hi); have := sUnd_iff.1 (h2.s i hi); exact sUnd_iff.2 ⟨by omega, by omega⟩, fun j => by
    have := h1.kn j; have := h2.kn j; omega⟩
theorem Und.anti {a b : St} (ha : ChkOk a) (hb : ChkOk b) (h1 : Und a b) (h2 : Und b a) : Eqv a b :=
  ⟨fun i hi => say_anti (ha.r i hi) (hb.r i hi) (h1.r i hi) (h2.r i hi), fun i hi => by
    have := sUnd_iff.1 (h1.s i hi); have := sUnd_iff.1 (h2.s i hi); exact Prod.ext (by omega) (by omega),
    byt_ext (chkE_zero ha.kn).2 (chkE_zero hb.kn).2 fun j => by have := h1.kn j; have := h2.kn j; omega⟩
theorem Eqv.und {a b : St} (h : Eqv a b) : Und a b :=
  ⟨fun i hi => by rw [h.r i hi]; exact say_refl _, fun i hi => by rw [h.s i hi]; exact sUnd_iff.2 ⟨by omega, by omega⟩, fun j => by rw [h.kn]; omega⟩
theorem Eqv.symm {a b : St} (h : Eqv a b) : Eqv b a := ⟨fun i hi => (h.r i hi).symm, fun i hi => (h.s i hi).symm, h.kn.symm⟩
theorem joiT_chk {a b : St} (ha : ChkOk a) (hb : ChkOk b) : ChkOk (joiT a b) :=
  ⟨fun i hi => com_may (ha.r i hi) (hb.r i hi), fun i hi => by
    have := sOkB_iff.1 (ha.s i hi); have := sOkB_iff.1 (hb.s i hi)
    show sOkB (sJoi (a.s i) (b.s i)) = true
    rw [sJoi_eq]
    exact sOkB_iff.2 (by dsimp only; omega), (joi_byt ha.kn hb.kn).1⟩
theorem und_joi1 {a b : St} (ha : ChkOk a) (hb : ChkOk b) : Und a (joiT a b) :=
  ⟨fun i hi => say_com1 (ha.r i hi) (hb.r i hi), fun i hi => by
    show sUnd (a.s i) (sJoi (a.s i) (b.s i)) = true
    rw [sJoi_eq]; exact sUnd_iff.2 ⟨by dsimp only; omega, by dsimp only; omega⟩, fun j => by
    show bytF j (joiF a.kn b.kn).1 ≤ _
    rw [(joi_byt ha.kn hb.kn).2.2 j]; omega⟩
theorem und_joi2 {a b : St} (ha : ChkOk a) (hb : ChkOk b) : Und b (joiT a b) :=
  ⟨fun i hi => say_com2 (ha.r i hi) (hb.r i hi), fun i hi => by
    show sUnd (b.s i) (sJoi (a.s i) (b.s i)) = true
    rw [sJoi_eq]; exact sUnd_iff.2 ⟨by dsimp only; omega, by dsimp only; omega⟩, fun j => by
    show bytF j (joiF a.kn b.kn).1 ≤ _
    rw [(joi_byt ha.kn hb.kn).2.2 j]; omega⟩
theorem joi_glb {a b c : St} (ha : ChkOk a) (hb : ChkOk b) (h1 : Und a c) (h2 : Und b c) : Und (joiT a b) c :=
  ⟨fun i hi => say_glb (ha.r i hi) (hb.r i hi) (h1.r i hi) (h2.r i hi), fun i hi => by
    have := sUnd_iff.1 (h1.s i hi); have := sUnd_iff.1 (h2.s i hi)
    show sUnd (sJoi (a.s i) (b.s i)) (c.s i) = true
    rw [sJoi_eq]; exact sUnd_iff.2 ⟨by dsimp only; omega, by dsimp only; omega⟩, fun j => by
    show _ ≤ bytF j (joiF a.kn b.kn).1
    have := h1.kn j; have := h2.kn j
    rw [(joi_byt ha.kn hb.kn).2.2 j]; omega⟩
theorem joi_comm {a b : St} (ha : ChkOk a) (hb : ChkOk b) : Eqv (joiT a b) (joiT b a) :=
  Und.anti (joiT_chk ha hb) (joiT_chk hb ha) (joi_glb ha hb (und_joi2 hb ha) (und_joi1 hb ha)) (joi_glb hb ha (und_joi2 ha hb) (und_joi1 ha hb))
theorem joi_self {a : St} (ha : ChkOk a) : Eqv (joiT a a) a := Und.anti (joiT_chk ha ha) ha (joi_glb ha ha (.refl a) (.refl a)) (und_joi1 ha ha)
theorem joi_again {a b : St} (ha : ChkOk a) (hb : ChkOk b) : Eqv (joiT (joiT a b) a) (joiT a b) :=
  Und.anti (joiT_chk (joiT_chk ha hb) ha) (joiT_chk ha hb) (joi_glb (joiT_chk ha hb) ha (.refl _) (und_joi1 ha hb)) (und_joi1 (joiT_chk ha hb) ha)
theorem und_sam {a b : St} (ha : ChkOk a) (hb : ChkOk b) : undT a b = samT (joiT a b) b := by
  have h : undT a b = true ↔ samT (joiT a b) b = true := by
    rw [undT_iff ha hb, samT_iff]
    exact ⟨fun h => Und.anti (joiT_chk ha hb) hb (joi_glb ha hb h (.refl b)) (und_joi2 ha hb), fun h => (und_joi1 ha hb).trans h.und⟩
  cases h1 : undT a b <;> cases h2 : samT (joiT a b) b <;> simp_all
theorem und_both {a b : St} (ha : ChkOk a) (hb : ChkOk b) : (undT a b && undT b a) = samT a b := by
  have h : (undT a b && undT b a) = true ↔ samT a b = true := by
    rw [Bool.and_eq_true, undT_iff ha hb, undT_iff hb ha, samT_iff]
    exact ⟨fun h => Und.anti ha hb h.1 h.2, fun h => ⟨h.und, h.symm.und⟩⟩
  cases h1 : (undT a b && undT b a) <;> cases h2 : samT a b <;> simp_all
end Go.Sv
namespace Go.Sv
open Go.RowKit Go.Proofs
set_option linter.unusedSimpArgs false
set_option linter.unusedVariables false

def movV (v : Vw) : Vw := bif v.k == 2 || v.k == 3 then v0 else v
def movT (t : St) : St := ⟨fun i => movV (t.r i), t.s, []⟩
def allV : Vw := ⟨1, 0, 18446744073709551615, 0, 0⟩
def calT (t : St) : St := ⟨fun i => bif Nat.beq i 0 then allV else bif Nat.blt i 6 then v0 else t.r i, t.s, t.kn⟩
def mdeV (id : Int) (v : Vw) : Vw := bif v.k == 2 && v.i == id then v0 else v
def ptrV (id : Int) : Vw := ⟨2, 0, 0, id, 0⟩
def mdeT (t : St) (reg : Nat) (id : Int) : St := ⟨fun i => bif Nat.beq i reg then ptrV id else mdeV id (t.r i), t.s, (frgF t.kn id).1⟩

theorem mov_may {v : Vw} (h : mayF v = true) : mayF (movV v) = true := by
  unfold movV
  cases (v.k == 2 || v.k == 3)
  · exact h
  · rfl
theorem mov_say {v w : Vw} (h : sayV v w = true) : sayV (movV v) (movV w) = true := by
  rcases sayV_iff.1 h with g | ⟨g1, g2, _⟩ | g
  · refine sayV_iff.2 (.inl ?_)
    unfold movV
    rw [g]
    exact g
  · have e1 : movV v = v := by unfold movV; rw [g1]; rfl
    have e2 : movV w = w := by unfold movV; rw [g2]; rfl
    rw [e1, e2]; exact h
  · subst g; exact say_refl _
theorem mde_may {id : Int} {v : Vw} (h : mayF v = true) : mayF (mdeV id v) = true := by
  unfold mdeV
  cases (v.k == 2 && v.i == id)
  · exact h
  · rfl
theorem mde_say {id : Int} {v w : Vw} (h : sayV v w = true) : sayV (mdeV id v) (mdeV id w) = true := by
  rcases sayV_iff.1 h with g | ⟨g1, g2, _⟩ | g
  · refine sayV_iff.2 (.inl ?_)
    unfold mdeV
    rw [g]
    exact g
  · have e1 : mdeV id v = v := by unfold mdeV; rw [g1]; rfl
    have e2 : mdeV id w = w := by unfold mdeV; rw [g2]; rfl
    rw [e1, e2]; exact h
  · subst g; exact say_refl _
theorem all_may : mayF allV = true := rfl
theorem ptr_may {id : Int} (h : idB id = true) : mayF (ptrV id) = true := by
  show ptrB 2 0 0 id 0 = true
  unfold ptrB
  rw [h]; rfl
theorem movT_chk {t : St} (h : ChkOk t) : ChkOk (movT t) := ⟨fun i hi => mov_may (h.r i hi), h.s, rfl⟩
theorem movT_und {a b : St} (ha : ChkOk a) (h : Und a b) : Und (movT a) (movT b) := ⟨fun i hi => mov_say (h.r i hi), h.s, fun j => Int.le_refl _⟩
theorem calT_chk {t : St} (h : ChkOk t) : ChkOk (calT t) := ⟨fun i hi => by
  show mayF (bif Nat.beq i 0 then allV else bif Nat.blt i 6 then v0 else t.r i) = true
  cases Nat.beq i 0
  · cases Nat.blt i 6
    · exact h.r i hi
    · rfl
  · rfl, h.s, h.kn⟩
theorem calT_und {a b : St} (h : Und a b) : Und (calT a) (calT b) := ⟨fun i hi => by
  show sayV (bif Nat.beq i 0 then allV else bif Nat.blt i 6 then v0 else a.r i) (bif Nat.beq i 0 then allV else bif Nat.blt i 6 then v0 else b.r i) = true
  cases Nat.beq i 0
  · cases Nat.blt i 6
    · exact h.r i hi
    · rfl
  · rfl, h.s, h.kn⟩
theorem frg_byt {X : List (Int × Int)} (hx : chkE X = 0) {id : Int} (hi : idB id = true) : chkE (frgF X id).1 = 0 ∧ (frgF X id).2 = 0 ∧ ∀ j, bytF j (frgF X id).1 = if j = id then 0 else bytF j X := by
  obtain ⟨_, x2⟩ := chkE_zero hx
  have e : frgF X id = (canF fun j => if j = id then 0 else bytF j X, 0) := by
    unfold frgF
    rw [hx, hi]; rfl
  rw [e]
  refine ⟨can_chkE (g := fun j => if j = id then 0 else bytF j X) fun j => by have := bytF_le x2 j; split <;> omega, rfl, fun j => ?_⟩
  dsimp only
  rw [bytF_can]
  have h1 := bytF_le x2 j
  by_cases he : j = id
  · rw [if_pos he, if_neg (fun h => by have := h.2; omega)]
  · rw [if_neg he]
    by_cases hj : idB j = true
    · by_cases hp : bytF j X > 0
      · rw [if_pos ⟨hj, hp⟩]
      · rw [if_neg (fun h => hp h.2)]; omega
    · rw [if_neg (fun h => hj h.1)]
      have : bytF j X = 0 := by
        refine bytF_zero fun hm => hj ?_
        exact ((chk_book x2).ok _ (bytF_mem hm)).1
      omega
theorem mdeT_chk {t : St} {reg : Nat} {id : Int} (h : ChkOk t) (hi : idB id = true) : ChkOk (mdeT t reg id) := ⟨fun i hl => by
  show mayF (bif Nat.beq i reg then ptrV id else mdeV id (t.r i)) = true
  cases Nat.beq i reg
  · exact mde_may (h.r i hl)
  · exact ptr_may hi, h.s, (frg_byt h.kn hi).1⟩
theorem mdeT_und {a b : St} {reg : Nat} {id : Int} (ha : ChkOk a) (hb : ChkOk b) (hi : idB id = true) (h : Und a b) : Und (mdeT a reg id) (mdeT b reg id) := ⟨fun i hl => by
  show sayV (bif Nat.beq i reg then ptrV id else mdeV id (a.r i)) (bif Nat.beq i reg then ptrV id else mdeV id (b.r i)) = true
  cases Nat.beq i reg
  · exact mde_say (h.r i hl)
  · exact say_refl _, h.s, fun j => by
  show bytF j (frgF b.kn id).1 ≤ bytF j (frgF a.kn id).1
  rw [(frg_byt ha.kn hi).2.2 j, (frg_byt hb.kn hi).2.2 j]
  have := h.kn j
  split <;> omega⟩
end Go.Sv
namespace Go.Sv
open Go.RowKit Go.Proofs
set_option linter.unusedSimpArgs false
set_option linter.unusedVariables false

/-! ### states handed back -/
theorem CRel.arr_to {κ κ' : Kap} (hl : κ.nl.le κ'.nl) {w n : Nat} {f g : Nat → List AV} {us vs : List (Nat × List AV)} {xs xs' : List AV} {ys : List Value} (he : ∀ i, i < n → elt vs g i = elt us f i) (hx : ∀ ys, CRel κ xs ys → CRel κ' xs' ys) (r : CRel κ (.arr w n f us :: xs) ys) : CRel κ' (.arr w n g vs :: xs') ys := by
  cases r with
  | arr _ _ _ _ zs h1 h2 h3 h4 h5 h6 => exact .arr w n g vs zs h1 h2 (fun i hi => by rw [he i hi]; exact h3 i hi) (fun i hi => by rw [he i hi]; exact (h4 i hi).mono hl) h5 (hx _ h6)
theorem CRel.last_to {κ κ' : Kap} {x x' : AV} {ys : List Value} (hx : ∀ y, VRel κ x y → VRel κ' x' y) (ha : isArr x = false) (r : CRel κ [x] ys) : CRel κ' [x'] ys := by
  obtain ⟨u, us, rfl, r1, r2⟩ := r.head ha
  cases r2
  exact hx _ r1
theorem VRel.st_to {κ κ' : Kap} (hl : κ.nl.le κ'.nl) {t : St} {f g : Nat → List AV} {us vs : List (Nat × List AV)} {z : AV} {y : Value} (hr : ∀ i, i < 10 → elt us f i = vc (t.r i)) (hs : ∀ i, i < 8 → elt vs g i = sc (t.s i)) (ha : isArr z = false)
    (hz : ∀ y, VRel κ z y → VRel κ' (.slc 0 [] 0 0 2 t.kn.length t.kn.length) y) (h : VRel κ (.agg [.arr 5 10 f us, .arr 2 8 g vs, z]) y) : VRel κ' (stR t) y := by
  cases h with
  | agg _ zs h1 h2 => exact .agg _ zs (CRel.arr_to hl (fun i hi => (hr i hi).symm) (fun _ h => CRel.arr_to hl (fun i hi => (hs i hi).symm) (fun _ h => CRel.last_to hz ha h) h) h1) .nil
theorem rng_map {α : Type} {n : Nat} {f g : Nat → α} (h : (List.range n).map f = (List.range n).map g) : ∀ i, i < n → f i = g i := fun i hi => List.map_inj_left.1 h i (List.mem_range.2 hi)
def zRow (st : AS) (z : AV) : Option Row :=
  match z with
  | .slc q _ _ _ _ _ _ => find st.mem q
  | _ => none
/-- What is handed back, told part by part. -/
def kTJ (v : AV) (st : AS) : Option (List (List AV) × List (List AV) × AV × Int × Option Row) :=
  match v with
  | .tup [.agg [.arr 5 10 f us, .arr 2 8 g vs, z], .int .i64 e] => some ((List.range 10).map (elt us f), (List.range 8).map (elt vs g), z, e, zRow st z)
  | _ => none
theorem kTJ_inv {v : AV} {st : AS} {R S : List (List AV)} {z : AV} {e : Int} {o : Option Row} (h : kTJ v st = some (R, S, z, e, o)) : ∃ f us g vs, v = .tup [.agg [.arr 5 10 f us, .arr 2 8 g vs, z], .int .i64 e] ∧ (List.range 10).map (elt us f) = R ∧ (List.range 8).map (elt vs g) = S ∧ zRow st z = o := by
  unfold kTJ at h
  split at h
  · rename_i f us g vs z e
    simp only [Option.some.injEq, Prod.mk.injEq] at h
    obtain ⟨rfl, rfl, rfl, rfl, rfl⟩ := h
    exact ⟨f, us, g, vs, rfl, rfl, rfl, rfl⟩
  · cases h
/-- Nothing is known of the packet, by no list at all. -/
def zTJ (t : St) (e : Int) : Option (List (List AV) × List (List AV) × AV × Int × Option Row) := some ((List.range 10).map fun i => vc (t.r i), (List.range 8).map fun i => sc (t.s i), .raw (.slice none 0 0), e, none)
/-- What is known of the packet lies in a row. -/
def oTJ (q : Nat) (t : St) (e : Int) : Option (List (List AV) × List (List AV) × AV × Int × Option Row) := some ((List.range 10).map fun i => vc (t.r i), (List.range 8).map fun i => sc (t.s i), .slc q [] 0 0 2 t.kn.length t.kn.length, e, some (rOf t.kn))
def oSt (t : St) (e : Int) : AV := .tup [stR t, .int .i64 e]
def oAS (t : St) : AS := ⟨1, [(0, rOf t.kn)]⟩
theorem SoundFn.zTJ {g : FuncId} {vs : List AV} {t : St} {e : Int} {K : KT} {L : LT} {fuel : Nat} (hK : KOk Try.prog K) (hL : LOk Try.prog L) (ha : vs.all (fun x => !isArr x) = true) (hk : t.kn = []) (h : evFn Try.prog K L (regB Try.prog) fuel g vs ⟨0, []⟩ kTJ = Sv.zTJ t e) :
    SoundFn Try.prog g vs ⟨0, []⟩ (oSt t e) (oAS t) := by
  obtain ⟨v, st1, hv, _, hs⟩ := evFn_ok sprog_ok.1 hK hL (regB_ok sprog_ok.1 sprog_ok.2) ha h
  obtain ⟨f, us, g', vs', rfl, h1, h2, _⟩ := kTJ_inv hv
  have hs0 : SoundFn Try.prog g vs ⟨0, []⟩ (.tup [.agg [.arr 5 10 f us, .arr 2 8 g' vs', .raw (.slice none 0 0)], .int .i64 e]) ⟨0, []⟩ := hs.pull (st2 := ⟨0, []⟩) id (fun κ y r => by
    cases r with
    | tup _ zs h3 h4 =>
      obtain ⟨u, us, rfl, r1, r2⟩ := h3.head rfl
      cases r1 with
      | agg _ zs h5 h6 => exact .tup _ _ (CRel.append (xs := [_]) (ys := [_]) (.agg _ zs (CRel.arr_to (κ.pull_nl id 0) (fun _ _ => rfl) (fun _ h => CRel.arr_to (κ.pull_nl id 0) (fun _ _ => rfl) (fun _ h => CRel.noNm (κ.pull_nl id 0) rfl h) h) h5) .nil) (CRel.noNm (κ.pull_nl id 0) rfl r2)) .nil) (fun n r2 h => by simp [find] at h) (fun n n' r r' h => by simp [find] at h)
  intro κ us' w hl hR
  refine (hs0 κ us' w hl hR).mono fun en w' he => ?_
  obtain ⟨κ1, v', hle, rfl, hv, hR', hF⟩ := he
  have hn : κ1.loc 0 = none := hR'.fresh 0 (Nat.le_refl _)
  obtain ⟨m1, m2⟩ := hR'.mem.new0 hn (c := [.arr 2 0 (kf []) []]) arr_none true true
  have hM : (Mem.set (find []) 0 (some (.cells [.arr 2 0 (kf []) []] true true))) = find [(0, rOf [])] := by
    funext x
    simp only [find, Mem.set, rOf]
    by_cases e : x = 0
    · subst e; rfl
    · rw [if_neg e, beq_false (Ne.symm e)]; rfl
  change MRel _ (Mem.set (find []) 0 _) w' at m1
  change Fr κ1 (find []) w' _ (Mem.set (find []) 0 _) w' at m2
  rw [hM] at m1 m2
  unfold oAS
  rw [hk]
  refine ⟨κ1.at 0 none, v', ⟨fun n hn => by simp at hn, fun b cs h => hle.st b cs h, hle.gh, fun b s h => hle.sz b s h⟩, rfl, ?_, ⟨fun n hge => ?_, m1⟩, hF.trans m2⟩
  · cases hv with
    | tup _ zs h3 h4 =>
      obtain ⟨u, us, rfl, r1, r2⟩ := h3.head rfl
      refine .tup _ _ (CRel.append (xs := [_]) (ys := [u]) ?_ (r2.mono (Kap.at_le hn))) .nil
      refine VRel.st_to ((Kap.at_le hn).nl) (rng_map h1) (rng_map h2) rfl (fun y hy => ?_) r1
      rw [hk]
      cases hy with
      | raw _ hn' => cases hn'; exact .slc0 0 0 0 2 [] Kap.at_same .nil
  · rw [Kap.at_ne (by dsimp only at hge; omega)]; exact hR'.fresh n (Nat.zero_le _)
theorem SoundFn.oTJ {g : FuncId} {vs : List AV} {t : St} {e : Int} {q : Nat} {K : KT} {L : LT} {fuel : Nat} (hK : KOk Try.prog K) (hL : LOk Try.prog L) (ha : vs.all (fun x => !isArr x) = true) (h : evFn Try.prog K L (regB Try.prog) fuel g vs ⟨0, []⟩ kTJ = Sv.oTJ q t e) :
    SoundFn Try.prog g vs ⟨0, []⟩ (oSt t e) (oAS t) := by
  obtain ⟨v, st1, hv, _, hs⟩ := evFn_ok sprog_ok.1 hK hL (regB_ok sprog_ok.1 sprog_ok.2) ha h
  obtain ⟨f, us, g', vs', rfl, h1, h2, h3⟩ := kTJ_inv hv
  refine hs.pull (st2 := oAS t) (fun _ => q) (fun κ y hy => ?_) (fun n r2 hn => ?_) (fun n n' r r' h1 h2 _ => ?_)
  · cases hy with
    | tup _ zs h3 h4 =>
      obtain ⟨u, us, rfl, r1, r2⟩ := h3.head rfl
      exact .tup _ _ (CRel.append (xs := [_]) (ys := [u]) (VRel.st_to (κ.pull_nl (fun _ => q) 1) (rng_map h1) (rng_map h2) rfl (fun y hy => VRel.pull_slc rfl (Nat.zero_lt_one) hy) r1) (CRel.noNm (κ.pull_nl (fun _ => q) 1) rfl r2)) .nil
  · have hp := List.mem_singleton.1 (find_mem _ _ _ hn)
    simp only [Prod.mk.injEq] at hp
    obtain ⟨rfl, rfl⟩ := hp
    exact ⟨_, h3, RowLe.arr (by dsimp only [oAS]; omega) id (fun _ _ => rfl), id⟩
  · have hp := List.mem_singleton.1 (find_mem _ _ _ h1)
    have hp' := List.mem_singleton.1 (find_mem _ _ _ h2)
    simp only [Prod.mk.injEq] at hp hp'
    rw [hp.1, hp'.1]
theorem flat_st {t : St} {e : Int} : FlatSt (oSt t e) (oAS t) := ⟨fun x hx => by
  simp only [List.mem_cons, List.not_mem_nil, or_false] at hx
  rcases hx with rfl | rfl
  · intro x hx
    simp only [List.mem_cons, List.not_mem_nil, or_false] at hx
    rcases hx with rfl | rfl | rfl
    · exact fun i _ x hx => by
        simp only [elt, vc, List.mem_cons, List.not_mem_nil, or_false] at hx
        rcases hx with rfl | rfl | rfl | rfl | rfl <;> trivial
    · exact fun i _ x hx => by
        simp only [elt, sc, List.mem_cons, List.not_mem_nil, or_false] at hx
        rcases hx with rfl | rfl <;> trivial
    · trivial
  · trivial, fun p hp => by rw [List.mem_singleton.1 hp]; exact flat_kf rfl⟩
/-- One more result: a state and a number. -/
def fS2 (F : St → St → St × Int) (R : Type) (vs : List AV) (k : AV → AS → Option R) : Option R :=
  match vs with
  | [x, y] => stK x fun a => stK y fun b => k (oSt (F a b).1 (F a b).2) (oAS (F a b).1)
  | _ => none
theorem st_two {κ : Kap} {x y : AV} {a b : St} {ys : List Value} (h1 : isArr x = false) (h2 : isArr y = false) (hx : ∀ z, VRel κ x z → VRel κ (stA a) z) (hy : ∀ z, VRel κ y z → VRel κ (stA b) z) (r : CRel κ [x, y] ys) : CRel κ [stA a, stA b] ys := by
  obtain ⟨u, us, rfl, r1, r2⟩ := r.head h1
  exact CRel.append (xs := [_]) (ys := [u]) (hx _ r1) (r2.last hy h2)
theorem fS2_ok {g : FuncId} {F : St → St → St × Int} (h : ∀ a b, SoundFn Try.prog g [stA a, stA b] ⟨0, []⟩ (oSt (F a b).1 (F a b).2) (oAS (F a b).1)) : FnOk Try.prog g (fS2 F) := fun R vs k r hr => by
  unfold fS2 at hr
  split at hr
  · rename_i x y
    obtain ⟨a, hr, ha, hx⟩ := stK_ok hr
    obtain ⟨b, hr, hb, hy⟩ := stK_ok hr
    exact ⟨_, _, hr, flat_st, (h a b).args fun κ ys hc => st_two ha hb (hx κ) (hy κ) hc⟩
  · cases hr
/-- One more result: of one state. -/
def fS1 (F : St → St × Int) (R : Type) (vs : List AV) (k : AV → AS → Option R) : Option R :=
  match vs with
  | [x] => stK x fun a => k (oSt (F a).1 (F a).2) (oAS (F a).1)
  | _ => none
theorem fS1_ok {g : FuncId} {F : St → St × Int} (h : ∀ a, SoundFn Try.prog g [stA a] ⟨0, []⟩ (oSt (F a).1 (F a).2) (oAS (F a).1)) : FnOk Try.prog g (fS1 F) := fun R vs k r hr => by
  unfold fS1 at hr
  split at hr
  · rename_i x
    obtain ⟨a, hr, ha, hx⟩ := stK_ok hr
    exact ⟨_, _, hr, flat_st, (h a).args fun κ ys hc => hc.last (hx κ) ha⟩
  · cases hr

/-! ### Join -/
def t0 : St := ⟨fun _ => v0, fun _ => (0, 0), []⟩
def joiR (a b : St) : St × Int := bif chkB a && chkB b then (joiT a b, 0) else (t0, 2)
def stL (t : St) : St := ⟨t.r, t.s, kl (kf t.kn) t.kn.length []⟩
theorem stL_eq (t : St) : stL t = t := by unfold stL; rw [kl_kf]
def jTJ1 (q : Nat) (a b : St) : Option (List (List AV) × List (List AV) × AV × Int × Option Row) :=
  bif okL (kf a.kn) a.kn.length [] && okL (kf b.kn) b.kn.length [] then
    bif (joiF (kl (kf a.kn) a.kn.length []) (kl (kf b.kn) b.kn.length [])).2 != 0 then zTJ t0 (joiF (kl (kf a.kn) a.kn.length []) (kl (kf b.kn) b.kn.length [])).2 else
    oTJ q ⟨fun i => comF (a.r i) (b.r i), fun i => sJoi (a.s i) (b.s i), (joiF (kl (kf a.kn) a.kn.length []) (kl (kf b.kn) b.kn.length [])).1⟩ 0
  else none
theorem evTJoi1 (a b : St) : evFn Try.prog KS4 L0 (regB Try.prog) 80 52 [stA a, stA b] ⟨0, []⟩ kTJ =
  (bif true && okL (kf a.kn) a.kn.length [] then bif chkI (stL a) != 0 then bif chkI (stL a) != 0 then zTJ t0 (chkI (stL a)) else jTJ1 24 a b else
    bif true && okL (kf b.kn) b.kn.length [] then bif chkI (stL b) != 0 then bif chkI (stL b) != 0 then zTJ t0 (chkI (stL b)) else jTJ1 25 a b else jTJ1 25 a b else none
  else none) := by kernel_rfl
theorem evTJoi2 (a b : St) : evFn Try.prog KS4 L0 (regB Try.prog) 80 53 [stA a, stA b] ⟨0, []⟩ kTJ =
  (bif true && okL (kf a.kn) a.kn.length [] then bif chkI (stL a) != 0 then zTJ t0 2 else
    bif true && okL (kf b.kn) b.kn.length [] then bif bif false then true else chkI (stL b) != 0 then zTJ t0 2 else
    bif okL (kf a.kn) a.kn.length [] && okL (kf b.kn) b.kn.length [] then oTJ 4 ⟨fun i => comR (a.r i) (b.r i), fun i => sJoi (a.s i) (b.s i), (joiF (kl (kf a.kn) a.kn.length []) (kl (kf b.kn) b.kn.length [])).1⟩ 0 else none else none
  else none) := by kernel_rfl
theorem chkI_ne (t : St) : (chkI t != 0) = !chkB t := by
  unfold chkI
  cases chkB t <;> rfl
theorem chkI_no {t : St} (h : chkB t = false) : chkI t = 2 := by unfold chkI; rw [h]; rfl
theorem okTJoi1 : FnOk Try.prog 52 (fS2 joiR) := fS2_ok fun a b => by
  have hev := evTJoi1 a b
  unfold jTJ1 at hev
  simp only [okL_kf, kl_kf, stL_eq, chkI_ne, Bool.and_self, Bool.true_and, cond_true] at hev
  unfold joiR
  cases ha : chkB a with
  | false =>
    simp only [ha, Bool.not_false, cond_true, chkI_no ha] at hev
    exact .zTJ KS4_ok l0_ok rfl rfl hev
  | true =>
    cases hb : chkB b with
    | false =>
      simp only [ha, hb, Bool.not_false, Bool.not_true, cond_true, cond_false, chkI_no hb] at hev
      exact .zTJ KS4_ok l0_ok rfl rfl hev
    | true =>
      have e := (joi_byt (chkB_iff.1 ha).kn (chkB_iff.1 hb).kn).2.1
      have e' : ((joiF a.kn b.kn).2 != 0) = false := by rw [e]; rfl
      simp only [ha, hb, Bool.not_false, Bool.not_true, cond_true, cond_false, e'] at hev
      exact .oTJ KS4_ok l0_ok rfl hev
theorem okTJoi2 : FnOk Try.prog 53 (fS2 joiR) := fS2_ok fun a b => by
  have hev := evTJoi2 a b
  simp only [okL_kf, kl_kf, stL_eq, chkI_ne, Bool.and_self, Bool.true_and, cond_true, cond_false] at hev
  unfold joiR
  cases ha : chkB a with
  | false =>
    simp only [ha, Bool.not_false, cond_true] at hev
    exact .zTJ KS4_ok l0_ok rfl rfl hev
  | true =>
    cases hb : chkB b with
    | false =>
      simp only [ha, hb, Bool.not_false, Bool.not_true, cond_true, cond_false] at hev
      exact .zTJ KS4_ok l0_ok rfl rfl hev
    | true =>
      simp only [ha, hb, Bool.not_false, Bool.not_true, cond_true, cond_false] at hev
      refine .oTJ (q := 4) KS4_ok l0_ok rfl (hev.trans ?_)
      unfold oTJ joiT
      have : ((List.range 10).map fun i => vc (comR (a.r i) (b.r i))) = (List.range 10).map fun i => vc (comF (a.r i) (b.r i)) := List.map_congr_left fun i hi => by
        have hi := List.mem_range.1 hi
        rw [comR_eq ((chkB_iff.1 ha).r i hi) ((chkB_iff.1 hb).r i hi)]
      simp only [Bool.and_self, cond_true, this]
def hasS5 : FuncId → Bool := addHas 52 (addHas 53 hasS4)
def specS5 : SpecT := addS 52 (fS2 joiR) (addS 53 (fS2 joiR) specS4)
theorem specS5_ok : SpecOk Try.prog hasS5 specS5 := addS_ok okTJoi1 (addS_ok okTJoi2 specS4_ok)
def KS5 : KT := orK (specK hasS5 specS5) KX
theorem KS5_ok : KOk Try.prog KS5 := orK_ok (specK_ok specS5_ok) KX_ok
end Go.Sv
