/- The evaluator and the contracts that the walk leans on, part Bm: S1, S0, S2, S3. -/
import Derived.Test.YtmegbaeclpoidaaBl
namespace Go.Sv
open Go.RowKit Go.Proofs
set_option linter.unusedSimpArgs false
set_option linter.unusedVariables false

/-! ### values, spans, states -/
structure Vw where
  k : Int
  a : Int
  b : Int
  i : Int
  o : Int
def vc (v : Vw) : List AV := [.int .u8 v.k, .int .u64 v.a, .int .u64 v.b, .int .i64 v.i, .int .i64 v.o]
def vOf : List AV → Vw
  | [.int _ k, .int _ a, .int _ b, .int _ i, .int _ o] => ⟨k, a, b, i, o⟩
  | _ => ⟨0, 0, 0, 0, 0⟩
def vOk : List AV → Bool
  | [.int .u8 _, .int .u64 _, .int .u64 _, .int .i64 _, .int .i64 _] => true
  | _ => false
theorem vc_of {c : List AV} (h : vOk c = true) : vc (vOf c) = c := by
  unfold vOk at h
  split at h
  · rfl
  · cases h
def sc (s : Int × Int) : List AV := [.int .u64 s.1, .int .u64 s.2]
def sOf : List AV → Int × Int
  | [.int _ a, .int _ b] => (a, b)
  | _ => (0, 0)
def sOk : List AV → Bool
  | [.int .u64 _, .int .u64 _] => true
  | _ => false
theorem sc_of {c : List AV} (h : sOk c = true) : sc (sOf c) = c := by
  unfold sOk at h
  split at h
  · rfl
  · cases h
structure St where
  r : Nat → Vw
  s : Nat → Int × Int
  kn : List (Int × Int)
def okA (ok : List AV → Bool) (n : Nat) (f : Nat → List AV) (us : List (Nat × List AV)) : Bool := (List.range n).all fun i => ok (elt us f i)
theorem okA_at {ok : List AV → Bool} {n : Nat} {f : Nat → List AV} {us : List (Nat × List AV)} (h : okA ok n f us = true) {i : Nat} (hi : i < n) : ok (elt us f i) = true := List.all_eq_true.1 h i (List.mem_range.2 hi)
def regA (r : Nat → Vw) : AV := .arr 5 10 (fun i => vc (r i)) []
def sltA (s : Nat → Int × Int) : AV := .arr 2 8 (fun i => sc (s i)) []
def stA (t : St) : AV := .agg [regA t.r, sltA t.s, .lst 2 (kf t.kn) t.kn.length []]
def stR (t : St) : AV := .agg [regA t.r, sltA t.s, .slc 0 [] 0 0 2 t.kn.length t.kn.length]
/-- A state that came in. -/
def stK {R : Type} (x : AV) (k : St → Option R) : Option R :=
  match x with
  | .agg [.arr 5 10 f us, .arr 2 8 g vs, .lst 2 h n ws] => bif okA vOk 10 f us && okA sOk 8 g vs && okL h n ws then k ⟨fun i => vOf (elt us f i), fun i => sOf (elt vs g i), kl h n ws⟩ else none
  | .agg [.arr 5 10 f us, .arr 2 8 g vs, .raw (.slice none 0 0)] => bif okA vOk 10 f us && okA sOk 8 g vs then k ⟨fun i => vOf (elt us f i), fun i => sOf (elt vs g i), []⟩ else none
  | _ => none
theorem VRel.nilLst {κ : Kap} {y : Value} (h : VRel κ (.raw (.slice none 0 0)) y) : VRel κ (.lst 2 (kf []) 0 []) y := by
  cases h with
  | raw _ h => cases h; exact .lst0 2 0 _ [] none .nil
theorem CRel.last {κ : Kap} {x x' : AV} {ys : List Value} (hx : ∀ y, VRel κ x y → VRel κ x' y) (ha : isArr x = false) (r : CRel κ [x] ys) : CRel κ [x'] ys := by
  obtain ⟨u, us, rfl, r1, r2⟩ := r.head ha
  cases r2
  exact hx _ r1
theorem stK_ok {R : Type} {x : AV} {k : St → Option R} {r : R} (h : stK x k = some r) : ∃ t, k t = some r ∧ isArr x = false ∧ ∀ κ y, VRel κ x y → VRel κ (stA t) y := by
  unfold stK at h
  split at h
  · rename_i f us g vs h' n ws
    obtain ⟨hc, h⟩ := cond_some h
    simp only [Bool.and_eq_true] at hc
    obtain ⟨⟨c1, c2⟩, c3⟩ := hc
    refine ⟨_, h, rfl, fun κ y hy => VRel.agg_ext (fun _ hz => CRel.arr_ext (fun i hi => ?_) (fun _ hz => CRel.arr_ext (fun i hi => ?_) (fun _ hz => CRel.last (fun y hy => ?_) rfl hz) hz) hz) hy⟩
    · exact vc_of (okA_at c1 hi)
    · exact sc_of (okA_at c2 hi)
    · show VRel κ (.lst 2 (kf (kl h' n ws)) (kl h' n ws).length []) y
      rw [kl_length]; exact hy.pairs c3
  · rename_i f us g vs
    obtain ⟨hc, h⟩ := cond_some h
    simp only [Bool.and_eq_true] at hc
    obtain ⟨c1, c2⟩ := hc
    refine ⟨_, h, rfl, fun κ y hy => VRel.agg_ext (fun _ hz => CRel.arr_ext (fun i hi => ?_) (fun _ hz => CRel.arr_ext (fun i hi => ?_) (fun _ hz => CRel.last (fun y hy => ?_) rfl hz) hz) hz) hy⟩
    · exact vc_of (okA_at c1 hi)
    · exact sc_of (okA_at c2 hi)
    · exact hy.nilLst
  · cases h

end Go.Sv
namespace Go.Sv
open Go.RowKit Go.Proofs
set_option linter.unusedSimpArgs false
set_option linter.unusedVariables false
def vSh : List Sh := [.int .u8, .int .u64, .int .u64, .int .i64, .int .i64]
def sSh : List Sh := [.int .u64, .int .u64]
def stSh : List Sh := [.arr 10 5 vSh, .arr 8 2 sSh, .pairs]
structure VwOk (v : Vw) : Prop where
  k : 0 ≤ v.k ∧ v.k < 256
  a : 0 ≤ v.a ∧ v.a < 18446744073709551616
  b : 0 ≤ v.b ∧ v.b < 18446744073709551616
  i : -9223372036854775808 ≤ v.i ∧ v.i < 9223372036854775808
  o : -9223372036854775808 ≤ v.o ∧ v.o < 9223372036854775808
def SpOk (s : Int × Int) : Prop := (0 ≤ s.1 ∧ s.1 < 18446744073709551616) ∧ (0 ≤ s.2 ∧ s.2 < 18446744073709551616)
structure StOk (t : St) : Prop where
  r : ∀ i, i < 10 → VwOk (t.r i)
  s : ∀ i, i < 8 → SpOk (t.s i)
  kn : ∀ x ∈ t.kn, (-9223372036854775808 ≤ x.1 ∧ x.1 < 9223372036854775808) ∧ (-9223372036854775808 ≤ x.2 ∧ x.2 < 9223372036854775808)
  len : t.kn.length * 16 ≤ reachBytes
theorem wf_u8 {n : Int} (h : (Lit.int .u8 n).wf = true) : 0 ≤ n ∧ n < 256 := by
  simp [Lit.wf, IntKind.min, IntKind.max, IntKind.signed, IntKind.bits] at h; omega
theorem wf_u64 {n : Int} (h : (Lit.int .u64 n).wf = true) : 0 ≤ n ∧ n < 18446744073709551616 := by
  simp [Lit.wf, IntKind.min, IntKind.max, IntKind.signed, IntKind.bits] at h; omega
theorem wf_i64 {n : Int} (h : (Lit.int .i64 n).wf = true) : -9223372036854775808 ≤ n ∧ n < 9223372036854775808 := by
  simp [Lit.wf, IntKind.min, IntKind.max, IntKind.signed, IntKind.bits] at h; omega
theorem mem_blocks {α : Type} {zs : List α} {n m : Nat} (hl : zs.length = n * m) (hm : 0 < m) {z : α} (hz : z ∈ zs) : ∃ i, i < n ∧ z ∈ (zs.drop (i * m)).take m := by
  obtain ⟨j, hj, rfl⟩ := List.getElem_of_mem hz
  have h1 : j / m < n := Nat.div_lt_of_lt_mul (by rw [Nat.mul_comm, ← hl]; exact hj)
  have h2 := Nat.mod_lt j hm
  have h3 : j / m * m + j % m = j := by rw [Nat.mul_comm]; exact Nat.div_add_mod j m
  have h4 : j % m < ((zs.drop (j / m * m)).take m).length := by
    rw [List.length_take, List.length_drop]; omega
  refine ⟨j / m, h1, List.mem_iff_getElem.2 ⟨j % m, h4, ?_⟩⟩
  rw [List.getElem_take, List.getElem_drop]
  congr 1
theorem Fit.blocks {w : World} {n m : Nat} {js ks : List Sh} {cs : List Value} {α : Type} (hm : 0 < m) (d : α) (c : α → List AV) (Q : α → Prop) (hc : ∀ x, cw (c x) = m) (hf : ∀ x : List Value, Fit w js x → ∃ a, Q a ∧ (∀ κ, CRel κ (c a) x) ∧ ∀ z ∈ x, oneV z = true)
    (h : Fit w (.arr n m js :: ks) cs) : ∃ (f : Nat → α) (zs r : List Value), cs = zs ++ r ∧ (∀ i, i < n → Q (f i)) ∧ (∀ gh avs r', CRel (kapOf w gh) avs r' → CRel (kapOf w gh) (.arr m n (fun i => c (f i)) [] :: avs) (zs ++ r')) ∧ Fit w ks r := by
  obtain ⟨zs, r, rfl, hl, hi, hr⟩ := h.arr_inv
  have hg : ∀ i, ∃ a, i < n → Q a ∧ (∀ κ, CRel κ (c a) ((zs.drop (i * m)).take m)) ∧ ∀ z ∈ (zs.drop (i * m)).take m, oneV z = true := fun i => by
    by_cases hlt : i < n
    · obtain ⟨a, h1⟩ := hf _ (hi i hlt)
      exact ⟨a, fun _ => h1⟩
    · exact ⟨d, fun h => absurd h hlt⟩
  refine ⟨fun i => Classical.choose (hg i), zs, r, rfl, fun i hlt => (Classical.choose_spec (hg i) hlt).1, fun gh avs r' hr' => ?_, hr⟩
  refine .arr _ _ _ _ zs hl (fun z hz => ?_) (fun i _ => hc _) (fun i hlt => (Classical.choose_spec (hg i) hlt).2.1 _) rfl hr'
  obtain ⟨i, h1, h2⟩ := mem_blocks hl hm hz
  exact (Classical.choose_spec (hg i) h1).2.2 z h2
theorem vw_fit {w : World} {x : List Value} (h : Fit w vSh x) : ∃ v : Vw, VwOk v ∧ (∀ κ, CRel κ (vc v) x) ∧ ∀ z ∈ x, oneV z = true := by
  obtain ⟨k, _, rfl, w1, h⟩ := h.int_inv
  obtain ⟨a, _, rfl, w2, h⟩ := h.int_inv
  obtain ⟨b, _, rfl, w3, h⟩ := h.int_inv
  obtain ⟨i, _, rfl, w4, h⟩ := h.int_inv
  obtain ⟨o, _, rfl, w5, h⟩ := h.int_inv
  obtain rfl := h.nil_inv
  exact ⟨⟨k, a, b, i, o⟩, ⟨wf_u8 w1, wf_u64 w2, wf_u64 w3, wf_i64 w4, wf_i64 w5⟩, fun κ => .int _ _ (.int _ _ (.int _ _ (.int _ _ (.int _ _ .nil)))), fun z hz => by
    simp only [List.mem_cons, List.not_mem_nil, or_false] at hz
    rcases hz with rfl | rfl | rfl | rfl | rfl <;> rfl⟩
theorem sp_fit {w : World} {x : List Value} (h : Fit w sSh x) : ∃ s : Int × Int, SpOk s ∧ (∀ κ, CRel κ (sc s) x) ∧ ∀ z ∈ x, oneV z = true := by
  obtain ⟨a, _, rfl, w2, h⟩ := h.int_inv
  obtain ⟨b, _, rfl, w3, h⟩ := h.int_inv
  obtain rfl := h.nil_inv
  exact ⟨(a, b), ⟨wf_u64 w2, wf_u64 w3⟩, fun κ => .int _ _ (.int _ _ .nil), fun z hz => by
    simp only [List.mem_cons, List.not_mem_nil, or_false] at hz
    rcases hz with rfl | rfl <;> rfl⟩
theorem st_fit {w : World} {cs : List Value} (h : Fit w stSh cs) : ∃ t : St, StOk t ∧ ∀ gh, VRel (kapOf w gh) (stA t) (.agg ⟨cs⟩) := by
  obtain ⟨r, zs, r1, rfl, q1, c1, h⟩ := Fit.blocks (by omega) ⟨0, 0, 0, 0, 0⟩ vc VwOk (fun _ => rfl) (fun _ h => vw_fit h) h
  obtain ⟨s, zs2, r2, rfl, q2, c2, h⟩ := Fit.blocks (by omega) (0, 0) sc SpOk (fun _ => rfl) (fun _ h => sp_fit h) h
  obtain ⟨v, r3, xs, rfl, h1, h2, h3, h⟩ := h.pairs_inv
  obtain rfl := h.nil_inv
  exact ⟨⟨r, s, xs⟩, ⟨q1, q2, fun x hx => ⟨wf_i64 (h2 x hx).1, wf_i64 (h2 x hx).2⟩, h3⟩, fun gh => .agg _ _ (c1 gh _ _ (c2 gh _ _ (h1 gh))) .nil⟩
def stZ : Value := .agg #[.int .u8 0, .int .u64 0, .int .u64 0, .int .i64 0, .int .i64 0, .int .u8 0, .int .u64 0, .int .u64 0, .int .i64 0, .int .i64 0, .int .u8 0, .int .u64 0, .int .u64 0, .int .i64 0, .int .i64 0, .int .u8 0, .int .u64 0, .int .u64 0, .int .i64 0, .int .i64 0, .int .u8 0, .int .u64 0, .int .u64 0, .int .i64 0, .int .i64 0, .int .u8 0, .int .u64 0, .int .u64 0, .int .i64 0, .int .i64 0, .int .u8 0, .int .u64 0, .int .u64 0, .int .i64 0, .int .i64 0, .int .u8 0, .int .u64 0, .int .u64 0, .int .i64 0, .int .i64 0, .int .u8 0, .int .u64 0, .int .u64 0, .int .i64 0, .int .i64 0, .int .u8 0, .int .u64 0, .int .u64 0, .int .i64 0, .int .i64 0, .int .u64 0, .int .u64 0, .int .u64 0, .int .u64 0, .int .u64 0, .int .u64 0, .int .u64 0, .int .u64 0, .int .u64 0, .int .u64 0, .int .u64 0, .int .u64 0, .int .u64 0, .int .u64 0, .int .u64 0, .int .u64 0, .slice none 0 0]
end Go.Sv
namespace Go.Sv
open Go.RowKit Go.Proofs
set_option linter.unusedSimpArgs false
set_option linter.unusedVariables false

def sOkB (s : Int × Int) : Bool := !decide (s.1 > s.2)
def sChk (s : Int × Int) : Int := bif decide (s.1 > s.2) then 150 else 0
def sUnd (s t : Int × Int) : Bool := decide (s.1 ≥ t.1) && decide (s.2 ≤ t.2)
def sJoi (s t : Int × Int) : Int × Int := (bif decide (t.1 < s.1) then t.1 else s.1, bif decide (t.2 > s.2) then t.2 else s.2)
def sEq (s t : Int × Int) : Bool := s.1 == t.1 && (s.2 == t.2 && true)
def zB (v : Vw) : Bool := v.a == 0 && (v.b == 0 && true) && (v.i == 0 && (v.o == 0 && true))
def mayF (v : Vw) : Bool := bif v.k == 1 then (v.i == 0 && v.o == 0) && !decide (v.a > v.b) else bif v.k == 2 then ptrB v.k v.a v.b v.i v.o else bif v.k == 0 then zB v else bif v.k == 3 then zB v else false
def vEq (s t : Vw) : Bool := s.k == t.k && (s.a == t.a && (s.b == t.b && true) && (s.i == t.i && (s.o == t.o && true)))
def v0 : Vw := ⟨0, 0, 0, 0, 0⟩
def vJoi (s t : Vw) : Vw := ⟨1, bif decide (t.a < s.a) then t.a else s.a, bif decide (t.b > s.b) then t.b else s.b, 0, 0⟩
def comF (s t : Vw) : Vw := bif vEq s t then s else bif s.k == 1 && t.k == 1 then vJoi s t else v0
def comR (s t : Vw) : Vw := bif s.k == 1 && t.k == 1 then vJoi s t else bif vEq s t then s else v0
def sayV (s t : Vw) : Bool := bif t.k == 0 then true else bif s.k == 1 && t.k == 1 then decide (s.a ≥ t.a) && decide (s.b ≤ t.b) else vEq s t

def fSChk (R : Type) (vs : List AV) (k : AV → AS → Option R) : Option R :=
  match vs with
  | [.agg [.int .u64 a, .int .u64 b]] => k (.int .i64 (sChk (a, b))) ⟨0, []⟩
  | _ => none
def fSUnd (R : Type) (vs : List AV) (k : AV → AS → Option R) : Option R :=
  match vs with
  | [.agg [.int .u64 a, .int .u64 b], .agg [.int .u64 c, .int .u64 d]] => k (.bool (sUnd (a, b) (c, d))) ⟨0, []⟩
  | _ => none
def fSJoi (R : Type) (vs : List AV) (k : AV → AS → Option R) : Option R :=
  match vs with
  | [.agg [.int .u64 a, .int .u64 b], .agg [.int .u64 c, .int .u64 d]] => k (.agg (sc (sJoi (a, b) (c, d)))) ⟨0, []⟩
  | _ => none
def fVB (B : Vw → Bool) (R : Type) (vs : List AV) (k : AV → AS → Option R) : Option R :=
  match vs with
  | [.agg [.int .u8 k1, .int .u64 a, .int .u64 b, .int .i64 i, .int .i64 o]] => k (.bool (B ⟨k1, a, b, i, o⟩)) ⟨0, []⟩
  | _ => none
def fVV (B : Vw → Vw → Bool) (R : Type) (vs : List AV) (k : AV → AS → Option R) : Option R :=
  match vs with
  | [.agg [.int .u8 k1, .int .u64 a, .int .u64 b, .int .i64 i, .int .i64 o], .agg [.int .u8 k2, .int .u64 a2, .int .u64 b2, .int .i64 i2, .int .i64 o2]] => k (.bool (B ⟨k1, a, b, i, o⟩ ⟨k2, a2, b2, i2, o2⟩)) ⟨0, []⟩
  | _ => none
def fVW (B : Vw → Vw → Vw) (R : Type) (vs : List AV) (k : AV → AS → Option R) : Option R :=
  match vs with
  | [.agg [.int .u8 k1, .int .u64 a, .int .u64 b, .int .i64 i, .int .i64 o], .agg [.int .u8 k2, .int .u64 a2, .int .u64 b2, .int .i64 i2, .int .i64 o2]] => k (.agg (vc (B ⟨k1, a, b, i, o⟩ ⟨k2, a2, b2, i2, o2⟩))) ⟨0, []⟩
  | _ => none
theorem fVB_ok {g : FuncId} {B : Vw → Bool} {K : KT} {L : LT} (hK : KOk Try.prog K) (hL : LOk Try.prog L) (h : ∀ v, evFn Try.prog K L (regB Try.prog) 60 g [.agg (vc v)] ⟨0, []⟩ ret = some (.bool (B v))) : FnOk Try.prog g (fVB B) := fnOk_plain sprog_ok.1 sprog_ok.2 hK hL fun R vs k r hr => by
  unfold fVB at hr
  split at hr
  · exact ⟨_, hr, trivial, rfl, rfl, 60, h ⟨_, _, _, _, _⟩⟩
  · cases hr
theorem fVV_ok {g : FuncId} {B : Vw → Vw → Bool} {K : KT} {L : LT} (hK : KOk Try.prog K) (hL : LOk Try.prog L) (h : ∀ v w, evFn Try.prog K L (regB Try.prog) 60 g [.agg (vc v), .agg (vc w)] ⟨0, []⟩ ret = some (.bool (B v w))) : FnOk Try.prog g (fVV B) := fnOk_plain sprog_ok.1 sprog_ok.2 hK hL fun R vs k r hr => by
  unfold fVV at hr
  split at hr
  · exact ⟨_, hr, trivial, rfl, rfl, 60, h ⟨_, _, _, _, _⟩ ⟨_, _, _, _, _⟩⟩
  · cases hr
theorem fVW_ok {g : FuncId} {B : Vw → Vw → Vw} {K : KT} {L : LT} (hK : KOk Try.prog K) (hL : LOk Try.prog L) (h : ∀ v w, evFn Try.prog K L (regB Try.prog) 60 g [.agg (vc v), .agg (vc w)] ⟨0, []⟩ ret = some (.agg (vc (B v w)))) : FnOk Try.prog g (fVW B) := fnOk_plain sprog_ok.1 sprog_ok.2 hK hL fun R vs k r hr => by
  unfold fVW at hr
  split at hr
  · exact ⟨_, hr, fun x hx => by
      simp only [vc, List.mem_cons, List.not_mem_nil, or_false] at hx
      rcases hx with rfl | rfl | rfl | rfl | rfl <;> trivial, rfl, rfl, 60, h ⟨_, _, _, _, _⟩ ⟨_, _, _, _, _⟩⟩
  · cases hr
theorem evSChk1 (s : Int × Int) : evFn Try.prog K0 L0 (regB Try.prog) 60 85 [.agg (sc s)] ⟨0, []⟩ ret =
  (bif decide (s.fst > s.snd) then some (AV.int IntKind.i64 (150)) else some (AV.int IntKind.i64 (0))) := by kernel_rfl
theorem okSChk1 : FnOk Try.prog 85 fSChk := fnOk_plain sprog_ok.1 sprog_ok.2 k0_ok l0_ok fun R vs k r h => by
  unfold fSChk at h
  split at h
  · rename_i a b
    refine ⟨_, h, trivial, rfl, rfl, 60, ?_⟩
    refine (evSChk1 (a, b)).trans ?_
    unfold sChk
    cases decide ((a, b).1 > (a, b).2) <;> rfl
  · cases h
theorem evSChk2 (s : Int × Int) : evFn Try.prog K0 L0 (regB Try.prog) 60 87 [.agg (sc s)] ⟨0, []⟩ ret =
  (bif decide (s.fst > s.snd) then some (AV.int IntKind.i64 (150)) else some (AV.int IntKind.i64 (0))) := by kernel_rfl
theorem okSChk2 : FnOk Try.prog 87 fSChk := fnOk_plain sprog_ok.1 sprog_ok.2 k0_ok l0_ok fun R vs k r h => by
  unfold fSChk at h
  split at h
  · rename_i a b
    refine ⟨_, h, trivial, rfl, rfl, 60, ?_⟩
    refine (evSChk2 (a, b)).trans ?_
    unfold sChk
    cases decide ((a, b).1 > (a, b).2) <;> rfl
  · cases h
theorem evSUnd1 (s t : Int × Int) : evFn Try.prog K0 L0 (regB Try.prog) 60 90 [.agg (sc s), .agg (sc t)] ⟨0, []⟩ ret =
  (bif decide (s.fst ≥ t.fst) then some (AV.bool (bif true then decide (s.snd ≤ t.snd) else false)) else some (AV.bool false)) := by kernel_rfl
theorem okSUnd1 : FnOk Try.prog 90 fSUnd := fnOk_plain sprog_ok.1 sprog_ok.2 k0_ok l0_ok fun R vs k r h => by
  unfold fSUnd at h
  split at h
  · rename_i a b c d
    refine ⟨_, h, trivial, rfl, rfl, 60, ?_⟩
    refine (evSUnd1 (a, b) (c, d)).trans ?_
    unfold sUnd
    cases decide ((a, b).1 ≥ (c, d).1) <;> rfl
  · cases h
theorem evSUnd2 (s t : Int × Int) : evFn Try.prog K0 L0 (regB Try.prog) 60 92 [.agg (sc s), .agg (sc t)] ⟨0, []⟩ ret =
  (bif decide (s.fst ≥ t.fst) then some (AV.bool (bif true then decide (s.snd ≤ t.snd) else false)) else some (AV.bool false)) := by kernel_rfl
theorem okSUnd2 : FnOk Try.prog 92 fSUnd := fnOk_plain sprog_ok.1 sprog_ok.2 k0_ok l0_ok fun R vs k r h => by
  unfold fSUnd at h
  split at h
  · rename_i a b c d
    refine ⟨_, h, trivial, rfl, rfl, 60, ?_⟩
    refine (evSUnd2 (a, b) (c, d)).trans ?_
    unfold sUnd
    cases decide ((a, b).1 ≥ (c, d).1) <;> rfl
  · cases h
theorem evSJoi1 (s t : Int × Int) : evFn Try.prog K0 L0 (regB Try.prog) 60 94 [.agg (sc s), .agg (sc t)] ⟨0, []⟩ ret =
  (some (AV.agg [AV.int IntKind.u64 (bif decide (t.fst < s.fst) then t.fst else s.fst), AV.int IntKind.u64 (bif decide (t.snd > s.snd) then t.snd else s.snd)])) := by kernel_rfl
theorem okSJoi1 : FnOk Try.prog 94 fSJoi := fnOk_plain sprog_ok.1 sprog_ok.2 k0_ok l0_ok fun R vs k r h => by
  unfold fSJoi at h
  split at h
  · rename_i a b c d
    exact ⟨_, h, fun x hx => by
      simp only [sc, List.mem_cons, List.not_mem_nil, or_false] at hx
      rcases hx with rfl | rfl <;> trivial, rfl, rfl, 60, evSJoi1 (a, b) (c, d)⟩
  · cases h
theorem evSJoi2 (s t : Int × Int) : evFn Try.prog K0 L0 (regB Try.prog) 60 96 [.agg (sc s), .agg (sc t)] ⟨0, []⟩ ret =
  (some (AV.agg [AV.int IntKind.u64 (bif decide (t.fst < s.fst) then t.fst else s.fst), AV.int IntKind.u64 (bif decide (t.snd > s.snd) then t.snd else s.snd)])) := by kernel_rfl
theorem okSJoi2 : FnOk Try.prog 96 fSJoi := fnOk_plain sprog_ok.1 sprog_ok.2 k0_ok l0_ok fun R vs k r h => by
  unfold fSJoi at h
  split at h
  · rename_i a b c d
    exact ⟨_, h, fun x hx => by
      simp only [sc, List.mem_cons, List.not_mem_nil, or_false] at hx
      rcases hx with rfl | rfl <;> trivial, rfl, rfl, 60, evSJoi2 (a, b) (c, d)⟩
  · cases h

/-! ### values -/
def fWitN (R : Type) (vs : List AV) (k : AV → AS → Option R) : Option R :=
  match vs with
  | [.raw (.slice none 0 0), .agg [.int .u8 a, .int .u64 b, .int .u64 c, .int .i64 d, .int .i64 e], .int .i64 off, .int .i64 size] => k (.tup [.bool (witF [] a b c d e off size).1, .int .i64 (witF [] a b c d e off size).2]) ⟨0, []⟩
  | _ => fWit R vs k
theorem okWitN : FnOk Try.prog 24 fWitN := fun R vs k r h => by
  unfold fWitN at h
  split at h
  · rename_i a b c d e off size
    obtain ⟨v, st', hk, hf, hs⟩ := okWit1 (AV × AS) [.lst 2 (kf []) 0 [], .agg [.int .u8 a, .int .u64 b, .int .u64 c, .int .i64 d, .int .i64 e], .int .i64 off, .int .i64 size] (fun v st => some (v, st)) _ rfl
    cases hk
    exact ⟨_, _, h, hf, hs.args fun κ ys hy => hy.cons_map (fun y hy => hy.nilLst) (fun _ h => h) rfl⟩
  · exact okWit1 R vs k r h
def hasS2 : FuncId → Bool := addHas 24 (addHas 85 (addHas 87 (addHas 90 (addHas 92 (addHas 94 (addHas 96 hasCL))))))
def specS2 : SpecT := addS 24 fWitN (addS 85 fSChk (addS 87 fSChk (addS 90 fSUnd (addS 92 fSUnd (addS 94 fSJoi (addS 96 fSJoi specCL))))))
theorem specS2_ok : SpecOk Try.prog hasS2 specS2 := addS_ok okWitN (addS_ok okSChk1 (addS_ok okSChk2 (addS_ok okSUnd1 (addS_ok okSUnd2 (addS_ok okSJoi1 (addS_ok okSJoi2 specCL_ok))))))
def KS2 : KT := orK (specK hasS2 specS2) KX
theorem KS2_ok : KOk Try.prog KS2 := orK_ok (specK_ok specS2_ok) KX_ok
theorem evMay1 (s : Vw) : evFn Try.prog KS2 L0 (regB Try.prog) 60 84 [.agg (vc s)] ⟨0, []⟩ ret =
  (bif s.k == 1 then bif s.k == 1 && (s.a == s.a && (s.b == s.b && true) && (s.i == 0 && (s.o == 0 && true))) then some (AV.bool (bif true then sChk (s.a, s.b) == 0 else false)) else some (AV.bool false) else bif s.k == 2 then some (AV.bool ((witF [] s.k s.a s.b s.i s.o 0 1).snd == 0)) else bif s.k == 0 then some (AV.bool (s.k == s.k && (s.a == 0 && (s.b == 0 && true) && (s.i == 0 && (s.o == 0 && true))))) else bif s.k == 3 then some (AV.bool (s.k == s.k && (s.a == 0 && (s.b == 0 && true) && (s.i == 0 && (s.o == 0 && true))))) else some (AV.bool false)) := by kernel_rfl
theorem evMay2 (s : Vw) : evFn Try.prog KS2 L0 (regB Try.prog) 60 86 [.agg (vc s)] ⟨0, []⟩ ret =
  (bif s.k == 0 then some (AV.bool (s.k == 0 && (s.a == 0 && (s.b == 0 && true) && (s.i == 0 && (s.o == 0 && true))))) else bif s.k == 1 then bif sChk (s.a, s.b) == 0 then bif bif true then s.i == 0 else false then some (AV.bool (bif true then s.o == 0 else false)) else some (AV.bool false) else some (AV.bool false) else bif s.k == 2 then some (AV.bool (ptrB s.k s.a s.b s.i s.o)) else some (AV.bool (endB s.k s.a s.b s.i s.o))) := by kernel_rfl
theorem evCom1 (s t : Vw) : evFn Try.prog KS2 L0 (regB Try.prog) 60 93 [.agg (vc s), .agg (vc t)] ⟨0, []⟩ ret =
  (bif s.k == t.k && (s.a == t.a && (s.b == t.b && true) && (s.i == t.i && (s.o == t.o && true))) then some (AV.agg [AV.int IntKind.u8 s.k, AV.int IntKind.u64 s.a, AV.int IntKind.u64 s.b, AV.int IntKind.i64 s.i, AV.int IntKind.i64 s.o]) else bif s.k == 1 then bif bif true then t.k == 1 else false then some (AV.agg [AV.int IntKind.u8 (1), AV.int IntKind.u64 (sJoi (s.a, s.b) (t.a, t.b)).fst, AV.int IntKind.u64 (sJoi (s.a, s.b) (t.a, t.b)).snd, AV.int IntKind.i64 (0), AV.int IntKind.i64 (0)]) else some (AV.agg [AV.int IntKind.u8 (0), AV.int IntKind.u64 (0), AV.int IntKind.u64 (0), AV.int IntKind.i64 (0), AV.int IntKind.i64 (0)]) else some (AV.agg [AV.int IntKind.u8 (0), AV.int IntKind.u64 (0), AV.int IntKind.u64 (0), AV.int IntKind.i64 (0), AV.int 
    IntKind.i64 (0)])) := by kernel_rfl
theorem evCom2 (s t : Vw) : evFn Try.prog KS2 L0 (regB Try.prog) 60 95 [.agg (vc s), .agg (vc t)] ⟨0, []⟩ ret =
  (bif s.k == 1 then bif bif true then t.k == 1 else false then some (AV.agg [AV.int IntKind.u8 (1), AV.int IntKind.u64 (sJoi (s.a, s.b) (t.a, t.b)).fst, AV.int IntKind.u64 (sJoi (s.a, s.b) (t.a, t.b)).snd, AV.int IntKind.i64 (0), AV.int IntKind.i64 (0)]) else bif s.k == t.k && (s.a == t.a && (s.b == t.b && true) && (s.i == t.i && (s.o == t.o && true))) then some (AV.agg [AV.int IntKind.u8 s.k, AV.int IntKind.u64 s.a, AV.int IntKind.u64 s.b, AV.int IntKind.i64 s.i, AV.int IntKind.i64 s.o]) else some (AV.agg [AV.int IntKind.u8 (0), AV.int IntKind.u64 (0), AV.int IntKind.u64 (0), AV.int IntKind.i64 (0), AV.int IntKind.i64 (0)]) else bif s.k == t.k && (s.a == t.a && (s.b == t.b && true) && (s.i == t.i && (s.o == t.o && true))) then some (AV.agg [AV.int IntKind.u8 s.k, AV.int IntKind.u64 s.a, 
    AV.int IntKind.u64 s.b, AV.int IntKind.i64 s.i, AV.int IntKind.i64 s.o]) else some (AV.agg [AV.int IntKind.u8 (0), AV.int IntKind.u64 (0), AV.int IntKind.u64 (0), AV.int IntKind.i64 (0), AV.int IntKind.i64 (0)])) := by kernel_rfl
theorem evSayV (s t : Vw) : evFn Try.prog KS2 L0 (regB Try.prog) 60 91 [.agg (vc s), .agg (vc t)] ⟨0, []⟩ ret =
  (bif t.k == 0 then some (AV.bool true) else bif s.k == 1 then bif bif true then t.k == 1 else false then some (AV.bool (sUnd (s.a, s.b) (t.a, t.b))) else some (AV.bool (s.k == t.k && (s.a == t.a && (s.b == t.b && true) && (s.i == t.i && (s.o == t.o && true))))) else some (AV.bool (s.k == t.k && (s.a == t.a && (s.b == t.b && true) && (s.i == t.i && (s.o == t.o && true)))))) := by kernel_rfl
end Go.Sv
namespace Go.Sv
open Go.RowKit Go.Proofs
set_option linter.unusedSimpArgs false
set_option linter.unusedVariables false
theorem wit_nil (a b c d e : Int) : ((witF [] a b c d e 0 1).2 == 0) = ptrB a b c d e := by
  have h : witF [] a b c d e 0 1 = bif !ptrB a b c d e then (false, 171) else (decide (0 ≥ IntKind.i64.wrap (0 - e)) && decide (0 ≤ IntKind.i64.wrap (IntKind.i64.wrap (bytF d [] - 1) - e)), 0) := rfl
  rw [h]
  cases ptrB a b c d e <;> rfl
theorem chk_zero (a b : Int) : (sChk (a, b) == 0) = !decide (a > b) := by
  have h : sChk (a, b) = bif decide (a > b) then 150 else 0 := rfl
  rw [h]
  cases decide (a > b) <;> rfl
theorem okMay1 : FnOk Try.prog 84 (fVB mayF) := fVB_ok KS2_ok l0_ok fun v => by
  rw [evMay1, wit_nil, chk_zero]
  unfold mayF zB
  cases h1 : (v.k == 1) with
  | true =>
    simp only [cond_true, beq_self_eq_true, Bool.and_true, Bool.true_and]
    cases hi : (v.i == 0) <;> cases ho : (v.o == 0) <;> rfl
  | false =>
    simp only [cond_false]
    cases h2 : (v.k == 2) with
    | true => rfl
    | false =>
      simp only [cond_false, beq_self_eq_true, Bool.and_true, Bool.true_and]
      cases (v.k == 0) <;> cases (v.k == 3) <;> rfl
theorem okMay2 : FnOk Try.prog 86 (fVB mayF) := fVB_ok KS2_ok l0_ok fun v => by
  rw [evMay2, chk_zero]
  unfold mayF zB endB
  cases h1 : (v.k == 1) with
  | true =>
    have h0 : (v.k == 0) = false := by have : v.k = 1 := by simpa using h1
                                       rw [this]; rfl
    rw [h0]
    simp only [cond_true, cond_false, beq_self_eq_true, Bool.and_true, Bool.true_and]
    cases hi : (v.i == 0) <;> cases ho : (v.o == 0) <;> cases decide (v.a > v.b) <;> rfl
  | false =>
    simp only [cond_false]
    cases h2 : (v.k == 2) with
    | true =>
      have h0 : (v.k == 0) = false := by have : v.k = 2 := by simpa using h2
                                         rw [this]; rfl
      rw [h0]; rfl
    | false =>
      simp only [cond_false, beq_self_eq_true, Bool.and_true, Bool.true_and]
      cases h0 : (v.k == 0) with
      | true => simp only [cond_true, Bool.true_and]
      | false =>
        simp only [cond_false]
        cases (v.k == 3) <;> simp only [cond_true, cond_false, Bool.true_and, Bool.false_and, Bool.and_assoc]
theorem okCom1 : FnOk Try.prog 93 (fVW comF) := fVW_ok KS2_ok l0_ok fun v w => by
  rw [evCom1]
  unfold comF vEq
  cases (v.k == w.k && (v.a == w.a && (v.b == w.b && true) && (v.i == w.i && (v.o == w.o && true)))) with
  | true => rfl
  | false => cases (v.k == 1) <;> cases (w.k == 1) <;> rfl
theorem okCom2 : FnOk Try.prog 95 (fVW comR) := fVW_ok KS2_ok l0_ok fun v w => by
  rw [evCom2]
  unfold comR vEq
  cases (v.k == w.k && (v.a == w.a && (v.b == w.b && true) && (v.i == w.i && (v.o == w.o && true)))) <;> cases (v.k == 1) <;> cases (w.k == 1) <;> rfl
theorem okSayV : FnOk Try.prog 91 (fVV sayV) := fVV_ok KS2_ok l0_ok fun v w => by
  rw [evSayV]
  unfold sayV vEq sUnd
  cases (w.k == 0) <;> cases (v.k == 1) <;> cases (w.k == 1) <;> rfl
def hasS3 : FuncId → Bool := addHas 84 (addHas 86 (addHas 93 (addHas 95 (addHas 91 hasS2))))
def specS3 : SpecT := addS 84 (fVB mayF) (addS 86 (fVB mayF) (addS 93 (fVW comF) (addS 95 (fVW comR) (addS 91 (fVV sayV) specS2))))
theorem specS3_ok : SpecOk Try.prog hasS3 specS3 := addS_ok okMay1 (addS_ok okMay2 (addS_ok okCom1 (addS_ok okCom2 (addS_ok okSayV specS2_ok))))
def KS3 : KT := orK (specK hasS3 specS3) KX
theorem KS3_ok : KOk Try.prog KS3 := orK_ok (specK_ok specS3_ok) KX_ok
/-- One test behind another one. -/
def ifs {α : Type} : List Bool → α → α → α
  | [], _, y => y
  | c :: r, x, y => bif !c then x else ifs r x y
theorem ifs_eq {α : Type} (x y : α) : ∀ l : List Bool, ifs l x y = bif l.all id then y else x
  | [] => rfl
  | c :: r => by
    simp only [ifs, List.all_cons]
    rw [ifs_eq x y r]
    cases c <;> rfl
def chkL (t : St) : List Bool := ((List.range 10).map fun i => mayF (t.r i)) ++ (List.range 8).map fun i => sChk (t.s i) == 0
end Go.Sv
