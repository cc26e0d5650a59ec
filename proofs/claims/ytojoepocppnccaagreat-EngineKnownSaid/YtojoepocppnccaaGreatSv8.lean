/- A second evaluator for the model's code: equality, sums, comparisons. -/
import Derived.Test.YtojoepocppnccaaGreatSv7
import Derived.Laws.Strings
import Derived.Laws.StructEq
import Derived.Lib.SliceRun
import Derived.WalkSpells
namespace Go.Sv
noncomputable section
open Go.RowKit
variable {P : Program}

/-- Types of structs and arrays (of this translation) whose '==' is asked cell by cell. -/
def flatT : List Nat := [38, 40, 50, 94, 116, 152, 166, 41, 42]
def memN : List Nat → Nat → Bool
  | [], _ => false
  | x :: xs, n => bif Nat.beq x n then true else memN xs n
def FlatOk (P : Program) : Prop := ∀ t, memN flatT t = true → P.stoodInHeld t = false ∧ P.eqGuardType P.depth t = false

/-! ### '==' of structs and arrays -/
def andO : Bool → Option Bool → Option Bool
  | b, some c => some (b && c)
  | _, none => none
/-- The cells of a part. -/
def sub (P : Program) (c : List AV) (t : TypeId) (off : Nat) : Option (List AV) :=
  match qrun P (isAgg t) with
  | some agg => match qrun P (sizeOf t) with
    | some s => bif agg || Nat.beq s 1 then match dropW c off with
      | some c' => takeW c' s
      | none => none
      else none
    | none => none
  | none => none
def eqF (P : Program) (rec : TypeId → List AV → List AV → Option Bool) (c1 c2 : List AV) : List Field → Option Bool
  | [] => some true
  | f :: fs => bif decide (f.name = "_") then none else
    match sub P c1 f.type f.offset, sub P c2 f.type f.offset with
    | some a, some b => match rec f.type a b with
      | some r => andO r (eqF P rec c1 c2 fs)
      | none => none
    | _, _ => none
def eqAV (P : Program) : Nat → TypeId → List AV → List AV → Option Bool
  | 0, _, _, _ => none
  | d + 1, t, c1, c2 =>
    match qrun P (underlying t) with
    | some .bool => match c1, c2 with
      | [.bool a], [.bool b] => some (a == b)
      | _, _ => none
    | some (.int _) => match c1, c2 with
      | [.int k a], [.int k' b] => bif decide (k = k') then some (a == b) else none
      | _, _ => none
    | some .string => match c1, c2 with
      | [.str a], [.str b] => some (a == b)
      | _, _ => none
    | some (.struct fs) => bif memN flatT t then eqF P (eqAV P d) c1 c2 fs.toList else none
    | some (.array len e) => match c1, c2 with
      | [.arr w n f us], [.arr w' n' g vs] => match qrun P (isAgg e) with
        | some agg => match qrun P (sizeOf e) with
          | some s => bif Nat.beq w s && (Nat.beq w' s && (Nat.beq n len && (Nat.beq n' len && (agg || Nat.beq s 1)))) then
              bif (List.range len).all (fun i => (eqAV P d e (elt us f i) (elt vs g i)).isSome) then some ((List.range len).all fun i => (eqAV P d e (elt us f i) (elt vs g i)).getD false) else none
            else none
          | none => none
        | none => none
      | _, _ => none
    | _ => none

/-- A value of a type, by its cells. -/
def Valof (P : Program) (t : TypeId) (zs : List Value) (u : Value) : Prop := ∃ b, qrun P (isAgg t) = some b ∧ (b = true → u = .agg ⟨zs⟩) ∧ (b = false → zs = [u])
theorem sub_ok {κ : Kap} {c a : List AV} {t : TypeId} {off : Nat} (h : sub P c t off = some a) {zs : List Value} (hc : CRel κ c zs) (w : World) :
    ∃ u ys, (part t ⟨zs⟩ off).run P w = .ok u w ∧ Valof P t ys u ∧ CRel κ a ys := by
  unfold sub at h
  split at h
  · rename_i agg hagg
    split at h
    · rename_i s hs
      obtain ⟨hb, h⟩ := cond_some h
      split at h
      · rename_i c' hd
        obtain ⟨h1, h2⟩ := hc.dropW hd
        obtain ⟨h3, h4⟩ := h1.takeW h
        cases agg with
        | true =>
          refine ⟨_, _, ?_, ⟨true, hagg, fun _ => rfl, (fun h => by cases h)⟩, h3⟩
          unfold part
          refine (run_q hagg).trans ?_
          simp only [if_true]
          refine (run_q hs).trans ?_
          have : (⟨zs⟩ : Array Value).extract off (off + s) = ⟨(zs.drop off).take s⟩ := by
            apply Array.ext'
            simp
          rw [this]; rfl
        | false =>
          simp only [Bool.false_or] at hb
          have := Nat.eq_of_beq_eq_true hb
          subst this
          have hlt : off < zs.length := by simp only [List.length_drop] at h4; omega
          have hz : (zs.drop off).take 1 = [zs[off]] := by rw [List.drop_eq_getElem_cons hlt, List.take_succ_cons, List.take_zero]
          rw [hz] at h3
          refine ⟨_, _, ?_, ⟨false, hagg, (fun h => by cases h), fun _ => rfl⟩, h3⟩
          unfold part
          refine (run_q hagg).trans ?_
          have : (⟨zs⟩ : Array Value)[off]? = some zs[off] := by simp [hlt]
          simp only [Bool.false_eq_true, if_false, this]; rfl
      · cases h
    · cases h
  · cases h

theorem andO_spec {b : Bool} {r : Option Bool} {c : Bool} (h : andO b r = some c) : ∃ d, r = some d ∧ c = (b && d) := by
  cases r with
  | none => cases h
  | some d => exact ⟨d, rfl, (Option.some.inj h).symm⟩
theorem eqF_run {κ : Kap} {w : World} {d : Nat} {rec : TypeId → List AV → List AV → Option Bool}
    (hrec : ∀ t c1 c2 b, rec t c1 c2 = some b → ∀ zs1 zs2 u v, CRel κ c1 zs1 → CRel κ c2 zs2 → Valof P t zs1 u → Valof P t zs2 v → (Op.equalIn d t u v).run P w = .ok b w)
    {c1 c2 : List AV} {zs1 zs2 : List Value} (h1 : CRel κ c1 zs1) (h2 : CRel κ c2 zs2) : ∀ (fs : List Field) (b : Bool), eqF P rec c1 c2 fs = some b →
    (forIn fs ((none, ()) : Option Bool × Unit) (fun (f : Field) (_ : Option Bool × Unit) => (if f.name ≠ "_" then do
        let u ← part f.type ⟨zs1⟩ f.offset
        let v ← part f.type ⟨zs2⟩ f.offset
        let c ← Op.equalIn d f.type u v
        if (!c) = true then pure (ForInStep.done (some false, ())) else pure (ForInStep.yield (none, ()))
      else pure (ForInStep.yield (none, ())) : Sem (ForInStep (Option Bool × Unit))))).run P w = .ok (if b then none else some false, ()) w
  | [], b, h => by
    simp only [eqF, Option.some.injEq] at h
    subst h
    rfl
  | f :: fs, b, h => by
    simp only [eqF] at h
    obtain ⟨hnm, h⟩ := cond_some' h
    have hne : f.name ≠ "_" := of_decide_eq_false hnm
    split at h
    · rename_i a1 a2 hs1 hs2
      split at h
      · rename_i c hc
        obtain ⟨e, he, rfl⟩ := andO_spec h
        obtain ⟨u, y1, hu, hv1, hr1⟩ := sub_ok hs1 h1 w
        obtain ⟨v, y2, hv, hv2, hr2⟩ := sub_ok hs2 h2 w
        rw [List.forIn_cons]
        rw [if_pos hne]
        have hbody : (do
            let u ← part f.type ⟨zs1⟩ f.offset
            let v ← part f.type ⟨zs2⟩ f.offset
            let c ← Op.equalIn d f.type u v
            if (!c) = true then pure (ForInStep.done (some false, ())) else pure (ForInStep.yield (none, ())) : Sem (ForInStep (Option Bool × Unit))).run P w = .ok (if c then ForInStep.yield (none, ()) else ForInStep.done (some false, ())) w := by
          refine (run_bind_ok hu).trans ?_
          refine (run_bind_ok hv).trans ?_
          refine (run_bind_ok (hrec _ _ _ _ hc _ _ _ _ hr1 hr2 hv1 hv2)).trans ?_
          cases c <;> rfl
        refine (run_bind_ok hbody).trans ?_
        cases c with
        | false => rfl
        | true =>
          simp only [if_true, Bool.true_and]
          exact eqF_run hrec h1 h2 fs e he
      · cases h
    · cases h
theorem eqE_run {w : World} {d n : Nat} {e : TypeId} {xs ys : Array Value} {F : Nat → Bool} : ∀ (is : List Nat), (∀ i ∈ is, ∃ u v c, (part e xs (i * n)).run P w = .ok u w ∧ (part e ys (i * n)).run P w = .ok v w ∧ (Op.equalIn d e u v).run P w = .ok c w ∧ F i = c) →
    (forIn is ((none, ()) : Option Bool × Unit) (fun (i : Nat) (_ : Option Bool × Unit) => (do
        let u ← part e xs (i * n)
        let v ← part e ys (i * n)
        let c ← Op.equalIn d e u v
        if (!c) = true then pure (ForInStep.done (some false, ())) else pure (ForInStep.yield (none, ())) : Sem (ForInStep (Option Bool × Unit))))).run P w = .ok (if is.all F then none else some false, ()) w
  | [], _ => rfl
  | i :: is, h => by
    obtain ⟨u, v, c, hu, hv, hc, hF⟩ := h i (List.mem_cons_self ..)
    rw [List.forIn_cons]
    have hbody : (do
        let u ← part e xs (i * n)
        let v ← part e ys (i * n)
        let c ← Op.equalIn d e u v
        if (!c) = true then pure (ForInStep.done (some false, ())) else pure (ForInStep.yield (none, ())) : Sem (ForInStep (Option Bool × Unit))).run P w = .ok (if c then ForInStep.yield (none, ()) else ForInStep.done (some false, ())) w := by
      refine (run_bind_ok hu).trans ?_
      refine (run_bind_ok hv).trans ?_
      refine (run_bind_ok hc).trans ?_
      cases c <;> rfl
    refine (run_bind_ok hbody).trans ?_
    rw [List.all_cons, hF]
    cases c with
    | false => rfl
    | true =>
      simp only [if_true, Bool.true_and]
      exact eqE_run is fun j hj => h j (List.mem_cons_of_mem _ hj)

theorem valof_agg {t : TypeId} {zs : List Value} {u : Value} (h : Valof P t zs u) (ha : qrun P (isAgg t) = some true) : u = .agg ⟨zs⟩ := by
  obtain ⟨b, h1, h2, _⟩ := h
  rw [ha] at h1; cases h1; exact h2 rfl
theorem valof_one {t : TypeId} {zs : List Value} {u : Value} (h : Valof P t zs u) (ha : qrun P (isAgg t) = some false) : zs = [u] := by
  obtain ⟨b, h1, _, h2⟩ := h
  rw [ha] at h1; cases h1; exact h2 rfl
theorem isAgg_of {t : TypeId} {d : TypeDesc} (h : qrun P (underlying t) = some d) : qrun P (isAgg t) = some (match d with | .struct _ | .array _ _ => true | _ => false) := by
  have : ∀ (e : Sem TypeDesc), qrun P e = some d → ∀ (f : TypeDesc → Sem Bool), qrun P (e.bind f) = qrun P (f d) := by
    intro e
    induction e with
    | pure a => intro h f; simp only [qrun, Option.some.injEq] at h; subst h; rfl
    | program k ih => intro h f; exact ih P h f
    | mark m k ih => intro h f; exact ih h f
    | _ => intro h; simp [qrun] at h
  unfold isAgg
  refine (this _ h _).trans ?_
  cases d <;> rfl

theorem eqArr {κ : Kap} {w : World} {d : Nat} {t e : TypeId} {W n : Nat} {agg : Bool} {f g : Nat → List AV} {us vs : List (Nat × List AV)} {zs1 zs2 : List Value}
    (ih : ∀ c1 c2 b, eqAV P d e c1 c2 = some b → ∀ κ zs1 zs2 u v, CRel κ c1 zs1 → CRel κ c2 zs2 → Valof P e zs1 u → Valof P e zs2 v → (Op.equalIn d e u v).run P w = .ok b w)
    (hu : qrun P (underlying t) = some (.array n e)) (hagg : qrun P (isAgg e) = some agg) (hs : qrun P (sizeOf e) = some W) (q5 : (agg || Nat.beq W 1) = true)
    (hall : (List.range n).all (fun i => (eqAV P d e (elt us f i) (elt vs g i)).isSome) = true) (r1 : CRel κ [.arr W n f us] zs1) (r2 : CRel κ [.arr W n g vs] zs2) :
    (Op.equalIn (d + 1) t (.agg ⟨zs1⟩) (.agg ⟨zs2⟩)).run P w = .ok ((List.range n).all fun i => (eqAV P d e (elt us f i) (elt vs g i)).getD false) w := by
  obtain ⟨a1, a2, a3, _⟩ := r1.arr_inv
  obtain ⟨b1, b2, b3, _⟩ := r2.arr_inv
  have hpart : ∀ (zs : List Value) (i : Nat) (c : List AV), i < n → n * W ≤ zs.length → CRel κ.nl c ((zs.drop (i * W)).take W) → ∃ u, (part e ⟨zs⟩ (i * W)).run P w = .ok u w ∧ Valof P e ((zs.drop (i * W)).take W) u := by
    intro zs i c hi hz hc
    have hle : i * W + W ≤ n * W := by
      have := Nat.mul_le_mul_right W (Nat.succ_le_of_lt hi)
      rw [Nat.succ_mul] at this; exact this
    cases agg with
    | true =>
      refine ⟨_, ?_, true, hagg, fun _ => rfl, (fun h => by cases h)⟩
      unfold part
      refine (run_q hagg).trans ?_
      simp only [if_true]
      refine (run_q hs).trans ?_
      have : (⟨zs⟩ : Array Value).extract (i * W) (i * W + W) = ⟨(zs.drop (i * W)).take W⟩ := by
        apply Array.ext'
        simp
      rw [this]; rfl
    | false =>
      simp only [Bool.false_or] at q5
      have := Nat.eq_of_beq_eq_true q5
      subst this
      have hlt : i * 1 < zs.length := by omega
      have hz : (zs.drop (i * 1)).take 1 = [zs[i * 1]] := by rw [List.drop_eq_getElem_cons hlt, List.take_succ_cons, List.take_zero]
      refine ⟨_, ?_, false, hagg, (fun h => by cases h), fun _ => hz⟩
      unfold part
      refine (run_q hagg).trans ?_
      have : (⟨zs⟩ : Array Value)[i * 1]? = some zs[i * 1] := by simp only [List.getElem?_toArray]; exact List.getElem?_eq_getElem hlt
      simp only [Bool.false_eq_true, if_false, this]; rfl
  simp only [Op.equalIn]
  refine (run_q hu).trans ?_
  refine (run_q hs).trans ?_
  rw [Std.Legacy.Range.forIn_eq_forIn_range']
  simp only [Std.Legacy.Range.size, Nat.sub_zero, Nat.add_one_sub_one, Nat.div_one]
  have hr : List.range n = List.range' 0 n := List.range_eq_range'
  rw [hr] at hall ⊢
  have := eqE_run (P := P) (w := w) (d := d) (n := W) (e := e) (xs := ⟨zs1⟩) (ys := ⟨zs2⟩) (F := fun i => (eqAV P d e (elt us f i) (elt vs g i)).getD false) (List.range' 0 n) (fun i hi => by
    have hlt : i < n := by have := List.mem_range'_1.1 hi; omega
    obtain ⟨u1, hu1, hv1⟩ := hpart zs1 i _ hlt a1 (a3 i hlt)
    obtain ⟨u2, hu2, hv2⟩ := hpart zs2 i _ hlt b1 (b3 i hlt)
    have hs' := List.all_eq_true.1 hall i hi
    obtain ⟨c, hc⟩ := Option.isSome_iff_exists.1 hs'
    exact ⟨u1, u2, c, hu1, hu2, ih _ _ c hc κ.nl _ _ _ _ (a3 i hlt) (b3 i hlt) hv1 hv2, by simp only [hc, Option.getD_some]⟩)
  refine (run_bind_ok this).trans ?_
  cases (List.range' 0 n).all _ <;> rfl

theorem eqAV_ok (hT : FlatOk P) {w : World} : ∀ (d : Nat) (t : TypeId) (c1 c2 : List AV) (b : Bool), eqAV P d t c1 c2 = some b →
    ∀ (κ : Kap) (zs1 zs2 : List Value) (u v : Value), CRel κ c1 zs1 → CRel κ c2 zs2 → Valof P t zs1 u → Valof P t zs2 v → (Op.equalIn d t u v).run P w = .ok b w
  | 0, t, c1, c2, b, h => by simp [eqAV] at h
  | d + 1, t, c1, c2, b, h => by
    intro κ zs1 zs2 u v r1 r2 v1 v2
    simp only [eqAV] at h
    split at h
    · rename_i hu
      have ha := isAgg_of hu
      split at h
      · rename_i a a'
        simp only [Option.some.injEq] at h; subst h
        have e1 := valof_one v1 ha; have e2 := valof_one v2 ha
        subst e1; subst e2
        cases r1; cases r2
        simp only [Op.equalIn]
        exact (run_q hu).trans rfl
      · cases h
    · rename_i k0 hu
      have ha := isAgg_of hu
      split at h
      · rename_i k a k' a'
        obtain ⟨hk, h⟩ := cond_some h
        have hk := of_decide_eq_true hk
        simp only [Option.some.injEq] at h; subst h
        have e1 := valof_one v1 ha; have e2 := valof_one v2 ha
        subst e1; subst e2
        cases r1; cases r2
        simp only [Op.equalIn]
        refine (run_q hu).trans ?_
        simp only [if_pos hk]; rfl
      · cases h
    · rename_i hu
      have ha := isAgg_of hu
      split at h
      · rename_i a a'
        simp only [Option.some.injEq] at h; subst h
        have e1 := valof_one v1 ha; have e2 := valof_one v2 ha
        subst e1; subst e2
        cases r1; cases r2
        simp only [Op.equalIn]
        refine (run_q hu).trans ?_
        have : ((⟨a.toArray⟩ : ByteArray) == ⟨a'.toArray⟩) = (a == a') := by
          rw [beq_toListBytes]; simp
        simp only [this]; rfl
      · cases h
    · rename_i fs hu
      have ha := isAgg_of hu
      obtain ⟨hmt, h⟩ := cond_some h
      have hst := (hT t hmt).1
      have e1 := valof_agg v1 ha; have e2 := valof_agg v2 ha
      subst e1; subst e2
      simp only [Op.equalIn]
      refine (run_q hu).trans ?_
      refine (run_bind_ok (e := program) (a := P) (w' := w) rfl).trans ?_
      rw [hst, if_neg (by simp)]
      have := eqF_run (P := P) (w := w) (d := d) (fun t c1 c2 b h => eqAV_ok hT d t c1 c2 b h κ) r1 r2 fs.toList b h
      rw [← Array.forIn_toList]
      refine (run_bind_ok this).trans ?_
      cases b <;> rfl
    · rename_i len e hu
      have ha := isAgg_of hu
      split at h
      · rename_i W n f us W' n' g vs
        split at h
        · rename_i agg hagg
          split at h
          · rename_i s hs
            obtain ⟨hb, g1⟩ := cond_some h; clear h
            obtain ⟨hall, h⟩ := cond_some g1; clear g1
            simp only [Bool.and_eq_true] at hb
            obtain ⟨q1, q2, q3, q4, q5⟩ := hb
            have q1 := Nat.eq_of_beq_eq_true q1; have q2 := Nat.eq_of_beq_eq_true q2; have q3 := Nat.eq_of_beq_eq_true q3; have q4 := Nat.eq_of_beq_eq_true q4
            subst q1; subst q2; subst q3; subst q4
            simp only [Option.some.injEq] at h; subst h
            have e1 := valof_agg v1 ha; have e2 := valof_agg v2 ha
            subst e1; subst e2
            exact eqArr (fun c1 c2 b h κ => eqAV_ok hT d e c1 c2 b h κ) hu hagg hs q5 hall r1 r2
          · cases h
        · cases h
      · cases h
    · cases h

/-! ### two operands, one operand -/
def aggT (P : Program) (t : TypeId) : Bool := match qrun P (isAgg t) with | some true => true | _ => false
section
variable {R : Type} (P)
def intOp (op : BinOp) (kd kd' : IntKind) (a b : Int) (k : Ent → Option R) (other : Option R) : Option R :=
  match op with
  | .shl => bif decide (b < 0) then none else k ⟨.int kd (kd.wrap (a * 2 ^ (min b.toNat kd.bits))), [], 0, []⟩
  | .shr => bif decide (b < 0) then none else k ⟨.int kd (a.fdiv (2 ^ (min b.toNat kd.bits))), [], 0, []⟩
  | .quo => bif decide (kd = kd') then bif decide (b = 0) then none else k ⟨.int kd (kd.wrap (a.tdiv b)), [], 0, []⟩ else none
  | .rem => bif decide (kd = kd') then bif decide (b = 0) then none else k ⟨.int kd (a.tmod b), [], 0, []⟩ else none
  | .add => bif decide (kd = kd') then k ⟨.int kd (kd.wrap (a + b)), [], 0, []⟩ else none
  | .sub => bif decide (kd = kd') then k ⟨.int kd (kd.wrap (a - b)), [], 0, []⟩ else none
  | .mul => bif decide (kd = kd') then k ⟨.int kd (kd.wrap (a * b)), [], 0, []⟩ else none
  | .eql => bif decide (kd = kd') then k ⟨.bool (a == b), [], 0, []⟩ else none
  | .neq => bif decide (kd = kd') then k ⟨.bool (a != b), [], 0, []⟩ else none
  | .lss => bif decide (kd = kd') then k ⟨.bool (decide (a < b)), [], 0, []⟩ else none
  | .leq => bif decide (kd = kd') then k ⟨.bool (decide (a ≤ b)), [], 0, []⟩ else none
  | .gtr => bif decide (kd = kd') then k ⟨.bool (decide (a > b)), [], 0, []⟩ else none
  | .geq => bif decide (kd = kd') then k ⟨.bool (decide (a ≥ b)), [], 0, []⟩ else none
  | _ => other
def binE (o : Oper) (op : BinOp) (t : TypeId) (x y : Operand) (E : Env) (k : Ent → Option R) : Option R :=
  match aeval E x, aeval E y with
  | some (.int kd a), some (.int kd' b) => intOp op kd kd' a b k (pureE P o E k)
  | some (.str a), some (.str b) =>
    match op with
    | .eql => k ⟨.bool (a == b), [], 0, []⟩
    | .neq => k ⟨.bool (!(a == b)), [], 0, []⟩
    | .add => bif decide (((a.length + b.length : Nat) : Int) > IntKind.i64.max) then none else k ⟨.str (a ++ b), [], 0, []⟩
    | _ => pureE P o E k
  | some (.agg a), some (.agg b) =>
    bif memN flatT t && aggT P t then
      match eqAV P Op.maxDepth t a b with
      | some r =>
        match op with
        | .eql => k ⟨.bool r, [], 0, []⟩
        | .neq => k ⟨.bool (!r), [], 0, []⟩
        | _ => none
      | none => none
    else none
  | some (.lst _ _ len _), some (.raw (.slice none 0 0)) =>
    match P.underlying t with
    | some (.slice _) =>
      match op with
      | .eql => bif Nat.blt 0 len then k ⟨.bool false, [], 0, []⟩ else none
      | .neq => bif Nat.blt 0 len then k ⟨.bool true, [], 0, []⟩ else none
      | _ => none
    | _ => none
  | _, _ => pureE P o E k
end
theorem intOp_ok {R : Type} {op : BinOp} {kd kd' : IntKind} {a b : Int} {k : Ent → Option R} {other : Option R} {r : R} (h : intOp op kd kd' a b k other = some r) :
    (∃ v v', k ⟨v, [], 0, []⟩ = some r ∧ (∀ κ, VRel κ v v') ∧ ∀ (t : TypeId) (w : World), (binOp op t (.int kd a) (.int kd' b)).run P w = .ok v' w) ∨ other = some r := by
  have same : ∀ {x : Option R} {v : AV} {v' : Value}, (bif decide (kd = kd') then k ⟨v, [], 0, []⟩ else none) = some r → (∀ κ, VRel κ v v') → (kd = kd' → ∀ (t : TypeId) (w : World), (binOp op t (.int kd a) (.int kd' b)).run P w = .ok v' w) →
      (∃ v v', k ⟨v, [], 0, []⟩ = some r ∧ (∀ κ, VRel κ v v') ∧ ∀ (t : TypeId) (w : World), (binOp op t (.int kd a) (.int kd' b)).run P w = .ok v' w) ∨ x = some r := by
    intro x v v' h hv hrun
    obtain ⟨hk, h⟩ := cond_some h
    exact .inl ⟨v, v', h, hv, hrun (of_decide_eq_true hk)⟩
  unfold intOp at h
  split at h
  · obtain ⟨hb, h⟩ := cond_some' h
    have hb := of_decide_eq_false hb
    exact .inl ⟨_, _, h, fun κ => .int _ _ .nil, fun t w => by simp only [binOp, Op.shift, if_neg hb]; rfl⟩
  · obtain ⟨hb, h⟩ := cond_some' h
    have hb := of_decide_eq_false hb
    exact .inl ⟨_, _, h, fun κ => .int _ _ .nil, fun t w => by simp only [binOp, Op.shift, if_neg hb]; rfl⟩
  · obtain ⟨hk, h⟩ := cond_some h
    have hk := of_decide_eq_true hk
    obtain ⟨hb, h⟩ := cond_some' h
    have hb := of_decide_eq_false hb
    exact .inl ⟨_, _, h, fun κ => .int _ _ .nil, fun t w => by subst hk; simp only [binOp, Op.intDiv, if_neg hb, ne_eq, not_true_eq_false, if_false]; rfl⟩
  · obtain ⟨hk, h⟩ := cond_some h
    have hk := of_decide_eq_true hk
    obtain ⟨hb, h⟩ := cond_some' h
    have hb := of_decide_eq_false hb
    exact .inl ⟨_, _, h, fun κ => .int _ _ .nil, fun t w => by subst hk; simp only [binOp, Op.intDiv, if_neg hb, ne_eq, not_true_eq_false, if_false]; rfl⟩
  · exact same h (fun κ => .int _ _ .nil) fun hk t w => by subst hk; simp only [binOp, Op.intArith, ne_eq, not_true_eq_false, if_false]; rfl
  · exact same h (fun κ => .int _ _ .nil) fun hk t w => by subst hk; simp only [binOp, Op.intArith, ne_eq, not_true_eq_false, if_false]; rfl
  · exact same h (fun κ => .int _ _ .nil) fun hk t w => by subst hk; simp only [binOp, Op.intArith, ne_eq, not_true_eq_false, if_false]; rfl
  · exact same h (fun κ => .bool _ .nil) fun hk t w => by subst hk; simp only [binOp, Op.intCmp, ne_eq, not_true_eq_false, if_false]; rfl
  · exact same h (fun κ => .bool _ .nil) fun hk t w => by subst hk; simp only [binOp, Op.intCmp, ne_eq, not_true_eq_false, if_false]; rfl
  · exact same h (fun κ => .bool _ .nil) fun hk t w => by subst hk; simp only [binOp, Op.intCmp, ne_eq, not_true_eq_false, if_false]; rfl
  · exact same h (fun κ => .bool _ .nil) fun hk t w => by subst hk; simp only [binOp, Op.intCmp, ne_eq, not_true_eq_false, if_false]; rfl
  · exact same h (fun κ => .bool _ .nil) fun hk t w => by subst hk; simp only [binOp, Op.intCmp, ne_eq, not_true_eq_false, if_false]; rfl
  · exact same h (fun κ => .bool _ .nil) fun hk t w => by subst hk; simp only [binOp, Op.intCmp, ne_eq, not_true_eq_false, if_false]; rfl
  · exact .inr h

theorem binE_ok (hT : FlatOk P) {R : Type} {o : Oper} {op : BinOp} {t : TypeId} {x y : Operand} {z : TypeId} (ho : o.op = .binOp op t x y z) {E : Env} {k : Ent → Option R} {r : R} (h : binE P o op t x y E k = some r) :
    ∃ v, k ⟨v, [], 0, []⟩ = some r ∧ ∀ m, StillOk P o E m v [] := by
  have hmx : x ∈ o.op.operands := by rw [ho]; simp [Op.operands]
  have hmy : y ∈ o.op.operands := by rw [ho]; simp [Op.operands]
  unfold binE at h
  split at h
  · rename_i kd a kd' b hx hy
    rcases intOp_ok (P := P) h with ⟨v, v', h1, h2, h3⟩ | h
    · refine ⟨v, h1, fun m κ a' w M hA hR _ => ⟨v', h2 κ, ?_⟩⟩
      have e1 := int_of (hA x hmx _ hx)
      have e2 := int_of (hA y hmy _ hy)
      simp only [execOp, ho, e1, e2]
      refine run_value ?_
      refine (run_bind_ok (e := eqGuard op t x y (.int kd a) (.int kd' b)) (a := ()) (w' := w) ?_).trans (h3 t w)
      unfold eqGuard
      split <;> rfl
    · exact pureE_ok h
  · rename_i a b hx hy
    have key : ∀ (v' : Value) (v : AV), (∀ κ, VRel κ v v') → (∀ w : World, (binOp op t (.string ⟨a.toArray⟩) (.string ⟨b.toArray⟩)).run P w = .ok v' w) → ∀ m, StillOk P o E m v [] := by
      intro v' v hv hrun m κ a' w M hA hR _
      refine ⟨v', hv κ, ?_⟩
      have e1 : a'.eval x = .string ⟨a.toArray⟩ := by
        have := hA x hmx _ hx
        generalize a'.eval x = u at this
        cases this; rfl
      have e2 : a'.eval y = .string ⟨b.toArray⟩ := by
        have := hA y hmy _ hy
        generalize a'.eval y = u at this
        cases this; rfl
      simp only [execOp, ho, e1, e2]
      refine run_value ?_
      refine (run_bind_ok (e := eqGuard op t x y _ _) (a := ()) (w' := w) ?_).trans (hrun w)
      unfold eqGuard
      split <;> rfl
    split at h
    · exact ⟨_, h, key _ _ (fun κ => .bool _ .nil) fun w => by simp only [binOp, Op.stringOp, ByteArray.toList_mk]; rfl⟩
    · exact ⟨_, h, key _ _ (fun κ => .bool _ .nil) fun w => by simp only [binOp, Op.stringOp, ByteArray.toList_mk]; rfl⟩
    · obtain ⟨hb, h⟩ := cond_some' h
      have hb := of_decide_eq_false hb
      refine ⟨_, h, key (.string (⟨a.toArray⟩ ++ ⟨b.toArray⟩)) _ (fun κ => ?_) fun w => ?_⟩
      · have e : (⟨a.toArray⟩ ++ ⟨b.toArray⟩ : ByteArray) = ⟨(a ++ b).toArray⟩ := by
          apply ByteArray.ext; simp
        rw [e]; exact .str _ .nil
      · simp only [binOp, Op.stringOp]
        rw [if_neg (by simpa [ByteArray.size] using hb)]
        rfl
    · exact pureE_ok h
  · rename_i a b hx hy
    obtain ⟨hm, h⟩ := cond_some h
    simp only [Bool.and_eq_true] at hm
    have hg := (hT t hm.1).2
    have hagg : qrun P (isAgg t) = some true := by
      have := hm.2
      unfold aggT at this
      split at this
      · assumption
      · cases this
    split at h
    · rename_i b' heq
      have key : ∀ (f : Bool → Bool), ((op = .eql ∧ f = id) ∨ (op = .neq ∧ f = not)) → ∀ m, StillOk P o E m (.bool (f b')) [] := by
        intro f hop m κ a' w M hA hR _
        refine ⟨_, .bool _ .nil, ?_⟩
        have r1 := hA x hmx _ hx
        have r2 := hA y hmy _ hy
        generalize e1 : a'.eval x = u1 at r1
        generalize e2 : a'.eval y = u2 at r2
        cases r1 with
        | agg _ zs1 c1 _ =>
          cases r2 with
          | agg _ zs2 c2 _ =>
            simp only [execOp, ho, e1, e2]
            have hgr : (eqGuard op t x y (.agg ⟨zs1⟩) (.agg ⟨zs2⟩)).run P w = .ok () w := by
              unfold eqGuard
              rcases hop with ⟨rfl, _⟩ | ⟨rfl, _⟩
              · refine (run_bind_ok (e := program) (a := P) (w' := w) rfl).trans ?_
                simp [hg, pure]
              · refine (run_bind_ok (e := program) (a := P) (w' := w) rfl).trans ?_
                simp [hg, pure]
            have heq' : (Op.equal t (.agg ⟨zs1⟩) (.agg ⟨zs2⟩)).run P w = .ok b' w :=
              eqAV_ok hT _ _ _ _ _ heq κ zs1 zs2 _ _ c1 c2 ⟨true, hagg, fun _ => rfl, fun h => by cases h⟩ ⟨true, hagg, fun _ => rfl, fun h => by cases h⟩
            refine run_value ?_
            refine (run_bind_ok hgr).trans ?_
            rcases hop with ⟨rfl, rfl⟩ | ⟨rfl, rfl⟩
            · exact (run_bind_ok heq').trans rfl
            · exact (run_bind_ok heq').trans rfl
      split at h
      · exact ⟨_, h, key id (.inl ⟨rfl, rfl⟩)⟩
      · exact ⟨_, h, key not (.inr ⟨rfl, rfl⟩)⟩
      · cases h
    · cases h
  · rename_i W f len us hx hy
    split at h
    · rename_i e hu
      have key : 0 < len → ∀ (v : Bool), ((op = .eql ∧ v = false) ∨ (op = .neq ∧ v = true)) → ∀ m, StillOk P o E m (.bool v) [] := by
        intro hl v hop m κ a' w M hA hR _
        refine ⟨_, .bool _ .nil, ?_⟩
        have r1 := hA x hmx _ hx
        have r2 := hA y hmy _ hy
        generalize e1 : a'.eval x = u1 at r1
        generalize e2 : a'.eval y = u2 at r2
        cases r2 with
        | raw _ _ =>
          have hs : ∃ ad c, u1 = .slice (some ad) len c := by
            cases r1 with
            | lst _ _ b off cap _ _ cs => exact ⟨_, _, rfl⟩
            | lst0 => omega
          obtain ⟨ad, c, rfl⟩ := hs
          simp only [execOp, ho, e1, e2]
          refine run_value ?_
          refine (run_bind_ok (e := eqGuard op t x y _ _) (a := ()) (w' := w) ?_).trans ?_
          · unfold eqGuard
            split <;> rfl
          · rcases hop with ⟨rfl, rfl⟩ | ⟨rfl, rfl⟩
            · exact Lib.run_eql_slice_nil w _ _ _ _ _ _ _ hu
            · exact run_neq_slice_nil_any w _ _ _ _ _ _ _ hu
      split at h
      · obtain ⟨hb, h⟩ := cond_some h
        exact ⟨_, h, key (by simpa using hb) _ (.inl ⟨rfl, rfl⟩)⟩
      · obtain ⟨hb, h⟩ := cond_some h
        exact ⟨_, h, key (by simpa using hb) _ (.inr ⟨rfl, rfl⟩)⟩
      · cases h
    · cases h
  · exact pureE_ok h
end
end Go.Sv
