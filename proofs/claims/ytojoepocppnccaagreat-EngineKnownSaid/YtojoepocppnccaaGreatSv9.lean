/- A second evaluator for the model's code: lengths, slices, appending, interfaces. -/
import Derived.Test.YtojoepocppnccaaGreatSv8
namespace Go.Sv
noncomputable section
open Go.RowKit
variable {P : Program}

/-! ### what only hands on -/
section
variable {R : Type} (P)
def moveE (x : Operand) (E : Env) (k : Ent → Option R) : Option R :=
  match aeval E x with
  | some v => k ⟨v, [], 0, []⟩
  | none => none
def pickE (c x y : Operand) (E : Env) (k : Ent → Option R) : Option R :=
  match aeval E c with
  | some (.bool b) => match aeval E x with
    | some v => match aeval E y with
      | some (.bool u) => match v with
        | .bool v => k ⟨.bool (bif b then v else u), [], 0, []⟩
        | v => bif b then k ⟨v, [], 0, []⟩ else k ⟨.bool u, [], 0, []⟩
      | some u => bif b then k ⟨v, [], 0, []⟩ else k ⟨u, [], 0, []⟩
      | none => none
    | none => none
  | _ => none
def nthA : List AV → Nat → Option AV
  | [], _ => none
  | x :: xs, n => bif Nat.beq n 0 then some x else nthA xs (n - 1)
def extractE (x : Operand) (i : Nat) (E : Env) (k : Ent → Option R) : Option R :=
  match aeval E x with
  | some (.tup c) => bif c.all (fun x => !isArr x) then match nthA c i with
    | some v => k ⟨v, [], 0, []⟩
    | none => none
    else none
  | _ => none
def nilCheckE (o : Oper) (x : Operand) (E : Env) (k : Ent → Option R) : Option R :=
  match aeval E x with
  | some (.ptr n p i) => k ⟨.ptr n p i, [], 0, []⟩
  | some (.sptr c i) => k ⟨.sptr c i, [], 0, []⟩
  | some (.fn f a b) => k ⟨.fn f a b, [], 0, []⟩
  | some (.ifc t v) => k ⟨.ifc t v, [], 0, []⟩
  | _ => pureE P o E k
def makeInterfaceE (t : TypeId) (x : Operand) (E : Env) (k : Ent → Option R) : Option R :=
  match qrun P (underlying t) with
  | some (.interface _) => none
  | some _ => match aeval E x with
    | some v => bif isArr v then none else k ⟨.ifc t v, [], 0, []⟩
    | none => none
  | none => none
def makeFuncE (fn : Fn) (first captured : Array Operand) (E : Env) (k : Ent → Option R) : Option R :=
  match fn with
  | .func f => match aevals E first.toList with
    | some a => match aevals E captured.toList with
      | some b => bif a.all (fun x => !isArr x) && b.all (fun x => !isArr x) then k ⟨.fn f a b, [], 0, []⟩ else none
      | none => none
    | none => none
  | _ => none
/-- Lengths. -/
def lenE (o : Oper) (t : TypeId) (x : Operand) (E : Env) (k : Ent → Option R) : Option R :=
  match aeval E x with
  | some (.slc _ _ _ _ _ len _) => match qrun P (underlying t) with
    | some (.slice _) => k ⟨.int .i64 (len : Int), [], 0, []⟩
    | _ => none
  | some (.lst _ _ len _) => match qrun P (underlying t) with
    | some (.slice _) => k ⟨.int .i64 (len : Int), [], 0, []⟩
    | _ => none
  | some (.str l) => match qrun P (underlying t) with
    | some .string => k ⟨.int .i64 (l.length : Int), [], 0, []⟩
    | _ => none
  | some (.mp _) => none
  | some _ => match qrun P (underlying t) with
    | some (.array n _) => k ⟨.int .i64 (n : Int), [], 0, []⟩
    | _ => pureE P o E k
  | none => none
def minE (o : Oper) (isMax : Bool) (args : List Operand) (E : Env) (k : Ent → Option R) : Option R :=
  match aevals E args with
  | some [.int kd a, .int kd' b] => bif decide (kd = kd') then
      (bif isMax then k ⟨.int kd (bif decide (b > a) then b else a), [], 0, []⟩ else k ⟨.int kd (bif decide (b < a) then b else a), [], 0, []⟩) else none
  | _ => pureE P o E k
end

theorem CRel.getV {κ : Kap} : ∀ {c : List AV} {zs : List Value} {i : Nat} {v : AV}, CRel κ c zs → c.all (fun x => !isArr x) = true → nthA c i = some v → ∃ u, zs[i]? = some u ∧ VRel κ v u
  | [], zs, i, v, _, _, h => by simp [nthA] at h
  | x :: xs, zs, i, v, r, ha, h => by
    simp only [List.all_cons, Bool.and_eq_true, Bool.not_eq_true'] at ha
    obtain ⟨y, ys, rfl, h1, h2⟩ := r.head ha.1
    simp only [nthA] at h
    cases hi : Nat.beq i 0 with
    | true =>
      rw [hi] at h
      simp only [cond_true, Option.some.injEq] at h; subst h
      have := Nat.eq_of_beq_eq_true hi; subst this
      exact ⟨y, rfl, h1⟩
    | false =>
      rw [hi] at h
      have hi0 : i ≠ 0 := fun e => by subst e; simp at hi
      obtain ⟨u, h3, h4⟩ := CRel.getV (i := i - 1) h2 ha.2 h
      refine ⟨u, ?_, h4⟩
      obtain ⟨j, rfl⟩ : ∃ j, i = j + 1 := ⟨i - 1, by omega⟩
      simpa using h3
/-- Values, one by one. -/
theorem CRel.map_len {κ : Kap} {c : List AV} {zs : List Value} (r : CRel κ c zs) (ha : c.all (fun x => !isArr x) = true) : zs.length = c.length := by
  rw [r.length]
  clear r
  induction c with
  | nil => rfl
  | cons x xs ih =>
    simp only [List.all_cons, Bool.and_eq_true, Bool.not_eq_true'] at ha
    have : width x = 1 := by cases x <;> first | rfl | (simp [isArr] at ha; done)
    simp only [cw, this, ih ha.2, List.length_cons]; omega

theorem moveE_ok {R : Type} {o : Oper} {x : Operand} (ho : o.op = .move x ∨ o.op = .assign x) {E : Env} {k : Ent → Option R} {r : R} (h : moveE x E k = some r) :
    ∃ v, k ⟨v, [], 0, []⟩ = some r ∧ ∀ m, StillOk P o E m v [] := by
  unfold moveE at h
  split at h
  · rename_i v hx
    refine ⟨v, h, fun m κ a w M hA hR _ => ⟨a.eval x, hA x (by rcases ho with ho | ho <;> rw [ho] <;> simp [Op.operands]) _ hx, ?_⟩⟩
    rcases ho with ho | ho <;> (simp only [execOp, ho]; rfl)
  · cases h
theorem bool_of {κ : Kap} {b : Bool} {y : Value} (h : VRel κ (.bool b) y) : y = .bool b := by cases h; rfl
theorem pickE_ok {R : Type} {o : Oper} {c x y : Operand} (ho : o.op = .pick c x y) {E : Env} {k : Ent → Option R} {r : R} (h : pickE c x y E k = some r) :
    ∃ v, k ⟨v, [], 0, []⟩ = some r ∧ ∀ m, StillOk P o E m v [] := by
  have hmc : c ∈ o.op.operands := by rw [ho]; simp [Op.operands]
  have hmx : x ∈ o.op.operands := by rw [ho]; simp [Op.operands]
  have hmy : y ∈ o.op.operands := by rw [ho]; simp [Op.operands]
  unfold pickE at h
  split at h
  · rename_i b hc
    have key : ∀ (v u : AV), aeval E x = some v → aeval E y = some u → ∀ m, StillOk P o E m (if b then v else u) [] := by
      intro v u hx hy m κ a w M hA hR _
      have hb := bool_of (hA c hmc _ hc)
      refine ⟨if b then a.eval x else a.eval y, ?_, ?_⟩
      · cases b
        · exact hA y hmy _ hy
        · exact hA x hmx _ hx
      · simp only [execOp, ho, hb]
        refine (run_bind_ok (e := asBool (.bool b)) (a := b) (w' := w) rfl).trans ?_
        cases b <;> rfl
    split at h
    · rename_i v hx
      split at h
      · rename_i u hy
        split at h
        · rename_i v'
          refine ⟨_, h, ?_⟩
          have := key _ _ hx hy
          cases b <;> exact this
        · cases b
          · exact ⟨_, h, by have := key _ _ hx hy; simpa using this⟩
          · exact ⟨_, h, by have := key _ _ hx hy; simpa using this⟩
      · rename_i u hne hy
        cases b
        · exact ⟨_, h, by have := key _ _ hx hy; simpa using this⟩
        · exact ⟨_, h, by have := key _ _ hx hy; simpa using this⟩
      · cases h
    · cases h
  · cases h
theorem extractE_ok {R : Type} {o : Oper} {x : Operand} {i : Nat} (ho : o.op = .extract x i) {E : Env} {k : Ent → Option R} {r : R} (h : extractE x i E k = some r) :
    ∃ v, k ⟨v, [], 0, []⟩ = some r ∧ ∀ m, StillOk P o E m v [] := by
  unfold extractE at h
  split at h
  · rename_i c hx
    obtain ⟨ha, h⟩ := cond_some h
    split at h
    · rename_i v hn
      refine ⟨v, h, fun m κ a w M hA hR _ => ?_⟩
      have hp := hA x (by rw [ho]; simp [Op.operands]) _ hx
      generalize hea : a.eval x = ev at hp
      cases hp with
      | tup _ zs h1 _ =>
        obtain ⟨u, hu, hv⟩ := h1.getV ha hn
        refine ⟨u, hv, ?_⟩
        simp only [execOp, ho]
        refine run_value ?_
        have : (⟨zs⟩ : Array Value)[i]? = some u := by simpa using hu
        simp only [Instr.extract, hea, this]; rfl
    · cases h
  · cases h
theorem nilCheckE_ok {R : Type} {o : Oper} {x : Operand} (ho : o.op = .nilCheck x) {E : Env} {k : Ent → Option R} {r : R} (h : nilCheckE P o x E k = some r) :
    ∃ v, k ⟨v, [], 0, []⟩ = some r ∧ ∀ m, StillOk P o E m v [] := by
  have hmx : x ∈ o.op.operands := by rw [ho]; simp [Op.operands]
  unfold nilCheckE at h
  split at h
  · rename_i n p i hx
    refine ⟨_, h, fun m κ a w M hA hR _ => ⟨a.eval x, hA x hmx _ hx, ?_⟩⟩
    have hp := hA x hmx _ hx
    simp only [execOp, ho]
    generalize a.eval x = ev at hp
    cases hp; rfl
  · rename_i c i hx
    refine ⟨_, h, fun m κ a w M hA hR _ => ⟨a.eval x, hA x hmx _ hx, ?_⟩⟩
    have hp := hA x hmx _ hx
    simp only [execOp, ho]
    generalize a.eval x = ev at hp
    cases hp; rfl
  · rename_i f p q hx
    refine ⟨_, h, fun m κ a w M hA hR _ => ⟨a.eval x, hA x hmx _ hx, ?_⟩⟩
    have hp := hA x hmx _ hx
    simp only [execOp, ho]
    generalize a.eval x = ev at hp
    cases hp; rfl
  · rename_i t v hx
    refine ⟨_, h, fun m κ a w M hA hR _ => ⟨a.eval x, hA x hmx _ hx, ?_⟩⟩
    have hp := hA x hmx _ hx
    simp only [execOp, ho]
    generalize a.eval x = ev at hp
    cases hp; rfl
  · exact pureE_ok h
theorem makeInterfaceE_ok {R : Type} {o : Oper} {t : TypeId} {x : Operand} (ho : o.op = .makeInterface t x) {E : Env} {k : Ent → Option R} {r : R} (h : makeInterfaceE P t x E k = some r) :
    ∃ v, k ⟨v, [], 0, []⟩ = some r ∧ ∀ m, StillOk P o E m v [] := by
  unfold makeInterfaceE at h
  split at h
  · cases h
  · rename_i d hni hd
    split at h
    · rename_i v hx
      obtain ⟨ha, h⟩ := cond_some' h
      refine ⟨_, h, fun m κ a w M hA hR _ => ⟨_, .ifc t v _ (hA x (by rw [ho]; simp [Op.operands]) _ hx) .nil, ?_⟩⟩
      simp only [execOp, ho]
      refine run_value ?_
      unfold Instr.makeInterface
      refine (run_q hd).trans ?_
      cases d <;> first | rfl | (exact absurd rfl (hni _))
    · cases h
  · cases h
theorem makeFuncE_ok {R : Type} {o : Oper} {fn : Fn} {first captured : Array Operand} (ho : o.op = .makeFunc fn first captured) {E : Env} {k : Ent → Option R} {r : R} (h : makeFuncE fn first captured E k = some r) :
    ∃ v, k ⟨v, [], 0, []⟩ = some r ∧ ∀ m, StillOk P o E m v [] := by
  unfold makeFuncE at h
  split at h
  · rename_i f
    split at h
    · rename_i a ha
      split at h
      · rename_i b hb
        obtain ⟨_, h⟩ := cond_some h
        refine ⟨_, h, fun m κ a' w M hA hR _ => ?_⟩
        have r1 := aevals_ok first.toList a (fun x hx v hv => hA x (by rw [ho]; simp only [Op.operands]; simp at hx; simp [hx]) v hv) ha
        have r2 := aevals_ok captured.toList b (fun x hx v hv => hA x (by rw [ho]; simp only [Op.operands]; simp at hx; simp [hx]) v hv) hb
        refine ⟨_, .fn f a b _ _ r1 r2 .nil, ?_⟩
        simp only [execOp, ho]
        refine run_value ?_
        have e1 : (⟨first.toList.map a'.eval⟩ : Array Value) = first.map a'.eval := by apply Array.ext'; simp
        have e2 : (⟨captured.toList.map a'.eval⟩ : Array Value) = captured.map a'.eval := by apply Array.ext'; simp
        rw [e1, e2]; rfl
      · cases h
    · cases h
  · cases h
theorem lenRun {o : Oper} {c : Call} {x : Operand} (ho : o.op = .call c) (hc : c.callee = .builtin .len) (hx0 : c.args.toList = [x]) {t : TypeId} (ht0 : c.argTypes.toList = [t]) {a : Act} {w : World} {v : Value}
    (h : (Builtin.len_ #[t] o.type #[a.eval x]).run P w = .ok v w) : (execOp a.eval o).run P w = .ok (.value v) w := by
  have e1 : c.args = #[x] := by apply Array.ext'; simpa using hx0
  have e2 : c.argTypes = #[t] := by apply Array.ext'; simpa using ht0
  simp only [execOp, ho]
  unfold resolve
  rw [hc, e1, e2]
  refine (run_bind_ok (a := ⟨.builtin .len #[t] o.type _, #[a.eval x]⟩) (w' := w) (by simp; rfl)).trans ?_
  unfold invoke builtin
  exact run_value h
theorem lenE_ok {R : Type} {o : Oper} {c : Call} {x : Operand} (ho : o.op = .call c) (hc : c.callee = .builtin .len) (hx0 : c.args.toList = [x]) {t : TypeId} (ht0 : c.argTypes.toList = [t]) {E : Env} {k : Ent → Option R} {r : R} (h : lenE P o t x E k = some r) :
    ∃ v, k ⟨v, [], 0, []⟩ = some r ∧ ∀ m, StillOk P o E m v [] := by
  have e1 : c.args = #[x] := by apply Array.ext'; simpa using hx0
  have hmx : x ∈ o.op.operands := by rw [ho]; simp [Op.operands, Call.operands, hc, e1]
  have key : ∀ {v : AV} {v' : Value}, k ⟨v, [], 0, []⟩ = some r → (∀ κ, VRel κ v v') → (∀ (κ : Kap) (a : Act) (w : World), AOn κ o E a → (Builtin.len_ #[t] o.type #[a.eval x]).run P w = .ok v' w) → ∃ v, k ⟨v, [], 0, []⟩ = some r ∧ ∀ m, StillOk P o E m v [] :=
    fun hk hv hrun => ⟨_, hk, fun m κ a w M hA hR _ => ⟨_, hv κ, lenRun ho hc hx0 ht0 (hrun κ a w hA)⟩⟩
  unfold lenE at h
  split at h
  · rename_i n p o' i W len cap hx
    split at h
    · rename_i e hu
      refine key h (fun κ => .int _ _ .nil) fun κ a w hA => ?_
      have hp := hA x hmx _ hx
      generalize a.eval x = ev at hp
      unfold Builtin.len_
      refine (run_q hu).trans ?_
      cases hp <;> rfl
    · cases h
  · rename_i W f len us hx
    split at h
    · rename_i e hu
      refine key h (fun κ => .int _ _ .nil) fun κ a w hA => ?_
      have hp := hA x hmx _ hx
      generalize a.eval x = ev at hp
      unfold Builtin.len_
      refine (run_q hu).trans ?_
      cases hp <;> rfl
    · cases h
  · rename_i l hx
    split at h
    · rename_i hu
      refine key h (fun κ => .int _ _ .nil) fun κ a w hA => ?_
      have hp := hA x hmx _ hx
      generalize a.eval x = ev at hp
      unfold Builtin.len_
      refine (run_q hu).trans ?_
      cases hp with
      | str _ _ => simp only [ByteArray.size]; rfl
    · cases h
  · cases h
  · split at h
    · rename_i n e hu
      refine key h (fun κ => .int _ _ .nil) fun κ a w hA => ?_
      generalize a.eval x = ev
      unfold Builtin.len_
      refine (run_q hu).trans ?_
      cases ev <;> rfl
    · exact pureE_ok h
  · cases h
theorem minE_ok {R : Type} {o : Oper} {c : Call} {isMax : Bool} (ho : o.op = .call c) (hc : c.callee = .builtin (if isMax then .max else .min)) {E : Env} {k : Ent → Option R} {r : R} (h : minE P o isMax c.args.toList E k = some r) :
    ∃ v, k ⟨v, [], 0, []⟩ = some r ∧ ∀ m, StillOk P o E m v [] := by
  unfold minE at h
  split at h
  · rename_i kd a kd' b hx
    obtain ⟨hk, g⟩ := cond_some h
    clear h
    have hk := of_decide_eq_true hk
    subst hk
    have h := g
    clear g
    have hargs : ∀ (κ : Kap) (a' : Act), AOn κ o E a' → c.args.map a'.eval = #[.int kd a, .int kd b] := by
      intro κ a' hA
      have := aevals_ok c.args.toList _ (fun x hx v hv => hA x (by rw [ho]; simp only [Op.operands, Call.operands]; simp at hx; simp [hx]) v hv) hx
      apply Array.ext'
      rw [Array.toList_map]
      generalize c.args.toList.map a'.eval = l at this
      cases this with
      | int _ _ h2 => cases h2 with | int _ _ h3 => cases h3; rfl
    have run : ∀ (κ : Kap) (a' : Act) (w : World) (n : Int), AOn κ o E a' → (if isMax then (Builtin.max_ c.argTypes o.type #[.int kd a, .int kd b]) else (Builtin.min_ c.argTypes o.type #[.int kd a, .int kd b])).run P w = .ok (.int kd n) w →
        (execOp a'.eval o).run P w = .ok (.value (.int kd n)) w := by
      intro κ a' w n hA hr
      simp only [execOp, ho]
      unfold resolve
      rw [hc]
      cases isMax
      · refine (run_bind_ok (a := ⟨.builtin .min c.argTypes o.type _, #[.int kd a, .int kd b]⟩) (w' := w) (by rw [hargs κ a' hA]; rfl)).trans ?_
        unfold invoke builtin
        exact run_value hr
      · refine (run_bind_ok (a := ⟨.builtin .max c.argTypes o.type _, #[.int kd a, .int kd b]⟩) (w' := w) (by rw [hargs κ a' hA]; rfl)).trans ?_
        unfold invoke builtin
        exact run_value hr
    cases isMax
    · refine ⟨_, h, fun m κ a' w M hA hR _ => ⟨_, .int _ _ .nil, run κ a' w _ hA ?_⟩⟩
      simp only [Bool.false_eq_true, if_false]
      unfold Builtin.min_
      simp only [List.foldlM]
      refine (run_bind_ok (e := Builtin.min2 (.int kd a) (.int kd b)) (a := .int kd (bif decide (b < a) then b else a)) (w' := w) ?_).trans rfl
      simp only [Builtin.min2]
      by_cases hab : b < a
      · simp only [hab, if_true, decide_true, cond_true]; rfl
      · simp only [hab, if_false, decide_false, cond_false]; rfl
    · refine ⟨_, h, fun m κ a' w M hA hR _ => ⟨_, .int _ _ .nil, run κ a' w _ hA ?_⟩⟩
      simp only [if_true]
      unfold Builtin.max_
      simp only [List.foldlM]
      refine (run_bind_ok (e := Builtin.max2 (.int kd a) (.int kd b)) (a := .int kd (bif decide (b > a) then b else a)) (w' := w) ?_).trans rfl
      simp only [Builtin.max2]
      by_cases hab : b > a
      · simp only [hab, if_true, decide_true, cond_true]; rfl
      · simp only [hab, if_false, decide_false, cond_false]; rfl
  · exact pureE_ok h
end
end Go.Sv
