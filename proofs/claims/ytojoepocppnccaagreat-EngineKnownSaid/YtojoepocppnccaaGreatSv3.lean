/- A second evaluator for the model's code: slots, operands, lists of cells. -/
import Derived.Test.YtojoepocppnccaaGreatSv2
namespace Go.Sv
noncomputable section
open Go.RowKit
variable {P : Program}

/-! ### slots -/
inductive Env where
  | nil
  | node (l : Env) (v : AV) (r : Env)
def Env.get (E : Env) : Nat → AV := @Env.rec (fun _ => Nat → AV) (fun _ => .any) (fun _ v _ gl gr n => @Bool.rec (fun _ => AV) (@Bool.rec (fun _ => AV) (gr (Nat.sub (Nat.div n 2) 1)) (gl (Nat.div n 2)) (Nat.beq (Nat.mod n 2) 1)) v (Nat.beq n 0)) E
theorem Env.get_nil (n : Nat) : Env.nil.get n = .any := rfl
theorem Env.get_node (l r : Env) (v : AV) (n : Nat) : (Env.node l v r).get n = bif Nat.beq n 0 then v else bif Nat.beq (n % 2) 1 then l.get (n / 2) else r.get (n / 2 - 1) := by
  show @Bool.rec (fun _ => AV) (@Bool.rec (fun _ => AV) (r.get (n / 2 - 1)) (l.get (n / 2)) (Nat.beq (n % 2) 1)) v (Nat.beq n 0) = _
  cases Nat.beq n 0 <;> cases Nat.beq (n % 2) 1 <;> rfl
def Env.set : Env → Nat → AV → Env
  | .nil, _, _ => .nil
  | .node l v r, n, x => bif Nat.beq n 0 then .node l x r else bif Nat.beq (n % 2) 1 then .node (l.set (n / 2) x) v r else .node l v (r.set (n / 2 - 1) x)
def Env.mk : Nat → Env
  | 0 => .nil
  | d + 1 => .node (Env.mk d) .any (Env.mk d)
section
variable {R : Type}
def Env.setK (E : Env) : Nat → AV → (Env → Option R) → Option R := @Env.rec (fun _ => Nat → AV → (Env → Option R) → Option R) (fun _ _ k => k .nil) (fun l v r sl sr n x k => @Bool.rec (fun _ => Option R) (@Bool.rec (fun _ => Option R) (sr (Nat.sub (Nat.div n 2) 1) x fun r' => k (.node l v r')) (sl (Nat.div n 2) x fun l' => k (.node l' v r)) (Nat.beq (Nat.mod n 2) 1)) (k (.node l x r)) (Nat.beq n 0)) E
theorem Env.setK_node (l r : Env) (v : AV) (n : Nat) (x : AV) (k : Env → Option R) : (Env.node l v r).setK n x k = bif Nat.beq n 0 then k (.node l x r) else bif Nat.beq (n % 2) 1 then l.setK (n / 2) x fun l' => k (.node l' v r) else r.setK (n / 2 - 1) x fun r' => k (.node l v r') := by
  show @Bool.rec (fun _ => Option R) (@Bool.rec (fun _ => Option R) (r.setK (n / 2 - 1) x fun r' => k (.node l v r')) (l.setK (n / 2) x fun l' => k (.node l' v r)) (Nat.beq (n % 2) 1)) (k (.node l x r)) (Nat.beq n 0) = _
  cases Nat.beq n 0 <;> cases Nat.beq (n % 2) 1 <;> rfl
theorem Env.setK_eq : ∀ (E : Env) (n : Nat) (x : AV) (k : Env → Option R), E.setK n x k = k (E.set n x)
  | .nil, _, _, _ => rfl
  | .node l v r, n, x, k => by
    simp only [Env.setK_node, Env.set, Env.setK_eq l, Env.setK_eq r]
    cases Nat.beq n 0 <;> cases Nat.beq (n % 2) 1 <;> rfl
end
theorem Env.get_mk : ∀ (d n : Nat), (Env.mk d).get n = .any
  | 0, _ => rfl
  | d + 1, n => by
    simp only [Env.mk, Env.get_node, Env.get_mk d]
    cases Nat.beq n 0 <;> cases Nat.beq (n % 2) 1 <;> rfl
theorem beq_false {a b : Nat} (h : a ≠ b) : Nat.beq a b = false := by
  cases e : Nat.beq a b
  · rfl
  · exact absurd (Nat.eq_of_beq_eq_true e) h
/-- What is set is there (or nothing is known), the others are as they were. -/
theorem Env.get_set : ∀ (E : Env) (n m : Nat) (x : AV), (E.set n x).get m = if m = n then (match E.get n, (E.set n x).get n with | _, y => y) else E.get m
  | .nil, n, m, x => by simp [Env.set, Env.get_nil]
  | .node l v r, n, m, x => by
    by_cases e : m = n
    · subst e; rw [if_pos rfl]
    · rw [if_neg e]
      simp only [Env.set]
      cases h0 : Nat.beq n 0
      · cases h1 : Nat.beq (n % 2) 1
        · simp only [cond_false, Env.get_node]
          cases h2 : Nat.beq m 0
          · cases h3 : Nat.beq (m % 2) 1
            · simp only [cond_false]
              have := Env.get_set r (n / 2 - 1) (m / 2 - 1) x
              rw [this, if_neg]
              intro h
              have a0 : n ≠ 0 := fun e => by subst e; simp at h0
              have b0 : m ≠ 0 := fun e => by subst e; simp at h2
              have a1 : n % 2 ≠ 1 := fun e => by rw [e] at h1; simp at h1
              have b1 : m % 2 ≠ 1 := fun e => by rw [e] at h3; simp at h3
              omega
            · rfl
          · rfl
        · simp only [cond_true, cond_false, Env.get_node]
          cases h2 : Nat.beq m 0
          · cases h3 : Nat.beq (m % 2) 1
            · rfl
            · simp only [cond_true, cond_false]
              have := Env.get_set l (n / 2) (m / 2) x
              rw [this, if_neg]
              intro h
              have a1 := Nat.eq_of_beq_eq_true h1
              have b1 := Nat.eq_of_beq_eq_true h3
              omega
          · rfl
      · have a0 := Nat.eq_of_beq_eq_true h0
        subst a0
        simp only [cond_true, Env.get_node, beq_false e, cond_false]
theorem Env.get_set_ne {E : Env} {n m : Nat} {x : AV} (h : m ≠ n) : (E.set n x).get m = E.get m := by rw [Env.get_set, if_neg h]
theorem Env.get_set_same : ∀ (E : Env) (n : Nat) (x : AV), (E.set n x).get n = x ∨ (E.set n x).get n = .any
  | .nil, _, _ => .inr rfl
  | .node l v r, n, x => by
    simp only [Env.set]
    cases h0 : Nat.beq n 0
    · cases h1 : Nat.beq (n % 2) 1
      · simp only [cond_false, Env.get_node, h0, h1]; exact Env.get_set_same r _ x
      · simp only [cond_true, cond_false, Env.get_node, h0, h1]; exact Env.get_set_same l _ x
    · simp only [cond_true, Env.get_node, h0]; exact .inl trivial

structure ERel (κ : Kap) (E : Env) (a : Act) : Prop where
  get : ∀ t, VRel κ (E.get t) (a.tmps.getD t undef)
  defers : a.defers = []
theorem ERel.mono {κ κ' : Kap} (h : κ.le κ') {E : Env} {a : Act} (r : ERel κ E a) : ERel κ' E a := ⟨fun t => (r.get t).mono h, r.defers⟩
theorem getD_set (xs : Array Value) (d t : Nat) (v : Value) : (xs.setIfInBounds d v).getD t undef = if d = t ∧ d < xs.size then v else xs.getD t undef := by
  simp only [Array.getD_eq_getD_getElem?]
  by_cases e : d = t
  · subst e
    by_cases hlt : d < xs.size
    · simp [hlt]
    · simp [hlt]
  · simp [e, Array.getElem?_setIfInBounds_ne e]
theorem vrel_any (κ : Kap) (y : Value) : VRel κ .any y := .any y .nil
/-- A slot out of range keeps what it is: it is asked that the slot be there. -/
theorem ERel.put {κ : Kap} {E : Env} {a : Act} (r : ERel κ E a) {d : Nat} (hd : d < a.tmps.size) {v : AV} {v' : Value} (hv : VRel κ v v') : ERel κ (E.set d v) (a.put (some d) v') := by
  refine ⟨fun t => ?_, r.defers⟩
  simp only [Act.put, getD_set]
  by_cases e : d = t
  · subst e
    rw [if_pos ⟨rfl, hd⟩]
    rcases E.get_set_same d v with h | h <;> rw [h]
    · exact hv
    · exact vrel_any κ _
  · rw [if_neg (fun h => e h.1), Env.get_set_ne (Ne.symm e)]; exact r.get t

/-! ### operands -/
def ofVs (rec : Value → Option AV) : List Value → Option (List AV)
  | [] => some []
  | v :: vs => match rec v with
    | some x => match ofVs rec vs with
      | some xs => some (x :: xs)
      | none => none
    | none => none
def ofVN : Nat → Value → Option AV
  | 0, _ => none
  | n + 1, v => match v with
    | .bool b => some (.bool b)
    | .int k n => some (.int k n)
    | .string s => some (.str s.data.toList)
    | .agg cs => match ofVs (ofVN n) cs.toList with | some xs => some (.agg xs) | none => none
    | .tuple cs => match ofVs (ofVN n) cs.toList with | some xs => some (.tup xs) | none => none
    | .iface t v => match ofVN n v with | some x => some (.ifc t x) | none => none
    | v => bif rawOk v then some (.raw v) else none
def ofV (v : Value) : Option AV := ofVN 6 v
def isArr : AV → Bool
  | .arr _ _ _ _ => true
  | _ => false
theorem ofVs_ok {κ : Kap} {rec : Value → Option AV} (h : ∀ v x, rec v = some x → VRel κ x v) : ∀ (vs : List Value) (xs : List AV), ofVs rec vs = some xs → CRel κ xs vs
  | [], xs, e => by simp only [ofVs, Option.some.injEq] at e; subst e; exact .nil
  | v :: vs, xs, e => by
    simp only [ofVs] at e
    split at e
    · rename_i x hx
      split at e
      · rename_i ys hys
        simp only [Option.some.injEq] at e; subst e
        exact (h v x hx).append (ofVs_ok h vs ys hys)
      · cases e
    · cases e
theorem ofVN_ok {κ : Kap} : ∀ (n : Nat) (v : Value) (x : AV), ofVN n v = some x → VRel κ x v
  | 0, _, _, h => by simp [ofVN] at h
  | n + 1, v, x, h => by
    cases v with
    | bool b => simp only [ofVN, Option.some.injEq] at h; subst h; exact .bool b .nil
    | int k n => simp only [ofVN, Option.some.injEq] at h; subst h; exact .int k n .nil
    | string s =>
      simp only [ofVN, Option.some.injEq] at h; subst h
      have e : (⟨s.data.toList.toArray⟩ : ByteArray) = s := by cases s; simp
      have := CRel.str (κ := κ) s.data.toList (.nil)
      rw [e] at this; exact this
    | agg cs =>
      simp only [ofVN] at h
      split at h
      · rename_i xs hxs
        simp only [Option.some.injEq] at h; subst h
        exact .agg xs cs.toList (ofVs_ok (fun v x => ofVN_ok n v x) _ _ hxs) .nil
      · cases h
    | tuple cs =>
      simp only [ofVN] at h
      split at h
      · rename_i xs hxs
        simp only [Option.some.injEq] at h; subst h
        exact .tup xs cs.toList (ofVs_ok (fun v x => ofVN_ok n v x) _ _ hxs) .nil
      · cases h
    | iface t v =>
      simp only [ofVN] at h
      split at h
      · rename_i x hx
        simp only [Option.some.injEq] at h; subst h
        exact .ifc t x v (ofVN_ok n v x hx) .nil
      · cases h
    | _ =>
      simp only [ofVN] at h
      cases hr : rawOk _ <;> rw [hr] at h
      · cases h
      · simp only [cond_true, Option.some.injEq] at h; subst h; exact .raw _ .nil
theorem ofV_ok {κ : Kap} {v : Value} {x : AV} (h : ofV v = some x) : VRel κ x v := ofVN_ok 6 v x h

def aeval (E : Env) : Operand → Option AV
  | .tmp t => some (E.get t)
  | .const v => ofV v
  | .global _ => none
  | .func f => some (.fn f [] [])
def aevals (E : Env) : List Operand → Option (List AV)
  | [] => some []
  | x :: xs => match aeval E x with
    | none => none
    | some v => match aevals E xs with
      | none => none
      | some vs => some (v :: vs)
theorem aeval_ok {κ : Kap} {E : Env} {a : Act} (r : ∀ t, VRel κ (E.get t) (a.tmps.getD t undef)) {x : Operand} {v : AV} (h : aeval E x = some v) : VRel κ v (a.eval x) := by
  cases x with
  | tmp t => simp only [aeval, Option.some.injEq] at h; subst h; exact r t
  | const c => exact ofV_ok h
  | global g => simp [aeval] at h
  | func f => simp only [aeval, Option.some.injEq] at h; subst h; exact .fn f [] [] [] [] .nil .nil .nil
/-- What an operation looks at is related. -/
def AOn (κ : Kap) (o : Oper) (E : Env) (a : Act) : Prop := ∀ x ∈ o.op.operands, ∀ v, aeval E x = some v → VRel κ v (a.eval x)
theorem ERel.on {κ : Kap} {E : Env} {a : Act} (r : ERel κ E a) (o : Oper) : AOn κ o E a := fun _ _ _ h => aeval_ok r.get h
theorem aevals_ok {κ : Kap} {E : Env} {a : Act} : ∀ (xs : List Operand) (vs : List AV), (∀ x ∈ xs, ∀ v, aeval E x = some v → VRel κ v (a.eval x)) → aevals E xs = some vs → CRel κ vs (xs.map a.eval)
  | [], vs, _, h => by simp only [aevals, Option.some.injEq] at h; subst h; exact .nil
  | x :: xs, vs, hx, h => by
    simp only [aevals] at h
    split at h
    · cases h
    · rename_i v hv
      split at h
      · cases h
      · rename_i us hus
        simp only [Option.some.injEq] at h; subst h
        exact (hx x (List.mem_cons_self ..) v hv).append (aevals_ok xs us (fun y hy => hx y (List.mem_cons_of_mem _ hy)) hus)

/-! ### lists of cells -/
/-- The cells behind the first o ones. -/
def dropW : List AV → Nat → Option (List AV)
  | c, 0 => some c
  | [], _ + 1 => none
  | x :: xs, o + 1 => bif Nat.ble (width x) (o + 1) then dropW xs (o + 1 - width x) else none
def takeW : List AV → Nat → Option (List AV)
  | _, 0 => some []
  | [], _ + 1 => none
  | x :: xs, o + 1 => bif Nat.ble (width x) (o + 1) then (match takeW xs (o + 1 - width x) with | some r => some (x :: r) | none => none) else none
theorem dropW_spec : ∀ (c : List AV) (o : Nat) (c' : List AV), dropW c o = some c' → ∃ c0, c = c0 ++ c' ∧ cw c0 = o
  | c, 0, c', h => by cases c <;> (simp only [dropW, Option.some.injEq] at h; subst h; exact ⟨[], rfl, rfl⟩)
  | [], o + 1, c', h => by simp [dropW] at h
  | x :: xs, o + 1, c', h => by
    simp only [dropW] at h
    cases hb : Nat.ble (width x) (o + 1) <;> rw [hb] at h
    · cases h
    · obtain ⟨c0, rfl, h1⟩ := dropW_spec xs _ c' h
      exact ⟨x :: c0, rfl, by simp only [cw, h1]; have := Nat.le_of_ble_eq_true hb; omega⟩
theorem takeW_spec : ∀ (c : List AV) (o : Nat) (c' : List AV), takeW c o = some c' → ∃ c1, c = c' ++ c1 ∧ cw c' = o
  | c, 0, c', h => by cases c <;> (simp only [takeW, Option.some.injEq] at h; subst h; exact ⟨_, rfl, rfl⟩)
  | [], o + 1, c', h => by simp [takeW] at h
  | x :: xs, o + 1, c', h => by
    simp only [takeW] at h
    cases hb : Nat.ble (width x) (o + 1) <;> rw [hb] at h
    · cases h
    · simp only [cond_true] at h
      split at h
      · rename_i r hr
        simp only [Option.some.injEq] at h; subst h
        obtain ⟨c1, rfl, h1⟩ := takeW_spec xs _ r hr
        exact ⟨c1, rfl, by simp only [cw, h1]; have := Nat.le_of_ble_eq_true hb; omega⟩
      · cases h
theorem CRel.dropW {κ : Kap} {c c' : List AV} {zs : List Value} {o : Nat} (r : CRel κ c zs) (h : Sv.dropW c o = some c') : CRel κ c' (zs.drop o) ∧ o ≤ zs.length := by
  obtain ⟨c0, rfl, h1⟩ := dropW_spec _ _ _ h
  have := r.length
  rw [cw_append, h1] at this
  have := r.split_at.2
  rw [h1] at this
  exact ⟨this, by omega⟩
theorem CRel.takeW {κ : Kap} {c c' : List AV} {zs : List Value} {o : Nat} (r : CRel κ c zs) (h : Sv.takeW c o = some c') : CRel κ c' (zs.take o) ∧ o ≤ zs.length := by
  obtain ⟨c1, rfl, h1⟩ := takeW_spec _ _ _ h
  have := r.length
  rw [cw_append, h1] at this
  have := r.split_at.1
  rw [h1] at this
  exact ⟨this, by omega⟩
/-- One cell. -/
theorem CRel.head {κ : Kap} {x : AV} {xs : List AV} {us : List Value} (r : CRel κ (x :: xs) us) (h : isArr x = false) : ∃ y ys, us = y :: ys ∧ VRel κ x y ∧ CRel κ xs ys := by
  obtain ⟨zs, ys, rfl, h1, h2⟩ := r.cons_inv
  have hl := h1.length
  cases x with
  | arr w n f us => simp [isArr] at h
  | _ =>
    simp only [cw, width] at hl
    match zs, hl with
    | [y], _ => exact ⟨y, ys, rfl, h1, h2⟩
theorem CRel.arr_inv {κ : Kap} {w n : Nat} {f : Nat → List AV} {es : List (Nat × List AV)} {xs : List AV} {us : List Value} (r : CRel κ (.arr w n f es :: xs) us) :
    n * w ≤ us.length ∧ (∀ i, i < n → cw (elt es f i) = w) ∧ (∀ i, i < n → CRel κ.nl (elt es f i) ((us.drop (i * w)).take w)) ∧ CRel κ xs (us.drop (n * w)) := by
  cases r with
  | arr _ _ _ _ zs h1 ho h2 h3 h4 h5 =>
    subst h4
    refine ⟨by simp [h1], h2, fun i hi => ?_, by rw [← h1]; simpa using h5⟩
    have := h3 i hi
    have hle : i * w + w ≤ zs.length := by
      rw [h1]
      have := Nat.mul_le_mul_right w (Nat.succ_le_of_lt hi)
      rw [Nat.succ_mul] at this; exact this
    rw [List.drop_append_of_le_length (by omega), List.take_append_of_le_length (by simp; omega)]
    exact this

theorem CRel.arr_one {κ : Kap} {w n : Nat} {f : Nat → List AV} {es : List (Nat × List AV)} {xs : List AV} {us : List Value} (r : CRel κ (.arr w n f es :: xs) us) : ∀ z ∈ us.take (n * w), oneV z = true := by
  cases r with
  | arr _ _ _ _ zs h1 ho h2 h3 h4 h5 =>
    subst h4
    intro z hz
    rw [← h1, List.take_left'] at hz
    · exact ho z hz
    · rfl
/-- An element, where the places that were set are asked one by one. -/
def eltK {R : Type} : List (Nat × List AV) → (Nat → List AV) → Nat → (List AV → Option R) → Option R
  | [], f, i, k => k (f i)
  | (j, c) :: us, f, i, k => bif Nat.beq i j then k c else eltK us f i k
theorem eltK_eq {R : Type} : ∀ (us : List (Nat × List AV)) (f : Nat → List AV) (i : Nat) (k : List AV → Option R), eltK us f i k = k (elt us f i)
  | [], _, _, _ => rfl
  | (j, c) :: us, f, i, k => by
    simp only [eltK, elt, eltK_eq us]
    cases Nat.beq i j <;> rfl
/-- The cells at a place. -/
def walk : List AV → List (Nat × Nat × Nat) → Option (List AV)
  | c, [] => some c
  | c, (o, i, w) :: ps =>
    match dropW c o with
    | some (.arr w' n f us :: _) => bif Nat.beq w w' && Nat.blt i n then walk (elt us f i) ps else none
    | _ => none
section
variable {R : Type}
/-- Likewise; a place of an array that is not known to be there is asked for. -/
def walkK : List AV → List (Nat × Nat × Nat) → (List AV → Option R) → Option R
  | c, [], k => k c
  | c, (o, i, w) :: ps, k =>
    match dropW c o with
    | some (.arr w' n f us :: _) => bif Nat.beq w w' then bif Nat.blt i n then eltK us f i fun c' => walkK c' ps k else none else none
    | _ => none
theorem walkK_some {r : R} : ∀ (ps : List (Nat × Nat × Nat)) (c : List AV) (k : List AV → Option R), walkK c ps k = some r → ∃ c', walk c ps = some c' ∧ k c' = some r
  | [], c, k, h => ⟨c, by cases c <;> rfl, by cases c <;> exact h⟩
  | (o, i, w) :: ps, c, k, h => by
    simp only [walkK] at h
    split at h
    · rename_i w' n f us rest hd
      cases h1 : Nat.beq w w' <;> rw [h1] at h
      · cases h
      · simp only [cond_true] at h
        cases h2 : Nat.blt i n <;> rw [h2] at h
        · cases h
        · simp only [cond_true, eltK_eq] at h
          obtain ⟨c', h3, h4⟩ := walkK_some ps _ k h
          exact ⟨c', by simp only [walk, hd, h1, h2, Bool.and_self, cond_true]; exact h3, h4⟩
    · cases h
end
theorem CRel.walk {κ : Kap} : ∀ (ps : List (Nat × Nat × Nat)) {c c' : List AV} {zs : List Value}, CRel κ c zs → Sv.walk c ps = some c' →
    plen ps + cw c' ≤ zs.length ∧ CRel (if ps = [] then κ else κ.nl) c' ((zs.drop (plen ps)).take (cw c'))
  | [], c, c', zs, r, h => by
    have : c = c' := by cases c <;> simpa [Sv.walk] using h
    subst this
    have hl := r.length
    simp only [plen, if_true, List.drop_zero]
    rw [List.take_of_length_le (by omega)]
    exact ⟨by omega, r⟩
  | (o, i, w) :: ps, c, c', zs, r, h => by
    simp only [Sv.walk] at h
    split at h
    · rename_i w' n f us rest hd
      cases hb : Nat.beq w w' && Nat.blt i n <;> rw [hb] at h
      · cases h
      · simp only [cond_true] at h
        simp only [Bool.and_eq_true] at hb
        have e1 := Nat.eq_of_beq_eq_true hb.1
        subst e1
        have hi : i < n := by simpa [Nat.blt_eq] using hb.2
        obtain ⟨h1, h2⟩ := r.dropW hd
        obtain ⟨a1, a2, a3, a4⟩ := h1.arr_inv
        have hr := a3 i hi
        obtain ⟨b1, b2⟩ := CRel.walk ps hr h
        have hn : (if ps = [] then κ.nl else κ.nl.nl) = κ.nl := by split <;> rfl
        rw [hn] at b2
        rw [if_neg (by simp)]
        have hle : i * w + w ≤ n * w := by
          have := Nat.mul_le_mul_right w (Nat.succ_le_of_lt hi)
          rw [Nat.succ_mul] at this; exact this
        simp only [List.length_take, List.length_drop] at a1 b1
        refine ⟨by simp only [plen]; omega, ?_⟩
        have e : ((zs.drop (plen ((o, i, w) :: ps))).take (cw c')) = (((((zs.drop o).drop (i * w)).take w).drop (plen ps)).take (cw c')) := by
          simp only [plen]
          rw [List.drop_take, List.take_take, List.drop_drop, List.drop_drop]
          rw [Nat.add_assoc, Nat.min_eq_left (by omega)]
        rw [e]; exact b2
    · cases h
end
end Go.Sv
