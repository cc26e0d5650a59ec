/- A second evaluator for the model's code: operations that only look. -/
import Derived.Test.YtojoepocppnccaaGreatSv3
namespace Go.Sv
noncomputable section
open Go.RowKit
variable {P : Program}

/-! ### what an operation comes to -/
/-- Its value, the rows it sets, how many new names it takes, the rows it looks at (or sets). -/
structure Ent where
  v : AV
  eff : List (Nat × Option Row)
  nx : Nat
  rd : List Nat
def Mem.sets (M : Mem) : List (Nat × Option Row) → Mem
  | [] => M
  | (n, r) :: l => (M.set n r).sets l

def OpOk (P : Program) (o : Oper) (E : Env) (next : Nat) (m : Mem) (e : Ent) : Prop :=
  ∀ (κ : Kap) (a : Act) (w : World) (M : Mem) (K : Act → World → Prop) (Q : Exit → Act → World → Prop), AOn κ o E a → MRel κ M w → (∀ n ∈ e.rd, M n = m n) →
    (∀ n, next ≤ n → n < next + e.nx → κ.loc n = none) →
    (∀ κ' v' w', κ.le κ' → (∀ n, n < next ∨ next + e.nx ≤ n → κ'.loc n = κ.loc n) → VRel κ' e.v v' → MRel κ' (M.sets e.eff) w' → Fr κ M w κ' (M.sets e.eff) w' → K (a.put o.dst v') w') → o.wp P a w K Q

theorem run_value {s : Sem Value} {w w' : World} {v : Value} (h : s.run P w = .ok v w') : (do pure (.value (← s)) : Sem Next).run P w = .ok (.value v) w' :=
  run_bind_ok (f := fun x => Sem.pure (Next.value x)) h
theorem run_skip {s : Sem Unit} {w w' : World} (h : s.run P w = .ok () w') : (do s; pure .skip : Sem Next).run P w = .ok .skip w' :=
  run_bind_ok (f := fun _ => Sem.pure Next.skip) h
theorem wp_value {o : Oper} {a : Act} {w w' : World} {v : Value} {K : Act → World → Prop} {Q : Exit → Act → World → Prop} (h : (execOp a.eval o).run P w = .ok (.value v) w') (hk : K (a.put o.dst v) w') : o.wp P a w K Q := by
  unfold Oper.wp; rw [h]; exact hk
theorem wp_skip' {o : Oper} {a : Act} {w w' : World} {K : Act → World → Prop} {Q : Exit → Act → World → Prop} (h : (execOp a.eval o).run P w = .ok .skip w') (hk : K (a.put o.dst undef) w') : o.wp P a w K Q := by
  unfold Oper.wp; rw [h]; exact hk

/-- It leaves the world as it is. -/
def StillOk (P : Program) (o : Oper) (E : Env) (m : Mem) (v : AV) (rd : List Nat) : Prop :=
  ∀ (κ : Kap) (a : Act) (w : World) (M : Mem), AOn κ o E a → MRel κ M w → (∀ n ∈ rd, M n = m n) → ∃ v', VRel κ v v' ∧ (execOp a.eval o).run P w = .ok (.value v') w
theorem StillOk.op {o : Oper} {E : Env} {next : Nat} {m : Mem} {v : AV} {rd : List Nat} (h : StillOk P o E m v rd) : OpOk P o E next m ⟨v, [], 0, rd⟩ :=
  fun κ a w M K Q hA hR hrd _ hK => by
    obtain ⟨v', hv, hrun⟩ := h κ a w M hA hR hrd
    exact wp_value hrun (hK κ v' w (Kap.le_refl κ) (fun _ _ => rfl) hv hR (Fr.refl κ M w))

theorem cond_some {R : Type} {b : Bool} {x : Option R} {r : R} (h : (bif b then x else none) = some r) : b = true ∧ x = some r := by
  cases b
  · cases h
  · exact ⟨rfl, h⟩
theorem cond_some' {R : Type} {b : Bool} {x : Option R} {r : R} (h : (bif b then none else x) = some r) : b = false ∧ x = some r := by
  cases b
  · exact ⟨rfl, h⟩
  · cases h

/-! ### values that bear no address -/
def toV : AV → Option Value
  | .bool b => some (.bool b)
  | .int k n => some (.int k n)
  | .str s => some (.string ⟨s.toArray⟩)
  | .raw v => some v
  | _ => none
theorem toV_eq {κ : Kap} {x : AV} {y v : Value} (r : VRel κ x y) (h : toV x = some v) : y = v := by
  cases x with
  | bool b => cases r; simpa [toV] using h
  | int k n => cases r; simpa [toV] using h
  | str s => cases r; simpa [toV] using h
  | raw u => cases r; simpa [toV] using h
  | _ => simp [toV] at h
def rho (E : Env) (x : Operand) : Value :=
  match aeval E x with
  | some v => match toV v with
    | some u => u
    | none => undef
  | none => undef
def plainOps (E : Env) : List Operand → Bool
  | [] => true
  | x :: xs => match aeval E x with
    | none => false
    | some v => match toV v with
      | some _ => plainOps E xs
      | none => false
theorem plainOps_ok {κ : Kap} {E : Env} {a : Act} : ∀ (xs : List Operand), (∀ x ∈ xs, ∀ v, aeval E x = some v → VRel κ v (a.eval x)) → plainOps E xs = true → ∀ x ∈ xs, rho E x = a.eval x
  | [], _, _, x, hx => by cases hx
  | y :: ys, hA, h, x, hx => by
    simp only [plainOps] at h
    split at h
    · cases h
    · rename_i v hv
      split at h
      · rename_i u hu
        rcases List.mem_cons.1 hx with rfl | hx
        · simp only [rho, hv, hu]
          exact (toV_eq (hA x (List.mem_cons_self ..) v hv) hu).symm
        · exact plainOps_ok ys (fun z hz => hA z (List.mem_cons_of_mem _ hz)) h x hx
      · cases h
theorem select_no {ρ : Operand → Value} {o : Oper} {cs : Array SelectCase} {b : Bool} (ho : o.op = .select cs b) {v : Value} (h : qrun P (execOp ρ o) = some (.value v)) : False := by
  simp only [execOp, ho] at h
  obtain ⟨a, _, h⟩ := qrun_bind _ _ h
  simp [pure, qrun] at h

section
variable {R : Type} (P)
/-- An operation that looks at such values alone. -/
def pureE (o : Oper) (E : Env) (k : Ent → Option R) : Option R :=
  bif plainOps E o.op.operands.toList then
    match qrun P (execOp (rho E) o) with
    | some (.value v) => match ofV v with
      | some x => k ⟨x, [], 0, []⟩
      | none => none
    | _ => none
  else none
/-- What a variable of a type holds, out of the cells from its place on. -/
def readT (t : TypeId) (c : List AV) (k : AV → Option R) : Option R :=
  match qrun P (isAgg t) with
  | some false => match c with
    | x :: _ => bif isArr x then none else k x
    | [] => none
  | some true => match qrun P (sizeOf t) with
    | some s => bif Nat.beq s 0 then none else match takeW c s with
      | some c1 => k (.agg c1)
      | none => none
    | none => none
  | none => none
/-- The cells at a pointer. -/
def placeK (m : List (Nat × Row)) (x : AV) (k : List AV → List Nat → Option R) : Option R :=
  match x with
  | .ptr n ps o => match find m n with
    | some (.cells c _ _) => walkK c ps fun c' => match dropW c' o with
      | some c2 => k c2 [n]
      | none => none
    | _ => none
  | .sptr c o => match dropW c o with
    | some c2 => k c2 []
    | none => none
  | _ => none
def loadE (t : TypeId) (x : Operand) (E : Env) (m : List (Nat × Row)) (k : Ent → Option R) : Option R :=
  match aeval E x with
  | some p => placeK m p fun c rd => readT P t c fun v => k ⟨v, [], 0, rd⟩
  | none => none
def fieldAddrE (s : TypeId) (x : Operand) (f : Nat) (E : Env) (k : Ent → Option R) : Option R :=
  match qrun P (underlying s) with
  | some (.struct fields) => match fields[f]? with
    | none => none
    | some fd => match qrun P (sizeOf fd.type) with
      | none => none
      | some z => bif Nat.beq z 0 then none else
        match aeval E x with
        | some (.ptr n ps o) => k ⟨.ptr n ps (o + fd.offset), [], 0, []⟩
        | some (.sptr c o) => k ⟨.sptr c (o + fd.offset), [], 0, []⟩
        | _ => none
  | _ => none
def fieldE (s : TypeId) (x : Operand) (f : Nat) (E : Env) (k : Ent → Option R) : Option R :=
  match qrun P (underlying s) with
  | some (.struct fields) => match fields[f]? with
    | none => none
    | some fd => match aeval E x with
      | some (.agg c) => match dropW c fd.offset with
        | some c2 => readT P fd.type c2 fun v => k ⟨v, [], 0, []⟩
        | none => none
      | _ => none
  | _ => none
end
def add0 (a b : Nat) : Nat := bif Nat.beq a 0 then b else a + b
theorem add0_eq (a b : Nat) : add0 a b = a + b := by
  unfold add0
  cases h : Nat.beq a 0
  · rfl
  · have := Nat.eq_of_beq_eq_true h; subst this; simp

/-- Where cells lie in a world. -/
def Place (κ : Kap) (w : World) (a : Addr) (c : List AV) : Prop :=
  ∃ b off cs e fr, a = ⟨b, off, none⟩ ∧ w.heap[b]? = some (.cells cs e fr) ∧ off + cw c ≤ cs.size ∧ CRel κ c ((cs.toList.drop off).take (cw c))

theorem Place.drop {κ : Kap} {w : World} {b off : Nat} {c c' : List AV} {o : Nat} (h : Place κ w ⟨b, off, none⟩ c) (hd : dropW c o = some c') : Place κ w ⟨b, off + o, none⟩ c' := by
  obtain ⟨b', off', cs, e, fr, ha, h1, h2, h3⟩ := h
  cases ha
  obtain ⟨h4, h5⟩ := h3.dropW hd
  have hc : cw c = o + cw c' := by
    obtain ⟨c0, rfl, hc0⟩ := dropW_spec _ _ _ hd
    rw [cw_append, hc0]
  refine ⟨b, off + o, cs, e, fr, rfl, h1, by omega, ?_⟩
  rw [List.drop_take, List.drop_drop, hc, Nat.add_sub_cancel_left] at h4
  exact h4
theorem Place.take {κ : Kap} {w : World} {a : Addr} {c c' : List AV} {s : Nat} (h : Place κ w a c) (hd : takeW c s = some c') : Place κ w a c' ∧ cw c' = s := by
  obtain ⟨b', off', cs, e, fr, ha, h1, h2, h3⟩ := h
  obtain ⟨h4, h5⟩ := h3.takeW hd
  obtain ⟨c1, hc, hc1⟩ := takeW_spec _ _ _ hd
  have hle : s ≤ cw c := by rw [hc, cw_append, hc1]; omega
  refine ⟨⟨b', off', cs, e, fr, ha, h1, by omega, ?_⟩, hc1⟩
  rw [List.take_take, Nat.min_eq_left hle] at h4
  rw [hc1]; exact h4
theorem Place.elem {κ : Kap} {w : World} {b off : Nat} {W n : Nat} {f : Nat → List AV} {us : List (Nat × List AV)} {rest : List AV} (h : Place κ w ⟨b, off, none⟩ (.arr W n f us :: rest)) {i : Nat} (hi : i < n) : Place κ.nl w ⟨b, off + i * W, none⟩ (elt us f i) ∧ cw (elt us f i) = W := by
  obtain ⟨b', off', cs, e, fr, ha, h1, h2, h3⟩ := h
  cases ha
  obtain ⟨a1, a2, a3, a4⟩ := h3.arr_inv
  have hr := a3 i hi
  have hw := a2 i hi
  have hle : i * W + W ≤ n * W := by
    have := Nat.mul_le_mul_right W (Nat.succ_le_of_lt hi)
    rw [Nat.succ_mul] at this; exact this
  simp only [cw, width] at h2 hr
  refine ⟨⟨b, off + i * W, cs, e, fr, rfl, h1, by rw [hw]; omega, ?_⟩, hw⟩
  rw [hw]
  rw [List.drop_take, List.take_take, List.drop_drop, Nat.min_eq_left (by omega)] at hr
  exact hr
theorem Place.mono {κ κ' : Kap} (h : κ.le κ') {w : World} {a : Addr} {c : List AV} (p : Place κ w a c) : Place κ' w a c := by
  obtain ⟨b', off', cs, e, fr, ha, h1, h2, h3⟩ := p
  exact ⟨b', off', cs, e, fr, ha, h1, h2, h3.mono h⟩

theorem Place.walk {κ : Kap} {w : World} : ∀ (ps : List (Nat × Nat × Nat)) {b off : Nat} {c c' : List AV}, Place κ w ⟨b, off, none⟩ c → Sv.walk c ps = some c' → Place κ w ⟨b, off + plen ps, none⟩ c'
  | [], b, off, c, c', h, e => by
    have : c = c' := by cases c <;> simpa [Sv.walk] using e
    subst this; exact h
  | (o, i, W) :: ps, b, off, c, c', h, e => by
    simp only [Sv.walk] at e
    split at e
    · rename_i w' n f us rest hd
      cases hb : Nat.beq W w' && Nat.blt i n <;> rw [hb] at e
      · cases e
      · simp only [cond_true] at e
        simp only [Bool.and_eq_true] at hb
        have e1 := Nat.eq_of_beq_eq_true hb.1
        subst e1
        have hi : i < n := by simpa [Nat.blt_eq] using hb.2
        have := Place.walk ps (((h.drop hd).elem hi).1.mono κ.nl_le) e
        rw [show off + plen ((o, i, W) :: ps) = off + o + i * W + plen ps from by simp only [plen]; omega]
        exact this
    · cases e

/-- The cells of a row. -/
theorem MRel.place {κ : Kap} {M : Mem} {w : World} (h : MRel κ M w) {n b : Nat} {c : List AV} {own tip : Bool} (hn : M n = some (.cells c own tip)) (hb : κ.loc n = some (some b)) : Place κ w ⟨b, 0, none⟩ c := by
  rcases h.row n _ hn with ⟨h1, _⟩ | ⟨b', zs, rest, e, fr, h1, h2, h3, _⟩
  · rw [hb] at h1; cases h1
  · rw [hb] at h1; cases h1
    have hl := h3.length
    refine ⟨b, 0, _, e, fr, rfl, h2, by simp; omega, ?_⟩
    rw [List.drop_zero, ← hl]
    simp only [List.take_left]
    exact h3
theorem MRel.stable_place {κ : Kap} {M : Mem} {w : World} (h : MRel κ M w) {b off : Nat} {c : List AV} {cs zs : List Value} (hb : κ.st b = some cs) (hz : zs = (cs.drop off).take (cw c)) (hc : CRel κ.nl c zs) (hoff : off + cw c ≤ cs.length ∨ cw c ≠ 0) :
    Place κ w ⟨b, off, none⟩ c := by
  obtain ⟨rest, e, fr, h1⟩ := h.stable b cs hb
  have hl := hc.length
  have hle : off + cw c ≤ cs.length := by
    rcases hoff with h | h
    · exact h
    · rw [hz, List.length_take, List.length_drop] at hl; omega
  refine ⟨b, off, _, e, fr, rfl, h1, by simp; omega, ?_⟩
  have : ((cs ++ rest).toArray.toList.drop off).take (cw c) = zs := by
    rw [hz]
    simp only [List.drop_append_of_le_length (show off ≤ cs.length by omega)]
    rw [List.take_append_of_le_length (by simp; omega)]
  rw [this]; exact hc.mono κ.nl_le

theorem placeK_ok {R : Type} {m : List (Nat × Row)} {x : AV} {k : List AV → List Nat → Option R} {r : R} (h : placeK m x k = some r) :
    ∃ c rd, k c rd = some r ∧ ∀ (κ : Kap) (w : World) (M : Mem) (y : Value), MRel κ M w → (∀ n ∈ rd, M n = find m n) → VRel κ x y → cw c ≠ 0 → ∃ a, y = .pointer (some a) ∧ Place κ w a c := by
  unfold placeK at h
  split at h
  · rename_i n ps o
    split at h
    · rename_i c own tip hf
      obtain ⟨c', hw, h2⟩ := walkK_some _ _ _ h
      split at h2
      · rename_i c2 hd
        refine ⟨c2, [n], h2, fun κ w M y hR hrd hv _ => ?_⟩
        cases hv with
        | ptr _ p _ b _ h3 h4 _ =>
          have hM : M n = some (.cells c own tip) := by rw [hrd n (List.mem_singleton.2 rfl)]; exact hf
          refine ⟨_, rfl, ?_⟩
          have := ((hR.place hM h3).walk ps hw).drop hd
          rw [h4]; simpa using this
      · cases h2
    · cases h
  · rename_i c o
    split at h
    · rename_i c2 hd
      refine ⟨c2, [], h, fun κ w M y hR hrd hv hc => ?_⟩
      cases hv with
      | sptr _ cs zs b off p _ h1 h2 h3 h4 _ =>
        have hne : cw c ≠ 0 := by
          obtain ⟨c0, rfl, hc0⟩ := dropW_spec _ _ _ hd
          rw [cw_append]; omega
        refine ⟨_, rfl, ?_⟩
        rw [h4]
        exact (hR.stable_place h1 h2 h3 (.inr hne)).drop hd
    · cases h
  · cases h

theorem readT_ok {R : Type} {t : TypeId} {c : List AV} {k : AV → Option R} {r : R} (h : readT P t c k = some r) : cw c ≠ 0 ∧ ∃ v, k v = some r ∧
    (∀ (κ : Kap) (w : World) (a : Addr), Place κ w a c → ∃ v', VRel κ v v' ∧ (loadVar t a).run P w = .ok v' w) ∧
    (∀ (κ : Kap) (w : World) (cs : Array Value) (off : Nat), CRel κ c ((cs.toList.drop off).take (cw c)) → ∃ v', VRel κ v v' ∧ (part t cs off).run P w = .ok v' w) := by
  unfold readT at h
  split at h
  · rename_i hagg
    split at h
    · rename_i x rest
      obtain ⟨hx, h⟩ := cond_some' h
      have hw : width x = 1 := by cases x <;> first | rfl | (simp [isArr] at hx; done)
      refine ⟨by simp only [cw, hw]; omega, x, h, fun κ w a hp => ?_, fun κ w cs off hp => ?_⟩
      · obtain ⟨b, off, cs, e, fr, rfl, h1, h2, h3⟩ := hp
        obtain ⟨y, ys, hy, h4, _⟩ := h3.head hx
        refine ⟨y, h4, ?_⟩
        refine (run_q hagg).trans ?_
        have hc : w.cell? ⟨b, off, none⟩ = some y := by
          rw [cell_blk h1]
          have : (List.take (cw (x :: rest)) (List.drop off cs.toList))[0]? = some y := by rw [hy]; rfl
          rw [List.getElem?_take] at this
          split at this
          · rw [List.getElem?_drop] at this; simpa using this
          · cases this
        simp only [Bool.false_eq_true, if_false, load, Sem.run, hc]
      · obtain ⟨y, ys, hy, h4, _⟩ := hp.head hx
        refine ⟨y, h4, ?_⟩
        unfold part
        refine (run_q hagg).trans ?_
        have : cs[off]? = some y := by
          have : (List.take (cw (x :: rest)) (List.drop off cs.toList))[0]? = some y := by rw [hy]; rfl
          rw [List.getElem?_take] at this
          split at this
          · rw [List.getElem?_drop] at this; simpa using this
          · cases this
        simp only [Bool.false_eq_true, if_false, this]; rfl
    · cases h
  · rename_i hagg
    split at h
    · rename_i s hs
      obtain ⟨hs0, h⟩ := cond_some' h
      split at h
      · rename_i c1 htk
        have hne : s ≠ 0 := fun e => by subst e; simp at hs0
        obtain ⟨c2, hc, hc1⟩ := takeW_spec _ _ _ htk
        refine ⟨by rw [hc, cw_append]; omega, _, h, fun κ w a hp => ?_, fun κ w cs off hp => ?_⟩
        · obtain ⟨⟨b, off, cs, e, fr, rfl, h1, h2, h3⟩, hcs⟩ := hp.take htk
          refine ⟨_, .agg _ _ h3 .nil, ?_⟩
          refine (run_q hagg).trans ?_
          simp only [if_true]
          refine (run_q hs).trans ?_
          rw [hcs] at h2 ⊢
          exact (run_bind_ok (run_loadCells h1 off s h2)).trans rfl
        · obtain ⟨h3, h4⟩ := hp.takeW htk
          have hle : s ≤ cw c := by rw [hc, cw_append]; omega
          rw [List.take_take, Nat.min_eq_left hle] at h3
          refine ⟨_, .agg _ _ h3 .nil, ?_⟩
          unfold part
          refine (run_q hagg).trans ?_
          simp only [if_true]
          refine (run_q hs).trans ?_
          have : cs.extract off (off + s) = ⟨(cs.toList.drop off).take s⟩ := by
            apply Array.ext'
            simp
          rw [this]; rfl
      · cases h
    · cases h
  · cases h

theorem pureE_ok {R : Type} {o : Oper} {E : Env} {k : Ent → Option R} {r : R} (h : pureE P o E k = some r) : ∃ v, k ⟨v, [], 0, []⟩ = some r ∧ ∀ m, StillOk P o E m v [] := by
  unfold pureE at h
  obtain ⟨hp, h⟩ := cond_some h
  split at h
  · rename_i v hq
    split at h
    · rename_i x hx
      refine ⟨x, h, fun m κ a w M hA hR _ => ⟨v, ofV_ok hx, ?_⟩⟩
      have hcong : execOp (rho E) o = execOp a.eval o :=
        execOp_congr o (fun cs b e => select_no (P := P) e hq) (fun x hx => plainOps_ok _ (fun x hx => hA x (by simpa using hx)) hp x (by simpa using hx))
      rw [hcong] at hq
      exact qrun_run _ hq w
    · cases h
  · cases h

theorem loadE_ok {R : Type} {o : Oper} {t : TypeId} {x : Operand} (ho : o.op = .load t x) {E : Env} {m : List (Nat × Row)} {k : Ent → Option R} {r : R} (h : loadE P t x E m k = some r) :
    ∃ v rd, k ⟨v, [], 0, rd⟩ = some r ∧ StillOk P o E (find m) v rd := by
  unfold loadE at h
  split at h
  · rename_i p hp
    obtain ⟨c, rd, h1, h2⟩ := placeK_ok h
    obtain ⟨hne, v, h3, h4, _⟩ := readT_ok h1
    refine ⟨v, rd, h3, fun κ a w M hA hR hrd => ?_⟩
    obtain ⟨ad, hy, hpl⟩ := h2 κ w M _ hR hrd (hA x (by rw [ho]; simp [Op.operands]) p hp) hne
    obtain ⟨v', hv, hrun⟩ := h4 κ w ad hpl
    refine ⟨v', hv, ?_⟩
    simp only [execOp, ho]
    refine run_value ?_
    simp only [Instr.loadAt, hy, Instr.sureAddr]
    exact hrun
  · cases h

theorem fieldAddrE_ok {R : Type} {o : Oper} {s : TypeId} {x : Operand} {f : Nat} (ho : o.op = .fieldAddr s x f) {E : Env} {k : Ent → Option R} {r : R} (h : fieldAddrE P s x f E k = some r) :
    ∃ v, k ⟨v, [], 0, []⟩ = some r ∧ ∀ m, StillOk P o E m v [] := by
  have hmem : x ∈ o.op.operands := by rw [ho]; simp [Op.operands]
  unfold fieldAddrE at h
  split at h
  · rename_i fields hs
    split at h
    · cases h
    · rename_i fd hfd
      split at h
      · cases h
      · rename_i z hz
        obtain ⟨hz0, h⟩ := cond_some' h
        have hz' : z ≠ 0 := fun e => by subst e; simp at hz0
        have key : ∀ (a : Act) (w : World) (b off : Nat), a.eval x = .pointer (some ⟨b, off, none⟩) → (execOp a.eval o).run P w = .ok (.value (.pointer (some ⟨b, off + fd.offset, none⟩))) w := by
          intro a w b off hea
          simp only [execOp, ho]
          refine run_value ?_
          simp only [Instr.fieldAt, hea, Instr.sureAddr]
          refine (run_q hs).trans ?_
          simp only [hfd]
          refine (run_bind_ok (a := ⟨b, off, none⟩) (w' := w) rfl).trans ?_
          refine (run_bind_ok (a := ⟨b, off + fd.offset, none⟩) (w' := w) ?_).trans rfl
          unfold fieldPlace
          refine (run_q hz).trans ?_
          rw [if_neg hz', addr_add]
          rfl
        split at h
        · rename_i n ps o' hx
          refine ⟨_, h, fun m κ a w M hA hR _ => ?_⟩
          have hp := hA x hmem _ hx
          generalize hea : a.eval x = ev at hp
          cases hp with
          | ptr _ p _ b _ h3 h4 _ =>
            exact ⟨_, .ptr n _ _ b ps h3 (by rw [h4, Nat.add_assoc]) .nil, key a w b p hea⟩
        · rename_i c o' hx
          refine ⟨_, h, fun m κ a w M hA hR _ => ?_⟩
          have hp := hA x hmem _ hx
          generalize hea : a.eval x = ev at hp
          cases hp with
          | sptr _ cs zs b off p _ h1 h2 h3 h4 _ =>
            exact ⟨_, .sptr c cs zs b off _ _ h1 h2 h3 (by rw [h4, Nat.add_assoc]) .nil, key a w b p hea⟩
        · cases h
  · cases h

theorem fieldE_ok {R : Type} {o : Oper} {s : TypeId} {x : Operand} {f : Nat} (ho : o.op = .field s x f) {E : Env} {k : Ent → Option R} {r : R} (h : fieldE P s x f E k = some r) :
    ∃ v, k ⟨v, [], 0, []⟩ = some r ∧ ∀ m, StillOk P o E m v [] := by
  have hmem : x ∈ o.op.operands := by rw [ho]; simp [Op.operands]
  unfold fieldE at h
  split at h
  · rename_i fields hs
    split at h
    · cases h
    · rename_i fd hfd
      split at h
      · rename_i c hx
        split at h
        · rename_i c2 hd
          obtain ⟨_, v, h3, _, h4⟩ := readT_ok h
          refine ⟨v, h3, fun m κ a w M hA hR _ => ?_⟩
          have hp := hA x hmem _ hx
          generalize hea : a.eval x = ev at hp
          cases hp with
          | agg _ zs h1 _ =>
            have hd1 := (h1.dropW hd).1
            obtain ⟨v', hv, hrun⟩ := h4 κ w ⟨zs⟩ fd.offset (by rw [List.take_of_length_le (Nat.le_of_eq hd1.length)]; exact hd1)
            refine ⟨v', hv, ?_⟩
            simp only [execOp, ho]
            refine run_value ?_
            simp only [Instr.field, hea, asAgg]
            refine (run_q hs).trans ?_
            simp only [hfd]
            exact (run_bind_ok (a := ⟨zs⟩) (w' := w) rfl).trans hrun
        · cases h
      · cases h
  · cases h

/-! ### elements -/
section
variable {R : Type} (P)
def indexAddrE (t : TypeId) (x y : Operand) (E : Env) (k : Ent → Option R) : Option R :=
  match aeval E y with
  | some (.int _ i) =>
    match qrun P (underlying t) with
    | some (.slice e) =>
      match qrun P (sizeOf e) with
      | some s => match aeval E x with
        | some (.slc n ps o i0 w len _) => bif Nat.beq s w then bif decide (0 ≤ i) then bif decide (i < (len : Int)) then k ⟨.ptr n (ps ++ [(o, add0 i0 i.toNat, w)]) 0, [], 0, []⟩ else none else none else none
        | some (.lst w f len us) => bif Nat.beq s w then bif decide (0 ≤ i) then bif decide (i < (len : Int)) then eltK us f i.toNat fun c => k ⟨.sptr c 0, [], 0, []⟩ else none else none else none
        | _ => none
      | none => none
    | some (.array len e) =>
      match qrun P (sizeOf e) with
      | some s => match aeval E x with
        | some (.ptr n ps o) => bif decide (0 ≤ i) then bif decide (i < (len : Int)) then k ⟨.ptr n (ps ++ [(o, i.toNat, s)]) 0, [], 0, []⟩ else none else none
        | some (.sptr c o) => match dropW c o with
          | some (.arr w n f us :: _) => bif Nat.beq s w && Nat.ble len n then bif decide (0 ≤ i) then bif decide (i < (len : Int)) then eltK us f i.toNat fun c => k ⟨.sptr c 0, [], 0, []⟩ else none else none else none
          | _ => none
        | _ => none
      | none => none
    | _ => none
  | _ => none
def indexE (t : TypeId) (x y : Operand) (E : Env) (k : Ent → Option R) : Option R :=
  match aeval E y with
  | some (.int _ i) =>
    match qrun P (underlying t) with
    | some (.array len e) =>
      match qrun P (sizeOf e) with
      | some s => match aeval E x with
        | some (.agg (.arr w n f us :: _)) => bif Nat.beq s w && Nat.ble len n then bif decide (0 ≤ i) then bif decide (i < (len : Int)) then eltK us f i.toNat fun c => readT P e c fun v => k ⟨v, [], 0, []⟩ else none else none else none
        | _ => none
      | none => none
    | some .string => match aeval E x with
      | some (.str l) => bif decide (0 ≤ i) then bif decide (i < (l.length : Int)) then k ⟨.int .u8 ((l.getD i.toNat 0).toNat : Int), [], 0, []⟩ else none else none
      | _ => none
    | _ => none
  | _ => none
end
theorem int_of {κ : Kap} {k : IntKind} {i : Int} {y : Value} (h : VRel κ (.int k i) y) : y = .int k i := by
  cases h; rfl

theorem indexAddrE_ok {R : Type} {o : Oper} {t : TypeId} {x y : Operand} (ho : o.op = .indexAddr t x y) {E : Env} {k : Ent → Option R} {r : R} (h : indexAddrE P t x y E k = some r) :
    ∃ v, k ⟨v, [], 0, []⟩ = some r ∧ ∀ m, StillOk P o E m v [] := by
  have hmx : x ∈ o.op.operands := by rw [ho]; simp [Op.operands]
  have hmy : y ∈ o.op.operands := by rw [ho]; simp [Op.operands]
  unfold indexAddrE at h
  split at h
  · rename_i kd i hy
    split at h
    · rename_i e ht
      split at h
      · rename_i s hs
        have key : ∀ (a : Act) (w : World) (ad : Addr) (len cap : Nat) (κ : Kap), AOn κ o E a → a.eval x = .slice (some ad) len cap → 0 ≤ i → i < (len : Int) →
            (execOp a.eval o).run P w = .ok (.value (.pointer (some (ad.add (i.toNat * s))))) w := by
          intro a w ad len cap κ hA hea h0 h1
          have hi := int_of (hA y hmy _ hy)
          simp only [execOp, ho, hi, hea]
          refine run_value ?_
          unfold Instr.indexAt
          refine (run_bind_ok (e := asIntOf (.int kd i)) (a := (kd, i)) (w' := w) rfl).trans ?_
          refine (run_q ht).trans ?_
          refine (run_bind_ok (e := (pure (some ad, len, e) : Sem (Option Addr × Nat × TypeId))) (a := (some ad, len, e)) (w' := w) rfl).trans ?_
          refine (run_q ht).trans ?_
          simp only [h0, h1, and_self, if_true]
          exact (run_q hs).trans rfl
        split at h
        · rename_i n ps o' i0 w0 len cap hx
          obtain ⟨hw, g1⟩ := cond_some h; clear h
          obtain ⟨h0', g2⟩ := cond_some g1; clear g1
          obtain ⟨h1', h⟩ := cond_some g2; clear g2; try simp only [eltK_eq] at h
          have h0 := of_decide_eq_true h0'
          have h1 := of_decide_eq_true h1'
          have := Nat.eq_of_beq_eq_true hw; subst this
          refine ⟨_, h, fun m κ a w M hA hR _ => ?_⟩
          have hp := hA x hmx _ hx
          generalize hea : a.eval x = ev at hp
          cases hp with
          | slc _ _ _ _ _ _ _ b cap' ad h3 h4 h5 h6 _ =>
            have hne : cap' ≠ 0 := by omega
            obtain ⟨had, _⟩ := h4.resolve_left hne
            subst had
            refine ⟨_, .ptr n _ 0 b _ h3 rfl .nil, ?_⟩
            rw [key a w _ len cap' κ hA hea h0 h1, addr_add]
            simp only [plen_append, plen, add0_eq]
            rw [show plen ps + o' + i0 * s + i.toNat * s = plen ps + (o' + (i0 + i.toNat) * s + 0) + 0 from by rw [Nat.add_mul]; omega]
          | slc0 _ _ _ _ _ h3 _ => omega
        · rename_i w0 f len us hx
          obtain ⟨hw, g1⟩ := cond_some h; clear h
          obtain ⟨h0', g2⟩ := cond_some g1; clear g1
          obtain ⟨h1', h⟩ := cond_some g2; clear g2; try simp only [eltK_eq] at h
          have h0 := of_decide_eq_true h0'
          have h1 := of_decide_eq_true h1'
          have := Nat.eq_of_beq_eq_true hw; subst this
          refine ⟨_, h, fun m κ a w M hA hR _ => ?_⟩
          have hp := hA x hmx _ hx
          generalize hea : a.eval x = ev at hp
          have hi : i.toNat < len := by omega
          cases hp with
          | lst _ _ b off cap _ _ cs h3 h4 h5 hov h6 h7 _ =>
            refine ⟨_, .sptr (elt us f i.toNat) cs _ b (off + i.toNat * s) _ 0 h3 rfl (by rw [h6 _ hi]; exact h7 _ hi) rfl .nil, ?_⟩
            rw [key a w _ len cap κ hA hea h0 h1, addr_add]; rfl
          | lst0 _ _ _ _ _ _ => omega
        · cases h
      · cases h
    · rename_i len e ht
      split at h
      · rename_i s hs
        have key : ∀ (a : Act) (w : World) (ad : Addr) (κ : Kap), AOn κ o E a → a.eval x = .pointer (some ad) → 0 ≤ i → i < (len : Int) →
            (execOp a.eval o).run P w = .ok (.value (.pointer (some (ad.add (i.toNat * s))))) w := by
          intro a w ad κ hA hea h0 h1
          have hi := int_of (hA y hmy _ hy)
          simp only [execOp, ho, hi, hea]
          refine run_value ?_
          unfold Instr.indexAt
          refine (run_bind_ok (e := asIntOf (.int kd i)) (a := (kd, i)) (w' := w) rfl).trans ?_
          refine (run_q ht).trans ?_
          refine (run_bind_ok (e := Instr.sureAddr (.pointer (some ad))) (a := ad) (w' := w) rfl).trans ?_
          refine (run_bind_ok (e := (pure (some ad, len, e) : Sem (Option Addr × Nat × TypeId))) (a := (some ad, len, e)) (w' := w) rfl).trans ?_
          refine (run_q ht).trans ?_
          simp only [h0, h1, and_self, if_true]
          exact (run_q hs).trans rfl
        split at h
        · rename_i n ps o' hx
          obtain ⟨h0', h⟩ := cond_some h
          obtain ⟨h1', h⟩ := cond_some h
          have h0 := of_decide_eq_true h0'
          have h1 := of_decide_eq_true h1'
          refine ⟨_, h, fun m κ a w M hA hR _ => ?_⟩
          have hp := hA x hmx _ hx
          generalize hea : a.eval x = ev at hp
          cases hp with
          | ptr _ p _ b _ h3 h4 _ =>
            refine ⟨_, .ptr n _ 0 b _ h3 rfl .nil, ?_⟩
            rw [key a w _ κ hA hea h0 h1, addr_add, h4]
            simp only [plen_append, plen]
            rw [show plen ps + o' + i.toNat * s = plen ps + (o' + i.toNat * s + 0) + 0 from by omega]
        · rename_i c o' hx
          split at h
          · rename_i w0 n f us rest hd
            obtain ⟨hw, g1⟩ := cond_some h; clear h
            simp only [Bool.and_eq_true] at hw
            have hn := Nat.le_of_ble_eq_true hw.2
            obtain ⟨h0', g2⟩ := cond_some g1; clear g1
            obtain ⟨h1', h⟩ := cond_some g2; clear g2; try simp only [eltK_eq] at h
            have h0 := of_decide_eq_true h0'
            have h1 := of_decide_eq_true h1'
            have := Nat.eq_of_beq_eq_true hw.1; subst this
            refine ⟨_, h, fun m κ a w M hA hR _ => ?_⟩
            have hp := hA x hmx _ hx
            generalize hea : a.eval x = ev at hp
            have hi : i.toNat < n := by omega
            cases hp with
            | sptr _ cs zs b off p _ h3 h4 h5 h6 _ =>
              obtain ⟨g1, g2⟩ := h5.dropW hd
              obtain ⟨a1, a2, a3, a4⟩ := g1.arr_inv
              have ha := a3 _ hi
              have hcw := a2 _ hi
              obtain ⟨c0, hc0, hc0w⟩ := dropW_spec _ _ _ hd
              have hcwc : cw c = o' + (n * s + cw rest) := by rw [hc0, cw_append, hc0w]; simp [cw, width]
              have hle : i.toNat * s + s ≤ n * s := by
                have := Nat.mul_le_mul_right s (Nat.succ_le_of_lt hi)
                rw [Nat.succ_mul] at this; exact this
              refine ⟨_, .sptr (elt us f i.toNat) cs _ b (off + o' + i.toNat * s) _ 0 h3 rfl ?_ rfl .nil, ?_⟩
              · rw [hcw]
                have e1 : ((List.drop o' zs).drop (i.toNat * s)).take s = (cs.drop (off + o' + i.toNat * s)).take s := by
                  rw [h4, List.drop_take, List.drop_take, List.take_take, List.drop_drop, List.drop_drop]
                  rw [Nat.min_eq_left (by omega), Nat.add_assoc]
                rw [e1] at ha; exact ha
              · rw [key a w _ κ hA hea h0 h1, addr_add, h6]; rfl
          · cases h
        · cases h
      · cases h
    · cases h
  · cases h

theorem indexE_ok {R : Type} {o : Oper} {t : TypeId} {x y : Operand} (ho : o.op = .index t x y) {E : Env} {k : Ent → Option R} {r : R} (h : indexE P t x y E k = some r) :
    ∃ v, k ⟨v, [], 0, []⟩ = some r ∧ ∀ m, StillOk P o E m v [] := by
  have hmx : x ∈ o.op.operands := by rw [ho]; simp [Op.operands]
  have hmy : y ∈ o.op.operands := by rw [ho]; simp [Op.operands]
  unfold indexE at h
  split at h
  · rename_i kd i hy
    split at h
    · rename_i len e ht
      split at h
      · rename_i s hs
        split at h
        · rename_i w0 n f us rest hx
          obtain ⟨hw, g1⟩ := cond_some h; clear h
          simp only [Bool.and_eq_true] at hw
          have hn := Nat.le_of_ble_eq_true hw.2
          obtain ⟨h0', g2⟩ := cond_some g1; clear g1
          obtain ⟨h1', h⟩ := cond_some g2; clear g2; try simp only [eltK_eq] at h
          have h0 := of_decide_eq_true h0'
          have h1 := of_decide_eq_true h1'
          have := Nat.eq_of_beq_eq_true hw.1; subst this
          obtain ⟨_, v, h3, _, h4⟩ := readT_ok h
          refine ⟨v, h3, fun m κ a w M hA hR _ => ?_⟩
          have hp := hA x hmx _ hx
          generalize hea : a.eval x = ev at hp
          have hi : i.toNat < n := by omega
          cases hp with
          | agg _ zs g1 _ =>
            obtain ⟨a1, a2, a3, a4⟩ := g1.arr_inv
            have ha := a3 _ hi
            have hcw := a2 _ hi
            have hle : i.toNat * s + s ≤ n * s := by
              have := Nat.mul_le_mul_right s (Nat.succ_le_of_lt hi)
              rw [Nat.succ_mul] at this; exact this
            obtain ⟨v', hv, hrun⟩ := h4 κ w ⟨zs⟩ (i.toNat * s) (by rw [hcw]; exact ha.mono κ.nl_le)
            refine ⟨v', hv, ?_⟩
            have hi2 := int_of (hA y hmy _ hy)
            simp only [execOp, ho, hi2, hea]
            refine run_value ?_
            unfold Instr.index
            refine (run_bind_ok (e := asIntOf (.int kd i)) (a := (kd, i)) (w' := w) rfl).trans ?_
            refine (run_q ht).trans ?_
            simp only [h0, h1, and_self, if_true]
            exact (run_q hs).trans hrun
        · cases h
      · cases h
    · rename_i ht
      split at h
      · rename_i l hx
        obtain ⟨h0', h⟩ := cond_some h
        obtain ⟨h1', h⟩ := cond_some h
        have h0 := of_decide_eq_true h0'
        have h1 := of_decide_eq_true h1'
        refine ⟨_, h, fun m κ a w M hA hR _ => ?_⟩
        have hp := hA x hmx _ hx
        generalize hea : a.eval x = ev at hp
        cases hp with
        | str _ _ =>
          refine ⟨_, .int _ _ .nil, ?_⟩
          have hi2 := int_of (hA y hmy _ hy)
          simp only [execOp, ho, hi2, hea]
          refine run_value ?_
          unfold Instr.index
          refine (run_bind_ok (e := asIntOf (.int kd i)) (a := (kd, i)) (w' := w) rfl).trans ?_
          refine (run_q ht).trans ?_
          have hlt : i.toNat < l.length := by omega
          have hget : (⟨l.toArray⟩ : ByteArray)[i.toNat]? = some l[i.toNat] := by
            rw [getElem?_pos _ _ (by show i.toNat < l.toArray.size; simpa using hlt)]; rfl
          simp only [if_pos h0, hget]
          rw [List.getD_eq_getElem?_getD, List.getElem?_eq_getElem hlt]; rfl
      · cases h
    · cases h
  · cases h
end
end Go.Sv
