/- An evaluator for the model's code over an abstract memory, fourth part: its operations are sound. -/
import Derived.Test.YtopgjinjjpplcaaEv2
import Derived.Laws.Sem
namespace Go.Ev
open Go.RowKit

structure ARel (ι : Inj) (A a : Act) : Prop where
  size : A.tmps.size = a.tmps.size
  get : ∀ t, VRel ι (A.tmps.getD t undef) (a.tmps.getD t undef)
  dA : A.defers = []
  da : a.defers = []

theorem ARel.mono {ι ι' : Inj} (h : Inj.le ι ι') {A a : Act} (r : ARel ι A a) : ARel ι' A a := ⟨r.size, fun t => (r.get t).mono h, r.dA, r.da⟩

theorem getD_set (xs : Array Value) (d t : Nat) (v : Value) : (xs.setIfInBounds d v).getD t undef = if d = t ∧ d < xs.size then v else xs.getD t undef := by
  simp only [Array.getD_eq_getD_getElem?]
  by_cases e : d = t
  · subst e
    by_cases hlt : d < xs.size
    · simp [hlt]
    · simp [hlt]
  · simp [e, Array.getElem?_setIfInBounds_ne e]

theorem ARel.put {ι : Inj} {A a : Act} (r : ARel ι A a) (d : Option Tmp) {v v' : Value} (hv : VRel ι v v') : ARel ι (A.put d v) (a.put d v') := by
  cases d with
  | none => exact r
  | some d =>
    refine ⟨by simp [Act.put, r.size], fun t => ?_, r.dA, r.da⟩
    simp only [Act.put, getD_set]
    rw [r.size]
    split
    · exact hv
    · exact r.get t

theorem vrel_undef (ι : Inj) : VRel ι undef undef := .plain _ rfl

theorem aeval_ok {ι : Inj} {A a : Act} (r : ARel ι A a) {x : Operand} {v : Value} (h : aeval A x = some v) : VRel ι v (a.eval x) := by
  cases x with
  | tmp t => simp only [aeval, Option.some.injEq, getE_eq] at h; subst h; exact r.get t
  | const c =>
    simp only [aeval] at h
    cases hp : plain c
    · simp [hp] at h
    · simp only [hp, cond_true, Option.some.injEq] at h; subst h; exact .plain _ hp
  | global g => simp [aeval] at h
  | func f => simp only [aeval, Option.some.injEq] at h; subst h; exact .plain _ rfl

theorem aeval_eval {A : Act} {x : Operand} {v : Value} (h : aeval A x = some v) : A.eval x = v := by
  cases x with
  | tmp t => simpa [aeval, Act.eval, getE_eq] using h
  | const c =>
    simp only [aeval] at h
    cases hp : plain c
    · simp [hp] at h
    · simpa [hp, Act.eval] using h
  | global g => simp [aeval] at h
  | func f => simpa [aeval, Act.eval] using h

/-- What an operation looks at is related. -/
def AOn (ι : Inj) (o : Oper) (A a : Act) : Prop := ∀ x ∈ o.op.operands, ∀ v, aeval A x = some v → VRel ι v (a.eval x)
theorem ARel.on {ι : Inj} {A a : Act} (r : ARel ι A a) (o : Oper) : AOn ι o A a := fun _ _ _ h => aeval_ok r h

theorem plainOps_ok {ι : Inj} {A a : Act} : ∀ (xs : List Operand), (∀ x ∈ xs, ∀ v, aeval A x = some v → VRel ι v (a.eval x)) → plainOps A xs = true → ∀ x ∈ xs, A.eval x = a.eval x
  | [], _, _, x, hx => by cases hx
  | y :: ys, r, h, x, hx => by
    simp only [plainOps] at h
    cases hy : aeval A y with
    | none => simp [hy] at h
    | some v =>
      simp only [hy] at h
      cases hp : plain v
      · simp [hp] at h
      · simp only [hp, cond_true] at h
        rcases List.mem_cons.1 hx with rfl | hx
        · rw [aeval_eval hy, (r _ (List.mem_cons_self ..) _ hy).eq_of_plain hp]
        · exact plainOps_ok ys (fun x hx => r x (List.mem_cons_of_mem _ hx)) h x hx

theorem aevals_ok {ι : Inj} {A a : Act} : ∀ (xs : List Operand) (vs : List Value), (∀ x ∈ xs, ∀ v, aeval A x = some v → VRel ι v (a.eval x)) → aevals A xs = some vs → LRel ι vs (xs.map a.eval)
  | [], vs, _, h => by simp only [aevals, Option.some.injEq] at h; subst h; exact LRel.nil ι
  | x :: xs, vs, r, h => by
    simp only [aevals] at h
    cases hx : aeval A x with
    | none => simp [hx] at h
    | some v =>
      simp only [hx] at h
      cases hxs : aevals A xs with
      | none => simp [hxs] at h
      | some us =>
        simp only [hxs, Option.some.injEq] at h
        subst h
        exact LRel.cons (r _ (List.mem_cons_self ..) _ hx) (aevals_ok xs us (fun x hx => r x (List.mem_cons_of_mem _ hx)) hxs)

theorem takeN_spec : ∀ (n : Nat) (vs us : List Value), takeN n vs = some us → us.length = n ∧ ∀ (i : Nat) (x : Value), us[i]? = some x → vs[i]? = some x
  | 0, vs, us, h => by simp only [takeN, Option.some.injEq] at h; subst h; simp
  | n + 1, [], us, h => by simp [takeN] at h
  | n + 1, v :: vs, us, h => by
    simp only [takeN] at h
    cases hx : takeN n vs with
    | none => simp [hx] at h
    | some ws =>
      simp only [hx, Option.some.injEq] at h
      subst h
      obtain ⟨h1, h2⟩ := takeN_spec n vs ws hx
      refine ⟨by simp [h1], fun i x hi => ?_⟩
      cases i with
      | zero => simpa using hi
      | succ i => simp at hi ⊢; exact h2 i x hi

/-- The cells that an abstract row has, in the world. -/
theorem MRel.cells {ι : Inj} {B : Nat} {m : List (Nat × Row)} {w : World} (h : MRel ι B m w) {n : Nat} {r : Row} (hn : find m n = some r) {l : Loc} (hl : ι n = some l) (off : Nat) :
    ∀ (vs : List Value), (∀ (i : Nat) (x : Value), vs[i]? = some x → r.c[off + i]? = some x) → ∃ us, LRel ι vs us ∧ holds w l.blk (l.shift + off) us := by
  obtain ⟨k, hk, hlt, h1, _⟩ := h.row n r hn
  have : k = l := by rw [hl] at hk; exact (Option.some.inj hk).symm
  subst this
  intro vs
  induction vs generalizing off with
  | nil => exact fun _ => ⟨[], LRel.nil ι, fun i x hx => by simp at hx⟩
  | cons v vs ih =>
    intro hv
    obtain ⟨u, hu, hvu⟩ := h1 (off + 0) v (hv 0 v rfl)
    obtain ⟨us, hus, hh⟩ := ih (off + 1) (fun i x hx => by rw [show off + 1 + i = off + (i + 1) from by omega]; exact hv (i + 1) x (by simpa using hx))
    refine ⟨u :: us, LRel.cons hvu hus, fun i x hx => ?_⟩
    cases i with
    | zero => simp at hx; subst hx; simpa using hu
    | succ i =>
      have := hh i x (by simpa using hx)
      rw [show k.shift + off + (i + 1) = k.shift + (off + 1) + i from by omega]
      exact this

/-! ### what an operation's soundness says -/
variable {P : Program}

def OpOk (P : Program) (o : Oper) (A : Act) (st : AS) (v : Value) (st' : AS) : Prop :=
  ∀ (ι : Inj) (B : Nat) (a : Act) (w : World) (K : Act → World → Prop) (Q : Exit → Act → World → Prop), AOn ι o A a → Rel ι B st w →
    (∀ ι' v' w', Inj.le ι ι' → VRel ι' v v' → Rel ι' B st' w' → Below B w w' → K (a.put o.dst v') w') → o.wp P a w K Q

/-- It leaves the world as it is. -/
def StillOk (P : Program) (o : Oper) (A : Act) (m : List (Nat × Row)) (v : Value) : Prop :=
  ∀ (ι : Inj) (B : Nat) (a : Act) (w : World) (K : Act → World → Prop) (Q : Exit → Act → World → Prop), AOn ι o A a → MRel ι B m w →
    (∀ v', VRel ι v v' → K (a.put o.dst v') w) → o.wp P a w K Q
theorem StillOk.op {P : Program} {o : Oper} {A : Act} {st : AS} {v : Value} (h : StillOk P o A st.mem v) : OpOk P o A st v st :=
  fun ι B a w K Q hA hR hK => h ι B a w K Q hA hR.mem fun v' hv => hK ι v' w (Inj.le_refl ι) hv hR (Below.refl _ _)

def SoundFn (P : Program) (g : FuncId) (vs : List Value) (st : AS) (v : Value) (st' : AS) : Prop :=
  ∀ (ι : Inj) (B : Nat) (us : List Value) (w : World), LRel ι vs us → Rel ι B st w →
    Calls P g us.toArray w fun e w' => ∃ ι' v', Inj.le ι ι' ∧ e = .returned v' ∧ VRel ι' v v' ∧ Rel ι' B st' w' ∧ Below B w w'

theorem run_value {s : Sem Value} {w w' : World} {v : Value} (h : s.run P w = .ok v w') : (do pure (.value (← s)) : Sem Next).run P w = .ok (.value v) w' :=
  run_bind_ok (f := fun x => Sem.pure (Next.value x)) h
theorem run_skip {s : Sem Unit} {w w' : World} (h : s.run P w = .ok () w') : (do s; pure .skip : Sem Next).run P w = .ok .skip w' :=
  run_bind_ok (f := fun _ => Sem.pure Next.skip) h

theorem wp_value {o : Oper} {a : Act} {w w' : World} {v : Value} {K : Act → World → Prop} {Q : Exit → Act → World → Prop} (h : (execOp a.eval o).run P w = .ok (.value v) w') (hk : K (a.put o.dst v) w') : o.wp P a w K Q := by
  unfold Oper.wp; rw [h]; exact hk
theorem wp_skip' {o : Oper} {a : Act} {w w' : World} {K : Act → World → Prop} {Q : Exit → Act → World → Prop} (h : (execOp a.eval o).run P w = .ok .skip w') (hk : K (a.put o.dst undef) w') : o.wp P a w K Q := by
  unfold Oper.wp; rw [h]; exact hk

theorem cond_some {R : Type} {b : Bool} {x : Option R} {r : R} (h : (bif b then x else none) = some r) : b = true ∧ x = some r := by
  cases b
  · cases h
  · exact ⟨rfl, h⟩

theorem qrun_bind {α β : Type} (e : Sem α) (f : α → Sem β) {x : β} (h : qrun P (e.bind f) = some x) : ∃ a, qrun P e = some a ∧ qrun P (f a) = some x := by
  induction e with
  | pure a => exact ⟨a, rfl, h⟩
  | program k ih => exact ih P h
  | mark m k ih => exact ih h
  | _ => simp [Sem.bind, qrun] at h

theorem select_no {ρ : Operand → Value} {o : Oper} {cs : Array SelectCase} {b : Bool} (ho : o.op = .select cs b) {v : Value} (h : qrun P (execOp ρ o) = some (.value v)) : False := by
  simp only [execOp, ho] at h
  obtain ⟨a, _, h⟩ := qrun_bind _ _ h
  simp [pure, qrun] at h

theorem pureE_ok {R : Type} {o : Oper} {A : Act} {st : AS} {k : Value → AS → Option R} {r : R} (h : pureE P o A st k = some r) : ∃ v, k v st = some r ∧ StillOk P o A st.mem v := by
  unfold pureE at h
  obtain ⟨hp, h⟩ := cond_some h
  split at h
  · rename_i v hq
    obtain ⟨hv, h⟩ := cond_some h
    refine ⟨v, h, fun ι B a w K Q hA hR hK => ?_⟩
    have hcong : execOp A.eval o = execOp a.eval o :=
      execOp_congr o (fun cs b e => select_no (P := P) e hq) (fun x hx => plainOps_ok _ (fun x hx => hA x (by simpa using hx)) hp x (by simpa using hx))
    rw [hcong] at hq
    exact wp_value (qrun_run _ hq w) (hK v (.plain v hv))
  · cases h

theorem loadE_ok {R : Type} {o : Oper} {t : TypeId} {x : Operand} (ho : o.op = .load t x) {A : Act} {st : AS} {k : Value → AS → Option R} {r : R} (h : loadE P t x A st k = some r) :
    ∃ v, k v st = some r ∧ StillOk P o A st.mem v := by
  have hmem : x ∈ o.op.operands := by rw [ho]; simp [Op.operands]
  unfold loadE at h
  split at h
  · rename_i n off hx
    split at h
    · cases h
    · rename_i row hn
      have key : ∀ (v : Value), (∀ ι B (a : Act) w, AOn ι o A a → MRel ι B st.mem w → ∃ v', VRel ι v v' ∧ ∃ ad, a.eval x = .pointer (some ad) ∧ (loadVar t ad).run P w = .ok v' w) → StillOk P o A st.mem v := by
        intro v hv ι B a w K Q hA hR hK
        obtain ⟨v', hvv, ad, had, hrun⟩ := hv ι B a w hA hR
        refine wp_value ?_ (hK v' hvv)
        simp only [execOp, ho]
        refine run_value ?_
        simp only [Instr.loadAt, Instr.sureAddr, had]
        exact hrun
      split at h
      · cases h
      · rename_i hagg
        split at h
        · rename_i v hc
          refine ⟨v, h, key v fun ι B a w hA hR => ?_⟩
          have hp := hA x hmem _ hx
          generalize hea : a.eval x = ev at hp
          cases hp with
          | plain _ hpl => simp [Ev.plain, plainN] at hpl
          | ptr _ _ l hl =>
            obtain ⟨k', hk', hlt, h1, _⟩ := hR.row n row hn
            have : k' = l := by rw [hl] at hk'; exact (Option.some.inj hk').symm
            subst this
            obtain ⟨y, hy, hvy⟩ := h1 off v (by rw [← nth_eq]; exact hc)
            refine ⟨y, hvy, _, rfl, ?_⟩
            refine (run_bind_ok (qrun_run _ hagg w)).trans ?_
            simp only [Bool.false_eq_true, if_false, load, Sem.run, hy]
        · cases h
      · rename_i hagg
        split at h
        · cases h
        · rename_i s hs
          split at h
          · rename_i vs htk
            refine ⟨.agg vs.toArray, h, key _ fun ι B a w hA hR => ?_⟩
            have hp := hA x hmem _ hx
            generalize hea : a.eval x = ev at hp
            cases hp with
            | plain _ hpl => simp [Ev.plain, plainN] at hpl
            | ptr _ _ l hl =>
              obtain ⟨hlen, hsub⟩ := takeN_spec _ _ _ htk
              obtain ⟨us, hus, hh⟩ := hR.cells hn hl off vs (fun i x hx => by have := hsub i x hx; simpa [List.getElem?_drop] using this)
              refine ⟨.agg us.toArray, .agg _ _ hus.1 hus.2, _, rfl, ?_⟩
              refine (run_bind_ok (qrun_run _ hagg w)).trans ?_
              simp only [if_true]
              refine (run_bind_ok (qrun_run _ hs w)).trans ?_
              refine (run_bind_ok (a := us.toArray) (w' := w) ?_).trans rfl
              rw [← hlen, hus.1]
              exact run_loadCells _ _ us hh
          · cases h
  · cases h

theorem fieldE_ok {R : Type} {o : Oper} {s : TypeId} {x : Operand} {f : Nat} (ho : o.op = .fieldAddr s x f) {A : Act} {st : AS} {k : Value → AS → Option R} {r : R} (h : fieldE P s x f A st k = some r) :
    ∃ v, k v st = some r ∧ StillOk P o A st.mem v := by
  have hmem : x ∈ o.op.operands := by rw [ho]; simp [Op.operands]
  unfold fieldE at h
  split at h
  · rename_i n off hx
    split at h
    · rename_i fields hs
      split at h
      · cases h
      · rename_i fd hfd
        split at h
        · cases h
        · rename_i z hz
          cases hz0 : Nat.beq z 0 with
          | true => simp [hz0] at h
          | false =>
            simp only [hz0, cond_false] at h
            refine ⟨_, h, fun ι B a w K Q hA hR hK => ?_⟩
            have hp := hA x hmem _ hx
            generalize hea : a.eval x = ev at hp
            cases hp with
            | plain _ hpl => simp [Ev.plain, plainN] at hpl
            | ptr _ _ l hl =>
              refine wp_value (w' := w) ?_ (hK _ (.ptr n (off + fd.offset) l hl))
              simp only [execOp, ho]
              refine run_value ?_
              simp only [Instr.fieldAt, hea, Instr.sureAddr]
              refine (run_bind_ok (qrun_run _ hs w)).trans ?_
              simp only [hfd]
              refine (run_bind_ok (a := ⟨l.blk, l.shift + off, none⟩) (w' := w) rfl).trans ?_
              refine (run_bind_ok (a := ⟨l.blk, l.shift + (off + fd.offset), none⟩) (w' := w) ?_).trans rfl
              unfold fieldPlace
              refine (run_bind_ok (qrun_run _ hz w)).trans ?_
              have hz' : z ≠ 0 := fun e => by subst e; simp at hz0
              rw [if_neg hz', addr_add, Nat.add_assoc]
              rfl
    · cases h
  · cases h

theorem one_of_vrel {ι : Inj} {x y : Value} (h : VRel ι x y) (hx : one x = true) : one y = true := by
  cases h with
  | plain v hv => exact hx
  | agg xs ys _ _ => simp [one] at hx
  | tuple xs ys _ _ => simp [one] at hx
  | _ => rfl

/-- A store, wherever the memory has the row. -/
def StoreOk (P : Program) (o : Oper) (A : Act) (n off : Nat) (vs : List Value) : Prop :=
  ∀ (ι : Inj) (a : Act) (w : World) (K : Act → World → Prop) (Q : Exit → Act → World → Prop), AOn ι o A a → (∃ l, ι n = some l) ∧
    ∀ (B : Nat) (m : List (Nat × Row)) (row : Row), MRel ι B m w → find m n = some row → row.own = true → off + vs.length ≤ row.c.length →
      (∀ w', MRel ι B (upd m n { row with c := setAll row.c off vs }) w' → Below B w w' → K (a.put o.dst undef) w') → o.wp P a w K Q

theorem storeOk {o : Oper} {t : TypeId} {x y : Operand} (ho : o.op = .store t x y) {A : Act} {n off s : Nat} {v : Value} (hx : aeval A x = some (.pointer (some ⟨n, off, none⟩))) (hy : aeval A y = some v)
    (hs : qrun P (sizeOf t) = some s) (hlen : v.cells.toList.length = s) (hone : ∀ u ∈ v.cells.toList, one u = true) : StoreOk P o A n off v.cells.toList := by
  intro ι a w K Q hA
  have hp := hA x (by rw [ho]; simp [Op.operands]) _ hx
  have hv := hA y (by rw [ho]; simp [Op.operands]) _ hy
  generalize hea : a.eval x = ev at hp
  cases hp with
  | plain _ hpl => simp [Ev.plain, plainN] at hpl
  | ptr _ _ l hl =>
    refine ⟨⟨l, hl⟩, fun B m row hR hn hown hfit hK => ?_⟩
    obtain ⟨w', hrun, hR', hb'⟩ := run_storeCells (P := P) hl off v.cells.toList (a.eval y).cells.toList 0 m w row hR hn hown (by omega) hv.cells
      (fun u hu => by
        obtain ⟨i, hi⟩ := List.getElem?_of_mem hu
        have hlt : i < v.cells.toList.length := by rw [hv.cells.1]; exact (List.getElem?_eq_some_iff.1 hi).1
        exact one_of_vrel (hv.cells.2 i _ u (List.getElem?_eq_getElem hlt) hi) (hone _ (List.getElem_mem ..)))
    refine wp_skip' (w' := w') ?_ (hK w' hR' hb')
    simp only [execOp, ho]
    refine run_skip ?_
    simp only [Instr.storeAt, hea, Instr.sureAddr]
    refine (run_bind_ok (a := ⟨l.blk, l.shift + off, none⟩) (w' := w) rfl).trans ?_
    unfold storeVar
    refine (run_bind_ok (qrun_run _ hs w)).trans ?_
    have hsz : (a.eval y).cells.size = s := by rw [← hlen, hv.cells.1]; simp
    simp only [hsz, ne_eq, not_true_eq_false, if_false]
    exact hrun

theorem storeE_ok {R : Type} {o : Oper} {t : TypeId} {x y : Operand} (ho : o.op = .store t x y) {A : Act} {st : AS} {k : Value → AS → Option R} {r : R} (h : storeE P t x y A st k = some r) :
    ∃ v st', k v st' = some r ∧ OpOk P o A st v st' := by
  unfold storeE at h
  split at h
  · rename_i n off hx
    split at h
    · cases h
    · rename_i v hy
      split at h
      · cases h
      · rename_i row hn
        split at h
        · cases h
        · rename_i s hs
          obtain ⟨hb, h⟩ := cond_some h
          simp only [setAllK_eq, updK_eq] at h
          simp only [Bool.and_eq_true, List.all_eq_true] at hb
          obtain ⟨hown, hlen, hfit, hone⟩ := hb
          have hlen := Nat.eq_of_beq_eq_true hlen
          have hfit := Nat.le_of_ble_eq_true hfit
          refine ⟨_, _, h, fun ι B a w K Q hA hR hK => ?_⟩
          refine (storeOk ho hx hy hs hlen hone ι a w K Q hA).2 B st.mem row hR.mem hn hown (by omega) fun w' hR' hb' => ?_
          exact hK ι undef w' (Inj.le_refl ι) (vrel_undef ι) ⟨hR.fresh, hR'⟩ hb'
  · cases h

theorem newVar_run (t : TypeId) (v : Value) (w : World) : (newVar t v).run P w = .ok ⟨w.heap.size, 0, none⟩ { w with heap := w.heap.push (.cells v.cells t) } := rfl

theorem below_push {w : World} (o : Obj) {B : Nat} (h : B ≤ w.heap.size) : Below B w { w with heap := w.heap.push o } :=
  ⟨rfl, rfl, rfl, by simp, fun k hk => by show (w.heap.push o)[k]? = _; rw [Array.getElem?_push, if_neg (by omega)]⟩

theorem LRel.refl_plain {ι : Inj} {v : Value} (h : Ev.plain v = true) : LRel ι v.cells.toList v.cells.toList := (VRel.plain (ι := ι) v h).cells

def CallOk (P : Program) {R : Type} (call : FuncId → List Value → AS → (Value → AS → Option R) → Option R) : Prop :=
  ∀ g vs st (k : Value → AS → Option R) r, call g vs st k = some r → ∃ v st', k v st' = some r ∧ SoundFn P g vs st v st'

/-! ### '==' -/
theorem andO_spec {b : Bool} {r : Option Bool} {c : Bool} (h : andO b r = some c) : ∃ d, r = some d ∧ c = (b && d) := by
  cases r with
  | none => cases h
  | some d => exact ⟨d, rfl, (Option.some.inj h).symm⟩

theorem eqFields_ok {w : World} {d : Nat} {rec : TypeId → Value → Value → Option Bool} (hrec : ∀ t x y b, rec t x y = some b → (Op.equalIn d t x y).run P w = .ok b w) (xs ys : Array Value) : ∀ (fs : List Field) (b : Bool), eqFields P rec xs ys fs = some b →
    (forIn fs ((none, ()) : Option Bool × Unit) (fun (f : Field) (_ : Option Bool × Unit) => (if f.name ≠ "_" then do
        let u ← part f.type xs f.offset
        let v ← part f.type ys f.offset
        let c ← Op.equalIn d f.type u v
        if (!c) = true then pure (ForInStep.done (some false, ())) else pure (ForInStep.yield (none, ()))
      else pure (ForInStep.yield (none, ())) : Sem (ForInStep (Option Bool × Unit))))).run P w = .ok (if b then none else some false, ()) w
  | [], b, h => by
    simp only [eqFields, Option.some.injEq] at h
    subst h
    rfl
  | f :: fs, b, h => by
    simp only [eqFields] at h
    cases hnm : decide (f.name = "_") with
    | true => rw [hnm] at h; cases h
    | false =>
      rw [hnm, cond_false] at h
      have hne : f.name ≠ "_" := of_decide_eq_false hnm
      split at h
      · rename_i u v hu hv
        split at h
        · rename_i c hc
          obtain ⟨e, he, rfl⟩ := andO_spec h
          rw [List.forIn_cons]
          rw [if_pos hne]
          have hbody : (do
              let u ← part f.type xs f.offset
              let v ← part f.type ys f.offset
              let c ← Op.equalIn d f.type u v
              if (!c) = true then pure (ForInStep.done (some false, ())) else pure (ForInStep.yield (none, ())) : Sem (ForInStep (Option Bool × Unit))).run P w = .ok (if c then ForInStep.yield (none, ()) else ForInStep.done (some false, ())) w := by
            refine (run_bind_ok (qrun_run _ hu w)).trans ?_
            refine (run_bind_ok (qrun_run _ hv w)).trans ?_
            refine (run_bind_ok (hrec _ _ _ _ hc)).trans ?_
            cases c <;> rfl
          refine (run_bind_ok hbody).trans ?_
          cases c with
          | false => rfl
          | true =>
            simp only [if_true, Bool.true_and]
            exact eqFields_ok hrec xs ys fs e he
        · cases h
      · cases h

theorem eqElems_ok {w : World} {d : Nat} {rec : TypeId → Value → Value → Option Bool} (hrec : ∀ t x y b, rec t x y = some b → (Op.equalIn d t x y).run P w = .ok b w) (e : TypeId) (n : Nat) (xs ys : Array Value) : ∀ (is : List Nat) (b : Bool), eqElems P rec e n xs ys is = some b →
    (forIn is ((none, ()) : Option Bool × Unit) (fun (i : Nat) (_ : Option Bool × Unit) => (do
        let u ← part e xs (i * n)
        let v ← part e ys (i * n)
        let c ← Op.equalIn d e u v
        if (!c) = true then pure (ForInStep.done (some false, ())) else pure (ForInStep.yield (none, ())) : Sem (ForInStep (Option Bool × Unit))))).run P w = .ok (if b then none else some false, ()) w
  | [], b, h => by
    simp only [eqElems, Option.some.injEq] at h
    subst h
    rfl
  | i :: is, b, h => by
    simp only [eqElems] at h
    split at h
    · rename_i u v hu hv
      split at h
      · rename_i c hc
        obtain ⟨e', he, rfl⟩ := andO_spec h
        rw [List.forIn_cons]
        have hbody : (do
            let u ← part e xs (i * n)
            let v ← part e ys (i * n)
            let c ← Op.equalIn d e u v
            if (!c) = true then pure (ForInStep.done (some false, ())) else pure (ForInStep.yield (none, ())) : Sem (ForInStep (Option Bool × Unit))).run P w = .ok (if c then ForInStep.yield (none, ()) else ForInStep.done (some false, ())) w := by
          refine (run_bind_ok (qrun_run _ hu w)).trans ?_
          refine (run_bind_ok (qrun_run _ hv w)).trans ?_
          refine (run_bind_ok (hrec _ _ _ _ hc)).trans ?_
          cases c <;> rfl
        refine (run_bind_ok hbody).trans ?_
        cases c with
        | false => rfl
        | true =>
          simp only [if_true, Bool.true_and]
          exact eqElems_ok hrec e n xs ys is e' he
      · cases h
    · cases h

def FlatOk (P : Program) : Prop := ∀ t, memN flatT t = true → P.stoodInHeld t = false ∧ P.eqGuardType P.depth t = false

theorem eqTy_ok (hT : FlatOk P) {w : World} : ∀ (d : Nat) (t : TypeId) (x y : Value) (b : Bool), eqTy P d t x y = some b → (Op.equalIn d t x y).run P w = .ok b w
  | 0, t, x, y, b, h => by simp [eqTy] at h
  | d + 1, t, x, y, b, h => by
    have ih := eqTy_ok hT (w := w) d
    unfold eqTy at h
    split at h
    · rename_i a b' hu
      simp only [Option.some.injEq] at h; subst h
      simp only [Op.equalIn]
      exact (run_bind_ok (qrun_run _ hu w)).trans rfl
    · rename_i k0 k a k' b' hu
      obtain ⟨hk, h⟩ := cond_some h
      have hk := of_decide_eq_true hk
      simp only [Option.some.injEq] at h; subst h
      simp only [Op.equalIn]
      refine (run_bind_ok (qrun_run _ hu w)).trans ?_
      simp only [if_pos hk]
      rfl
    · rename_i a b' hu
      simp only [Option.some.injEq] at h; subst h
      simp only [Op.equalIn]
      exact (run_bind_ok (qrun_run _ hu w)).trans rfl
    · rename_i fs xs ys hu
      obtain ⟨hmt, h⟩ := cond_some h
      have hst := (hT t hmt).1
      · simp only [Op.equalIn]
        refine (run_bind_ok (qrun_run _ hu w)).trans ?_
        refine (run_bind_ok (e := program) (a := P) (w' := w) rfl).trans ?_
        rw [hst, if_neg (by simp)]
        have := eqFields_ok ih xs ys fs.toList b h
        rw [← Array.forIn_toList]
        refine (run_bind_ok this).trans ?_
        cases b <;> rfl
    · rename_i len e xs ys hu
      split at h
      · rename_i n hn
        simp only [Op.equalIn]
        refine (run_bind_ok (qrun_run _ hu w)).trans ?_
        refine (run_bind_ok (qrun_run _ hn w)).trans ?_
        have := eqElems_ok ih e n xs ys (List.range' 0 len) b h
        rw [Std.Legacy.Range.forIn_eq_forIn_range']
        simp only [Std.Legacy.Range.size, Nat.sub_zero, Nat.add_one_sub_one, Nat.div_one]
        refine (run_bind_ok this).trans ?_
        cases b <;> rfl
      · cases h
    · cases h

theorem binE_ok (hT : FlatOk P) {R : Type} {o : Oper} {op : BinOp} {t : TypeId} {x y : Operand} {z : TypeId} (ho : o.op = .binOp op t x y z) {A : Act} {st : AS} {k : Value → AS → Option R} {r : R} (h : binE P o op t x y A st k = some r) :
    ∃ v, k v st = some r ∧ StillOk P o A st.mem v := by
  have hmx : x ∈ o.op.operands := by rw [ho]; simp [Op.operands]
  have hmy : y ∈ o.op.operands := by rw [ho]; simp [Op.operands]
  unfold binE at h
  split at h
  · rename_i kd a kd' b hx hy
    have key : ∀ (v : Value), Ev.plain v = true → (∀ w : World, (do eqGuard op t x y (.int kd a) (.int kd' b); binOp op t (.int kd a) (.int kd' b) : Sem Value).run P w = .ok v w) → StillOk P o A st.mem v := by
      intro v hv hrun ι B a' w K Q hA hR hK
      refine wp_value (w' := w) (v := v) ?_ (hK v (.plain v hv))
      have e1 : a'.eval x = .int kd a := (hA x hmx _ hx).eq_of_plain rfl
      have e2 : a'.eval y = .int kd' b := (hA y hmy _ hy).eq_of_plain rfl
      simp only [execOp, ho, e1, e2]
      exact run_value (hrun w)
    split at h
    · cases hb : decide (b < 0) with
      | true => rw [hb] at h; cases h
      | false =>
        rw [hb, cond_false] at h
        refine ⟨_, h, key _ rfl fun w => ?_⟩
        have hb := of_decide_eq_false hb
        simp only [eqGuard, binOp, Op.shift, if_neg hb]
        rfl
    · cases hb : decide (b < 0) with
      | true => rw [hb] at h; cases h
      | false =>
        rw [hb, cond_false] at h
        refine ⟨_, h, key _ rfl fun w => ?_⟩
        have hb := of_decide_eq_false hb
        simp only [eqGuard, binOp, Op.shift, if_neg hb]
        rfl
    · obtain ⟨hk, h⟩ := cond_some h
      have hk := of_decide_eq_true hk
      cases hb : decide (b = 0) with
      | true => rw [hb] at h; cases h
      | false =>
        rw [hb, cond_false] at h
        refine ⟨_, h, key _ rfl fun w => ?_⟩
        have hb := of_decide_eq_false hb
        subst hk
        simp only [eqGuard, binOp, Op.intDiv, if_neg hb, ne_eq, not_true_eq_false, if_false]
        rfl
    · obtain ⟨hk, h⟩ := cond_some h
      have hk := of_decide_eq_true hk
      cases hb : decide (b = 0) with
      | true => rw [hb] at h; cases h
      | false =>
        rw [hb, cond_false] at h
        refine ⟨_, h, key _ rfl fun w => ?_⟩
        have hb := of_decide_eq_false hb
        subst hk
        simp only [eqGuard, binOp, Op.intDiv, if_neg hb, ne_eq, not_true_eq_false, if_false]
        rfl
    · exact pureE_ok h
  · rename_i xs ys hx hy
    cases hplb : (Ev.plain (.agg xs) && Ev.plain (.agg ys)) with
    | false => rw [hplb] at h; cases h
    | true =>
    rw [hplb] at h
    have hpl : Ev.plain (.agg xs) = true ∧ Ev.plain (.agg ys) = true := by simpa using hplb
    simp only [Bool.not_true, cond_false] at h
    have key : ∀ (f : Bool → Bool) (b : Bool), memN flatT t = true → eqTy P Op.maxDepth t (.agg xs) (.agg ys) = some b → ((op = .eql ∧ f = id) ∨ (op = .neq ∧ f = not)) → StillOk P o A st.mem (.bool (f b)) := by
      intro f b hg heq hop ι B a w K Q hA hR hK
      have hg := (hT t hg).2
      refine wp_value (w' := w) (v := .bool (f b)) ?_ (hK _ (.plain _ rfl))
      have r1 := hA x hmx _ hx
      have r2 := hA y hmy _ hy
      have e1 : a.eval x = .agg xs := r1.eq_of_plain hpl.1
      have e2 : a.eval y = .agg ys := r2.eq_of_plain hpl.2
      simp only [execOp, ho, e1, e2]
      have hgr : (eqGuard op t x y (.agg xs) (.agg ys)).run P w = .ok () w := by
        unfold eqGuard
        rcases hop with ⟨rfl, _⟩ | ⟨rfl, _⟩
        · refine (run_bind_ok (e := program) (a := P) (w' := w) rfl).trans ?_
          simp [hg, pure]
        · refine (run_bind_ok (e := program) (a := P) (w' := w) rfl).trans ?_
          simp [hg, pure]
      have heq' : (Op.equal t (.agg xs) (.agg ys)).run P w = .ok b w := eqTy_ok hT _ _ _ _ _ heq
      refine run_value ?_
      refine (run_bind_ok hgr).trans ?_
      rcases hop with ⟨rfl, rfl⟩ | ⟨rfl, rfl⟩
      · exact (run_bind_ok heq').trans rfl
      · exact (run_bind_ok heq').trans rfl
    split at h
    · cases hg : memN flatT t with
      | false => rw [hg] at h; cases h
      | true =>
        rw [hg] at h
        simp only [Bool.not_true, cond_false] at h
        split at h
        · rename_i b heq
          exact ⟨_, h, key id b hg heq (.inl ⟨rfl, rfl⟩)⟩
        · cases h
    · cases hg : memN flatT t with
      | false => rw [hg] at h; cases h
      | true =>
        rw [hg] at h
        simp only [Bool.not_true, cond_false] at h
        split at h
        · rename_i b heq
          exact ⟨_, h, key not b hg heq (.inr ⟨rfl, rfl⟩)⟩
        · cases h
    · cases h
  · exact pureE_ok h

theorem indexE_ok {R : Type} {o : Oper} {t : TypeId} {x y : Operand} (ho : o.op = .index t x y) {A : Act} {st : AS} {k : Value → AS → Option R} {r : R} (h : indexE P o t x y A st k = some r) :
    ∃ v, k v st = some r ∧ StillOk P o A st.mem v := by
  have hmx : x ∈ o.op.operands := by rw [ho]; simp [Op.operands]
  have hmy : y ∈ o.op.operands := by rw [ho]; simp [Op.operands]
  unfold indexE at h
  split at h
  · rename_i s kd i hx hy
    split at h
    · rename_i hu
      obtain ⟨hb, h⟩ := cond_some h
      simp only [Bool.and_eq_true, decide_eq_true_eq] at hb
      refine ⟨_, h, fun ι B a w K Q hA hR hK => ?_⟩
      refine wp_value (w' := w) ?_ (hK _ (.plain _ rfl))
      have e1 : a.eval x = .string s := (hA x hmx _ hx).eq_of_plain rfl
      have e2 : a.eval y = .int kd i := (hA y hmy _ hy).eq_of_plain rfl
      simp only [execOp, ho, e1, e2]
      refine run_value ?_
      unfold Instr.index
      refine (run_bind_ok (e := asIntOf (.int kd i)) (a := (kd, i)) (w' := w) rfl).trans ?_
      refine (run_bind_ok (qrun_run _ hu w)).trans ?_
      have hlt : i.toNat < s.size := by omega
      simp only [hb.1, if_true]
      rw [getElem?_pos s i.toNat hlt]
      rfl
    · cases h
  · exact pureE_ok h

theorem selK_ok {R : Type} {i : Int} {off size : Nat} : ∀ (n j : Nat) {k : Nat → Option R} {r : R}, selK i off size n j k = some r → ∃ p : Nat, i = (p : Int) ∧ p < j + n ∧ k (off + p * size) = some r
  | 0, _, _, _, h => by cases h
  | n + 1, j, k, r, h => by
    simp only [selK] at h
    cases e : decide (i = (j : Int)) with
    | true => rw [e] at h; exact ⟨j, of_decide_eq_true e, by omega, h⟩
    | false =>
      rw [e] at h
      obtain ⟨p, h1, h2, h3⟩ := selK_ok n (j + 1) h
      exact ⟨p, h1, by omega, h3⟩
theorem placeK_ok {R : Type} {i : Int} {off size len : Nat} {k : Nat → Option R} {r : R} (h : placeK i off size len k = some r) : ∃ p : Nat, i = (p : Int) ∧ p < len ∧ k (off + p * size) = some r := by
  unfold placeK at h
  cases e : Nat.ble len 8 with
  | true =>
    rw [e] at h
    obtain ⟨p, h1, h2, h3⟩ := selK_ok len 0 h
    exact ⟨p, h1, by omega, h3⟩
  | false =>
    rw [e] at h
    obtain ⟨hb, h⟩ := cond_some h
    simp only [Bool.and_eq_true, decide_eq_true_eq] at hb
    exact ⟨i.toNat, by omega, by omega, h⟩

theorem indexAddrE_ok {R : Type} {o : Oper} {t : TypeId} {x y : Operand} (ho : o.op = .indexAddr t x y) {A : Act} {st : AS} {k : Value → AS → Option R} {r : R} (h : indexAddrE P t x y A st k = some r) :
    ∃ v, k v st = some r ∧ StillOk P o A st.mem v := by
  have hmx : x ∈ o.op.operands := by rw [ho]; simp [Op.operands]
  have hmy : y ∈ o.op.operands := by rw [ho]; simp [Op.operands]
  unfold indexAddrE at h
  split at h
  · rename_i kd i hy
    split at h
    · rename_i n off len cap hx
      split at h
      · rename_i e hu
        split at h
        · rename_i size hs
          obtain ⟨p, hi, hlt, h⟩ := placeK_ok h
          refine ⟨_, h, fun ι B a w K Q hA hR hK => ?_⟩
          have e2 : a.eval y = .int kd i := (hA y hmy _ hy).eq_of_plain rfl
          have hp := hA x hmx _ hx
          generalize hea : a.eval x = ev at hp
          cases hp with
          | plain _ hpl => simp [Ev.plain, plainN] at hpl
          | slice _ _ _ _ cap' l hl h1 h2 =>
            refine wp_value (w' := w) ?_ (hK _ (.ptr n (off + p * size) l hl))
            simp only [execOp, ho, e2, hea]
            refine run_value ?_
            unfold Instr.indexAt
            refine (run_bind_ok (e := asIntOf (.int kd i)) (a := (kd, i)) (w' := w) rfl).trans ?_
            refine (run_bind_ok (qrun_run _ hu w)).trans ?_
            refine (run_bind_ok (e := (pure (some (⟨l.blk, l.shift + off, none⟩ : Addr), len, e) : Sem (Option Addr × Nat × TypeId))) (a := (some (⟨l.blk, l.shift + off, none⟩ : Addr), len, e)) (w' := w) rfl).trans ?_
            refine (run_bind_ok (qrun_run _ hu w)).trans ?_
            have hc : 0 ≤ i ∧ i < (len : Int) := by omega
            simp only [hc, and_self, if_true]
            refine (run_bind_ok (qrun_run _ hs w)).trans ?_
            rw [addr_add, hi, Int.toNat_natCast, Nat.add_assoc]
            rfl
        · cases h
      · cases h
    · rename_i n off hx
      split at h
      · rename_i len e hu
        split at h
        · rename_i size hs
          obtain ⟨p, hi, hlt, h⟩ := placeK_ok h
          refine ⟨_, h, fun ι B a w K Q hA hR hK => ?_⟩
          have e2 : a.eval y = .int kd i := (hA y hmy _ hy).eq_of_plain rfl
          have hp := hA x hmx _ hx
          generalize hea : a.eval x = ev at hp
          cases hp with
          | plain _ hpl => simp [Ev.plain, plainN] at hpl
          | ptr _ _ l hl =>
            refine wp_value (w' := w) ?_ (hK _ (.ptr n (off + p * size) l hl))
            simp only [execOp, ho, e2, hea]
            refine run_value ?_
            unfold Instr.indexAt
            refine (run_bind_ok (e := asIntOf (.int kd i)) (a := (kd, i)) (w' := w) rfl).trans ?_
            refine (run_bind_ok (qrun_run _ hu w)).trans ?_
            refine (run_bind_ok (e := Instr.sureAddr (.pointer (some (⟨l.blk, l.shift + off, none⟩ : Addr)))) (a := ⟨l.blk, l.shift + off, none⟩) (w' := w) rfl).trans ?_
            refine (run_bind_ok (e := (pure (some (⟨l.blk, l.shift + off, none⟩ : Addr), len, e) : Sem (Option Addr × Nat × TypeId))) (a := (some (⟨l.blk, l.shift + off, none⟩ : Addr), len, e)) (w' := w) rfl).trans ?_
            refine (run_bind_ok (qrun_run _ hu w)).trans ?_
            have hc : 0 ≤ i ∧ i < (len : Int) := by omega
            simp only [hc, and_self, if_true]
            refine (run_bind_ok (qrun_run _ hs w)).trans ?_
            rw [addr_add, hi, Int.toNat_natCast, Nat.add_assoc]
            rfl
        · cases h
      · cases h
    · cases h
  · cases h

theorem lenE_ok {R : Type} {o : Oper} {c : Call} {x : Operand} (ho : o.op = .call c) (hc : c.callee = .builtin .len) (hx0 : c.args.toList = [x]) {t : TypeId} (ht0 : c.argTypes.toList = [t]) {A : Act} {st : AS} {k : Value → AS → Option R} {r : R} (h : lenE P o t x A st k = some r) :
    ∃ v, k v st = some r ∧ StillOk P o A st.mem v := by
  have hargs : c.args = #[x] := by cases hcc : c.args; rw [hcc] at hx0; simp at hx0; rw [hx0]
  have hmx : x ∈ o.op.operands := by rw [ho]; simp [Op.operands, Call.operands, hargs]
  have htypes : c.argTypes[0]? = some t := by rw [← Array.getElem?_toList, ht0]; rfl
  unfold lenE at h
  split at h
  · rename_i ad len cap hx
    split at h
    case h_2 => cases h
    rename_i e hu
    refine ⟨_, h, fun ι B a w K Q hA hR hK => ?_⟩
    have hp := hA x hmx _ hx
    refine wp_value (w' := w) ?_ (hK _ (.plain _ rfl))
    generalize hea : a.eval x = ev at hp
    cases hp with
    | plain _ hpl => simp [Ev.plain, plainN] at hpl
    | slice n off _ _ cap' l hl h1 h2 =>
      have hlen : (Builtin.len_ c.argTypes o.type #[.slice (some ⟨l.blk, l.shift + off, none⟩) len cap']).run P w = .ok (.int .i64 (len : Int)) w := by
        unfold Builtin.len_
        rw [htypes]
        exact (run_bind_ok (qrun_run _ hu w)).trans rfl
      simp only [execOp, ho, resolve, hc, hargs, List.map_toArray, List.map_cons, List.map_nil, hea]
      exact run_value hlen
  · exact pureE_ok h

theorem stillE_ok (hT : FlatOk P) {R : Type} {o : Oper} {A : Act} {st : AS} {k : Value → AS → Option R} {r : R} (h : stillE P o A st k = some r) : ∃ v, k v st = some r ∧ StillOk P o A st.mem v := by
  unfold stillE at h
  split at h
  · rename_i x ho
    split at h
    · rename_i v hx
      exact ⟨v, h, fun ι B a w K Q hA hR hK => wp_value (w' := w) (by simp only [execOp, ho]; rfl) (hK _ (hA x (by rw [ho]; simp [Op.operands]) _ hx))⟩
    · cases h
  · rename_i x ho
    split at h
    · rename_i v hx
      exact ⟨v, h, fun ι B a w K Q hA hR hK => wp_value (w' := w) (by simp only [execOp, ho]; rfl) (hK _ (hA x (by rw [ho]; simp [Op.operands]) _ hx))⟩
    · cases h
  · rename_i c x y ho
    split at h
    · rename_i b v u hcc hx hy
      have key : ∀ z : Value, z = (if b then v else u) → StillOk P o A st.mem z := fun z hz ι B a w K Q hA hR hK => by
        have hb : a.eval c = .bool b := (hA c (by rw [ho]; simp [Op.operands]) _ hcc).eq_of_plain rfl
        refine wp_value (v := if b then a.eval x else a.eval y) (w' := w) ?_ (hK _ ?_)
        · simp only [execOp, ho, hb]; rfl
        · subst hz
          cases b
          · exact hA y (by rw [ho]; simp [Op.operands]) _ hy
          · exact hA x (by rw [ho]; simp [Op.operands]) _ hx
      cases b
      · exact ⟨u, h, key u rfl⟩
      · exact ⟨v, h, key v rfl⟩
    · cases h
  · rename_i t x ho
    exact loadE_ok ho h
  · rename_i s x f ho
    exact fieldE_ok ho h
  · rename_i op t x y z ho
    exact binE_ok hT ho h
  · rename_i t x y ho
    exact indexE_ok ho h
  · rename_i t x y ho
    exact indexAddrE_ok ho h
  · rename_i c ho
    split at h
    · rename_i hc
      split at h
      · rename_i x t hx ht
        exact lenE_ok ho hc hx ht h
      · cases h
    · exact pureE_ok h
  · exact pureE_ok h

/-! ### new rows -/
def AllocOk (P : Program) (o : Oper) (A : Act) (s : Option (Nat × Nat)) (cells : List Value) : Prop :=
  ∀ (ι : Inj) (a : Act) (w : World) (K : Act → World → Prop) (Q : Exit → Act → World → Prop), AOn ι o A a →
    (∀ (c' : Array Value) (t : TypeId), LRel ι cells c'.toList → K (a.put o.dst (newV s ⟨w.heap.size, 0, none⟩)) { w with heap := w.heap.push (.cells c' t) }) → o.wp P a w K Q

theorem newV_rel {ι : Inj} {n : Nat} {l : Loc} (hl : ι n = some l) (hs : l.shift = 0) (s : Option (Nat × Nat)) : VRel ι (newV s ⟨n, 0, none⟩) (newV s ⟨l.blk, 0, none⟩) := by
  cases s with
  | none => have := VRel.ptr (ι := ι) n 0 l hl; rwa [hs] at this
  | some lc => have := VRel.slice (ι := ι) n 0 lc.1 lc.2 lc.2 l hl (fun _ => rfl) (Nat.le_refl _); rwa [hs] at this

def PRel (ι : Inj) : List (Nat × Value) → List (Nat × Value) → Prop
  | [], [] => True
  | (i, x) :: xs, (j, y) :: ys => i = j ∧ VRel ι x y ∧ PRel ι xs ys
  | _, _ => False

theorem evParts_ok {ι : Inj} {A a : Act} : ∀ (ps : List (Nat × Operand)) (vs : List (Nat × Value)), (∀ p ∈ ps, ∀ v, aeval A p.2 = some v → VRel ι v (a.eval p.2)) → evParts A ps = some vs → PRel ι vs (ps.map fun p => (p.1, a.eval p.2))
  | [], vs, _, h => by simp only [evParts, Option.some.injEq] at h; subst h; trivial
  | (i, x) :: r, vs, hr, h => by
    simp only [evParts] at h
    split at h
    · rename_i v us hx hus
      simp only [Option.some.injEq] at h
      subst h
      exact ⟨rfl, hr _ (List.mem_cons_self ..) _ hx, evParts_ok r us (fun p hp => hr p (List.mem_cons_of_mem _ hp)) hus⟩
    · cases h

theorem LRel.set {ι : Inj} {xs ys : List Value} (h : LRel ι xs ys) (i : Nat) {x y : Value} (hv : VRel ι x y) : LRel ι (xs.set i x) (ys.set i y) := by
  refine ⟨by simp [h.1], fun j a b ha hb => ?_⟩
  by_cases e : i = j
  · subst e
    by_cases hlt : i < xs.length
    · have hlt' : i < ys.length := h.1 ▸ hlt
      simp [hlt] at ha; simp [hlt'] at hb
      subst ha; subst hb; exact hv
    · simp [hlt] at ha
  · rw [List.getElem?_set_ne e] at ha hb
    exact h.2 j a b ha hb

theorem fill_fold {ι : Inj} (off : Nat) : ∀ (xs ys : List Value) (j : Nat) (c c' : Array Value), LRel ι xs ys → LRel ι c.toList c'.toList →
    LRel ι ((xs.zipIdx j).foldl (fun cs (p : Value × Nat) => cs.setIfInBounds (off + p.2) p.1) c).toList ((ys.zipIdx j).foldl (fun cs (p : Value × Nat) => cs.setIfInBounds (off + p.2) p.1) c').toList
  | [], ys, j, c, c', h, hc => by
    have : ys = [] := by have := h.1; cases ys <;> simp_all
    subst this; exact hc
  | x :: xs, ys, j, c, c', h, hc => by
    obtain ⟨y, ys', rfl, hv, hr⟩ := h.uncons
    simp only [List.zipIdx_cons, List.foldl_cons]
    refine fill_fold off xs ys' (j + 1) _ _ hr ?_
    simp only [Array.toList_setIfInBounds]
    exact hc.set _ hv

theorem fill_rel {ι : Inj} {place : Nat → Option (Nat × Nat)} : ∀ (ps qs : List (Nat × Value)) (c c' d : Array Value), PRel ι ps qs → LRel ι c.toList c'.toList → Instr.fill place c ps = some d →
    ∃ d', Instr.fill place c' qs = some d' ∧ LRel ι d.toList d'.toList
  | [], [], c, c', d, _, hc, h => by
    simp only [Instr.fill, Option.some.injEq] at h ⊢
    subst h; exact ⟨c', rfl, hc⟩
  | [], _ :: _, _, _, _, hp, _, _ => hp.elim
  | _ :: _, [], _, _, _, hp, _, _ => hp.elim
  | (i, x) :: ps, (j, y) :: qs, c, c', d, hp, hc, h => by
    obtain ⟨rfl, hv, hp⟩ := hp
    simp only [Instr.fill] at h ⊢
    cases hpl : place i with
    | none => rw [hpl] at h; cases h
    | some os =>
      obtain ⟨off, size⟩ := os
      rw [hpl] at h
      dsimp only at h ⊢
      have e1 : y.cells.size = x.cells.size := by have := hv.cells.1; simpa using this.symm
      have e2 : c'.size = c.size := by have := hc.1; simpa using this.symm
      rw [e1, e2]
      split at h
      · cases h
      · rename_i hcond
        rw [if_neg hcond]
        refine fill_rel ps qs _ _ d hp ?_ h
        have e : ∀ (v : Value) (c : Array Value), v.cells.zipIdx.foldl (fun cs (p : Value × Nat) => cs.setIfInBounds (off + p.2) p.1) c = (v.cells.toList.zipIdx 0).foldl (fun cs (p : Value × Nat) => cs.setIfInBounds (off + p.2) p.1) c := fun v c => by
          rw [← Array.foldl_toList, Array.toList_zipIdx]
        have := fill_fold off x.cells.toList y.cells.toList 0 c c' hv.cells hc
        rw [← e, ← e] at this
        exact this

theorem cell_plain {z : Value} (h : Ev.plain z = true) {i : Nat} (hi : i < z.cells.size) : Ev.plain z.cells[i] = true := by
  cases z with
  | agg cs =>
    simp only [Ev.plain, plainN, List.all_eq_true] at h
    exact VRel.cells.plain_up (h cs[i] (Array.mem_toList_iff.2 (Array.getElem_mem hi)))
  | _ =>
    simp only [Value.cells] at hi ⊢
    have : i = 0 := by simp at hi; exact hi
    subst this
    exact h

theorem allocE_ok {o : Oper} {A : Act} {s : Option (Nat × Nat)} {cells : List Value} (h : allocE P o A = some (s, cells)) : AllocOk P o A s cells := by
  intro ι a w K Q hA hK
  unfold allocE at h
  split at h
  · rename_i t ho
    split at h
    · rename_i z hz
      obtain ⟨hpl, h⟩ := cond_some h
      simp only [Option.some.injEq, Prod.mk.injEq] at h
      obtain ⟨rfl, rfl⟩ := h
      refine wp_value (w' := { w with heap := w.heap.push (.cells z.cells t) }) (v := .pointer (some ⟨w.heap.size, 0, none⟩)) ?_ (hK z.cells t (LRel.refl_plain hpl))
      simp only [execOp, ho]
      refine run_value ?_
      exact (run_bind_ok (qrun_run _ hz w)).trans rfl
    · cases h
  · rename_i t x ho
    split at h
    · rename_i v hx
      simp only [Option.some.injEq, Prod.mk.injEq] at h
      obtain ⟨rfl, rfl⟩ := h
      refine wp_value (w' := { w with heap := w.heap.push (.cells (a.eval x).cells t) }) (v := .pointer (some ⟨w.heap.size, 0, none⟩)) ?_ (hK (a.eval x).cells t (hA x (by rw [ho]; simp [Op.operands]) _ hx).cells)
      simp only [execOp, ho]
      exact run_value rfl
    · cases h
  · rename_i t len parts ho
    split at h
    · rename_i e hu
      split at h
      · rename_i size z ps hs hz hps
        obtain ⟨hb, h⟩ := cond_some h
        simp only [Bool.and_eq_true, Bool.not_eq_true'] at hb
        obtain ⟨hle, hne, hpl⟩ := hb
        have hle := Nat.le_of_ble_eq_true hle
        have hne : len * size ≠ 0 := fun e => by rw [e] at hne; simp at hne
        split at h
        · rename_i d hf
          simp only [Option.some.injEq, Prod.mk.injEq] at h
          obtain ⟨rfl, rfl⟩ := h
          have hpr := evParts_ok (ι := ι) (A := A) (a := a) parts.toList ps (fun p hp v hv => hA p.2 (by rw [ho]; simp [Op.operands]; exact ⟨p.1, by simpa using hp⟩) v hv) hps
          have hc0 : LRel ι ((Array.range (len * size)).map (z.cells[· % z.cells.size]!)).toList ((Array.range (len * size)).map (z.cells[· % z.cells.size]!)).toList := by
            refine ⟨rfl, fun i x y hx hy => ?_⟩
            rw [hx] at hy
            obtain rfl := Option.some.inj hy
            have hmem := List.mem_of_getElem? hx
            rw [Array.toList_map, List.mem_map] at hmem
            obtain ⟨j, _, rfl⟩ := hmem
            refine .plain _ ?_
            rcases Nat.lt_or_ge (j % z.cells.size) z.cells.size with hlt | hge
            · rw [getElem!_pos z.cells _ hlt]
              exact cell_plain hpl hlt
            · rw [getElem!_neg z.cells _ (by omega)]; rfl
          obtain ⟨d', hf', hd'⟩ := fill_rel ps _ _ _ d hpr hc0 hf
          refine wp_value (w' := { w with heap := w.heap.push (.cells d' e) }) (v := .slice (some ⟨w.heap.size, 0, none⟩) len len) ?_ (hK d' e hd')
          simp only [execOp, ho]
          refine run_value ?_
          unfold Instr.buildSlice
          refine (run_bind_ok (qrun_run _ hu w)).trans ?_
          refine (run_bind_ok (qrun_run _ hs w)).trans ?_
          rw [if_neg (by omega), if_neg hne]
          refine (run_bind_ok (qrun_run _ hz w)).trans ?_
          refine (run_bind_ok (e := (pure z.cells : Sem (Array Value))) (a := z.cells) (w' := w) rfl).trans ?_
          dsimp only
          have hparts : (parts.map fun x => (x.fst, a.eval x.snd)).toList = parts.toList.map fun p => (p.1, a.eval p.2) := by rw [Array.toList_map]
          simp only [hparts, hf']
          rfl
        · cases h
      · cases h
    · cases h
  · cases h

theorem calls_run (hN : ∀ (g : Nat) (fn : Func), P.funcs[g]? = some fn → (fn.name == "runtime.NumGoroutine") = false) {o : Oper} {g : FuncId} {args : Array Operand} (h : calls P o = some (g, args)) (a : Act) (w : World) :
    (execOp a.eval o).run P w = .ok (.enter g (args.map a.eval)) w ∧ ∀ x ∈ args, x ∈ o.op.operands := by
  unfold calls at h
  split at h
  · rename_i c ho
    split at h
    · rename_i g' hcal
      split at h
      · cases h
      · rename_i fn hfn
        split at h
        · cases h
        · rename_i body hbody
          simp only [Option.some.injEq, Prod.mk.injEq] at h
          obtain ⟨rfl, rfl⟩ := h
          refine ⟨?_, fun x hx => by rw [ho]; simp only [Op.operands, Call.operands, hcal]; exact Array.mem_append.2 (.inr hx)⟩
          simp only [execOp, ho, resolve, hcal, Act.eval, Deferred.ofValue]
          show Sem.run P (invoke (.fn (.func g') #[]) (#[] ++ c.args.map a.eval)) w = _
          simp only [invoke]
          unfold callFunc
          refine (run_bind_ok (e := program) (a := P) (w' := w) rfl).trans ?_
          simp only [hfn, hN g' fn hfn, hbody, Option.isNone_some, Bool.false_eq_true, if_false]
          simp [pure]
    · cases h
  · cases h

/-- A call of a function of which something is known. -/
theorem callOp (hN : ∀ (g : Nat) (fn : Func), P.funcs[g]? = some fn → (fn.name == "runtime.NumGoroutine") = false) {o : Oper} {g : FuncId} {args : Array Operand} (h : calls P o = some (g, args)) {A : Act} {vs : List Value} (hvs : aevals A args.toList = some vs)
    {ι : Inj} {a : Act} {w : World} (hA : AOn ι o A a) {K : Act → World → Prop} {Q : Exit → Act → World → Prop} (hc : ∀ us, LRel ι vs us → Calls P g us.toArray w fun e w' => ∃ v', e = .returned v' ∧ K (a.put o.dst v') w') : o.wp P a w K Q := by
  obtain ⟨hrun, hops⟩ := calls_run hN h a w
  unfold Oper.wp
  rw [hrun]
  simp only [Oper.upon]
  have hl := aevals_ok args.toList vs (fun x hx v hv => hA x (hops x (by simpa using hx)) v hv) hvs
  have := hc _ hl
  rw [show (List.map a.eval args.toList).toArray = args.map a.eval from Array.ext' (by rw [Array.toList_map])] at this
  refine this.mono fun e w' he => ?_
  obtain ⟨v', rfl, hk⟩ := he
  exact hk

theorem opE_ok (hT : FlatOk P) {R : Type} {call : FuncId → List Value → AS → (Value → AS → Option R) → Option R} (hN : ∀ (g : Nat) (fn : Func), P.funcs[g]? = some fn → (fn.name == "runtime.NumGoroutine") = false) (hc : CallOk P call) {o : Oper} {A : Act} {st : AS} {k : Value → AS → Option R} {r : R} (h : opE P call o A st k = some r) :
    ∃ v st', k v st' = some r ∧ OpOk P o A st v st' := by
  unfold opE at h
  have hal : ∀ (R' : Prop), (match allocE P o A with
      | some (s, c) => forceK c fun c => natK st.next fun n => k (newV s ⟨n, 0, none⟩) ⟨n + 1, (n, ⟨c, true, true⟩) :: st.mem⟩
      | none => none) = some r → ∃ v st', k v st' = some r ∧ OpOk P o A st v st' := by
    intro _ h
    split at h
    · rename_i s c hac
      simp only [forceK_eq, natK_eq] at h
      refine ⟨_, _, h, fun ι B a w K Q hA hR hK => ?_⟩
      refine allocE_ok hac ι a w K Q hA fun c' t hc => ?_
      have hR' := hR.push (t := t) hc true
      exact hK _ _ _ (ext_le (hR.fresh _ (Nat.le_refl _))) (newV_rel ext_same rfl s) hR' (below_push _ hR.mem.low)
    · cases h
  split at h
  · exact hal True h
  · exact hal True h
  · exact hal True h
  · rename_i t x y ho
    exact storeE_ok ho h
  · split at h
    · rename_i g args hcal
      split at h
      · rename_i vs hvs
        obtain ⟨v, st', hk, hs⟩ := hc _ _ _ _ _ h
        refine ⟨v, st', hk, fun ι B a w K Q hA hR hK => ?_⟩
        refine callOp hN hcal hvs hA fun us hl => (hs ι B us w hl hR).mono fun e w' he => ?_
        obtain ⟨ι', v', hle, rfl, hv, hR', hb⟩ := he
        exact ⟨v', rfl, hK ι' v' w' hle hv hR' hb⟩
      · cases h
    · obtain ⟨v, hk, hs⟩ := stillE_ok hT h
      exact ⟨v, st, hk, hs.op⟩
  all_goals
    first
      | (rename_i ho; have h' : stillE P o A st k = some r := by (unfold stillE; rw [ho]; exact h)
         obtain ⟨v, hk, hs⟩ := stillE_ok hT h'
         exact ⟨v, st, hk, hs.op⟩)
      | (obtain ⟨v, hk, hs⟩ := pureE_ok h
         exact ⟨v, st, hk, hs.op⟩)
end Go.Ev
