/- A second evaluator for the model's code: code and functions. -/
import Derived.Test.YtojoepocppnccaaGreatSvG0
namespace Go.Sv
noncomputable section
open Go.RowKit
variable {P : Program}

inductive EK where
  | normal
  | exit (id : Nat)
  | ret
def EK.toExit : EK → Exit
  | .normal => .normal
  | .exit id => .exit id
  | .ret => .ret

/-! ### results -/
section
variable {R : Type} (P)
def resK (E : Env) (st : AS) : List ResultVar → (List AV → Option R) → Option R
  | [], k => k []
  | .tmp t :: rs, k => resK E st rs fun vs => bif isArr (E.get t) then none else k (E.get t :: vs)
  | .cell a t :: rs, k => resK E st rs fun vs => placeK st.mem (E.get a) fun c _ => readT P t c fun v => bif isArr v then none else k (v :: vs)
end
def oneOf : List AV → AV
  | [v] => v
  | vs => .tup vs
/-- What is known of calls. -/
abbrev KT := (R : Type) → FuncId → List AV → AS → Option ((Ent → Option R) → Option R)
/-- What is known of pieces of code: by function and block. -/
abbrev LT := (R : Type) → FuncId → Nat → Env → AS → Option ((EK → Env → AS → Option R) → Option R)
abbrev CallD (R : Type) := FuncId → List AV → AS → (Ent → Option R) → Option R
abbrev Reg (R : Type) := CallD R → Array Oper → Env → AS → (Env → AS → Option R) → Option R

def argsE : Env → Nat → List AV → Env
  | E, _, [] => E
  | E, i, v :: vs => argsE (E.set i v) (i + 1) vs
def argsK {R : Type} : Env → Nat → List AV → (Env → Option R) → Option R
  | E, _, [], k => k E
  | E, i, v :: vs, k => E.setK i v fun E => argsK E (i + 1) vs k
theorem argsK_eq {R : Type} : ∀ (vs : List AV) (E : Env) (i : Nat) (k : Env → Option R), argsK E i vs k = k (argsE E i vs)
  | [], E, i, k => by cases E <;> rfl
  | v :: vs, E, i, k => by
    have : argsK E i (v :: vs) k = E.setK i v fun E => argsK E (i + 1) vs k := by cases E <;> rfl
    rw [this, Env.setK_eq, argsK_eq vs]
    cases E <;> rfl
def enterEnv (fn : Func) (vs : List AV) : Env := argsE (Env.mk (Nat.log2 fn.ntmps + 1)) 0 vs

section
variable {R : Type} (P)
def finE (fn : Func) (k : AV → AS → Option R) (e : EK) (E : Env) (st : AS) : Option R :=
  match e with
  | .exit _ => none
  | _ => resK P E st fn.results.toList fun vs => k (oneOf vs) st
def revRows : List (Nat × Row) → List (Nat × Option Row) → List (Nat × Option Row)
  | [], l => l
  | (n, r) :: m, l => revRows m ((n, some r) :: l)
def delRows : List (Nat × Row) → List (Nat × Option Row) → List (Nat × Option Row)
  | [], l => l
  | (n, _) :: m, l => (n, none) :: delRows m l
theorem rowNames_mem {n : Nat} {r : Row} : ∀ {a : List (Nat × Row)}, (n, r) ∈ a → n ∈ rowNames a
  | [], h => by cases h
  | p :: a, h => by
    rcases List.mem_cons.1 h with e | e
    · subst e; exact List.mem_cons_self ..
    · exact List.mem_cons_of_mem _ (rowNames_mem e)
/-- Behind a call that ran on a part of the memory. -/
def entOf (next : Nat) (acc : List (Nat × Row)) (k : Ent → Option R) (v : AV) (st : AS) : Option R :=
  bif Nat.ble next st.next then k ⟨v, delRows acc (revRows st.mem []), st.next - next, rowNames acc⟩ else none
/-- Has it more than so many rows? -/
def longer : Nat → List (Nat × Row) → Bool
  | 0, _ => true
  | _ + 1, [] => false
  | n + 1, _ :: l => longer n l
/-- What is known of a statement with a block behind it: by the block's number. -/
def headL (L : LT) (R : Type) (g : FuncId) (y : Code) (E : Env) (st : AS) : Option ((EK → Env → AS → Option R) → Option R) :=
  match y with
  | .block id _ => L R g (2 * id + 1) E st
  | _ => none
def evCode (K : KT) (L : LT) (reg : (R : Type) → Reg R) : Nat → FuncId → Code → Env → AS → (EK → Env → AS → Option R) → Option R
  | 0, _, _, _, _, _ => none
  | fuel + 1, g, c, E, st, k =>
    match c with
    | .skip => k .normal E st
    | .label _ => k .normal E st
    | .exit id => k (.exit id) E st
    | .ret => k .ret E st
    | .seq x y =>
      match headL L R g y E st with
      | some F => F k
      | none => evCode K L reg fuel g x E st fun e E st =>
        match e with
        | .normal => evCode K L reg fuel g y E st k
        | .exit i => k (.exit i) E st
        | .ret => k .ret E st
    | .cond c x y =>
      match c with
      | .tmp t =>
        match E.get t with
        | .bool b => bif b then E.setK t (.bool true) fun E => evCode K L reg fuel g x E st k else E.setK t (.bool false) fun E => evCode K L reg fuel g y E st k
        | _ => none
      | .const (.bool b) => bif b then evCode K L reg fuel g x E st k else evCode K L reg fuel g y E st k
      | _ => none
    | .block id body =>
      match L R g (2 * id) E st with
      | some F => F k
      | none => evCode K L reg fuel g body E st fun e E st =>
        match e with
        | .exit i => bif Nat.beq i id then k .normal E st else k (.exit i) E st
        | .normal => k .normal E st
        | .ret => k .ret E st
    | .loop body => evCode K L reg fuel g body E st fun e E st =>
        match e with
        | .normal => evCode K L reg fuel g (.loop body) E st k
        | .exit i => k (.exit i) E st
        | .ret => k .ret E st
    | .scope body => evCode K L reg fuel g body E st k
    | .region _ ops draw =>
      bif draw then
        reg R (fun (h : FuncId) (vs : List AV) (st : AS) (k : Ent → Option R) =>
          match K R h vs st with
          | some F => F k
          | none =>
              match P.funcs[h]? with
              | none => none
              | some fn =>
                match fn.body with
                | none => none
                | some body => partT st.mem (namesL (namesN 6) vs []) fun acc _ => bif bnds (bndN 6 st.next) vs && accOk st.next acc then
                    argsK (Env.mk (Nat.log2 fn.ntmps + 1)) 0 vs fun E => evCode K L reg fuel h body E ⟨st.next, acc⟩ (finE P fn (gcK acc [] (entOf st.next acc k)))
                  else none) ops E st fun E st => k .normal E st
      else
        opsE P (fun (h : FuncId) (vs : List AV) (st : AS) (k : AV → AS → Option R) =>
          match K R h vs st with
          | some F => F fun e => applyK st e fun st' => k e.v st'
          | none =>
            match P.funcs[h]? with
            | none => none
            | some fn =>
              match fn.body with
              | none => none
              | some body => bif leafB body then argsK (Env.mk (Nat.log2 fn.ntmps + 1)) 0 vs fun E => evCode K L reg fuel h body E st (finE P fn k)
                else match namesL (namesN 6) vs [] with
                  | [] => bif bnds (bndN 6 st.next) vs then argsK (Env.mk (Nat.log2 fn.ntmps + 1)) 0 vs fun E => evCode K L reg fuel h body E ⟨st.next, []⟩ (finE P fn (gcK [] st.mem k)) else none
                  | n :: ns => bif longer 24 st.mem then partT st.mem (n :: ns) fun acc rest => bif bnds (bndN 6 st.next) vs && accOk st.next acc then
                      argsK (Env.mk (Nat.log2 fn.ntmps + 1)) 0 vs fun E => evCode K L reg fuel h body E ⟨st.next, acc⟩ (finE P fn (gcK acc rest k)) else none
                    else argsK (Env.mk (Nat.log2 fn.ntmps + 1)) 0 vs fun E => evCode K L reg fuel h body E st (finE P fn k)) ops ops.toList E st fun E st => k .normal E st
    | _ => none
/-- A function. -/
def evFn (K : KT) (L : LT) (reg : (R : Type) → Reg R) (fuel : Nat) (g : FuncId) (vs : List AV) (st : AS) (k : AV → AS → Option R) : Option R :=
  match P.funcs[g]? with
  | none => none
  | some fn =>
    match fn.body with
    | none => none
    | some body => argsK (Env.mk (Nat.log2 fn.ntmps + 1)) 0 vs fun E => evCode P K L reg fuel g body E st (finE P fn k)
end

/-! ### they are sound -/
def resRun (tmps : Array Value) (x : ResultVar) : Sem Value := match x with | .tmp t => pure (tmps.getD t undef) | .cell b t => do loadVar t (← asAddr (tmps.getD b undef))
theorem resK_ok {R : Type} {E : Env} {st : AS} {r : R} : ∀ (rs : List ResultVar) (k : List AV → Option R), resK P E st rs k = some r → ∃ vs, k vs = some r ∧ vs.all (fun x => !isArr x) = true ∧ ∀ (κ : Kap) (sz : Nat) (a : Act) (w : World), SRel κ sz E a → Rel κ st w →
      ∃ us, CRel κ vs us ∧ (rs.mapM (resRun a.tmps)).run P w = .ok us w
  | [], k, h => ⟨[], h, rfl, fun κ sz a w _ _ => ⟨[], .nil, rfl⟩⟩
  | .tmp t :: rs, k, h => by
    simp only [resK] at h
    obtain ⟨vs, h1, h2, h3⟩ := resK_ok rs _ h
    obtain ⟨ha, h4⟩ := cond_some' h1
    refine ⟨_, h4, by simp [ha]; simpa using h2, fun κ sz a w hA hR => ?_⟩
    obtain ⟨us, hu, hrun⟩ := h3 κ sz a w hA hR
    refine ⟨a.tmps.getD t undef :: us, (hA.rel.get t).append hu, ?_⟩
    rw [List.mapM_cons]
    refine (run_bind_ok (e := resRun a.tmps (.tmp t)) (a := a.tmps.getD t undef) (w' := w) rfl).trans ?_
    exact (run_bind_ok hrun).trans rfl
  | .cell b t :: rs, k, h => by
    simp only [resK] at h
    obtain ⟨vs, h1, h2, h3⟩ := resK_ok rs _ h
    obtain ⟨c, rd, h4, h5⟩ := placeK_ok h1
    obtain ⟨hne, v, h6, h7, _⟩ := readT_ok h4
    obtain ⟨ha, h8⟩ := cond_some' h6
    refine ⟨_, h8, by simp [ha]; simpa using h2, fun κ sz a w hA hR => ?_⟩
    obtain ⟨us, hu, hrun⟩ := h3 κ sz a w hA hR
    obtain ⟨ad, had, hpl⟩ := h5 κ w (find st.mem) _ hR.mem (fun _ _ => rfl) (hA.rel.get b) hne
    obtain ⟨u, hv, hr⟩ := h7 κ w ad hpl
    refine ⟨u :: us, CRel.append hv hu, ?_⟩
    rw [List.mapM_cons]
    refine (run_bind_ok (e := resRun a.tmps (.cell b t)) (a := u) (w' := w) ?_).trans ?_
    · unfold resRun
      dsimp only
      rw [had]
      exact (run_bind_ok (e := asAddr (.pointer (some ad))) (a := ad) (w' := w) rfl).trans hr
    · exact (run_bind_ok hrun).trans rfl
theorem one_list {κ : Kap} {vs : List AV} {us : List Value} (h : CRel κ vs us) (ha : vs.all (fun x => !isArr x) = true) : VRel κ (oneOf vs) (if h : us.toArray.size = 1 then us.toArray[0] else .tuple us.toArray) := by
  have hl := h.map_len ha
  match vs, us, h, hl with
  | [], [], h, _ => exact .tup _ _ h .nil
  | [v], [u], h, _ => exact h
  | v :: v2 :: vs, u :: u2 :: us, h, _ => exact .tup _ _ h .nil
theorem results_ok {R : Type} {fn : Func} {E : Env} {st : AS} {k : List AV → Option R} {r : R} (h : resK P E st fn.results.toList k = some r) : ∃ vs, k vs = some r ∧ ∀ (κ : Kap) (sz : Nat) (a : Act) (w : World), SRel κ sz E a → Rel κ st w → ∃ u, VRel κ (oneOf vs) u ∧ (results fn a.tmps).run P w = .ok u w := by
  obtain ⟨vs, h1, h2, h3⟩ := resK_ok _ _ h
  refine ⟨vs, h1, fun κ sz a w hA hR => ?_⟩
  obtain ⟨us, hu, hrun⟩ := h3 κ sz a w hA hR
  refine ⟨_, one_list hu h2, ?_⟩
  unfold results
  rw [Array.mapM_eq_mapM_toList]
  refine (run_bind_ok (a := us.toArray) (w' := w) ?_).trans rfl
  exact (run_bind_ok hrun).trans rfl

/-! ### code -/
def codeOk (sz : Nat) : Code → Bool
  | .region _ ops _ => dstsOk sz ops.toList
  | .seq a b => codeOk sz a && codeOk sz b
  | .cond _ a b => codeOk sz a && codeOk sz b
  | .block _ b => codeOk sz b
  | .loop b => codeOk sz b
  | .scope b => codeOk sz b
  | _ => true
/-- The blocks of a piece of code. -/
def blocks : Code → List (Nat × Code)
  | .seq a b => blocks a ++ blocks b
  | .cond _ a b => blocks a ++ blocks b
  | .block id b => (id, b) :: blocks b
  | .loop b => blocks b
  | .scope b => blocks b
  | _ => []
/-- Statements with a block behind them. -/
def seqs : Code → List (Nat × Code × Code)
  | .seq a b => (match b with | .block id body => [(id, a, body)] | _ => []) ++ (seqs a ++ seqs b)
  | .cond _ a b => seqs a ++ seqs b
  | .block _ b => seqs b
  | .loop b => seqs b
  | .scope b => seqs b
  | _ => []
def regions : Code → List (Nat × Array Oper)
  | .region id ops draw => bif draw then [(id, ops)] else []
  | .seq a b => regions a ++ regions b
  | .cond _ a b => regions a ++ regions b
  | .block _ b => regions b
  | .loop b => regions b
  | .scope b => regions b
  | _ => []

def Post (κ : Kap) (nb sz : Nat) (st : AS) (w : World) (e : EK) (E' : Env) (st' : AS) : Exit → Act → World → Prop := fun ex a' w' =>
  ex = e.toExit ∧ ∃ κ', Kap.leN nb κ κ' ∧ SRel κ' sz E' a' ∧ Rel κ' st' w' ∧ Fr κ (find st.mem) w κ' (find st'.mem) w'
theorem Post.mono {κ κ1 : Kap} {nb sz : Nat} {st st1 st' : AS} {w w1 : World} {e : EK} {E' : Env} (hle : Kap.leN nb κ κ1) (hf : Fr κ (find st.mem) w κ1 (find st1.mem) w1) {ex : Exit} {a' : Act} {w' : World} (h : Post κ1 nb sz st1 w1 e E' st' ex a' w') : Post κ nb sz st w e E' st' ex a' w' := by
  obtain ⟨h1, κ', h2, h3, h4, h5⟩ := h
  exact ⟨h1, κ', Kap.leN_trans (Nat.le_refl _) hle h2, h3, h4, hf.trans h5⟩
def CodeOk (P : Program) (nb sz : Nat) (c : Code) (E : Env) (st : AS) (e : EK) (E' : Env) (st' : AS) : Prop :=
  ∀ (κ : Kap) (a : Act) (w : World), SRel κ sz E a → Rel κ st w → c.wp P (Post κ nb sz st w e E' st') a w
def LoopOk (P : Program) (nb sz : Nat) (body : Code) (E : Env) (st : AS) (e : EK) (E' : Env) (st' : AS) : Prop :=
  ∃ n, ∀ (κ : Kap) (a : Act) (w : World), SRel κ sz E a → Rel κ st w → Code.rounds P body (Post κ nb sz st w e E' st') n a w
theorem rounds_mono {c : Code} {Q Q' : Exit → Act → World → Prop} (hq : ∀ e a w, Q e a w → Q' e a w) : ∀ (n : Nat) (a : Act) (w : World), Code.rounds P c Q n a w → Code.rounds P c Q' n a w
  | 0, _, _, h => h
  | n + 1, a, w, h => by
    rw [rounds_succ] at h ⊢
    refine wp_mono h fun e a w h => ?_
    cases e with
    | normal => exact rounds_mono hq n a w h
    | _ => exact hq _ _ _ h

/-- What is asked of the table of calls, of the table of pieces of code, of the way of statements that draw their order. -/
def KOk (P : Program) (K : KT) : Prop := ∀ (R : Type) g vs st F, K R g vs st = some F → ∀ (k : Ent → Option R) r, F k = some r → ∃ e, k e = some r ∧ CallEnt P g vs st.next (find st.mem) e
def bodyOf (P : Program) (g : FuncId) : Code :=
  match P.funcs[g]? with
  | some fn => fn.body.getD .skip
  | none => .skip
def szOf (P : Program) (g : FuncId) : Nat :=
  match P.funcs[g]? with
  | some fn => fn.ntmps
  | none => 0
structure LOk (P : Program) (L : LT) : Prop where
  block : ∀ (R : Type) g id E st F, L R g (2 * id) E st = some F → ∀ body, (id, body) ∈ blocks (bodyOf P g) → ∀ nb, nb ≤ st.next → ∀ (k : EK → Env → AS → Option R) r, F k = some r →
    ∃ e E' st', k e E' st' = some r ∧ st.next ≤ st'.next ∧ CodeOk P nb (szOf P g) (.block id body) E st e E' st'
  seq : ∀ (R : Type) g id E st F, L R g (2 * id + 1) E st = some F → ∀ x body, (id, x, body) ∈ seqs (bodyOf P g) → ∀ nb, nb ≤ st.next → ∀ (k : EK → Env → AS → Option R) r, F k = some r →
    ∃ e E' st', k e E' st' = some r ∧ st.next ≤ st'.next ∧ CodeOk P nb (szOf P g) (.seq x (.block id body)) E st e E' st'
def CallDOk (P : Program) {R : Type} (call : CallD R) : Prop :=
  ∀ g vs st (k : Ent → Option R) r, vs.all (fun x => !isArr x) = true → call g vs st k = some r → ∃ e, k e = some r ∧ CallEnt P g vs st.next (find st.mem) e
def RegOk (P : Program) (reg : (R : Type) → Reg R) : Prop :=
  ∀ (R : Type) (call : CallD R), CallDOk P call → ∀ (g : FuncId) (id : Nat) (ops : Array Oper), (id, ops) ∈ regions (bodyOf P g) → ∀ (E : Env) (st : AS) (k : Env → AS → Option R) (r : R), reg R call ops E st k = some r →
    ∃ E' st', k E' st' = some r ∧ st.next ≤ st'.next ∧ CodeOk P st.next (szOf P g) (.region id ops true) E st .normal E' st'
structure ProgOk (P : Program) : Prop where
  zeros : ZerosOk P
  flat : FlatOk P
  names : NamesOk P
  codes : ∀ (g : Nat) (fn : Func) (body : Code), P.funcs[g]? = some fn → fn.body = some body → codeOk fn.ntmps body = true
  orders : P.follows .mixedOrders = true

theorem argsE_get : ∀ (vs : List AV) (E : Env) (i t : Nat), (argsE E i vs).get t = .any ∨ (∃ j v, t = i + j ∧ vs[j]? = some v ∧ (argsE E i vs).get t = v) ∨ ((∀ j v, t = i + j → vs[j]? ≠ some v) ∧ (argsE E i vs).get t = E.get t)
  | [], E, i, t => .inr (.inr ⟨fun j v _ => by simp, by cases E <;> rfl⟩)
  | v :: vs, E, i, t => by
    have e : argsE E i (v :: vs) = argsE (E.set i v) (i + 1) vs := by cases E <;> rfl
    rw [e]
    rcases argsE_get vs (E.set i v) (i + 1) t with h | ⟨j, u, h1, h2, h3⟩ | ⟨h1, h2⟩
    · exact .inl h
    · exact .inr (.inl ⟨j + 1, u, by omega, by simpa using h2, h3⟩)
    · by_cases ht : t = i
      · subst ht
        rcases E.get_set_same t v with h | h
        · exact .inr (.inl ⟨0, v, rfl, rfl, by rw [h2, h]⟩)
        · exact .inl (by rw [h2, h])
      · rw [Env.get_set_ne ht] at h2
        refine .inr (.inr ⟨fun j u hj hu => ?_, h2⟩)
        cases j with
        | zero => exact ht (by omega)
        | succ j => exact h1 j u (by omega) (by simpa using hu)
theorem CRel.getI {κ : Kap} : ∀ {c : List AV} {zs : List Value} {i : Nat} {v : AV}, CRel κ c zs → c.all (fun x => !isArr x) = true → c[i]? = some v → ∃ u, zs[i]? = some u ∧ VRel κ v u
  | [], zs, i, v, _, _, h => by simp at h
  | x :: xs, zs, i, v, r, ha, h => by
    simp only [List.all_cons, Bool.and_eq_true, Bool.not_eq_true'] at ha
    obtain ⟨y, ys, rfl, h1, h2⟩ := r.head ha.1
    cases i with
    | zero => simp only [List.getElem?_cons_zero, Option.some.injEq] at h; subst h; exact ⟨y, rfl, h1⟩
    | succ i =>
      simp only [List.getElem?_cons_succ] at h
      obtain ⟨u, h3, h4⟩ := CRel.getI h2 ha.2 h
      exact ⟨u, by simpa using h3, h4⟩
theorem enter_rel {κ : Kap} {fn : Func} {vs : List AV} {us : List Value} (h : CRel κ vs us) (ha : vs.all (fun x => !isArr x) = true) : SRel κ fn.ntmps (enterEnv fn vs) { tmps := us.toArray ++ Array.replicate (fn.ntmps - us.toArray.size) undef, defers := [] } := by
  refine ⟨⟨fun t => ?_, rfl⟩, by simp; omega⟩
  unfold enterEnv
  rcases argsE_get vs (Env.mk (Nat.log2 fn.ntmps + 1)) 0 t with h' | ⟨j, v, h1, h2, h3⟩ | ⟨_, h2⟩
  · rw [h']; exact vrel_any κ _
  · rw [Nat.zero_add] at h1
    subst h1
    rw [h3]
    obtain ⟨u, hu, hv⟩ := h.getI ha h2
    have : (us.toArray ++ Array.replicate (fn.ntmps - us.toArray.size) undef).getD t undef = u := by
      rw [Array.getD_eq_getD_getElem?]
      have hlt := (List.getElem?_eq_some_iff.1 hu).1
      rw [Array.getElem?_append, if_pos (by simpa using hlt)]
      simp [hu]
    rw [this]; exact hv
  · rw [h2, Env.get_mk]; exact vrel_any κ _

/-- A function's body is sound: so is the function. -/
theorem fn_ok {R : Type} {g : FuncId} {fn : Func} {body : Code} (hg : P.funcs[g]? = some fn) (hb : fn.body = some body) {vs : List AV} (ha : vs.all (fun x => !isArr x) = true) {st : AS} {k : AV → AS → Option R} {r : R} {e : EK} {E' : Env} {st' : AS}
    (hc : CodeOk P st.next fn.ntmps body (enterEnv fn vs) st e E' st') (h : finE P fn k e E' st' = some r) : ∃ v, k v st' = some r ∧ SoundFn P g vs st v st' := by
  have key : resK P E' st' fn.results.toList (fun vs => k (oneOf vs) st') = some r → (e = .normal ∨ e = .ret) → ∃ v, k v st' = some r ∧ SoundFn P g vs st v st' := by
    intro h he
    obtain ⟨ws, hk, hres⟩ := results_ok h
    refine ⟨_, hk, fun κ us w hl hR => ?_⟩
    refine calls_of_wp hg hb ?_
    refine wp_mono (hc κ _ w (enter_rel hl ha) hR) fun ex a' w' hq => ?_
    obtain ⟨rfl, κ', hle, hA', hR', hf⟩ := hq
    obtain ⟨u, hu, hrun⟩ := hres κ' _ a' w' hA' hR'
    rcases he with rfl | rfl
    · exact ⟨hA'.rel.defers, u, hrun, κ', u, hle, rfl, hu, hR', hf⟩
    · exact ⟨hA'.rel.defers, u, hrun, κ', u, hle, rfl, hu, hR', hf⟩
  unfold finE at h
  cases e with
  | exit i => cases h
  | normal => exact key h (.inl rfl)
  | ret => exact key h (.inr rfl)
end
end Go.Sv
