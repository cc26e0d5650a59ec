/- A second evaluator for the model's code: statements, one operation behind the other. -/
import Derived.Test.YtojoepocppnccaaGreatSvE
namespace Go.Sv
noncomputable section
open Go.RowKit
variable {P : Program}

/-! ### slots, once more -/
structure SRel (κ : Kap) (sz : Nat) (E : Env) (a : Act) : Prop where
  rel : ERel κ E a
  size : sz ≤ a.tmps.size
theorem SRel.mono {κ κ' : Kap} (h : κ.le κ') {sz : Nat} {E : Env} {a : Act} (r : SRel κ sz E a) : SRel κ' sz E a := ⟨r.rel.mono h, r.size⟩
def dstOk (sz : Nat) (d : Option Tmp) : Bool :=
  match d with
  | none => true
  | some d => Nat.blt d sz
def Env.put (E : Env) (d : Option Tmp) (v : AV) : Env :=
  match d with
  | none => E
  | some d => E.set d v
theorem SRel.put {κ : Kap} {sz : Nat} {E : Env} {a : Act} (r : SRel κ sz E a) {d : Option Tmp} (hd : dstOk sz d = true) {v : AV} {v' : Value} (hv : VRel κ v v') : SRel κ sz (E.put d v) (a.put d v') := by
  cases d with
  | none => exact r
  | some d =>
    have hd : d < sz := by simpa [dstOk, Nat.blt_eq] using hd
    have hs := r.size
    exact ⟨r.rel.put (Nat.lt_of_lt_of_le hd hs) hv, by simp [Act.put]; exact hs⟩
section
variable {R : Type}
def putEK (E : Env) (d : Option Tmp) (v : AV) (k : Env → Option R) : Option R :=
  match d with
  | none => k E
  | some d => E.setK d v k
theorem putEK_eq (E : Env) (d : Option Tmp) (v : AV) (k : Env → Option R) : putEK E d v k = k (E.put d v) := by
  cases d with
  | none => rfl
  | some d => exact E.setK_eq d v k
end
/-- What a slot holds may be said again. -/
theorem SRel.again {κ : Kap} {sz : Nat} {E : Env} {a : Act} (r : SRel κ sz E a) {t : Nat} {v : AV} (h : E.get t = v) : SRel κ sz (E.set t v) a := by
  refine ⟨⟨fun t' => ?_, r.rel.defers⟩, r.size⟩
  by_cases e : t' = t
  · subst e
    rcases E.get_set_same t' v with h' | h' <;> rw [h']
    · rw [← h]; exact r.rel.get t'
    · exact vrel_any κ _
  · rw [Env.get_set_ne e]; exact r.rel.get t'

/-! ### memories -/
section
variable {R : Type}
def setRowK : List (Nat × Row) → Nat → Option Row → (List (Nat × Row) → Option R) → Option R
  | [], n, r, k => match r with
    | none => k []
    | some r => k [(n, r)]
  | (i, o) :: t, n, r, k => bif Nat.beq i n then (match r with | none => setRowK t n none k | some r => k ((n, r) :: t)) else setRowK t n r fun t' => k ((i, o) :: t')
def setRowsK : List (Nat × Row) → List (Nat × Option Row) → (List (Nat × Row) → Option R) → Option R
  | m, [], k => k m
  | m, (n, r) :: l, k => setRowK m n r fun m' => setRowsK m' l k
def applyK (st : AS) (e : Ent) (k : AS → Option R) : Option R := natK (st.next + e.nx) fun n => setRowsK st.mem e.eff fun m => k ⟨n, m⟩
theorem setRowK_some {r : R} : ∀ (m : List (Nat × Row)) (n : Nat) (o : Option Row) (k : List (Nat × Row) → Option R), setRowK m n o k = some r → ∃ m', k m' = some r ∧ ∀ x, find m' x = (Mem.set (find m) n o) x
  | [], n, o, k, h => by
    cases o with
    | none => exact ⟨_, h, fun x => by simp [Mem.set, find]⟩
    | some o =>
      refine ⟨_, h, fun x => ?_⟩
      simp only [find, Mem.set]
      by_cases e : x = n
      · subst e; simp
      · rw [beq_false (Ne.symm e), if_neg e]; rfl
  | (i, p) :: t, n, o, k, h => by
    simp only [setRowK] at h
    cases hb : Nat.beq i n with
    | true =>
      rw [hb] at h
      have := Nat.eq_of_beq_eq_true hb
      subst this
      cases o with
      | none =>
        obtain ⟨m', h1, h2⟩ := setRowK_some t i none k h
        refine ⟨m', h1, fun x => ?_⟩
        rw [h2]
        by_cases e : x = i
        · subst e; rw [Mem.set_same, Mem.set_same]
        · rw [Mem.set_ne _ _ e, Mem.set_ne _ _ e]
          simp only [find, beq_false (Ne.symm e), cond_false]
      | some o =>
        refine ⟨_, h, fun x => ?_⟩
        simp only [find]
        by_cases e : x = i
        · subst e; rw [Mem.set_same]; simp
        · rw [Mem.set_ne _ _ e]
          simp only [beq_false (Ne.symm e), cond_false]
    | false =>
      rw [hb] at h
      obtain ⟨t', h1, h2⟩ := setRowK_some t n o _ h
      refine ⟨_, h1, fun x => ?_⟩
      simp only [find]
      have hne : i ≠ n := fun e => by subst e; simp at hb
      by_cases e : x = n
      · subst e
        rw [beq_false hne, cond_false, h2, Mem.set_same, Mem.set_same]
      · rw [Mem.set_ne _ _ e]
        cases Nat.beq i x
        · rw [cond_false, cond_false, h2, Mem.set_ne _ _ e]
        · rfl
theorem setRowsK_some {r : R} : ∀ (l : List (Nat × Option Row)) (m : List (Nat × Row)) (k : List (Nat × Row) → Option R), setRowsK m l k = some r → ∃ m', k m' = some r ∧ find m' = (Mem.sets (find m) l)
  | [], m, k, h => ⟨m, by cases m <;> exact h, rfl⟩
  | (n, o) :: l, m, k, h => by
    have h' : setRowK m n o (fun m' => setRowsK m' l k) = some r := by cases m <;> exact h
    obtain ⟨m1, h1, h2⟩ := setRowK_some m n o _ h'
    obtain ⟨m2, h3, h4⟩ := setRowsK_some l m1 k h1
    exact ⟨m2, h3, by rw [h4, funext h2]; rfl⟩
theorem applyK_some {st : AS} {e : Ent} {k : AS → Option R} {r : R} (h : applyK st e k = some r) : ∃ st', k st' = some r ∧ st'.next = st.next + e.nx ∧ find st'.mem = Mem.sets (find st.mem) e.eff := by
  unfold applyK at h
  rw [natK_eq] at h
  obtain ⟨m', h1, h2⟩ := setRowsK_some _ _ _ h
  exact ⟨_, h1, rfl, h2⟩
end

/-! ### guards -/
def wantE {R : Type} (ops : Array Oper) (o : Oper) (E : Env) (kw ks : Env → Option R) : Option R :=
  match o.guard with
  | none => kw E
  | some (j, want) =>
    match (ops[j]?).bind (·.dst) with
    | none => ks E
    | some t =>
      match E.get t with
      | .bool b => bif b then E.setK t (.bool true) fun E => bif want then kw E else ks E
        else E.setK t (.bool false) fun E => bif want then ks E else kw E
      | .raw (.tuple _) => ks E
      | _ => none
theorem wantE_ok {R : Type} {ops : Array Oper} {o : Oper} {E : Env} {kw ks : Env → Option R} {r : R} (h : wantE ops o E kw ks = some r) :
    ∃ E' b, (if b = true then kw E' else ks E') = some r ∧ ∀ (κ : Kap) (sz : Nat) (a : Act), SRel κ sz E a → Region.wanted o (yielded ops a.tmps) = b ∧ SRel κ sz E' a := by
  unfold wantE at h
  split at h
  · rename_i hg
    exact ⟨E, true, by simpa using h, fun κ sz a hA => ⟨by unfold Region.wanted; rw [hg], hA⟩⟩
  · rename_i j want hg
    split at h
    · rename_i hd
      refine ⟨E, false, by simpa using h, fun κ sz a hA => ⟨?_, hA⟩⟩
      unfold Region.wanted yielded
      rw [hg]
      dsimp only
      rw [hd]; rfl
    · rename_i t hd
      have key : ∀ (a : Act), Region.wanted o (yielded ops a.tmps) = ((match a.tmps[t]? with | some (.bool b) => some b | _ => none) == some want) := by
        intro a
        unfold Region.wanted yielded
        rw [hg]
        dsimp only
        rw [hd]; rfl
      split at h
      · rename_i b hb
        have hval : ∀ (κ : Kap) (sz : Nat) (a : Act), SRel κ sz E a → a.tmps[t]? = some (.bool b) := by
          intro κ sz a hA
          have := hA.rel.get t
          rw [hb] at this
          have := bool_of this
          rw [Array.getD_eq_getD_getElem?] at this
          cases he : a.tmps[t]? with
          | none => rw [he] at this; simp [undef] at this
          | some v => rw [he] at this; simpa using this
        cases b with
        | true =>
          simp only [cond_true, Env.setK_eq] at h
          refine ⟨E.set t (.bool true), want, ?_, fun κ sz a hA => ⟨?_, hA.again hb⟩⟩
          · cases want <;> simpa using h
          · rw [key, hval κ sz a hA]; cases want <;> rfl
        | false =>
          simp only [cond_false, Env.setK_eq] at h
          refine ⟨E.set t (.bool false), !want, ?_, fun κ sz a hA => ⟨?_, hA.again hb⟩⟩
          · cases want <;> simpa using h
          · rw [key, hval κ sz a hA]; cases want <;> rfl
      · rename_i cs hb
        refine ⟨E, false, by simpa using h, fun κ sz a hA => ⟨?_, hA⟩⟩
        rw [key]
        have := hA.rel.get t
        rw [hb] at this
        have hv : a.tmps.getD t undef = .tuple cs := by
          generalize a.tmps.getD t undef = u at this
          cases this; rfl
        rw [Array.getD_eq_getD_getElem?] at hv
        cases he : a.tmps[t]? with
        | none => rfl
        | some v => rw [he] at hv; simp only [Option.getD_some] at hv; rw [hv]; rfl
      · cases h

/-- Names below a bound are as they were. -/
structure Kap.leN (nb : Nat) (κ κ' : Kap) : Prop where
  loc : ∀ n, n < nb → κ'.loc n = κ.loc n
  st : ∀ b cs, κ.st b = some cs → κ'.st b = some cs
  gh : κ'.gh = κ.gh
  sz : ∀ b s, κ.sz b = some s → κ'.sz b = some s
theorem Kap.leN_refl (nb : Nat) (κ : Kap) : Kap.leN nb κ κ := ⟨fun _ _ => rfl, fun _ _ h => h, rfl, fun _ _ h => h⟩
theorem Kap.leN_trans {nb nb' : Nat} (hn : nb ≤ nb') {a b c : Kap} (h : Kap.leN nb a b) (k : Kap.leN nb' b c) : Kap.leN nb a c :=
  ⟨fun n hn' => (k.loc n (by omega)).trans (h.loc n hn'), fun n x e => k.st n x (h.st n x e), k.gh.trans h.gh, fun n x e => k.sz n x (h.sz n x e)⟩
theorem Kap.leN.mono {nb nb' : Nat} {a b : Kap} (h : Kap.leN nb' a b) (hn : nb ≤ nb') : Kap.leN nb a b := ⟨fun n hn' => h.loc n (by omega), h.st, h.gh, h.sz⟩
theorem Kap.leN.le {nb : Nat} {κ κ' : Kap} (h : Kap.leN nb κ κ') (hf : ∀ n, nb ≤ n → κ.loc n = none) : κ.le κ' :=
  ⟨(fun n x e => by
    by_cases hn : n < nb
    · rw [h.loc n hn]; exact e
    · rw [hf n (by omega)] at e; cases e), h.st, h.gh, h.sz⟩

/-! ### calls -/
def SoundFn (P : Program) (g : FuncId) (vs : List AV) (st : AS) (v : AV) (st' : AS) : Prop :=
  ∀ (κ : Kap) (us : List Value) (w : World), CRel κ vs us → Rel κ st w →
    Calls P g us.toArray w fun en w' => ∃ κ' v', Kap.leN st.next κ κ' ∧ en = .returned v' ∧ VRel κ' v v' ∧ Rel κ' st' w' ∧ Fr κ (find st.mem) w κ' (find st'.mem) w'
/-- Likewise, told by what changes. -/
def CallEnt (P : Program) (g : FuncId) (vs : List AV) (next : Nat) (m : Mem) (e : Ent) : Prop :=
  ∀ (κ : Kap) (us : List Value) (w : World) (M : Mem), CRel κ vs us → MRel κ M w → (∀ n ∈ e.rd, M n = m n) → (∀ n, next ≤ n → n < next + e.nx → κ.loc n = none) →
    Calls P g us.toArray w fun en w' => ∃ κ' v', κ.le κ' ∧ (∀ n, n < next ∨ next + e.nx ≤ n → κ'.loc n = κ.loc n) ∧ en = .returned v' ∧ VRel κ' e.v v' ∧ MRel κ' (M.sets e.eff) w' ∧ Fr κ M w κ' (M.sets e.eff) w'
theorem CallEnt.sound {g : FuncId} {vs : List AV} {st st' : AS} {e : Ent} (h : CallEnt P g vs st.next (find st.mem) e) (h1 : st'.next = st.next + e.nx) (h2 : find st'.mem = Mem.sets (find st.mem) e.eff) : SoundFn P g vs st e.v st' := by
  intro κ us w hl hR
  refine (h κ us w (find st.mem) hl hR.mem (fun _ _ => rfl) (fun n hn _ => hR.fresh n hn)).mono fun en w' he => ?_
  obtain ⟨κ', v', a1, a2, a3, a4, a5, a6⟩ := he
  refine ⟨κ', v', ⟨fun n hn => a2 n (.inl hn), a1.st, a1.gh, a1.sz⟩, a3, a4, ⟨fun n hn => ?_, by rw [h2]; exact a5⟩, by rw [h2]; exact a6⟩
  rw [a2 n (.inr (by omega))]; exact hR.fresh n (by omega)

abbrev CallT (R : Type) := FuncId → List AV → AS → (AV → AS → Option R) → Option R
def CallOk (P : Program) {R : Type} (call : CallT R) : Prop :=
  ∀ g vs st (k : AV → AS → Option R) r, vs.all (fun x => !isArr x) = true → call g vs st k = some r → ∃ v st', k v st' = some r ∧ st.next ≤ st'.next ∧ SoundFn P g vs st v st'

/-- The function that an operation calls, if that has a body; with what. -/
def callee (P : Program) (o : Oper) (E : Env) : Option (FuncId × List AV) :=
  match o.op with
  | .call c => match c.callee with
    | .value f => match aeval E f with
      | some (.fn g a b) => match aevals E c.args.toList with
        | some vs => match P.funcs[g]? with
          | some fn => match fn.body with
            | some _ => bif (a ++ (vs ++ b)).all (fun x => !isArr x) then some (g, a ++ (vs ++ b)) else none
            | none => none
          | none => none
        | none => none
      | _ => none
    | _ => none
  | _ => none
theorem callee_all {o : Oper} {E : Env} {g : FuncId} {vs : List AV} (h : callee P o E = some (g, vs)) : vs.all (fun x => !isArr x) = true := by
  unfold callee at h
  split at h
  · split at h
    · split at h
      · split at h
        · split at h
          · split at h
            · obtain ⟨ha, h⟩ := cond_some h
              simp only [Option.some.injEq, Prod.mk.injEq] at h
              obtain ⟨rfl, rfl⟩ := h
              exact ha
            · cases h
          · cases h
        · cases h
      · cases h
    · cases h
  · cases h
def NamesOk (P : Program) : Prop := ∀ (g : Nat) (fn : Func), P.funcs[g]? = some fn → (fn.name == "runtime.NumGoroutine") = false
theorem callee_run (hN : NamesOk P) {o : Oper} {E : Env} {g : FuncId} {vs : List AV} (h : callee P o E = some (g, vs)) {κ : Kap} {a : Act} (hA : AOn κ o E a) (w : World) :
    ∃ us, CRel κ vs us ∧ (execOp a.eval o).run P w = .ok (.enter g us.toArray) w := by
  unfold callee at h
  split at h
  · rename_i c ho
    split at h
    · rename_i f hc
      split at h
      · rename_i g' x y hf
        split at h
        · rename_i vs' hvs
          split at h
          · rename_i fn hg
            split at h
            · rename_i body hb
              obtain ⟨_, h⟩ := cond_some h
              simp only [Option.some.injEq, Prod.mk.injEq] at h
              obtain ⟨rfl, rfl⟩ := h
              have hmf : f ∈ o.op.operands := by rw [ho]; simp [Op.operands, Call.operands, hc]
              have hrf := hA f hmf _ hf
              have hargs := aevals_ok c.args.toList vs' (fun x hx v hv => hA x (by rw [ho]; simp only [Op.operands, Call.operands]; simp at hx; simp [hx]) v hv) hvs
              generalize hef : a.eval f = ef at hrf
              cases hrf with
              | fn _ _ _ xs ys h1 h2 _ =>
                refine ⟨xs ++ (c.args.toList.map a.eval ++ ys), h1.append (hargs.append h2), ?_⟩
                simp only [execOp, ho]
                unfold resolve
                rw [hc]
                refine (run_bind_ok (a := ⟨.fn (.func g') ⟨ys⟩, ⟨xs⟩ ++ c.args.map a.eval⟩) (w' := w) (by simp only [hef, Deferred.ofValue]; rfl)).trans ?_
                unfold invoke callFunc
                refine (run_bind_ok (e := program) (a := P) (w' := w) rfl).trans ?_
                simp only [hg, hN g' fn hg, Bool.false_eq_true, if_false, hb, Option.isNone_some]
                have : (⟨xs⟩ ++ c.args.map a.eval ++ ⟨ys⟩ : Array Value) = (xs ++ (c.args.toList.map a.eval ++ ys)).toArray := by
                  apply Array.ext'; simp
                rw [this]; rfl
            · cases h
          · cases h
        · cases h
      · cases h
    · cases h
  · cases h

/-! ### one operation behind the other -/
section
variable {R : Type} (P)
def opsE (call : CallT R) (ops : Array Oper) : List Oper → Env → AS → (Env → AS → Option R) → Option R
  | [], E, st, k => k E st
  | o :: rest, E, st, k =>
    wantE ops o E (fun E =>
      match callee P o E with
      | some (g, vs) => call g vs st fun v st => putEK E o.dst v fun E => opsE call ops rest E st k
      | none => opE P o E st fun e => applyK st e fun st => putEK E o.dst e.v fun E => opsE call ops rest E st k)
      (fun E => putEK E o.dst (.raw undef) fun E => opsE call ops rest E st k)
end
def dstsOk (sz : Nat) (l : List Oper) : Bool := l.all fun o => dstOk sz o.dst
theorem opsE_ok (hZ : ZerosOk P) (hT : FlatOk P) (hN : NamesOk P) {R : Type} {call : CallT R} (hc : CallOk P call) {ops : Array Oper} {sz : Nat} :
    ∀ (l : List Oper) (E : Env) (st : AS) (k : Env → AS → Option R) (r : R), dstsOk sz l = true → opsE P call ops l E st k = some r → ∃ E' st', k E' st' = some r ∧ st.next ≤ st'.next ∧
      ∀ (κ : Kap) (a : Act) (w : World) (Q : Exit → Act → World → Prop), SRel κ sz E a → Rel κ st w →
        (∀ κ' a' w', Kap.leN st.next κ κ' → SRel κ' sz E' a' → Rel κ' st' w' → Fr κ (find st.mem) w κ' (find st'.mem) w' → Q .normal a' w') → wpList P ops Q l a w
  | [], E, st, k, r, _, h => ⟨E, st, h, Nat.le_refl _, fun κ a w Q hA hR hQ => hQ κ a w (Kap.leN_refl _ κ) hA hR (Fr.refl _ _ _)⟩
  | o :: l, E, st, k, r, hd, h => by
    simp only [dstsOk, List.all_cons, Bool.and_eq_true] at hd
    simp only [opsE] at h
    obtain ⟨E1, b, h1, h2⟩ := wantE_ok h
    cases b with
    | true =>
      simp only [if_true] at h1
      split at h1
      · rename_i g vs hcal
        obtain ⟨v, st1, h3, hn1, hs⟩ := hc _ _ _ _ _ (callee_all hcal) h1
        rw [putEK_eq] at h3
        obtain ⟨E', st', hk, hn2, hrest⟩ := opsE_ok hZ hT hN hc l _ st1 k r hd.2 h3
        refine ⟨E', st', hk, Nat.le_trans hn1 hn2, fun κ a w Q hA hR hQ => ?_⟩
        obtain ⟨hw, hA1⟩ := h2 κ sz a hA
        simp only [wpList, hw, if_true]
        refine .inl ?_
        obtain ⟨us, hus, hrun⟩ := callee_run hN hcal (hA1.rel.on o) w
        unfold Oper.wp
        rw [hrun, Oper.upon_enter]
        refine (hs κ us w hus hR).mono fun en w' he => ?_
        obtain ⟨κ', v', a1, rfl, a3, a4, a5⟩ := he
        exact hrest κ' _ w' Q ((hA1.mono (a1.le hR.fresh)).put hd.1 a3) a4 fun κ2 a2 w2 b1 b2 b3 b4 => hQ κ2 a2 w2 (Kap.leN_trans hn1 a1 b1) b2 b3 (a5.trans b4)
      · obtain ⟨e, h3, hop⟩ := opE_ok hZ hT h1
        obtain ⟨st1, h4, hn1, hm1⟩ := applyK_some h3
        rw [putEK_eq] at h4
        obtain ⟨E', st', hk, hn2, hrest⟩ := opsE_ok hZ hT hN hc l _ st1 k r hd.2 h4
        have hn1' : st.next ≤ st1.next := by omega
        refine ⟨E', st', hk, Nat.le_trans hn1' hn2, fun κ a w Q hA hR hQ => ?_⟩
        obtain ⟨hw, hA1⟩ := h2 κ sz a hA
        simp only [wpList, hw, if_true]
        refine .inl (hop κ a w (find st.mem) _ _ (hA1.rel.on o) hR.mem (fun _ _ => rfl) (fun n hn _ => hR.fresh n hn) fun κ' v' w' a1 a2 a3 a4 a5 => ?_)
        refine hrest κ' _ w' Q ((hA1.mono a1).put hd.1 a3) ⟨fun n hn => ?_, by rw [hm1]; exact a4⟩ fun κ2 aa2 w2 b1 b2 b3 b4 => hQ κ2 aa2 w2 (Kap.leN_trans hn1' ⟨fun n hn => a2 n (.inl hn), a1.st, a1.gh, a1.sz⟩ b1) b2 b3 ?_
        · rw [a2 n (.inr (by omega))]; exact hR.fresh n (by omega)
        · rw [hm1] at b4; exact a5.trans b4
    | false =>
      simp only [Bool.false_eq_true, if_false, putEK_eq] at h1
      obtain ⟨E', st', hk, hn2, hrest⟩ := opsE_ok hZ hT hN hc l _ st k r hd.2 h1
      refine ⟨E', st', hk, hn2, fun κ a w Q hA hR hQ => ?_⟩
      obtain ⟨hw, hA1⟩ := h2 κ sz a hA
      simp only [wpList, hw, Bool.false_eq_true, if_false]
      exact hrest κ _ w Q (hA1.put hd.1 (.raw undef .nil)) hR hQ
end
end Go.Sv
