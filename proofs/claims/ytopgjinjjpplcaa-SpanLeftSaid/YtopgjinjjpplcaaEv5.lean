/- An evaluator for the model's code over an abstract memory, sixth part: code and functions are sound. -/
import Derived.Test.YtopgjinjjpplcaaEv4
namespace Go.Ev
open Go.RowKit
variable {P : Program}

def Post (ι : Inj) (B : Nat) (e : EK) (A' : Act) (st' : AS) (w0 : World) : Exit → Act → World → Prop := fun ex a' w' =>
  ex = e.toExit ∧ ∃ ι', Inj.le ι ι' ∧ ARel ι' A' a' ∧ Rel ι' B st' w' ∧ Below B w0 w'

theorem Post.mono {ι ι1 : Inj} {B : Nat} {e : EK} {A' : Act} {st' : AS} {w0 w1 : World} (hle : Inj.le ι ι1) (hb : Below B w0 w1) {ex : Exit} {a' : Act} {w' : World} (h : Post ι1 B e A' st' w1 ex a' w') : Post ι B e A' st' w0 ex a' w' := by
  obtain ⟨h1, ι', h2, h3, h4, h5⟩ := h
  exact ⟨h1, ι', Inj.le_trans hle h2, h3, h4, hb.trans h5⟩

def CodeOk (P : Program) (c : Code) (A : Act) (st : AS) (e : EK) (A' : Act) (st' : AS) : Prop :=
  ∀ (ι : Inj) (B : Nat) (a : Act) (w : World), ARel ι A a → Rel ι B st w → c.wp P (Post ι B e A' st' w) a w

def LoopOk (P : Program) (body : Code) (A : Act) (st : AS) (e : EK) (A' : Act) (st' : AS) : Prop :=
  ∃ n, ∀ (ι : Inj) (B : Nat) (a : Act) (w : World), ARel ι A a → Rel ι B st w → Code.rounds P body (Post ι B e A' st' w) n a w

theorem rounds_mono {c : Code} {Q Q' : Exit → Act → World → Prop} (hq : ∀ e a w, Q e a w → Q' e a w) : ∀ (n : Nat) (a : Act) (w : World), Code.rounds P c Q n a w → Code.rounds P c Q' n a w
  | 0, _, _, h => h
  | n + 1, a, w, h => by
    rw [rounds_succ] at h ⊢
    refine wp_mono h fun e a w h => ?_
    cases e with
    | normal => exact rounds_mono hq n a w h
    | _ => exact hq _ _ _ h

def RegOk (P : Program) {R : Type} (reg : Reg R) : Prop :=
  ∀ (call : FuncId → List Value → AS → (Value → AS → Option R) → Option R), CallOk P call → ∀ (id : Nat) (ops : Array Oper) (A : Act) (st : AS) (k : Act → AS → Option R) (r : R) (sz : Nat), okFrom ops sz 0 [] ops.toList = true → Region.noSelect ops = true → sz ≤ A.tmps.size → reg call ops A st k = some r →
    ∃ A' st', k A' st' = some r ∧ A'.tmps.size = A.tmps.size ∧ CodeOk P (.region id ops true) A st .normal A' st'

def KOk (P : Program) (K : KT) : Prop := ∀ (R : Type) g vs st F, K R g vs st = some F → ∀ (k : Value → AS → Option R) r, F k = some r → ∃ v st', k v st' = some r ∧ SoundFn P g vs st v st'

theorem enter_rel {ι : Inj} {fn : Func} {vs us : List Value} (h : LRel ι vs us) : ARel ι (enterE fn vs) { tmps := us.toArray ++ Array.replicate (fn.ntmps - us.toArray.size) undef, defers := [] } := by
  refine ⟨by simp [enterE, h.1], fun t => ?_, rfl, rfl⟩
  have hl : LRel ι (vs ++ List.replicate (fn.ntmps - vs.length) undef) (us ++ List.replicate (fn.ntmps - us.length) undef) := by
    refine h.append ?_
    rw [h.1]
    exact ⟨rfl, fun i x y hx hy => by
      rw [hx] at hy
      obtain rfl := Option.some.inj hy
      have := List.mem_of_getElem? hx
      obtain ⟨_, rfl⟩ := List.mem_replicate.1 this
      exact vrel_undef ι⟩
  have e1 : (enterE fn vs).tmps.getD t undef = (vs ++ List.replicate (fn.ntmps - vs.length) undef)[t]?.getD undef := by
    simp only [enterE, Array.getD_eq_getD_getElem?]
    rw [← Array.getElem?_toList]
  have e2 : (us.toArray ++ Array.replicate (fn.ntmps - us.toArray.size) undef).getD t undef = (us ++ List.replicate (fn.ntmps - us.length) undef)[t]?.getD undef := by
    simp only [Array.getD_eq_getD_getElem?]
    rw [← Array.getElem?_toList]
    simp
  rw [e1, e2]
  cases hx : (vs ++ List.replicate (fn.ntmps - vs.length) undef)[t]? with
  | some x =>
    obtain ⟨y, hy, hv⟩ := hl.get hx
    rw [hy]; exact hv
  | none =>
    have : (us ++ List.replicate (fn.ntmps - us.length) undef)[t]? = none := by
      rw [List.getElem?_eq_none_iff] at hx ⊢
      rw [← hl.1]; exact hx
    rw [this]
    exact vrel_undef ι

/-- A function's body is sound: so is the function. -/
theorem fn_ok {R : Type} {g : FuncId} {fn : Func} {body : Code} (hg : P.funcs[g]? = some fn) (hb : fn.body = some body) {vs : List Value} {st : AS} {k : Value → AS → Option R} {r : R} {e : EK} {A' : Act} {st' : AS}
    (hc : CodeOk P body (enterE fn vs) st e A' st') (h : finE P fn k e A' st' = some r) : ∃ v, k v st' = some r ∧ SoundFn P g vs st v st' := by
  have key : ∀ ws, resE P A' st' fn.results.toList = some ws → (e = .normal ∨ e = .ret) → SoundFn P g vs st (oneOf ws) st' := by
    intro ws hws he ι B us w hl hR
    refine calls_of_wp hg hb ?_
    refine wp_mono (hc ι B _ w (enter_rel hl) hR) fun ex a' w' hq => ?_
    obtain ⟨rfl, ι', hle, hA', hR', hbl⟩ := hq
    obtain ⟨u, hu, hrun⟩ := results_ok hws hA' hR'
    rcases he with rfl | rfl
    · exact ⟨hA'.da, u, hrun, ι', u, hle, rfl, hu, hR', hbl⟩
    · exact ⟨hA'.da, u, hrun, ι', u, hle, rfl, hu, hR', hbl⟩
  unfold finE at h
  cases e with
  | exit i => cases h
  | normal =>
    simp only at h
    split at h
    · cases h
    · rename_i ws hws; exact ⟨_, h, key ws hws (.inl rfl)⟩
  | ret =>
    simp only at h
    split at h
    · cases h
    · rename_i ws hws; exact ⟨_, h, key ws hws (.inr rfl)⟩

/-- What ran on a memory of its own. -/
theorem SoundFn.lift {g : FuncId} {vs : List Value} {st st' : AS} {v : Value} (h : SoundFn P g vs ⟨st.next, []⟩ v st') :
    (Ev.plain v = true → SoundFn P g vs st v st) ∧ (st'.mem.all (fun p => p.2.own) = true → SoundFn P g vs st v ⟨st'.next, st'.mem ++ st.mem⟩) := by
  have base : ∀ (ι : Inj) (B : Nat) (us : List Value) (w : World), LRel ι vs us → Rel ι B st w → Calls P g us.toArray w fun e w' => ∃ ι' v', Inj.le ι ι' ∧ e = .returned v' ∧ VRel ι' v v' ∧ Rel ι' w.heap.size st' w' ∧ Below w.heap.size w w' := by
    intro ι B us w hl hR
    exact h ι w.heap.size us w hl ⟨hR.fresh, Nat.le_refl _, fun n r hn => by simp [find] at hn, fun n n' r r' l l' hn => by simp [find] at hn⟩
  refine ⟨fun hv ι B us w hl hR => ?_, fun hown ι B us w hl hR => ?_⟩
  · refine (base ι B us w hl hR).mono fun e w' he => ?_
    obtain ⟨ι', v', hle, rfl, hvv, hR', hb⟩ := he
    refine ⟨ι, v', Inj.le_refl ι, rfl, ?_, hR.below hb, hb.mono hR.mem.low⟩
    rw [hvv.eq_of_plain hv]
    exact .plain v hv
  · refine (base ι B us w hl hR).mono fun e w' he => ?_
    obtain ⟨ι', v', hle, rfl, hvv, hR', hb⟩ := he
    exact ⟨ι', v', hle, rfl, hvv, hR.union hle hb hR' hown, hb.mono hR.mem.low⟩

def FuncsOk (P : Program) : Prop := ∀ (g : Nat) (fn : Func), P.funcs[g]? = some fn → funcOk fn = true

theorem evCode_ok (hT : FlatOk P) (hO : FuncsOk P) (hN : ∀ (g : Nat) (fn : Func), P.funcs[g]? = some fn → (fn.name == "runtime.NumGoroutine") = false) {K : KT} (hK : KOk P K) : ∀ (fuel : Nat) {R : Type} {reg : Reg R}, RegOk P reg → ∀ (c : Code) (A : Act) (st : AS) (k : EK → Act → AS → Option R) (r : R) (sz : Nat), codeOk sz c = true → sz ≤ A.tmps.size →
    evCode P K reg fuel c A st k = some r → ∃ e A' st', k e A' st' = some r ∧ A'.tmps.size = A.tmps.size ∧ CodeOk P c A st e A' st' ∧ ∀ body, c = .loop body → LoopOk P body A st e A' st'
  | 0, R, reg, hreg, c, A, st, k, r, sz, hco, hsz, h => by simp [evCode] at h
  | fuel + 1, R, reg, hreg, c, A, st, k, r, sz, hco, hsz, h => by
    have ih := fun {R : Type} {reg : Reg R} hreg => evCode_ok hT hO hN hK fuel (R := R) (reg := reg) hreg
    cases c with
    | skip =>
      simp only [evCode] at h
      exact ⟨_, _, _, h, rfl, fun ι B a w hA hR => wp_skip ⟨rfl, ι, Inj.le_refl ι, hA, hR, Below.refl _ _⟩, fun _ e => by cases e⟩
    | label l =>
      simp only [evCode] at h
      exact ⟨_, _, _, h, rfl, fun ι B a w hA hR => wp_label ⟨rfl, ι, Inj.le_refl ι, hA, hR, Below.refl _ _⟩, fun _ e => by cases e⟩
    | exit id =>
      simp only [evCode] at h
      exact ⟨_, _, _, h, rfl, fun ι B a w hA hR => wp_exit ⟨rfl, ι, Inj.le_refl ι, hA, hR, Below.refl _ _⟩, fun _ e => by cases e⟩
    | ret =>
      simp only [evCode] at h
      exact ⟨_, _, _, h, rfl, fun ι B a w hA hR => wp_ret ⟨rfl, ι, Inj.le_refl ι, hA, hR, Below.refl _ _⟩, fun _ e => by cases e⟩
    | goto l => simp [evCode] at h
    | refuse why => simp [evCode] at h
    | rangeFunc f params asg body => simp [evCode] at h
    | seq x y =>
      simp only [evCode] at h
      simp only [codeOk, Bool.and_eq_true] at hco
      obtain ⟨e1, A1, st1, h1, hs1, hx, _⟩ := ih hreg x A st _ r sz hco.1 hsz h
      cases e1 with
      | normal =>
        obtain ⟨e2, A2, st2, h2, hs2, hy, _⟩ := ih hreg y A1 st1 k r sz hco.2 (by rw [hs1]; exact hsz) h1
        refine ⟨e2, A2, st2, h2, hs2.trans hs1, fun ι B a w hA hR => wp_seq ?_, fun _ e => by cases e⟩
        refine wp_mono (hx ι B a w hA hR) fun ex a' w' hq => ?_
        obtain ⟨rfl, ι', hle, hA', hR', hb⟩ := hq
        exact wp_mono (hy ι' B a' w' hA' hR') fun ex a2 w2 hq2 => hq2.mono hle hb
      | exit i =>
        refine ⟨_, A1, st1, h1, hs1, fun ι B a w hA hR => wp_seq ?_, fun _ e => by cases e⟩
        refine wp_mono (hx ι B a w hA hR) fun ex a' w' hq => ?_
        have := hq.1
        subst this
        exact hq
      | ret =>
        refine ⟨_, A1, st1, h1, hs1, fun ι B a w hA hR => wp_seq ?_, fun _ e => by cases e⟩
        refine wp_mono (hx ι B a w hA hR) fun ex a' w' hq => ?_
        have := hq.1
        subst this
        exact hq
    | cond c x y =>
      simp only [evCode] at h
      simp only [codeOk, Bool.and_eq_true] at hco
      split at h
      · rename_i t
        split at h
        · rename_i b hb
          rw [nth_eq, Array.getElem?_toList] at hb
          have hcond : ∀ ι (a : Act), ARel ι A a → a.eval (.tmp t) = .bool b := fun ι a hA => by
            obtain ⟨v', hv', hvv⟩ := tmps_some hA hb
            have := hvv.eq_of_plain rfl
            subst this
            simp [Act.eval, hv']
          cases b with
          | true =>
            simp only [cond_true, putK_eq, put_same hb] at h
            obtain ⟨e1, A1, st1, h1, hs1, hx, _⟩ := ih hreg x A st k r sz hco.1 hsz h
            exact ⟨e1, A1, st1, h1, hs1, fun ι B a w hA hR => wp_cond_true (hcond ι a hA) (hx ι B a w hA hR), fun _ e => by cases e⟩
          | false =>
            simp only [cond_false, putK_eq, put_same hb] at h
            obtain ⟨e1, A1, st1, h1, hs1, hx, _⟩ := ih hreg y A st k r sz hco.2 hsz h
            exact ⟨e1, A1, st1, h1, hs1, fun ι B a w hA hR => wp_cond_false (hcond ι a hA) (hx ι B a w hA hR), fun _ e => by cases e⟩
        · cases h
      · rename_i b
        cases b with
        | true =>
          simp only [cond_true] at h
          obtain ⟨e1, A1, st1, h1, hs1, hx, _⟩ := ih hreg x A st k r sz hco.1 hsz h
          exact ⟨e1, A1, st1, h1, hs1, fun ι B a w hA hR => wp_cond_true rfl (hx ι B a w hA hR), fun _ e => by cases e⟩
        | false =>
          simp only [cond_false] at h
          obtain ⟨e1, A1, st1, h1, hs1, hx, _⟩ := ih hreg y A st k r sz hco.2 hsz h
          exact ⟨e1, A1, st1, h1, hs1, fun ι B a w hA hR => wp_cond_false rfl (hx ι B a w hA hR), fun _ e => by cases e⟩
      · cases h
    | block id body =>
      simp only [evCode] at h
      simp only [codeOk] at hco
      obtain ⟨e1, A1, st1, h1, hs1, hx, _⟩ := ih hreg body A st _ r sz hco hsz h
      cases e1 with
      | normal =>
        refine ⟨_, A1, st1, h1, hs1, fun ι B a w hA hR => wp_block ?_, fun _ e => by cases e⟩
        refine wp_mono (hx ι B a w hA hR) fun ex a' w' hq => ?_
        have := hq.1
        subst this
        exact hq
      | ret =>
        refine ⟨_, A1, st1, h1, hs1, fun ι B a w hA hR => wp_block ?_, fun _ e => by cases e⟩
        refine wp_mono (hx ι B a w hA hR) fun ex a' w' hq => ?_
        have := hq.1
        subst this
        exact hq
      | exit i =>
        simp only at h1
        cases hi : Nat.beq i id with
        | true =>
          have hi' := Nat.eq_of_beq_eq_true hi
          simp only [hi, cond_true] at h1
          refine ⟨_, A1, st1, h1, hs1, fun ι B a w hA hR => wp_block ?_, fun _ e => by cases e⟩
          refine wp_mono (hx ι B a w hA hR) fun ex a' w' hq => ?_
          obtain ⟨rfl, hq⟩ := hq
          subst hi'
          show Exit.inBlock i _ (.exit i) a' w'
          simp only [Exit.inBlock, if_true]
          exact ⟨rfl, hq⟩
        | false =>
          have hi' : i ≠ id := fun e => by subst e; rw [beqT] at hi; cases hi
          simp only [hi, cond_false] at h1
          refine ⟨_, A1, st1, h1, hs1, fun ι B a w hA hR => wp_block ?_, fun _ e => by cases e⟩
          refine wp_mono (hx ι B a w hA hR) fun ex a' w' hq => ?_
          obtain ⟨rfl, hq⟩ := hq
          show Exit.inBlock id _ (.exit i) a' w'
          simp only [Exit.inBlock, if_neg hi']
          exact ⟨rfl, hq⟩
    | loop body =>
      simp only [evCode] at h
      have hco' := hco
      simp only [codeOk] at hco
      obtain ⟨e1, A1, st1, h1, hs1, hx, _⟩ := ih hreg body A st _ r sz hco hsz h
      have key : ∃ e A' st', k e A' st' = some r ∧ A'.tmps.size = A.tmps.size ∧ LoopOk P body A st e A' st' := by
        cases e1 with
        | normal =>
          obtain ⟨e2, A2, st2, h2, hs2, _, hl⟩ := ih hreg (.loop body) A1 st1 k r sz hco' (by rw [hs1]; exact hsz) h1
          obtain ⟨n, hn⟩ := hl body rfl
          refine ⟨e2, A2, st2, h2, hs2.trans hs1, n + 1, fun ι B a w hA hR => ?_⟩
          rw [rounds_succ]
          refine wp_mono (hx ι B a w hA hR) fun ex a' w' hq => ?_
          obtain ⟨rfl, ι', hle, hA', hR', hb⟩ := hq
          exact rounds_mono (fun ex a2 w2 hq2 => hq2.mono hle hb) n a' w' (hn ι' B a' w' hA' hR')
        | exit i =>
          refine ⟨_, A1, st1, h1, hs1, 1, fun ι B a w hA hR => ?_⟩
          rw [rounds_succ]
          refine wp_mono (hx ι B a w hA hR) fun ex a' w' hq => ?_
          have := hq.1
          subst this
          exact hq
        | ret =>
          refine ⟨_, A1, st1, h1, hs1, 1, fun ι B a w hA hR => ?_⟩
          rw [rounds_succ]
          refine wp_mono (hx ι B a w hA hR) fun ex a' w' hq => ?_
          have := hq.1
          subst this
          exact hq
      obtain ⟨e, A', st', hk, hs, hl⟩ := key
      refine ⟨e, A', st', hk, hs, fun ι B a w hA hR => ?_, fun b hb => by cases hb; exact hl⟩
      obtain ⟨n, hn⟩ := hl
      exact wp_loop_rounds n (hn ι B a w hA hR)
    | scope body =>
      simp only [evCode] at h
      simp only [codeOk] at hco
      obtain ⟨e1, A1, st1, h1, hs1, hx, _⟩ := ih hreg body A st k r sz hco hsz h
      refine ⟨e1, A1, st1, h1, hs1, fun ι B a w hA hR => wp_scope_straight ?_, fun _ e => by cases e⟩
      refine wp_mono (hx ι B a w hA hR) fun ex a' w' hq => ?_
      obtain ⟨rfl, hq⟩ := hq
      cases e1 <;> exact ⟨rfl, hq⟩
    | region id ops draw =>
      simp only [evCode] at h
      have hcall : CallOk P (fun (g : FuncId) (args : List Value) (st : AS) (k : Value → AS → Option R) =>
        match K R g args st with
        | some F => F k
        | none =>
          match P.funcs[g]? with
          | none => none
          | some fn =>
            match fn.body with
            | none => none
            | some body =>
              enterK fn args fun A => bif args.all plain then evCode P K reg fuel body A ⟨st.next, []⟩ (finE P fn (backE st k))
              else evCode P K reg fuel body A st (finE P fn k)) := by
        intro g vs st k r h
        dsimp only at h
        split at h
        · rename_i F hkk
          exact hK _ _ _ _ _ hkk _ _ h
        · split at h
          · cases h
          · rename_i fn hg
            split at h
            · cases h
            · rename_i body hb
              rw [enterK_eq] at h
              have hfo : codeOk fn.ntmps body = true := by have := hO g fn hg; unfold funcOk at this; rw [hb] at this; exact this
              have hen : fn.ntmps ≤ (enterE fn vs).tmps.size := by simp [enterE]; omega
              cases hp : vs.all plain with
              | true =>
                simp only [hp, cond_true] at h
                obtain ⟨e, A', st', hf, _, hc, _⟩ := ih hreg body _ _ _ r fn.ntmps hfo hen h
                obtain ⟨v, hv, hs⟩ := fn_ok hg hb hc hf
                unfold backE at hv
                cases hpv : plain v with
                | true =>
                  simp only [hpv, cond_true] at hv
                  exact ⟨v, st, hv, hs.lift.1 hpv⟩
                | false =>
                  simp only [hpv, cond_false] at hv
                  obtain ⟨ho, hv⟩ := cond_some hv
                  simp only [Bool.and_eq_true] at ho
                  exact ⟨v, _, hv, hs.lift.2 ho.1⟩
              | false =>
                simp only [hp, cond_false] at h
                obtain ⟨e, A', st', hf, _, hc, _⟩ := ih hreg body _ _ _ r fn.ntmps hfo hen h
                obtain ⟨v, hv, hs⟩ := fn_ok hg hb hc hf
                exact ⟨v, st', hv, hs⟩
      cases draw with
      | true =>
        simp only [cond_true] at h
        simp only [codeOk, cond_true, Bool.and_eq_true] at hco
        obtain ⟨A', st', hk, hs, hc⟩ := hreg _ hcall id ops A st _ r sz hco.1 hco.2 hsz h
        exact ⟨.normal, A', st', hk, hs, hc, fun _ e => by cases e⟩
      | false =>
        simp only [cond_false] at h
        obtain ⟨A', st', hk, hs, hc⟩ := opsE_ok hT hN hcall _ _ _ _ r h
        refine ⟨.normal, A', st', hk, hs, fun ι B a w hA hR => wp_region_list (hc ι B a w _ hA hR fun ι' a' w' hle hA' hR' hb => ?_), fun _ e => by cases e⟩
        exact ⟨rfl, ι', hle, hA', hR', hb⟩

theorem evFn_ok (hT : FlatOk P) (hO : FuncsOk P) (hN : ∀ (g : Nat) (fn : Func), P.funcs[g]? = some fn → (fn.name == "runtime.NumGoroutine") = false) {K : KT} (hK : KOk P K) {R : Type} {reg : Reg R} (hreg : RegOk P reg) {fuel : Nat} {g : FuncId} {vs : List Value} {st : AS} {k : Value → AS → Option R} {r : R}
    (h : evFn P K reg fuel g vs st k = some r) : ∃ v st', k v st' = some r ∧ SoundFn P g vs st v st' := by
  unfold evFn at h
  split at h
  · cases h
  · rename_i fn hg
    split at h
    · cases h
    · rename_i body hb
      rw [enterK_eq] at h
      have hfo : codeOk fn.ntmps body = true := by have := hO g fn hg; unfold funcOk at this; rw [hb] at this; exact this
      obtain ⟨e, A', st', hf, _, hc, _⟩ := evCode_ok hT hO hN hK fuel hreg body _ _ _ r fn.ntmps hfo (by simp [enterE]; omega) h
      obtain ⟨v, hv, hs⟩ := fn_ok hg hb hc hf
      exact ⟨v, st', hv, hs⟩
end Go.Ev
