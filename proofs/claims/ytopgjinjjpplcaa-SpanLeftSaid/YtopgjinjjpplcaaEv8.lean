/- An evaluator for the model's code over an abstract memory, ninth part: statements that draw their order are sound. -/
import Derived.Test.YtopgjinjjpplcaaEv7
namespace Go.Ev
open Go.RowKit
variable {P : Program}

/-! ### one operation -/
def StepB (P : Program) (base : Nat) (m0 : List (Nat × Row)) (i : Nat) (o : Oper) (A : Act) (e : Ent) : Prop :=
  match e.eff with
  | .none => ∀ (ι : Inj) (a : Act) (w : World) (K : Act → World → Prop) (Q : Exit → Act → World → Prop), AOn ι o A a →
      (∀ n row, e.rd = some n → find m0 n = some row → ∃ B, MRel ι B [(n, row)] w) → (∀ v' w', VRel ι e.v v' → Below w.heap.size w w' → K (a.put o.dst v') w') → o.wp P a w K Q
  | .new s c => e.v = newV s ⟨base + i, 0, none⟩ ∧ AllocOk P o A s c
  | .set n off vs => e.v = undef ∧ StoreOk P o A n off vs

theorem still_step {base i : Nat} {m0 : List (Nat × Row)} {o : Oper} {A : Act} {v : Value} (h : StillOk P o A [] v) : StepB P base m0 i o A ⟨v, .none, none⟩ := by
  intro ι a w K Q hA _ hK
  exact h ι 0 a w K Q hA ⟨Nat.zero_le _, fun n r hn => by simp [find] at hn, fun n n' r r' l l' hn => by simp [find] at hn⟩ fun v' hv => hK v' w hv (Below.refl _ _)

theorem opB_ok (hT : FlatOk P) {R : Type} {call : FuncId → List Value → AS → (Value → AS → Option R) → Option R} (hN : ∀ (g : Nat) (fn : Func), P.funcs[g]? = some fn → (fn.name == "runtime.NumGoroutine") = false) (hc : CallOk P call)
    {base i : Nat} {m : List (Nat × Row)} {o : Oper} {A : Act} {k : Ent → Option R} {r : R} (h : opB P call base i m o A k = some r) : ∃ e, k e = some r ∧ StepB P base m i o A e := by
  unfold opB at h
  split at h
  all_goals try
    (split at h
     · rename_i s c hac
       exact ⟨_, h, rfl, allocE_ok hac⟩
     · cases h
     done)
  · rename_i t x y ho
    split at h
    · rename_i n off hx
      split at h
      · cases h
      · rename_i v hy
        split at h
        · cases h
        · rename_i s hs
          obtain ⟨hb, h⟩ := cond_some h
          simp only [Bool.and_eq_true, List.all_eq_true] at hb
          exact ⟨_, h, rfl, storeOk ho hx hy hs (Nat.eq_of_beq_eq_true hb.1) hb.2⟩
    · cases h
  · rename_i t x ho
    split at h
    · rename_i n off hx
      split at h
      · rename_i row hn
        obtain ⟨v, hk, hs⟩ := stillE_ok hT h
        refine ⟨_, hk, fun ι a w K Q hA hrd hK => ?_⟩
        obtain ⟨B, hR⟩ := hrd n row rfl hn
        exact hs ι B a w K Q hA hR fun v' hv => hK v' w hv (Below.refl _ _)
      · cases h
    · cases h
  · split at h
    · rename_i g args hcal
      split at h
      · rename_i vs hvs
        obtain ⟨hp, h⟩ := cond_some h
        obtain ⟨v, st', hk, hs⟩ := hc _ _ _ _ _ h
        obtain ⟨hpv, hk⟩ := cond_some hk
        refine ⟨_, hk, fun ι a w K Q hA _ hK => ?_⟩
        refine callOp hN hcal hvs hA fun us hl => ?_
        have hus : us = vs := (LRel.eq_of hl fun j x y hx hy => ((hl.2 j x y hx hy).eq_of_plain (List.all_eq_true.1 hp x (List.mem_of_getElem? hx))).symm).symm
        subst hus
        have hl0 : LRel (fun _ => none) us us := ⟨rfl, fun j x y hx hy => by
          rw [hx] at hy
          obtain rfl := Option.some.inj hy
          exact .plain _ (List.all_eq_true.1 hp x (List.mem_of_getElem? hx))⟩
        refine (hs (fun _ => none) w.heap.size us w hl0 ⟨fun _ _ => rfl, Nat.le_refl _, fun n r hn => by simp [find] at hn, fun n n' r r' l l' hn => by simp [find] at hn⟩).mono fun e w' he => ?_
        obtain ⟨ι', v', _, rfl, hv, _, hb⟩ := he
        have : v' = v := hv.eq_of_plain hpv
        subst this
        exact ⟨v', rfl, hK v' w' (.plain _ hpv) hb⟩
      · cases h
    · obtain ⟨v, hk, hs⟩ := stillE_ok hT h
      exact ⟨_, hk, still_step hs⟩

/-! ### all operations, in the text's order -/
def putAll : List Oper → List Ent → Act → Act
  | o :: os, e :: es, A => putAll os es (A.put o.dst e.v)
  | _, _, A => A

/-- What is told of the operation at a place. -/
def At (P : Program) (ops : Array Oper) (base : Nat) (m0 : List (Nat × Row)) (i : Nat) (o : Oper) (A : Act) (e : Ent) : Prop :=
  (Region.wanted o (yielded ops A.tmps) = true ∧ StepB P base m0 i o A e) ∨ (Region.wanted o (yielded ops A.tmps) = false ∧ e = ⟨undef, .none, none⟩)

theorem opsB_ok (hT : FlatOk P) {R : Type} {call : FuncId → List Value → AS → (Value → AS → Option R) → Option R} (hN : ∀ (g : Nat) (fn : Func), P.funcs[g]? = some fn → (fn.name == "runtime.NumGoroutine") = false) (hc : CallOk P call)
    {ops : Array Oper} {base : Nat} {m : List (Nat × Row)} : ∀ (l : List Oper) (i : Nat) (A : Act) (k : Act → List Ent → Option R) (r : R), opsB P call ops base m i l A k = some r →
    ∃ es, es.length = l.length ∧ k (putAll l es A) es = some r ∧ ∀ p o e, l[p]? = some o → es[p]? = some e → At P ops base m (i + p) o (putAll (l.take p) (es.take p) A) e
  | [], i, A, k, r, h => ⟨[], rfl, h, fun p o e ho => by simp at ho⟩
  | o :: l, i, A, k, r, h => by
    simp only [opsB, putK_eq] at h
    have fin : ∀ (e : Ent), At P ops base m i o A e → (∃ es, es.length = l.length ∧ k (putAll l es (A.put o.dst e.v)) (e :: es) = some r ∧ ∀ p o' e', l[p]? = some o' → es[p]? = some e' → At P ops base m (i + 1 + p) o' (putAll (l.take p) (es.take p) (A.put o.dst e.v)) e') →
        ∃ es, es.length = (o :: l).length ∧ k (putAll (o :: l) es A) es = some r ∧ ∀ p o' e', (o :: l)[p]? = some o' → es[p]? = some e' → At P ops base m (i + p) o' (putAll ((o :: l).take p) (es.take p) A) e' := by
      rintro e hat ⟨es, hlen, hk, hall⟩
      refine ⟨e :: es, by simp [hlen], hk, fun p o' e' ho he => ?_⟩
      cases p with
      | zero => simp at ho he; subst ho; subst he; exact hat
      | succ p =>
        have := hall p o' e' (by simpa using ho) (by simpa using he)
        rw [show i + (p + 1) = i + 1 + p from by omega]
        exact this
    rcases wantE_ok h with ⟨hw, h⟩ | ⟨hw, h⟩
    · obtain ⟨e, h1, hs⟩ := opB_ok hT hN hc h
      exact fin e (.inl ⟨hw, hs⟩) (opsB_ok hT hN hc l (i + 1) _ _ r h1)
    · exact fin ⟨undef, .none, none⟩ (.inr ⟨hw, rfl⟩) (opsB_ok hT hN hc l (i + 1) _ _ r h)

theorem putAll_size : ∀ (os : List Oper) (es : List Ent) (A : Act), (putAll os es A).tmps.size = A.tmps.size ∧ (putAll os es A).defers = A.defers
  | [], _, _ => ⟨rfl, rfl⟩
  | _ :: _, [], _ => ⟨rfl, rfl⟩
  | o :: os, e :: es, A => by
    rw [putAll]
    have := putAll_size os es (A.put o.dst e.v)
    cases ho : o.dst with
    | none => rw [ho] at this; exact this
    | some d => rw [ho] at this; simpa [Act.put] using this

theorem putAll_other : ∀ (os : List Oper) (es : List Ent) (A : Act) (t : Tmp), (∀ o ∈ os, o.dst ≠ some t) → (putAll os es A).tmps.getD t undef = A.tmps.getD t undef
  | [], _, _, _, _ => rfl
  | _ :: _, [], _, _, _ => rfl
  | o :: os, e :: es, A, t, h => by
    rw [putAll, putAll_other os es _ t fun o' ho' => h o' (List.mem_cons_of_mem _ ho')]
    cases ho : o.dst with
    | none => rfl
    | some d =>
      simp only [Act.put, getD_set]
      rw [if_neg]
      rintro ⟨rfl, _⟩
      exact h o (List.mem_cons_self ..) ho

theorem putAll_at : ∀ (os : List Oper) (es : List Ent) (A : Act) (t : Tmp) (p : Nat) (o : Oper) (e : Ent), os[p]? = some o → es[p]? = some e → o.dst = some t → t < A.tmps.size →
    (∀ q o', os[q]? = some o' → o'.dst = some t → q = p) → (putAll os es A).tmps.getD t undef = e.v
  | [], _, _, _, p, o, e, ho, _, _, _, _ => by simp at ho
  | _ :: _, [], _, _, p, o, e, _, he, _, _, _ => by simp at he
  | o0 :: os, e0 :: es, A, t, p, o, e, ho, he, hd, ht, hu => by
    rw [putAll]
    cases p with
    | zero =>
      simp at ho he
      subst ho; subst he
      rw [putAll_other os es _ t fun o' ho' hd' => by
        obtain ⟨q, hq⟩ := List.getElem?_of_mem ho'
        have := hu (q + 1) o' (by simpa using hq) hd'
        omega]
      simp only [hd, Act.put, getD_set]
      rw [if_pos ⟨trivial, ht⟩]
    | succ p =>
      refine putAll_at os es _ t p o e (by simpa using ho) (by simpa using he) hd ?_ fun q o' hq hd' => ?_
      · cases h0 : o0.dst <;> simp [Act.put, ht]
      · have := hu (q + 1) o' (by simpa using hq) hd'
        omega

/-! ### what the check says -/
theorem sameDst_iff {x : Option Tmp} {t : Tmp} : sameDst x (some t) = true ↔ x = some t := by
  cases x with
  | none => simp [sameDst]
  | some d =>
    simp only [sameDst, Option.some.injEq]
    exact ⟨Nat.eq_of_beq_eq_true, fun h => by subst h; exact beqT _⟩

theorem dstFrom_false {l : List Oper} {t : Tmp} (h : dstFrom l t = false) : ∀ o ∈ l, o.dst ≠ some t := fun o ho hd => by
  unfold dstFrom at h
  rw [List.any_eq_false] at h
  exact h o ho (sameDst_iff.2 hd)

theorem waitsAll_spec {o : Oper} {t : Tmp} : ∀ (l : List Oper) (j : Nat), waitsAll o t j l = true → ∀ q p, l[q]? = some p → p.dst = some t → waits o (j + q) = true
  | [], _, _, q, p, hq, _ => by simp at hq
  | p0 :: l, j, h, q, p, hq, hd => by
    simp only [waitsAll, Bool.and_eq_true] at h
    cases q with
    | zero =>
      simp at hq; subst hq
      have := h.1
      rw [sameDst_iff.2 hd] at this
      exact this
    | succ q =>
      have := waitsAll_spec l (j + 1) h.2 q p (by simpa using hq) hd
      rw [show j + (q + 1) = j + 1 + q from by omega]; exact this

structure OkOps (ops : Array Oper) (sz : Nat) : Prop where
  dst : ∀ (i : Nat) (o : Oper), ops[i]? = some o → ∀ d, o.dst = some d → d < sz
  uniq : ∀ (i j : Nat) (o p : Oper), ops[i]? = some o → ops[j]? = some p → ∀ d, o.dst = some d → p.dst = some d → i = j
  looks : ∀ (i : Nat) (o : Oper), ops[i]? = some o → ∀ t ∈ o.looksAt ops, ∀ (j : Nat) (p : Oper), ops[j]? = some p → p.dst = some t → j < i ∧ ∃ e ∈ o.after, Region.binds .any e = true ∧ e.on = j
  edges : ∀ (i : Nat) (o : Oper), ops[i]? = some o → ∀ e ∈ o.after, Region.binds .any e = true → e.on < i

theorem OkOps.mono {ops : Array Oper} {sz sz' : Nat} (h : OkOps ops sz) (hle : sz ≤ sz') : OkOps ops sz' :=
  ⟨fun i o ho d hd => Nat.lt_of_lt_of_le (h.dst i o ho d hd) hle, h.uniq, h.looks, h.edges⟩

theorem okFrom_spec {ops : Array Oper} {sz : Nat} : ∀ (rest done : List Oper) (i : Nat), i = done.length → okFrom ops sz i done rest = true →
    ∀ (q : Nat) (o : Oper), rest[q]? = some o →
      (∀ d, o.dst = some d → d < sz ∧ ∀ p ∈ done ++ rest.take q, p.dst ≠ some d) ∧
      (∀ t ∈ o.looksAt ops, (∀ j p, (done ++ rest.take q)[j]? = some p → p.dst = some t → waits o j = true) ∧ ∀ p ∈ rest.drop q, p.dst ≠ some t) ∧
      (∀ e ∈ o.after, Region.binds .any e = true → e.on < i + q)
  | [], _, _, _, _, q, o, hq => by simp at hq
  | o0 :: rest, done, i, hi, h, q, o, hq => by
    simp only [okFrom, Bool.and_eq_true, List.all_eq_true] at h
    obtain ⟨h1, h2, h3, h4⟩ := h
    cases q with
    | zero =>
      simp at hq; subst hq
      refine ⟨fun d hd => ?_, fun t ht => ?_, fun e he hb => ?_⟩
      · rw [hd] at h1
        simp only [Bool.and_eq_true, Bool.not_eq_true'] at h1
        refine ⟨by simpa [Nat.blt_eq] using h1.1, ?_⟩
        simpa using dstFrom_false h1.2
      · have := h2 t ht
        simp only [Bool.not_eq_true'] at this
        refine ⟨fun j p hj hd => ?_, ?_⟩
        · have := waitsAll_spec done 0 this.1 j p (by simpa using hj) hd
          simpa using this
        · simpa using dstFrom_false this.2
      · have := h3 e (by simpa using he)
        rw [hb] at this
        simpa [Nat.blt_eq] using this
    | succ q =>
      have ih := okFrom_spec rest (done ++ [o0]) (i + 1) (by simp [hi]) h4 q o (by simpa using hq)
      obtain ⟨i1, i2, i3⟩ := ih
      refine ⟨fun d hd => ?_, fun t ht => ?_, fun e he hb => ?_⟩
      · obtain ⟨a, b⟩ := i1 d hd
        exact ⟨a, by simpa using b⟩
      · obtain ⟨a, b⟩ := i2 t ht
        exact ⟨by simpa using a, by simpa using b⟩
      · have := i3 e he hb; omega

theorem okOps {ops : Array Oper} {sz : Nat} (h : okFrom ops sz 0 [] ops.toList = true) : OkOps ops sz := by
  have hs := okFrom_spec ops.toList [] 0 rfl h
  have hat : ∀ (i : Nat) (o : Oper), ops[i]? = some o → ops.toList[i]? = some o := fun i o ho => by simpa using ho
  have earlier : ∀ (i j : Nat) (p : Oper), ops[j]? = some p → j < i → p ∈ ops.toList.take i := fun i j p hp hlt => by
    refine List.mem_of_getElem? (i := j) ?_
    rw [List.getElem?_take, if_pos hlt]; exact hat j p hp
  have later : ∀ (i j : Nat) (p : Oper), ops[j]? = some p → i ≤ j → p ∈ ops.toList.drop i := fun i j p hp hle => by
    refine List.mem_of_getElem? (i := j - i) ?_
    rw [List.getElem?_drop, show i + (j - i) = j from by omega]; exact hat j p hp
  refine ⟨fun i o ho d hd => ((hs i o (hat i o ho)).1 d hd).1, fun i j o p ho hp d hd hd' => ?_, fun i o ho t ht j p hp hd => ?_, fun i o ho e he hb => by simpa using (hs i o (hat i o ho)).2.2 e he hb⟩
  · rcases Nat.lt_trichotomy i j with hlt | heq | hlt
    · exact absurd hd (((hs j p (hat j p hp)).1 d hd').2 o (by simpa using earlier j i o ho hlt))
    · exact heq
    · exact absurd hd' (((hs i o (hat i o ho)).1 d hd).2 p (by simpa using earlier i j p hp hlt))
  · obtain ⟨a, b⟩ := (hs i o (hat i o ho)).2.1 t ht
    have hlt : j < i := by
      rcases Nat.lt_or_ge j i with h | h
      · exact h
      · exact absurd hd (b p (later i j p hp h))
    refine ⟨hlt, ?_⟩
    have := a j p (by simp only [List.nil_append]; rw [List.getElem?_take, if_pos hlt]; exact hat j p hp) hd
    unfold waits at this
    rw [List.any_eq_true] at this
    obtain ⟨e, he, hh⟩ := this
    simp only [Bool.and_eq_true] at hh
    exact ⟨e, by simpa using he, hh.1, Nat.eq_of_beq_eq_true hh.2⟩
end Go.Ev
