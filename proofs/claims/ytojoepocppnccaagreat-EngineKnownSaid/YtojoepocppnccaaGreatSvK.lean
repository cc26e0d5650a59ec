/- A second evaluator for the model's code: statements that draw their order are sound. -/
import Derived.Test.YtojoepocppnccaaGreatSvJ
namespace Go.Sv
noncomputable section
open Go.RowKit
variable {P : Program}

/-! ### sets of rows -/
theorem sets_out : ∀ (l : List (Nat × Option Row)) (M : Mem) (n : Nat), n ∉ firsts l → M.sets l n = M n
  | [], _, _, _ => rfl
  | (i, r) :: l, M, n, h => by
    simp only [firsts, List.mem_cons, not_or] at h
    show (M.set i r).sets l n = M n
    rw [sets_out l _ n h.2, Mem.set_ne _ _ h.1]
theorem sets_at : ∀ (l : List (Nat × Option Row)) (M M' : Mem) (n : Nat), (n ∈ firsts l ∨ M n = M' n) → M.sets l n = M'.sets l n
  | [], _, _, n, h => by
    rcases h with h | h
    · cases h
    · exact h
  | (i, r) :: l, M, M', n, h => by
    show (M.set i r).sets l n = (M'.set i r).sets l n
    refine sets_at l _ _ n ?_
    by_cases e : n = i
    · subst e; exact .inr (by rw [Mem.set_same, Mem.set_same])
    · rw [Mem.set_ne _ _ e, Mem.set_ne _ _ e]
      rcases h with h | h
      · simp only [firsts, List.mem_cons] at h
        exact .inl (h.resolve_left e)
      · exact .inr h
/-- What the listed operations leave, in the text's order. -/
def appS (sel : Nat → Bool) : Nat → List Ent → Mem → Mem
  | _, [], M => M
  | i, e :: es, M => appS sel (i + 1) es (bif sel i then M.sets e.eff else M)
theorem appS_congr {sel sel' : Nat → Bool} {n : Nat} : ∀ (es : List Ent) (i : Nat) (M M' : Mem), M n = M' n → (∀ j e, es[j]? = some e → n ∈ firsts e.eff → sel (i + j) = sel' (i + j)) → appS sel i es M n = appS sel' i es M' n
  | [], _, _, _, h, _ => h
  | e :: es, i, M, M', h, hs => by
    simp only [appS]
    refine appS_congr es (i + 1) _ _ ?_ fun j e' hj hn => by
      have := hs (j + 1) e' (by simpa using hj) hn
      rw [show i + (j + 1) = i + 1 + j from by omega] at this
      exact this
    by_cases hn : n ∈ firsts e.eff
    · have := hs 0 e rfl hn
      rw [Nat.add_zero] at this
      rw [this]
      cases sel' i
      · exact h
      · exact sets_at _ _ _ _ (.inl hn)
    · have h1 : ∀ (b : Bool) (M : Mem), (bif b then M.sets e.eff else M) n = M n := fun b M => by
        cases b
        · rfl
        · exact sets_out _ _ _ hn
      rw [h1, h1]; exact h
def setsAll : List Ent → Mem → Mem
  | [], M => M
  | e :: es, M => setsAll es (M.sets e.eff)
theorem appS_none {sel : Nat → Bool} : ∀ (es : List Ent) (i : Nat) (M : Mem), (∀ j, i ≤ j → sel j = false) → appS sel i es M = M
  | [], _, _, _ => rfl
  | e :: es, i, M, h => by
    simp only [appS, h i (Nat.le_refl _), cond_false]
    exact appS_none es _ _ fun j hj => h j (by omega)
theorem appS_take {p : Nat} : ∀ (es : List Ent) (i : Nat) (M : Mem), i ≤ p → appS (fun j => decide (j < p)) i es M = setsAll (es.take (p - i)) M
  | [], i, M, _ => by simp [appS, setsAll]
  | e :: es, i, M, h => by
    by_cases hip : i = p
    · subst hip
      rw [Nat.sub_self, List.take_zero]
      exact appS_none _ _ _ fun j hj => by simp; omega
    · rw [show p - i = (p - (i + 1)) + 1 from by omega, List.take_succ_cons]
      simp only [appS, setsAll]
      rw [decide_eq_true (by omega : i < p), cond_true]
      exact appS_take es (i + 1) _ (by omega)
theorem setsAll_snoc : ∀ (es : List Ent) (e : Ent) (M : Mem), setsAll (es ++ [e]) M = (setsAll es M).sets e.eff
  | [], _, _ => rfl
  | x :: es, e, M => by
    show setsAll (es ++ [e]) (M.sets x.eff) = _
    rw [setsAll_snoc es]; rfl

/-! ### new names -/
def nxs : List Ent → Nat
  | [] => 0
  | e :: es => e.nx + nxs es
theorem nxs_take_le : ∀ (es : List Ent) (p q : Nat) (e : Ent), es[p]? = some e → p < q → nxs (es.take p) + e.nx ≤ nxs (es.take q)
  | [], p, q, e, h, _ => by simp at h
  | x :: es, p, q, e, h, hlt => by
    obtain ⟨q, rfl⟩ : ∃ q', q = q' + 1 := ⟨q - 1, by omega⟩
    cases p with
    | zero =>
      simp at h; subst h
      simp only [List.take_zero, List.take_succ_cons, nxs]; omega
    | succ p =>
      have := nxs_take_le es p q e (by simpa using h) (by omega)
      simp only [List.take_succ_cons, nxs]; omega
theorem nxs_take_all (es : List Ent) (p : Nat) (e : Ent) (h : es[p]? = some e) : nxs (es.take p) + e.nx ≤ nxs es := by
  have hp := (List.getElem?_eq_some_iff.1 h).1
  have := nxs_take_le es p es.length e h hp
  rwa [List.take_length] at this

/-! ### the run in the text's order -/
def Less (E' E : Env) : Prop := ∀ t, E'.get t = E.get t ∨ E'.get t = .any
theorem wantE_at {R : Type} {ops : Array Oper} {o : Oper} {E : Env} {kw ks : Env → Option R} {r : R} (h : wantE ops o E kw ks = some r) :
    ∃ E' b, (if b = true then kw E' else ks E') = some r ∧ Less E' E ∧ ∀ (κ : Kap) (a : Act), (∀ t ∈ o.looksAt ops, VRel κ (E.get t) (a.tmps.getD t undef)) → Region.wanted o (yielded ops a.tmps) = b := by
  unfold wantE at h
  split at h
  · rename_i hg
    exact ⟨E, true, by simpa using h, fun t => .inl rfl, fun κ a hA => by unfold Region.wanted; rw [hg]⟩
  · rename_i j want hg
    split at h
    · rename_i hd
      refine ⟨E, false, by simpa using h, fun t => .inl rfl, fun κ a hA => ?_⟩
      unfold Region.wanted yielded
      rw [hg]
      dsimp only
      rw [hd]; rfl
    · rename_i t hd
      have key : ∀ (a : Act), Region.wanted o (yielded ops a.tmps) = ((match a.tmps[t]? with | some (.bool b) => some b | _ => none) == some want) := by
        intro a
        unfold Region.wanted yielded
        rw [hg]
        dsimp only
        rw [hd]; rfl
      have hmem : t ∈ o.looksAt ops := by unfold Oper.looksAt; refine List.mem_append.2 (.inr ?_); rw [hg]; simp [hd]
      have hless : ∀ v, E.get t = v → Less (E.set t v) E := fun v hv t' => by
        by_cases e : t' = t
        · subst e
          rcases E.get_set_same t' v with h | h
          · exact .inl (h.trans hv.symm)
          · exact .inr h
        · exact .inl (Env.get_set_ne e)
      split at h
      · rename_i b hb
        have hval : ∀ (κ : Kap) (a : Act), (∀ t ∈ o.looksAt ops, VRel κ (E.get t) (a.tmps.getD t undef)) → a.tmps[t]? = some (.bool b) := by
          intro κ a hA
          have := hA t hmem
          rw [hb] at this
          have := bool_of this
          rw [Array.getD_eq_getD_getElem?] at this
          cases he : a.tmps[t]? with
          | none => rw [he] at this; simp [undef] at this
          | some v => rw [he] at this; simpa using this
        cases b with
        | true =>
          simp only [cond_true, Env.setK_eq] at h
          refine ⟨E.set t (.bool true), want, ?_, hless _ hb, fun κ a hA => ?_⟩
          · cases want <;> simpa using h
          · rw [key, hval κ a hA]; cases want <;> rfl
        | false =>
          simp only [cond_false, Env.setK_eq] at h
          refine ⟨E.set t (.bool false), !want, ?_, hless _ hb, fun κ a hA => ?_⟩
          · cases want <;> simpa using h
          · rw [key, hval κ a hA]; cases want <;> rfl
      · rename_i cs hb
        refine ⟨E, false, by simpa using h, fun t => .inl rfl, fun κ a hA => ?_⟩
        rw [key]
        have := hA t hmem
        rw [hb] at this
        have hv : a.tmps.getD t undef = .tuple cs := by
          generalize a.tmps.getD t undef = u at this
          cases this; rfl
        rw [Array.getD_eq_getD_getElem?] at hv
        cases he : a.tmps[t]? with
        | none => rfl
        | some v => rw [he] at hv; simp only [Option.getD_some] at hv; rw [hv]; rfl
      · cases h

def At (P : Program) (ops : Array Oper) (o : Oper) (E : Env) (n : Nat) (M : Mem) (e : Ent) : Prop :=
  ∃ E1 b, Less E1 E ∧ (∀ (κ : Kap) (a : Act), (∀ t ∈ o.looksAt ops, VRel κ (E.get t) (a.tmps.getD t undef)) → Region.wanted o (yielded ops a.tmps) = b) ∧ (b = true → OpOk P o E1 n M e) ∧ (b = false → e = ent0)
/-- What is known of the slots ahead of an operation. -/
def EnvAt (E0 : Env) (ops : List Oper) (es : List Ent) (p : Nat) (E : Env) : Prop :=
  ∀ t, E.get t = .any ∨ (∃ j o e, j < p ∧ ops[j]? = some o ∧ es[j]? = some e ∧ o.dst = some t ∧ E.get t = e.v) ∨ ((∀ j o, j < p → ops[j]? = some o → o.dst ≠ some t) ∧ E.get t = E0.get t)
theorem EnvAt.cons {E E1 Ep : Env} {o : Oper} {ops : List Oper} {e : Ent} {es : List Ent} {p : Nat} (hl : Less E1 E) (h : EnvAt (E1.put o.dst e.v) ops es p Ep) : EnvAt E (o :: ops) (e :: es) (p + 1) Ep := by
  intro t
  rcases h t with h | ⟨j, o', e', h1, h2, h3, h4, h5⟩ | ⟨h1, h2⟩
  · exact .inl h
  · exact .inr (.inl ⟨j + 1, o', e', by omega, by simpa using h2, by simpa using h3, h4, h5⟩)
  · by_cases hd : o.dst = some t
    · rw [hd] at h2
      rcases E1.get_set_same t e.v with h | h
      · exact .inr (.inl ⟨0, o, e, by omega, rfl, rfl, hd, by rw [h2]; exact h⟩)
      · exact .inl (by rw [h2]; exact h)
    · have h3 : (E1.put o.dst e.v).get t = E1.get t := by
        cases hdd : o.dst with
        | none => rfl
        | some d => exact Env.get_set_ne (fun h => hd (by rw [hdd, h]))
      rw [h3] at h2
      rcases hl t with h | h
      · refine .inr (.inr ⟨fun j o' hj ho => ?_, h2.trans h⟩)
        cases j with
        | zero => simp at ho; subst ho; exact hd
        | succ j => exact h1 j o' (by omega) (by simpa using ho)
      · exact .inl (h2.trans h)
theorem call_opOk (hN : NamesOk P) {o : Oper} {E : Env} {g : FuncId} {vs : List AV} (hcal : callee P o E = some (g, vs)) {n : Nat} {M : Mem} {e : Ent} (h : CallEnt P g vs n M e) : OpOk P o E n M e := by
  intro κ a w M' K Q hA hR hrd hfr hK
  obtain ⟨us, hus, hrun⟩ := callee_run hN hcal hA w
  unfold Oper.wp
  rw [hrun, Oper.upon_enter]
  refine (h κ us w M' hus hR hrd hfr).mono fun en w' he => ?_
  obtain ⟨κ', v', a1, a2, rfl, a3, a4, a5⟩ := he
  exact hK κ' v' w' a1 a2 a3 a4 a5
theorem regsE_ok (hZ : ZerosOk P) (hT : FlatOk P) (hN : NamesOk P) {R : Type} {call : CallD R} (hc : CallDOk P call) {ops : Array Oper} :
    ∀ (l : List Oper) (E : Env) (st : AS) (k : Env → AS → List Ent → Option R) (r : R), regsE P call ops l E st k = some r →
    ∃ es E' st', es.length = l.length ∧ k E' st' es = some r ∧ st'.next = st.next + nxs es ∧ find st'.mem = setsAll es (find st.mem) ∧ EnvAt E l es l.length E' ∧
      ∀ p o e, l[p]? = some o → es[p]? = some e → ∃ Ep, EnvAt E l es p Ep ∧ At P ops o Ep (st.next + nxs (es.take p)) (setsAll (es.take p) (find st.mem)) e
  | [], E, st, k, r, h => ⟨[], E, st, rfl, h, rfl, rfl, fun t => .inr (.inr ⟨fun j o hj => by simp at hj, rfl⟩), fun p o e ho => by simp at ho⟩
  | o :: l, E, st, k, r, h => by
    simp only [regsE] at h
    obtain ⟨E1, b, h1, hless, hwant⟩ := wantE_at h
    have fin : ∀ (e : Ent) (st1 : AS), st1.next = st.next + e.nx → find st1.mem = Mem.sets (find st.mem) e.eff → At P ops o E st.next (find st.mem) e →
        regsE P call ops l (E1.put o.dst e.v) st1 (fun E' st' es => k E' st' (e :: es)) = some r →
        ∃ es E' st', es.length = (o :: l).length ∧ k E' st' es = some r ∧ st'.next = st.next + nxs es ∧ find st'.mem = setsAll es (find st.mem) ∧ EnvAt E (o :: l) es (o :: l).length E' ∧
          ∀ p o' e', (o :: l)[p]? = some o' → es[p]? = some e' → ∃ Ep, EnvAt E (o :: l) es p Ep ∧ At P ops o' Ep (st.next + nxs (es.take p)) (setsAll (es.take p) (find st.mem)) e' := by
      intro e st1 hn hm hat h
      obtain ⟨es, E', st', hlen, hk, hn', hm', hE, hall⟩ := regsE_ok hZ hT hN hc l _ st1 _ r h
      refine ⟨e :: es, E', st', by simp [hlen], hk, by simp only [nxs]; omega, by rw [hm', hm]; rfl, hE.cons hless, fun p o' e' ho he => ?_⟩
      cases p with
      | zero =>
        simp at ho he; subst ho; subst he
        exact ⟨E, fun t => .inr (.inr ⟨fun j o hj => by omega, rfl⟩), hat⟩
      | succ p =>
        obtain ⟨Ep, hp1, hp2⟩ := hall p o' e' (by simpa using ho) (by simpa using he)
        refine ⟨Ep, hp1.cons hless, ?_⟩
        simp only [List.take_succ_cons, nxs, setsAll]
        rw [hn, hm, Nat.add_assoc] at hp2
        exact hp2
    cases b with
    | true =>
      simp only [if_true] at h1
      split at h1
      · rename_i g vs hcal
        obtain ⟨e, h2, hs⟩ := hc _ _ _ _ _ (callee_all hcal) h1
        obtain ⟨st1, h3, hn, hm⟩ := applyK_some h2
        rw [putEK_eq] at h3
        exact fin e st1 hn hm ⟨E1, true, hless, hwant, fun _ => call_opOk hN hcal hs, fun h => by cases h⟩ h3
      · obtain ⟨e, h2, hop⟩ := opE_ok hZ hT h1
        obtain ⟨st1, h3, hn, hm⟩ := applyK_some h2
        rw [putEK_eq] at h3
        exact fin e st1 hn hm ⟨E1, true, hless, hwant, fun _ => hop, fun h => by cases h⟩ h3
    | false =>
      simp only [Bool.false_eq_true, if_false, putEK_eq] at h1
      exact fin ent0 st rfl rfl ⟨E1, false, hless, hwant, fun h => by (cases h), fun _ => rfl⟩ h1

/-! ### any order -/
section
variable {ops : Array Oper} {es : List Ent} {E0 : Env} {n0 : Nat} {M0 : Mem}
structure Inv (ops : Array Oper) (es : List Ent) (E0 : Env) (n0 : Nat) (M0 : Mem) (sz : Nat) (κ0 : Kap) (w0 : World) (κ : Kap) (listed : Array Bool) (a : Act) (w : World) : Prop where
  size : listed.size = ops.size
  closed : Closed ops fun i => listed.getD i false = true
  leN : Kap.leN n0 κ0 κ
  le : κ0.le κ
  fresh : ∀ n, n0 + nxs es ≤ n → κ.loc n = none
  newn : ∀ i e, es[i]? = some e → listed.getD i false = false → ∀ n, n0 + nxs (es.take i) ≤ n → n < n0 + nxs (es.take i) + e.nx → κ.loc n = none
  tsize : sz ≤ a.tmps.size
  defers : a.defers = []
  done : ∀ t j o e, ops[j]? = some o → es[j]? = some e → o.dst = some t → listed.getD j false = true → VRel κ e.v (a.tmps.getD t undef)
  todo : ∀ t, (∀ j o, ops[j]? = some o → o.dst = some t → listed.getD j false = false) → VRel κ (E0.get t) (a.tmps.getD t undef)
  mem : MRel κ (appS (fun i => listed.getD i false) 0 es M0) w
  fr : Fr κ0 M0 w0 κ (appS (fun i => listed.getD i false) 0 es M0) w

theorem listed_set {listed : Array Bool} {i j : Nat} (hi : i < listed.size) : (listed.setIfInBounds i true).getD j false = (if i = j then true else listed.getD j false) := by
  by_cases e : i = j
  · subst e; simp [hi]
  · rw [if_neg e]; simp [Array.getD_eq_getD_getElem?, e]

theorem reg_step {sz : Nat} {κ0 : Kap} {w0 : World} (hok : OkOps ops sz) (hlen : es.length = ops.size) (hord : ordOk 0 [] [] ops.toList es = true)
    (hat : ∀ p o e, ops[p]? = some o → es[p]? = some e → ∃ Ep, EnvAt E0 ops.toList es p Ep ∧ At P ops o Ep (n0 + nxs (es.take p)) (setsAll (es.take p) M0) e)
    {Q : Exit → Act → World → Prop} (hQ : ∀ κ listed a w, Inv ops es E0 n0 M0 sz κ0 w0 κ listed a w → (∀ j, j < ops.size → listed.getD j false = true) → Q .normal a w) :
    ∀ (fuel : Nat) (listed : Array Bool) (a : Act) (w : World) (κ : Kap), Inv ops es E0 n0 M0 sz κ0 w0 κ listed a w → (listed.toList.filter (fun b => !b)).length = fuel → wpAny P .any ops Q fuel listed a w := by
  have hords := ordOk_spec (ops := ops) (all := es) ops.toList es 0 [] [] hord (fun q => by simp) (fun q => by simp) (by simp [hlen]) (fun S _ x hx => by omega) (fun j e hj => by omega)
  intro fuel
  have hall : ∀ (listed : Array Bool) (a : Act) (w : World) (κ : Kap), Inv ops es E0 n0 M0 sz κ0 w0 κ listed a w → Region.ready .any ops listed = [] → ∀ j, j < ops.size → listed.getD j false = true := by
    intro listed a w κ hI hr j
    induction j using Nat.strongRecOn with
    | _ j ih =>
      intro hj
      cases hl : listed.getD j false with
      | true => rfl
      | false =>
        have ho : ops[j]? = some ops[j] := by simp [hj]
        have : j ∈ Region.ready .any ops listed := by
          rw [mem_ready]
          have hjs : j < listed.size := by rw [hI.size]; exact hj
          refine ⟨by simp [hjs] at hl ⊢; exact hl, _, ho, fun e he hb => ?_⟩
          have := hok.edges j _ ho e he hb
          exact ih e.on this (by omega)
        rw [hr] at this
        cases this
  induction fuel with
  | zero =>
    intro listed a w κ hI hcnt
    have hl : ∀ j, j < ops.size → listed.getD j false = true := by
      intro j hj
      have hjs : j < listed.size := by rw [hI.size]; exact hj
      cases hb : listed.getD j false with
      | true => rfl
      | false =>
        exfalso
        have hmem : false ∈ listed.toList.filter (fun b => !b) := by
          rw [List.mem_filter]
          refine ⟨?_, rfl⟩
          simp [hjs] at hb
          rw [← hb]; simp
        rw [List.length_eq_zero_iff.1 hcnt] at hmem
        cases hmem
    refine ⟨?_, hQ κ listed a w hI hl⟩
    cases hr : Region.ready .any ops listed with
    | nil => rfl
    | cons i is =>
      exfalso
      have hi : i ∈ Region.ready .any ops listed := by rw [hr]; exact List.mem_cons_self ..
      obtain ⟨h1, o, ho, _⟩ := mem_ready.1 hi
      have hio := (Array.getElem?_eq_some_iff.1 ho).1
      have := hl i hio
      have his : i < listed.size := by rw [hI.size]; exact hio
      simp [his] at h1 this
      rw [h1] at this; cases this
  | succ fuel ih =>
    intro listed a w κ hI hcnt
    refine ⟨fun hr => hQ κ listed a w hI (hall listed a w κ hI hr), fun i hi => ?_⟩
    obtain ⟨hiun, o, ho, hedges⟩ := mem_ready.1 hi
    have hio := (Array.getElem?_eq_some_iff.1 ho).1
    have his : i < listed.size := by rw [hI.size]; exact hio
    have hif : listed.getD i false = false := by simp [his] at hiun ⊢; exact hiun
    have hie : i < es.length := by rw [hlen]; exact hio
    have he : es[i]? = some es[i] := by simp [hie]
    generalize es[i] = e at he
    have hcnt' : ((listed.setIfInBounds i true).toList.filter (fun b => !b)).length = fuel := by
      have hsplit : listed.toList = listed.toList.take i ++ false :: listed.toList.drop (i + 1) := by
        have h1 : listed.toList[i]? = some false := by simp [his] at hif ⊢; exact hif
        have h2 := List.drop_eq_getElem_cons (l := listed.toList) (i := i) (by simpa using his)
        have h3 : listed.toList[i]'(by simpa using his) = false := by
          have := List.getElem?_eq_getElem (l := listed.toList) (i := i) (by simpa using his)
          rw [h1] at this; exact (Option.some.inj this).symm
        rw [h3] at h2
        rw [← h2, List.take_append_drop]
      have hset : (listed.setIfInBounds i true).toList = listed.toList.take i ++ true :: listed.toList.drop (i + 1) := by
        rw [Array.toList_setIfInBounds, List.set_eq_take_append_cons_drop, if_pos (by simpa using his)]
      rw [hsplit] at hcnt
      rw [hset]
      simp only [List.filter_append, List.filter_cons, Bool.not_false, if_true, List.length_append, List.length_cons] at hcnt
      simp only [List.filter_append, List.filter_cons, Bool.not_true, Bool.false_eq_true, if_false, List.length_append]
      omega
    have hsize' : (listed.setIfInBounds i true).size = ops.size := by simp [hI.size]
    obtain ⟨Ep, hE, E1, b, hless, hwant, hop, hno⟩ := hat i o e ho he
    -- the slots that it looks at
    have hslots : ∀ t ∈ o.looksAt ops, VRel κ (Ep.get t) (a.tmps.getD t undef) := fun t ht => by
      rcases hE t with h | ⟨j, o', e', h1, h2, h3, h4, h5⟩ | ⟨h1, h2⟩
      · rw [h]; exact vrel_any κ _
      · rw [h5]
        have ho' : ops[j]? = some o' := by simpa using h2
        rcases hok.looks i o ho t ht j o' ho' h4 with ⟨_, d, hd, hb, rfl⟩ | ⟨hlt, _⟩
        · exact hI.done t _ o' e' ho' h3 h4 (hedges d hd hb)
        · omega
      · rw [h2]
        refine hI.todo t fun j o' ho' hd => ?_
        rcases hok.looks i o ho t ht j o' ho' hd with ⟨hlt, _⟩ | ⟨hlt, d, hd', hb, hon⟩
        · exact absurd hd (h1 j o' hlt (by simpa using ho'))
        · cases hl : listed.getD j false with
          | false => rfl
          | true =>
            have := hI.closed j o' ho' hl d (by simpa using hd') hb
            rw [hon, hif] at this; cases this
    have hslots1 : ∀ t ∈ o.looksAt ops, VRel κ (E1.get t) (a.tmps.getD t undef) := fun t ht => by
      rcases hless t with h | h
      · rw [h]; exact hslots t ht
      · rw [h]; exact vrel_any κ _
    have hon : AOn κ o E1 a := by
      intro x hx v hv
      cases x with
      | tmp t =>
        simp only [aeval, Option.some.injEq] at hv
        subst hv
        exact hslots1 t (by unfold Oper.looksAt; exact List.mem_append.2 (.inl (List.mem_filterMap.2 ⟨.tmp t, by simpa using hx, rfl⟩)))
      | const c => exact ofV_ok hv
      | global g => simp [aeval] at hv
      | func f => simp only [aeval, Option.some.injEq] at hv; subst hv; exact .fn f [] [] [] [] .nil .nil .nil
    have hsel : (fun j => (listed.setIfInBounds i true).getD j false) = fun j => if i = j then true else listed.getD j false := funext fun j => listed_set his
    -- the writers of a row that it touches
    have hwr : ∀ n, (n ∈ e.rd ∨ n ∈ firsts e.eff) → ∀ j e', es[j]? = some e' → n ∈ firsts e'.eff → j ≠ i → listed.getD j false = decide (j < i) := by
      intro n hn j e' hj hnj hji
      have hjo : j < ops.size := by have := (List.getElem?_eq_some_iff.1 hj).1; omega
      rcases Nat.lt_or_ge j i with hlt | hge
      · rw [decide_eq_true hlt]
        refine hords i o e (Nat.zero_le _) ho he j e' hlt hj ?_ _ hI.closed (fun d hd hb => hedges d (by simpa using hd) hb)
        unfold clash
        rcases hn with hn | hn
        · rw [meets_of hnj hn]; rfl
        · rw [meets_of hnj hn]; simp
      · rw [decide_eq_false (by omega)]
        cases hl : listed.getD j false with
        | false => rfl
        | true =>
          exfalso
          have hjo' : ops[j]? = some ops[j] := by simp [hjo]
          have := hords j _ e' (Nat.zero_le _) hjo' hj i e (by omega) he (by
            unfold clash
            rcases hn with hn | hn
            · rw [meets_of hn hnj]; simp
            · rw [meets_of hn hnj]; simp) _ hI.closed (hI.closed j _ hjo' hl)
          rw [hif] at this; cases this
    have hread : ∀ n ∈ e.rd, appS (fun j => listed.getD j false) 0 es M0 n = setsAll (es.take i) M0 n := fun n hn => by
      have h1 : appS (fun j => listed.getD j false) 0 es M0 n = appS (fun j => decide (j < i)) 0 es M0 n := appS_congr es 0 M0 M0 rfl fun j e' hj hnj => by
        rw [Nat.zero_add]
        by_cases hji : j = i
        · subst hji; rw [hif]; simp
        · exact hwr n (.inl hn) j e' hj hnj hji
      rw [h1, appS_take es 0 M0 (Nat.zero_le _)]; rfl
    have hwrite : ∀ n, appS (fun j => (listed.setIfInBounds i true).getD j false) 0 es M0 n = Mem.sets (appS (fun j => listed.getD j false) 0 es M0) e.eff n := fun n => by
      by_cases hn : n ∈ firsts e.eff
      · have h1 : appS (fun j => (listed.setIfInBounds i true).getD j false) 0 es M0 n = appS (fun j => decide (j < i + 1)) 0 es M0 n := appS_congr es 0 M0 M0 rfl fun j e' hj hnj => by
          rw [Nat.zero_add, listed_set his]
          by_cases hji : i = j
          · subst hji; simp
          · rw [if_neg hji, hwr n (.inr hn) j e' hj hnj (Ne.symm hji)]
            rcases Nat.lt_or_ge j i with h | h
            · rw [decide_eq_true h, decide_eq_true (by omega)]
            · rw [decide_eq_false (by omega), decide_eq_false (by omega)]
        rw [h1, appS_take es 0 M0 (Nat.zero_le _), Nat.sub_zero, List.take_add_one, he]
        show setsAll (List.take i es ++ [e]) M0 n = _
        rw [setsAll_snoc]
        exact sets_at _ _ _ _ (.inl hn)
      · rw [sets_out _ _ _ hn]
        refine appS_congr es 0 M0 M0 rfl fun j e' hj hnj => ?_
        rw [Nat.zero_add, listed_set his, if_neg]
        rintro rfl
        rw [he] at hj; obtain rfl := Option.some.inj hj
        exact hn hnj
    have hwrite' := funext hwrite
    have hstep : ∀ κ' v' w', κ.le κ' → (∀ n, n < n0 + nxs (es.take i) ∨ n0 + nxs (es.take i) + e.nx ≤ n → κ'.loc n = κ.loc n) → VRel κ' e.v v' →
        MRel κ' (Mem.sets (appS (fun j => listed.getD j false) 0 es M0) e.eff) w' → Fr κ (appS (fun j => listed.getD j false) 0 es M0) w κ' (Mem.sets (appS (fun j => listed.getD j false) 0 es M0) e.eff) w' →
        wpAny P .any ops Q fuel (listed.setIfInBounds i true) (a.put o.dst v') w' := by
      intro κ' v' w' hle hloc hv hR hF
      have hget : ∀ t, (a.put o.dst v').tmps.getD t undef = if o.dst = some t then (if t < a.tmps.size then v' else a.tmps.getD t undef) else a.tmps.getD t undef := fun t => by
        cases hd : o.dst with
        | none => simp [Act.put]
        | some d =>
          simp only [Act.put, getD_set, Option.some.injEq]
          by_cases e : d = t
          · subst e
            by_cases h2 : d < a.tmps.size
            · simp [h2]
            · simp [h2]
          · simp [e]
      refine ih _ _ w' κ' ⟨hsize', ?_, ?_, ?_, ?_, ?_, ?_, ?_, ?_, ?_, ?_, ?_⟩ hcnt'
      · intro x ox hox hx d hd hb
        rw [listed_set his] at hx ⊢
        by_cases hxi : i = x
        · subst hxi
          rw [ho] at hox; obtain rfl := Option.some.inj hox
          by_cases h : i = d.on
          · rw [if_pos h]
          · rw [if_neg h]; exact hedges d (by simpa using hd) hb
        · rw [if_neg hxi] at hx
          by_cases h : i = d.on
          · rw [if_pos h]
          · rw [if_neg h]; exact hI.closed x ox hox hx d hd hb
      · exact ⟨fun n hn => by rw [hloc n (.inl (by omega)), hI.leN.loc n hn], fun b cs h => hle.st b cs (hI.le.st b cs h), hle.gh.trans hI.le.gh, fun b s h => hle.sz b s (hI.le.sz b s h)⟩
      · exact Kap.le_trans hI.le hle
      · intro n hn
        have := nxs_take_all es i e he
        rw [hloc n (.inr (by omega))]
        exact hI.fresh n hn
      · intro x ex hex hx n h1 h2
        rw [listed_set his] at hx
        by_cases hxi : i = x
        · rw [if_pos hxi] at hx; cases hx
        · rw [if_neg hxi] at hx
          rw [hloc n ?_]
          · exact hI.newn x ex hex hx n h1 h2
          · rcases Nat.lt_or_ge i x with h | h
            · have := nxs_take_le es i x e he h
              exact .inr (by omega)
            · have := nxs_take_le es x i ex hex (by omega)
              exact .inl (by omega)
      · cases hd : o.dst with
        | none => exact hI.tsize
        | some d => simp [Act.put]; exact hI.tsize
      · cases hd : o.dst <;> exact hI.defers
      · intro t j o' e' ho' he' hd hl
        rw [hget]
        rw [listed_set his] at hl
        by_cases hij : i = j
        · subst hij
          rw [ho] at ho'; obtain rfl := Option.some.inj ho'
          rw [he] at he'; obtain rfl := Option.some.inj he'
          have hlt : t < a.tmps.size := Nat.lt_of_lt_of_le (hok.dst i o ho t hd) hI.tsize
          rw [if_pos hd, if_pos hlt]
          exact hv
        · rw [if_neg hij] at hl
          rw [if_neg (fun h => hij (hok.uniq i j o o' ho ho' t h hd))]
          exact (hI.done t j o' e' ho' he' hd hl).mono hle
      · intro t ht
        have hnd : o.dst ≠ some t := fun h => by
          have := ht i o ho h
          rw [listed_set his, if_pos rfl] at this; cases this
        rw [hget, if_neg hnd]
        refine (hI.todo t fun j o' ho' hd => ?_).mono hle
        have := ht j o' ho' hd
        rw [listed_set his] at this
        by_cases hij : i = j
        · rw [if_pos hij] at this; cases this
        · rw [if_neg hij] at this; exact this
      · rw [hwrite']; exact hR
      · rw [hwrite']; exact hI.fr.trans hF
    unfold wpOp
    rw [ho]
    dsimp only
    rw [hwant κ a hslots]
    cases b with
    | true =>
      rw [if_pos rfl]
      exact .inl (hop rfl κ a w _ _ Q hon hI.mem hread (fun n h1 h2 => hI.newn i e he hif n h1 h2) hstep)
    | false =>
      rw [if_neg (by simp)]
      have := hno rfl
      subst this
      exact hstep κ undef w ⟨fun _ _ h => h, fun _ _ h => h, rfl, fun _ _ h => h⟩ (fun _ _ => rfl) (.raw undef .nil) hI.mem (Fr.refl _ _ _)
end

theorem regB_ok (hP : ProgOk P) (hr : RegsOk P) : RegOk P (regB P) := by
  intro R call hc g id ops hmem E st k r h
  unfold regB at h
  obtain ⟨es, E', st', hlen, h1, hn, hm, hE, hat⟩ := regsE_ok hP.zeros hP.flat hP.names hc _ _ _ _ _ h
  obtain ⟨hord, h2⟩ := cond_some h1
  have hlen' : es.length = ops.size := by simpa using hlen
  have hok := okOps (hr g id ops hmem)
  refine ⟨E', st', h2, by omega, fun κ a w hA hR => ?_⟩
  refine wp_region_any hP.orders ?_
  refine reg_step (P := P) (ops := ops) (es := es) (E0 := E) (n0 := st.next) (M0 := find st.mem) (sz := szOf P g) (κ0 := κ) (w0 := w) hok hlen' hord (fun p o e ho he => hat p o e (by simpa using ho) he) ?_ ops.size _ a _ κ ?_ ?_
  · intro κ' listed a' w' hI hall
    have hmemall : appS (fun i => listed.getD i false) 0 es (find st.mem) = find st'.mem := by
      rw [hm]
      have : appS (fun i => listed.getD i false) 0 es (find st.mem) = appS (fun j => decide (j < es.length)) 0 es (find st.mem) := funext fun n => appS_congr es 0 _ _ rfl fun j e hj _ => by
        have := (List.getElem?_eq_some_iff.1 hj).1
        rw [Nat.zero_add, hall j (by omega)]
        simp [this]
      rw [this, appS_take es 0 _ (Nat.zero_le _), Nat.sub_zero, List.take_length]
    refine ⟨rfl, κ', hI.leN, ⟨⟨fun t => ?_, hI.defers⟩, hI.tsize⟩, ⟨fun n hn' => hI.fresh n (by omega), ?_⟩, ?_⟩
    · rcases hE t with h | ⟨j, o', e', h1, h2, h3, h4, h5⟩ | ⟨h1, h2⟩
      · rw [h]; exact vrel_any κ' _
      · rw [h5]
        have ho' : ops[j]? = some o' := by simpa using h2
        have hj := (Array.getElem?_eq_some_iff.1 ho').1
        exact hI.done t j o' e' ho' h3 h4 (hall j hj)
      · rw [h2]
        refine hI.todo t fun j o' ho' hd => ?_
        have hj := (Array.getElem?_eq_some_iff.1 ho').1
        exact absurd hd (h1 j o' (by simpa using hj) (by simpa using ho'))
    · rw [← hmemall]; exact hI.mem
    · rw [← hmemall]; exact hI.fr
  · have hrep : ∀ j, (Array.replicate ops.size false).getD j false = false := fun j => by
      simp only [Array.getD_eq_getD_getElem?]
      cases hx : (Array.replicate ops.size false)[j]? with
      | none => rfl
      | some b =>
        obtain ⟨h1, h2⟩ := Array.getElem?_eq_some_iff.1 hx
        simp at h2; rw [← h2]; rfl
    have hnil : appS (fun i => (Array.replicate ops.size false).getD i false) 0 es (find st.mem) = find st.mem := appS_none _ _ _ fun j _ => hrep j
    refine ⟨by simp, fun i o ho hl => ?_, Kap.leN_refl _ _, ⟨fun _ _ h => h, fun _ _ h => h, rfl, fun _ _ h => h⟩, fun n hn => hR.fresh n (by omega), fun i e he _ n h1 h2 => hR.fresh n (by omega), hA.size, hA.rel.defers, fun t j o e ho he hd hl => ?_, fun t _ => hA.rel.get t, ?_, ?_⟩
    · exact absurd (hl.symm.trans (hrep i)) (by simp)
    · rw [hrep] at hl; cases hl
    · rw [hnil]; exact hR.mem.heap rfl
    · rw [hnil]; exact ⟨fun _ _ h => .inl h, rfl, rfl, rfl, Nat.le_refl _, fun _ _ _ => rfl, fun _ _ h => h⟩
  · simp
end
end Go.Sv
