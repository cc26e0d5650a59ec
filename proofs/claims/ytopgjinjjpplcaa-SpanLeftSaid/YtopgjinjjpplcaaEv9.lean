/- An evaluator for the model's code over an abstract memory, tenth part: statements that draw their order are sound. -/
import Derived.Test.YtopgjinjjpplcaaEv8
namespace Go.Ev
open Go.RowKit
variable {P : Program}

theorem disj_spec {a b c d : Nat} (h : disj a b c d = true) : a + b ≤ c ∨ c + d ≤ a := by
  unfold disj at h
  rw [Bool.or_eq_true] at h
  exact h.imp Nat.le_of_ble_eq_true Nat.le_of_ble_eq_true

theorem setOk1_spec {base i n off len : Nat} : ∀ (es : List Ent), setOk1 base i n off len es = true → ∀ (q : Nat) (e : Ent), es[q]? = some e → ∀ n' off' vs', e.eff = .set n' off' vs' → n ≠ n' ∨ off + len ≤ off' ∨ off' + vs'.length ≤ off
  | [], _, q, e, hq, _, _, _, _ => by simp at hq
  | e0 :: es, h, q, e, hq, n', off', vs', he => by
    simp only [setOk1, Bool.and_eq_true] at h
    cases q with
    | zero =>
      simp at hq; subst hq
      have h1 := h.1
      rw [he] at h1
      simp only [Bool.or_eq_true, Bool.not_eq_true'] at h1
      rcases h1 with h1 | h1
      · left; rintro rfl; rw [beqT] at h1; cases h1
      · right; exact disj_spec h1
    | succ q => exact setOk1_spec es h.2 q e (by simpa using hq) n' off' vs' he

theorem setsOk_spec {base : Nat} {m : List (Nat × Row)} {all : List Ent} : ∀ (es : List Ent) (i : Nat), setsOk base m all i es = true → ∀ (q : Nat) (e : Ent), es[q]? = some e → ∀ n off vs, e.eff = .set n off vs →
    (∀ (p : Nat) (e' : Ent), q < p → es[p]? = some e' → ∀ n' off' vs', e'.eff = .set n' off' vs' → n ≠ n' ∨ off + vs.length ≤ off' ∨ off' + vs'.length ≤ off) ∧ fits base m all n off vs.length = true ∧ n < base + (i + q)
  | [], _, _, q, e, hq, _, _, _, _ => by simp at hq
  | e0 :: es, i, h, q, e, hq, n, off, vs, he => by
    simp only [setsOk, Bool.and_eq_true] at h
    cases q with
    | zero =>
      simp at hq; subst hq
      have h1 := h.1
      rw [he] at h1
      simp only [Bool.and_eq_true] at h1
      refine ⟨fun p e' hp hp' n' off' vs' he' => ?_, h1.2.1, by have := h1.2.2; simpa [Nat.blt_eq] using this⟩
      obtain ⟨p, rfl⟩ : ∃ x, p = x + 1 := ⟨p - 1, by omega⟩
      exact setOk1_spec es h1.1 p e' (by simpa using hp') n' off' vs' he'
    | succ q =>
      obtain ⟨a, b, c⟩ := setsOk_spec es (i + 1) h.2 q e (by simpa using hq) n off vs he
      refine ⟨fun p e' hp hp' => ?_, b, by omega⟩
      obtain ⟨p, rfl⟩ : ∃ x, p = x + 1 := ⟨p - 1, by omega⟩
      exact a p e' (by omega) (by simpa using hp')

theorem readsOk_spec {es : List Ent} (h : readsOk es = true) {e e' : Ent} (he : e ∈ es) (he' : e' ∈ es) {n off : Nat} {vs : List Value} (hr : e.rd = some n) (hs : e'.eff = .set n off vs) : False := by
  unfold readsOk at h
  rw [List.all_eq_true] at h
  have := h e he
  rw [hr] at this
  simp only [Bool.not_eq_true'] at this
  unfold isSet at this
  rw [List.any_eq_false] at this
  have h2 := this e' he'
  rw [hs] at h2
  exact h2 (beqT _)

/-! ### a row that no store meets is as it was -/
theorem app1_keep {base i : Nat} {e : Ent} {m : List (Nat × Row)} {n : Nat} (hn : n ≠ base + i) (hs : ∀ off vs, e.eff ≠ .set n off vs) : find (app1 base i e m) n = find m n := by
  rw [find_app1]
  cases he : e.eff with
  | none => rfl
  | new s c => simp only [if_neg hn]
  | set n' off vs =>
    have : n ≠ n' := fun h => by subst h; exact hs off vs he
    simp only [if_neg this]

theorem appL_keep {base : Nat} {listed : Array Bool} {n : Nat} : ∀ (es : List Ent) (i : Nat) (m : List (Nat × Row)), (∀ j, i ≤ j → n ≠ base + j) → (∀ e ∈ es, ∀ off vs, e.eff ≠ .set n off vs) → find (appL base listed i es m) n = find m n
  | [], _, _, _, _ => rfl
  | e :: es, i, m, hn, hs => by
    simp only [appL]
    rw [appL_keep es (i + 1) _ (fun j hj => hn j (by omega)) fun e' he' => hs e' (List.mem_cons_of_mem _ he')]
    cases listed.getD i false
    · rfl
    · exact app1_keep (hn i (Nat.le_refl _)) (hs e (List.mem_cons_self ..))

theorem MRel.one {ι : Inj} {B : Nat} {m : List (Nat × Row)} {w : World} (h : MRel ι B m w) {n : Nat} {row : Row} (hn : find m n = some row) : MRel ι B [(n, row)] w := by
  have hf : ∀ n' r, find [(n, row)] n' = some r → n' = n ∧ r = row := fun n' r hr => by
    simp only [find] at hr
    cases e : Nat.beq n n'
    · simp [e] at hr
    · simp only [e, cond_true, Option.some.injEq] at hr; exact ⟨(Nat.eq_of_beq_eq_true e).symm, hr.symm⟩
  refine ⟨h.low, fun n' r hr => ?_, fun a b r r' l l' ha hb hne => ?_⟩
  · obtain ⟨rfl, rfl⟩ := hf n' r hr; exact h.row _ _ hn
  · exact absurd ((hf a r ha).1.trans (hf b r' hb).1.symm) hne

/-! ### the state behind some of the operations -/
structure Inv (P : Program) (ops : Array Oper) (A0 : Act) (base : Nat) (m0 : List (Nat × Row)) (es : List Ent) (B : Nat) (ι0 : Inj) (w0 : World) (ι : Inj) (listed : Array Bool) (a : Act) (w : World) : Prop where
  size : listed.size = ops.size
  le : Inj.le ι0 ι
  defers : a.defers = []
  tsize : a.tmps.size = A0.tmps.size
  done : ∀ t (j : Nat) (o : Oper) (e : Ent), ops[j]? = some o → es[j]? = some e → o.dst = some t → listed.getD j false = true → VRel ι e.v (a.tmps.getD t undef)
  todo : ∀ t, (∀ (j : Nat) (o : Oper), ops[j]? = some o → o.dst = some t → listed.getD j false = false) → VRel ι (A0.tmps.getD t undef) (a.tmps.getD t undef)
  below : Below B w0 w
  fresh : ∀ n, base + ops.size ≤ n → ι n = none
  newn : ∀ j, j < ops.size → listed.getD j false = false → ι (base + j) = none
  sets : ∀ (j : Nat) (e : Ent) n off vs, es[j]? = some e → e.eff = .set n off vs → listed.getD j false = true → ι n ≠ none
  mem : MRel ι B (appL base listed 0 es m0) w

variable {ops : Array Oper} {A0 : Act} {base : Nat} {m0 : List (Nat × Row)} {es : List Ent} {B : Nat} {ι0 : Inj} {w0 : World}

/-- The slots behind one operation more. -/
theorem slots_step {ι ι' : Inj} {listed : Array Bool} {a : Act} {w : World} (hI : Inv P ops A0 base m0 es B ι0 w0 ι listed a w) (hok : OkOps ops A0.tmps.size) (hle : Inj.le ι ι') {i : Nat} {o : Oper} {e : Ent} (ho : ops[i]? = some o) (he : es[i]? = some e)
    (hi : listed.getD i false = false) {v' : Value} (hv : VRel ι' e.v v') :
    (a.put o.dst v').defers = [] ∧ (a.put o.dst v').tmps.size = A0.tmps.size ∧
    (∀ t (j : Nat) (p : Oper) (e' : Ent), ops[j]? = some p → es[j]? = some e' → p.dst = some t → (listed.setIfInBounds i true).getD j false = true → VRel ι' e'.v ((a.put o.dst v').tmps.getD t undef)) ∧
    (∀ t, (∀ (j : Nat) (p : Oper), ops[j]? = some p → p.dst = some t → (listed.setIfInBounds i true).getD j false = false) → VRel ι' (A0.tmps.getD t undef) ((a.put o.dst v').tmps.getD t undef)) := by
  have hlt : i < listed.size := by rw [hI.size]; exact (Array.getElem?_eq_some_iff.1 ho).1
  have hgi : (listed.setIfInBounds i true).getD i false = true := by simp [hlt]
  have hget : ∀ t, (a.put o.dst v').tmps.getD t undef = if o.dst = some t then v' else a.tmps.getD t undef := fun t => by
    cases hd : o.dst with
    | none => simp [Act.put]
    | some d =>
      have hdl := hok.dst i o ho d hd
      simp only [Act.put, getD_set, Option.some.injEq]
      by_cases e : d = t
      · subst e; rw [if_pos ⟨rfl, by rw [hI.tsize]; exact hdl⟩, if_pos rfl]
      · rw [if_neg (fun h => e h.1), if_neg e]
  refine ⟨by cases o.dst <;> exact hI.defers, by cases o.dst <;> simp [Act.put, hI.tsize], fun t j p e' hp hee hd hl => ?_, fun t h => ?_⟩
  · rw [hget]
    by_cases hij : i = j
    · subst hij
      rw [ho] at hp; obtain rfl := Option.some.inj hp
      rw [he] at hee; obtain rfl := Option.some.inj hee
      rw [if_pos hd]; exact hv
    · have hno : o.dst ≠ some t := fun h => hij (hok.uniq i j o p ho hp t h hd)
      rw [if_neg hno]
      rw [getD_set_ne false hij] at hl
      exact (hI.done t j p e' hp hee hd hl).mono hle
  · have hno : o.dst ≠ some t := fun hd => by have := h i o ho hd; rw [hgi] at this; cases this
    rw [hget, if_neg hno]
    refine (hI.todo t fun j p hp hd => ?_).mono hle
    by_cases hij : i = j
    · subst hij; exact hi
    · have := h j p hp hd; rw [getD_set_ne false hij] at this; exact this

/-- What an operation that is ready looks at is as in the text's order. -/
theorem slot_lex {ι : Inj} {listed : Array Bool} {a : Act} {w : World} (hI : Inv P ops A0 base m0 es B ι0 w0 ι listed a w) (hok : OkOps ops A0.tmps.size) (hlen : es.length = ops.size) {i : Nat} {o : Oper} (ho : ops[i]? = some o)
    (hready : ∀ e ∈ o.after, Region.binds .any e = true → listed.getD e.on false = true) {t : Tmp} (ht : t ∈ o.looksAt ops) :
    VRel ι ((putAll (ops.toList.take i) (es.take i) A0).tmps.getD t undef) (a.tmps.getD t undef) := by
  by_cases hex : ∃ (j : Nat) (p : Oper), ops[j]? = some p ∧ p.dst = some t
  · obtain ⟨j, p, hp, hd⟩ := hex
    obtain ⟨hlt, e, hea, heb, hon⟩ := hok.looks i o ho t ht j p hp hd
    have hl := hready e hea heb
    rw [hon] at hl
    have hj : j < es.length := by rw [hlen]; exact (Array.getElem?_eq_some_iff.1 hp).1
    have hpe : es[j]? = some es[j] := by simp [hj]
    rw [putAll_at (ops.toList.take i) (es.take i) A0 t j p es[j] (by rw [List.getElem?_take, if_pos hlt]; simpa using hp) (by rw [List.getElem?_take, if_pos hlt]; exact hpe) hd (hok.dst j p hp t hd)
      (fun q o' hq hd' => by
        rw [List.getElem?_take] at hq
        split at hq
        · exact hok.uniq q j o' p (by simpa using hq) hp t hd' hd
        · cases hq)]
    exact hI.done t j p _ hp hpe hd hl
  · rw [putAll_other _ _ _ t fun p hp hd => by
      obtain ⟨q, hq⟩ := List.getElem?_of_mem hp
      rw [List.getElem?_take] at hq
      split at hq
      · exact hex ⟨q, p, by simpa using hq, hd⟩
      · cases hq]
    exact hI.todo t fun j p hp hd => absurd ⟨j, p, hp, hd⟩ hex

theorem on_of_slots {ι : Inj} {o : Oper} {A a : Act} (h : ∀ t ∈ o.looksAt ops, VRel ι (A.tmps.getD t undef) (a.tmps.getD t undef)) : AOn ι o A a := by
  intro x hx v hv
  cases x with
  | tmp t =>
    simp only [aeval, Option.some.injEq, getE_eq] at hv
    subst hv
    refine h t ?_
    unfold Oper.looksAt
    refine List.mem_append.2 (.inl ?_)
    exact List.mem_filterMap.2 ⟨.tmp t, by simpa using hx, rfl⟩
  | const c =>
    simp only [aeval] at hv
    cases hp : plain c
    · simp [hp] at hv
    · simp only [hp, cond_true, Option.some.injEq] at hv; subst hv; exact .plain _ hp
  | global g => simp [aeval] at hv
  | func f => simp only [aeval, Option.some.injEq] at hv; subst hv; exact .plain _ rfl

theorem wanted_lex {ι : Inj} {o : Oper} {A a : Act} (hs : A.tmps.size = a.tmps.size) (h : ∀ t ∈ o.looksAt ops, VRel ι (A.tmps.getD t undef) (a.tmps.getD t undef)) : Region.wanted o (yielded ops a.tmps) = Region.wanted o (yielded ops A.tmps) := by
  unfold Region.wanted
  cases hg : o.guard with
  | none => rfl
  | some gw =>
    obtain ⟨j, want⟩ := gw
    have : yielded ops a.tmps j = yielded ops A.tmps j := by
      unfold yielded
      cases hd : (ops[j]?).bind (·.dst) with
      | none => rfl
      | some t =>
        have hv := h t (by unfold Oper.looksAt; refine List.mem_append.2 (.inr ?_); rw [hg]; simp [hd])
        simp only [Option.bind_some]
        by_cases hlt : t < A.tmps.size
        · have hlt' : t < a.tmps.size := hs ▸ hlt
          simp only [Array.getD_eq_getD_getElem?, Array.getElem?_eq_getElem hlt, Array.getElem?_eq_getElem hlt', Option.getD_some] at hv ⊢
          generalize A.tmps[t] = x at hv
          generalize a.tmps[t] = y at hv
          cases y with
          | bool b => rw [vrel_bool hv]
          | _ =>
            cases x with
            | bool b => have := hv.eq_of_plain rfl; cases this
            | _ => rfl
        · have hlt' : ¬ t < a.tmps.size := hs ▸ hlt
          rw [Array.getElem?_eq_none (Nat.le_of_not_lt hlt), Array.getElem?_eq_none (Nat.le_of_not_lt hlt')]
    dsimp only
    rw [this]

structure Chk (base : Nat) (m0 : List (Nat × Row)) (es : List Ent) : Prop where
  sets : setsOk base m0 es 0 es = true
  reads : readsOk es = true

/-- The stores that stand behind an operation in the text do not touch what it does. -/
theorem comm_of {ι : Inj} {listed : Array Bool} {a : Act} {w : World} (hI : Inv P ops A0 base m0 es B ι0 w0 ι listed a w) (hch : Chk base m0 es) {i : Nat} {e : Ent} (he : es[i]? = some e) (hi : listed.getD i false = false) (hib : i < ops.size) :
    ∀ (j : Nat) (e' : Ent), es[j]? = some e' → i < 0 + j → listed.getD (0 + j) false = true → Comm base i e (0 + j) e' := by
  intro j e' hj hlt hl
  rw [Nat.zero_add] at hlt hl ⊢
  unfold Comm
  cases hee : e.eff with
  | none => cases e'.eff <;> trivial
  | new s c =>
    cases hee' : e'.eff with
    | none => trivial
    | new s' c' => dsimp only; omega
    | set n off vs =>
      dsimp only
      rintro rfl
      exact hI.sets j e' _ _ _ hj hee' hl (hI.newn i hib hi)
  | set n off vs =>
    obtain ⟨h1, _, h3⟩ := setsOk_spec es 0 hch.sets i e he n off vs hee
    cases hee' : e'.eff with
    | none => trivial
    | new s' c' => dsimp only; omega
    | set n' off' vs' => exact h1 j e' hlt hj n' off' vs' hee'

theorem reg_step (hok : OkOps ops A0.tmps.size) (hlen : es.length = ops.size) (hch : Chk base m0 es) (hat : ∀ (p : Nat) (o : Oper) (e : Ent), ops[p]? = some o → es[p]? = some e → At P ops base m0 p o (putAll (ops.toList.take p) (es.take p) A0) e)
    (hm0 : ∀ n row, find m0 n = some row → n < base) {Q : Exit → Act → World → Prop} (hQ : ∀ ι listed a w, Inv P ops A0 base m0 es B ι0 w0 ι listed a w → (∀ j, j < ops.size → listed.getD j false = true) → Q .normal a w) :
    ∀ (fuel : Nat) (listed : Array Bool) (a : Act) (w : World) (ι : Inj), Inv P ops A0 base m0 es B ι0 w0 ι listed a w → (listed.toList.filter (fun b => !b)).length = fuel → wpAny P .any ops Q fuel listed a w := by
  intro fuel
  have hall : ∀ (listed : Array Bool) (a : Act) (w : World) (ι : Inj), Inv P ops A0 base m0 es B ι0 w0 ι listed a w → Region.ready .any ops listed = [] → ∀ j, j < ops.size → listed.getD j false = true := by
    intro listed a w ι hI hr j
    induction j using Nat.strongRecOn with
    | _ j ih =>
      intro hj
      cases hl : listed.getD j false with
      | true => rfl
      | false =>
        have ho : ops[j]? = some ops[j] := by simp [hj]
        have : j ∈ Region.ready .any ops listed := by
          rw [mem_ready]
          have hjs : j < listed.size := by rw [hI.size]; exact hj
          refine ⟨by simp [hjs] at hl ⊢; exact hl, _, ho, fun e he hb => ?_⟩
          have := hok.edges j _ ho e he hb
          exact ih e.on this (by omega)
        rw [hr] at this
        cases this
  induction fuel with
  | zero =>
    intro listed a w ι hI hcnt
    have hl : ∀ j, j < ops.size → listed.getD j false = true := by
      intro j hj
      have hjs : j < listed.size := by rw [hI.size]; exact hj
      cases hb : listed.getD j false with
      | true => rfl
      | false =>
        exfalso
        have hmem : false ∈ listed.toList.filter (fun b => !b) := by
          rw [List.mem_filter]
          refine ⟨?_, rfl⟩
          simp [hjs] at hb
          rw [← hb]; simp
        rw [List.length_eq_zero_iff.1 hcnt] at hmem
        cases hmem
    refine ⟨?_, hQ ι listed a w hI hl⟩
    cases hr : Region.ready .any ops listed with
    | nil => rfl
    | cons i is =>
      exfalso
      have hi : i ∈ Region.ready .any ops listed := by rw [hr]; exact List.mem_cons_self ..
      obtain ⟨h1, o, ho, _⟩ := mem_ready.1 hi
      have hio := (Array.getElem?_eq_some_iff.1 ho).1
      have := hl i hio
      have his : i < listed.size := by rw [hI.size]; exact hio
      simp [his] at h1 this
      rw [h1] at this; cases this
  | succ fuel ih =>
    intro listed a w ι hI hcnt
    refine ⟨fun hr => hQ ι listed a w hI (hall listed a w ι hI hr), fun i hi => ?_⟩
    obtain ⟨hiun, o, ho, hedges⟩ := mem_ready.1 hi
    have hio := (Array.getElem?_eq_some_iff.1 ho).1
    have his : i < listed.size := by rw [hI.size]; exact hio
    have hif : listed.getD i false = false := by simp [his] at hiun ⊢; exact hiun
    have hie : i < es.length := by rw [hlen]; exact hio
    have he : es[i]? = some es[i] := by simp [hie]
    generalize es[i] = e at he
    have hcnt' : ((listed.setIfInBounds i true).toList.filter (fun b => !b)).length = fuel := by
      have hsplit : listed.toList = listed.toList.take i ++ false :: listed.toList.drop (i + 1) := by
        have h1 : listed.toList[i]? = some false := by simp [his] at hif ⊢; exact hif
        have h2 := List.drop_eq_getElem_cons (l := listed.toList) (i := i) (by simpa using his)
        have h3 : listed.toList[i]'(by simpa using his) = false := by
          have := List.getElem?_eq_getElem (l := listed.toList) (i := i) (by simpa using his)
          rw [h1] at this; exact (Option.some.inj this).symm
        rw [h3] at h2
        rw [← h2, List.take_append_drop]
      have hset : (listed.setIfInBounds i true).toList = listed.toList.take i ++ true :: listed.toList.drop (i + 1) := by
        rw [Array.toList_setIfInBounds, List.set_eq_take_append_cons_drop, if_pos (by simpa using his)]
      rw [hsplit] at hcnt
      rw [hset]
      simp only [List.filter_append, List.filter_cons, Bool.not_false, if_true, List.length_append, List.length_cons] at hcnt
      simp only [List.filter_append, List.filter_cons, Bool.not_true, Bool.false_eq_true, if_false, List.length_append]
      omega
    have hslots : ∀ t ∈ o.looksAt ops, VRel ι ((putAll (ops.toList.take i) (es.take i) A0).tmps.getD t undef) (a.tmps.getD t undef) := fun t ht => slot_lex hI hok hlen ho hedges ht
    have hon : AOn ι o (putAll (ops.toList.take i) (es.take i) A0) a := on_of_slots hslots
    have hwant := wanted_lex (ops := ops) (o := o) (by rw [(putAll_size _ _ _).1, hI.tsize]) hslots
    have hsize' : (listed.setIfInBounds i true).size = ops.size := by simp [hI.size]
    -- an operation that leaves the memory alone
    have still : ∀ (v' : Value) (w' : World), e.eff = .none → VRel ι e.v v' → Below w.heap.size w w' → wpAny P .any ops Q fuel (listed.setIfInBounds i true) (a.put o.dst v') w' := by
      intro v' w' hen hv hb
      refine ih _ _ w' ι ?_ hcnt'
      obtain ⟨h1, h2, h3, h4⟩ := slots_step hI hok (Inj.le_refl ι) ho he hif hv
      refine ⟨hsize', hI.le, h1, h2, h3, h4, hI.below.trans (hb.mono hI.mem.low), hI.fresh, fun j hj hl => ?_, fun j e' n off vs hj hee hl => ?_, ?_⟩
      · by_cases hij : i = j
        · subst hij; exact hI.newn i hj hif
        · rw [getD_set_ne false hij] at hl; exact hI.newn j hj hl
      · by_cases hij : i = j
        · subst hij
          rw [he] at hj; obtain rfl := Option.some.inj hj
          rw [hen] at hee; cases hee
        · rw [getD_set_ne false hij] at hl; exact hI.sets j e' n off vs hj hee hl
      · refine (hI.mem.below hb).congr fun x => ?_
        rw [appL_set es 0 m0 (Nat.zero_le _) (by simpa using he) hif his (comm_of hI hch he hif hio) x, find_app1, hen]
    unfold wpOp
    rw [ho]
    dsimp only
    rcases hat i o e ho he with ⟨hw, hst⟩ | ⟨hw, rfl⟩
    · rw [hwant, hw, if_pos rfl]
      refine .inl ?_
      unfold StepB at hst
      cases hen : e.eff with
      | none =>
        rw [hen] at hst
        refine hst ι a w _ Q hon (fun n row hrd hrow => ?_) fun v' w' hv hb => still v' w' hen hv hb
        refine ⟨B, hI.mem.one (n := n) (row := row) ?_⟩
        rw [appL_keep es 0 m0 (fun j _ => by have := hm0 n row hrow; omega) fun e' he' off vs hs => readsOk_spec hch.reads (List.mem_of_getElem? he) he' hrd hs]
        exact hrow
      | new s c =>
        rw [hen] at hst
        obtain ⟨hv, hst⟩ := hst
        refine hst ι a w _ Q hon fun c' t hc => ?_
        have hfr : ι (base + i) = none := hI.newn i hio hif
        have hle : Inj.le ι (ext ι (base + i) ⟨w.heap.size, 0, true, c'.size⟩) := ext_le hfr
        refine ih _ _ _ (ext ι (base + i) ⟨w.heap.size, 0, true, c'.size⟩) ?_ hcnt'
        have hvr : VRel (ext ι (base + i) ⟨w.heap.size, 0, true, c'.size⟩) e.v (newV s ⟨w.heap.size, 0, none⟩) := by
          rw [hv]; exact newV_rel ext_same rfl s
        obtain ⟨h1, h2, h3, h4⟩ := slots_step hI hok hle ho he hif hvr
        refine ⟨hsize', Inj.le_trans hI.le hle, h1, h2, h3, h4, hI.below.trans (below_push _ hI.mem.low), fun n hn => ?_, fun j hj hl => ?_, fun j e' n off vs hj hee hl => ?_, ?_⟩
        · unfold ext; rw [if_neg (by omega)]; exact hI.fresh n hn
        · by_cases hij : i = j
          · subst hij
            have : (listed.setIfInBounds i true).getD i false = true := by simp [his]
            rw [this] at hl; cases hl
          · rw [getD_set_ne false hij] at hl
            unfold ext; rw [if_neg (by omega)]; exact hI.newn j hj hl
        · by_cases hij : i = j
          · subst hij
            rw [he] at hj; obtain rfl := Option.some.inj hj
            rw [hen] at hee; cases hee
          · rw [getD_set_ne false hij] at hl
            have := hI.sets j e' n off vs hj hee hl
            intro hnone
            cases hx : ι n with
            | none => exact this hx
            | some l => have := hle _ _ hx; rw [hnone] at this; cases this
        · refine (hI.mem.push (t := t) hfr hc true).congr fun x => ?_
          rw [appL_set es 0 m0 (Nat.zero_le _) (by simpa using he) hif his (comm_of hI hch he hif hio) x, find_app1, hen]
          simp only [find]
          by_cases hx : x = base + i
          · subst hx; rw [beqT, if_pos rfl]; rfl
          · rw [beqF (Ne.symm hx), if_neg hx]; rfl
      | set n off vs =>
        rw [hen] at hst
        obtain ⟨hv, hst⟩ := hst
        obtain ⟨⟨l, hl⟩, hst⟩ := hst ι a w (wpAny P .any ops Q fuel (listed.setIfInBounds i true)) Q hon
        obtain ⟨_, hfit, hnlt⟩ := setsOk_spec es 0 hch.sets i e he n off vs hen
        have hrow : ∃ len, HasRow (appL base listed 0 es m0) n len ∧ off + vs.length ≤ len := by
          unfold fits rowLen at hfit
          cases hb : Nat.blt n base with
          | true =>
            rw [hb, cond_true] at hfit
            have hnb : n < base := by simpa [Nat.blt_eq] using hb
            cases hf : find m0 n with
            | none => rw [hf] at hfit; cases hfit
            | some r =>
              rw [hf] at hfit
              dsimp only at hfit
              cases ho' : r.own with
              | false => rw [ho'] at hfit; cases hfit
              | true =>
                rw [ho', cond_true] at hfit
                exact ⟨r.c.length, appL_has es 0 m0 ⟨r, hf, ho', rfl⟩ (fun j _ => by omega), Nat.le_of_ble_eq_true hfit⟩
          | false =>
            rw [hb, cond_false] at hfit
            have hnb : base ≤ n := by
              rcases Nat.lt_or_ge n base with h | h
              · exfalso
                have h2 : Nat.blt n base = true := by rw [Nat.blt_eq]; exact h
                rw [hb] at h2; cases h2
              · exact h
            cases hf : es[n - base]? with
            | none => rw [hf] at hfit; cases hfit
            | some e' =>
              rw [hf] at hfit
              dsimp only at hfit
              cases hee : e'.eff with
              | none => rw [hee] at hfit; cases hfit
              | set _ _ _ => rw [hee] at hfit; cases hfit
              | new s c =>
                rw [hee] at hfit
                dsimp only at hfit
                have hlst : listed.getD (n - base) false = true := by
                  cases hx : listed.getD (n - base) false with
                  | true => rfl
                  | false =>
                    have := hI.newn (n - base) (by omega) hx
                    rw [show base + (n - base) = n from by omega, hl] at this; cases this
                have := appL_has_new (base := base) (listed := listed) (p := n - base) hee es 0 m0 (Nat.zero_le _) (by simpa using hf) hlst
                rw [show base + (n - base) = n from by omega] at this
                exact ⟨_, this, Nat.le_of_ble_eq_true hfit⟩
        obtain ⟨len, ⟨row, hfr, hown, hrl⟩, hin⟩ := hrow
        refine hst B _ row hI.mem hfr hown (by rw [hrl]; exact hin) fun w' hR' hb' => ?_
        refine ih _ _ w' ι ?_ hcnt'
        obtain ⟨h1, h2, h3, h4⟩ := slots_step hI hok (Inj.le_refl ι) ho he hif (v' := undef) (by rw [hv]; exact vrel_undef ι)
        refine ⟨hsize', hI.le, h1, h2, h3, h4, hI.below.trans hb', hI.fresh, fun j hj hl' => ?_, fun j e' n' off' vs' hj hee hl' => ?_, ?_⟩
        · by_cases hij : i = j
          · subst hij; exact hI.newn i hj hif
          · rw [getD_set_ne false hij] at hl'; exact hI.newn j hj hl'
        · by_cases hij : i = j
          · subst hij
            rw [he] at hj; obtain rfl := Option.some.inj hj
            rw [hen] at hee
            simp only [Eff.set.injEq] at hee
            rw [← hee.1, hl]; simp
          · rw [getD_set_ne false hij] at hl'; exact hI.sets j e' n' off' vs' hj hee hl'
        · refine hR'.congr fun x => ?_
          rw [appL_set es 0 m0 (Nat.zero_le _) (by simpa using he) hif his (comm_of hI hch he hif hio) x, find_app1, hen]
          rw [find_upd _ _ _ _ hfr]
          simp only [hfr, Option.map_some]
    · rw [hwant, hw, if_neg (by simp)]
      exact still undef w rfl (vrel_undef ι) (Below.refl _ _)

theorem regB_ok (hT : FlatOk P) (hN : ∀ (g : Nat) (fn : Func), P.funcs[g]? = some fn → (fn.name == "runtime.NumGoroutine") = false) (hm : P.follows .mixedOrders = true) {R : Type} : RegOk P (regB (R := R) P) := by
  intro call hc id ops A st k r sz hchk1 _ hsz h
  unfold regB at h
  rw [natK_eq] at h
  obtain ⟨es, hlen, h1, hat⟩ := opsB_ok hT hN hc ops.toList 0 A _ r h
  obtain ⟨hck, h2⟩ := cond_some h1
  rw [appAllK_eq] at h2
  simp only [Bool.and_eq_true] at hck
  have hlen' : es.length = ops.size := by simpa using hlen
  have hok := (okOps hchk1).mono hsz
  refine ⟨_, _, h2, (putAll_size _ _ _).1, fun ι B a w hA hR => ?_⟩
  refine wp_region_any hm ?_
  have hm0 : ∀ n row, find st.mem n = some row → n < st.next := fun n row hn => by
    obtain ⟨l, hl, _⟩ := hR.mem.row n row hn
    rcases Nat.lt_or_ge n st.next with h | h
    · exact h
    · rw [hR.fresh n h] at hl; cases hl
  refine reg_step (P := P) (ops := ops) (A0 := A) (base := st.next) (m0 := st.mem) (es := es) (B := B) (ι0 := ι) (w0 := w) hok hlen' ⟨hck.1, hck.2⟩ (fun p o e ho he => by
      have := hat p o e (by simpa using ho) he
      rwa [Nat.zero_add] at this) hm0 ?_ ops.size _ a _ ι ?_ ?_
  · intro ι' listed a' w' hI hall
    refine ⟨rfl, ι', hI.le, ⟨?_, fun t => ?_, ?_, hI.defers⟩, ⟨fun n hn => hI.fresh n hn, ?_⟩, hI.below⟩
    · rw [(putAll_size _ _ _).1, hI.tsize]
    · by_cases hex : ∃ (j : Nat) (p : Oper), ops[j]? = some p ∧ p.dst = some t
      · obtain ⟨j, p, hp, hd⟩ := hex
        have hj := (Array.getElem?_eq_some_iff.1 hp).1
        have hpe : es[j]? = some (es[j]'(by omega)) := by simp [hlen', hj]
        rw [putAll_at ops.toList es A t j p _ (by simpa using hp) hpe hd (hok.dst j p hp t hd) (fun q o' hq hd' => hok.uniq q j o' p (by simpa using hq) hp t hd' hd)]
        exact hI.done t j p _ hp hpe hd (hall j hj)
      · rw [putAll_other _ _ _ t fun p hp hd => by
          obtain ⟨q, hq⟩ := List.getElem?_of_mem hp
          exact hex ⟨q, p, by simpa using hq, hd⟩]
        exact hI.todo t fun j p hp hd => absurd ⟨j, p, hp, hd⟩ hex
    · rw [(putAll_size _ _ _).2, hA.dA]
    · have := hI.mem
      rw [appL_all es 0 st.mem fun j _ hj => hall j (by omega)] at this
      exact this
  · have hrep : ∀ j, (Array.replicate ops.size false).getD j false = false := fun j => by
      simp only [Array.getD_eq_getD_getElem?]
      cases hx : (Array.replicate ops.size false)[j]? with
      | none => rfl
      | some b =>
        obtain ⟨h1, h2⟩ := Array.getElem?_eq_some_iff.1 hx
        simp at h2; rw [← h2]; rfl
    refine ⟨by simp, Inj.le_refl ι, hA.da, hA.size.symm, fun t j o e ho he hd hl => ?_, fun t _ => hA.get t, below_drew (Below.refl _ _), fun n hn => hR.fresh n (by omega), fun j _ _ => hR.fresh _ (by omega), fun j e n off vs _ _ hl => ?_, ?_⟩
    · rw [hrep] at hl; cases hl
    · rw [hrep] at hl; cases hl
    · rw [appL_none es 0 st.mem hrep]
      exact hR.mem.drew
  · simp
end Go.Ev
