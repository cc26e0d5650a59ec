/- An evaluator for the model's code over an abstract memory, fifth part: code and functions are sound. -/
import Derived.Test.YtopgjinjjpplcaaEv3
import Derived.Tactics
import Derived.Laws.Sem
namespace Go.Ev
open Go.RowKit
variable {P : Program}

theorem Rel.union {ι : Inj} {B : Nat} {st st' : AS} {w w' : World} {ι' : Inj} (h : Rel ι B st w) (hle : Inj.le ι ι') (hb : Below w.heap.size w w') (h' : Rel ι' w.heap.size st' w') (hown : st'.mem.all (fun p => p.2.own) = true) :
    Rel ι' B ⟨st'.next, st'.mem ++ st.mem⟩ w' := by
  have hf : ∀ n r, find (st'.mem ++ st.mem) n = some r → find st'.mem n = some r ∨ (find st'.mem n = none ∧ find st.mem n = some r) := by
    intro n r
    generalize st'.mem = m
    generalize st.mem = m2
    induction m with
    | nil => exact fun h => .inr ⟨rfl, h⟩
    | cons p m ih =>
      obtain ⟨k, o⟩ := p
      intro h
      simp only [List.cons_append, find] at h ⊢
      cases e : Nat.beq k n
      · simp only [e, cond_false] at h ⊢; exact ih h
      · simp only [e, cond_true] at h ⊢; exact .inl h
  have hall : ∀ n r, find st'.mem n = some r → r.own = true := by
    revert hown
    generalize st'.mem = m
    intro hown n r hr
    induction m with
    | nil => simp [find] at hr
    | cons p m ih =>
      obtain ⟨k, o⟩ := p
      simp only [List.all_cons, Bool.and_eq_true] at hown
      simp only [find] at hr
      cases e : Nat.beq k n
      · simp only [e, cond_false] at hr; exact ih hown.2 hr
      · simp only [e, cond_true, Option.some.injEq] at hr; subst hr; exact hown.1
  refine ⟨h'.fresh, Nat.le_trans h.mem.low hb.size, fun n r hr => ?_, ?_⟩
  · rcases hf n r hr with h1 | ⟨_, h1⟩
    · obtain ⟨l, hl, hlt, h2, h3⟩ := h'.mem.row n r h1
      exact ⟨l, hl, hlt, h2, fun ho => ⟨Nat.le_trans h.mem.low (h3 ho).1, (h3 ho).2⟩⟩
    · obtain ⟨l, hl, hlt, h2, h3⟩ := (h.mem.below hb).row n r h1
      refine ⟨l, hle _ _ hl, hlt, fun i x hx => ?_, h3⟩
      obtain ⟨y, hy, hv⟩ := h2 i x hx
      exact ⟨y, hy, hv.mono hle⟩
  · intro n n' r r' l l' hn1 hn2 hne hl hl' ho
    have old : ∀ n r l, find st.mem n = some r → ι' n = some l → ι n = some l ∧ l.blk < w.heap.size := fun n r l h1 h2 => by
      obtain ⟨k, hk, hlt, _⟩ := h.mem.row n r h1
      have : k = l := by have := hle _ _ hk; rw [h2] at this; exact (Option.some.inj this).symm
      subst this
      exact ⟨hk, hlt⟩
    have new : ∀ n r l, find st'.mem n = some r → r.own = true → ι' n = some l → w.heap.size ≤ l.blk := fun n r l h1 h2 h3 => by
      obtain ⟨k, hk, _, _, h4⟩ := h'.mem.row n r h1
      have : k = l := by rw [h3] at hk; exact (Option.some.inj hk).symm
      subst this
      exact (h4 h2).1
    rcases hf n r hn1 with h1 | ⟨_, h1⟩ <;> rcases hf n' r' hn2 with h2 | ⟨_, h2⟩
    · exact h'.mem.inj n n' r r' l l' h1 h2 hne hl hl' ho
    · have a := new n r l h1 ho hl
      have b := (old n' r' l' h2 hl').2
      intro e; rw [e] at a; omega
    · have a := new n' r' l' h2 (hall n' r' h2) hl'
      have b := (old n r l h1 hl).2
      intro e; rw [e] at b; omega
    · exact h.mem.inj n n' r r' l l' h1 h2 hne (old n r l h1 hl).1 (old n' r' l' h2 hl').1 ho

/-! ### guards -/
theorem vrel_bool {ι : Inj} {x : Value} {b : Bool} (h : VRel ι x (.bool b)) : x = .bool b := by
  cases h with
  | plain v _ => rfl

theorem tmps_some {ι : Inj} {A a : Act} (r : ARel ι A a) {t : Tmp} {v : Value} (h : A.tmps[t]? = some v) : ∃ v', a.tmps[t]? = some v' ∧ VRel ι v v' := by
  have hlt := (Array.getElem?_eq_some_iff.1 h).1
  have hlt' : t < a.tmps.size := r.size ▸ hlt
  have := r.get t
  simp only [Array.getD_eq_getD_getElem?, h, Option.getD_some] at this
  rw [Array.getElem?_eq_getElem hlt'] at this
  exact ⟨a.tmps[t], Array.getElem?_eq_getElem hlt', this⟩

theorem tmps_none {ι : Inj} {A a : Act} (r : ARel ι A a) {t : Tmp} (h : A.tmps[t]? = none) : a.tmps[t]? = none := by
  rw [Array.getElem?_eq_none_iff] at h ⊢
  rw [← r.size]; exact h

theorem yielded_eq {ι : Inj} {A a : Act} (r : ARel ι A a) (ops : Array Oper) (j : Nat) : yielded ops a.tmps j = yielded ops A.tmps j := by
  unfold yielded
  cases hd : (ops[j]?).bind (·.dst) with
  | none => rfl
  | some t =>
    simp only [Option.bind_some]
    cases hA : A.tmps[t]? with
    | none => rw [tmps_none r hA]
    | some v =>
      obtain ⟨v', ha, hv⟩ := tmps_some r hA
      rw [ha]
      cases v' with
      | bool b => rw [vrel_bool hv]
      | _ =>
        cases v with
        | bool b => have := hv.eq_of_plain rfl; cases this
        | _ => rfl

theorem wanted_eq {ι : Inj} {A a : Act} (r : ARel ι A a) (ops : Array Oper) (o : Oper) : Region.wanted o (yielded ops a.tmps) = Region.wanted o (yielded ops A.tmps) := by
  rw [show yielded ops a.tmps = yielded ops A.tmps from funext (yielded_eq r ops)]

theorem put_same {A : Act} {t : Tmp} {v : Value} (h : A.tmps[t]? = some v) : A.put (some t) v = A := by
  obtain ⟨tmps, ds⟩ := A
  obtain ⟨hlt, he⟩ := Array.getElem?_eq_some_iff.1 h
  simp only [Act.put]
  congr 1
  rw [Array.setIfInBounds, dif_pos hlt]
  apply Array.ext
  · simp
  · intro i h1 h2
    by_cases e : t = i
    · subst e; rw [Array.getElem_set_self]; exact he.symm
    · rw [Array.getElem_set_ne _ _ e]

theorem wantE_ok {R : Type} {ops : Array Oper} {o : Oper} {A : Act} {kw ks : Act → Option R} {r : R} (h : wantE ops o A kw ks = some r) :
    (Region.wanted o (yielded ops A.tmps) = true ∧ kw A = some r) ∨ (Region.wanted o (yielded ops A.tmps) = false ∧ ks A = some r) := by
  unfold wantE at h
  unfold Region.wanted
  split at h
  · rename_i hg; rw [hg]; exact .inl ⟨rfl, h⟩
  · rename_i j want hg
    rw [hg]
    unfold yielded
    split at h
    · rename_i hd
      have e1 : ((ops[j]?).bind fun x => x.dst).bind (fun x => A.tmps[x]?) = none := by rw [hd]; rfl
      dsimp only
      rw [e1]
      exact .inr ⟨rfl, h⟩
    · rename_i t hd
      have e1 : ((ops[j]?).bind fun x => x.dst).bind (fun x => A.tmps[x]?) = A.tmps[t]? := by rw [hd]; rfl
      dsimp only
      rw [e1]
      split at h
      · rename_i b hb
        rw [nth_eq, Array.getElem?_toList] at hb
        simp only [hb]
        cases b <;> cases want <;> simp only [cond_true, cond_false, putK_eq, put_same hb] at h <;> first | exact .inl ⟨rfl, h⟩ | exact .inr ⟨rfl, h⟩
      · rename_i hnb
        refine .inr ⟨?_, h⟩
        cases hv : A.tmps[t]? with
        | none => rfl
        | some v => cases v <;> first | rfl | exact absurd (by rw [nth_eq, Array.getElem?_toList]; exact hv) (hnb _)

theorem put_size (A : Act) (d : Option Tmp) (v : Value) : (A.put d v).tmps.size = A.tmps.size := by cases d <;> simp [Act.put]

/-! ### a region in the text's order -/
theorem opsE_ok (hT : FlatOk P) {R : Type} {call : FuncId → List Value → AS → (Value → AS → Option R) → Option R} (hN : ∀ (g : Nat) (fn : Func), P.funcs[g]? = some fn → (fn.name == "runtime.NumGoroutine") = false) (hc : CallOk P call) {ops : Array Oper} :
    ∀ (l : List Oper) (A : Act) (st : AS) (k : Act → AS → Option R) (r : R), opsE P call ops l A st k = some r → ∃ A' st', k A' st' = some r ∧ A'.tmps.size = A.tmps.size ∧
      ∀ (ι : Inj) (B : Nat) (a : Act) (w : World) (Q : Exit → Act → World → Prop), ARel ι A a → Rel ι B st w →
        (∀ ι' a' w', Inj.le ι ι' → ARel ι' A' a' → Rel ι' B st' w' → Below B w w' → Q .normal a' w') → wpList P ops Q l a w
  | [], A, st, k, r, h => ⟨A, st, h, rfl, fun ι B a w Q hA hR hQ => hQ ι a w (Inj.le_refl ι) hA hR (Below.refl _ _)⟩
  | o :: l, A, st, k, r, h => by
    simp only [opsE, putK_eq] at h
    rcases wantE_ok h with ⟨hw, h⟩ | ⟨hw, h⟩
    · obtain ⟨v, st1, h1, hop⟩ := opE_ok hT hN hc h
      obtain ⟨A', st', hk, hsz, hrest⟩ := opsE_ok hT hN hc l _ st1 k r h1
      refine ⟨A', st', hk, hsz.trans (put_size _ _ _), fun ι B a w Q hA hR hQ => ?_⟩
      simp only [wpList, wanted_eq hA, hw, if_true]
      refine .inl (hop ι B a w _ _ (hA.on o) hR fun ι' v' w' hle hv hR' hb => ?_)
      exact hrest ι' B _ w' Q ((hA.mono hle).put o.dst hv) hR' fun ι2 a2 w2 hle2 hA2 hR2 hb2 => hQ ι2 a2 w2 (Inj.le_trans hle hle2) hA2 hR2 (hb.trans hb2)
    · obtain ⟨A', st', hk, hsz, hrest⟩ := opsE_ok hT hN hc l _ st k r h
      refine ⟨A', st', hk, hsz.trans (put_size _ _ _), fun ι B a w Q hA hR hQ => ?_⟩
      simp only [wpList, wanted_eq hA, hw, Bool.false_eq_true, if_false]
      exact hrest ι B _ w Q (hA.put o.dst (vrel_undef ι)) hR hQ

/-! ### results -/
theorem resE_ok {A : Act} {st : AS} : ∀ (rs : List ResultVar) (vs : List Value), resE P A st rs = some vs → ∀ (ι : Inj) (B : Nat) (a : Act) (w : World), ARel ι A a → Rel ι B st w →
    ∃ us, LRel ι vs us ∧ (rs.mapM (fun (x : ResultVar) => (match x with | .tmp t => pure (a.tmps.getD t undef) | .cell b t => do loadVar t (← asAddr (a.tmps.getD b undef)) : Sem Value))).run P w = .ok us w
  | [], vs, h, ι, B, a, w, hA, hR => by
    simp only [resE, Option.some.injEq] at h
    subst h
    exact ⟨[], LRel.nil ι, by simp [pure]⟩
  | .tmp t :: rs, vs, h, ι, B, a, w, hA, hR => by
    simp only [resE] at h
    split at h
    · rename_i ws hws
      simp only [Option.some.injEq] at h
      subst h
      obtain ⟨us, hl, hrun⟩ := resE_ok rs ws hws ι B a w hA hR
      refine ⟨_, LRel.cons (by rw [getE_eq]; exact hA.get t) hl, ?_⟩
      rw [List.mapM_cons]
      refine (run_bind_ok (e := pure (a.tmps.getD t undef)) (a := a.tmps.getD t undef) (w' := w) rfl).trans ?_
      exact (run_bind_ok hrun).trans rfl
    · cases h
  | .cell b t :: rs, vs, h, ι, B, a, w, hA, hR => by
    simp only [resE] at h
    split at h
    · rename_i ws hws
      obtain ⟨us, hl, hrun⟩ := resE_ok rs ws hws ι B a w hA hR
      split at h
      · rename_i n off hp
        split at h
        · cases h
        · rename_i row hn
          have hpv := hA.get b
          rw [getE_eq] at hp
          rw [hp] at hpv
          have fin : ∀ v, (∃ u, VRel ι v u ∧ (do loadVar t (← asAddr (a.tmps.getD b undef)) : Sem Value).run P w = .ok u w) → vs = v :: ws → ∃ us, LRel ι vs us ∧ ((ResultVar.cell b t :: rs).mapM (fun (x : ResultVar) => (match x with | .tmp t => pure (a.tmps.getD t undef) | .cell b t => do loadVar t (← asAddr (a.tmps.getD b undef)) : Sem Value))).run P w = .ok us w := by
            rintro v ⟨u, hu, hrun1⟩ rfl
            refine ⟨u :: us, LRel.cons hu hl, ?_⟩
            rw [List.mapM_cons]
            refine (run_bind_ok hrun1).trans ?_
            exact (run_bind_ok hrun).trans rfl
          generalize hev : a.tmps.getD b undef = ev at hpv
          cases hpv with
          | plain _ hpl => simp [Ev.plain, plainN] at hpl
          | ptr _ _ l hl' =>
            split at h
            · cases h
            · rename_i hagg
              split at h
              · rename_i v hv
                simp only [Option.some.injEq] at h
                refine fin v ?_ h.symm
                obtain ⟨k', hk', hlt, h1, _⟩ := hR.mem.row n row hn
                have : k' = l := by rw [hl'] at hk'; exact (Option.some.inj hk').symm
                subst this
                obtain ⟨y, hy, hvy⟩ := h1 off v (by rw [← nth_eq]; exact hv)
                refine ⟨y, hvy, ?_⟩
                rw [hev]
                refine (run_bind_ok (a := ⟨k'.blk, k'.shift + off, none⟩) (w' := w) rfl).trans ?_
                refine (run_bind_ok (qrun_run _ hagg w)).trans ?_
                simp only [Bool.false_eq_true, if_false, load, Sem.run, hy]
              · cases h
            · rename_i hagg
              split at h
              · cases h
              · rename_i s hs
                split at h
                · rename_i cs htk
                  simp only [Option.some.injEq] at h
                  refine fin _ ?_ h.symm
                  obtain ⟨hlen, hsub⟩ := takeN_spec _ _ _ htk
                  obtain ⟨us', hus, hh⟩ := hR.mem.cells hn hl' off cs (fun i x hx => by have := hsub i x hx; simpa [List.getElem?_drop] using this)
                  refine ⟨.agg us'.toArray, .agg _ _ hus.1 hus.2, ?_⟩
                  rw [hev]
                  refine (run_bind_ok (a := ⟨l.blk, l.shift + off, none⟩) (w' := w) rfl).trans ?_
                  refine (run_bind_ok (qrun_run _ hagg w)).trans ?_
                  simp only [if_true]
                  refine (run_bind_ok (qrun_run _ hs w)).trans ?_
                  refine (run_bind_ok (a := us'.toArray) (w' := w) ?_).trans rfl
                  rw [← hlen, hus.1]
                  exact run_loadCells _ _ us' hh
                · cases h
      · cases h
    · cases h

theorem oneOf_rel {ι : Inj} {vs us : List Value} (h : LRel ι vs us) : VRel ι (oneOf vs) (if h : us.toArray.size = 1 then us.toArray[0] else .tuple us.toArray) := by
  match vs, us, h with
  | [], [], h => exact .tuple _ _ h.1 h.2
  | [v], [u], h => exact h.2 0 v u rfl rfl
  | v :: v2 :: vs, u :: u2 :: us, h => exact .tuple _ _ h.1 h.2
  | [], u :: us, h => have := h.1; simp at this
  | [v], [], h => have := h.1; simp at this
  | [v], u :: u2 :: us, h => have := h.1; simp at this
  | v :: v2 :: vs, [], h => have := h.1; simp at this
  | v :: v2 :: vs, [u], h => have := h.1; simp at this

theorem results_ok {fn : Func} {A : Act} {st : AS} {vs : List Value} (h : resE P A st fn.results.toList = some vs) {ι : Inj} {B : Nat} {a : Act} {w : World} (hA : ARel ι A a) (hR : Rel ι B st w) :
    ∃ u, VRel ι (oneOf vs) u ∧ (results fn a.tmps).run P w = .ok u w := by
  obtain ⟨us, hl, hrun⟩ := resE_ok _ _ h ι B a w hA hR
  refine ⟨_, oneOf_rel hl, ?_⟩
  unfold results
  rw [Array.mapM_eq_mapM_toList]
  refine (run_bind_ok (a := us.toArray) (w' := w) ?_).trans rfl
  exact (run_bind_ok hrun).trans rfl
end Go.Ev
