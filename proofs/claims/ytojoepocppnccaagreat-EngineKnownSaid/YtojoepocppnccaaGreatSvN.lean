/- A second evaluator for the model's code: maps are sound. -/
import Derived.Test.YtojoepocppnccaaGreatSvM
namespace Go.Sv
noncomputable section
open Go.RowKit MapKept
variable {P : Program}

theorem nodup_at {α β : Type} {f : α → β} : ∀ {l : List α}, (l.map f).Nodup → ∀ {i j : Nat} {a b : α}, l[i]? = some a → l[j]? = some b → f a = f b → i = j
  | [], _, i, j, a, b, h, _, _ => by simp at h
  | x :: l, h, i, j, a, b, ha, hb, hf => by
    simp only [List.map_cons, List.nodup_cons] at h
    cases i with
    | zero =>
      cases j with
      | zero => rfl
      | succ j =>
        simp at ha hb; subst ha
        exact absurd (List.mem_map.2 ⟨b, List.mem_of_getElem? hb, hf.symm⟩) h.1
    | succ i =>
      cases j with
      | zero =>
        simp at ha hb; subst hb
        exact absurd (List.mem_map.2 ⟨a, List.mem_of_getElem? ha, hf⟩) h.1
      | succ j => exact congrArg (· + 1) (nodup_at h.2 (i := i) (j := j) (by simpa using ha) (by simpa using hb) hf)
theorem map_block {κ : Kap} {M : Mem} {w : World} (h : MRel κ M w) {n b : Nat} {kk : Option IntKind} {l : List (Key × Nat × AV)} {clock : Nat} (hM : M n = some (.map kk l clock)) (hb : κ.loc n = some (some b)) : ∃ es, w.heap[b]? = some (.map es clock) ∧ MapRel κ kk l es clock := by
  obtain ⟨b', es, h1, h2, h3⟩ := h.row n _ hM
  rw [hb] at h1; cases h1
  exact ⟨es, h2, h3⟩

theorem ptab_block {κ : Kap} {M : Mem} {w : World} (h : MRel κ M w) {n b : Nat} {xs : List (Int × Int)} (hM : M n = some (.ptab xs)) (hb : κ.loc n = some (some b)) : ∃ l clock es, PT xs l ∧ w.heap[b]? = some (.map es clock) ∧ MapRel κ (some .i64) l es clock := by
  obtain ⟨l, clock, b', es, h0, h1, h2, h3⟩ := h.row n _ hM
  rw [hb] at h1; cases h1
  exact ⟨l, clock, es, h0, h2, h3⟩
theorem makeMapE_ok {R : Type} {o : Oper} {t : TypeId} {rv : Option Operand} (ho : o.op = .makeMap t rv) {E : Env} {st : AS} {k : Ent → Option R} {r : R} (h : makeMapE P t rv E st k = some r) :
    ∃ e, k e = some r ∧ OpOk P o E st.next (find st.mem) e := by
  unfold makeMapE at h
  split at h
  · rename_i kk key elem ht
    obtain ⟨ht1, ht2⟩ := mapTy_ok ht
    have fin : k ⟨.mp st.next, [(st.next, some (.map kk [] 0))], 1, []⟩ = some r → (∀ (κ : Kap) (a : Act) (w : World), AOn κ o E a → (execOp a.eval o).run P w = .ok (.value (.map (some w.heap.size))) (w.alloc (.map #[] 0))) → ∃ e, k e = some r ∧ OpOk P o E st.next (find st.mem) e := by
      intro hk hrun
      refine ⟨_, hk, fun κ a w M K Q hA hR hrd hfr hK => ?_⟩
      obtain ⟨h1, h2, h3⟩ := hR.new (s := 0) (hfr st.next (Nat.le_refl _) (Nat.lt_succ_self _)) (r := .map kk [] 0) (o := .map #[] 0) ⟨w.heap.size, #[], Kap.at_same, alloc_new, trivial, stamped_empty 0⟩
      refine wp_value (hrun κ a w hA) (hK _ _ _ h1 (fun n hn => ?_) (.mp _ w.heap.size Kap.at_same .nil) h2 h3)
      exact Kap.at_ne (name_ne hn)
    dsimp only at h
    split at h
    · refine fin h fun κ a w hA => ?_
      simp only [execOp, ho]
      refine run_value ?_
      simp [Instr.makeMap, Result.andThen]
    · rename_i x
      split at h
      · rename_i q m hx
        refine fin h fun κ a w hA => ?_
        have hp := hA x (by rw [ho]; simp [Op.operands]) _ hx
        generalize he : a.eval x = ev at hp
        cases hp
        simp only [execOp, ho, Option.map_some]
        refine run_value ?_
        simp [Instr.makeMap, Go.run_underlying ht1, asInt, asIntOf, Result.andThen, he]
      · cases h
  · cases h

theorem foundK_ok {R : Type} {ok : Bool} {rd : List Nat} {k : Ent → Option R} {v : AV} {b : Bool} {r : R} (h : foundK ok rd k v b = some r) : isArr v = false ∧ k ⟨if ok then .tup [v, .bool b] else v, [], 0, rd⟩ = some r := by
  unfold foundK at h
  obtain ⟨h1, h2⟩ := cond_some' h
  refine ⟨h1, ?_⟩
  cases ok <;> exact h2
theorem found_rel {κ : Kap} {v : AV} {y : Value} (b ok : Bool) (hv : VRel κ v y) (_ha : isArr v = false) : VRel κ (if ok then .tup [v, .bool b] else v) (if ok then .tuple #[y, .bool b] else y) := by
  cases ok with
  | false => exact hv
  | true => exact .tup [v, .bool b] [y, .bool b] (hv.append (.bool b .nil)) .nil
theorem lookupE_ok (hZ : ZerosOk P) {R : Type} {o : Oper} {t : TypeId} {x ix : Operand} {ok : Bool} (ho : o.op = .lookup t x ix ok) {E : Env} {m : List (Nat × Row)} {k : Ent → Option R} {r : R} (h : lookupE P t x ix ok E m k = some r) :
    ∃ v rd, k ⟨v, [], 0, rd⟩ = some r ∧ StillOk P o E (find m) v rd := by
  have hmx : x ∈ o.op.operands := by rw [ho]; simp [Op.operands]
  have hmi : ix ∈ o.op.operands := by rw [ho]; simp [Op.operands]
  unfold lookupE at h
  split at h
  · rename_i kk key elem ht
    obtain ⟨ht1, ht2⟩ := mapTy_ok ht
    split at h
    · rename_i iv hiv
      split at h
      · rename_i K hK
        have hkey : ∀ (κ : Kap) (a : Act), AOn κ o E a → KeyV kk K (a.eval ix) := fun κ a hA => keyOf_ok hK (hA ix hmi _ hiv)
        split at h
        · rename_i n hx
          split at h
          · rename_i kk' l clock hf
            obtain ⟨hkk, h'⟩ := cond_some h
            have hkk2 := of_decide_eq_true hkk
            subst hkk2
            have hblk : ∀ (κ : Kap) (a : Act) (w : World) (M : Mem), AOn κ o E a → MRel κ M w → (∀ i ∈ [n], M i = find m i) → ∃ b es, a.eval x = .map (some b) ∧ w.heap[b]? = some (.map es clock) ∧ MapRel κ kk' l es clock := by
              intro κ a w M hA hR hrd
              have hp := hA x hmx _ hx
              generalize a.eval x = ev at hp
              cases hp with
              | mp _ b h1 _ =>
                obtain ⟨es, h2, h3⟩ := map_block hR ((hrd n (List.mem_singleton.2 rfl)).trans hf) h1
                exact ⟨b, es, rfl, h2, h3⟩
            rcases lookK_ok h' with ⟨h1, h2⟩ | ⟨v, h1, h2⟩
            · split at h1
              · rename_i z hz
                obtain ⟨hza, zv, hzq, hzr⟩ := zeroAV_ok hZ hz
                obtain ⟨hna, h1⟩ := foundK_ok h1
                refine ⟨_, _, h1, fun κ a w M hA hR hrd => ⟨_, found_rel false ok (hzr κ) hna, ?_⟩⟩
                obtain ⟨b, es, he, hb, hm⟩ := hblk κ a w M hA hR hrd
                have hk := hkey κ a hA
                have hno := h2 κ kk' es.toList _ hm.ent hk
                simp only [execOp, ho]
                refine run_value ?_
                rw [he]
                rcases findNow_spec (keyV_isKey hk) es.toList 0 (Ents.isKey hm.ent) with ⟨g1, _⟩ | ⟨j, e, _, g2, g3⟩
                · have hzrun : (zeroValue elem).run P w = .ok zv w := qrun_run _ hzq w
                  cases ok <;> simp [Instr.lookup, Go.run_underlying ht1, MapKept.run_getObj_map hb, MapKept.run_checkKey ht2 (keyV_isKey hk), MapKept.run_findKey ht2 g1, hzrun, Result.andThen]
                · exact absurd g3 (hno e (List.mem_of_getElem? g2))
              · cases h1
            · obtain ⟨hna, h1⟩ := foundK_ok h1
              refine ⟨_, _, h1, fun κ a w M hA hR hrd => ?_⟩
              obtain ⟨b, es, he, hb, hm⟩ := hblk κ a w M hA hR hrd
              have hk := hkey κ a hA
              obtain ⟨j, e, g1, g2, g3⟩ := h2 κ kk' es.toList _ hm.ent hk
              refine ⟨_, found_rel true ok (g3.mono (Kap.nl_le κ)) hna, ?_⟩
              simp only [execOp, ho]
              refine run_value ?_
              rw [he]
              rcases findNow_spec (keyV_isKey hk) es.toList 0 (Ents.isKey hm.ent) with ⟨_, q2⟩ | ⟨j', e', q1, q2, q3⟩
              · exact absurd g2 (q2 e (List.mem_of_getElem? g1))
              · have : j = j' := nodup_at hm.stamped.2.2 g1 q2 (g2.trans q3.symm)
                subst this
                rw [g1] at q2; cases q2
                cases ok <;> simp [Instr.lookup, Go.run_underlying ht1, MapKept.run_getObj_map hb, MapKept.run_checkKey ht2 (keyV_isKey hk), MapKept.run_findKey ht2 q1, Result.andThen]
          · rename_i xs hf
            split at h
            · rename_i id
              obtain ⟨hkk, h'⟩ := cond_some h
              have hkk2 := of_decide_eq_true hkk
              subst hkk2
              have hblk : ∀ (κ : Kap) (a : Act) (w : World) (M : Mem), AOn κ o E a → MRel κ M w → (∀ i ∈ [n], M i = find m i) → ∃ b l clock es, a.eval x = .map (some b) ∧ PT xs l ∧ w.heap[b]? = some (.map es clock) ∧ MapRel κ (some .i64) l es clock := by
                intro κ a w M hA hR hrd
                have hp := hA x hmx _ hx
                generalize a.eval x = ev at hp
                cases hp with
                | mp _ b h1 _ =>
                  obtain ⟨l, clock, es, h0, h2, h3⟩ := ptab_block hR ((hrd n (List.mem_singleton.2 rfl)).trans hf) h1
                  exact ⟨b, l, clock, es, rfl, h0, h2, h3⟩
              have hfound : ∀ (κ : Kap) (a : Act) (w : World) (M : Mem), hasId id xs = true → isArr (.int .i64 (bytF id xs)) = false → AOn κ o E a → MRel κ M w → (∀ i ∈ [n], M i = find m i) → ∃ u, VRel κ (if ok then .tup [.int .i64 (bytF id xs), .bool true] else .int .i64 (bytF id xs)) u ∧ (execOp a.eval o).run P w = .ok (.value u) w := by
                intro κ a w M hhas hna hA hR hrd
                obtain ⟨b, l, clock, es, he, h0, hb, hm⟩ := hblk κ a w M hA hR hrd
                have hlk := pt_look id h0
                rw [hhas, cond_true] at hlk
                have hk := hkey κ a hA
                rcases lookK_ok hlk with ⟨h1, _⟩ | ⟨v, h1, h2⟩
                · cases h1
                · simp only [Option.some.injEq] at h1
                  subst h1
                  obtain ⟨j, e, g1, g2, g3⟩ := h2 κ _ es.toList _ hm.ent hk
                  refine ⟨_, found_rel true ok (g3.mono (Kap.nl_le κ)) hna, ?_⟩
                  simp only [execOp, ho]
                  refine run_value ?_
                  rw [he]
                  rcases findNow_spec (keyV_isKey hk) es.toList 0 (Ents.isKey hm.ent) with ⟨_, q2⟩ | ⟨j', e', q1, q2, q3⟩
                  · exact absurd g2 (q2 e (List.mem_of_getElem? g1))
                  · have : j = j' := nodup_at hm.stamped.2.2 g1 q2 (g2.trans q3.symm)
                    subst this
                    rw [g1] at q2; cases q2
                    cases ok <;> simp [Instr.lookup, Go.run_underlying ht1, MapKept.run_getObj_map hb, MapKept.run_checkKey ht2 (keyV_isKey hk), MapKept.run_findKey ht2 q1, Result.andThen]
              have hmiss : ∀ (κ : Kap) (a : Act) (w : World) (M : Mem) (z : AV), zeroAV P elem = some z → hasId id xs = false → isArr z = false → AOn κ o E a → MRel κ M w → (∀ i ∈ [n], M i = find m i) → ∃ u, VRel κ (if ok then .tup [z, .bool false] else z) u ∧ (execOp a.eval o).run P w = .ok (.value u) w := by
                intro κ a w M z hz hhas hna hA hR hrd
                obtain ⟨hza, zv, hzq, hzr⟩ := zeroAV_ok hZ hz
                obtain ⟨b, l, clock, es, he, h0, hb, hm⟩ := hblk κ a w M hA hR hrd
                have hlk := pt_look id h0
                rw [hhas, cond_false] at hlk
                have hk := hkey κ a hA
                rcases lookK_ok hlk with ⟨_, h2⟩ | ⟨v, h1, _⟩
                · have hno := h2 κ _ es.toList _ hm.ent hk
                  refine ⟨_, found_rel false ok (hzr κ) hna, ?_⟩
                  simp only [execOp, ho]
                  refine run_value ?_
                  rw [he]
                  rcases findNow_spec (keyV_isKey hk) es.toList 0 (Ents.isKey hm.ent) with ⟨g1, _⟩ | ⟨j, e, _, g2, g3⟩
                  · have hzrun : (zeroValue elem).run P w = .ok zv w := qrun_run _ hzq w
                    cases ok <;> simp [Instr.lookup, Go.run_underlying ht1, MapKept.run_getObj_map hb, MapKept.run_checkKey ht2 (keyV_isKey hk), MapKept.run_findKey ht2 g1, hzrun, Result.andThen]
                  · exact absurd g3 (hno e (List.mem_of_getElem? g2))
                · cases h1
              cases hm : (!ok && zeroI (zeroAV P elem)) with
              | true =>
                rw [hm, cond_true] at h'
                simp only [Bool.and_eq_true, Bool.not_eq_true'] at hm
                obtain ⟨hok, hz0⟩ := hm
                subst hok
                have hz := zeroI_eq hz0
                obtain ⟨hna, h1⟩ := foundK_ok h'
                refine ⟨_, _, h1, fun κ a w M hA hR hrd => ?_⟩
                cases hh : hasId id xs with
                | true => exact hfound κ a w M hh hna hA hR hrd
                | false => rw [bytF_none id xs hh]; exact hmiss κ a w M _ hz hh rfl hA hR hrd
              | false =>
                rw [hm, cond_false] at h'
                cases hh : hasId id xs with
                | true =>
                  rw [hh, cond_true] at h'
                  obtain ⟨hna, h1⟩ := foundK_ok h'
                  exact ⟨_, _, h1, fun κ a w M hA hR hrd => hfound κ a w M hh hna hA hR hrd⟩
                | false =>
                  rw [hh, cond_false] at h'
                  split at h'
                  · rename_i z hz
                    obtain ⟨hna, h1⟩ := foundK_ok h'
                    exact ⟨_, _, h1, fun κ a w M hA hR hrd => hmiss κ a w M z hz hh hna hA hR hrd⟩
                  · cases h'
            · cases h
          · cases h
        · rename_i hx
          split at h
          · rename_i z hz
            obtain ⟨hza, zv, hzq, hzr⟩ := zeroAV_ok hZ hz
            obtain ⟨hna, h1⟩ := foundK_ok h
            refine ⟨_, _, h1, fun κ a w M hA hR hrd => ⟨_, found_rel false ok (hzr κ) hna, ?_⟩⟩
            have hk := hkey κ a hA
            have he : a.eval x = .map none := by
              have hp := hA x hmx _ hx
              generalize a.eval x = ev at hp
              cases hp; rfl
            simp only [execOp, ho]
            refine run_value ?_
            rw [he]
            have hzrun : (zeroValue elem).run P w = .ok zv w := qrun_run _ hzq w
            have g1 : Instr.findNow (kkDesc kk) (a.eval ix) [] 0 = some none := rfl
            cases ok <;> simp [Instr.lookup, Go.run_underlying ht1, MapKept.run_checkKey ht2 (keyV_isKey hk), MapKept.run_findKey ht2 g1, hzrun, Result.andThen]
          · cases h
        · cases h
      · cases h
    · cases h
  · cases h

theorem shedVK_ok {R : Type} {m : List (Nat × Row)} {x : AV} {k : AV → List Nat → Option R} {r : R} (h : shedVK m x k = some r) :
    ∃ y ns, k y ns = some r ∧ ∀ (κ : Kap) (w : World) (M : Mem), MRel κ M w → (∀ n ∈ ns, ∀ c o t, find m n = some (.cells c o t) → M n = some (.cells c false t)) → ∀ z, VRel κ x z → VRel κ.nl y z := by
  unfold shedVK at h
  split at h
  · rename_i c
    obtain ⟨ys, ns, h1, _, _, h4⟩ := shedK_ok _ h
    refine ⟨_, _, h1, fun κ w M hR hf z hz => ?_⟩
    cases hz with
    | agg _ zs hc _ => exact .agg ys zs (h4 κ w M hR hf zs hc) .nil
  · obtain ⟨y, ns, h1, _, _, h4⟩ := shed1K_ok h
    exact ⟨y, ns, h1, fun κ w M hR hf z hz => h4 κ w M hR hf [z] hz⟩

theorem mapUpdateE_ok {R : Type} {o : Oper} {t : TypeId} {x ix y : Operand} (ho : o.op = .mapUpdate t x ix y ∨ o.op = .insert t x ix y) {E : Env} {m : List (Nat × Row)} {k : Ent → Option R} {r : R} (h : mapUpdateE P t x ix y E m k = some r) {next : Nat} :
    ∃ e, k e = some r ∧ OpOk P o E next (find m) e := by
  have hmx : x ∈ o.op.operands := by rcases ho with ho | ho <;> (rw [ho]; simp [Op.operands])
  have hmi : ix ∈ o.op.operands := by rcases ho with ho | ho <;> (rw [ho]; simp [Op.operands])
  have hmy : y ∈ o.op.operands := by rcases ho with ho | ho <;> (rw [ho]; simp [Op.operands])
  have hex : ∀ ρ, execOp ρ o = (do Instr.mapUpdate t (ρ x) (ρ ix) (ρ y); pure .skip : Sem Next) := by rcases ho with ho | ho <;> (intro ρ; simp only [execOp, ho])
  unfold mapUpdateE at h
  split at h
  · rename_i kk key elem ht
    obtain ⟨ht1, ht2⟩ := mapTy_ok ht
    split at h
    · rename_i iv hiv
      split at h
      · rename_i K hK
        split at h
        · rename_i n hx
          split at h
          · rename_i kk' l clock hf
            split at h
            · rename_i v hy
              obtain ⟨hkk, h'⟩ := cond_some h
              have hkk2 := of_decide_eq_true hkk
              subst hkk2
              obtain ⟨v', ns, h1, hshed⟩ := shedVK_ok h'
              obtain ⟨hmem, h2⟩ := cond_some' h1
              obtain ⟨l', c', h3, hput⟩ := putMapK_ok h2
              refine ⟨_, h3, fun κ a w M Kk Q hA hR hrd _ hKk => ?_⟩
              have hk := keyOf_ok hK (hA ix hmi _ hiv)
              have hv := hA y hmy _ hy
              have hM : M n = some (.map kk' l clock) := (hrd n (List.mem_cons_self ..)).trans hf
              obtain ⟨κ', a1, a2, a3, a4, a5, a6⟩ := MRel.freezeAll (m := m) ns hR fun n' hn' c0 o0 t0 h0 => .inl (by rw [hrd n' (List.mem_cons_of_mem _ hn')]; exact h0)
              have hM' : (M.sets (frz m ns)) n = some (.map kk' l clock) := by rw [a5 n (memB_false hmem)]; exact hM
              have hvn := hshed κ' w _ a3 (fun n' hn' c0 o0 t0 h0 => a6 n' hn' c0 o0 t0 h0) _ (hv.mono a1)
              have hp := hA x hmx _ hx
              generalize hea : a.eval x = ev at hp
              cases hp with
              | mp _ b g0 _ =>
                have hloc : κ'.loc n = some (some b) := by rw [a2]; exact g0
                obtain ⟨es, hb, hm⟩ := map_block a3 hM' hloc
                have hrow : ∀ es', MapRel κ' kk' l' es' c' → RowRel κ' (World.putBlk w b (.map es' c')) n (.map kk' l' c') := fun es' h => ⟨b, es', hloc, putBlk_same hb, h⟩
                have fin : ∀ es', MapRel κ' kk' l' es' c' → (execOp a.eval o).run P w = .ok .skip (World.putBlk w b (.map es' c')) → o.wp P a w Kk Q := by
                  intro es' hmr hrun
                  obtain ⟨k1, k2⟩ := a3.put hM' rfl hloc (hrow es' hmr)
                  refine wp_skip' hrun (hKk κ' undef _ a1 (fun n _ => by rw [a2]) (.raw undef .nil) ?_ ?_)
                  · show MRel κ' (M.sets (frz m ns ++ [(n, some (.map kk' l' c'))])) _
                    rw [Mem.sets_append]; exact k1
                  · show Fr κ M w κ' (M.sets (frz m ns ++ [(n, some (.map kk' l' c'))])) _
                    rw [Mem.sets_append]; exact a4.trans k2
                rcases findNow_spec (keyV_isKey hk) es.toList 0 (Ents.isKey hm.ent) with ⟨q1, q2⟩ | ⟨j, e, q1, q2, q3⟩
                · rcases hput κ' kk' es.toList _ _ hm.ent hk hvn with ⟨_, p2, p3⟩ | ⟨j', e', p1, p2, _⟩
                  · subst p3
                    refine fin (es.push { key := a.eval ix, val := a.eval y, born := clock }) ⟨by simpa using p2, stamped_push hm.stamped q2⟩ ?_
                    rw [hex]
                    refine run_skip ?_
                    rw [hea]
                    simp [Instr.mapUpdate, Go.run_underlying ht1, MapKept.run_getObj_map hb, MapKept.run_checkKey ht2 (keyV_isKey hk), MapKept.run_findKey ht2 q1, MapKept.run_setObj_map _ hb, Result.andThen, World.putBlk]
                  · exact absurd p2 (q2 e' (List.mem_of_getElem? p1))
                · have hj : es[j]? = some e := by simpa using q2
                  rcases hput κ' kk' es.toList _ _ hm.ent hk hvn with ⟨p1, _⟩ | ⟨j', e', p1, p2, p3, p4⟩
                  · exact absurd q3 (p1 e (List.mem_of_getElem? q2))
                  · have : j' = j := nodup_at hm.stamped.2.2 p1 q2 (p2.trans q3.symm)
                    subst this
                    subst p4
                    have hkeym : ∀ e0, es[j']? = some e0 → ({ e0 with key := a.eval ix, val := a.eval y } : MapEntry).key = e0.key := fun e0 he0 => by rw [hj] at he0; cases he0; exact q3.symm
                    have hset : (es.modify j' fun e => { e with key := a.eval ix, val := a.eval y }).toList = es.toList.set j' ⟨a.eval ix, a.eval y, e.born⟩ := by
                      apply List.ext_getElem?
                      intro i
                      simp only [Array.getElem?_toList, Array.getElem?_modify]
                      by_cases hi : j' = i
                      · subst hi
                        have hlt := (List.getElem?_eq_some_iff.1 q2).1
                        rw [if_pos rfl, hj, List.getElem?_set_self hlt]; rfl
                      · rw [if_neg hi, List.getElem?_set_ne hi]; simp
                    refine fin (es.modify j' fun e => { e with key := a.eval ix, val := a.eval y }) ⟨by rw [hset]; rw [p1] at q2; cases q2; exact p3, stamped_modify hm.stamped _ _ (fun _ _ => rfl) (fun e' _ he' => hkeym e' he')⟩ ?_
                    rw [hex]
                    refine run_skip ?_
                    rw [hea]
                    simp [Instr.mapUpdate, Go.run_underlying ht1, MapKept.run_getObj_map hb, MapKept.run_checkKey ht2 (keyV_isKey hk), MapKept.run_findKey ht2 q1, hj, q3, MapKept.run_keyThatStays (keyV_isKey hk), MapKept.run_setObj_map _ hb, Result.andThen, World.putBlk]
            · cases h
          · rename_i xs hf
            split at h
            · rename_i id
              split at h
              · rename_i z hy
                obtain ⟨hkk, h'⟩ := cond_some h
                have hkk2 := of_decide_eq_true hkk
                subst hkk2
                refine ⟨_, h', fun κ a w M Kk Q hA hR hrd _ hKk => ?_⟩
                have hk := keyOf_ok hK (hA ix hmi _ hiv)
                have hv := hA y hmy _ hy
                have hM : M n = some (.ptab xs) := (hrd n (List.mem_singleton.2 rfl)).trans hf
                have hp := hA x hmx _ hx
                generalize hea : a.eval x = ev at hp
                cases hp with
                | mp _ b g0 _ =>
                  obtain ⟨l, clock, es, hpt, hb, hm⟩ := ptab_block hR hM g0
                  obtain ⟨l', c', hpt', hput1, _⟩ := pt_put id z clock hpt
                  have hvn : VRel κ.nl (.int .i64 z) (a.eval y) := by
                    generalize a.eval y = yv at hv
                    cases hv; exact .int _ _ .nil
                  have fin : ∀ es', MapRel κ (some .i64) l' es' c' → (execOp a.eval o).run P w = .ok .skip (World.putBlk w b (.map es' c')) → o.wp P a w Kk Q := by
                    intro es' hmr hrun
                    obtain ⟨k1, k2⟩ := hR.put (o := .map es' c') hM rfl g0 (r' := .ptab (putP id z xs)) ⟨l', c', b, es', hpt', g0, putBlk_same hb, hmr⟩
                    exact wp_skip' hrun (hKk κ undef _ (Kap.le_refl κ) (fun _ _ => rfl) (.raw undef .nil) k1 k2)
                  obtain ⟨l2, c2, h3, hput⟩ := putMapK_ok hput1
                  simp only [Option.some.injEq, Prod.mk.injEq] at h3
                  obtain ⟨rfl, rfl⟩ := h3
                  rcases findNow_spec (keyV_isKey hk) es.toList 0 (Ents.isKey hm.ent) with ⟨q1, q2⟩ | ⟨j, e, q1, q2, q3⟩
                  · rcases hput κ _ es.toList _ _ hm.ent hk hvn with ⟨_, p2, p3⟩ | ⟨j', e', p1, p2, _⟩
                    · subst p3
                      refine fin (es.push { key := a.eval ix, val := a.eval y, born := clock }) ⟨by simpa using p2, stamped_push hm.stamped q2⟩ ?_
                      rw [hex]
                      refine run_skip ?_
                      rw [hea]
                      simp [Instr.mapUpdate, Go.run_underlying ht1, MapKept.run_getObj_map hb, MapKept.run_checkKey ht2 (keyV_isKey hk), MapKept.run_findKey ht2 q1, MapKept.run_setObj_map _ hb, Result.andThen, World.putBlk]
                    · exact absurd p2 (q2 e' (List.mem_of_getElem? p1))
                  · have hj : es[j]? = some e := by simpa using q2
                    rcases hput κ _ es.toList _ _ hm.ent hk hvn with ⟨p1, _⟩ | ⟨j', e', p1, p2, p3, p4⟩
                    · exact absurd q3 (p1 e (List.mem_of_getElem? q2))
                    · have : j' = j := nodup_at hm.stamped.2.2 p1 q2 (p2.trans q3.symm)
                      subst this
                      subst p4
                      have hkeym : ∀ e0, es[j']? = some e0 → ({ e0 with key := a.eval ix, val := a.eval y } : MapEntry).key = e0.key := fun e0 he0 => by rw [hj] at he0; cases he0; exact q3.symm
                      have hset : (es.modify j' fun e => { e with key := a.eval ix, val := a.eval y }).toList = es.toList.set j' ⟨a.eval ix, a.eval y, e.born⟩ := by
                        apply List.ext_getElem?
                        intro i
                        simp only [Array.getElem?_toList, Array.getElem?_modify]
                        by_cases hi : j' = i
                        · subst hi
                          have hlt := (List.getElem?_eq_some_iff.1 q2).1
                          rw [if_pos rfl, hj, List.getElem?_set_self hlt]; rfl
                        · rw [if_neg hi, List.getElem?_set_ne hi]; simp
                      refine fin (es.modify j' fun e => { e with key := a.eval ix, val := a.eval y }) ⟨by rw [hset]; rw [p1] at q2; cases q2; exact p3, stamped_modify hm.stamped _ _ (fun _ _ => rfl) (fun e' _ he' => hkeym e' he')⟩ ?_
                      rw [hex]
                      refine run_skip ?_
                      rw [hea]
                      simp [Instr.mapUpdate, Go.run_underlying ht1, MapKept.run_getObj_map hb, MapKept.run_checkKey ht2 (keyV_isKey hk), MapKept.run_findKey ht2 q1, hj, q3, MapKept.run_keyThatStays (keyV_isKey hk), MapKept.run_setObj_map _ hb, Result.andThen, World.putBlk]
              · cases h
            · cases h
          · cases h
        · cases h
      · cases h
    · cases h
  · cases h

theorem deleteE_ok {R : Type} {o : Oper} {c : Call} {x ix : Operand} (ho : o.op = .call c) (hc : c.callee = .builtin .delete) (hx0 : c.args.toList = [x, ix]) {t tx : TypeId} (ht0 : c.argTypes.toList = [t, tx]) {E : Env} {m : List (Nat × Row)} {k : Ent → Option R} {r : R} (h : deleteE P t x ix E m k = some r) {next : Nat} :
    ∃ e, k e = some r ∧ OpOk P o E next (find m) e := by
  have e1 : c.args = #[x, ix] := by apply Array.ext'; simpa using hx0
  have e2 : c.argTypes = #[t, tx] := by apply Array.ext'; simpa using ht0
  have hmx : x ∈ o.op.operands := by rw [ho]; simp [Op.operands, Call.operands, hc, e1]
  have hmi : ix ∈ o.op.operands := by rw [ho]; simp [Op.operands, Call.operands, hc, e1]
  have callRun : ∀ {a : Act} {w w' : World} {v : Value}, (Builtin.delete_ #[t, tx] o.type #[a.eval x, a.eval ix]).run P w = .ok v w' → (execOp a.eval o).run P w = .ok (.value v) w' := by
    intro a w w' v h
    simp only [execOp, ho]
    unfold resolve
    rw [hc, e1, e2]
    refine (run_bind_ok (a := ⟨.builtin .delete #[t, tx] o.type _, #[a.eval x, a.eval ix]⟩) (w' := w) (by simp; rfl)).trans ?_
    unfold invoke builtin
    exact run_value h
  unfold deleteE at h
  split at h
  · rename_i kk key elem ht
    obtain ⟨ht1, ht2⟩ := mapTy_ok ht
    split at h
    · rename_i iv hiv
      split at h
      · rename_i K hK
        split at h
        · rename_i n hx
          split at h
          · rename_i kk' l clock hf
            obtain ⟨hkk, h'⟩ := cond_some h
            have hkk2 := of_decide_eq_true hkk
            subst hkk2
            obtain ⟨l', h3, hdel⟩ := delMapK_ok h'
            refine ⟨_, h3, fun κ a w M Kk Q hA hR hrd _ hKk => ?_⟩
            have hk := keyOf_ok hK (hA ix hmi _ hiv)
            have hM : M n = some (.map kk' l clock) := (hrd n (List.mem_singleton.2 rfl)).trans hf
            have hp := hA x hmx _ hx
            generalize hea : a.eval x = ev at hp
            cases hp with
            | mp _ b g0 _ =>
              obtain ⟨es, hb, hm⟩ := map_block hR hM g0
              have fin : ∀ es', MapRel κ kk' l' es' clock → (execOp a.eval o).run P w = .ok (.value (.tuple #[])) (World.putBlk w b (.map es' clock)) → o.wp P a w Kk Q := by
                intro es' hmr hrun
                obtain ⟨k1, k2⟩ := hR.put hM rfl g0 (r' := .map kk' l' clock) (o := .map es' clock) ⟨b, es', g0, putBlk_same hb, hmr⟩
                exact wp_value hrun (hKk κ (.tuple #[]) _ (Kap.le_refl κ) (fun _ _ => rfl) (.raw _ .nil) k1 k2)
              rcases findNow_spec (keyV_isKey hk) es.toList 0 (Ents.isKey hm.ent) with ⟨q1, q2⟩ | ⟨j, e, q1, q2, q3⟩
              · rcases hdel κ kk' es.toList _ hm.ent hk with ⟨_, p2⟩ | ⟨j', e', p1, p2, _⟩
                · subst p2
                  refine fin es hm (callRun ?_)
                  rw [hea]
                  simp [Builtin.delete_, Go.run_underlying ht1, MapKept.run_getObj_map hb, MapKept.run_checkKey ht2 (keyV_isKey hk), MapKept.run_findKey ht2 q1, MapKept.run_setObj_map _ hb, Result.andThen, World.putBlk]
                · exact absurd p2 (q2 e' (List.mem_of_getElem? p1))
              · rcases hdel κ kk' es.toList _ hm.ent hk with ⟨p1, _⟩ | ⟨j', e', p1, p2, p3⟩
                · exact absurd q3 (p1 e (List.mem_of_getElem? q2))
                · have : j' = j := nodup_at hm.stamped.2.2 p1 q2 (p2.trans q3.symm)
                  subst this
                  have hlt : j' < es.size := by simpa using (List.getElem?_eq_some_iff.1 q2).1
                  refine fin (es.eraseIdxIfInBounds j') ⟨?_, stamped_erase hm.stamped j'⟩ (callRun ?_)
                  · have : (es.eraseIdxIfInBounds j').toList = es.toList.eraseIdx j' := by
                      unfold Array.eraseIdxIfInBounds
                      rw [dif_pos hlt]; simp
                    rw [this]; exact p3
                  · rw [hea]
                    simp [Builtin.delete_, Go.run_underlying ht1, MapKept.run_getObj_map hb, MapKept.run_checkKey ht2 (keyV_isKey hk), MapKept.run_findKey ht2 q1, MapKept.run_setObj_map _ hb, Result.andThen, World.putBlk]
          · rename_i xs hf
            split at h
            · rename_i id
              obtain ⟨hkk, h'⟩ := cond_some h
              have hkk2 := of_decide_eq_true hkk
              subst hkk2
              refine ⟨_, h', fun κ a w M Kk Q hA hR hrd _ hKk => ?_⟩
              have hk := keyOf_ok hK (hA ix hmi _ hiv)
              have hM : M n = some (.ptab xs) := (hrd n (List.mem_singleton.2 rfl)).trans hf
              have hp := hA x hmx _ hx
              generalize hea : a.eval x = ev at hp
              cases hp with
              | mp _ b g0 _ =>
                obtain ⟨l, clock, es, hpt, hb, hm⟩ := ptab_block hR hM g0
                obtain ⟨l', hpt', hdel1, _⟩ := pt_del id hpt
                obtain ⟨l2, h3, hdel⟩ := delMapK_ok hdel1
                simp only [Option.some.injEq] at h3
                subst h3
                have fin : ∀ es', MapRel κ (some .i64) l2 es' clock → (execOp a.eval o).run P w = .ok (.value (.tuple #[])) (World.putBlk w b (.map es' clock)) → o.wp P a w Kk Q := by
                  intro es' hmr hrun
                  obtain ⟨k1, k2⟩ := hR.put (o := .map es' clock) hM rfl g0 (r' := .ptab (delP id xs)) ⟨l2, clock, b, es', hpt', g0, putBlk_same hb, hmr⟩
                  exact wp_value hrun (hKk κ (.tuple #[]) _ (Kap.le_refl κ) (fun _ _ => rfl) (.raw _ .nil) k1 k2)
                rcases findNow_spec (keyV_isKey hk) es.toList 0 (Ents.isKey hm.ent) with ⟨q1, q2⟩ | ⟨j, e, q1, q2, q3⟩
                · rcases hdel κ _ es.toList _ hm.ent hk with ⟨_, p2⟩ | ⟨j', e', p1, p2, _⟩
                  · subst p2
                    refine fin es hm (callRun ?_)
                    rw [hea]
                    simp [Builtin.delete_, Go.run_underlying ht1, MapKept.run_getObj_map hb, MapKept.run_checkKey ht2 (keyV_isKey hk), MapKept.run_findKey ht2 q1, MapKept.run_setObj_map _ hb, Result.andThen, World.putBlk]
                  · exact absurd p2 (q2 e' (List.mem_of_getElem? p1))
                · rcases hdel κ _ es.toList _ hm.ent hk with ⟨p1, _⟩ | ⟨j', e', p1, p2, p3⟩
                  · exact absurd q3 (p1 e (List.mem_of_getElem? q2))
                  · have : j' = j := nodup_at hm.stamped.2.2 p1 q2 (p2.trans q3.symm)
                    subst this
                    have hlt : j' < es.size := by simpa using (List.getElem?_eq_some_iff.1 q2).1
                    refine fin (es.eraseIdxIfInBounds j') ⟨?_, stamped_erase hm.stamped j'⟩ (callRun ?_)
                    · have : (es.eraseIdxIfInBounds j').toList = es.toList.eraseIdx j' := by
                        unfold Array.eraseIdxIfInBounds
                        rw [dif_pos hlt]; simp
                      rw [this]; exact p3
                    · rw [hea]
                      simp [Builtin.delete_, Go.run_underlying ht1, MapKept.run_getObj_map hb, MapKept.run_checkKey ht2 (keyV_isKey hk), MapKept.run_findKey ht2 q1, MapKept.run_setObj_map _ hb, Result.andThen, World.putBlk]
            · cases h
          · cases h
        · rename_i hx
          refine ⟨_, h, fun κ a w M Kk Q hA hR hrd _ hKk => ?_⟩
          have hk := keyOf_ok hK (hA ix hmi _ hiv)
          have he : a.eval x = .map none := by
            have hp := hA x hmx _ hx
            generalize a.eval x = ev at hp
            cases hp; rfl
          have hrun : (execOp a.eval o).run P w = .ok (.value (.tuple #[])) w := callRun (by
            rw [he]
            simp [Builtin.delete_, Go.run_underlying ht1, MapKept.run_checkKey ht2 (keyV_isKey hk), Result.andThen])
          exact wp_value hrun (hKk κ (.tuple #[]) _ (Kap.le_refl κ) (fun _ _ => rfl) (.raw _ .nil) hR (Fr.refl κ M w))
        · cases h
      · cases h
    · cases h
  · cases h
section
variable {R : Type} (P)
def lenMapE (t : TypeId) (x : Operand) (E : Env) (m : List (Nat × Row)) (k : Ent → Option R) : Option R :=
  match aeval E x with
  | some (.mp n) => match find m n with
    | some (.map _ l _) => match mapTy P t with
      | some _ => k ⟨.int .i64 (l.length : Int), [], 0, [n]⟩
      | none => none
    | _ => none
  | _ => none
end
theorem lenMapE_ok {R : Type} {o : Oper} {c : Call} {x : Operand} (ho : o.op = .call c) (hc : c.callee = .builtin .len) (hx0 : c.args.toList = [x]) {t : TypeId} (ht0 : c.argTypes.toList = [t]) {E : Env} {m : List (Nat × Row)} {k : Ent → Option R} {r : R} (h : lenMapE P t x E m k = some r) :
    ∃ v rd, k ⟨v, [], 0, rd⟩ = some r ∧ StillOk P o E (find m) v rd := by
  have e1 : c.args = #[x] := by apply Array.ext'; simpa using hx0
  have hmx : x ∈ o.op.operands := by rw [ho]; simp [Op.operands, Call.operands, hc, e1]
  unfold lenMapE at h
  split at h
  · rename_i n hx
    split at h
    · rename_i kk l clock hf
      split at h
      · rename_i ty hty
        obtain ⟨kk2, key, elem⟩ := ty
        obtain ⟨ht1, ht2⟩ := mapTy_ok hty
        refine ⟨_, _, h, fun κ a w M hA hR hrd => ⟨_, .int _ _ .nil, lenRun ho hc hx0 ht0 ?_⟩⟩
        have hp := hA x hmx _ hx
        generalize a.eval x = ev at hp
        cases hp with
        | mp _ b h1 _ =>
          obtain ⟨es, h2, h3⟩ := map_block hR ((hrd n (List.mem_singleton.2 rfl)).trans hf) h1
          have hl : es.size = l.length := by have := h3.ent.length; simpa using this
          simp [Builtin.len_, Go.run_underlying ht1, MapKept.run_getObj_map h2, Result.andThen, goInt, hl]
      · cases h
    · cases h
  · cases h
end
end Go.Sv
