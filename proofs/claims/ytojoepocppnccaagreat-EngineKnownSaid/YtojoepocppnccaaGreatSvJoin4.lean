/- The loop over a map in track.Join: all of it. -/
import Derived.Test.YtojoepocppnccaaGreatSvJoin3
namespace Go.Sv
noncomputable section
open Go.RowKit Go.Proofs

theorem Ents.to_mem2 {κ : Kap} {kk : Option IntKind} : ∀ {l : Ents3} {es : List MapEntry}, Ents κ kk l es → ∀ {k b v}, (k, b, v) ∈ l → ∃ e ∈ es, e.born = b ∧ KeyV kk k e.key
  | [], [], _, _, _, _, he => by cases he
  | (k, b, v) :: l, x :: es, h, _, _, _, he => by
    rcases List.mem_cons.1 he with e | he
    · simp only [Prod.mk.injEq] at e
      obtain ⟨rfl, rfl, rfl⟩ := e
      exact ⟨x, List.mem_cons_self .., h.1.1.2, h.1.1.1⟩
    · obtain ⟨e, h1, h2⟩ := Ents.to_mem2 h.2 he
      exact ⟨e, List.mem_cons_of_mem _ h1, h2⟩
  | [], _ :: _, h, _, _, _, _ => h.elim
  | _ :: _, [], h, _, _, _, _ => h.elim
theorem ents_apart {κ : Kap} {kk : Option IntKind} : ∀ {l : Ents3} {es : List MapEntry}, Ents κ kk l es → (es.map (·.born)).Nodup → (es.map (·.key)).Nodup → StampsApart l ∧ KeysApart l
  | [], [], _, _, _ => ⟨.nil, .nil⟩
  | (k, b, v) :: l, x :: es, h, hb, hk => by
    simp only [List.map_cons, List.nodup_cons] at hb hk
    obtain ⟨i1, i2⟩ := ents_apart h.2 hb.2 hk.2
    refine ⟨List.pairwise_cons.2 ⟨fun y hy e => ?_, i1⟩, List.pairwise_cons.2 ⟨fun y hy e => ?_, i2⟩⟩
    · obtain ⟨k', b', v'⟩ := y
      obtain ⟨z, hz, hz1, _⟩ := Ents.to_mem2 h.2 hy
      exact hb.1 (List.mem_map.2 ⟨z, hz, by rw [hz1, h.1.1.2]; exact e.symm⟩)
    · obtain ⟨k', b', v'⟩ := y
      obtain ⟨z, hz, _, hz2⟩ := Ents.to_mem2 h.2 hy
      dsimp only at e
      subst e
      exact hk.1 (List.mem_map.2 ⟨z, hz, (keyV_iff hz2 h.1.1.1).1 (keyEq_refl _)⟩)
  | [], _ :: _, h, _, _ => h.elim
  | _ :: _, [], h, _, _ => h.elim

theorem loop18 {κ0 : Kap} {M0 : Mem} {w0 : World} {nb next : Nat} {m : List (Nat × Row)} {qa qb r ba ca : Nat} {la lb : Ents3} {cb : Nat} {Q : Exit → Act → World → Prop}
    (hnb : nb ≤ next) (hne : qa ≠ qb) (hqb : find m qb = some (.map (some .i64) lb cb)) (hia : intsOk la = true) (hib : intsOk lb = true) (hka : KeysApart la) (hsa : StampsApart la)
    (hQ : ∀ a w, JEnd κ0 M0 w0 nb next m qa qb r ca la (joinF lb) a w → Q (.exit 0) a w) :
    ∀ (n c0 : Nat) (seen : Array Nat) (κ : Kap) (a : Act) (w : World), JInv κ0 M0 w0 nb next m qa qb r ba ca c0 la (joinF lb) seen κ a w → unseen seen.toList la ≤ n → Code.rounds Tryz.prog (body18 Tryz.prog) Q (n + 1) a w
  | n, c0, seen, κ, a, w, h, hn => by
    rw [rounds_succ]
    refine wp_mono (round18 hnb hne hqb hia hib hka hsa h) fun e a' w' hq => ?_
    rcases hq with ⟨rfl, hend⟩ | ⟨rfl, seen', κ', hlt, hinv⟩
    · exact hQ _ _ hend
    · cases n with
      | zero => omega
      | succ n => exact loop18 hnb hne hqb hia hib hka hsa hQ n ca seen' κ' a' w' hinv (by omega)
def E18 (qa qb : Nat) : Env := ((Env.mk 6).set 6 (.mp qa)).set 8 (.mp qb)
theorem d7 : (nthO (o7 Tryz.prog) 0).op = .move (.tmp 6) ∧ (nthO (o7 Tryz.prog) 0).guard = none ∧ (nthO (o7 Tryz.prog) 0).dst = some 29 ∧ (nthO (o7 Tryz.prog) 1).guard = none ∧ (nthO (o7 Tryz.prog) 1).dst = some 30 := ⟨by kernel_rfl, by kernel_rfl, by kernel_rfl, by kernel_rfl, by kernel_rfl⟩
theorem less18 {qa qb : Nat} {E : Env} (h6 : E.get 6 = .mp qa) (h8 : E.get 8 = .mp qb) : Less (E18 qa qb) E := fun t => by
  unfold E18
  by_cases e8 : t = 8
  · subst e8; rw [h8]; exact Env.get_set_same _ _ _
  · rw [Env.get_set_ne e8]
    by_cases e6 : t = 6
    · subst e6; rw [h6]; exact Env.get_set_same _ _ _
    · rw [Env.get_set_ne e6, Env.get_mk]; exact .inr rfl
theorem moveRun {a : Act} {w : World} {v : Value} (he : a.eval (.tmp 6) = v) : (execOp a.eval (nthO (o7 Tryz.prog) 0)).run Tryz.prog w = .ok (.value v) w := by
  simp only [execOp, d7.1, he]; rfl
theorem rangeRun {a : Act} {w : World} {ba ca : Nat} {es : Array MapEntry} (he : a.eval (.tmp 29) = .map (some ba)) (hb : w.heap[ba]? = some (.map es ca)) : (execOp a.eval (nthO (o7 Tryz.prog) 1)).run Tryz.prog w = .ok (.value (.pointer (some ⟨w.heap.size, 0, none⟩))) (w.alloc (.mapIter (some ba) ca #[] ca)) := by
  simp only [execOp, o71, he]
  refine run_value ?_
  simp [Instr.range, Go.run_underlying (mapTy_ok ty96).1, MapKept.run_getObj_map hb, Result.andThen]
set_option maxRecDepth 100000 in
theorem seq18 {nb next : Nat} {m m' : List (Nat × Row)} {qa qb ca cb : Nat} {la lb : Ents3} {E : Env} (hnb : nb ≤ next) (h6 : E.get 6 = .mp qa) (h8 : E.get 8 = .mp qb) (hne : qa ≠ qb) (hqa : find m qa = some (.map (some .i64) la ca)) (hqb : find m qb = some (.map (some .i64) lb cb)) (hia : intsOk la = true) (hib : intsOk lb = true)
    (hm' : find m' = find ((qa, .map (some .i64) (turned (joinF lb) (la.map fun x => x.2.1) la) ca) :: m)) :
    CodeOk Tryz.prog nb 52 (.seq (x18 Tryz.prog) (.block 0 (b18 Tryz.prog))) E ⟨next, m⟩ .normal (E18 qa qb) ⟨next, m'⟩ := by
  intro κ a w hA hR
  have hA0 := hA.less (less18 h6 h8)
  have hp := hA0.rel.get 6
  have hget6 : (E18 qa qb).get 6 = .mp qa := by kernel_rfl
  rw [hget6] at hp
  obtain ⟨ba, hea, hloc⟩ : ∃ ba, a.eval (.tmp 6) = .map (some ba) ∧ κ.loc qa = some (some ba) := by
    have hp' : VRel κ (.mp qa) (a.eval (.tmp 6)) := hp
    generalize a.eval (.tmp 6) = u at hp'
    cases hp' with
    | mp _ b h1 _ => exact ⟨b, rfl, h1⟩
  obtain ⟨es, hbm, hmr⟩ := map_block hR.mem hqa hloc
  obtain ⟨hsa, hka⟩ := ents_apart hmr.ent hmr.stamped.2.1 hmr.stamped.2.2
  rw [x18_eq, b18_body]
  refine wp_seq (wp_region_list ?_)
  rw [o7_eq]
  refine wpList_head d7.2.1 (moveRun hea) ?_
  have hA1 : SRel κ 52 ((E18 qa qb).set 29 (.mp qa)) (a.put (nthO (o7 Tryz.prog) 0).dst (.map (some ba))) := put_set hA0 d7.2.2.1 rfl (.mp _ ba hloc .nil)
  have he29 : (a.put (nthO (o7 Tryz.prog) 0).dst (.map (some ba))).eval (.tmp 29) = .map (some ba) := by
    have h1 := hA1.rel.get 29
    have hget : ((E18 qa qb).set 29 (.mp qa)).get 29 = .mp qa := by kernel_rfl
    rw [hget] at h1
    have h1 : VRel κ (.mp qa) ((a.put (nthO (o7 Tryz.prog) 0).dst (.map (some ba))).eval (.tmp 29)) := h1
    generalize (a.put (nthO (o7 Tryz.prog) 0).dst (.map (some ba))).eval (.tmp 29) = u at h1
    cases h1 with
    | mp _ b h2 _ => rw [hloc] at h2; cases h2; rfl
  refine wpList_head d7.2.2.2.1 (rangeRun he29 hbm) ?_
  obtain ⟨hle, hR1, hF1⟩ := hR.mem.more (.mapIter (some ba) ca #[] ca) 0
  have hA2 : SRel (κ.blk w.heap.size 0) 52 (((E18 qa qb).set 29 (.mp qa)).set 30 (.raw (.pointer (some ⟨w.heap.size, 0, none⟩)))) ((a.put (nthO (o7 Tryz.prog) 0).dst (.map (some ba))).put (nthO (o7 Tryz.prog) 1).dst (.pointer (some ⟨w.heap.size, 0, none⟩))) :=
    put_set (hA1.mono hle) d7.2.2.2.2 rfl (.raw _ .nil)
  have hfind : find ((qa, Row.map (some .i64) (turned (joinF lb) [] la) ca) :: m) = find m := funext fun x => by
    simp only [find, turned_nil]
    cases hb : Nat.beq qa x with
    | false => rfl
    | true =>
      have := Nat.eq_of_beq_eq_true hb
      subst this
      rw [cond_true, hqa]
  show (Code.block 0 (.loop (body18 Tryz.prog))).wp _ _ _ _
  refine wp_block (wp_loop_rounds (unseen [] la + 1) ?_)
  refine loop18 (κ0 := κ) (M0 := find m) (w0 := w) (nb := nb) (next := next) (m := m) (qa := qa) (qb := qb) (r := w.heap.size) (ba := ba) (ca := ca) (la := la) (lb := lb) (cb := cb) hnb hne hqb hia hib hka hsa (fun a' w' hend => ?_) (unseen [] la) ca #[] (κ.blk w.heap.size 0) _ _ ⟨⟨fun _ _ => rfl, hle.st, hle.gh, hle.sz⟩, hA2.less (less_of (by kernel_rfl)), ⟨hR.fresh, ?_⟩, ?_, hloc, ?_, Nat.le_refl _, Nat.le_refl _⟩ (Nat.le_refl _)
  · show Exit.inBlock 0 _ (.exit 0) a' w'
    simp only [Exit.inBlock, if_true]
    obtain ⟨κ', e1, e2, e3, e4⟩ := hend
    exact ⟨rfl, κ', e1, e2.less (less18 (by kernel_rfl) (by kernel_rfl)), e3.find hm', by show Fr κ (find m) w κ' (find m') w'; rw [hm']; exact e4⟩
  · show MRel _ (find ((qa, Row.map (some .i64) (turned (joinF lb) [] la) ca) :: m)) _
    rw [hfind]; exact hR1
  · show Fr _ _ _ _ (find ((qa, Row.map (some .i64) (turned (joinF lb) [] la) ca) :: m)) _
    rw [hfind]; exact hF1
  · exact alloc_new
end
end Go.Sv
