/- The loop over a map in track.Join: one round. -/
import Derived.Test.YtojoepocppnccaaGreatSvJoin2
namespace Go.Sv
noncomputable section
open Go.RowKit Go.Proofs
open Go.ChangeMaps (setBlock)

theorem set_size (w : World) (r : Nat) (o : Obj) : (setBlock w r o).heap.size = w.heap.size := by simp [setBlock]
theorem set_ne (w : World) {r b : Nat} (o : Obj) (h : b ≠ r) : (setBlock w r o).heap[b]? = w.heap[b]? := by simp [setBlock, Array.getElem?_setIfInBounds_ne (Ne.symm h)]
theorem set_at (w : World) {r : Nat} (o : Obj) (h : r < w.heap.size) : (setBlock w r o).heap[r]? = some o := by simp [setBlock, h]
theorem wanted_none {o : Oper} (hg : o.guard = none) {ops : Array Oper} {a : Act} : Region.wanted o (yielded ops a.tmps) = true := by unfold Region.wanted; rw [hg]

theorem wpList_head {ops : Array Oper} {Q : Exit → Act → World → Prop} {o : Oper} {l : List Oper} {a : Act} {w w' : World} {v : Value} (hg : o.guard = none) (h : (execOp a.eval o).run Tryz.prog w = .ok (.value v) w') (hk : wpList Tryz.prog ops Q l (a.put o.dst v) w') : wpList Tryz.prog ops Q (o :: l) a w := by
  unfold wpList
  rw [wanted_none hg, if_pos rfl]
  exact .inl (wp_value h hk)
theorem nextRun' {a : Act} {w w' : World} {v : Value} {r : Nat} {ty : TypeId} (hty : ty = (nthO (o8 Tryz.prog) 0).type) (he : a.eval (.tmp 30) = .pointer (some ⟨r, 0, none⟩)) (h : (Instr.next (.pointer (some ⟨r, 0, none⟩)) false ty).run Tryz.prog w = .ok v w') : (execOp a.eval (nthO (o8 Tryz.prog) 0)).run Tryz.prog w = .ok (.value v) w' := by
  rw [hty] at h
  exact nextRun he h
theorem int64_of {κ : Kap} {q : IntKind} {n : Int} {y : Value} (h : VRel κ (.int q n) y) : y = .int q n := by cases h; rfl
theorem push_mem {x b : Nat} {l : List Nat} : (x ∈ l ++ [b]) ↔ x ∈ b :: l := by simp [Or.comm]
theorem put_set {κ : Kap} {E : Env} {a : Act} {t : Nat} {v : AV} {v' : Value} {d : Option Tmp} (h : SRel κ 52 E a) (hd : d = some t) (ht : Nat.blt t 52 = true) (hv : VRel κ v v') : SRel κ 52 (E.set t v) (a.put d v') := by
  subst hd
  exact SRel.put h (d := some t) ht hv
set_option maxRecDepth 100000 in
theorem round18 {κ0 : Kap} {M0 : Mem} {w0 : World} {nb next : Nat} {m : List (Nat × Row)} {qa qb r ba ca c0 : Nat} {la lb : Ents3} {cb : Nat} {seen : Array Nat} {κ : Kap} {a : Act} {w : World}
    (hnb : nb ≤ next) (hne : qa ≠ qb) (hqb : find m qb = some (.map (some .i64) lb cb)) (hia : intsOk la = true) (hib : intsOk lb = true) (hka : KeysApart la) (hsa : StampsApart la)
    (h : JInv κ0 M0 w0 nb next m qa qb r ba ca c0 la (joinF lb) seen κ a w) :
    (body18 Tryz.prog).wp Tryz.prog (fun e a' w' => (e = .exit 0 ∧ JEnd κ0 M0 w0 nb next m qa qb r ca la (joinF lb) a' w') ∨
      (e = .normal ∧ ∃ seen' κ', unseen seen'.toList la < unseen seen.toList la ∧ JInv κ0 M0 w0 nb next m qa qb r ba ca ca la (joinF lb) seen' κ' a' w')) a w := by
  have hrlt : r < w.heap.size := (Array.getElem?_eq_some_iff.1 h.it).1
  have hfa : ∀ l' : Ents3, find ((qa, Row.map (some .i64) l' ca) :: m) qa = some (.map (some .i64) l' ca) := fun l' => by simp [find]
  have hfb : ∀ l' : Ents3, find ((qa, Row.map (some .i64) l' ca) :: m) qb = some (.map (some .i64) lb cb) := fun l' => by
    simp only [find, beq_false hne, cond_false]; exact hqb
  obtain ⟨es, hbm, hmr⟩ := map_block h.hR.mem (hfa _) h.loc
  have hold : ∀ x ∈ es.toList, x.born < ca := hmr.stamped.1
  have he30 : a.eval (.tmp 30) = .pointer (some ⟨r, 0, none⟩) := raw_of (h.hA.rel.get 30)
  unfold body18
  refine wp_seq (wp_region_list ?_)
  rw [o8_eq]
  have hnx := fun ty => run_next_at (P := Tryz.prog) w ty r ba ca c0 seen es ca h.it hbm hold h.cc
  obtain ⟨ty, hty⟩ : ∃ ty, ty = (nthO (o8 Tryz.prog) 0).type := ⟨_, rfl⟩
  rcases hnx ty with ⟨h0, hrun⟩ | ⟨e, hemem, w1, hw1, hrun⟩
  · -- nothing is left
    refine wpList_head d8.2.1 (nextRun' hty he30 hrun) ?_
    have hA1 : SRel κ 52 ((Eh qa qb r).set 31 (.tup [.bool false])) (a.put (nthO (o8 Tryz.prog) 0).dst (.tuple #[.bool false])) := by
      exact put_set h.hA d8.2.2.1 rfl (.tup [.bool false] [.bool false] (.bool false .nil) .nil)
    refine (list8l qa qb r _).2 κ _ w _ hA1 h.hR fun κ2 a2 w2 b1 b2 b3 b4 => ?_
    show (Code.seq (.cond (.tmp 32) .skip (.exit 0)) _).wp _ _ a2 w2
    have hc : a2.eval (.tmp 32) = .bool false := bool_of (b := false) (b2.rel.get 32)
    refine wp_seq (wp_cond_false hc (wp_exit ?_))
    refine .inl ⟨rfl, κ2, Kap.leN_trans (Nat.le_refl _) h.leN (b1.mono hnb), b2.less (less_of (E := El qa qb r) (by kernel_rfl)), ?_⟩
    have hall : ∀ x ∈ la, x.2.1 ∈ seen.toList := fun x hx => by
      obtain ⟨k, b, v⟩ := x
      rcases Classical.em (b ∈ seen.toList) with hb | hb
      · exact hb
      · exfalso
        obtain ⟨e, he1, he2⟩ := Ents.to_mem hmr.ent (turned_mem (f := joinF lb) hx hb)
        have : e ∈ (leftOf es seen).toList := by
          unfold leftOf
          simp only [Array.toList_filter, List.mem_filter]
          refine ⟨he1, ?_⟩
          rw [he2]
          simpa using hb
        have hz : (leftOf es seen).toList = [] := by
          apply List.eq_nil_of_length_eq_zero
          simpa using h0
        rw [hz] at this; cases this
    have ht : turned (joinF lb) (la.map fun x => x.2.1) la = turned (joinF lb) seen.toList la := turned_all (fun x hx => List.mem_map.2 ⟨x, hx, rfl⟩) hall
    rw [ht]
    exact ⟨b3, h.fr.trans b4⟩
  · -- an entry has come
    refine wpList_head d8.2.1 (nextRun' hty he30 hrun) ?_
    have hleft : e ∈ es.toList ∧ e.born ∉ seen.toList := by
      unfold leftOf at hemem
      simp only [Array.toList_filter, List.mem_filter] at hemem
      exact ⟨hemem.1, by simpa using hemem.2⟩
    obtain ⟨k, b, v, hm1, hm2, hm3, hm4⟩ := Ents.of_mem hmr.ent e hleft.1
    have hbs : b ∉ seen.toList := hm3 ▸ hleft.2
    obtain ⟨y, hy1, hy2, hy3, hy4⟩ := turned_keys hm1
    have hyla := hy4 hbs
    subst hyla
    obtain ⟨kk, b', a0, hy5⟩ := intsOk_mem hia _ hy1
    simp only [Prod.mk.injEq] at hy5
    obtain ⟨rfl, _, rfl⟩ := hy5
    have hkey : e.key = .int .i64 kk := by
      obtain ⟨key, val, born⟩ := e
      cases key <;> simp [KeyV] at hm2
      rw [hm2.1, hm2.2]
    have hval : e.val = .int .i64 a0 := int64_of hm4
    have hw1h : w1.heap = w.heap := by rcases hw1 with rfl | rfl <;> rfl
    have hw1o : w1.os = w.os ∧ w1.tape = w.tape ∧ w1.output = w.output := by rcases hw1 with rfl | rfl <;> exact ⟨rfl, rfl, rfl⟩
    have hR1 : Rel κ ⟨next, (qa, .map (some .i64) (turned (joinF lb) seen.toList la) ca) :: m⟩ (setBlock w1 r (.mapIter (some ba) ca (seen.push e.born) ca)) :=
      ⟨h.hR.fresh, h.hR.mem.iter h.it (fun b hb => by rw [set_ne _ _ hb, hw1h]) (by rw [set_size, hw1h])⟩
    have hF1 : Fr κ0 M0 w0 κ (find ((qa, .map (some .i64) (turned (joinF lb) seen.toList la) ca) :: m)) (setBlock w1 r (.mapIter (some ba) ca (seen.push e.born) ca)) :=
      h.fr.off h.old (fun b hb => by rw [set_ne _ _ hb, hw1h]) (by rw [set_size, hw1h]) hw1o.1 hw1o.2.1 hw1o.2.2
    have hit1 : (setBlock w1 r (.mapIter (some ba) ca (seen.push e.born) ca)).heap[r]? = some (.mapIter (some ba) ca (seen.push e.born) ca) := set_at _ _ (by rw [hw1h]; exact hrlt)
    have hA1 : SRel κ 52 ((Eh qa qb r).set 31 (.tup [.bool true, .int .i64 kk, .int .i64 a0])) (a.put (nthO (o8 Tryz.prog) 0).dst (.tuple #[.bool true, e.key, e.val])) := by
      rw [hkey, hval]
      exact put_set h.hA d8.2.2.1 rfl (.tup [.bool true, .int .i64 kk, .int .i64 a0] [.bool true, .int .i64 kk, .int .i64 a0] (.bool true (.int _ _ (.int _ _ .nil))) .nil)
    refine (list8f qa qb r kk a0 _).2 κ _ _ _ hA1 hR1 fun κ2 a2 w2 b1 b2 b3 b4 => ?_
    show (Code.seq (.cond (.tmp 32) .skip (.exit 0)) _).wp _ _ a2 w2
    have hc : a2.eval (.tmp 32) = .bool true := bool_of (b := true) (b2.rel.get 32)
    refine wp_seq (wp_cond_true hc (wp_skip ?_))
    show (Code.block 1 _).wp _ _ a2 w2
    refine wp_block (wp_seq (wp_region_list ?_))
    rw [o9_eq]
    have hqn : qa < next := by
      rcases Nat.lt_or_ge qa next with h' | h'
      · exact h'
      · have := h.hR.fresh qa h'; rw [h.loc] at this; cases this
    have hloc2 : κ2.loc qa = some (some ba) := by rw [b1.loc qa hqn]; exact h.loc
    have hno1 : ¬ owned κ (find ((qa, .map (some .i64) (turned (joinF lb) seen.toList la) ca) :: m)) r := by
      rintro ⟨n, row, g1, _, g3⟩
      exact hR1.mem.notIter hit1 n row g1 g3
    have hrlt1 : r < (setBlock w1 r (.mapIter (some ba) ca (seen.push e.born) ca)).heap.size := (Array.getElem?_eq_some_iff.1 hit1).1
    have hit2 : w2.heap[r]? = some (.mapIter (some ba) ca (seen.push e.born) ca) := by rw [b4.keep r hrlt1 hno1]; exact hit1
    obtain ⟨es2, hbm2, hmr2⟩ := map_block b3.mem (hfa _) hloc2
    obtain ⟨e2, he2, heb⟩ := Ents.to_mem hmr2.ent hm1
    obtain ⟨k3, b3', v3, q1, q2, q3, q4⟩ := Ents.of_mem hmr2.ent e2 he2
    -- it is the same entry
    obtain ⟨y3, p1, p2, p3, p4⟩ := turned_keys q1
    have hb3 : b3' = e.born := by rw [← q3, heb, hm3]
    have hy3 := p4 (by rw [hb3, hm3]; exact hbs)
    subst hy3
    have hsame : (k3, b3', v3) = (.i kk, b, .int .i64 a0) := stamps_eq hsa p1 hy1 (by dsimp only; rw [hb3, hm3])
    simp only [Prod.mk.injEq] at hsame
    obtain ⟨rfl, _, rfl⟩ := hsame
    have hkey2 : e2.key = .int .i64 kk := by
      obtain ⟨key, val, born⟩ := e2
      cases key <;> simp [KeyV] at q2
      rw [q2.1, q2.2]
    have hval2 : e2.val = .int .i64 a0 := int64_of q4
    have he30' : a2.eval (.tmp 30) = .pointer (some ⟨r, 0, none⟩) := raw_of (b2.rel.get 30)
    have hrun2 := run_entry_at (P := Tryz.prog) w2 r ba ca seen es2 ca e2 (by rw [heb, ← hm3]; exact hit2) hbm2 he2 hmr2.stamped.2.1
    refine wpList_head d9.2.1 (entryRun he30' hrun2) ?_
    have hA3 : SRel κ2 52 ((Ef qa qb r kk a0).set 33 (.tup [.int .i64 kk, .int .i64 a0])) (a2.put (nthO (o9 Tryz.prog) 0).dst (.tuple #[e2.key, e2.val])) := by
      rw [hkey2, hval2]
      exact put_set b2 d9.2.2.1 rfl (.tup [.int .i64 kk, .int .i64 a0] [.int .i64 kk, .int .i64 a0] (.int _ _ (.int _ _ .nil)) .nil)
    refine (list9 qa qb r kk a0 _).2 κ2 _ w2 _ hA3 b3 fun κ3 a3 w3 c1 c2 c3 c4 => ?_
    obtain ⟨hsome, hstep⟩ := turned_step (f := joinF lb) (seen := seen.toList) hka hsa hy1 hbs
    obtain ⟨E', hless, hrest⟩ := rest18_ok qa qb r kk a0 next next _ (Nat.le_refl _) (hfa _) (hfb _) hsome hib
    refine wp_mono (hrest κ3 a3 w3 (c2.less (less9 qa qb r kk a0)) c3) fun ex a4 w4 hq => ?_
    obtain ⟨rfl, κ4, d1, d2, d3, d4⟩ := hq
    refine .inr ⟨rfl, seen.push e.born, κ4, ?_, ?_⟩
    · have : unseen (seen.push e.born).toList la = unseen (b :: seen.toList) la := by
        unfold unseen
        congr 1
        refine List.filter_congr fun x _ => ?_
        rw [Array.toList_push, hm3, decide_eq_decide]
        exact not_congr push_mem
      rw [this]
      exact unseen_step hy1 hbs
    · have hturn : turned (joinF lb) (seen.push e.born).toList la = turned (joinF lb) (b :: seen.toList) la := turned_congr (fun x => by rw [Array.toList_push, hm3]; exact push_mem) la
      have hfind : ∀ l1 l2 : Ents3, find ((qa, Row.map (some .i64) l1 ca) :: m) = find ((qa, Row.map (some .i64) l1 ca) :: (qa, Row.map (some .i64) l2 ca) :: m) := fun l1 l2 => funext fun x => by
        simp only [find]
        cases Nat.beq qa x <;> rfl
      have hno2 : ¬ owned κ2 (find ((qa, .map (some .i64) (turned (joinF lb) seen.toList la) ca) :: m)) r := by
        rintro ⟨n, row, g1, _, g3⟩
        exact b3.mem.notIter hit2 n row g1 g3
      have hrlt2 : r < w2.heap.size := (Array.getElem?_eq_some_iff.1 hit2).1
      have hit3 : w3.heap[r]? = some (.mapIter (some ba) ca (seen.push e.born) ca) := by rw [c4.keep r hrlt2 hno2]; exact hit2
      have hno3 : ¬ owned κ3 (find ((qa, .map (some .i64) (turned (joinF lb) seen.toList la) ca) :: m)) r := by
        rintro ⟨n, row, g1, _, g3⟩
        exact c3.mem.notIter hit3 n row g1 g3
      have hrlt3 : r < w3.heap.size := (Array.getElem?_eq_some_iff.1 hit3).1
      have d3' : Rel κ4 ⟨next, (qa, .map (some .i64) (turned (joinF lb) (b :: seen.toList) la) ca) :: (qa, .map (some .i64) (turned (joinF lb) seen.toList la) ca) :: m⟩ w4 := by rw [hstep]; exact d3
      have d4' : Fr κ3 (find ((qa, .map (some .i64) (turned (joinF lb) seen.toList la) ca) :: m)) w3 κ4 (find ((qa, .map (some .i64) (turned (joinF lb) (b :: seen.toList) la) ca) :: (qa, .map (some .i64) (turned (joinF lb) seen.toList la) ca) :: m)) w4 := by rw [hstep]; exact d4
      refine ⟨?_, d2.less hless, ?_, ?_, ?_, ?_, Nat.le_refl _, h.old⟩
      · exact Kap.leN_trans (Nat.le_refl _) (Kap.leN_trans (Nat.le_refl _) (Kap.leN_trans (Nat.le_refl _) h.leN (b1.mono hnb)) (c1.mono hnb)) (d1.mono hnb)
      · rw [hturn]; exact d3'.find (hfind _ _)
      · rw [hturn, hfind _ (turned (joinF lb) seen.toList la)]; exact ((hF1.trans b4).trans c4).trans d4'
      · rw [d1.loc qa hqn, c1.loc qa hqn]; exact hloc2
      · rw [d4.keep r hrlt3 hno3]; exact hit3
end
end Go.Sv
