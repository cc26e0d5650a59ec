/- A second evaluator for the model's code: functions of plain values; rounds that leave no rows. -/
import Derived.Test.YtojoepocppnccaaGreatSvV
namespace Go.Sv
noncomputable section
open Go.RowKit
variable {P : Program}

/-- Plain values: scalars, lists that stay; tuples and structs of these. -/
def plainA : AV → Bool
  | .tup c => c.all noNm
  | .agg c => c.all noNm
  | x => noNm x
theorem VRel.plain {κ κ' : Kap} (h : κ.nl.le κ'.nl) {x : AV} {y : Value} (hx : plainA x = true) (r : VRel κ x y) : VRel κ' x y := by
  cases x with
  | tup c => cases r with | tup _ zs h1 h2 => exact .tup c zs (CRel.noNm h hx h1) .nil
  | agg c => cases r with | agg _ zs h1 h2 => exact .agg c zs (CRel.noNm h hx h1) .nil
  | _ => exact CRel.noNm h (by simp only [List.all_cons, List.all_nil, Bool.and_true]; exact hx) r
theorem SoundFn.forget {g : FuncId} {vs : List AV} {v : AV} {st1 : AS} (h : SoundFn P g vs ⟨0, []⟩ v st1) (hv : plainA v = true) : SoundFn P g vs ⟨0, []⟩ v ⟨0, []⟩ :=
  h.pull (st2 := ⟨0, []⟩) id (fun κ _ r => r.plain (κ.pull_nl id 0) hv) (fun n r2 h => by simp [find] at h) (fun n n' r r' h => by simp [find] at h)
section
variable {K : KT} {L : LT}
theorem fn_ev (hP : ProgOk P) (hr : RegsOk P) (hK : KOk P K) (hL : LOk P L) {fuel : Nat} {g : FuncId} {vs : List AV} {v : AV} {st' : AS} (ha : vs.all (fun x => !isArr x) = true)
    (h : evFn P K L (regB P) fuel g vs ⟨0, []⟩ (fun v st => some (v, st)) = some (v, st')) : SoundFn P g vs ⟨0, []⟩ v st' := by
  obtain ⟨v', st1, hk, _, hs⟩ := evFn_ok hP hK hL (regB_ok hP hr) ha h
  simp only [Option.some.injEq, Prod.mk.injEq] at hk
  obtain ⟨rfl, rfl⟩ := hk
  exact hs
theorem fn_plain (hP : ProgOk P) (hr : RegsOk P) (hK : KOk P K) (hL : LOk P L) {fuel : Nat} {g : FuncId} {vs : List AV} {v : AV} (ha : vs.all (fun x => !isArr x) = true) (hv : plainA v = true)
    (h : evFn P K L (regB P) fuel g vs ⟨0, []⟩ ret = some v) : SoundFn P g vs ⟨0, []⟩ v ⟨0, []⟩ := by
  obtain ⟨v', st', hk, _, hs⟩ := evFn_ok hP hK hL (regB_ok hP hr) ha h
  simp only [ret, Option.some.injEq] at hk
  subst hk
  exact hs.forget hv
/-- A function of plain values. -/
theorem fnOk_plain (hP : ProgOk P) (hr : RegsOk P) (hK : KOk P K) (hL : LOk P L) {g : FuncId} {F : (R : Type) → List AV → (AV → AS → Option R) → Option R}
    (h : ∀ (R : Type) vs (k : AV → AS → Option R) r, F R vs k = some r → ∃ v, k v ⟨0, []⟩ = some r ∧ flatV 4 v ∧ plainA v = true ∧ vs.all (fun x => !isArr x) = true ∧ ∃ fuel, evFn P K L (regB P) fuel g vs ⟨0, []⟩ ret = some v) : FnOk P g F := fun R vs k r hF => by
  obtain ⟨v, h1, h2, h3, h4, fuel, h5⟩ := h R vs k r hF
  exact ⟨v, _, h1, ⟨h2, fun p hp => by cases hp⟩, fn_plain hP hr hK hL h4 h3 h5⟩
end
theorem weak_drop {nb sz q : Nat} {E : Env} {st : AS} (hE : ∀ t, noNm (E.get t) = true) (hq : nb ≤ q) : Weak nb sz E st E ⟨q, []⟩ := fun κ a w hA hR => by
  obtain ⟨h1, h2⟩ := pull_rel (st2 := ⟨q, []⟩) id hR (fun n r2 h => by simp [find] at h) (fun n n' r r' h => by simp [find] at h)
  refine ⟨κ.pull id q, ⟨fun n hlt => ?_, fun _ _ h => h, rfl, fun _ _ h => h⟩, ⟨⟨fun t => VRel.pull (hE t) (hA.rel.get t), hA.rel.defers⟩, hA.size⟩, h1, h2⟩
  rw [Kap.pull_loc (Nat.lt_of_lt_of_le hlt hq)]; rfl
theorem slots_noNm : ∀ {l : List (Nat × AV)} {E : Env}, l.all (fun p => noNm p.2) = true → (∀ t, noNm (E.get t) = true) → ∀ t, noNm ((slots l E).get t) = true := by
  intro l E hl hE t
  rcases slots_get l E t with h | h | ⟨v, h1, h2⟩
  · rw [h]; exact hE t
  · rw [h]; rfl
  · rw [h2]; exact List.all_eq_true.1 hl _ h1
/-- A round that leaves no rows: of the slots, these are kept. -/
theorem code_free {K : KT} {L : LT} (hP : ProgOk P) (hr : RegsOk P) (hK : KOk P K) (hL : LOk P L) {fuel : Nat} {g : FuncId} {c : Code} {E : Env} {st : AS} {nb q d : Nat} {ts : List Nat} {e : EK} {l : List (Nat × AV)}
    (hs : SubOk P g c) (hnb : nb ≤ st.next) (hq : nb ≤ q) (hl : l.all (fun p => noNm p.2) = true) (h : evCode P K L (regB P) fuel g c E st (fun e E' _ => some (e, keepE E' ts (Env.mk d))) = some (e, slots l (Env.mk d))) :
    CodeOk P nb (szOf P g) c E st e (slots l (Env.mk d)) ⟨q, []⟩ := by
  obtain ⟨e', E', st', hk, _, hc, _⟩ := evCode_ok hP hK hL (regB_ok hP hr) fuel g c E st _ _ nb hs.ok hs.bl hs.sq hs.rg hnb h
  simp only [Option.some.injEq, Prod.mk.injEq] at hk
  obtain ⟨rfl, hE⟩ := hk
  have h1 := hc.less (keepE_less ts (mk_less d E'))
  rw [hE] at h1
  exact h1.weak (weak_drop (slots_noNm hl fun t => by rw [Env.get_mk]; rfl) hq)

/-- A round: the slots that are kept, the rows looked at. -/
theorem code_raw {K : KT} {L : LT} (hP : ProgOk P) (hr : RegsOk P) (hK : KOk P K) (hL : LOk P L) {fuel : Nat} {g : FuncId} {c : Code} {E : Env} {st : AS} {nb d : Nat} {ts ns : List Nat} {e : EK} {E1 : Env} {rs : List (Option Row)}
    (hs : SubOk P g c) (hnb : nb ≤ st.next) (h : evCode P K L (regB P) fuel g c E st (fun e E' st' => some (e, keepE E' ts (Env.mk d), ns.map (find st'.mem))) = some (e, E1, rs)) :
    ∃ st', CodeOk P nb (szOf P g) c E st e E1 st' ∧ st.next ≤ st'.next ∧ ns.map (find st'.mem) = rs := by
  obtain ⟨e', E', st', hk, hn, hc, _⟩ := evCode_ok hP hK hL (regB_ok hP hr) fuel g c E st _ _ nb hs.ok hs.bl hs.sq hs.rg hnb h
  simp only [Option.some.injEq, Prod.mk.injEq] at hk
  obtain ⟨rfl, rfl, h1⟩ := hk
  exact ⟨st', hc.less (keepE_less ts (mk_less d E')), hn, h1⟩
/-- Values whose names lie below a bound. -/
def nm1 (q : Nat) : AV → Bool
  | .slc n _ _ _ _ _ _ => Nat.blt n q
  | .mp n => Nat.blt n q
  | .ptr n _ _ => Nat.blt n q
  | x => noNm x
def nmB (q : Nat) : AV → Bool
  | .fn _ a b => a.all (nm1 q) && b.all (nm1 q)
  | .agg c => c.all (nm1 q)
  | x => nm1 q x
theorem VRel.nm1 {q : Nat} {κ : Kap} {x : AV} {y : Value} (h : Sv.nm1 q x = true) (r : VRel κ x y) : VRel (κ.pull id q) x y := by
  cases x with
  | slc n ps o i w len cap => exact r.pull_slc rfl (by simpa [Sv.nm1] using h)
  | mp n => exact r.pull_mp rfl (by simpa [Sv.nm1] using h)
  | ptr n ps o => exact r.pull_ptr rfl (by simpa [Sv.nm1] using h)
  | _ => exact VRel.pull h r
theorem CRel.nm1 {q : Nat} {κ : Kap} : ∀ {c : List AV} {zs : List Value}, c.all (Sv.nm1 q) = true → CRel κ c zs → CRel (κ.pull id q) c zs
  | [], zs, _, r => by cases r; exact .nil
  | x :: c, zs, h, r => by
    simp only [List.all_cons, Bool.and_eq_true] at h
    obtain ⟨z1, z2, rfl, r1, r2⟩ := r.cons_inv
    have h2 := CRel.nm1 h.2 r2
    refine CRel.append (xs := [x]) ?_ h2
    by_cases ha : isArr x = true
    · cases x <;> first | (simp [isArr] at ha; done) | exact CRel.noNm (κ.pull_nl id q) rfl r1
    · obtain ⟨y, ys, rfl, r3, r4⟩ := r1.head (by simpa using ha)
      cases r4
      exact r3.nm1 h.1
theorem VRel.nmB {q : Nat} {κ : Kap} {x : AV} {y : Value} (h : Sv.nmB q x = true) (r : VRel κ x y) : VRel (κ.pull id q) x y := by
  cases x with
  | fn f a b =>
    simp only [Sv.nmB, Bool.and_eq_true] at h
    cases r with | fn _ _ _ xs ys h1 h2 h3 => exact .fn f a b xs ys (h1.nm1 h.1) (h2.nm1 h.2) .nil
  | agg c => cases r with | agg _ zs h1 h2 => exact .agg _ zs (h1.nm1 h) .nil
  | _ => exact r.nm1 h
def rowB : Row → Bool
  | .cells c _ _ => c.all noNm
  | .map _ _ _ => true
  | .ptab _ => true
theorem RowLe.same {q n : Nat} {r : Row} (hn : n < q) (h : rowB r = true) : RowLe id q n r r := by
  cases r with
  | cells c own tip => exact RowLe.plain hn h
  | map kk l clock => exact RowLe.map hn
  | ptab xs => exact RowLe.ptab hn
/-- A round that leaves these rows. -/
theorem code_rows {K : KT} {L : LT} (hP : ProgOk P) (hr : RegsOk P) (hK : KOk P K) (hL : LOk P L) {fuel : Nat} {g : FuncId} {c : Code} {E : Env} {st : AS} {nb q d : Nat} {ts : List Nat} {e : EK} {l : List (Nat × AV)} {ms : List (Nat × Row)}
    (hs : SubOk P g c) (hnb : nb ≤ st.next) (hq : nb ≤ q) (hl : l.all (fun p => nmB q p.2) = true) (hm : ms.all (fun p => Nat.blt p.1 q && rowB p.2) = true)
    (h : evCode P K L (regB P) fuel g c E st (fun e E' st' => some (e, keepE E' ts (Env.mk d), ms.map (fun p => find st'.mem p.1))) = some (e, slots l (Env.mk d), ms.map (fun p => some p.2))) :
    CodeOk P nb (szOf P g) c E st e (slots l (Env.mk d)) ⟨q, ms⟩ := by
  have h' : evCode P K L (regB P) fuel g c E st (fun e E' st' => some (e, keepE E' ts (Env.mk d), (ms.map (·.1)).map (find st'.mem))) = some (e, slots l (Env.mk d), ms.map (fun p => some p.2)) := by
    simp only [List.map_map]
    exact h
  obtain ⟨st', hc, _, hrow⟩ := code_raw hP hr hK hL hs hnb h'
  have hrow : ∀ p ∈ ms, find st'.mem p.1 = some p.2 := by
    rw [List.map_map] at hrow
    intro p hp
    exact List.map_inj_left.1 hrow p hp
  refine hc.weak fun κ a w hA hR => ?_
  obtain ⟨h1, h2⟩ := pull_rel (st2 := ⟨q, ms⟩) id hR (fun n r2 hf => by
    have hp := find_mem _ _ _ hf
    have hb := List.all_eq_true.1 hm _ hp
    simp only [Bool.and_eq_true, Nat.blt_eq] at hb
    exact ⟨r2, hrow _ hp, RowLe.same hb.1 hb.2, id⟩) (fun n n' r r' _ _ h => h)
  refine ⟨κ.pull id q, ⟨fun n hlt => ?_, fun _ _ h => h, rfl, fun _ _ h => h⟩, ⟨⟨fun t => ?_, hA.rel.defers⟩, hA.size⟩, h1, h2⟩
  · rw [Kap.pull_loc (Nat.lt_of_lt_of_le hlt hq)]; rfl
  · have hv : Sv.nmB q ((slots l (Env.mk d)).get t) = true := by
      rcases slots_get l (Env.mk d) t with h | h | ⟨v, h1, h2⟩
      · rw [h, Env.get_mk]; rfl
      · rw [h]; rfl
      · rw [h2]; exact List.all_eq_true.1 hl _ h1
    exact (hA.rel.get t).nmB hv

/-- A round, its names and rows told anew. -/
theorem code_pull {K : KT} {L : LT} (hP : ProgOk P) (hr : RegsOk P) (hK : KOk P K) (hL : LOk P L) {fuel : Nat} {g : FuncId} {c : Code} {E : Env} {st : AS} {nb q d : Nat} {ts : List Nat} {e : EK} {E1 : Env} {l : List (Nat × AV)} {ms : List (Nat × Row)}
    (ρ : Nat → Nat) (raw : Nat → Row) (hs : SubOk P g c) (hnb : nb ≤ st.next) (hq : nb ≤ q) (hρ : ∀ x, x < nb → ρ x = x) (hE : ∀ p ∈ l, ∀ κ y, VRel κ (E1.get p.1) y → VRel (κ.pull ρ q) p.2 y)
    (hm : ∀ p ∈ ms, RowLe ρ q p.1 (raw p.1) p.2 ∧ (p.2.own = true → (raw p.1).own = true)) (hi : ∀ p ∈ ms, ∀ p' ∈ ms, ρ p.1 = ρ p'.1 → p.1 = p'.1)
    (h : evCode P K L (regB P) fuel g c E st (fun e E' st' => some (e, keepE E' ts (Env.mk d), (ms.map fun p => ρ p.1).map (find st'.mem))) = some (e, E1, ms.map (fun p => some (raw p.1)))) :
    CodeOk P nb (szOf P g) c E st e (slots l (Env.mk d)) ⟨q, ms⟩ := by
  obtain ⟨st', hc, _, hrow⟩ := code_raw hP hr hK hL hs hnb h
  have hrow : ∀ p ∈ ms, find st'.mem (ρ p.1) = some (raw p.1) := by
    rw [List.map_map] at hrow
    intro p hp
    exact List.map_inj_left.1 hrow p hp
  exact hc.weak (weak_pull ρ hρ hq hE (fun n r2 hf => by
    have hp := find_mem _ _ _ hf
    exact ⟨_, hrow _ hp, (hm _ hp).1, (hm _ hp).2⟩) (fun n n' r r' h1 h2 h => hi _ (find_mem _ _ _ h1) _ (find_mem _ _ _ h2) h))
/-- A slice that may be nil, as one of no elements in a row of its own. -/
theorem weak_nil {nb sz d q w t : Nat} {E : Env} {l : List (Nat × AV)} {f : Nat → List AV} (hnb : nb ≤ q) (hE : ∀ p ∈ l, p.1 ≠ t → ∀ κ κ' y, κ.nl.le κ'.nl → VRel κ (E.get p.1) y → VRel κ' p.2 y) (ht : E.get t = .raw (.slice none 0 0)) (hl : ∀ p ∈ l, p.1 = t → p.2 = .slc q [] 0 0 w 0 0) :
    Weak nb sz E ⟨q, []⟩ (slots l (Env.mk d)) ⟨q + 1, [(q, .cells [.arr w 0 f []] true true)]⟩ := fun κ a W hA hR => by
  have hn : κ.loc q = none := hR.fresh q (Nat.le_refl _)
  have hnl : κ.nl.le (κ.at q none).nl := ⟨fun _ _ h => h, fun _ _ h => h, rfl, fun _ _ h => h⟩
  obtain ⟨h1, h2⟩ := hR.mem.new0 hn (c := [.arr w 0 f []]) arr_none true true
  have hM : (Mem.set (find []) q (some (.cells [.arr w 0 f []] true true))) = find [(q, Row.cells [.arr w 0 f []] true true)] := by
    funext x
    simp only [find, Mem.set]
    by_cases e : x = q
    · subst e; simp
    · rw [if_neg e, beq_false (Ne.symm e)]; rfl
  change MRel _ (Mem.set (find []) q _) W at h1
  change Fr κ (find []) W _ (Mem.set (find []) q _) W at h2
  rw [hM] at h1 h2
  refine ⟨κ.at q none, ⟨fun n hlt => Kap.at_ne (by omega), fun _ _ h => h, rfl, fun _ _ h => h⟩, ⟨⟨fun t' => ?_, hA.rel.defers⟩, hA.size⟩, ⟨fun n hge => ?_, h1⟩, h2⟩
  · rcases slots_get l (Env.mk d) t' with h | h | ⟨v, g1, g2⟩
    · rw [h, Env.get_mk]; exact vrel_any _ _
    · rw [h]; exact vrel_any _ _
    · rw [g2]
      have hg := hA.rel.get t'
      by_cases e : t' = t
      · subst e
        rw [ht] at hg
        have hv := hl _ g1 rfl
        dsimp only at hv
        rw [hv]
        generalize a.tmps.getD t' undef = u at hg
        cases hg
        exact .slc0 q 0 0 w [] Kap.at_same .nil
      · exact hE _ g1 e κ _ _ hnl hg
  · rw [Kap.at_ne (by dsimp only at hge; omega)]; exact hR.fresh n (by dsimp only at hge ⊢; omega)

/-- Likewise, beside other rows. -/
theorem weak_nil2 {nb sz d q w t : Nat} {mem : List (Nat × Row)} {E : Env} {l : List (Nat × AV)} {f : Nat → List AV} (hnb : nb ≤ q) (hE : ∀ p ∈ l, p.1 ≠ t → E.get p.1 = p.2) (ht : E.get t = .raw (.slice none 0 0)) (hl : ∀ p ∈ l, p.1 = t → p.2 = .slc q [] 0 0 w 0 0) :
    Weak nb sz E ⟨q, mem⟩ (slots l (Env.mk d)) ⟨q + 1, (q, .cells [.arr w 0 f []] true true) :: mem⟩ := fun κ a W hA hR => by
  have hn : κ.loc q = none := hR.fresh q (Nat.le_refl _)
  have hle : κ.le (κ.at q none) := Kap.at_le hn
  obtain ⟨h1, h2⟩ := hR.mem.new0 hn (c := [.arr w 0 f []]) arr_none true true
  have hM : (Mem.set (find mem) q (some (.cells [.arr w 0 f []] true true))) = find ((q, Row.cells [.arr w 0 f []] true true) :: mem) := by
    funext x
    simp only [find, Mem.set]
    by_cases e : x = q
    · subst e; simp
    · rw [if_neg e, beq_false (Ne.symm e)]; rfl
  change MRel _ (Mem.set (find mem) q _) W at h1
  change Fr κ (find mem) W _ (Mem.set (find mem) q _) W at h2
  rw [hM] at h1 h2
  refine ⟨κ.at q none, ⟨fun n hlt => Kap.at_ne (by omega), fun _ _ h => h, rfl, fun _ _ h => h⟩, ⟨⟨fun t' => ?_, hA.rel.defers⟩, hA.size⟩, ⟨fun n hge => ?_, h1⟩, h2⟩
  · rcases slots_get l (Env.mk d) t' with h | h | ⟨v, g1, g2⟩
    · rw [h, Env.get_mk]; exact vrel_any _ _
    · rw [h]; exact vrel_any _ _
    · rw [g2]
      have hg := hA.rel.get t'
      by_cases e : t' = t
      · subst e
        rw [ht] at hg
        have hv := hl _ g1 rfl
        dsimp only at hv
        rw [hv]
        generalize a.tmps.getD t' undef = u at hg
        cases hg
        exact .slc0 q 0 0 w [] Kap.at_same .nil
      · have hv := hE _ g1 e
        dsimp only at hv
        rw [hv] at hg
        exact hg.mono hle
  · rw [Kap.at_ne (by dsimp only at hge; omega)]; exact hR.fresh n (by dsimp only at hge ⊢; omega)

/-! ### tables of loops -/
/-- One loop more: a block of function g0 that is a loop. -/
def addL (g0 id0 : Nat) (F : (R : Type) → Env → AS → Option ((EK → Env → AS → Option R) → Option R)) (L : LT) : LT := fun R g key E st =>
  bif Nat.beq g g0 && Nat.beq key (2 * id0) then F R E st else L R g key E st
def LoopFn (P : Program) (g id : Nat) (F : (R : Type) → Env → AS → Option ((EK → Env → AS → Option R) → Option R)) : Prop :=
  ∀ (R : Type) E st G, F R E st = some G → SubOk P g (loopOf P g id) → ∀ nb, nb ≤ st.next → ∀ (k : EK → Env → AS → Option R) r, G k = some r →
    ∃ e E' st', k (e.outOf id) E' st' = some r ∧ st.next ≤ st'.next ∧ LoopOk P nb (szOf P g) (loopOf P g id) E st e E' st'
theorem addL_ok (hP : ProgOk P) {g0 id0 : Nat} {F : (R : Type) → Env → AS → Option ((EK → Env → AS → Option R) → Option R)} {L : LT} (h1 : oneLoop P g0 id0 = true) (hF : LoopFn P g0 id0 F) (hL : LOk P L) : LOk P (addL g0 id0 F L) := by
  refine ⟨fun R g id E st G h body hb nb hnb k r hk => ?_, fun R g id E st G h x body hb nb hnb k r hk => ?_⟩
  · unfold addL at h
    cases hc : (Nat.beq g g0 && Nat.beq (2 * id) (2 * id0)) with
    | true =>
      rw [hc] at h
      simp only [Bool.and_eq_true] at hc
      have hg := Nat.eq_of_beq_eq_true hc.1
      have hi : id = id0 := by have := Nat.eq_of_beq_eq_true hc.2; omega
      subst hg; subst hi
      have hbody := oneLoop_eq h1 hb
      subst hbody
      obtain ⟨e, E', st', a1, a2, a3⟩ := hF R E st G h (subOk_block hP hb).loop nb hnb k r hk
      exact ⟨_, E', st', a1, a2, a3.code.block⟩
    | false => rw [hc] at h; exact hL.block R g id E st G h body hb nb hnb k r hk
  · unfold addL at h
    cases hc : (Nat.beq g g0 && Nat.beq (2 * id + 1) (2 * id0)) with
    | true =>
      simp only [Bool.and_eq_true] at hc
      have := Nat.eq_of_beq_eq_true hc.2
      omega
    | false => rw [hc] at h; exact hL.seq R g id E st G h x body hb nb hnb k r hk
/-- The slots that a loop reads hold these. -/
theorem less_slots {E : Env} {d : Nat} : ∀ {l : List (Nat × AV)}, (∀ p ∈ l, E.get p.1 = p.2) → Less (slots l (Env.mk d)) E := by
  intro l hl t
  rcases slots_get l (Env.mk d) t with h | h | ⟨v, h1, h2⟩
  · rw [h, Env.get_mk]; exact .inr rfl
  · exact .inr h
  · rw [h2]; exact .inl (hl _ h1).symm
theorem LoopOk.less {nb sz : Nat} {b : Code} {E E' E1 : Env} {st st' : AS} {e : EK} (h : LoopOk P nb sz b E1 st e E' st') (hl : Less E1 E) : LoopOk P nb sz b E st e E' st' := by
  obtain ⟨n, hn⟩ := h
  exact ⟨n, fun κ a w hA hR => hn κ a w (hA.less hl) hR⟩
/-- What slots hold may be said otherwise. -/
theorem weak_slots {nb sz d : Nat} {E : Env} {st : AS} {l : List (Nat × AV)} (hE : ∀ p ∈ l, ∀ κ y, VRel κ (E.get p.1) y → VRel κ p.2 y) : Weak nb sz E st (slots l (Env.mk d)) st := fun κ a _ hA hR =>
  ⟨κ, Kap.leN_refl _ _, ⟨⟨fun t => by
    rcases slots_get l (Env.mk d) t with h | h | ⟨v, h1, h2⟩
    · rw [h, Env.get_mk]; exact vrel_any _ _
    · rw [h]; exact vrel_any _ _
    · rw [h2]; exact hE _ h1 κ _ (hA.rel.get t), hA.rel.defers⟩, hA.size⟩, hR, Fr.refl _ _ _⟩
theorem LoopOk.out {nb sz : Nat} {b : Code} {E E' E2 : Env} {st st' : AS} {e : EK} (h : LoopOk P nb sz b E st e E' st') (hl : Less E2 E') : LoopOk P nb sz b E st e E2 st' := by
  obtain ⟨n, hn⟩ := h
  refine ⟨n, fun κ a w hA hR => rounds_mono (fun ex a2 w2 hq => ?_) n a w (hn κ a w hA hR)⟩
  obtain ⟨h1, κ', h2, h3, h4⟩ := hq
  exact ⟨h1, κ', h2, h3.less hl, h4⟩
end
end Go.Sv
