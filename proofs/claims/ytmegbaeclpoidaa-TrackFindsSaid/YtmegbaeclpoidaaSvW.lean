/- A second evaluator for the model's code: functions of plain values; rounds that leave no rows. -/
import Derived.Test.YtmegbaeclpoidaaSvV
namespace Go.Sv
open Go.RowKit
variable {P : Program}

/-- Plain values: scalars, lists that stay; tuples and structs of these. -/
def plainA : AV → Bool
  | .tup c => c.all noNm
  | .agg c => c.all noNm
  | x => noNm x
theorem VRel.plain {κ κ' : Kap} (h : κ.nl.le κ'.nl) {x : AV} {y : Value} (hx : plainA x = true) (r : VRel κ x y) : VRel κ' x y := by
  cases x with
  | tup c => cases r with | tup _ zs h1 h2 => exact .tup c zs (CRel.noNm h hx h1) .nil
  | agg c => cases r with | agg _ zs h1 h2 => exact .agg c zs (CRel.noNm h hx h1) .nil
  | _ => exact CRel.noNm h (by simp only [List.all_cons, List.all_nil, Bool.and_true]; exact hx) r
theorem SoundFn.forget {g : FuncId} {vs : List AV} {v : AV} {st1 : AS} (h : SoundFn P g vs ⟨0, []⟩ v st1) (hv : plainA v = true) : SoundFn P g vs ⟨0, []⟩ v ⟨0, []⟩ :=
  h.pull (st2 := ⟨0, []⟩) id (fun κ _ r => r.plain (κ.pull_nl id 0) hv) (fun n r2 h => by simp [find] at h) (fun n n' r r' h => by simp [find] at h)
section
variable {K : KT} {L : LT}
theorem fn_ev (hP : ProgOk P) (hr : RegsOk P) (hK : KOk P K) (hL : LOk P L) {fuel : Nat} {g : FuncId} {vs : List AV} {v : AV} {st' : AS} (ha : vs.all (fun x => !isArr x) = true)
    (h : evFn P K L (regB P) fuel g vs ⟨0, []⟩ (fun v st => some (v, st)) = some (v, st')) : SoundFn P g vs ⟨0, []⟩ v st' := by
  obtain ⟨v', st1, hk, _, hs⟩ := evFn_ok hP hK hL (regB_ok hP hr) ha h
  simp only [Option.some.injEq, Prod.mk.injEq] at hk
  obtain ⟨rfl, rfl⟩ := hk
  exact hs
theorem fn_plain (hP : ProgOk P) (hr : RegsOk P) (hK : KOk P K) (hL : LOk P L) {fuel : Nat} {g : FuncId} {vs : List AV} {v : AV} (ha : vs.all (fun x => !isArr x) = true) (hv : plainA v = true)
    (h : evFn P K L (regB P) fuel g vs ⟨0, []⟩ ret = some v) : SoundFn P g vs ⟨0, []⟩ v ⟨0, []⟩ := by
  obtain ⟨v', st', hk, _, hs⟩ := evFn_ok hP hK hL (regB_ok hP hr) ha h
  simp only [ret, Option.some.injEq] at hk
  subst hk
  exact hs.forget hv
/-- A function of plain values. -/
theorem fnOk_plain (hP : ProgOk P) (hr : RegsOk P) (hK : KOk P K) (hL : LOk P L) {g : FuncId} {F : (R : Type) → List AV → (AV → AS → Option R) → Option R}
    (h : ∀ (R : Type) vs (k : AV → AS → Option R) r, F R vs k = some r → ∃ v, k v ⟨0, []⟩ = some r ∧ flatV 4 v ∧ plainA v = true ∧ vs.all (fun x => !isArr x) = true ∧ ∃ fuel, evFn P K L (regB P) fuel g vs ⟨0, []⟩ ret = some v) : FnOk P g F := fun R vs k r hF => by
  obtain ⟨v, h1, h2, h3, h4, fuel, h5⟩ := h R vs k r hF
  exact ⟨v, _, h1, ⟨h2, fun p hp => by cases hp⟩, fn_plain hP hr hK hL h4 h3 h5⟩
end
theorem weak_drop {nb sz q : Nat} {E : Env} {st : AS} (hE : ∀ t, noNm (E.get t) = true) (hq : nb ≤ q) : Weak nb sz E st E ⟨q, []⟩ := fun κ a w hA hR => by
  obtain ⟨h1, h2⟩ := pull_rel (st2 := ⟨q, []⟩) id hR (fun n r2 h => by simp [find] at h) (fun n n' r r' h => by simp [find] at h)
  refine ⟨κ.pull id q, ⟨fun n hlt => ?_, fun _ _ h => h, rfl, fun _ _ h => h⟩, ⟨⟨fun t => VRel.pull (hE t) (hA.rel.get t), hA.rel.defers⟩, hA.size⟩, h1, h2⟩
  rw [Kap.pull_loc (Nat.lt_of_lt_of_le hlt hq)]; rfl
theorem slots_noNm : ∀ {l : List (Nat × AV)} {E : Env}, l.all (fun p => noNm p.2) = true → (∀ t, noNm (E.get t) = true) → ∀ t, noNm ((slots l E).get t) = true := by
  intro l E hl hE t
  rcases slots_get l E t with h | h | ⟨v, h1, h2⟩
  · rw [h]; exact hE t
  · rw [h]; rfl
  · rw [h2]; exact List.all_eq_true.1 hl _ h1
/-- A round that leaves no rows: of the slots, these are kept. -/
theorem code_free {K : KT} {L : LT} (hP : ProgOk P) (hr : RegsOk P) (hK : KOk P K) (hL : LOk P L) {fuel : Nat} {g : FuncId} {c : Code} {E : Env} {st : AS} {nb q d : Nat} {ts : List Nat} {e : EK} {l : List (Nat × AV)}
    (hs : SubOk P g c) (hnb : nb ≤ st.next) (hq : nb ≤ q) (hl : l.all (fun p => noNm p.2) = true) (h : evCode P K L (regB P) fuel g c E st (fun e E' _ => some (e, keepE E' ts (Env.mk d))) = some (e, slots l (Env.mk d))) :
    CodeOk P nb (szOf P g) c E st e (slots l (Env.mk d)) ⟨q, []⟩ := by
  obtain ⟨e', E', st', hk, _, hc, _⟩ := evCode_ok hP hK hL (regB_ok hP hr) fuel g c E st _ _ nb hs.ok hs.bl hs.sq hs.rg hnb h
  simp only [Option.some.injEq, Prod.mk.injEq] at hk
  obtain ⟨rfl, hE⟩ := hk
  have h1 := hc.less (keepE_less ts (mk_less d E'))
  rw [hE] at h1
  exact h1.weak (weak_drop (slots_noNm hl fun t => by rw [Env.get_mk]; rfl) hq)

/-! ### tables of loops -/
/-- One loop more: a block of function g0 that is a loop. -/
def addL (g0 id0 : Nat) (F : (R : Type) → Env → AS → Option ((EK → Env → AS → Option R) → Option R)) (L : LT) : LT := fun R g key E st =>
  bif Nat.beq g g0 && Nat.beq key (2 * id0) then F R E st else L R g key E st
def LoopFn (P : Program) (g id : Nat) (F : (R : Type) → Env → AS → Option ((EK → Env → AS → Option R) → Option R)) : Prop :=
  ∀ (R : Type) E st G, F R E st = some G → SubOk P g (loopOf P g id) → ∀ nb, nb ≤ st.next → ∀ (k : EK → Env → AS → Option R) r, G k = some r →
    ∃ e E' st', k (e.outOf id) E' st' = some r ∧ st.next ≤ st'.next ∧ LoopOk P nb (szOf P g) (loopOf P g id) E st e E' st'
theorem addL_ok (hP : ProgOk P) {g0 id0 : Nat} {F : (R : Type) → Env → AS → Option ((EK → Env → AS → Option R) → Option R)} {L : LT} (h1 : oneLoop P g0 id0 = true) (hF : LoopFn P g0 id0 F) (hL : LOk P L) : LOk P (addL g0 id0 F L) := by
  refine ⟨fun R g id E st G h body hb nb hnb k r hk => ?_, fun R g id E st G h x body hb nb hnb k r hk => ?_⟩
  · unfold addL at h
    cases hc : (Nat.beq g g0 && Nat.beq (2 * id) (2 * id0)) with
    | true =>
      rw [hc] at h
      simp only [Bool.and_eq_true] at hc
      have hg := Nat.eq_of_beq_eq_true hc.1
      have hi : id = id0 := by have := Nat.eq_of_beq_eq_true hc.2; omega
      subst hg; subst hi
      have hbody := oneLoop_eq h1 hb
      subst hbody
      obtain ⟨e, E', st', a1, a2, a3⟩ := hF R E st G h (subOk_block hP hb).loop nb hnb k r hk
      exact ⟨_, E', st', a1, a2, a3.code.block⟩
    | false => rw [hc] at h; exact hL.block R g id E st G h body hb nb hnb k r hk
  · unfold addL at h
    cases hc : (Nat.beq g g0 && Nat.beq (2 * id + 1) (2 * id0)) with
    | true =>
      simp only [Bool.and_eq_true] at hc
      have := Nat.eq_of_beq_eq_true hc.2
      omega
    | false => rw [hc] at h; exact hL.seq R g id E st G h x body hb nb hnb k r hk
/-- The slots that a loop reads hold these. -/
theorem less_slots {E : Env} {d : Nat} : ∀ {l : List (Nat × AV)}, (∀ p ∈ l, E.get p.1 = p.2) → Less (slots l (Env.mk d)) E := by
  intro l hl t
  rcases slots_get l (Env.mk d) t with h | h | ⟨v, h1, h2⟩
  · rw [h, Env.get_mk]; exact .inr rfl
  · exact .inr h
  · rw [h2]; exact .inl (hl _ h1).symm
theorem LoopOk.less {nb sz : Nat} {b : Code} {E E' E1 : Env} {st st' : AS} {e : EK} (h : LoopOk P nb sz b E1 st e E' st') (hl : Less E1 E) : LoopOk P nb sz b E st e E' st' := by
  obtain ⟨n, hn⟩ := h
  exact ⟨n, fun κ a w hA hR => hn κ a w (hA.less hl) hR⟩
end Go.Sv
