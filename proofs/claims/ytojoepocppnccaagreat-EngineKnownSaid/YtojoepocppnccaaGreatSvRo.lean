/- A second evaluator for the model's code: calls that only look: they are run on rows that may not be written, and hand numbers back. -/
import Derived.Test.YtojoepocppnccaaGreatSvTab
namespace Go.Sv
noncomputable section
open Go.RowKit
variable {P : Program}

def frzR : Row → Row
  | .cells c _ t => .cells c false t
  | r => r
def frzA : List (Nat × Row) → List (Nat × Row)
  | [] => []
  | p :: l => (p.1, frzR p.2) :: frzA l
def cellsR : Row → Bool
  | .cells _ _ _ => true
  | _ => false
def cellsAll : List (Nat × Row) → Bool
  | [] => true
  | p :: l => cellsR p.2 && cellsAll l
theorem find_frzA : ∀ (a : List (Nat × Row)) (n : Nat) (r : Row), cellsAll a = true → find (frzA a) n = some r → ∃ c o t, r = .cells c false t ∧ find a n = some (.cells c o t)
  | [], n, r, _, h => by simp [frzA, find] at h
  | (i, x) :: a, n, r, hc, h => by
    simp only [cellsAll, Bool.and_eq_true] at hc
    simp only [frzA, find] at h ⊢
    cases hb : Nat.beq i n with
    | true =>
      rw [hb, cond_true, Option.some.injEq] at h
      cases x with
      | cells c o t => exact ⟨c, o, t, h.symm, by simp⟩
      | map _ _ _ => cases hc.1
      | ptab _ => cases hc.1
    | false =>
      rw [hb, cond_false] at h
      obtain ⟨c, o, t, h1, h2⟩ := find_frzA a n r hc.2 h
      exact ⟨c, o, t, h1, by simpa using h2⟩
/-- A number, a truth value, or several of them. -/
def numsV (v : AV) : Bool :=
  match v with
  | .int _ _ => true
  | .bool _ => true
  | .tup c => numsB c
  | _ => false
theorem nums_rel {κ κ' : Kap} : ∀ {c : List AV} {zs : List Value}, numsB c = true → CRel κ c zs → CRel κ' c zs
  | [], zs, _, r => by cases r; exact .nil
  | x :: c, zs, h, r => by
    simp only [numsB, List.all_cons, Bool.and_eq_true] at h
    obtain ⟨h1, h2⟩ := h
    cases x with
    | int k n => cases r with | int _ _ r => exact .int k n (nums_rel h2 r)
    | bool b => cases r with | bool _ r => exact .bool b (nums_rel h2 r)
    | _ => cases h1
theorem numsV_rel {κ κ' : Kap} {v : AV} {y : Value} (h : numsV v = true) (r : VRel κ v y) : VRel κ' v y := by
  cases v with
  | int k n => exact nums_rel (by simp [numsB]) r
  | bool b => exact nums_rel (by simp [numsB]) r
  | tup c => cases r with | tup _ zs h1 h2 => exact .tup c zs (nums_rel h h1) .nil
  | _ => cases h
theorem look_ent {g : FuncId} {vs : List AV} {next : Nat} {m : Mem} {acc : List (Nat × Row)} {v : AV} {st' : AS} (h : SoundFn P g vs ⟨next, frzA acc⟩ v st') (hb : bnds (bndN 6 next) vs = true) (ha : accOk next acc = true) (hc : cellsAll acc = true)
    (hm : ∀ n r, find acc n = some r → m n = some r) (hv : numsV v = true) : CallEnt P g vs next m ⟨v, [], 0, rowNames acc⟩ := by
  intro κ us w M hl hR hrd hfr
  dsimp only at hrd hfr
  have hsub : ∀ n r, find acc n = some r → M n = some r := fun n r hr => by
    rw [hrd n (rowNames_mem (find_mem _ _ _ hr))]; exact hm n r hr
  obtain ⟨κf, f1, f2, f3, f4, f5, f6⟩ := MRel.freezeAll (m := acc) (rowNames acc) hR fun n hn c o t hf => .inl (hsub n _ hf)
  have hR0 : Rel (κf.upto next) ⟨next, frzA acc⟩ w := by
    refine ⟨fun n hn => Kap.upto_ge _ hn, f3.szlt, f3.stable, fun n r hr => ?_, fun n n' r r' b h1 h2 h3 h4 ho => ?_⟩
    · obtain ⟨c, o, t, rfl, hf⟩ := find_frzA _ _ _ hc hr
      obtain ⟨q1, q2⟩ := accOk_spec ha n _ (find_mem _ _ _ hf)
      exact (f3.row n _ (f6 n (rowNames_mem (find_mem _ _ _ hf)) c o t hf)).upto q1 q2
    · obtain ⟨c, o, t, rfl, hf⟩ := find_frzA _ _ _ hc h1
      cases ho
  have hvs : CRel (κf.upto next) vs us := bnd_ok (hl.mono f1) _ hb
  refine (h (κf.upto next) us w hvs hR0).mono fun en w' he => ?_
  obtain ⟨κ1, v', hle, rfl, hv', hR', hF⟩ := he
  have hno : ∀ b, ¬ owned (κf.upto next) (find (frzA acc)) b := fun b ho => by
    obtain ⟨n, r, h1, h2, h3⟩ := ho
    obtain ⟨c, o, t, rfl, hf⟩ := find_frzA _ _ _ hc h1
    cases h2
  have hbl : Below w.heap.size w w' := hF.below hno
  refine ⟨κ, v', Kap.le_refl κ, fun _ _ => rfl, rfl, numsV_rel hv hv', ⟨fun b s hs => Nat.lt_of_lt_of_le (hR.szlt b s hs) hbl.size, fun b cs hs => ?_, fun n r hn => ?_, hR.inj⟩, ⟨fun b cs e => .inl e, hbl.os, hbl.tape, hbl.output, hbl.size, fun b hb _ => hbl.block b hb, fun b hb ho => ho⟩⟩
  · obtain ⟨rest, e, fr, hx⟩ := hR.stable b cs hs
    exact ⟨rest, e, fr, by rw [hbl.block b (Array.getElem?_eq_some_iff.1 hx).1]; exact hx⟩
  · have hrow := hR.row n r hn
    exact hrow.congr fun b hb => hbl.block b (hrow.lt hb)
/-- Contracts of functions that only look. -/
def runV (v : AV) (_ : AS) : Option AV := some v
def roK (P : Program) (K : KT) (L : LT) (fuel : Nat) (gs : List FuncId) : KT := fun R g vs st =>
  bif memB gs g then some fun k =>
    bif vs.all (fun x => !isArr x) && bnds (bndN 6 st.next) vs then
      partT st.mem (namesL (namesN 6) vs []) fun acc _ => bif cellsAll acc && accOk st.next acc then
        match evFnF P K L fuel g vs ⟨st.next, frzA acc⟩ runV with
        | some v => bif numsV v then k ⟨v, [], 0, rowNames acc⟩ else none
        | none => none
      else none
    else none
  else K R g vs st
theorem roK_ok (hP : ProgOk P) (hr : RegsOk P) {K : KT} (hK : KOk P K) {L : LT} (hL : LOk P L) (fuel : Nat) (gs : List FuncId) : KOk P (roK P K L fuel gs) := fun R g vs st F hF k r hk => by
  unfold roK at hF
  cases hb : memB gs g with
  | false => rw [hb, cond_false] at hF; exact hK R g vs st F hF k r hk
  | true =>
    rw [hb, cond_true, Option.some.injEq] at hF
    subst hF
    obtain ⟨hc, hk⟩ := cond_some hk
    simp only [Bool.and_eq_true] at hc
    obtain ⟨acc, rest, hk, hacc, _⟩ := partT_some hk
    obtain ⟨hc2, hk⟩ := cond_some hk
    simp only [Bool.and_eq_true] at hc2
    split at hk
    · rename_i v hv
      obtain ⟨hn, hk⟩ := cond_some hk
      rw [evFnF_eq] at hv
      obtain ⟨v', st', h1, _, hs⟩ := evFn_ok hP hK hL (regB_ok hP hr) hc.1 hv
      simp only [runV, Option.some.injEq] at h1
      subst h1
      exact ⟨_, hk, look_ent hs hc.2 hc2.2 hc2.1 hacc hn⟩
    · cases hk
end
end Go.Sv
