/- The contracts of chapter 16's map work as the second evaluator takes them. -/
import Derived.Test.YtojoepocppnccaaGreatSvJoin4
import Derived.Test.YtojoepocppnccaaGreatSvK1
namespace Go.Sv
noncomputable section
open Go.RowKit Go.Proofs

def allK {R : Type} (lb : Ents3) : Ents3 → (Ents3 → Option R) → Option R
  | [], k => k []
  | (kk, b, v) :: l, k => lookK lb kk (fun v' =>
      match v, v' with
      | .int q a, .int _ b' => allK lb l fun l' => k ((kk, b, .int q (bif decide (b' < a) then b' else a)) :: l')
      | _, _ => none) (allK lb l k)
theorem allK_ok {R : Type} {lb : Ents3} {r : R} {S : List Nat} : ∀ (la : Ents3) (k : Ents3 → Option R), (∀ x ∈ la, x.2.1 ∈ S) → allK lb la k = some r → k (turned (joinF lb) S la) = some r
  | [], k, _, h => h
  | (kk, b, v) :: l, k, hs, h => by
    have hb : b ∈ S := hs _ (List.mem_cons_self ..)
    have hs' : ∀ x ∈ l, x.2.1 ∈ S := fun x hx => hs x (List.mem_cons_of_mem _ hx)
    simp only [allK, lookK_eq] at h
    simp only [turned, if_pos hb]
    cases hg : mapGet lb kk with
    | none =>
      rw [hg] at h
      have : joinF lb kk v = none := by simp only [joinF, hg]
      rw [this]
      exact allK_ok l k hs' h
    | some v' =>
      rw [hg] at h
      dsimp only at h
      split at h
      · rename_i q a q' b'
        have : joinF lb kk (.int q a) = some (.int q (bif decide (b' < a) then b' else a)) := by simp only [joinF, hg]
        rw [this]
        exact allK_ok l _ hs' h
      · cases h
def L18 : LT := fun _ g id E st => bif Nat.beq g 252 && Nat.beq id 1 then
    match E.get 6 with
    | .mp qa => match E.get 8 with
      | .mp qb => match find st.mem qa with
        | some (.map (some .i64) la ca) => match find st.mem qb with
          | some (.map (some .i64) lb _) => some fun k => bif !(Nat.beq qa qb) && (intsOk la && intsOk lb) then
              allK lb la fun l' => setRowK st.mem qa (some (.map (some .i64) l' ca)) fun m' => k .normal (E18 qa qb) ⟨st.next, m'⟩ else none
          | _ => none
        | _ => none
      | _ => none
    | _ => none
  else none
set_option maxRecDepth 100000 in
theorem L18_ok : LOk Tryz.prog L18 := by
  refine ⟨fun R g id E st F h => ?_, fun R g id E st F h x body hmem nb hnb k r hF => ?_⟩
  · unfold L18 at h
    obtain ⟨hb, _⟩ := cond_some h
    simp only [Bool.and_eq_true] at hb
    have := Nat.eq_of_beq_eq_true hb.2
    omega
  · unfold L18 at h
    obtain ⟨hb, h1⟩ := cond_some h
    simp only [Bool.and_eq_true] at hb
    have hg := Nat.eq_of_beq_eq_true hb.1
    have hid := Nat.eq_of_beq_eq_true hb.2
    have hid0 : id = 0 := by omega
    subst hg; subst hid0
    have hmem' : (0, x, body) ∈ q18 Tryz.prog := hmem
    rw [q18_eq] at hmem'
    have hxb : x = x18 Tryz.prog ∧ body = b18 Tryz.prog := by
      rcases List.mem_cons.1 hmem' with e | e
      · simp only [Prod.mk.injEq, true_and] at e; exact e
      · rcases List.mem_cons.1 e with e | e
        · simp at e
        · cases e
    obtain ⟨rfl, rfl⟩ := hxb
    split at h1
    · rename_i qa h6
      split at h1
      · rename_i qb h8
        split at h1
        · rename_i la ca hqa
          split at h1
          · rename_i lb cb hqb
            simp only [Option.some.injEq] at h1
            subst h1
            obtain ⟨hc, hF1⟩ := cond_some hF
            simp only [Bool.and_eq_true, Bool.not_eq_true'] at hc
            have hne : qa ≠ qb := fun e => by subst e; simp at hc
            have hF2 := allK_ok (S := la.map fun x => x.2.1) la _ (fun x hx => List.mem_map.2 ⟨x, hx, rfl⟩) hF1
            obtain ⟨m', hk, hm'⟩ := setRowK_some _ _ _ _ hF2
            refine ⟨.normal, E18 qa qb, ⟨st.next, m'⟩, hk, Nat.le_refl _, ?_⟩
            rw [sz18]
            refine seq18 hnb h6 h8 hne hqa hqb hc.2.1 hc.2.2 (funext fun x => ?_)
            rw [hm']
            simp only [find, Mem.set]
            by_cases e : x = qa
            · subst e; simp
            · rw [if_neg e, beq_false (Ne.symm e)]; rfl
          · cases h1
        · cases h1
      · cases h1
    · cases h1
def KA : KT := fun _ g vs st => bif Nat.beq g 262 then K103 vs st else none
theorem KA_ok : KOk Tryz.prog KA := fun R g vs st F h k r hF => by
  unfold KA at h
  obtain ⟨hb, h1⟩ := cond_some h
  have := Nat.eq_of_beq_eq_true hb
  subst this
  exact K103_ok h1 hF
end
end Go.Sv
