/- The contract of slices.Clone of bytes where there are none. -/
import Derived.Test.YtojoepocppnccaaGreatM
namespace Go.Sv
noncomputable section
open Go.RowKit Go.Proofs
def rE : Row := .cells [.arr 1 0 (fun _ => []) []] true true
theorem SoundFn.empty {g : FuncId} {vs : List AV} {q : Nat} {st1 : AS} (h : SoundFn Tryz.prog g vs ⟨0, []⟩ (.slc q [] 0 0 1 0 0) st1) {f : Nat → List AV} {us : List (Nat × List AV)} (hf : find st1.mem q = some (.cells [.arr 1 0 f us] true true)) :
    SoundFn Tryz.prog g vs ⟨0, []⟩ (.slc 0 [] 0 0 1 0 0) ⟨1, [(0, rE)]⟩ :=
  h.pull (st2 := ⟨1, [(0, rE)]⟩) (fun _ => q) (fun κ y hy => VRel.pull_slc rfl Nat.zero_lt_one hy) (fun n r2 hn => by
    have hp := List.mem_singleton.1 (find_mem _ _ _ hn)
    simp only [Prod.mk.injEq] at hp
    obtain ⟨rfl, rfl⟩ := hp
    exact ⟨_, hf, RowLe.arr (by dsimp only; omega) id (fun i hi => by omega), id⟩) (fun n n' r r' h1 h2 _ => by
    have hp := List.mem_singleton.1 (find_mem _ _ _ h1)
    have hp' := List.mem_singleton.1 (find_mem _ _ _ h2)
    simp only [Prod.mk.injEq] at hp hp'
    rw [hp.1, hp'.1])
theorem SoundFn.emptyNil {g : FuncId} {vs : List AV} {st1 : AS} (h : SoundFn Tryz.prog g vs ⟨0, []⟩ (.raw (.slice none 0 0)) st1) :
    SoundFn Tryz.prog g vs ⟨0, []⟩ (.slc 0 [] 0 0 1 0 0) ⟨1, [(0, rE)]⟩ := fun κ us w hl hR => by
  refine (h.forget rfl κ us w hl hR).mono fun en w' he => ?_
  obtain ⟨κ1, v', hle, rfl, hv, hR', hF⟩ := he
  have hn : κ1.loc 0 = none := hR'.fresh 0 (Nat.le_refl _)
  obtain ⟨h1, h2⟩ := hR'.mem.new0 hn (c := [.arr 1 0 (fun _ => []) []]) arr_none true true
  have hM : (Mem.set (find []) 0 (some (.cells [.arr 1 0 (fun _ => []) []] true true))) = find [(0, rE)] := by
    funext x
    simp only [find, Mem.set, rE]
    by_cases e : x = 0
    · subst e; rfl
    · rw [if_neg e, beq_false (Ne.symm e)]; rfl
  change MRel _ (Mem.set (find []) 0 _) w' at h1
  change Fr κ1 (find []) w' _ (Mem.set (find []) 0 _) w' at h2
  rw [hM] at h1 h2
  refine ⟨κ1.at 0 none, v', ⟨fun n hn => by simp at hn, fun b cs h => hle.st b cs h, hle.gh, fun b s h => hle.sz b s h⟩, rfl, ?_, ⟨fun n hge => ?_, h1⟩, hF.trans h2⟩
  · cases hv with
    | raw _ hn' => cases hn'; exact .slc0 0 0 0 1 [] Kap.at_same .nil
  · rw [Kap.at_ne (by dsimp only at hge; omega)]; exact hR'.fresh n (Nat.zero_le _)
def kRow (v : AV) (st : AS) : Option (AV × Option Row) :=
  match v with
  | .slc q _ _ _ _ _ _ => some (v, find st.mem q)
  | _ => some (v, none)
theorem kRow_row {v : AV} {st : AS} {q n : Nat} {r : Row} (h : kRow v st = some (.slc q [] 0 0 1 n n, some r)) : v = .slc q [] 0 0 1 n n ∧ find st.mem q = some r := by
  unfold kRow at h
  split at h
  · simp only [Option.some.injEq, Prod.mk.injEq] at h
    obtain ⟨h1, h2⟩ := h
    cases h1
    exact ⟨rfl, h2⟩
  · simp at h
theorem kRow_nil {v : AV} {st : AS} (h : kRow v st = some (.raw (.slice none 0 0), none)) : v = .raw (.slice none 0 0) := by
  unfold kRow at h
  split at h
  · simp at h
  · simp only [Option.some.injEq, Prod.mk.injEq] at h
    exact h.1
def catE (j : Nat) : List AV := bif Nat.blt j 0 then [] else []
theorem evCl0 (a : Addr) (c : Nat) : evFn Tryz.prog K0 L0 (regB Tryz.prog) 60 151 [.raw (.slice (some a) 0 c)] ⟨0, []⟩ kRow =
  some (.slc 1 [] 0 0 1 0 0, some (.cells [.arr 1 0 catE []] true true)) := by kernel_rfl
theorem evClN (c : Nat) : evFn Tryz.prog K0 L0 (regB Tryz.prog) 60 151 [.raw (.slice none 0 c)] ⟨0, []⟩ kRow =
  some (.raw (.slice none 0 0), none) := by kernel_rfl
def fCl (R : Type) (vs : List AV) (k : AV → AS → Option R) : Option R :=
  match vs with
  | [.lst _ _ 0 _] => k (.slc 0 [] 0 0 1 0 0) ⟨1, [(0, rE)]⟩
  | _ => none
theorem okCl : FnOk Tryz.prog 151 fCl := fun R vs k r h => by
  unfold fCl at h
  split at h
  · refine ⟨_, _, h, ⟨trivial, fun p hp => by rw [List.mem_singleton.1 hp]; exact ⟨rfl, fun x hx => by rw [List.mem_singleton.1 hx]; intro i hi; omega⟩⟩, fun κ zs w hl hR => ?_⟩
    have some_case : ∀ (a : Addr) (c : Nat), SoundFn Tryz.prog 151 [.raw (.slice (some a) 0 c)] ⟨0, []⟩ (.slc 0 [] 0 0 1 0 0) ⟨1, [(0, rE)]⟩ := fun a c => by
      obtain ⟨v, st1, hk, _, hs⟩ := evFn_ok sprog_ok.1 k0_ok l0_ok (regB_ok sprog_ok.1 sprog_ok.2) rfl (evCl0 a c)
      obtain ⟨rfl, h2⟩ := kRow_row hk
      exact hs.empty h2
    obtain ⟨y, ys, rfl, r1, r2⟩ := hl.head rfl
    cases r2
    cases r1 with
    | lst _ _ b off cap _ _ cs _ _ _ _ _ _ _ => exact some_case ⟨b, off, none⟩ cap κ _ w (.raw _ .nil) hR
    | lst0 _ cap _ _ a _ =>
      cases a with
      | some a => exact some_case a cap κ _ w (.raw _ .nil) hR
      | none =>
        obtain ⟨v, st1, hk, _, hs⟩ := evFn_ok sprog_ok.1 k0_ok l0_ok (regB_ok sprog_ok.1 sprog_ok.2) rfl (evClN cap)
        have := kRow_nil hk
        subst this
        exact hs.emptyNil κ _ w (.raw _ .nil) hR
  · cases h
/-- Of no bytes alone. -/
def cloneK (K : KT) : KT := fun R g vs st =>
  bif Nat.beq g 151 then
    match vs with
    | [.slc _ _ _ _ _ 0 _] => specK (addHas 151 has0) (addS 151 fCl S0) R g vs st
    | _ => K R g vs st
  else K R g vs st
theorem cloneK_ok {K : KT} (hK : KOk Tryz.prog K) : KOk Tryz.prog (cloneK K) := fun R g vs st F hF k r hk => by
  unfold cloneK at hF
  cases hb : Nat.beq g 151 with
  | false => rw [hb, cond_false] at hF; exact hK R g vs st F hF k r hk
  | true =>
    rw [hb, cond_true] at hF
    split at hF
    · exact specK_ok (addS_ok okCl s0_ok) R g _ st F hF k r hk
    · exact hK R g vs st F hF k r hk
end
end Go.Sv
