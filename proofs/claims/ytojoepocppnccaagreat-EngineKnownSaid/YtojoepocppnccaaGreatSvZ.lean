/- A second evaluator for the model's code: a call on one row, told for whatever name the row has. -/
import Derived.Test.YtojoepocppnccaaGreatSvY
namespace Go.Sv
noncomputable section
open Go.RowKit
variable {P : Program}

/-- One name alone, told as the name 0. -/
def Kap.one (κ : Kap) (q : Nat) : Kap := ⟨fun n => if n = 0 then κ.loc q else none, κ.st, κ.gh, κ.sz⟩
theorem Kap.one_loc (κ : Kap) (q : Nat) : (κ.one q).loc 0 = κ.loc q := by simp [Kap.one]
theorem Kap.one_nl (κ : Kap) (q : Nat) : κ.nl.le (κ.one q).nl := ⟨fun _ _ h => h, fun _ _ h => h, rfl, fun _ _ h => h⟩
/-- A row of no names, in another world with other names. -/
theorem RowRel.named {κ κ' : Kap} {w : World} {n n' : Nat} {r : Row} (hb : rowB r = true) (hn : κ.nl.le κ'.nl) (hl : κ'.loc n' = κ.loc n) (hst : ∀ b, κ.loc n = some (some b) → κ.st b = none → κ'.st b = none) (hs : ∀ b cs, κ.st b = some cs → κ'.st b = some cs) (hz : ∀ b s, κ.sz b = some s → κ'.sz b = some s)
    (h : RowRel κ w n r) : RowRel κ' w n' r := by
  cases r with
  | cells c own tip =>
    rcases h with ⟨h1, h2⟩ | ⟨b, zs, rest, e, fr, h1, h2, h3, h4, h5, h6, h7⟩
    · exact .inl ⟨hl.trans h1, CRel.noNm hn hb h2⟩
    · exact .inr ⟨b, zs, rest, e, fr, hl.trans h1, h2, CRel.noNm hn hb h3, h4, fun ho => ⟨(h5 ho).1, hst b h1 (h5 ho).2⟩, fun ho => hs _ _ (h6 ho), hz _ _ h7⟩
  | map kk l clock =>
    obtain ⟨b, es, h1, h2, h3⟩ := h
    exact ⟨b, es, hl.trans h1, h2, Ents.mono (κ := κ) (κ' := κ') hn h3.ent, h3.stamped⟩
  | ptab xs =>
    obtain ⟨l, clock, b, es, h0, h1, h2, h3⟩ := h
    exact ⟨l, clock, b, es, h0, hl.trans h1, h2, Ents.mono (κ := κ) (κ' := κ') hn h3.ent, h3.stamped⟩
def oneMem : Option Row → List (Nat × Row)
  | none => []
  | some r => [(0, r)]
theorem row_ent {g : FuncId} {xs vs : List AV} {q next : Nat} {m : List (Nat × Row)} {r : Row} {o : Option Row} {v : AV} (hv : plainA v = true) (hm : find m q = some r) (hrb : rowB r = true) (hro : r.own = true) (hob : ∀ r', o = some r' → rowB r' = true)
    (hx : ∀ κ ys, CRel κ xs ys → CRel (κ.one q) vs ys) (h : SoundFn P g vs ⟨1, [(0, r)]⟩ v ⟨1, oneMem o⟩) : CallEnt P g xs next (find m) ⟨v, [(q, o)], 0, [q]⟩ := by
  intro κ us w M hl hR hrd hfr
  have hMq : M q = some r := (hrd q (List.mem_singleton.2 rfl)).trans hm
  have hrow := hR.row q r hMq
  have hR0 : Rel (κ.one q) ⟨1, [(0, r)]⟩ w := by
    refine ⟨fun n hn => if_neg (by dsimp only at hn; omega), hR.szlt, hR.stable, fun n r2 h2 => ?_, fun n n' r1 r2 b h1 h2 _ _ _ => ?_⟩
    · have hp := List.mem_singleton.1 (find_mem _ _ _ h2)
      simp only [Prod.mk.injEq] at hp
      obtain ⟨rfl, rfl⟩ := hp
      exact hrow.named hrb (κ.one_nl q) rfl (fun _ _ h => h) (fun _ _ h => h) (fun _ _ h => h)
    · have hp := List.mem_singleton.1 (find_mem _ _ _ h1)
      have hp' := List.mem_singleton.1 (find_mem _ _ _ h2)
      simp only [Prod.mk.injEq] at hp hp'
      rw [hp.1, hp'.1]
  refine (h (κ.one q) us w (hx κ us hl) hR0).mono fun en w' he => ?_
  obtain ⟨κ1, v', hle, rfl, hv', hR', hF⟩ := he
  have hloc0 : κ1.loc 0 = κ.loc q := (hle.loc 0 (by dsimp only; omega)).trans (κ.one_loc q)
  have hown0 : ∀ b, owned (κ.one q) (find [(0, r)]) b → κ.loc q = some (some b) := fun b ho => by
    obtain ⟨n, r2, h1, h2, h3⟩ := ho
    have hp := List.mem_singleton.1 (find_mem _ _ _ h1)
    simp only [Prod.mk.injEq] at hp
    obtain ⟨rfl, rfl⟩ := hp
    exact h3
  have hother : ∀ n rr b, n ≠ q → M n = some rr → κ.loc n = some (some b) → ¬ owned (κ.one q) (find [(0, r)]) b := fun n rr b hne h1 h2 ho => hne (hR.inj q n r rr b hMq h1 (hown0 b ho) h2 hro).symm
  let κ' : Kap := ⟨κ.loc, κ1.st, κ.gh, κ1.sz⟩
  have hκ : κ.le κ' := ⟨fun _ _ h => h, fun b cs h => hle.st b cs h, rfl, fun b s h => hle.sz b s h⟩
  have hnl : κ1.nl.le κ'.nl := ⟨fun n x e => by simp [Kap.nl] at e, fun _ _ h => h, hle.gh.symm, fun _ _ h => h⟩
  have hsets : ∀ n, (M.sets [(q, o)]) n = if n = q then o else M n := fun n => rfl
  have hnew : ∀ r', o = some r' → RowRel κ' w' q r' := fun r' ho => by
    subst ho
    exact (hR'.mem.row 0 r' rfl).named (hob r' rfl) hnl hloc0.symm (fun _ _ h => h) (fun _ _ h => h) (fun _ _ h => h)
  refine ⟨κ', v', hκ, fun _ _ => rfl, rfl, hv'.plain hnl hv, ⟨hR'.mem.szlt, hR'.mem.stable, fun n rr hn => ?_, fun n n' r1 r2 b h1 h2 h3 h4 ho => ?_⟩, ⟨fun b cs e => ?_, hF.os, hF.tape, hF.output, hF.size, fun b hb hno => ?_, fun b hb ho => ?_⟩⟩
  · change (M.sets [(q, o)]) n = some rr at hn
    rw [hsets] at hn
    by_cases e : n = q
    · rw [if_pos e] at hn; rw [e]; exact hnew rr hn
    · rw [if_neg e] at hn
      have hrr := hR.row n rr hn
      refine (hrr.congr (w' := w') fun b hb => hF.keep b (hrr.lt hb) (hother n rr b e hn hb)).mono hκ fun b hb hs => ?_
      show κ1.st b = none
      cases hx : κ1.st b with
      | none => rfl
      | some cs =>
        rcases hF.sts b cs hx with h | h | h
        · have h : κ.st b = some cs := h
          rw [hs] at h; cases h
        · have := hrr.lt hb; omega
        · exact absurd h (hother n rr b e hn hb)
  · change (M.sets [(q, o)]) n = some r1 at h1
    change (M.sets [(q, o)]) n' = some r2 at h2
    rw [hsets] at h1 h2
    by_cases e : n = q <;> by_cases e' : n' = q
    · rw [e, e']
    · rw [if_neg e'] at h2
      rw [e] at h3
      exact e.trans (hR.inj q n' r r2 b hMq h2 h3 h4 hro)
    · rw [if_neg e] at h1
      rw [e'] at h4
      exact (hR.inj n q r1 r b h1 hMq h3 h4 ho).trans e'.symm
    · rw [if_neg e] at h1; rw [if_neg e'] at h2
      exact hR.inj n n' r1 r2 b h1 h2 h3 h4 ho
  · rcases hF.sts b cs e with h | h | h
    · exact .inl h
    · exact .inr (.inl h)
    · exact .inr (.inr ⟨q, r, hMq, hro, hown0 b h⟩)
  · exact hF.keep b hb fun ho => hno ⟨q, r, hMq, hro, hown0 b ho⟩
  · obtain ⟨n, rr, h1, h2, h3⟩ := ho
    change (M.sets [(q, o)]) n = some rr at h1
    rw [hsets] at h1
    by_cases e : n = q
    · rw [e] at h3; exact ⟨q, r, hMq, hro, h3⟩
    · rw [if_neg e] at h1; exact ⟨n, rr, h1, h2, h3⟩
/-- Handed-in slices of one row. -/
theorem CRel.oneSlc {κ : Kap} {q : Nat} {ps : List (Nat × Nat × Nat)} {o i w len cap : Nat} {xs : List AV} {ys : List Value} (hx : xs.all Sv.noNm = true) (h : CRel κ (.slc q ps o i w len cap :: xs) ys) : CRel (κ.one q) (.slc 0 ps o i w len cap :: xs) ys := by
  obtain ⟨y, zs, rfl, r1, r2⟩ := h.head rfl
  have r2' := CRel.noNm (κ.one_nl q) hx r2
  refine CRel.append (xs := [_]) (ys := [y]) ?_ r2'
  cases r1 with
  | slc _ _ _ _ _ _ _ b cap' a h1 h2 h3 h4 _ => exact .slc _ _ _ _ _ _ _ b cap' a ((κ.one_loc q).trans h1) h2 h3 h4 .nil
  | slc0 _ _ _ _ _ h1 _ => exact .slc0 _ _ _ _ _ ((κ.one_loc q).trans h1) .nil
/-- What a call comes to, rows dropped or told less. -/
theorem SoundFn.keep1 {g : FuncId} {vs : List AV} {v : AV} {r0 : Row} {st1 : AS} {o : Option Row} (h : SoundFn P g vs ⟨1, [(0, r0)]⟩ v st1) (hv : plainA v = true) (ho : ∀ r', o = some r' → find st1.mem 0 = some r' ∧ rowB r' = true) : SoundFn P g vs ⟨1, [(0, r0)]⟩ v ⟨1, oneMem o⟩ := fun κ us w hl hR => by
  refine (h κ us w hl hR).mono fun en w' he => ?_
  obtain ⟨κ1, v', hle, rfl, hv', hR', hF⟩ := he
  obtain ⟨a2, a3⟩ := pull_rel (st2 := ⟨1, oneMem o⟩) id hR' (fun n r2 hn => by
    cases o with
    | none => simp [oneMem, find] at hn
    | some r' =>
      have hp := List.mem_singleton.1 (find_mem _ _ _ hn)
      simp only [Prod.mk.injEq] at hp
      obtain ⟨rfl, rfl⟩ := hp
      exact ⟨_, (ho _ rfl).1, RowLe.same (by dsimp only; omega) (ho _ rfl).2, id⟩) (fun n n' r r' _ _ h => h)
  refine ⟨κ1.pull id 1, v', ⟨fun n hn => ?_, fun b cs h => hle.st b cs h, hle.gh, fun b s h => hle.sz b s h⟩, rfl, hv'.plain (κ1.pull_nl id 1) hv, a2, hF.trans a3⟩
  rw [Kap.pull_loc hn]; exact hle.loc n hn
theorem fn_ev1 {K : KT} {L : LT} (hP : ProgOk P) (hr : RegsOk P) (hK : KOk P K) (hL : LOk P L) {fuel : Nat} {g : FuncId} {vs : List AV} {st st' : AS} {v : AV} (ha : vs.all (fun x => !isArr x) = true)
    (h : evFn P K L (regB P) fuel g vs st (fun v st => some (v, st)) = some (v, st')) : SoundFn P g vs st v st' := by
  obtain ⟨v', st1, hk, _, hs⟩ := evFn_ok hP hK hL (regB_ok hP hr) ha h
  simp only [Option.some.injEq, Prod.mk.injEq] at hk
  obtain ⟨rfl, rfl⟩ := hk
  exact hs
theorem RowRel.arrExt {κ : Kap} {w : World} {n W N : Nat} {f f' : Nat → List AV} {us us' : List (Nat × List AV)} {own tip : Bool} (he : ∀ i, i < N → elt us' f' i = elt us f i) (h : RowRel κ w n (.cells [.arr W N f us] own tip)) : RowRel κ w n (.cells [.arr W N f' us'] own tip) := by
  rcases h with ⟨h1, h2⟩ | ⟨b, zs, rest, e, fr, h1, h2, h3, h4⟩
  · exact .inl ⟨h1, arr_ext h2 he⟩
  · exact .inr ⟨b, zs, rest, e, fr, h1, h2, arr_ext h3 he, h4⟩
theorem SoundFn.row {g : FuncId} {vs : List AV} {v : AV} {r1 r2 : Row} {st' : AS} (hr : ∀ κ w, RowRel κ w 0 r1 → RowRel κ w 0 r2) (ho : r2.own = true → r1.own = true) (h : SoundFn P g vs ⟨1, [(0, r2)]⟩ v st') : SoundFn P g vs ⟨1, [(0, r1)]⟩ v st' := fun κ us w hl hR => by
  have hR2 : Rel κ ⟨1, [(0, r2)]⟩ w := ⟨hR.fresh, hR.mem.szlt, hR.mem.stable, fun n r hn => by
    have hp := List.mem_singleton.1 (find_mem _ _ _ hn)
    simp only [Prod.mk.injEq] at hp
    obtain ⟨rfl, rfl⟩ := hp
    exact hr κ w (hR.mem.row 0 r1 rfl), fun n n' r r' b h1 h2 _ _ _ => by
    have hp := List.mem_singleton.1 (find_mem _ _ _ h1)
    have hp' := List.mem_singleton.1 (find_mem _ _ _ h2)
    simp only [Prod.mk.injEq] at hp hp'
    rw [hp.1, hp'.1]⟩
  have hown : ∀ b, owned κ (find [(0, r2)]) b → owned κ (find [(0, r1)]) b := fun b ho' => by
    obtain ⟨n, r, h1, h2, h3⟩ := ho'
    have hp := List.mem_singleton.1 (find_mem _ _ _ h1)
    simp only [Prod.mk.injEq] at hp
    obtain ⟨rfl, rfl⟩ := hp
    exact ⟨0, r1, rfl, ho h2, h3⟩
  refine (h κ us w hl hR2).mono fun en w' he => ?_
  obtain ⟨κ1, v', hle, rfl, hv', hR', hF⟩ := he
  exact ⟨κ1, v', hle, rfl, hv', hR', ⟨fun b cs hs => (hF.sts b cs hs).imp id (Or.imp id (hown b)), hF.os, hF.tape, hF.output, hF.size, fun b hb hn => hF.keep b hb fun ho' => hn (hown b ho'), fun b hb ho' => hown b (hF.owns b hb ho')⟩⟩
end
end Go.Sv
