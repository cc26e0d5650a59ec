/- A second evaluator for the model's code: what a contract of another making comes to. -/
import Derived.Test.YtojoepocppnccaaGreatSvL
namespace Go.Sv
noncomputable section
open Go.RowKit
variable {P : Program}

/-- Nothing that lay there has turned. -/
theorem MRel.below {κ : Kap} {M : Mem} {w w' : World} (h : MRel κ M w) (hb : Below w.heap.size w w') : MRel κ M w' ∧ Fr κ M w κ M w' := by
  refine ⟨⟨fun b s hs => Nat.lt_of_lt_of_le (h.szlt b s hs) hb.size, fun b cs hs => ?_, fun n r hr => (h.row n r hr).congr fun b hb' => hb.block b ((h.row n r hr).lt hb'), h.inj⟩, ⟨fun _ _ h => .inl h, hb.os, hb.tape, hb.output, hb.size, fun b hlt _ => hb.block b hlt, fun b _ ho => ho⟩⟩
  obtain ⟨rest, e, fr, hx⟩ := h.stable b cs hs
  exact ⟨rest, e, fr, by rw [hb.block b (Array.getElem?_eq_some_iff.1 hx).1]; exact hx⟩
/-- A row in a block of the call's own. -/
theorem MRel.given {κ : Kap} {M : Mem} {w w' : World} (h : MRel κ M w) (hb : Below w.heap.size w w') {n g : Nat} (hn : κ.loc n = none) (hg : w.heap.size ≤ g) {c : List AV} {zs rest : List Value} {e : TypeId} (hw : w'.heap[g]? = some (.cells (zs ++ rest).toArray e (0, 0))) (hc : CRel κ c zs) :
    κ.le (κ.new n g (zs ++ rest).length) ∧ MRel (κ.new n g (zs ++ rest).length) (M.set n (some (.cells c true true))) w' ∧ Fr κ M w (κ.new n g (zs ++ rest).length) (M.set n (some (.cells c true true))) w' := by
  obtain ⟨h1, h2⟩ := h.below hb
  have hglt : g < w'.heap.size := (Array.getElem?_eq_some_iff.1 hw).1
  have hsz : κ.sz g = none := by
    cases e : κ.sz g with
    | none => rfl
    | some s => have := h.szlt _ _ e; omega
  have hst : κ.st g = none := by
    cases hs : κ.st g with
    | none => rfl
    | some cs =>
      obtain ⟨rest, e, fr, hx⟩ := h.stable _ _ hs
      have := (Array.getElem?_eq_some_iff.1 hx).1; omega
  have hle1 := Kap.blk_le (s := (zs ++ rest).length) hsz
  have hn' : (κ.blk g (zs ++ rest).length).loc n = none := hn
  have hle : κ.le (κ.new n g (zs ++ rest).length) := Kap.le_trans hle1 (Kap.at_le hn')
  have hb1 : MRel (κ.blk g (zs ++ rest).length) M w' := ⟨fun b s' hs => by
      simp only [Kap.blk] at hs
      by_cases e : b = g
      · subst e; exact hglt
      · rw [if_neg e] at hs; exact h1.szlt b s' hs, h1.stable, fun m r' hr' => (h1.row m r' hr').mono hle1 fun b _ hb => hb, h1.inj⟩
  have hfree : ∀ m r', M m = some r' → κ.loc m ≠ some (some g) := fun m r' hm hb' => by have := (h.row m r' hm).lt hb'; omega
  refine ⟨hle, hb1.name hn' (fun m r' hm hb' => hfree m r' hm hb') (.inr ⟨g, zs, rest, e, (0, 0), Kap.at_same, hw, hc.mono hle, (fun h => by cases h), fun _ => ⟨rfl, hst⟩, (fun h => by cases h), by simp [Kap.at, Kap.blk]⟩), ⟨fun _ _ h => .inl h, hb.os, hb.tape, hb.output, hb.size, fun b hlt _ => hb.block b hlt, fun b hlt ho => owned_at ho (by omega)⟩⟩
/-- A nil slice that was handed back. -/
theorem MRel.given0 {κ : Kap} {M : Mem} {w w' : World} (h : MRel κ M w) (hb : Below w.heap.size w w') {n : Nat} (hn : κ.loc n = none) {c : List AV} (hc : CRel κ c []) :
    κ.le (κ.at n none) ∧ MRel (κ.at n none) (M.set n (some (.cells c true true))) w' ∧ Fr κ M w (κ.at n none) (M.set n (some (.cells c true true))) w' := by
  obtain ⟨h1, h2⟩ := h.below hb
  obtain ⟨h3, h4⟩ := h1.new0 hn (hc.mono (Kap.at_le hn)) true true
  exact ⟨Kap.at_le hn, h3, h2.trans h4⟩
end
end Go.Sv
