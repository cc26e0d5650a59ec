/- A second evaluator for the model's code: lists of pairs of numbers that come in. -/
import Derived.Test.YtojoepocppnccaaGreatSvY
import Derived.Deep.SlicePairs
import Derived.SizedLaws
namespace Go.Sv
noncomputable section
open Go.RowKit Go.WideShapes Go.ChangeShapes

def numV : Value → Int
  | .int _ n => n
  | _ => 0
theorem cell_get {w : World} {a : Addr} {v : Value} (h : w.cell? a = some v) : a.spot = none ∧ ∃ cs e fr, w.heap[a.block]? = some (.cells cs e fr) ∧ cs[a.off]? = some v := by
  unfold World.cell? at h
  split at h
  · rename_i cs e fr hb
    split at h
    · cases h
    · rename_i hs
      exact ⟨by simpa using hs, cs, e, fr, hb, h⟩
  · cases h
theorem add_block (a : Addr) (k : Nat) : (a.add k).block = a.block ∧ (a.add k).off = a.off + k := by
  unfold Addr.add
  split
  · rename_i h; subst h; exact ⟨rfl, rfl⟩
  · exact ⟨rfl, rfl⟩
section
variable {H : Type} {enc : TypeId × Value → H} {P : Program} {w : World} {base : Nat} {held : Bool}
/-- A list of pairs of numbers, as the evaluator takes it: its cell. -/
theorem trod_pairs {t e : TypeId} {f0 f1 : Field} {fuel : Nat} {cs0 : List Value} {d : DataW H} {p : List MemPlace} (ht : P.underlying t = some (.slice e)) (he : P.underlying e = some (.struct #[f0, f1]))
    (ce : P.cellsOf e = 2) (o0 : f0.offset = 0) (o1 : f1.offset = 1) (c0 : P.cellsOf f0.type = 1) (c1 : P.cellsOf f1.type = 1) (i0 : P.underlying f0.type = some (.int .i64)) (i1 : P.underlying f1.type = some (.int .i64))
    (hf : DataW.trod enc P w base (fun _ => true) held fuel t cs0 = some (d, p)) :
    ∃ (v : Value) (xs : List (Int × Int)), cs0 = [v] ∧ (∀ gh, VRel (kapOf w gh) (.lst 2 (kf xs) xs.length []) v) ∧ (∀ x ∈ xs, (Lit.int .i64 x.1).wf = true ∧ (Lit.int .i64 x.2).wf = true) ∧ (xs = [] ∨ ∃ es sp, d = .slice es sp ∧ es.length = xs.length) := by
  rcases Deep.open_slice_pairs ht he ce o0 o1 c0 c1 hf with ⟨hcs, _⟩ | ⟨a, len, cap, m, n, V0, V1, D0, D1, P0, P1, hcsV, _, hlc, _, hm, hx, hcell⟩
  · exact ⟨_, [], hcs, fun gh => .lst0 2 0 _ [] none .nil, by simp, .inl rfl⟩
  · simp only [if_true] at hm
    subst hm
    have hint : ∀ i, i < len → ∃ x y, V0 i = .int .i64 x ∧ V1 i = .int .i64 y ∧ (Lit.int .i64 x).wf = true ∧ (Lit.int .i64 y).wf = true := fun i hi => by
      obtain ⟨_, _, h3, h4⟩ := hcell i (by omega)
      obtain ⟨x, hx1, _, hx2⟩ := DataW.trod_int i0 h3
      obtain ⟨y, hy1, _, hy2⟩ := DataW.trod_int i1 h4
      simp only [List.cons.injEq, and_true] at hx1 hy1
      exact ⟨x, y, hx1, hy1, hx2, hy2⟩
    let xs : List (Int × Int) := (List.range len).map fun i => (numV (V0 i), numV (V1 i))
    have hlen : xs.length = len := by simp [xs]
    have hget : ∀ i, i < len → xs.getD i (0, 0) = (numV (V0 i), numV (V1 i)) := fun i hi => by
      rw [List.getD_eq_getElem?_getD, List.getElem?_eq_getElem (by rw [hlen]; exact hi)]
      simp only [xs, List.getElem_map, List.getElem_range, Option.getD_some]
    refine ⟨_, xs, hcsV, fun gh => ?_, fun x hx' => ?_, .inr ?_⟩
    · rw [hlen]
      by_cases hl : len = 0
      · subst hl; exact .lst0 2 m _ [] _ .nil
      · obtain ⟨cs, e', fr, hb, hc0⟩ := (cell_get (hcell 0 (by omega)).1).2
        have hspot : a.spot = none := by
          have := (cell_get (hcell 0 (by omega)).1).1
          have e0 : a.add (0 * 2) = a := by simp [Addr.add]
          rw [e0] at this; exact this
        rw [(add_block a (0 * 2)).1] at hb
        have hcs : ∀ i, i < len → cs[a.off + i * 2]? = some (V0 i) ∧ cs[a.off + (i * 2 + 1)]? = some (V1 i) := fun i hi => by
          obtain ⟨g1, g2, _⟩ := hcell i (by omega)
          obtain ⟨_, cs1, _, _, q1, q2⟩ := cell_get g1
          obtain ⟨_, cs2, _, _, q3, q4⟩ := cell_get g2
          rw [(add_block _ _).1, hb] at q1 q3
          rw [(add_block _ _).2] at q2 q4
          simp only [Option.some.injEq, Obj.cells.injEq] at q1 q3
          obtain ⟨rfl, _⟩ := q1
          obtain ⟨rfl, _⟩ := q3
          exact ⟨q2, q4⟩
        obtain ⟨blk, off, spot⟩ := a
        dsimp only at hspot hb hcs
        subst hspot
        have hlast := (hcs (len - 1) (by omega)).2
        have hsz : off + len * 2 ≤ cs.toList.length := by
          have := (Array.getElem?_eq_some_iff.1 hlast).1
          simp; omega
        have htl : ∀ j : Nat, cs.toList[j]? = cs[j]? := fun j => Array.getElem?_toList
        refine .lst 2 len blk off m (kf xs) [] cs.toList (kapOf_st hb) hsz hlc (fun z hz => ?_) (fun i _ => rfl) (fun i hi => ?_) .nil
        · obtain ⟨j, hj⟩ := List.mem_iff_getElem?.1 hz
          rw [List.getElem?_take] at hj
          split at hj
          · rename_i hj2
            rw [List.getElem?_drop, htl] at hj
            obtain ⟨x, y, h1, h2, _⟩ := hint (j / 2) (by omega)
            obtain ⟨g1, g2⟩ := hcs (j / 2) (by omega)
            rcases Nat.mod_two_eq_zero_or_one j with hp | hp
            · rw [show off + j = off + j / 2 * 2 from by omega, g1] at hj
              cases hj; rw [h1]; rfl
            · rw [show off + j = off + (j / 2 * 2 + 1) from by omega, g2] at hj
              cases hj; rw [h2]; rfl
          · cases hj
        · obtain ⟨x, y, h1, h2, _⟩ := hint i hi
          obtain ⟨g1, g2⟩ := hcs i hi
          have e1 : (cs.toList.drop (off + i * 2)).take 2 = [V0 i, V1 i] := by
            apply List.ext_getElem?
            intro j
            rw [List.getElem?_take]
            split
            · rename_i hj
              rw [List.getElem?_drop, htl]
              match j, hj with
              | 0, _ => exact g1
              | 1, _ => exact g2
            · rename_i hj
              exact (List.getElem?_eq_none (show ([V0 i, V1 i] : List Value).length ≤ j from by show 2 ≤ j; omega)).symm
          rw [e1, h1, h2]
          show CRel _ (kf xs i) _
          unfold kf
          rw [hget i hi, h1, h2]
          exact .int _ _ (.int _ _ .nil)
    · obtain ⟨i, hi, rfl⟩ := List.mem_map.1 hx'
      obtain ⟨x, y, h1, h2, h3, h4⟩ := hint i (List.mem_range.1 hi)
      rw [h1, h2]
      exact ⟨h3, h4⟩
    · simp only [Prod.mk.injEq] at hx
      exact ⟨_, _, hx.1, by rw [hlen]; simp⟩
/-- .. as an argument. -/
theorem open_pairs {t e : TypeId} {f0 f1 : Field} {r : Reach} {b0 : Nat} {v : Value} {d : DataW H} {p : List MemPlace} (ht : P.underlying t = some (.slice e)) (he : P.underlying e = some (.struct #[f0, f1]))
    (ce : P.cellsOf e = 2) (o0 : f0.offset = 0) (o1 : f1.offset = 1) (c0 : P.cellsOf f0.type = 1) (c1 : P.cellsOf f1.type = 1) (i0 : P.underlying f0.type = some (.int .i64)) (i1 : P.underlying f1.type = some (.int .i64))
    (hval : Value.okWide P w r b0 t v) (h : DataW.Trod enc P w base (fun _ => true) held t v d p) :
    ∃ xs : List (Int × Int), (∀ gh, VRel (kapOf w gh) (.lst 2 (kf xs) xs.length []) v) ∧ (∀ x ∈ xs, (Lit.int .i64 x.1).wf = true ∧ (Lit.int .i64 x.2).wf = true) ∧ (xs = [] ∨ ∃ es sp, d = .slice es sp ∧ es.length = xs.length) := by
  obtain ⟨a0, len0, cap0, rfl⟩ := okWide_slice ht hval
  obtain ⟨fuel, hf⟩ := h
  obtain ⟨v, xs, hv, h1, h2, h3⟩ := trod_pairs ht he ce o0 o1 c0 c1 i0 i1 hf
  simp [Value.cells] at hv
  subst hv
  exact ⟨xs, h1, h2, h3⟩
end
end
end Go.Sv
