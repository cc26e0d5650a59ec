/- What 'slices.Sorted(maps.Keys(b))' comes to, for the second evaluator. -/
import Derived.Test.YtojoepocppnccaaGreatShelf
import Derived.Test.YtojoepocppnccaaGreatSvP
import Derived.Test.YtojoepocppnccaaGreatSvBase
namespace Go.Proofs
open Go.RowKit Go.Maps Go.Sort Go.Shelf
theorem Tryz.sortsA (m : Nat) : AnyZI.SortsIn Tryz.prog Tryz.sortedA_ren Fence.wide m :=
  ⟨fun blk off cap ss W hH hblk hsz => callsIn_wide.2 (AnyM.slices_Sort_int Tryz.sortA blk off cap ss W hH hblk hsz),
   fun p cap W => callsIn_wide.2 (AnyM.slices_Sort_int_none Tryz.sortA p cap W)⟩
theorem insertPerm {H : Type} (l : List (Lit × DataW H)) : (intKeys (.map (l.foldr DataW.insert []))).Perm (l.map fun p => Go.intOf p.1) := (WideShapes.sorted_perm l).map _
set_option maxHeartbeats 1000000 in
/-- The keys of a map of ints, sorted, in a slice of the call's own. -/
theorem Tryz.sortedKeys (Bm b : Nat) (w : World) (es : Array MapEntry) (clock : Nat) (ks : List Int) (hm : w.cell? ⟨Bm, 0, none⟩ = some (.map (some b))) (hb : w.heap[b]? = some (.map es clock)) (hst : MapKept.Stamped es clock) (hk : es.toList.map (·.key) = ks.map encZ)
    (hw : ∀ x ∈ ks, (Lit.int .i64 x).wf = true) (hsz : ks.length * 8 ≤ 140737488355328) :
    Calls Tryz.prog 262 #[.func (.func 285) #[] #[.pointer (some ⟨Bm, 0, none⟩)]] w fun e w' => ∃ v : Value, e = .returned v ∧
      w'.ownsRow w.heap.size 3 1 v ks.length ((ks.mergeSort leI).map encZ) ∧ Below w.heap.size w w' := by
  refine (callsIn_wide (n := 5)).1 ?_
  have hlen : ks.length = es.size := by have := congrArg List.length hk; simpa using this.symm
  let R : Value → Option (DataW Unit × List MemPlace) := fun _ => some (.nil, [])
  have hkey : ∀ x : Int, (Lit.int .i64 x).wf = true → keyOf Tryz.prog 3 (.int .i64 x) = some (.int .i64 x) := fun x h => keyOf_int_mk Tryz.underlying3 h
  have hrg : ∀ (l : List MapEntry) (ks : List Int), l.map (·.key) = ks.map encZ → (∀ x ∈ ks, (Lit.int .i64 x).wf = true) → (∀ x ∈ l, ∃ y, WideElems.rd Tryz.prog 3 R x = some y) ∧ (l.map (WideElems.rg Tryz.prog 3 R)).map (fun p => Go.intOf p.1) = ks := by
    intro l
    induction l with
    | nil => intro ks h _; cases ks with
      | nil => exact ⟨by simp, rfl⟩
      | cons _ _ => simp at h
    | cons x l ih =>
      intro ks h hw
      cases ks with
      | nil => simp at h
      | cons k ks =>
        simp only [List.map_cons, List.cons.injEq] at h
        obtain ⟨i1, i2⟩ := ih ks h.2 fun x hx => hw x (List.mem_cons_of_mem _ hx)
        have hx : WideElems.rd Tryz.prog 3 R x = some (.int .i64 k, .nil) := by
          obtain ⟨kx, vx, bx⟩ := x
          have hk1 : kx = .int .i64 k := h.1
          subst hk1
          exact WideElems.rd_mk (yv := (.nil, [])) (hkey k (hw k (List.mem_cons_self ..))) rfl
        refine ⟨fun y hy => ?_, ?_⟩
        · rcases List.mem_cons.1 hy with rfl | hy
          · exact ⟨_, hx⟩
          · exact i1 y hy
        · simp only [List.map_cons, i2]
          simp [WideElems.rg, hx, Go.intOf]
  obtain ⟨hr1, hr2⟩ := hrg es.toList ks hk hw
  have hown : w.ownsMap Tryz.prog 3 R b es.size (.map ((es.toList.map (WideElems.rg Tryz.prog 3 R)).foldr DataW.insert [])) :=
    ⟨es, clock, hb, ⟨by rw [← hlen]; unfold maxLen; omega, hst, hr1⟩, Nat.le_refl _, rfl⟩
  have hD : Maps.size (.map ((es.toList.map (WideElems.rg Tryz.prog 3 R)).foldr DataW.insert [])) = ks.length := by
    show ((es.toList.map (WideElems.rg Tryz.prog 3 R)).foldr DataW.insert []).length = ks.length
    rw [Go.length_sorted]; simp [hlen]
  have hBm : Bm < w.heap.size := by
    rcases Nat.lt_or_ge Bm w.heap.size with h | h
    · exact h
    · simp [World.cell?, Array.getElem?_eq_none h] at hm
  have hseq : SeqGives Fence.wide 2 Tryz.prog 285 #[.pointer (some ⟨Bm, 0, none⟩)] encZ (fun ss => ss.Perm (intKeys (.map ((es.toList.map (WideElems.rg Tryz.prog 3 R)).foldr DataW.insert [])))) (Maps.size (.map ((es.toList.map (WideElems.rg Tryz.prog 3 R)).foldr DataW.insert []))) w :=
    AnyZI.keys_gives (ρ := Tryz.keysA_ren) { Tryz.keysA with } Fence.wide _ trivial rfl (by omega) Bm b _ _ _ hBm hm hown
  have cS := AnyZI.sorted_in Tryz.sortedA Fence.wide 5 trivial trivial trivial trivial rfl (by omega) (Tryz.sortsA _) (enters_of Tryz.func284 (by kernel_rfl) rfl) 285 #[.pointer (some ⟨Bm, 0, none⟩)] trivial (enters_of Tryz.func285 (by kernel_rfl) rfl) _ _ (by rw [hD]; unfold maxLen; omega) (by rw [hD]; exact hsz) w hseq
  change CallsIn _ _ Tryz.prog 262 _ _ _ at cS
  refine cS.mono ?_
  rintro e w' ⟨v, ss, rfl, hS, hrow, _, hbl⟩
  have hp : ss.Perm ks := hS.trans ((insertPerm _).trans (by rw [hr2]))
  refine ⟨v, rfl, ?_, hbl⟩
  rw [← hp.length_eq, ← mergeSort_of_perm_i hp]
  exact hrow
end Go.Proofs
