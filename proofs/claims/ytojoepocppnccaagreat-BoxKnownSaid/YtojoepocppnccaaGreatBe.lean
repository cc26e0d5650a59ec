/- The evaluator and the contracts that the walk leans on, part Be: SvBase, Shelf, SvKeys, SvK1, SvJoin, SvJoin2, SvJoin3, SvJoin4, SvK2. -/
import Derived.Test.YtojoepocppnccaaGreatBd
import Derived.Test.YtojoepocppnccaaGreatProg
import Derived.Shelf.SlIterI.Nil
import Derived.Shelf.SortM.Plain
import Derived.Shelf.SortM.SortNone
import Derived.Ground.GgzProg
import Derived.Ground.SlgmProg
namespace Go.Sv
noncomputable section
open Go.Proofs
theorem sprog_ok : ProgOk Tryz.prog ∧ RegsOk Tryz.prog := progOk (by kernel_rfl) (by kernel_rfl) (by kernel_rfl) (by kernel_rfl) (by kernel_rfl)
end
end Go.Sv
namespace Go.Proofs
open Go.Shelf
def Tryz.keysA_ren : Go.Shelf.Ren := ⟨fun | 7 => 263 | 10 => 285 | n => n, fun | 23 => 341 | 26 => 3 | 3 => 3 | 28 => 371 | 0 => 0 | 27 => 370 | 33 => 295 | 4 => 4 | n => n, fun | n => n⟩
theorem Tryz.keysA : Go.Proofs.SlLaysZI.n7 Tryz.prog Tryz.keysA_ren := {
  mixed := by kernel_rfl
  f7 := ⟨Tryz.f263.name, by decide, Tryz.func263.trans (congrArg some (by kernel_rfl))⟩
  f10 := ⟨Tryz.f285.name, by decide, Tryz.func285.trans (congrArg some (by kernel_rfl))⟩
  t0 := Tryz.underlying0
  a0 := Tryz.isAgg0
  z0 := Tryz.sizeOf0
  v0 := Tryz.zeroValue0
  t4 := Tryz.underlying4
  a4 := Tryz.isAgg4
  z4 := Tryz.sizeOf4
  v4 := Tryz.zeroValue4
  t23 := Tryz.underlying341
  a23 := Tryz.isAgg341
  z23 := Tryz.sizeOf341
  v23 := Tryz.zeroValue341
  t26 := Tryz.underlying3
  a26 := Tryz.isAgg3
  z26 := Tryz.sizeOf3
  v26 := Tryz.zeroValue3
  t27 := Tryz.underlying370
  a27 := Tryz.isAgg370
  z27 := Tryz.sizeOf370
  v27 := Tryz.zeroValue370
  t28 := Tryz.underlying371
  a28 := Tryz.isAgg371
  z28 := Tryz.sizeOf371
  v28 := Tryz.zeroValue371
  t33 := Tryz.underlying295
  a33 := Tryz.isAgg295
  z33 := Tryz.sizeOf295
  v33 := Tryz.zeroValue295 }
def Tryz.sortedA_ren : Go.Shelf.Ren := ⟨fun | 6 => 262 | 8 => 283 | 9 => 284 | 11 => 295 | 13 => 297 | 12 => 296 | 23 => 311 | 24 => 294 | 14 => 302 | 15 => 303 | 16 => 304 | 17 => 305 | 18 => 306 | 19 => 307 | 20 => 308 | 21 => 309 | 22 => 310 | 25 => 312 | 26 => 313 | 27 => 314 | 28 => 315 | 29 => 316 | 30 => 317 | 31 => 318 | n => n, fun | 26 => 3 | 28 => 371 | 24 => 144 | 0 => 0 | 3 => 3 | 37 => 278 | 48 => 285 | 50 => 36 | 4 => 4 | 40 => 410 | 39 => 409 | 45 => 141 | 5 => 5 | 9 => 9 | 51 => 416 | 55 => 420 | 57 => 422 | 58 => 423 | 33 => 295 | n => n, fun | n => n⟩
theorem Tryz.sortedA : Go.Proofs.SlLaysZI.n6 Tryz.prog Tryz.sortedA_ren := {
  mixed := by kernel_rfl
  f6 := ⟨Tryz.f262.name, by decide, Tryz.func262.trans (congrArg some (by kernel_rfl))⟩
  f8 := ⟨Tryz.f283.name, by decide, Tryz.func283.trans (congrArg some (by kernel_rfl))⟩
  f11 := ⟨Tryz.f295.name, by decide, Tryz.func295.trans (congrArg some (by kernel_rfl))⟩
  t0 := Tryz.underlying0
  a0 := Tryz.isAgg0
  z0 := Tryz.sizeOf0
  v0 := Tryz.zeroValue0
  t24 := Tryz.underlying144
  a24 := Tryz.isAgg144
  z24 := Tryz.sizeOf144
  v24 := Tryz.zeroValue144
  t26 := Tryz.underlying3
  a26 := Tryz.isAgg3
  z26 := Tryz.sizeOf3
  v26 := Tryz.zeroValue3
  t28 := Tryz.underlying371
  a28 := Tryz.isAgg371
  z28 := Tryz.sizeOf371
  v28 := Tryz.zeroValue371
  i26 := by kernel_rfl }
def Tryz.sortA_ren : Go.Shelf.Ren := ⟨fun | 5 => 284 | 8 => 297 | 7 => 296 | 19 => 311 | 20 => 294 | 10 => 302 | 11 => 303 | 12 => 304 | 13 => 305 | 14 => 306 | 15 => 307 | 16 => 308 | 17 => 309 | 18 => 310 | 30 => 312 | 31 => 313 | 32 => 314 | 33 => 315 | 34 => 316 | 35 => 317 | 40 => 318 | n => n, fun | 23 => 144 | 25 => 3 | 3 => 3 | 32 => 278 | 22 => 144 | 0 => 0 | 44 => 285 | 46 => 36 | 4 => 4 | 36 => 410 | 35 => 409 | 41 => 141 | 5 => 5 | 9 => 9 | 53 => 416 | 57 => 420 | 63 => 422 | 64 => 423 | n => n, fun | n => n⟩
theorem Tryz.sortA : Go.Proofs.SlLaysM.n5 Tryz.prog Tryz.sortA_ren := {
  mixed := by kernel_rfl
  f5 := ⟨Tryz.f284.name, by decide, Tryz.func284.trans (congrArg some (by kernel_rfl))⟩
  f7 := ⟨Tryz.f296.name, by decide, Tryz.func296.trans (congrArg some (by kernel_rfl))⟩
  f8 := Tryz.func297.trans (congrArg some (by kernel_rfl))
  f10 := ⟨Tryz.f302.name, by decide, Tryz.func302.trans (congrArg some (by kernel_rfl))⟩
  f11 := ⟨Tryz.f303.name, by decide, Tryz.func303.trans (congrArg some (by kernel_rfl))⟩
  f12 := ⟨Tryz.f304.name, by decide, Tryz.func304.trans (congrArg some (by kernel_rfl))⟩
  f13 := ⟨Tryz.f305.name, by decide, Tryz.func305.trans (congrArg some (by kernel_rfl))⟩
  f14 := ⟨Tryz.f306.name, by decide, Tryz.func306.trans (congrArg some (by kernel_rfl))⟩
  f15 := ⟨Tryz.f307.name, by decide, Tryz.func307.trans (congrArg some (by kernel_rfl))⟩
  f16 := ⟨Tryz.f308.name, by decide, Tryz.func308.trans (congrArg some (by kernel_rfl))⟩
  f17 := ⟨Tryz.f309.name, by decide, Tryz.func309.trans (congrArg some (by kernel_rfl))⟩
  f18 := ⟨Tryz.f310.name, by decide, Tryz.func310.trans (congrArg some (by kernel_rfl))⟩
  f19 := Tryz.func311.trans (congrArg some (by kernel_rfl))
  f20 := Tryz.func294.trans (congrArg some (by kernel_rfl))
  f30 := ⟨Tryz.f312.name, by decide, Tryz.func312.trans (congrArg some (by kernel_rfl))⟩
  f31 := Tryz.func313.trans (congrArg some (by kernel_rfl))
  f32 := Tryz.func314.trans (congrArg some (by kernel_rfl))
  f33 := ⟨Tryz.f315.name, by decide, Tryz.func315.trans (congrArg some (by kernel_rfl))⟩
  f34 := ⟨Tryz.f316.name, by decide, Tryz.func316.trans (congrArg some (by kernel_rfl))⟩
  f35 := ⟨Tryz.f317.name, by decide, Tryz.func317.trans (congrArg some (by kernel_rfl))⟩
  f40 := ⟨Tryz.f318.name, by decide, Tryz.func318.trans (congrArg some (by kernel_rfl))⟩
  t0 := Tryz.underlying0
  a0 := Tryz.isAgg0
  z0 := Tryz.sizeOf0
  v0 := Tryz.zeroValue0
  t3 := Tryz.underlying3
  a3 := Tryz.isAgg3
  z3 := Tryz.sizeOf3
  v3 := Tryz.zeroValue3
  t4 := Tryz.underlying4
  a4 := Tryz.isAgg4
  z4 := Tryz.sizeOf4
  v4 := Tryz.zeroValue4
  t5 := Tryz.underlying5
  a5 := Tryz.isAgg5
  z5 := Tryz.sizeOf5
  v5 := Tryz.zeroValue5
  t9 := Tryz.underlying9
  a9 := Tryz.isAgg9
  z9 := Tryz.sizeOf9
  v9 := Tryz.zeroValue9
  t22 := Tryz.underlying144
  a22 := Tryz.isAgg144
  z22 := Tryz.sizeOf144
  v22 := Tryz.zeroValue144
  t23 := Tryz.underlying144
  a23 := Tryz.isAgg144
  z23 := Tryz.sizeOf144
  v23 := Tryz.zeroValue144
  t25 := Tryz.underlying3
  a25 := Tryz.isAgg3
  z25 := Tryz.sizeOf3
  v25 := Tryz.zeroValue3
  t32 := Tryz.underlying278
  a32 := Tryz.isAgg278
  z32 := Tryz.sizeOf278
  v32 := Tryz.zeroValue278
  t35 := Tryz.underlying409
  a35 := Tryz.isAgg409
  z35 := Tryz.sizeOf409
  v35 := Tryz.zeroValue409
  t36 := Tryz.underlying410
  a36 := Tryz.isAgg410
  z36 := Tryz.sizeOf410
  v36 := Tryz.zeroValue410
  t41 := Tryz.underlying141
  a41 := Tryz.isAgg141
  z41 := Tryz.sizeOf141
  v41 := Tryz.zeroValue141
  t44 := Tryz.underlying285
  a44 := Tryz.isAgg285
  z44 := Tryz.sizeOf285
  v44 := Tryz.zeroValue285
  t46 := Tryz.underlying36
  a46 := Tryz.isAgg36
  z46 := Tryz.sizeOf36
  v46 := Tryz.zeroValue36
  t53 := Tryz.underlying416
  a53 := Tryz.isAgg416
  z53 := Tryz.sizeOf416
  v53 := Tryz.zeroValue416
  t57 := Tryz.underlying420
  a57 := Tryz.isAgg420
  z57 := Tryz.sizeOf420
  v57 := Tryz.zeroValue420
  t63 := Tryz.underlying422
  a63 := Tryz.isAgg422
  z63 := Tryz.sizeOf422
  v63 := Tryz.zeroValue422
  t64 := Tryz.underlying423
  a64 := Tryz.isAgg423
  z64 := Tryz.sizeOf423
  v64 := Tryz.zeroValue423 }
end Go.Proofs
namespace Go.Proofs
open Go.RowKit Go.Maps Go.Sort Go.Shelf
theorem Tryz.sortsA (m : Nat) : AnyZI.SortsIn Tryz.prog Tryz.sortedA_ren Fence.wide m :=
  ⟨fun blk off cap ss W hH hblk hsz => callsIn_wide.2 (AnyM.slices_Sort_int Tryz.sortA blk off cap ss W hH hblk hsz),
   fun p cap W => callsIn_wide.2 (AnyM.slices_Sort_int_none Tryz.sortA p cap W)⟩
theorem insertPerm {H : Type} (l : List (Lit × DataW H)) : (intKeys (.map (l.foldr DataW.insert []))).Perm (l.map fun p => Go.intOf p.1) := (WideShapes.sorted_perm l).map _
set_option maxHeartbeats 1000000 in
/-- The keys of a map of ints, sorted, in a slice of the call's own. -/
theorem Tryz.sortedKeys (Bm b : Nat) (w : World) (es : Array MapEntry) (clock : Nat) (ks : List Int) (hm : w.cell? ⟨Bm, 0, none⟩ = some (.map (some b))) (hb : w.heap[b]? = some (.map es clock)) (hst : MapKept.Stamped es clock) (hk : es.toList.map (·.key) = ks.map encZ)
    (hw : ∀ x ∈ ks, (Lit.int .i64 x).wf = true) (hsz : ks.length * 8 ≤ 140737488355328) :
    Calls Tryz.prog 262 #[.func (.func 285) #[] #[.pointer (some ⟨Bm, 0, none⟩)]] w fun e w' => ∃ v : Value, e = .returned v ∧
      w'.ownsRow w.heap.size 3 1 v ks.length ((ks.mergeSort leI).map encZ) ∧ Below w.heap.size w w' := by
  refine (callsIn_wide (n := 5)).1 ?_
  have hlen : ks.length = es.size := by have := congrArg List.length hk; simpa using this.symm
  let R : Value → Option (DataW Unit × List MemPlace) := fun _ => some (.nil, [])
  have hkey : ∀ x : Int, (Lit.int .i64 x).wf = true → keyOf Tryz.prog 3 (.int .i64 x) = some (.int .i64 x) := fun x h => keyOf_int_mk Tryz.underlying3 h
  have hrg : ∀ (l : List MapEntry) (ks : List Int), l.map (·.key) = ks.map encZ → (∀ x ∈ ks, (Lit.int .i64 x).wf = true) → (∀ x ∈ l, ∃ y, WideElems.rd Tryz.prog 3 R x = some y) ∧ (l.map (WideElems.rg Tryz.prog 3 R)).map (fun p => Go.intOf p.1) = ks := by
    intro l
    induction l with
    | nil => intro ks h _; cases ks with
      | nil => exact ⟨by simp, rfl⟩
      | cons _ _ => simp at h
    | cons x l ih =>
      intro ks h hw
      cases ks with
      | nil => simp at h
      | cons k ks =>
        simp only [List.map_cons, List.cons.injEq] at h
        obtain ⟨i1, i2⟩ := ih ks h.2 fun x hx => hw x (List.mem_cons_of_mem _ hx)
        have hx : WideElems.rd Tryz.prog 3 R x = some (.int .i64 k, .nil) := by
          obtain ⟨kx, vx, bx⟩ := x
          have hk1 : kx = .int .i64 k := h.1
          subst hk1
          exact WideElems.rd_mk (yv := (.nil, [])) (hkey k (hw k (List.mem_cons_self ..))) rfl
        refine ⟨fun y hy => ?_, ?_⟩
        · rcases List.mem_cons.1 hy with rfl | hy
          · exact ⟨_, hx⟩
          · exact i1 y hy
        · simp only [List.map_cons, i2]
          simp [WideElems.rg, hx, Go.intOf]
  obtain ⟨hr1, hr2⟩ := hrg es.toList ks hk hw
  have hown : w.ownsMap Tryz.prog 3 R b es.size (.map ((es.toList.map (WideElems.rg Tryz.prog 3 R)).foldr DataW.insert [])) :=
    ⟨es, clock, hb, ⟨by rw [← hlen]; unfold maxLen; omega, hst, hr1⟩, Nat.le_refl _, rfl⟩
  have hD : Maps.size (.map ((es.toList.map (WideElems.rg Tryz.prog 3 R)).foldr DataW.insert [])) = ks.length := by
    show ((es.toList.map (WideElems.rg Tryz.prog 3 R)).foldr DataW.insert []).length = ks.length
    rw [Go.length_sorted]; simp [hlen]
  have hBm : Bm < w.heap.size := by
    rcases Nat.lt_or_ge Bm w.heap.size with h | h
    · exact h
    · simp [World.cell?, Array.getElem?_eq_none h] at hm
  have hseq : SeqGives Fence.wide 2 Tryz.prog 285 #[.pointer (some ⟨Bm, 0, none⟩)] encZ (fun ss => ss.Perm (intKeys (.map ((es.toList.map (WideElems.rg Tryz.prog 3 R)).foldr DataW.insert [])))) (Maps.size (.map ((es.toList.map (WideElems.rg Tryz.prog 3 R)).foldr DataW.insert []))) w :=
    AnyZI.keys_gives (ρ := Tryz.keysA_ren) { Tryz.keysA with } Fence.wide _ trivial rfl (by omega) Bm b _ _ _ hBm hm hown
  have cS := AnyZI.sorted_in Tryz.sortedA Fence.wide 5 trivial trivial trivial trivial rfl (by omega) (Tryz.sortsA _) (enters_of Tryz.func284 (by kernel_rfl) rfl) 285 #[.pointer (some ⟨Bm, 0, none⟩)] trivial (enters_of Tryz.func285 (by kernel_rfl) rfl) _ _ (by rw [hD]; unfold maxLen; omega) (by rw [hD]; exact hsz) w hseq
  change CallsIn _ _ Tryz.prog 262 _ _ _ at cS
  refine cS.mono ?_
  rintro e w' ⟨v, ss, rfl, hS, hrow, _, hbl⟩
  have hp : ss.Perm ks := hS.trans ((insertPerm _).trans (by rw [hr2]))
  refine ⟨v, rfl, ?_, hbl⟩
  rw [← hp.length_eq, ← mergeSort_of_perm_i hp]
  exact hrow
end Go.Proofs
namespace Go.Sv
noncomputable section
open Go.RowKit Go.Proofs

/-! ### sorted lists of numbers -/
def insZ (x : Int) : List Int → List Int
  | [] => [x]
  | y :: ys => bif decide (x ≤ y) then x :: y :: ys else y :: insZ x ys
def sortZ : List Int → List Int
  | [] => []
  | x :: xs => insZ x (sortZ xs)
theorem insZ_perm (x : Int) : ∀ l : List Int, (insZ x l).Perm (x :: l)
  | [] => .refl _
  | y :: ys => by
    simp only [insZ]
    cases decide (x ≤ y)
    · exact ((insZ_perm x ys).cons y).trans (.swap x y ys)
    · exact .refl _
theorem sortZ_perm : ∀ l : List Int, (sortZ l).Perm l
  | [] => .refl _
  | x :: xs => (insZ_perm x _).trans ((sortZ_perm xs).cons x)
theorem insZ_sorted (x : Int) : ∀ l : List Int, l.Pairwise (· ≤ ·) → (insZ x l).Pairwise (· ≤ ·)
  | [], _ => List.pairwise_singleton _ _
  | y :: ys, h => by
    simp only [insZ]
    cases hd : decide (x ≤ y) with
    | true =>
      have := of_decide_eq_true hd
      refine List.pairwise_cons.2 ⟨fun z hz => ?_, h⟩
      rcases List.mem_cons.1 hz with rfl | hz
      · exact this
      · exact Int.le_trans this ((List.pairwise_cons.1 h).1 z hz)
    | false =>
      have hxy := of_decide_eq_false hd
      refine List.pairwise_cons.2 ⟨fun z hz => ?_, insZ_sorted x ys (List.pairwise_cons.1 h).2⟩
      rcases List.mem_cons.1 ((insZ_perm x ys).mem_iff.1 hz) with rfl | hz
      · omega
      · exact (List.pairwise_cons.1 h).1 z hz
theorem sortZ_sorted : ∀ l : List Int, (sortZ l).Pairwise (· ≤ ·)
  | [] => .nil
  | x :: xs => insZ_sorted x _ (sortZ_sorted xs)
theorem sortZ_eq (l : List Int) : l.mergeSort leI = sortZ l := by
  have tr : ∀ a b c : Int, leI a b = true → leI b c = true → leI a c = true := fun a b c h1 h2 => by simp only [leI, decide_eq_true_eq] at *; exact Int.le_trans h1 h2
  have to : ∀ a b : Int, (leI a b || leI b a) = true := fun a b => by simp only [leI, Bool.or_eq_true, decide_eq_true_eq]; exact Int.le_total a b
  refine List.Perm.eq_of_pairwise (le := fun a b => a ≤ b) (fun a b _ _ h1 h2 => Int.le_antisymm h1 h2) ?_ (sortZ_sorted l) ((List.mergeSort_perm l leI).trans (sortZ_perm l).symm)
  exact (List.pairwise_mergeSort tr to l).imp fun h => by simpa [leI] using h
theorem length_sortZ (l : List Int) : (sortZ l).length = l.length := (sortZ_perm l).length_eq

/-! ### the keys of a map's entries -/
def inZ (n : Int) : Bool := decide (-9223372036854775808 ≤ n) && decide (n ≤ 9223372036854775807)
def keysK {R : Type} : List (Key × Nat × AV) → (List Int → Option R) → Option R
  | [], k => k []
  | (.i n, _, _) :: l, k => bif inZ n then keysK l fun ks => k (n :: ks) else none
  | _, _ => none
theorem keysK_ok {R : Type} {r : R} : ∀ (l : List (Key × Nat × AV)) (k : List Int → Option R), keysK l k = some r → ∃ ks, k ks = some r ∧ ks.length = l.length ∧ (∀ x ∈ ks, (Lit.int .i64 x).wf = true) ∧
    ∀ κ es, Ents κ (some .i64) l es → es.map (·.key) = ks.map encZ
  | [], k, h => ⟨[], h, rfl, by simp, fun κ es he => by cases es <;> simp [Ents] at he ⊢⟩
  | (.i n, b, v) :: l, k, h => by
    simp only [keysK] at h
    obtain ⟨hn, h1⟩ := cond_some h
    obtain ⟨ks, h2, h3, h4, h5⟩ := keysK_ok l _ h1
    refine ⟨n :: ks, h2, by simp [h3], fun x hx => ?_, fun κ es he => ?_⟩
    · rcases List.mem_cons.1 hx with rfl | hx
      · simp only [inZ, Bool.and_eq_true, decide_eq_true_eq] at hn
        simp [Lit.wf, IntKind.min, IntKind.max, IntKind.signed, IntKind.bits]
        omega
      · exact h4 x hx
    · cases es with
      | nil => exact he.elim
      | cons e es =>
        have hk := he.1.1.1
        simp only [List.map_cons, h5 κ es he.2, List.cons.injEq, and_true]
        obtain ⟨key, val, born⟩ := e
        cases key <;> simp [KeyV] at hk
        rw [hk.1, hk.2]
  | (.s _, _, _) :: l, k, h => by simp [keysK] at h
def nthZ (l : List Int) (i : Nat) : Int := l.getD i 0

/-- The call, for any list of keys. -/
theorem sorted_core {κ : Kap} {M : Mem} {w : World} {next b bm clock : Nat} {es : Array MapEntry} {ks : List Int} (hR : MRel κ M w) (hnext : κ.loc next = none) (hcell : w.cell? ⟨b, 0, none⟩ = some (.map (some bm))) (m2 : w.heap[bm]? = some (.map es clock)) (hst : MapKept.Stamped es clock)
    (hkeys : es.toList.map (·.key) = ks.map encZ) (hwf : ∀ x ∈ ks, (Lit.int .i64 x).wf = true) (hle : ks.length * 8 ≤ 140737488355328) : Calls Tryz.prog 262 #[.func (.func 285) #[] #[.pointer (some ⟨b, 0, none⟩)]] w fun en w' => ∃ κ' v', κ.le κ' ∧ (∀ m, m < next ∨ next + 1 ≤ m → κ'.loc m = κ.loc m) ∧ en = .returned v' ∧
      VRel κ' (.slc next [] 0 0 1 ks.length ks.length) v' ∧ MRel κ' (M.set next (some (.cells [.arr 1 ks.length (fun i => [.int .i64 (nthZ (sortZ ks) i)]) []] true true))) w' ∧ Fr κ M w κ' (M.set next (some (.cells [.arr 1 ks.length (fun i => [.int .i64 (nthZ (sortZ ks) i)]) []] true true))) w' := by
  refine (Tryz.sortedKeys b bm w es clock ks hcell m2 hst hkeys hwf hle).mono fun en w' he => ?_
  obtain ⟨v, rfl, hrow, hbl⟩ := he
  rw [sortZ_eq] at hrow
  have harr : CRel κ [.arr 1 ks.length (fun i => [.int .i64 (nthZ (sortZ ks) i)]) []] ((sortZ ks).map encZ) := by
    refine arr_parts.2 ⟨by simp [length_sortZ], fun z hz => ?_, fun i hi => rfl, fun i hi => ?_⟩
    · obtain ⟨x, _, rfl⟩ := List.mem_map.1 hz; rfl
    · have hi' : i < ((sortZ ks).map encZ).length := by simp [length_sortZ, hi]
      rw [Nat.mul_one, List.drop_eq_getElem_cons hi', List.take_succ_cons, List.take_zero]
      have : ((sortZ ks).map encZ)[i] = .int .i64 (nthZ (sortZ ks) i) := by
        simp only [List.length_map] at hi'
        simp [nthZ, List.getD, List.getElem?_eq_getElem hi']
      rw [this]
      exact .int _ _ .nil
  rcases hrow.2 with ⟨rfl, hz⟩ | ⟨g, cap, cur, rfl, hbase, hgb, r1, r2, r3, r4⟩
  · have hks : ks = [] := List.eq_nil_of_length_eq_zero hz
    subst hks
    obtain ⟨a1, a2, a3⟩ := hR.given0 hbl hnext (n := next) harr
    exact ⟨_, _, a1, fun m hm => Kap.at_ne (by omega), rfl, .slc0 _ 0 0 1 [] Kap.at_same .nil, a2, a3⟩
  · have hcur : cur = (((sortZ ks).map encZ) ++ cur.toList.drop ks.length).toArray := by
      rw [Nat.mul_one] at r4
      rw [← r4, List.take_append_drop]
    have hrest : (((sortZ ks).map encZ) ++ cur.toList.drop ks.length).length = cap := by
      have h1 := congrArg Array.size hcur
      have h2 : (((sortZ ks).map encZ) ++ cur.toList.drop ks.length).toArray.size = (((sortZ ks).map encZ) ++ cur.toList.drop ks.length).length := List.size_toArray
      omega
    obtain ⟨a1, a2, a3⟩ := hR.given hbl hnext hbase (rest := cur.toList.drop ks.length) (e := 3) (by rw [← hcur]; exact hgb) harr
    refine ⟨_, _, a1, fun m hm => Kap.at_ne (by omega), rfl, ?_, a2, a3⟩
    refine .slc _ [] 0 0 1 _ _ g cap _ Kap.at_same (.inr ⟨by simp [plen], cap, ?_, by simp [plen]⟩) (by omega) (by omega) .nil
    simp only [Kap.new, Kap.at, Kap.blk, if_true, Option.some.injEq]
    exact hrest
def allZ (xs : List (Int × Int)) : Bool := xs.all fun x => inZ x.1
theorem pt_keys {xs : List (Int × Int)} : ∀ {l : List (Key × Nat × AV)}, PT xs l → ∀ κ es, Ents κ (some .i64) l es → es.map (·.key) = (xs.map (·.1)).map encZ := by
  induction xs with
  | nil =>
    intro l h κ es he
    have : l = [] := by
      cases l with
      | nil => rfl
      | cons e l => simp [PT] at h
    subst this
    cases es with
    | nil => rfl
    | cons _ _ => exact he.elim
  | cons x r ih =>
    intro l h κ es he
    cases l with
    | nil => simp [PT] at h
    | cons e l =>
      obtain ⟨x', r', hx, he', hr⟩ := pt_cons h
      simp only [List.cons.injEq] at hx
      obtain ⟨rfl, rfl⟩ := hx
      rw [he'] at he
      cases es with
      | nil => exact he.elim
      | cons e2 es =>
        have hk := he.1.1.1
        simp only [List.map_cons, ih hr κ es he.2, List.cons.injEq, and_true]
        obtain ⟨key, val, born⟩ := e2
        cases key <;> simp [KeyV] at hk
        rw [hk.1, hk.2]

def K103 {R : Type} (vs : List AV) (st : AS) : Option ((Ent → Option R) → Option R) :=
  match vs with
  | [.fn h [] [.ptr n [] o]] => bif Nat.beq h 285 && Nat.beq o 0 then
      match find st.mem n with
      | some (.cells (.mp q :: _) _ _) => match find st.mem q with
        | some (.map (some .i64) l _) => some fun k => bif Nat.ble (l.length * 8) LIM then keysK l fun ks =>
            k ⟨.slc st.next [] 0 0 1 ks.length ks.length, [(st.next, some (.cells [.arr 1 ks.length (fun i => [.int .i64 (nthZ (sortZ ks) i)]) []] true true))], 1, [n, q]⟩ else none
        | some (.ptab xs) => some fun k => bif Nat.ble (xs.length * 8) LIM && allZ xs then
            k ⟨.slc st.next [] 0 0 1 (xs.map (·.1)).length (xs.map (·.1)).length, [(st.next, some (.cells [.arr 1 (xs.map (·.1)).length (fun i => [.int .i64 (nthZ (sortZ (xs.map (·.1))) i)]) []] true true))], 1, [n, q]⟩ else none
        | _ => none
      | _ => none
    else none
  | _ => none
theorem K103_ok {R : Type} {vs : List AV} {st : AS} {F : (Ent → Option R) → Option R} (h : K103 vs st = some F) {k : Ent → Option R} {r : R} (hk : F k = some r) : ∃ e, k e = some r ∧ CallEnt Tryz.prog 262 vs st.next (find st.mem) e := by
  unfold K103 at h
  split at h
  · rename_i hh n o
    obtain ⟨hb, h1⟩ := cond_some h
    simp only [Bool.and_eq_true] at hb
    have e1 := Nat.eq_of_beq_eq_true hb.1
    have e2 := Nat.eq_of_beq_eq_true hb.2
    subst e1; subst e2
    split at h1
    · rename_i q cs own tip hf
      have key : ∀ (ks : List Int), ks.length * 8 ≤ 140737488355328 → (∀ x ∈ ks, (Lit.int .i64 x).wf = true) → (∀ (κ : Kap) (w : World) (M : Mem) (bm : Nat), MRel κ M w → M q = find st.mem q → κ.loc q = some (some bm) → ∃ es clock, w.heap[bm]? = some (.map es clock) ∧ MapKept.Stamped es clock ∧ es.toList.map (·.key) = ks.map encZ) →
          CallEnt Tryz.prog 262 [.fn 285 [] [.ptr n [] 0]] st.next (find st.mem) ⟨.slc st.next [] 0 0 1 ks.length ks.length, [(st.next, some (.cells [.arr 1 ks.length (fun i => [.int .i64 (nthZ (sortZ ks) i)]) []] true true))], 1, [n, q]⟩ := by
        intro ks hle hwf hmap κ us w M hl hR hrd hfr
        have hMn : M n = some (.cells (.mp q :: cs) own tip) := (hrd n (by simp)).trans hf
        have hnext : κ.loc st.next = none := hfr st.next (Nat.le_refl _) (by simp)
        cases hl with
        | fn _ _ _ xs ys h2 h3 h4 =>
          cases h4; cases h2
          cases h3 with
          | ptr _ p _ b _ g1 g2 g3 =>
            cases g3
            simp only [plen] at g2
            subst g2
            rcases hR.row n _ hMn with ⟨q1, _⟩ | ⟨b', zs, rest, e, fr, q1, q2, q3, _⟩
            · rw [g1] at q1; cases q1
            · rw [g1] at q1; cases q1
              cases q3 with
              | mp _ bm m1 _ =>
                obtain ⟨es, clock, m2, m3, m4⟩ := hmap κ w M bm hR (hrd q (by simp)) m1
                have hcell : w.cell? ⟨b, 0, none⟩ = some (.map (some bm)) := by simp [World.cell?, q2]
                exact sorted_core hR hnext hcell m2 m3 m4 hwf hle
      split at h1
      · rename_i l clock hg
        simp only [Option.some.injEq] at h1
        subst h1
        obtain ⟨hsz, hk1⟩ := cond_some hk
        obtain ⟨ks, hk2, hlen, hwf, hkeys⟩ := keysK_ok l _ hk1
        refine ⟨_, hk2, key ks (by rw [hlen]; exact Nat.le_of_ble_eq_true hsz) hwf fun κ w M bm hR hq hb => ?_⟩
        obtain ⟨es, m2, m3⟩ := map_block hR (hq.trans hg) hb
        exact ⟨es, clock, m2, m3.stamped, hkeys κ _ m3.ent⟩
      · rename_i xs hg
        simp only [Option.some.injEq] at h1
        subst h1
        obtain ⟨hsz, hk1⟩ := cond_some hk
        simp only [Bool.and_eq_true] at hsz
        refine ⟨_, hk1, key (xs.map (·.1)) (by rw [List.length_map]; exact Nat.le_of_ble_eq_true hsz.1) (fun x hx => ?_) fun κ w M bm hR hq hb => ?_⟩
        · obtain ⟨y, hy, rfl⟩ := List.mem_map.1 hx
          have hn := List.all_eq_true.1 hsz.2 y hy
          simp only [inZ, Bool.and_eq_true, decide_eq_true_eq] at hn
          simp [Lit.wf, IntKind.min, IntKind.max, IntKind.signed, IntKind.bits]
          omega
        · obtain ⟨l, clock, es, h0, m2, m3⟩ := ptab_block hR (hq.trans hg) hb
          exact ⟨es, clock, m2, m3.stamped, pt_keys h0 κ _ m3.ent⟩
      · cases h1
    · cases h1
  · cases h
end
end Go.Sv
namespace Go.Sv
noncomputable section
open Go.RowKit Go.Proofs
def fstC : Code → Code
  | .seq a _ => a
  | c => c
def sndC : Code → Code
  | .seq _ b => b
  | c => c
def inC : Code → Code
  | .block _ b => b
  | .loop b => b
  | .cond _ a _ => a
  | c => c
def elseC : Code → Code
  | .cond _ _ b => b
  | c => c
def opsC : Code → Array Oper
  | .region _ o _ => o
  | _ => #[]
def nthO (o : Array Oper) (i : Nat) : Oper := o.toList.getD i ⟨none, .move (.tmp 0), 0, "", #[], none⟩
def q18 (P : Program) : List (Nat × Code × Code) := seqs (bodyOf P 252)
def x18 (P : Program) : Code := ((q18 P).getD 0 (0, .skip, .skip)).2.1
def b18 (P : Program) : Code := ((q18 P).getD 0 (0, .skip, .skip)).2.2
theorem q18_eq : (q18 Tryz.prog) = [(0, (x18 Tryz.prog), (b18 Tryz.prog)), (1, ((q18 Tryz.prog).getD 1 (0, .skip, .skip)).2)] := by kernel_rfl
def o7 (P : Program) := opsC (x18 P)
def o8 (P : Program) := opsC (fstC (inC (b18 P)))
def blk (P : Program) := inC (sndC (sndC (inC (b18 P))))
def o9 (P : Program) := opsC (fstC (blk P))
def o10 (P : Program) := opsC (fstC (sndC (blk P)))
def o11 (P : Program) := opsC (fstC (sndC (sndC (blk P))))
def c18 (P : Program) := sndC (sndC (sndC (blk P)))
def o12 (P : Program) := opsC (inC (c18 P))
def o13 (P : Program) := opsC (elseC (c18 P))
theorem x18_eq : (x18 Tryz.prog) = .region 7 (o7 Tryz.prog) false := by kernel_rfl
theorem b18_eq : (b18 Tryz.prog) = .loop (.seq (.region 8 (o8 Tryz.prog) false) (.seq (.cond (.tmp 32) .skip (.exit 0)) (.block 1 (.seq (.region 9 (o9 Tryz.prog) false) (.seq (.region 10 (o10 Tryz.prog) false) (.seq (.region 11 (o11 Tryz.prog) false) (.cond (.tmp 42) (.region 12 (o12 Tryz.prog) false) (.region 13 (o13 Tryz.prog) false)))))))) := by kernel_rfl
theorem o7_eq : (o7 Tryz.prog).toList = [nthO (o7 Tryz.prog) 0, nthO (o7 Tryz.prog) 1] := by kernel_rfl
theorem o12_eq : (o12 Tryz.prog).toList = [nthO (o12 Tryz.prog) 0, nthO (o12 Tryz.prog) 1, nthO (o12 Tryz.prog) 2, nthO (o12 Tryz.prog) 3, nthO (o12 Tryz.prog) 4, nthO (o12 Tryz.prog) 5] := by kernel_rfl
theorem o71 : (nthO (o7 Tryz.prog) 1).op = .range 341 (.tmp 29) := by kernel_rfl
theorem sz18 : szOf Tryz.prog 252 = 52 := by kernel_rfl
theorem ty96 : mapTy Tryz.prog 341 = some (some .i64, 3, 3) := by kernel_rfl
theorem z3 : zeroAV Tryz.prog 3 = some (.int .i64 0) := by kernel_rfl

theorem op_of {o : Oper} {E : Env} {st : AS} {e : Ent} (h : opE Tryz.prog o E st some = some e) : OpOk Tryz.prog o E st.next (find st.mem) e := by
  obtain ⟨e', h1, h2⟩ := opE_ok sprog_ok.1.zeros sprog_ok.1.flat h
  cases h1; exact h2
def Eh (qa qb r : Nat) : Env := (((Env.mk 6).set 6 (.mp qa)).set 8 (.mp qb)).set 30 (.raw (.pointer (some ⟨r, 0, none⟩)))
def E9 (qa qb r : Nat) (k a : Int) : Env := ((Eh qa qb r).set 9 (.int .i64 k)).set 10 (.int .i64 a)
def Ea (qa qb r : Nat) (k a : Int) : Env := ((E9 qa qb r k a).set 37 (.mp qb)).set 38 (.int .i64 k)
def Eb (qa qb r : Nat) (k a b : Int) (fl : Bool) : Env := (((((((Ea qa qb r k a).set 39 (.tup [.int .i64 b, .bool fl])).set 36 (.tup [.int .i64 b, .bool fl])).set 40 (.int .i64 b)).set 41 (.bool fl)).set 11 (.int .i64 b)).set 12 (.bool fl))
theorem o10_eq : (o10 Tryz.prog).toList = [nthO (o10 Tryz.prog) 0, nthO (o10 Tryz.prog) 1, nthO (o10 Tryz.prog) 2, nthO (o10 Tryz.prog) 3, nthO (o10 Tryz.prog) 4, nthO (o10 Tryz.prog) 5, nthO (o10 Tryz.prog) 6, nthO (o10 Tryz.prog) 7] := by kernel_rfl
theorem ListOk.step {ops : Array Oper} {o : Oper} {t : Tmp} {v : AV} {rd : List Nat} {l : List Oper} {E E' : Env} {st st' : AS} (h : opE Tryz.prog o E st some = some ⟨v, [], 0, rd⟩) (hg : o.guard = none ∧ o.dst = some t) (ht : Nat.blt t 52 = true) (hl : ListOk Tryz.prog ops 52 l (E.set t v) st E' st') : ListOk Tryz.prog ops 52 (o :: l) E st E' st' :=
  ListOk.cons (st1 := st) hg.1 (by rw [hg.2]; exact ht) (op_of h) rfl rfl (by rw [hg.2]; exact hl)
theorem ListOk.last {ops : Array Oper} {o : Oper} {e : Ent} {E : Env} {st st1 : AS} (h : opE Tryz.prog o E st some = some e) (hg : o.guard = none ∧ o.dst = none) (h1 : st1.next = st.next + e.nx) (h2 : find st1.mem = Mem.sets (find st.mem) e.eff) : ListOk Tryz.prog ops 52 [o] E st E st1 :=
  ListOk.cons (st1 := st1) hg.1 (by rw [hg.2]; rfl) (op_of h) h1 h2 (by rw [hg.2]; exact .nil)
theorem d10 : ((nthO (o10 Tryz.prog) 0).guard = none ∧ (nthO (o10 Tryz.prog) 0).dst = some 37) ∧ ((nthO (o10 Tryz.prog) 1).guard = none ∧ (nthO (o10 Tryz.prog) 1).dst = some 38) ∧ ((nthO (o10 Tryz.prog) 2).guard = none ∧ (nthO (o10 Tryz.prog) 2).dst = some 39) ∧
    ((nthO (o10 Tryz.prog) 3).guard = none ∧ (nthO (o10 Tryz.prog) 3).dst = some 36) ∧ ((nthO (o10 Tryz.prog) 4).guard = none ∧ (nthO (o10 Tryz.prog) 4).dst = some 40) ∧ ((nthO (o10 Tryz.prog) 5).guard = none ∧ (nthO (o10 Tryz.prog) 5).dst = some 41) ∧
    ((nthO (o10 Tryz.prog) 6).guard = none ∧ (nthO (o10 Tryz.prog) 6).dst = some 11) ∧ ((nthO (o10 Tryz.prog) 7).guard = none ∧ (nthO (o10 Tryz.prog) 7).dst = some 12) :=
  ⟨⟨by kernel_rfl, by kernel_rfl⟩, ⟨by kernel_rfl, by kernel_rfl⟩, ⟨by kernel_rfl, by kernel_rfl⟩, ⟨by kernel_rfl, by kernel_rfl⟩, ⟨by kernel_rfl, by kernel_rfl⟩, ⟨by kernel_rfl, by kernel_rfl⟩, ⟨by kernel_rfl, by kernel_rfl⟩, ⟨by kernel_rfl, by kernel_rfl⟩⟩
theorem list10 (qa qb r : Nat) (k a b : Int) (fl : Bool) (st : AS) (hlook : lookupE Tryz.prog 341 (.tmp 37) (.tmp 38) true (Ea qa qb r k a) st.mem some = some ⟨.tup [.int .i64 b, .bool fl], [], 0, [qb]⟩) :
    ListOk Tryz.prog (o10 Tryz.prog) 52 (o10 Tryz.prog).toList (E9 qa qb r k a) st (Eb qa qb r k a b fl) st := by
  rw [o10_eq]
  obtain ⟨d0, d1, d2, d3, d4, d5, d6, d7⟩ := d10
  have h0 : opE Tryz.prog (nthO (o10 Tryz.prog) 0) (E9 qa qb r k a) st some = some ⟨.mp qb, [], 0, []⟩ := by kernel_rfl
  have h1 : opE Tryz.prog (nthO (o10 Tryz.prog) 1) ((E9 qa qb r k a).set 37 (.mp qb)) st some = some ⟨.int .i64 k, [], 0, []⟩ := by kernel_rfl
  have e2 : opE Tryz.prog (nthO (o10 Tryz.prog) 2) (Ea qa qb r k a) st some = lookupE Tryz.prog 341 (.tmp 37) (.tmp 38) true (Ea qa qb r k a) st.mem some := by kernel_rfl
  have h2 := e2.trans hlook
  have h3 : opE Tryz.prog (nthO (o10 Tryz.prog) 3) ((Ea qa qb r k a).set 39 (.tup [.int .i64 b, .bool fl])) st some = some ⟨.tup [.int .i64 b, .bool fl], [], 0, []⟩ := by kernel_rfl
  have h4 : opE Tryz.prog (nthO (o10 Tryz.prog) 4) (((Ea qa qb r k a).set 39 (.tup [.int .i64 b, .bool fl])).set 36 (.tup [.int .i64 b, .bool fl])) st some = some ⟨.int .i64 b, [], 0, []⟩ := by kernel_rfl
  have h5 : opE Tryz.prog (nthO (o10 Tryz.prog) 5) ((((Ea qa qb r k a).set 39 (.tup [.int .i64 b, .bool fl])).set 36 (.tup [.int .i64 b, .bool fl])).set 40 (.int .i64 b)) st some = some ⟨.bool fl, [], 0, []⟩ := by kernel_rfl
  have h6 : opE Tryz.prog (nthO (o10 Tryz.prog) 6) (((((Ea qa qb r k a).set 39 (.tup [.int .i64 b, .bool fl])).set 36 (.tup [.int .i64 b, .bool fl])).set 40 (.int .i64 b)).set 41 (.bool fl)) st some = some ⟨.int .i64 b, [], 0, []⟩ := by kernel_rfl
  have h7 : opE Tryz.prog (nthO (o10 Tryz.prog) 7) ((((((Ea qa qb r k a).set 39 (.tup [.int .i64 b, .bool fl])).set 36 (.tup [.int .i64 b, .bool fl])).set 40 (.int .i64 b)).set 41 (.bool fl)).set 11 (.int .i64 b)) st some = some ⟨.bool fl, [], 0, []⟩ := by kernel_rfl
  exact .step h0 d0 rfl (.step h1 d1 rfl (.step h2 d2 rfl (.step h3 d3 rfl (.step h4 d4 rfl (.step h5 d5 rfl (.step h6 d6 rfl (.step h7 d7 rfl .nil)))))))

theorem d11 : (o11 Tryz.prog).toList = [nthO (o11 Tryz.prog) 0] ∧ (nthO (o11 Tryz.prog) 0).guard = none ∧ (nthO (o11 Tryz.prog) 0).dst = some 42 := ⟨by kernel_rfl, by kernel_rfl, by kernel_rfl⟩
theorem d12 : ((nthO (o12 Tryz.prog) 0).guard = none ∧ (nthO (o12 Tryz.prog) 0).dst = some 43) ∧ ((nthO (o12 Tryz.prog) 1).guard = none ∧ (nthO (o12 Tryz.prog) 1).dst = some 44) ∧ ((nthO (o12 Tryz.prog) 2).guard = none ∧ (nthO (o12 Tryz.prog) 2).dst = some 45) ∧
    ((nthO (o12 Tryz.prog) 3).guard = none ∧ (nthO (o12 Tryz.prog) 3).dst = some 46) ∧ ((nthO (o12 Tryz.prog) 4).guard = none ∧ (nthO (o12 Tryz.prog) 4).dst = some 47) ∧ ((nthO (o12 Tryz.prog) 5).guard = none ∧ (nthO (o12 Tryz.prog) 5).dst = none) :=
  ⟨⟨by kernel_rfl, by kernel_rfl⟩, ⟨by kernel_rfl, by kernel_rfl⟩, ⟨by kernel_rfl, by kernel_rfl⟩, ⟨by kernel_rfl, by kernel_rfl⟩, ⟨by kernel_rfl, by kernel_rfl⟩, ⟨by kernel_rfl, by kernel_rfl⟩⟩
theorem d13 : (o13 Tryz.prog).toList = [nthO (o13 Tryz.prog) 0, nthO (o13 Tryz.prog) 1, nthO (o13 Tryz.prog) 2] ∧ ((nthO (o13 Tryz.prog) 0).guard = none ∧ (nthO (o13 Tryz.prog) 0).dst = some 48) ∧ ((nthO (o13 Tryz.prog) 1).guard = none ∧ (nthO (o13 Tryz.prog) 1).dst = some 49) ∧ ((nthO (o13 Tryz.prog) 2).guard = none ∧ (nthO (o13 Tryz.prog) 2).dst = none) :=
  ⟨by kernel_rfl, ⟨by kernel_rfl, by kernel_rfl⟩, ⟨by kernel_rfl, by kernel_rfl⟩, ⟨by kernel_rfl, by kernel_rfl⟩⟩
def Ec (qa qb r : Nat) (k a b : Int) (fl : Bool) : Env := (Eb qa qb r k a b fl).set 42 (.bool fl)
theorem list11 (qa qb r : Nat) (k a b : Int) (fl : Bool) (st : AS) : ListOk Tryz.prog (o11 Tryz.prog) 52 (o11 Tryz.prog).toList (Eb qa qb r k a b fl) st (Ec qa qb r k a b fl) st := by
  obtain ⟨e, d⟩ := d11
  rw [e]
  have h0 : opE Tryz.prog (nthO (o11 Tryz.prog) 0) (Eb qa qb r k a b fl) st some = some ⟨.bool fl, [], 0, []⟩ := by kernel_rfl
  exact .step h0 d rfl .nil
def Ed (qa qb r : Nat) (k a b : Int) : Env := (((((Ec qa qb r k a b true).set 43 (.mp qa)).set 44 (.int .i64 k)).set 45 (.int .i64 a)).set 46 (.int .i64 b)).set 47 (.int .i64 (bif decide (b < a) then b else a))
def Ee (qa qb r : Nat) (k a b : Int) : Env := ((Ec qa qb r k a b false).set 48 (.mp qa)).set 49 (.int .i64 k)
theorem list12 (qa qb r : Nat) (k a b : Int) (st st1 : AS) {l : Ents3} {c : Nat} (hq : find st.mem qa = some (.map (some .i64) l c)) (hg : (mapGet l (.i k)).isSome = true) (h1 : st1.next = st.next)
    (h2 : find st1.mem = Mem.sets (find st.mem) [(qa, some (.map (some .i64) (mapPut l (.i k) (.int .i64 (bif decide (b < a) then b else a))) c))]) :
    ListOk Tryz.prog (o12 Tryz.prog) 52 (o12 Tryz.prog).toList (Ec qa qb r k a b true) st (Ed qa qb r k a b) st1 := by
  rw [o12_eq]
  obtain ⟨d0, d1, d2, d3, d4, d5⟩ := d12
  have h0' : opE Tryz.prog (nthO (o12 Tryz.prog) 0) (Ec qa qb r k a b true) st some = some ⟨.mp qa, [], 0, []⟩ := by kernel_rfl
  have h1' : opE Tryz.prog (nthO (o12 Tryz.prog) 1) ((Ec qa qb r k a b true).set 43 (.mp qa)) st some = some ⟨.int .i64 k, [], 0, []⟩ := by kernel_rfl
  have h2' : opE Tryz.prog (nthO (o12 Tryz.prog) 2) (((Ec qa qb r k a b true).set 43 (.mp qa)).set 44 (.int .i64 k)) st some = some ⟨.int .i64 a, [], 0, []⟩ := by kernel_rfl
  have h3' : opE Tryz.prog (nthO (o12 Tryz.prog) 3) ((((Ec qa qb r k a b true).set 43 (.mp qa)).set 44 (.int .i64 k)).set 45 (.int .i64 a)) st some = some ⟨.int .i64 b, [], 0, []⟩ := by kernel_rfl
  have h4' : opE Tryz.prog (nthO (o12 Tryz.prog) 4) (((((Ec qa qb r k a b true).set 43 (.mp qa)).set 44 (.int .i64 k)).set 45 (.int .i64 a)).set 46 (.int .i64 b)) st some = some ⟨.int .i64 (bif decide (b < a) then b else a), [], 0, []⟩ := by kernel_rfl
  have e5 : opE Tryz.prog (nthO (o12 Tryz.prog) 5) (Ed qa qb r k a b) st some = mapUpdateE Tryz.prog 341 (.tmp 43) (.tmp 44) (.tmp 47) (Ed qa qb r k a b) st.mem some := by kernel_rfl
  have h5' := e5.trans (mapUpdateE_of ty96 (iv := .int .i64 k) (K := .i k) (n := qa) (q := .i64) (z := bif decide (b < a) then b else a) (by kernel_rfl) (by kernel_rfl) (by kernel_rfl) hq (by kernel_rfl) hg)
  have hl : ListOk Tryz.prog (o12 Tryz.prog) 52 [nthO (o12 Tryz.prog) 5] (Ed qa qb r k a b) st (Ed qa qb r k a b) st1 := ListOk.last h5' d5 h1 h2
  exact .step h0' d0 rfl (.step h1' d1 rfl (.step h2' d2 rfl (.step h3' d3 rfl (.step h4' d4 rfl hl))))
theorem list13 (qa qb r : Nat) (k a b : Int) (st st1 : AS) {l : Ents3} {c : Nat} (hq : find st.mem qa = some (.map (some .i64) l c)) (h1 : st1.next = st.next)
    (h2 : find st1.mem = Mem.sets (find st.mem) [(qa, some (.map (some .i64) (mapDel l (.i k)) c))]) :
    ListOk Tryz.prog (o13 Tryz.prog) 52 (o13 Tryz.prog).toList (Ec qa qb r k a b false) st (Ee qa qb r k a b) st1 := by
  obtain ⟨e, d0, d1, d2⟩ := d13
  rw [e]
  have h0' : opE Tryz.prog (nthO (o13 Tryz.prog) 0) (Ec qa qb r k a b false) st some = some ⟨.mp qa, [], 0, []⟩ := by kernel_rfl
  have h1' : opE Tryz.prog (nthO (o13 Tryz.prog) 1) ((Ec qa qb r k a b false).set 48 (.mp qa)) st some = some ⟨.int .i64 k, [], 0, []⟩ := by kernel_rfl
  have e2 : opE Tryz.prog (nthO (o13 Tryz.prog) 2) (Ee qa qb r k a b) st some = deleteE Tryz.prog 341 (.tmp 48) (.tmp 49) (Ee qa qb r k a b) st.mem some := by kernel_rfl
  have h2' := e2.trans (deleteE_of ty96 (iv := .int .i64 k) (K := .i k) (n := qa) (by kernel_rfl) (by kernel_rfl) (by kernel_rfl) hq)
  have hl : ListOk Tryz.prog (o13 Tryz.prog) 52 [nthO (o13 Tryz.prog) 2] (Ee qa qb r k a b) st (Ee qa qb r k a b) st1 := ListOk.last h2' d2 h1 h2
  exact .step h0' d0 rfl (.step h1' d1 rfl hl)
theorem ListOk.code {P : Program} {ops : Array Oper} {id nb sz : Nat} {E E' : Env} {st st' : AS} (h : ListOk P ops sz ops.toList E st E' st') (hn : nb ≤ st.next) : CodeOk P nb sz (.region id ops false) E st .normal E' st' := fun κ a w hA hR =>
  wp_region_list (h.2 κ a w _ hA hR fun κ' _ _ a1 a2 a3 a4 => ⟨rfl, κ', a1.mono hn, a2, a3, a4⟩)
theorem CodeOk.seq {P : Program} {x y : Code} {nb sz : Nat} {E E1 E' : Env} {st st1 st' : AS} {e : EK} (h1 : CodeOk P nb sz x E st .normal E1 st1) (h2 : CodeOk P nb sz y E1 st1 e E' st') : CodeOk P nb sz (.seq x y) E st e E' st' := fun κ a w hA hR => wp_seq (by
  refine wp_mono (h1 κ a w hA hR) fun ex a' w' hq => ?_
  obtain ⟨rfl, κ', hle, hA', hR', hb⟩ := hq
  exact wp_mono (h2 κ' a' w' hA' hR') fun ex a2 w2 hq2 => hq2.mono hle hb)

/-- A smaller frame, slot by slot. -/
theorem less_of {qa qb r : Nat} {E : Env} (h : (E.get 6, E.get 8, E.get 30) = (AV.mp qa, AV.mp qb, AV.raw (.pointer (some ⟨r, 0, none⟩)))) : Less (Eh qa qb r) E := fun t => by
  simp only [Prod.mk.injEq] at h
  obtain ⟨h6, h8, h30⟩ := h
  unfold Eh
  by_cases e30 : t = 30
  · subst e30; rw [h30]; exact Env.get_set_same _ _ _
  · rw [Env.get_set_ne e30]
    by_cases e8 : t = 8
    · subst e8; rw [h8]; exact Env.get_set_same _ _ _
    · rw [Env.get_set_ne e8]
      by_cases e6 : t = 6
      · subst e6; rw [h6]; exact Env.get_set_same _ _ _
      · rw [Env.get_set_ne e6, Env.get_mk]; exact .inr rfl
/-- What becomes of an entry. -/
def joinF (lb : Ents3) : Key → AV → Option AV := fun k v =>
  match mapGet lb k with
  | some (.int _ b) => match v with
    | .int q a => some (.int q (bif decide (b < a) then b else a))
    | _ => none
  | _ => none
def intsOk : Ents3 → Bool
  | [] => true
  | (.i _, _, .int .i64 _) :: l => intsOk l
  | _ => false
theorem intsOk_mem : ∀ {l : Ents3}, intsOk l = true → ∀ x ∈ l, ∃ k b a, x = (.i k, b, .int .i64 a)
  | [], _, x, h => by cases h
  | (k, b, v) :: l, h, x, hx => by
    unfold intsOk at h
    split at h
    · rename_i e; cases e
    · rename_i k' b' a' l' e
      cases e
      rcases List.mem_cons.1 hx with rfl | hx
      · exact ⟨_, _, _, rfl⟩
      · exact intsOk_mem h x hx
    · cases h
theorem mapGet_mem {K : Key} {v : AV} : ∀ {l : Ents3}, mapGet l K = some v → ∃ b, (K, b, v) ∈ l
  | [], h => by cases h
  | (k, b, x) :: l, h => by
    simp only [mapGet] at h
    split at h
    · rename_i hk
      cases h
      have := keyEq_iff.1 hk
      subst this
      exact ⟨b, List.mem_cons_self ..⟩
    · obtain ⟨b, hb⟩ := mapGet_mem h
      exact ⟨b, List.mem_cons_of_mem _ hb⟩
def rest18 (P : Program) : Code := .seq (.region 10 (o10 P) false) (.seq (.region 11 (o11 P) false) (.cond (.tmp 42) (.region 12 (o12 P) false) (.region 13 (o13 P) false)))
theorem rest18_ok (qa qb r : Nat) (k a : Int) (nb next : Nat) (m : List (Nat × Row)) {lc lb : Ents3} {ca cb : Nat} (hn : nb ≤ next) (ha : find m qa = some (.map (some .i64) lc ca)) (hb : find m qb = some (.map (some .i64) lb cb)) (hg : (mapGet lc (.i k)).isSome = true) (hi : intsOk lb = true) :
    ∃ E', Less (Eh qa qb r) E' ∧ CodeOk Tryz.prog nb 52 (rest18 Tryz.prog) (E9 qa qb r k a) ⟨next, m⟩ .normal E' ⟨next, (qa, .map (some .i64) (match joinF lb (.i k) (.int .i64 a) with | some v' => mapPut lc (.i k) v' | none => mapDel lc (.i k)) ca) :: m⟩ := by
  have hset : ∀ l', find ((qa, Row.map (some .i64) l' ca) :: m) = Mem.sets (find m) [(qa, some (.map (some .i64) l' ca))] := fun l' => funext fun x => by
    show find _ x = Mem.set (find m) qa _ x
    simp only [find, Mem.set]
    by_cases e : x = qa
    · subst e; simp
    · rw [beq_false (Ne.symm e), if_neg e]; rfl
  have hk0 : aeval (Ea qa qb r k a) (.tmp 38) = some (.int .i64 k) := by kernel_rfl
  have hm0 : aeval (Ea qa qb r k a) (.tmp 37) = some (.mp qb) := by kernel_rfl
  cases hget : mapGet lb (.i k) with
  | some v =>
    obtain ⟨b0, hmem⟩ := mapGet_mem hget
    obtain ⟨k', b', b, e⟩ := intsOk_mem hi _ hmem
    simp only [Prod.mk.injEq] at e
    obtain ⟨_, _, rfl⟩ := e
    have hj : joinF lb (.i k) (.int .i64 a) = some (.int .i64 (bif decide (b < a) then b else a)) := by simp only [joinF, hget]
    rw [hj]
    have hl := list10 qa qb r k a b true ⟨next, m⟩ (lookupE_of ty96 hk0 rfl hm0 hb hget rfl)
    have h12 := list12 qa qb r k a b ⟨next, m⟩ ⟨next, (qa, .map (some .i64) (mapPut lc (.i k) (.int .i64 (bif decide (b < a) then b else a))) ca) :: m⟩ ha hg rfl (hset _)
    refine ⟨Ed qa qb r k a b, less_of (E := Ed qa qb r k a b) (by kernel_rfl), (hl.code hn).seq (((list11 qa qb r k a b true ⟨next, m⟩).code hn).seq ?_)⟩
    · intro κ a' w hA hR
      have hc : a'.eval (.tmp 42) = .bool true := bool_of (b := true) (hA.rel.get 42)
      exact wp_cond_true hc ((h12.code hn) κ a' w hA hR)
  | none =>
    have hj : joinF lb (.i k) (.int .i64 a) = none := by simp only [joinF, hget]
    rw [hj]
    have hl := list10 qa qb r k a 0 false ⟨next, m⟩ (lookupE_none ty96 hk0 rfl hm0 hb hget z3 rfl)
    have h13 := list13 qa qb r k a 0 ⟨next, m⟩ ⟨next, (qa, .map (some .i64) (mapDel lc (.i k)) ca) :: m⟩ ha rfl (hset _)
    refine ⟨Ee qa qb r k a 0, less_of (E := Ee qa qb r k a 0) (by kernel_rfl), (hl.code hn).seq (((list11 qa qb r k a 0 false ⟨next, m⟩).code hn).seq ?_)⟩
    · intro κ a' w hA hR
      have hc : a'.eval (.tmp 42) = .bool false := bool_of (b := false) (hA.rel.get 42)
      exact wp_cond_false hc ((h13.code hn) κ a' w hA hR)
end
end Go.Sv
namespace Go.Sv
noncomputable section
open Go.RowKit Go.Proofs
open Go.ChangeMaps (setBlock)

theorem o8_eq : (o8 Tryz.prog).toList = [nthO (o8 Tryz.prog) 0, nthO (o8 Tryz.prog) 1] := by kernel_rfl
theorem o9_eq : (o9 Tryz.prog).toList = [nthO (o9 Tryz.prog) 0, nthO (o9 Tryz.prog) 1, nthO (o9 Tryz.prog) 2, nthO (o9 Tryz.prog) 3, nthO (o9 Tryz.prog) 4] := by kernel_rfl
theorem d8 : (nthO (o8 Tryz.prog) 0).op = .next (.tmp 30) false ∧ (nthO (o8 Tryz.prog) 0).guard = none ∧ (nthO (o8 Tryz.prog) 0).dst = some 31 ∧ (nthO (o8 Tryz.prog) 1).guard = none ∧ (nthO (o8 Tryz.prog) 1).dst = some 32 := ⟨by kernel_rfl, by kernel_rfl, by kernel_rfl, by kernel_rfl, by kernel_rfl⟩
theorem d9 : (nthO (o9 Tryz.prog) 0).op = .entry (.tmp 30) ∧ (nthO (o9 Tryz.prog) 0).guard = none ∧ (nthO (o9 Tryz.prog) 0).dst = some 33 ∧ ((nthO (o9 Tryz.prog) 1).guard = none ∧ (nthO (o9 Tryz.prog) 1).dst = some 34) ∧ ((nthO (o9 Tryz.prog) 2).guard = none ∧ (nthO (o9 Tryz.prog) 2).dst = some 35) ∧
    ((nthO (o9 Tryz.prog) 3).guard = none ∧ (nthO (o9 Tryz.prog) 3).dst = some 9) ∧ ((nthO (o9 Tryz.prog) 4).guard = none ∧ (nthO (o9 Tryz.prog) 4).dst = some 10) :=
  ⟨by kernel_rfl, by kernel_rfl, by kernel_rfl, ⟨by kernel_rfl, by kernel_rfl⟩, ⟨by kernel_rfl, by kernel_rfl⟩, ⟨by kernel_rfl, by kernel_rfl⟩, ⟨by kernel_rfl, by kernel_rfl⟩⟩
theorem Rel.find {κ : Kap} {n : Nat} {m m' : List (Nat × Row)} {w : World} (h : Rel κ ⟨n, m⟩ w) (e : Go.Sv.find m' = Go.Sv.find m) : Rel κ ⟨n, m'⟩ w := ⟨h.fresh, by show MRel κ (Go.Sv.find m') w; rw [e]; exact h.mem⟩
def El (qa qb r : Nat) : Env := ((Eh qa qb r).set 31 (.tup [.bool false])).set 32 (.bool false)
def Ef (qa qb r : Nat) (k a : Int) : Env := ((Eh qa qb r).set 31 (.tup [.bool true, .int .i64 k, .int .i64 a])).set 32 (.bool true)
def Eg (qa qb r : Nat) (k a : Int) : Env := (((((Ef qa qb r k a).set 33 (.tup [.int .i64 k, .int .i64 a])).set 34 (.int .i64 k)).set 35 (.int .i64 a)).set 9 (.int .i64 k)).set 10 (.int .i64 a)
theorem list8l (qa qb r : Nat) (st : AS) : ListOk Tryz.prog (o8 Tryz.prog) 52 [nthO (o8 Tryz.prog) 1] ((Eh qa qb r).set 31 (.tup [.bool false])) st (El qa qb r) st := by
  have h : opE Tryz.prog (nthO (o8 Tryz.prog) 1) ((Eh qa qb r).set 31 (.tup [.bool false])) st some = some ⟨.bool false, [], 0, []⟩ := by kernel_rfl
  exact .step h ⟨d8.2.2.2.1, d8.2.2.2.2⟩ rfl .nil
theorem list8f (qa qb r : Nat) (k a : Int) (st : AS) : ListOk Tryz.prog (o8 Tryz.prog) 52 [nthO (o8 Tryz.prog) 1] ((Eh qa qb r).set 31 (.tup [.bool true, .int .i64 k, .int .i64 a])) st (Ef qa qb r k a) st := by
  have h : opE Tryz.prog (nthO (o8 Tryz.prog) 1) ((Eh qa qb r).set 31 (.tup [.bool true, .int .i64 k, .int .i64 a])) st some = some ⟨.bool true, [], 0, []⟩ := by kernel_rfl
  exact .step h ⟨d8.2.2.2.1, d8.2.2.2.2⟩ rfl .nil
theorem list9 (qa qb r : Nat) (k a : Int) (st : AS) : ListOk Tryz.prog (o9 Tryz.prog) 52 [nthO (o9 Tryz.prog) 1, nthO (o9 Tryz.prog) 2, nthO (o9 Tryz.prog) 3, nthO (o9 Tryz.prog) 4] ((Ef qa qb r k a).set 33 (.tup [.int .i64 k, .int .i64 a])) st (Eg qa qb r k a) st := by
  obtain ⟨_, _, _, d1, d2, d3, d4⟩ := d9
  have h1 : opE Tryz.prog (nthO (o9 Tryz.prog) 1) ((Ef qa qb r k a).set 33 (.tup [.int .i64 k, .int .i64 a])) st some = some ⟨.int .i64 k, [], 0, []⟩ := by kernel_rfl
  have h2 : opE Tryz.prog (nthO (o9 Tryz.prog) 2) (((Ef qa qb r k a).set 33 (.tup [.int .i64 k, .int .i64 a])).set 34 (.int .i64 k)) st some = some ⟨.int .i64 a, [], 0, []⟩ := by kernel_rfl
  have h3 : opE Tryz.prog (nthO (o9 Tryz.prog) 3) ((((Ef qa qb r k a).set 33 (.tup [.int .i64 k, .int .i64 a])).set 34 (.int .i64 k)).set 35 (.int .i64 a)) st some = some ⟨.int .i64 k, [], 0, []⟩ := by kernel_rfl
  have h4 : opE Tryz.prog (nthO (o9 Tryz.prog) 4) (((((Ef qa qb r k a).set 33 (.tup [.int .i64 k, .int .i64 a])).set 34 (.int .i64 k)).set 35 (.int .i64 a)).set 9 (.int .i64 k)) st some = some ⟨.int .i64 a, [], 0, []⟩ := by kernel_rfl
  exact .step h1 d1 rfl (.step h2 d2 rfl (.step h3 d3 rfl (.step h4 d4 rfl .nil)))
theorem less9 (qa qb r : Nat) (k a : Int) : Less (E9 qa qb r k a) (Eg qa qb r k a) := fun t => by
  have g9 : (Eg qa qb r k a).get 9 = .int .i64 k := by kernel_rfl
  have g10 : (Eg qa qb r k a).get 10 = .int .i64 a := by kernel_rfl
  unfold E9
  by_cases e10 : t = 10
  · subst e10; rw [g10]; exact Env.get_set_same _ _ _
  · rw [Env.get_set_ne e10]
    by_cases e9 : t = 9
    · subst e9; rw [g9]; exact Env.get_set_same _ _ _
    · rw [Env.get_set_ne e9]
      exact less_of (E := Eg qa qb r k a) (by kernel_rfl) t

structure JInv (κ0 : Kap) (M0 : Mem) (w0 : World) (nb next : Nat) (m : List (Nat × Row)) (qa qb r ba ca c0 : Nat) (la : Ents3) (f : Key → AV → Option AV) (seen : Array Nat) (κ : Kap) (a : Act) (w : World) : Prop where
  leN : Kap.leN nb κ0 κ
  hA : SRel κ 52 (Eh qa qb r) a
  hR : Rel κ ⟨next, (qa, .map (some .i64) (turned f seen.toList la) ca) :: m⟩ w
  fr : Fr κ0 M0 w0 κ (find ((qa, .map (some .i64) (turned f seen.toList la) ca) :: m)) w
  loc : κ.loc qa = some (some ba)
  it : w.heap[r]? = some (.mapIter (some ba) ca seen c0)
  cc : ca ≤ c0
  old : w0.heap.size ≤ r
def JEnd (κ0 : Kap) (M0 : Mem) (w0 : World) (nb next : Nat) (m : List (Nat × Row)) (qa qb r ca : Nat) (la : Ents3) (f : Key → AV → Option AV) (a : Act) (w : World) : Prop :=
  ∃ κ, Kap.leN nb κ0 κ ∧ SRel κ 52 (Eh qa qb r) a ∧ Rel κ ⟨next, (qa, .map (some .i64) (turned f (la.map fun x => x.2.1) la) ca) :: m⟩ w ∧ Fr κ0 M0 w0 κ (find ((qa, .map (some .i64) (turned f (la.map fun x => x.2.1) la) ca) :: m)) w
def body18 (P : Program) : Code := .seq (.region 8 (o8 P) false) (.seq (.cond (.tmp 32) .skip (.exit 0)) (.block 1 (.seq (.region 9 (o9 P) false) (rest18 P))))
theorem b18_body : b18 Tryz.prog = .loop (body18 Tryz.prog) := b18_eq
theorem nextRun {a : Act} {w w' : World} {v : Value} {r : Nat} (he : a.eval (.tmp 30) = .pointer (some ⟨r, 0, none⟩)) (h : (Instr.next (.pointer (some ⟨r, 0, none⟩)) false (nthO (o8 Tryz.prog) 0).type).run Tryz.prog w = .ok v w') : (execOp a.eval (nthO (o8 Tryz.prog) 0)).run Tryz.prog w = .ok (.value v) w' := by
  simp only [execOp, d8.1, he]
  exact run_value h
theorem entryRun {a : Act} {w w' : World} {v : Value} {r : Nat} (he : a.eval (.tmp 30) = .pointer (some ⟨r, 0, none⟩)) (h : (Instr.entry (.pointer (some ⟨r, 0, none⟩))).run Tryz.prog w = .ok v w') : (execOp a.eval (nthO (o9 Tryz.prog) 0)).run Tryz.prog w = .ok (.value v) w' := by
  simp only [execOp, d9.1, he]
  exact run_value h
theorem raw_of {κ : Kap} {u : Value} {y : Value} (h : VRel κ (.raw u) y) : y = u := by cases h; rfl
end
end Go.Sv
namespace Go.Sv
noncomputable section
open Go.RowKit Go.Proofs
open Go.ChangeMaps (setBlock)

theorem set_size (w : World) (r : Nat) (o : Obj) : (setBlock w r o).heap.size = w.heap.size := by simp [setBlock]
theorem set_ne (w : World) {r b : Nat} (o : Obj) (h : b ≠ r) : (setBlock w r o).heap[b]? = w.heap[b]? := by simp [setBlock, Array.getElem?_setIfInBounds_ne (Ne.symm h)]
theorem set_at (w : World) {r : Nat} (o : Obj) (h : r < w.heap.size) : (setBlock w r o).heap[r]? = some o := by simp [setBlock, h]
theorem wanted_none {o : Oper} (hg : o.guard = none) {ops : Array Oper} {a : Act} : Region.wanted o (yielded ops a.tmps) = true := by unfold Region.wanted; rw [hg]

theorem wpList_head {ops : Array Oper} {Q : Exit → Act → World → Prop} {o : Oper} {l : List Oper} {a : Act} {w w' : World} {v : Value} (hg : o.guard = none) (h : (execOp a.eval o).run Tryz.prog w = .ok (.value v) w') (hk : wpList Tryz.prog ops Q l (a.put o.dst v) w') : wpList Tryz.prog ops Q (o :: l) a w := by
  unfold wpList
  rw [wanted_none hg, if_pos rfl]
  exact .inl (wp_value h hk)
theorem nextRun' {a : Act} {w w' : World} {v : Value} {r : Nat} {ty : TypeId} (hty : ty = (nthO (o8 Tryz.prog) 0).type) (he : a.eval (.tmp 30) = .pointer (some ⟨r, 0, none⟩)) (h : (Instr.next (.pointer (some ⟨r, 0, none⟩)) false ty).run Tryz.prog w = .ok v w') : (execOp a.eval (nthO (o8 Tryz.prog) 0)).run Tryz.prog w = .ok (.value v) w' := by
  rw [hty] at h
  exact nextRun he h
theorem int64_of {κ : Kap} {q : IntKind} {n : Int} {y : Value} (h : VRel κ (.int q n) y) : y = .int q n := by cases h; rfl
theorem push_mem {x b : Nat} {l : List Nat} : (x ∈ l ++ [b]) ↔ x ∈ b :: l := by simp [Or.comm]
theorem put_set {κ : Kap} {E : Env} {a : Act} {t : Nat} {v : AV} {v' : Value} {d : Option Tmp} (h : SRel κ 52 E a) (hd : d = some t) (ht : Nat.blt t 52 = true) (hv : VRel κ v v') : SRel κ 52 (E.set t v) (a.put d v') := by
  subst hd
  exact SRel.put h (d := some t) ht hv
set_option maxRecDepth 100000 in
theorem round18 {κ0 : Kap} {M0 : Mem} {w0 : World} {nb next : Nat} {m : List (Nat × Row)} {qa qb r ba ca c0 : Nat} {la lb : Ents3} {cb : Nat} {seen : Array Nat} {κ : Kap} {a : Act} {w : World}
    (hnb : nb ≤ next) (hne : qa ≠ qb) (hqb : find m qb = some (.map (some .i64) lb cb)) (hia : intsOk la = true) (hib : intsOk lb = true) (hka : KeysApart la) (hsa : StampsApart la)
    (h : JInv κ0 M0 w0 nb next m qa qb r ba ca c0 la (joinF lb) seen κ a w) :
    (body18 Tryz.prog).wp Tryz.prog (fun e a' w' => (e = .exit 0 ∧ JEnd κ0 M0 w0 nb next m qa qb r ca la (joinF lb) a' w') ∨
      (e = .normal ∧ ∃ seen' κ', unseen seen'.toList la < unseen seen.toList la ∧ JInv κ0 M0 w0 nb next m qa qb r ba ca ca la (joinF lb) seen' κ' a' w')) a w := by
  have hrlt : r < w.heap.size := (Array.getElem?_eq_some_iff.1 h.it).1
  have hfa : ∀ l' : Ents3, find ((qa, Row.map (some .i64) l' ca) :: m) qa = some (.map (some .i64) l' ca) := fun l' => by simp [find]
  have hfb : ∀ l' : Ents3, find ((qa, Row.map (some .i64) l' ca) :: m) qb = some (.map (some .i64) lb cb) := fun l' => by
    simp only [find, beq_false hne, cond_false]; exact hqb
  obtain ⟨es, hbm, hmr⟩ := map_block h.hR.mem (hfa _) h.loc
  have hold : ∀ x ∈ es.toList, x.born < ca := hmr.stamped.1
  have he30 : a.eval (.tmp 30) = .pointer (some ⟨r, 0, none⟩) := raw_of (h.hA.rel.get 30)
  unfold body18
  refine wp_seq (wp_region_list ?_)
  rw [o8_eq]
  have hnx := fun ty => run_next_at (P := Tryz.prog) w ty r ba ca c0 seen es ca h.it hbm hold h.cc
  obtain ⟨ty, hty⟩ : ∃ ty, ty = (nthO (o8 Tryz.prog) 0).type := ⟨_, rfl⟩
  rcases hnx ty with ⟨h0, hrun⟩ | ⟨e, hemem, w1, hw1, hrun⟩
  · -- nothing is left
    refine wpList_head d8.2.1 (nextRun' hty he30 hrun) ?_
    have hA1 : SRel κ 52 ((Eh qa qb r).set 31 (.tup [.bool false])) (a.put (nthO (o8 Tryz.prog) 0).dst (.tuple #[.bool false])) := by
      exact put_set h.hA d8.2.2.1 rfl (.tup [.bool false] [.bool false] (.bool false .nil) .nil)
    refine (list8l qa qb r _).2 κ _ w _ hA1 h.hR fun κ2 a2 w2 b1 b2 b3 b4 => ?_
    show (Code.seq (.cond (.tmp 32) .skip (.exit 0)) _).wp _ _ a2 w2
    have hc : a2.eval (.tmp 32) = .bool false := bool_of (b := false) (b2.rel.get 32)
    refine wp_seq (wp_cond_false hc (wp_exit ?_))
    refine .inl ⟨rfl, κ2, Kap.leN_trans (Nat.le_refl _) h.leN (b1.mono hnb), b2.less (less_of (E := El qa qb r) (by kernel_rfl)), ?_⟩
    have hall : ∀ x ∈ la, x.2.1 ∈ seen.toList := fun x hx => by
      obtain ⟨k, b, v⟩ := x
      rcases Classical.em (b ∈ seen.toList) with hb | hb
      · exact hb
      · exfalso
        obtain ⟨e, he1, he2⟩ := Ents.to_mem hmr.ent (turned_mem (f := joinF lb) hx hb)
        have : e ∈ (leftOf es seen).toList := by
          unfold leftOf
          simp only [Array.toList_filter, List.mem_filter]
          refine ⟨he1, ?_⟩
          rw [he2]
          simpa using hb
        have hz : (leftOf es seen).toList = [] := by
          apply List.eq_nil_of_length_eq_zero
          simpa using h0
        rw [hz] at this; cases this
    have ht : turned (joinF lb) (la.map fun x => x.2.1) la = turned (joinF lb) seen.toList la := turned_all (fun x hx => List.mem_map.2 ⟨x, hx, rfl⟩) hall
    rw [ht]
    exact ⟨b3, h.fr.trans b4⟩
  · -- an entry has come
    refine wpList_head d8.2.1 (nextRun' hty he30 hrun) ?_
    have hleft : e ∈ es.toList ∧ e.born ∉ seen.toList := by
      unfold leftOf at hemem
      simp only [Array.toList_filter, List.mem_filter] at hemem
      exact ⟨hemem.1, by simpa using hemem.2⟩
    obtain ⟨k, b, v, hm1, hm2, hm3, hm4⟩ := Ents.of_mem hmr.ent e hleft.1
    have hbs : b ∉ seen.toList := hm3 ▸ hleft.2
    obtain ⟨y, hy1, hy2, hy3, hy4⟩ := turned_keys hm1
    have hyla := hy4 hbs
    subst hyla
    obtain ⟨kk, b', a0, hy5⟩ := intsOk_mem hia _ hy1
    simp only [Prod.mk.injEq] at hy5
    obtain ⟨rfl, _, rfl⟩ := hy5
    have hkey : e.key = .int .i64 kk := by
      obtain ⟨key, val, born⟩ := e
      cases key <;> simp [KeyV] at hm2
      rw [hm2.1, hm2.2]
    have hval : e.val = .int .i64 a0 := int64_of hm4
    have hw1h : w1.heap = w.heap := by rcases hw1 with rfl | rfl <;> rfl
    have hw1o : w1.os = w.os ∧ w1.tape = w.tape ∧ w1.output = w.output := by rcases hw1 with rfl | rfl <;> exact ⟨rfl, rfl, rfl⟩
    have hR1 : Rel κ ⟨next, (qa, .map (some .i64) (turned (joinF lb) seen.toList la) ca) :: m⟩ (setBlock w1 r (.mapIter (some ba) ca (seen.push e.born) ca)) :=
      ⟨h.hR.fresh, h.hR.mem.iter h.it (fun b hb => by rw [set_ne _ _ hb, hw1h]) (by rw [set_size, hw1h])⟩
    have hF1 : Fr κ0 M0 w0 κ (find ((qa, .map (some .i64) (turned (joinF lb) seen.toList la) ca) :: m)) (setBlock w1 r (.mapIter (some ba) ca (seen.push e.born) ca)) :=
      h.fr.off h.old (fun b hb => by rw [set_ne _ _ hb, hw1h]) (by rw [set_size, hw1h]) hw1o.1 hw1o.2.1 hw1o.2.2
    have hit1 : (setBlock w1 r (.mapIter (some ba) ca (seen.push e.born) ca)).heap[r]? = some (.mapIter (some ba) ca (seen.push e.born) ca) := set_at _ _ (by rw [hw1h]; exact hrlt)
    have hA1 : SRel κ 52 ((Eh qa qb r).set 31 (.tup [.bool true, .int .i64 kk, .int .i64 a0])) (a.put (nthO (o8 Tryz.prog) 0).dst (.tuple #[.bool true, e.key, e.val])) := by
      rw [hkey, hval]
      exact put_set h.hA d8.2.2.1 rfl (.tup [.bool true, .int .i64 kk, .int .i64 a0] [.bool true, .int .i64 kk, .int .i64 a0] (.bool true (.int _ _ (.int _ _ .nil))) .nil)
    refine (list8f qa qb r kk a0 _).2 κ _ _ _ hA1 hR1 fun κ2 a2 w2 b1 b2 b3 b4 => ?_
    show (Code.seq (.cond (.tmp 32) .skip (.exit 0)) _).wp _ _ a2 w2
    have hc : a2.eval (.tmp 32) = .bool true := bool_of (b := true) (b2.rel.get 32)
    refine wp_seq (wp_cond_true hc (wp_skip ?_))
    show (Code.block 1 _).wp _ _ a2 w2
    refine wp_block (wp_seq (wp_region_list ?_))
    rw [o9_eq]
    have hqn : qa < next := by
      rcases Nat.lt_or_ge qa next with h' | h'
      · exact h'
      · have := h.hR.fresh qa h'; rw [h.loc] at this; cases this
    have hloc2 : κ2.loc qa = some (some ba) := by rw [b1.loc qa hqn]; exact h.loc
    have hno1 : ¬ owned κ (find ((qa, .map (some .i64) (turned (joinF lb) seen.toList la) ca) :: m)) r := by
      rintro ⟨n, row, g1, _, g3⟩
      exact hR1.mem.notIter hit1 n row g1 g3
    have hrlt1 : r < (setBlock w1 r (.mapIter (some ba) ca (seen.push e.born) ca)).heap.size := (Array.getElem?_eq_some_iff.1 hit1).1
    have hit2 : w2.heap[r]? = some (.mapIter (some ba) ca (seen.push e.born) ca) := by rw [b4.keep r hrlt1 hno1]; exact hit1
    obtain ⟨es2, hbm2, hmr2⟩ := map_block b3.mem (hfa _) hloc2
    obtain ⟨e2, he2, heb⟩ := Ents.to_mem hmr2.ent hm1
    obtain ⟨k3, b3', v3, q1, q2, q3, q4⟩ := Ents.of_mem hmr2.ent e2 he2
    -- it is the same entry
    obtain ⟨y3, p1, p2, p3, p4⟩ := turned_keys q1
    have hb3 : b3' = e.born := by rw [← q3, heb, hm3]
    have hy3 := p4 (by rw [hb3, hm3]; exact hbs)
    subst hy3
    have hsame : (k3, b3', v3) = (.i kk, b, .int .i64 a0) := stamps_eq hsa p1 hy1 (by dsimp only; rw [hb3, hm3])
    simp only [Prod.mk.injEq] at hsame
    obtain ⟨rfl, _, rfl⟩ := hsame
    have hkey2 : e2.key = .int .i64 kk := by
      obtain ⟨key, val, born⟩ := e2
      cases key <;> simp [KeyV] at q2
      rw [q2.1, q2.2]
    have hval2 : e2.val = .int .i64 a0 := int64_of q4
    have he30' : a2.eval (.tmp 30) = .pointer (some ⟨r, 0, none⟩) := raw_of (b2.rel.get 30)
    have hrun2 := run_entry_at (P := Tryz.prog) w2 r ba ca seen es2 ca e2 (by rw [heb, ← hm3]; exact hit2) hbm2 he2 hmr2.stamped.2.1
    refine wpList_head d9.2.1 (entryRun he30' hrun2) ?_
    have hA3 : SRel κ2 52 ((Ef qa qb r kk a0).set 33 (.tup [.int .i64 kk, .int .i64 a0])) (a2.put (nthO (o9 Tryz.prog) 0).dst (.tuple #[e2.key, e2.val])) := by
      rw [hkey2, hval2]
      exact put_set b2 d9.2.2.1 rfl (.tup [.int .i64 kk, .int .i64 a0] [.int .i64 kk, .int .i64 a0] (.int _ _ (.int _ _ .nil)) .nil)
    refine (list9 qa qb r kk a0 _).2 κ2 _ w2 _ hA3 b3 fun κ3 a3 w3 c1 c2 c3 c4 => ?_
    obtain ⟨hsome, hstep⟩ := turned_step (f := joinF lb) (seen := seen.toList) hka hsa hy1 hbs
    obtain ⟨E', hless, hrest⟩ := rest18_ok qa qb r kk a0 next next _ (Nat.le_refl _) (hfa _) (hfb _) hsome hib
    refine wp_mono (hrest κ3 a3 w3 (c2.less (less9 qa qb r kk a0)) c3) fun ex a4 w4 hq => ?_
    obtain ⟨rfl, κ4, d1, d2, d3, d4⟩ := hq
    refine .inr ⟨rfl, seen.push e.born, κ4, ?_, ?_⟩
    · have : unseen (seen.push e.born).toList la = unseen (b :: seen.toList) la := by
        unfold unseen
        congr 1
        refine List.filter_congr fun x _ => ?_
        rw [Array.toList_push, hm3, decide_eq_decide]
        exact not_congr push_mem
      rw [this]
      exact unseen_step hy1 hbs
    · have hturn : turned (joinF lb) (seen.push e.born).toList la = turned (joinF lb) (b :: seen.toList) la := turned_congr (fun x => by rw [Array.toList_push, hm3]; exact push_mem) la
      have hfind : ∀ l1 l2 : Ents3, find ((qa, Row.map (some .i64) l1 ca) :: m) = find ((qa, Row.map (some .i64) l1 ca) :: (qa, Row.map (some .i64) l2 ca) :: m) := fun l1 l2 => funext fun x => by
        simp only [find]
        cases Nat.beq qa x <;> rfl
      have hno2 : ¬ owned κ2 (find ((qa, .map (some .i64) (turned (joinF lb) seen.toList la) ca) :: m)) r := by
        rintro ⟨n, row, g1, _, g3⟩
        exact b3.mem.notIter hit2 n row g1 g3
      have hrlt2 : r < w2.heap.size := (Array.getElem?_eq_some_iff.1 hit2).1
      have hit3 : w3.heap[r]? = some (.mapIter (some ba) ca (seen.push e.born) ca) := by rw [c4.keep r hrlt2 hno2]; exact hit2
      have hno3 : ¬ owned κ3 (find ((qa, .map (some .i64) (turned (joinF lb) seen.toList la) ca) :: m)) r := by
        rintro ⟨n, row, g1, _, g3⟩
        exact c3.mem.notIter hit3 n row g1 g3
      have hrlt3 : r < w3.heap.size := (Array.getElem?_eq_some_iff.1 hit3).1
      have d3' : Rel κ4 ⟨next, (qa, .map (some .i64) (turned (joinF lb) (b :: seen.toList) la) ca) :: (qa, .map (some .i64) (turned (joinF lb) seen.toList la) ca) :: m⟩ w4 := by rw [hstep]; exact d3
      have d4' : Fr κ3 (find ((qa, .map (some .i64) (turned (joinF lb) seen.toList la) ca) :: m)) w3 κ4 (find ((qa, .map (some .i64) (turned (joinF lb) (b :: seen.toList) la) ca) :: (qa, .map (some .i64) (turned (joinF lb) seen.toList la) ca) :: m)) w4 := by rw [hstep]; exact d4
      refine ⟨?_, d2.less hless, ?_, ?_, ?_, ?_, Nat.le_refl _, h.old⟩
      · exact Kap.leN_trans (Nat.le_refl _) (Kap.leN_trans (Nat.le_refl _) (Kap.leN_trans (Nat.le_refl _) h.leN (b1.mono hnb)) (c1.mono hnb)) (d1.mono hnb)
      · rw [hturn]; exact d3'.find (hfind _ _)
      · rw [hturn, hfind _ (turned (joinF lb) seen.toList la)]; exact ((hF1.trans b4).trans c4).trans d4'
      · rw [d1.loc qa hqn, c1.loc qa hqn]; exact hloc2
      · rw [d4.keep r hrlt3 hno3]; exact hit3
end
end Go.Sv
namespace Go.Sv
noncomputable section
open Go.RowKit Go.Proofs

theorem Ents.to_mem2 {κ : Kap} {kk : Option IntKind} : ∀ {l : Ents3} {es : List MapEntry}, Ents κ kk l es → ∀ {k b v}, (k, b, v) ∈ l → ∃ e ∈ es, e.born = b ∧ KeyV kk k e.key
  | [], [], _, _, _, _, he => by cases he
  | (k, b, v) :: l, x :: es, h, _, _, _, he => by
    rcases List.mem_cons.1 he with e | he
    · simp only [Prod.mk.injEq] at e
      obtain ⟨rfl, rfl, rfl⟩ := e
      exact ⟨x, List.mem_cons_self .., h.1.1.2, h.1.1.1⟩
    · obtain ⟨e, h1, h2⟩ := Ents.to_mem2 h.2 he
      exact ⟨e, List.mem_cons_of_mem _ h1, h2⟩
  | [], _ :: _, h, _, _, _, _ => h.elim
  | _ :: _, [], h, _, _, _, _ => h.elim
theorem ents_apart {κ : Kap} {kk : Option IntKind} : ∀ {l : Ents3} {es : List MapEntry}, Ents κ kk l es → (es.map (·.born)).Nodup → (es.map (·.key)).Nodup → StampsApart l ∧ KeysApart l
  | [], [], _, _, _ => ⟨.nil, .nil⟩
  | (k, b, v) :: l, x :: es, h, hb, hk => by
    simp only [List.map_cons, List.nodup_cons] at hb hk
    obtain ⟨i1, i2⟩ := ents_apart h.2 hb.2 hk.2
    refine ⟨List.pairwise_cons.2 ⟨fun y hy e => ?_, i1⟩, List.pairwise_cons.2 ⟨fun y hy e => ?_, i2⟩⟩
    · obtain ⟨k', b', v'⟩ := y
      obtain ⟨z, hz, hz1, _⟩ := Ents.to_mem2 h.2 hy
      exact hb.1 (List.mem_map.2 ⟨z, hz, by rw [hz1, h.1.1.2]; exact e.symm⟩)
    · obtain ⟨k', b', v'⟩ := y
      obtain ⟨z, hz, _, hz2⟩ := Ents.to_mem2 h.2 hy
      dsimp only at e
      subst e
      exact hk.1 (List.mem_map.2 ⟨z, hz, (keyV_iff hz2 h.1.1.1).1 (keyEq_refl _)⟩)
  | [], _ :: _, h, _, _ => h.elim
  | _ :: _, [], h, _, _ => h.elim

theorem loop18 {κ0 : Kap} {M0 : Mem} {w0 : World} {nb next : Nat} {m : List (Nat × Row)} {qa qb r ba ca : Nat} {la lb : Ents3} {cb : Nat} {Q : Exit → Act → World → Prop}
    (hnb : nb ≤ next) (hne : qa ≠ qb) (hqb : find m qb = some (.map (some .i64) lb cb)) (hia : intsOk la = true) (hib : intsOk lb = true) (hka : KeysApart la) (hsa : StampsApart la)
    (hQ : ∀ a w, JEnd κ0 M0 w0 nb next m qa qb r ca la (joinF lb) a w → Q (.exit 0) a w) :
    ∀ (n c0 : Nat) (seen : Array Nat) (κ : Kap) (a : Act) (w : World), JInv κ0 M0 w0 nb next m qa qb r ba ca c0 la (joinF lb) seen κ a w → unseen seen.toList la ≤ n → Code.rounds Tryz.prog (body18 Tryz.prog) Q (n + 1) a w
  | n, c0, seen, κ, a, w, h, hn => by
    rw [rounds_succ]
    refine wp_mono (round18 hnb hne hqb hia hib hka hsa h) fun e a' w' hq => ?_
    rcases hq with ⟨rfl, hend⟩ | ⟨rfl, seen', κ', hlt, hinv⟩
    · exact hQ _ _ hend
    · cases n with
      | zero => omega
      | succ n => exact loop18 hnb hne hqb hia hib hka hsa hQ n ca seen' κ' a' w' hinv (by omega)
def E18 (qa qb : Nat) : Env := ((Env.mk 6).set 6 (.mp qa)).set 8 (.mp qb)
theorem d7 : (nthO (o7 Tryz.prog) 0).op = .move (.tmp 6) ∧ (nthO (o7 Tryz.prog) 0).guard = none ∧ (nthO (o7 Tryz.prog) 0).dst = some 29 ∧ (nthO (o7 Tryz.prog) 1).guard = none ∧ (nthO (o7 Tryz.prog) 1).dst = some 30 := ⟨by kernel_rfl, by kernel_rfl, by kernel_rfl, by kernel_rfl, by kernel_rfl⟩
theorem less18 {qa qb : Nat} {E : Env} (h6 : E.get 6 = .mp qa) (h8 : E.get 8 = .mp qb) : Less (E18 qa qb) E := fun t => by
  unfold E18
  by_cases e8 : t = 8
  · subst e8; rw [h8]; exact Env.get_set_same _ _ _
  · rw [Env.get_set_ne e8]
    by_cases e6 : t = 6
    · subst e6; rw [h6]; exact Env.get_set_same _ _ _
    · rw [Env.get_set_ne e6, Env.get_mk]; exact .inr rfl
theorem moveRun {a : Act} {w : World} {v : Value} (he : a.eval (.tmp 6) = v) : (execOp a.eval (nthO (o7 Tryz.prog) 0)).run Tryz.prog w = .ok (.value v) w := by
  simp only [execOp, d7.1, he]; rfl
theorem rangeRun {a : Act} {w : World} {ba ca : Nat} {es : Array MapEntry} (he : a.eval (.tmp 29) = .map (some ba)) (hb : w.heap[ba]? = some (.map es ca)) : (execOp a.eval (nthO (o7 Tryz.prog) 1)).run Tryz.prog w = .ok (.value (.pointer (some ⟨w.heap.size, 0, none⟩))) (w.alloc (.mapIter (some ba) ca #[] ca)) := by
  simp only [execOp, o71, he]
  refine run_value ?_
  simp [Instr.range, Go.run_underlying (mapTy_ok ty96).1, MapKept.run_getObj_map hb, Result.andThen]
set_option maxRecDepth 100000 in
theorem seq18 {nb next : Nat} {m m' : List (Nat × Row)} {qa qb ca cb : Nat} {la lb : Ents3} {E : Env} (hnb : nb ≤ next) (h6 : E.get 6 = .mp qa) (h8 : E.get 8 = .mp qb) (hne : qa ≠ qb) (hqa : find m qa = some (.map (some .i64) la ca)) (hqb : find m qb = some (.map (some .i64) lb cb)) (hia : intsOk la = true) (hib : intsOk lb = true)
    (hm' : find m' = find ((qa, .map (some .i64) (turned (joinF lb) (la.map fun x => x.2.1) la) ca) :: m)) :
    CodeOk Tryz.prog nb 52 (.seq (x18 Tryz.prog) (.block 0 (b18 Tryz.prog))) E ⟨next, m⟩ .normal (E18 qa qb) ⟨next, m'⟩ := by
  intro κ a w hA hR
  have hA0 := hA.less (less18 h6 h8)
  have hp := hA0.rel.get 6
  have hget6 : (E18 qa qb).get 6 = .mp qa := by kernel_rfl
  rw [hget6] at hp
  obtain ⟨ba, hea, hloc⟩ : ∃ ba, a.eval (.tmp 6) = .map (some ba) ∧ κ.loc qa = some (some ba) := by
    have hp' : VRel κ (.mp qa) (a.eval (.tmp 6)) := hp
    generalize a.eval (.tmp 6) = u at hp'
    cases hp' with
    | mp _ b h1 _ => exact ⟨b, rfl, h1⟩
  obtain ⟨es, hbm, hmr⟩ := map_block hR.mem hqa hloc
  obtain ⟨hsa, hka⟩ := ents_apart hmr.ent hmr.stamped.2.1 hmr.stamped.2.2
  rw [x18_eq, b18_body]
  refine wp_seq (wp_region_list ?_)
  rw [o7_eq]
  refine wpList_head d7.2.1 (moveRun hea) ?_
  have hA1 : SRel κ 52 ((E18 qa qb).set 29 (.mp qa)) (a.put (nthO (o7 Tryz.prog) 0).dst (.map (some ba))) := put_set hA0 d7.2.2.1 rfl (.mp _ ba hloc .nil)
  have he29 : (a.put (nthO (o7 Tryz.prog) 0).dst (.map (some ba))).eval (.tmp 29) = .map (some ba) := by
    have h1 := hA1.rel.get 29
    have hget : ((E18 qa qb).set 29 (.mp qa)).get 29 = .mp qa := by kernel_rfl
    rw [hget] at h1
    have h1 : VRel κ (.mp qa) ((a.put (nthO (o7 Tryz.prog) 0).dst (.map (some ba))).eval (.tmp 29)) := h1
    generalize (a.put (nthO (o7 Tryz.prog) 0).dst (.map (some ba))).eval (.tmp 29) = u at h1
    cases h1 with
    | mp _ b h2 _ => rw [hloc] at h2; cases h2; rfl
  refine wpList_head d7.2.2.2.1 (rangeRun he29 hbm) ?_
  obtain ⟨hle, hR1, hF1⟩ := hR.mem.more (.mapIter (some ba) ca #[] ca) 0
  have hA2 : SRel (κ.blk w.heap.size 0) 52 (((E18 qa qb).set 29 (.mp qa)).set 30 (.raw (.pointer (some ⟨w.heap.size, 0, none⟩)))) ((a.put (nthO (o7 Tryz.prog) 0).dst (.map (some ba))).put (nthO (o7 Tryz.prog) 1).dst (.pointer (some ⟨w.heap.size, 0, none⟩))) :=
    put_set (hA1.mono hle) d7.2.2.2.2 rfl (.raw _ .nil)
  have hfind : find ((qa, Row.map (some .i64) (turned (joinF lb) [] la) ca) :: m) = find m := funext fun x => by
    simp only [find, turned_nil]
    cases hb : Nat.beq qa x with
    | false => rfl
    | true =>
      have := Nat.eq_of_beq_eq_true hb
      subst this
      rw [cond_true, hqa]
  show (Code.block 0 (.loop (body18 Tryz.prog))).wp _ _ _ _
  refine wp_block (wp_loop_rounds (unseen [] la + 1) ?_)
  refine loop18 (κ0 := κ) (M0 := find m) (w0 := w) (nb := nb) (next := next) (m := m) (qa := qa) (qb := qb) (r := w.heap.size) (ba := ba) (ca := ca) (la := la) (lb := lb) (cb := cb) hnb hne hqb hia hib hka hsa (fun a' w' hend => ?_) (unseen [] la) ca #[] (κ.blk w.heap.size 0) _ _ ⟨⟨fun _ _ => rfl, hle.st, hle.gh, hle.sz⟩, hA2.less (less_of (by kernel_rfl)), ⟨hR.fresh, ?_⟩, ?_, hloc, ?_, Nat.le_refl _, Nat.le_refl _⟩ (Nat.le_refl _)
  · show Exit.inBlock 0 _ (.exit 0) a' w'
    simp only [Exit.inBlock, if_true]
    obtain ⟨κ', e1, e2, e3, e4⟩ := hend
    exact ⟨rfl, κ', e1, e2.less (less18 (by kernel_rfl) (by kernel_rfl)), e3.find hm', by show Fr κ (find m) w κ' (find m') w'; rw [hm']; exact e4⟩
  · show MRel _ (find ((qa, Row.map (some .i64) (turned (joinF lb) [] la) ca) :: m)) _
    rw [hfind]; exact hR1
  · show Fr _ _ _ _ (find ((qa, Row.map (some .i64) (turned (joinF lb) [] la) ca) :: m)) _
    rw [hfind]; exact hF1
  · exact alloc_new
end
end Go.Sv
namespace Go.Sv
noncomputable section
open Go.RowKit Go.Proofs

def allK {R : Type} (lb : Ents3) : Ents3 → (Ents3 → Option R) → Option R
  | [], k => k []
  | (kk, b, v) :: l, k => lookK lb kk (fun v' =>
      match v, v' with
      | .int q a, .int _ b' => allK lb l fun l' => k ((kk, b, .int q (bif decide (b' < a) then b' else a)) :: l')
      | _, _ => none) (allK lb l k)
theorem allK_ok {R : Type} {lb : Ents3} {r : R} {S : List Nat} : ∀ (la : Ents3) (k : Ents3 → Option R), (∀ x ∈ la, x.2.1 ∈ S) → allK lb la k = some r → k (turned (joinF lb) S la) = some r
  | [], k, _, h => h
  | (kk, b, v) :: l, k, hs, h => by
    have hb : b ∈ S := hs _ (List.mem_cons_self ..)
    have hs' : ∀ x ∈ l, x.2.1 ∈ S := fun x hx => hs x (List.mem_cons_of_mem _ hx)
    simp only [allK, lookK_eq] at h
    simp only [turned, if_pos hb]
    cases hg : mapGet lb kk with
    | none =>
      rw [hg] at h
      have : joinF lb kk v = none := by simp only [joinF, hg]
      rw [this]
      exact allK_ok l k hs' h
    | some v' =>
      rw [hg] at h
      dsimp only at h
      split at h
      · rename_i q a q' b'
        have : joinF lb kk (.int q a) = some (.int q (bif decide (b' < a) then b' else a)) := by simp only [joinF, hg]
        rw [this]
        exact allK_ok l _ hs' h
      · cases h
def L18 : LT := fun _ g id E st => bif Nat.beq g 252 && Nat.beq id 1 then
    match E.get 6 with
    | .mp qa => match E.get 8 with
      | .mp qb => match find st.mem qa with
        | some (.map (some .i64) la ca) => match find st.mem qb with
          | some (.map (some .i64) lb _) => some fun k => bif !(Nat.beq qa qb) && (intsOk la && intsOk lb) then
              allK lb la fun l' => setRowK st.mem qa (some (.map (some .i64) l' ca)) fun m' => k .normal (E18 qa qb) ⟨st.next, m'⟩ else none
          | _ => none
        | _ => none
      | _ => none
    | _ => none
  else none
set_option maxRecDepth 100000 in
theorem L18_ok : LOk Tryz.prog L18 := by
  refine ⟨fun R g id E st F h => ?_, fun R g id E st F h x body hmem nb hnb k r hF => ?_⟩
  · unfold L18 at h
    obtain ⟨hb, _⟩ := cond_some h
    simp only [Bool.and_eq_true] at hb
    have := Nat.eq_of_beq_eq_true hb.2
    omega
  · unfold L18 at h
    obtain ⟨hb, h1⟩ := cond_some h
    simp only [Bool.and_eq_true] at hb
    have hg := Nat.eq_of_beq_eq_true hb.1
    have hid := Nat.eq_of_beq_eq_true hb.2
    have hid0 : id = 0 := by omega
    subst hg; subst hid0
    have hmem' : (0, x, body) ∈ q18 Tryz.prog := hmem
    rw [q18_eq] at hmem'
    have hxb : x = x18 Tryz.prog ∧ body = b18 Tryz.prog := by
      rcases List.mem_cons.1 hmem' with e | e
      · simp only [Prod.mk.injEq, true_and] at e; exact e
      · rcases List.mem_cons.1 e with e | e
        · simp at e
        · cases e
    obtain ⟨rfl, rfl⟩ := hxb
    split at h1
    · rename_i qa h6
      split at h1
      · rename_i qb h8
        split at h1
        · rename_i la ca hqa
          split at h1
          · rename_i lb cb hqb
            simp only [Option.some.injEq] at h1
            subst h1
            obtain ⟨hc, hF1⟩ := cond_some hF
            simp only [Bool.and_eq_true, Bool.not_eq_true'] at hc
            have hne : qa ≠ qb := fun e => by subst e; simp at hc
            have hF2 := allK_ok (S := la.map fun x => x.2.1) la _ (fun x hx => List.mem_map.2 ⟨x, hx, rfl⟩) hF1
            obtain ⟨m', hk, hm'⟩ := setRowK_some _ _ _ _ hF2
            refine ⟨.normal, E18 qa qb, ⟨st.next, m'⟩, hk, Nat.le_refl _, ?_⟩
            rw [sz18]
            refine seq18 hnb h6 h8 hne hqa hqb hc.2.1 hc.2.2 (funext fun x => ?_)
            rw [hm']
            simp only [find, Mem.set]
            by_cases e : x = qa
            · subst e; simp
            · rw [if_neg e, beq_false (Ne.symm e)]; rfl
          · cases h1
        · cases h1
      · cases h1
    · cases h1
def KA : KT := fun _ g vs st => bif Nat.beq g 262 then K103 vs st else none
theorem KA_ok : KOk Tryz.prog KA := fun R g vs st F h k r hF => by
  unfold KA at h
  obtain ⟨hb, h1⟩ := cond_some h
  have := Nat.eq_of_beq_eq_true hb
  subst this
  exact K103_ok h1 hF
end
end Go.Sv
