/- The contract of 'slices.Sorted(maps.Keys(b))' as the second evaluator takes it. -/
import Derived.Test.YtojoepocppnccaaGreatSvKeys
namespace Go.Sv
noncomputable section
open Go.RowKit Go.Proofs

/-! ### sorted lists of numbers -/
def insZ (x : Int) : List Int → List Int
  | [] => [x]
  | y :: ys => bif decide (x ≤ y) then x :: y :: ys else y :: insZ x ys
def sortZ : List Int → List Int
  | [] => []
  | x :: xs => insZ x (sortZ xs)
theorem insZ_perm (x : Int) : ∀ l : List Int, (insZ x l).Perm (x :: l)
  | [] => .refl _
  | y :: ys => by
    simp only [insZ]
    cases decide (x ≤ y)
    · exact ((insZ_perm x ys).cons y).trans (.swap x y ys)
    · exact .refl _
theorem sortZ_perm : ∀ l : List Int, (sortZ l).Perm l
  | [] => .refl _
  | x :: xs => (insZ_perm x _).trans ((sortZ_perm xs).cons x)
theorem insZ_sorted (x : Int) : ∀ l : List Int, l.Pairwise (· ≤ ·) → (insZ x l).Pairwise (· ≤ ·)
  | [], _ => List.pairwise_singleton _ _
  | y :: ys, h => by
    simp only [insZ]
    cases hd : decide (x ≤ y) with
    | true =>
      have := of_decide_eq_true hd
      refine List.pairwise_cons.2 ⟨fun z hz => ?_, h⟩
      rcases List.mem_cons.1 hz with rfl | hz
      · exact this
      · exact Int.le_trans this ((List.pairwise_cons.1 h).1 z hz)
    | false =>
      have hxy := of_decide_eq_false hd
      refine List.pairwise_cons.2 ⟨fun z hz => ?_, insZ_sorted x ys (List.pairwise_cons.1 h).2⟩
      rcases List.mem_cons.1 ((insZ_perm x ys).mem_iff.1 hz) with rfl | hz
      · omega
      · exact (List.pairwise_cons.1 h).1 z hz
theorem sortZ_sorted : ∀ l : List Int, (sortZ l).Pairwise (· ≤ ·)
  | [] => .nil
  | x :: xs => insZ_sorted x _ (sortZ_sorted xs)
theorem sortZ_eq (l : List Int) : l.mergeSort leI = sortZ l := by
  have tr : ∀ a b c : Int, leI a b = true → leI b c = true → leI a c = true := fun a b c h1 h2 => by simp only [leI, decide_eq_true_eq] at *; exact Int.le_trans h1 h2
  have to : ∀ a b : Int, (leI a b || leI b a) = true := fun a b => by simp only [leI, Bool.or_eq_true, decide_eq_true_eq]; exact Int.le_total a b
  refine List.Perm.eq_of_pairwise (le := fun a b => a ≤ b) (fun a b _ _ h1 h2 => Int.le_antisymm h1 h2) ?_ (sortZ_sorted l) ((List.mergeSort_perm l leI).trans (sortZ_perm l).symm)
  exact (List.pairwise_mergeSort tr to l).imp fun h => by simpa [leI] using h
theorem length_sortZ (l : List Int) : (sortZ l).length = l.length := (sortZ_perm l).length_eq

/-! ### the keys of a map's entries -/
def inZ (n : Int) : Bool := decide (-9223372036854775808 ≤ n) && decide (n ≤ 9223372036854775807)
def keysK {R : Type} : List (Key × Nat × AV) → (List Int → Option R) → Option R
  | [], k => k []
  | (.i n, _, _) :: l, k => bif inZ n then keysK l fun ks => k (n :: ks) else none
  | _, _ => none
theorem keysK_ok {R : Type} {r : R} : ∀ (l : List (Key × Nat × AV)) (k : List Int → Option R), keysK l k = some r → ∃ ks, k ks = some r ∧ ks.length = l.length ∧ (∀ x ∈ ks, (Lit.int .i64 x).wf = true) ∧
    ∀ κ es, Ents κ (some .i64) l es → es.map (·.key) = ks.map encZ
  | [], k, h => ⟨[], h, rfl, by simp, fun κ es he => by cases es <;> simp [Ents] at he ⊢⟩
  | (.i n, b, v) :: l, k, h => by
    simp only [keysK] at h
    obtain ⟨hn, h1⟩ := cond_some h
    obtain ⟨ks, h2, h3, h4, h5⟩ := keysK_ok l _ h1
    refine ⟨n :: ks, h2, by simp [h3], fun x hx => ?_, fun κ es he => ?_⟩
    · rcases List.mem_cons.1 hx with rfl | hx
      · simp only [inZ, Bool.and_eq_true, decide_eq_true_eq] at hn
        simp [Lit.wf, IntKind.min, IntKind.max, IntKind.signed, IntKind.bits]
        omega
      · exact h4 x hx
    · cases es with
      | nil => exact he.elim
      | cons e es =>
        have hk := he.1.1.1
        simp only [List.map_cons, h5 κ es he.2, List.cons.injEq, and_true]
        obtain ⟨key, val, born⟩ := e
        cases key <;> simp [KeyV] at hk
        rw [hk.1, hk.2]
  | (.s _, _, _) :: l, k, h => by simp [keysK] at h
def nthZ (l : List Int) (i : Nat) : Int := l.getD i 0

/-- The call, for any list of keys. -/
theorem sorted_core {κ : Kap} {M : Mem} {w : World} {next b bm clock : Nat} {es : Array MapEntry} {ks : List Int} (hR : MRel κ M w) (hnext : κ.loc next = none) (hcell : w.cell? ⟨b, 0, none⟩ = some (.map (some bm))) (m2 : w.heap[bm]? = some (.map es clock)) (hst : MapKept.Stamped es clock)
    (hkeys : es.toList.map (·.key) = ks.map encZ) (hwf : ∀ x ∈ ks, (Lit.int .i64 x).wf = true) (hle : ks.length * 8 ≤ 140737488355328) : Calls Tryz.prog 262 #[.func (.func 285) #[] #[.pointer (some ⟨b, 0, none⟩)]] w fun en w' => ∃ κ' v', κ.le κ' ∧ (∀ m, m < next ∨ next + 1 ≤ m → κ'.loc m = κ.loc m) ∧ en = .returned v' ∧
      VRel κ' (.slc next [] 0 0 1 ks.length ks.length) v' ∧ MRel κ' (M.set next (some (.cells [.arr 1 ks.length (fun i => [.int .i64 (nthZ (sortZ ks) i)]) []] true true))) w' ∧ Fr κ M w κ' (M.set next (some (.cells [.arr 1 ks.length (fun i => [.int .i64 (nthZ (sortZ ks) i)]) []] true true))) w' := by
  refine (Tryz.sortedKeys b bm w es clock ks hcell m2 hst hkeys hwf hle).mono fun en w' he => ?_
  obtain ⟨v, rfl, hrow, hbl⟩ := he
  rw [sortZ_eq] at hrow
  have harr : CRel κ [.arr 1 ks.length (fun i => [.int .i64 (nthZ (sortZ ks) i)]) []] ((sortZ ks).map encZ) := by
    refine arr_parts.2 ⟨by simp [length_sortZ], fun z hz => ?_, fun i hi => rfl, fun i hi => ?_⟩
    · obtain ⟨x, _, rfl⟩ := List.mem_map.1 hz; rfl
    · have hi' : i < ((sortZ ks).map encZ).length := by simp [length_sortZ, hi]
      rw [Nat.mul_one, List.drop_eq_getElem_cons hi', List.take_succ_cons, List.take_zero]
      have : ((sortZ ks).map encZ)[i] = .int .i64 (nthZ (sortZ ks) i) := by
        simp only [List.length_map] at hi'
        simp [nthZ, List.getD, List.getElem?_eq_getElem hi']
      rw [this]
      exact .int _ _ .nil
  rcases hrow.2 with ⟨rfl, hz⟩ | ⟨g, cap, cur, rfl, hbase, hgb, r1, r2, r3, r4⟩
  · have hks : ks = [] := List.eq_nil_of_length_eq_zero hz
    subst hks
    obtain ⟨a1, a2, a3⟩ := hR.given0 hbl hnext (n := next) harr
    exact ⟨_, _, a1, fun m hm => Kap.at_ne (by omega), rfl, .slc0 _ 0 0 1 [] Kap.at_same .nil, a2, a3⟩
  · have hcur : cur = (((sortZ ks).map encZ) ++ cur.toList.drop ks.length).toArray := by
      rw [Nat.mul_one] at r4
      rw [← r4, List.take_append_drop]
    have hrest : (((sortZ ks).map encZ) ++ cur.toList.drop ks.length).length = cap := by
      have h1 := congrArg Array.size hcur
      have h2 : (((sortZ ks).map encZ) ++ cur.toList.drop ks.length).toArray.size = (((sortZ ks).map encZ) ++ cur.toList.drop ks.length).length := List.size_toArray
      omega
    obtain ⟨a1, a2, a3⟩ := hR.given hbl hnext hbase (rest := cur.toList.drop ks.length) (e := 3) (by rw [← hcur]; exact hgb) harr
    refine ⟨_, _, a1, fun m hm => Kap.at_ne (by omega), rfl, ?_, a2, a3⟩
    refine .slc _ [] 0 0 1 _ _ g cap _ Kap.at_same (.inr ⟨by simp [plen], cap, ?_, by simp [plen]⟩) (by omega) (by omega) .nil
    simp only [Kap.new, Kap.at, Kap.blk, if_true, Option.some.injEq]
    exact hrest
def allZ (xs : List (Int × Int)) : Bool := xs.all fun x => inZ x.1
theorem pt_keys {xs : List (Int × Int)} : ∀ {l : List (Key × Nat × AV)}, PT xs l → ∀ κ es, Ents κ (some .i64) l es → es.map (·.key) = (xs.map (·.1)).map encZ := by
  induction xs with
  | nil =>
    intro l h κ es he
    have : l = [] := by
      cases l with
      | nil => rfl
      | cons e l => simp [PT] at h
    subst this
    cases es with
    | nil => rfl
    | cons _ _ => exact he.elim
  | cons x r ih =>
    intro l h κ es he
    cases l with
    | nil => simp [PT] at h
    | cons e l =>
      obtain ⟨x', r', hx, he', hr⟩ := pt_cons h
      simp only [List.cons.injEq] at hx
      obtain ⟨rfl, rfl⟩ := hx
      rw [he'] at he
      cases es with
      | nil => exact he.elim
      | cons e2 es =>
        have hk := he.1.1.1
        simp only [List.map_cons, ih hr κ es he.2, List.cons.injEq, and_true]
        obtain ⟨key, val, born⟩ := e2
        cases key <;> simp [KeyV] at hk
        rw [hk.1, hk.2]

def K103 {R : Type} (vs : List AV) (st : AS) : Option ((Ent → Option R) → Option R) :=
  match vs with
  | [.fn h [] [.ptr n [] o]] => bif Nat.beq h 285 && Nat.beq o 0 then
      match find st.mem n with
      | some (.cells (.mp q :: _) _ _) => match find st.mem q with
        | some (.map (some .i64) l _) => some fun k => bif Nat.ble (l.length * 8) LIM then keysK l fun ks =>
            k ⟨.slc st.next [] 0 0 1 ks.length ks.length, [(st.next, some (.cells [.arr 1 ks.length (fun i => [.int .i64 (nthZ (sortZ ks) i)]) []] true true))], 1, [n, q]⟩ else none
        | some (.ptab xs) => some fun k => bif Nat.ble (xs.length * 8) LIM && allZ xs then
            k ⟨.slc st.next [] 0 0 1 (xs.map (·.1)).length (xs.map (·.1)).length, [(st.next, some (.cells [.arr 1 (xs.map (·.1)).length (fun i => [.int .i64 (nthZ (sortZ (xs.map (·.1))) i)]) []] true true))], 1, [n, q]⟩ else none
        | _ => none
      | _ => none
    else none
  | _ => none
theorem K103_ok {R : Type} {vs : List AV} {st : AS} {F : (Ent → Option R) → Option R} (h : K103 vs st = some F) {k : Ent → Option R} {r : R} (hk : F k = some r) : ∃ e, k e = some r ∧ CallEnt Tryz.prog 262 vs st.next (find st.mem) e := by
  unfold K103 at h
  split at h
  · rename_i hh n o
    obtain ⟨hb, h1⟩ := cond_some h
    simp only [Bool.and_eq_true] at hb
    have e1 := Nat.eq_of_beq_eq_true hb.1
    have e2 := Nat.eq_of_beq_eq_true hb.2
    subst e1; subst e2
    split at h1
    · rename_i q cs own tip hf
      have key : ∀ (ks : List Int), ks.length * 8 ≤ 140737488355328 → (∀ x ∈ ks, (Lit.int .i64 x).wf = true) → (∀ (κ : Kap) (w : World) (M : Mem) (bm : Nat), MRel κ M w → M q = find st.mem q → κ.loc q = some (some bm) → ∃ es clock, w.heap[bm]? = some (.map es clock) ∧ MapKept.Stamped es clock ∧ es.toList.map (·.key) = ks.map encZ) →
          CallEnt Tryz.prog 262 [.fn 285 [] [.ptr n [] 0]] st.next (find st.mem) ⟨.slc st.next [] 0 0 1 ks.length ks.length, [(st.next, some (.cells [.arr 1 ks.length (fun i => [.int .i64 (nthZ (sortZ ks) i)]) []] true true))], 1, [n, q]⟩ := by
        intro ks hle hwf hmap κ us w M hl hR hrd hfr
        have hMn : M n = some (.cells (.mp q :: cs) own tip) := (hrd n (by simp)).trans hf
        have hnext : κ.loc st.next = none := hfr st.next (Nat.le_refl _) (by simp)
        cases hl with
        | fn _ _ _ xs ys h2 h3 h4 =>
          cases h4; cases h2
          cases h3 with
          | ptr _ p _ b _ g1 g2 g3 =>
            cases g3
            simp only [plen] at g2
            subst g2
            rcases hR.row n _ hMn with ⟨q1, _⟩ | ⟨b', zs, rest, e, fr, q1, q2, q3, _⟩
            · rw [g1] at q1; cases q1
            · rw [g1] at q1; cases q1
              cases q3 with
              | mp _ bm m1 _ =>
                obtain ⟨es, clock, m2, m3, m4⟩ := hmap κ w M bm hR (hrd q (by simp)) m1
                have hcell : w.cell? ⟨b, 0, none⟩ = some (.map (some bm)) := by simp [World.cell?, q2]
                exact sorted_core hR hnext hcell m2 m3 m4 hwf hle
      split at h1
      · rename_i l clock hg
        simp only [Option.some.injEq] at h1
        subst h1
        obtain ⟨hsz, hk1⟩ := cond_some hk
        obtain ⟨ks, hk2, hlen, hwf, hkeys⟩ := keysK_ok l _ hk1
        refine ⟨_, hk2, key ks (by rw [hlen]; exact Nat.le_of_ble_eq_true hsz) hwf fun κ w M bm hR hq hb => ?_⟩
        obtain ⟨es, m2, m3⟩ := map_block hR (hq.trans hg) hb
        exact ⟨es, clock, m2, m3.stamped, hkeys κ _ m3.ent⟩
      · rename_i xs hg
        simp only [Option.some.injEq] at h1
        subst h1
        obtain ⟨hsz, hk1⟩ := cond_some hk
        simp only [Bool.and_eq_true] at hsz
        refine ⟨_, hk1, key (xs.map (·.1)) (by rw [List.length_map]; exact Nat.le_of_ble_eq_true hsz.1) (fun x hx => ?_) fun κ w M bm hR hq hb => ?_⟩
        · obtain ⟨y, hy, rfl⟩ := List.mem_map.1 hx
          have hn := List.all_eq_true.1 hsz.2 y hy
          simp only [inZ, Bool.and_eq_true, decide_eq_true_eq] at hn
          simp [Lit.wf, IntKind.min, IntKind.max, IntKind.signed, IntKind.bits]
          omega
        · obtain ⟨l, clock, es, h0, m2, m3⟩ := ptab_block hR (hq.trans hg) hb
          exact ⟨es, clock, m2, m3.stamped, pt_keys h0 κ _ m3.ent⟩
      · cases h1
    · cases h1
  · cases h
end
end Go.Sv
