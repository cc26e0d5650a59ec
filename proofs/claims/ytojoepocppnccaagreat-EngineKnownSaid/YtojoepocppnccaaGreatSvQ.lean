/- A second evaluator for the model's code: maps' entries as plain lists; operations on a map that is not written out. -/
import Derived.Test.YtojoepocppnccaaGreatSvP
namespace Go.Sv
noncomputable section
open Go.RowKit
variable {P : Program}

abbrev Ents3 := List (Key × Nat × AV)
def mapGet : Ents3 → Key → Option AV
  | [], _ => none
  | (k, _, v) :: l, K => if keyEq K k = true then some v else mapGet l K
def mapPut : Ents3 → Key → AV → Ents3
  | [], _, _ => []
  | (k, b, v) :: l, K, x => if keyEq K k = true then (K, b, x) :: l else (k, b, v) :: mapPut l K x
def mapDel : Ents3 → Key → Ents3
  | [], _ => []
  | (k, b, v) :: l, K => if keyEq K k = true then l else (k, b, v) :: mapDel l K
theorem lookK_eq {R : Type} {K : Key} {f : AV → Option R} {m : Option R} : ∀ l : Ents3, lookK l K f m = match mapGet l K with | some v => f v | none => m
  | [] => rfl
  | (k, b, v) :: l => by
    simp only [lookK, mapGet]
    cases keyEq K k
    · simp only [cond_false, Bool.false_eq_true, if_false]; exact lookK_eq l
    · simp
theorem putMapK_eq {R : Type} {c : Nat} {K : Key} {x : AV} : ∀ (l : Ents3) (f : Ents3 → Nat → Option R), (mapGet l K).isSome = true → putMapK l c K x f = f (mapPut l K x) c
  | [], f, h => by simp [mapGet] at h
  | (k, b, v) :: l, f, h => by
    simp only [putMapK, mapGet, mapPut] at h ⊢
    cases hk : keyEq K k
    · rw [hk] at h
      simp only [Bool.false_eq_true, if_false] at h
      simp only [cond_false, Bool.false_eq_true, if_false]
      exact putMapK_eq l _ h
    · simp
theorem delMapK_eq {R : Type} {K : Key} : ∀ (l : Ents3) (f : Ents3 → Option R), delMapK l K f = f (mapDel l K)
  | [], f => rfl
  | (k, b, v) :: l, f => by
    simp only [delMapK, mapDel]
    cases keyEq K k
    · simp only [cond_false, Bool.false_eq_true, if_false]; exact delMapK_eq l _
    · simp
theorem keyEq_refl : ∀ k : Key, keyEq k k = true
  | .i n => by simp [keyEq]
  | .s l => by simp [keyEq, bytesEq_iff]
theorem keyEq_iff {a b : Key} : keyEq a b = true ↔ a = b := by
  cases a <;> cases b <;> simp [keyEq, bytesEq_iff]

/-! ### a round of a range over a map that writes the entry at hand, or strikes it -/
/-- A map in which each entry that was met has been turned (or struck). -/
def turned (f : Key → AV → Option AV) (seen : List Nat) : Ents3 → Ents3
  | [] => []
  | (k, b, v) :: l => if b ∈ seen then (match f k v with | some v' => (k, b, v') :: turned f seen l | none => turned f seen l) else (k, b, v) :: turned f seen l
theorem turned_nil (f : Key → AV → Option AV) : ∀ l : Ents3, turned f [] l = l
  | [] => rfl
  | (k, b, v) :: l => by simp only [turned, List.not_mem_nil, if_false, turned_nil f l]
def KeysApart (l : Ents3) : Prop := l.Pairwise fun x y => x.1 ≠ y.1
def StampsApart (l : Ents3) : Prop := l.Pairwise fun x y => x.2.1 ≠ y.2.1
theorem turned_other {f : Key → AV → Option AV} {seen : List Nat} {b : Nat} : ∀ {l : Ents3}, (∀ x ∈ l, x.2.1 ≠ b) → turned f (b :: seen) l = turned f seen l
  | [], _ => rfl
  | (k, c, v) :: l, h => by
    have hc : c ≠ b := h _ (List.mem_cons_self ..)
    have ih := turned_other (f := f) (seen := seen) (b := b) (l := l) fun x hx => h x (List.mem_cons_of_mem _ hx)
    simp only [turned, List.mem_cons, hc, false_or, ih]
theorem turned_keys {f : Key → AV → Option AV} {seen : List Nat} : ∀ {l : Ents3} {x : Key × Nat × AV}, x ∈ turned f seen l → ∃ y ∈ l, y.1 = x.1 ∧ y.2.1 = x.2.1 ∧ (x.2.1 ∉ seen → y = x)
  | [], x, h => by cases h
  | (k, b, v) :: l, x, h => by
    simp only [turned] at h
    have rest : x ∈ turned f seen l → ∃ y ∈ (k, b, v) :: l, y.1 = x.1 ∧ y.2.1 = x.2.1 ∧ (x.2.1 ∉ seen → y = x) := fun h => by
      obtain ⟨y, h1, h2⟩ := turned_keys h
      exact ⟨y, List.mem_cons_of_mem _ h1, h2⟩
    split at h
    · rename_i hb
      split at h
      · rename_i v' hv
        rcases List.mem_cons.1 h with rfl | h
        · exact ⟨_, List.mem_cons_self .., rfl, rfl, fun hn => absurd hb hn⟩
        · exact rest h
      · exact rest h
    · rcases List.mem_cons.1 h with rfl | h
      · exact ⟨_, List.mem_cons_self .., rfl, rfl, fun _ => rfl⟩
      · exact rest h
/-- One entry more has been met. -/
theorem turned_step {f : Key → AV → Option AV} {seen : List Nat} {k : Key} {b : Nat} {v : AV} : ∀ {l : Ents3}, KeysApart l → StampsApart l → (k, b, v) ∈ l → b ∉ seen →
    (mapGet (turned f seen l) k).isSome = true ∧ turned f (b :: seen) l = match f k v with | some v' => mapPut (turned f seen l) k v' | none => mapDel (turned f seen l) k
  | [], _, _, h, _ => by cases h
  | (k0, b0, v0) :: l, hk, hs, h, hb => by
    unfold KeysApart at hk
    unfold StampsApart at hs
    rw [List.pairwise_cons] at hk hs
    rcases List.mem_cons.1 h with e | h
    · simp only [Prod.mk.injEq] at e
      obtain ⟨rfl, rfl, rfl⟩ := e
      have ho : turned f (b :: seen) l = turned f seen l := turned_other fun x hx => (hs.1 x hx).symm
      simp only [turned, List.mem_cons, true_or, if_true, hb, if_false, ho, mapGet, keyEq_refl, Option.isSome_some, mapPut, mapDel, true_and]
    · have hbne : b0 ≠ b := hs.1 _ h
      have hkne : keyEq k k0 = false := by
        cases hq : keyEq k k0 with
        | false => rfl
        | true => exact absurd (keyEq_iff.1 hq).symm (hk.1 _ h)
      obtain ⟨i1, i2⟩ := turned_step (f := f) (seen := seen) (k := k) (b := b) (v := v) (l := l) hk.2 hs.2 h hb
      by_cases hm : b0 ∈ seen
      · simp only [turned, List.mem_cons, hbne, false_or, hm, if_true]
        cases hf0 : f k0 v0 with
        | none => simp only []; exact ⟨i1, i2⟩
        | some v' =>
          simp only [mapGet, hkne, Bool.false_eq_true, if_false, mapPut, mapDel]
          refine ⟨i1, ?_⟩
          rw [i2]
          cases f k v <;> rfl
      · simp only [turned, List.mem_cons, hbne, false_or, hm, if_false, mapGet, hkne, Bool.false_eq_true, mapPut, mapDel]
        refine ⟨i1, ?_⟩
        rw [i2]
        cases f k v <;> rfl

/-! ### operations on a map that is not written out -/
section
variable {t : TypeId} {x ix y : Operand} {E : Env} {m : List (Nat × Row)} {kk : Option IntKind} {key elem : TypeId} {iv : AV} {K : Key} {n : Nat} {l : Ents3} {clock : Nat}
theorem lookupE_of (h1 : mapTy P t = some (kk, key, elem)) (h2 : aeval E ix = some iv) (h3 : keyOf kk iv = some K) (h4 : aeval E x = some (.mp n)) (h5 : find m n = some (.map kk l clock)) {v : AV} (h6 : mapGet l K = some v) (h7 : isArr v = false) :
    lookupE P t x ix true E m some = some ⟨.tup [v, .bool true], [], 0, [n]⟩ := by
  simp only [lookupE, h1, h2, h3, h4, h5, decide_true, cond_true, lookK_eq, h6, foundK, h7, cond_false]
theorem lookupE_none (h1 : mapTy P t = some (kk, key, elem)) (h2 : aeval E ix = some iv) (h3 : keyOf kk iv = some K) (h4 : aeval E x = some (.mp n)) (h5 : find m n = some (.map kk l clock)) (h6 : mapGet l K = none) {z : AV} (h7 : zeroAV P elem = some z) (h8 : isArr z = false) :
    lookupE P t x ix true E m some = some ⟨.tup [z, .bool false], [], 0, [n]⟩ := by
  simp only [lookupE, h1, h2, h3, h4, h5, decide_true, cond_true, lookK_eq, h6, foundK, h7, h8, cond_false]
theorem mapUpdateE_of (h1 : mapTy P t = some (kk, key, elem)) (h2 : aeval E ix = some iv) (h3 : keyOf kk iv = some K) (h4 : aeval E x = some (.mp n)) (h5 : find m n = some (.map kk l clock)) {q : IntKind} {z : Int} (h6 : aeval E y = some (.int q z)) (h7 : (mapGet l K).isSome = true) :
    mapUpdateE P t x ix y E m some = some ⟨.raw undef, [(n, some (.map kk (mapPut l K (.int q z)) clock))], 0, [n]⟩ := by
  simp only [mapUpdateE, h1, h2, h3, h4, h5, h6, decide_true, cond_true, shedVK, shed1K, memB, cond_false, putMapK_eq l _ h7, frz, List.nil_append]
theorem deleteE_of (h1 : mapTy P t = some (kk, key, elem)) (h2 : aeval E ix = some iv) (h3 : keyOf kk iv = some K) (h4 : aeval E x = some (.mp n)) (h5 : find m n = some (.map kk l clock)) :
    deleteE P t x ix E m some = some ⟨.raw (.tuple #[]), [(n, some (.map kk (mapDel l K) clock))], 0, [n]⟩ := by
  simp only [deleteE, h1, h2, h3, h4, h5, decide_true, cond_true, delMapK_eq]
end
end
end Go.Sv
